/- Two automata side by side: the program's. -/
import Derived.Test.YtkkdpafkafjfgaaDoorAlPLwDoor
import Derived.Great.BuildSlice
import Derived.Deep.WholeRow
import Derived.Test.YtkkdpafkafjfgaaDoorAlGlW
import Derived.Test.YtkkdpafkafjfgaaDoorAlPAuH
import Derived.ChangeKeysEq
namespace Go.Proofs.YtkkdpafkafjfgaaDoor
open Go.RowKit RR
set_option linter.unusedVariables false
set_option maxRecDepth 100000
set_option linter.unusedSimpArgs false
section
variable {ops : Array Oper} {rest : List Oper} {o : Oper} {a : Act} {w : World} {Q : Exit → Act → World → Prop}
end
theorem pairs_le {n m : Nat} : ∀ {ks : List (Nat × Nat)}, ks.Nodup → (∀ x ∈ ks, x.1 < n ∧ x.2 < m) → ks.length ≤ n * m := fun {ks} h1 h2 => by
  have h3 : (ks.map fun x => x.1 * m + x.2).Nodup := by
    rw [List.nodup_iff_pairwise_ne, List.pairwise_map]
    rw [List.nodup_iff_pairwise_ne] at h1
    refine List.Pairwise.imp_of_mem ?_ h1
    intro x y hx hy hne e
    obtain ⟨a1, a2⟩ := pair_at (i := x.1) (h2 x hx).2
    obtain ⟨b1, b2⟩ := pair_at (i := y.1) (h2 y hy).2
    rw [e] at a1 a2
    exact hne (Prod.ext (a1.symm.trans b1) (a2.symm.trans b2))
  have := nodup_lt (n * m) h3 fun x hx => by
    obtain ⟨y, hy, rfl⟩ := List.mem_map.1 hx
    exact pair_lt (h2 y hy).1 (h2 y hy).2
  rwa [List.length_map] at this
end Go.Proofs.YtkkdpafkafjfgaaDoor

namespace Go.Proofs.YtkkdpafkafjfgaaDoor
open Go.RowKit RR
set_option linter.unusedVariables false
set_option linter.unusedSimpArgs false
set_option maxRecDepth 100000
theorem build_in_kind {p : Pat} {b o : Nat} {kv : Value} {w : World} (h : BuildIn p b o kv w) (w0 : World) (ob : Nat) (g : Gl) (F : Nat → Prop) (hG : GlAt w w0 ob g F) :
    Calls Tryd.prog 26 #[.pointer (some ⟨ob, 0, none⟩), .pointer (some ⟨b, o, none⟩)] w0 (BuildTo (buildP p g) w w0 ob F) := by
  obtain ⟨k, t, n, m, l⟩ := p
  by_cases h1 : k = 1
  · subst h1; exact build_k1 t n m l b o kv w h w0 ob g F hG
  by_cases h2 : k = 2
  · subst h2; exact build_k2 t n m l b o kv w h w0 ob g F hG
  by_cases h3 : k = 3
  · subst h3; exact build_k3 t n m l b o kv w h w0 ob g F hG
  by_cases h4 : k = 4
  · subst h4; exact build_k4 t n m l b o kv w h w0 ob g F hG
  by_cases h13 : k = 13
  · subst h13; exact build_k13 t n m l b o kv w h w0 ob g F hG
  by_cases h15 : k = 15
  · subst h15; exact build_k15 t n m l b o kv w h w0 ob g F hG
  by_cases h18 : k = 18
  · subst h18; exact build_k18 t n m l b o kv w h w0 ob g F hG
  by_cases h19 : k = 19
  · subst h19; exact build_k19 t n m l b o kv w h w0 ob g F hG
  by_cases h20 : k = 20
  · subst h20; exact build_k20 t n m l b o kv w h w0 ob g F hG
  · exact build_other k t n m l ⟨h1, h2, h3, h4, h13, h15, h18, h19, h20⟩ b o kv w h w0 ob g F hG
theorem Build_any {w : World} (hT : TabZ32 w) {b o : Nat} {p : Pat} (hp : PatAt w b o p) : fitP p → ∀ (w0 : World) (ob : Nat) (g : Gl) (F : Nat → Prop), GlAt w w0 ob g F →
    Calls Tryd.prog 26 #[.pointer (some ⟨ob, 0, none⟩), .pointer (some ⟨b, o, none⟩)] w0 (BuildTo (buildP p g) w w0 ob F) := by
  induction hp with
  | leaf b o k t n m a c c0 c1 c2 c3 c4 hk hn ht hm =>
    intro hf w0 ob g F hG
    exact build_in_kind (p := .mk k t n m []) ⟨⟨c0, c1, c2, c3, c4, hk, hn, ht, hm⟩, hf, hT, fun h => absurd h (Nat.not_lt_zero _)⟩ w0 ob g F hG
  | node b o k t n m l b' o' c c0 c1 c2 c3 c4 hk hn ht hm h0 hc hc' hl ih =>
    intro hf w0 ob g F hG
    refine build_in_kind (p := .mk k t n m l) ⟨⟨c0, c1, c2, c3, c4, hk, hn, ht, hm⟩, hf, hT, fun _ => ⟨b', o', c, rfl, hc, hc', fun i hi w0 ob g F hG => ?_⟩⟩ w0 ob g F hG
    have hf' := hf
    rw [fitP] at hf'
    exact ih i hi (fitL_get hf'.2.2.2.2 hi) w0 ob g F hG
structure StepIn (w : World) (rb gb ob : Nat) (g : Gl) (o : Part) : Prop where
  root : w.heap[rb]? = some (.cells (partC o) 69 (0, 0))
  ptr : w.cell? ⟨gb, 0, none⟩ = some (.pointer (some ⟨ob, 0, none⟩))
  blk : ∃ a c fa fc, w.heap[ob]? = some (.cells #[.slice a g.sets.length c, .slice fa g.fo.length fc, .bool g.much] 66 (0, 0)) ∧
    (∀ q, q < g.sets.length → ∃ b off, a = some ⟨b, off, none⟩ ∧ ∀ j, j < 4 → w.cell? ⟨b, off + q * 4 + j, none⟩ = some (.int .u64 (word (g.sets.getD q fun _ => false) (64 * j) 64))) ∧
    ∀ q, q < g.fo.length → ∃ b off, fa = some ⟨b, off, none⟩ ∧ w.cell? ⟨b, off + q, none⟩ = some (.int .u32 (g.fo.getD q 0 : Nat))
  fits : Fits g
  inn : InG g o
  inf : InF g
  tab : TabZ32 w
end Go.Proofs.YtkkdpafkafjfgaaDoor

namespace Go.Proofs.YtkkdpafkafjfgaaDoor
open Go.RowKit RR
set_option linter.unusedVariables false
set_option linter.unusedSimpArgs false
section
variable {P : Program} {w0 : World} {ops : Array Oper} {Q : Exit → Act → World → Prop} {shs : List Sh} {a0 : Act} {A : Array Edge} {i : Nat} {d : Option Tmp} {ty : TypeId} {pos : String} {G : Option (Nat × Bool)}
theorem sg_len {t : TypeId} {p : Option Addr} {n c : Nat} {x : Operand} (ht : P.underlying t = some (.slice (P.elem t))) (hg : guardIs ops shs A G = some true) (hx : opSh ops shs A a0 x = .val (.slice p n c)) (hs : shs.getD i (.fact fun _ _ => True) = .val (.int .i64 (n : Nat))) :
    StepOk Grew P ops Q (shF shs) a0 w0 i ⟨d, .call { callee := .builtin .len, args := #[x], argTypes := #[t] }, ty, pos, A, G⟩ :=
  st_run hg fun a w E K hK => by
    have hv : a.eval x = .slice p n c := E.opv hx
    have := hK (.int .i64 (n : Nat)) w (Grew.refl w) (by unfold shF; rw [hs]; rfl)
    unfold Oper.wp execOp
    simpa [resolve, invoke, builtin, hv, Oper.upon, goInt, run_len_slice w t ty p n c ht] using this
end
end Go.Proofs.YtkkdpafkafjfgaaDoor
