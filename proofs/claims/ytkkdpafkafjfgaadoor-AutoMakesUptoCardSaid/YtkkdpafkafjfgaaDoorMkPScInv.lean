/- What is so of the machine at all times: how far it may have come, and how much it may hold. Plain. -/
import Derived.Test.YtkkdpafkafjfgaaDoorMkScWrong
import Derived.Test.YtkkdpafkafjfgaaDoorMkScTr
import Derived.Test.YtkkdpafkafjfgaaDoorMkPBase
import Derived.WalkMore
import Derived.ScopeJumps
import Derived.Test.YtkkdpafkafjfgaaDoorMkGlW
import Derived.Test.YtkkdpafkafjfgaaDoorMkPScNodeA
import Derived.Test.YtkkdpafkafjfgaaDoorMkAuLs
import Derived.Great.BuildSlice
import Derived.Deep.WholeRow
import Derived.Test.YtkkdpafkafjfgaaDoorMkPGlO
import Derived.Deep.DeepCutAuto
import Derived.Lib.ItoaWalk
namespace Go.Proofs.YtkkdpafkafjfgaaDoor
set_option linter.unusedVariables false
def hd (o : Nat) : Prop := o = 0 ∨ o = 1 ∨ o = 2 ∨ o = 3 ∨ o = 4 ∨ o = 8
section
variable {L fuel ways : Nat} {m : MS}
end
end Go.Proofs.YtkkdpafkafjfgaaDoor
namespace Go.Proofs.YtkkdpafkafjfgaaDoor
open Go.RowKit
set_option linter.unusedVariables false
end Go.Proofs.YtkkdpafkafjfgaaDoor

namespace Go.Proofs.YtkkdpafkafjfgaaDoor
open Tr
set_option linter.unusedVariables false
section
variable {R : List Rule} {s : ByteArray} {fuel : Nat} {m : MS} {T : Tr}
def more (x : Way) : List Way × Bool × Int → List Way × Bool × Int
  | (l, c, e) => if e = 0 then (x :: l, c, 0) else ([], false, e)
def after (d : List Way) : List Way × Bool × Int → List Way × Bool × Int
  | (l, c, e) => if e = 0 then (d ++ l, c, 0) else ([], false, e)
end
end Go.Proofs.YtkkdpafkafjfgaaDoor
namespace Go.Proofs.YtkkdpafkafjfgaaDoor
open Tr
set_option linter.unusedVariables false
section
variable (R : List Rule) (s : ByteArray)
end
end Go.Proofs.YtkkdpafkafjfgaaDoor
namespace Go.Proofs.YtkkdpafkafjfgaaDoor
open Tr
set_option linter.unusedVariables false
section
variable {R : List Rule} {s : ByteArray}
end
end Go.Proofs.YtkkdpafkafjfgaaDoor
namespace Go.Proofs.YtkkdpafkafjfgaaDoor
open Tr
set_option linter.unusedVariables false
namespace Tr
end Tr
section
variable {R : List Rule} {s : ByteArray}
end
end Go.Proofs.YtkkdpafkafjfgaaDoor
namespace Go.Proofs.YtkkdpafkafjfgaaDoor
open Tr
set_option linter.unusedVariables false
section
variable {R : List Rule} {s : ByteArray}
end
end Go.Proofs.YtkkdpafkafjfgaaDoor

namespace Go.Proofs.YtkkdpafkafjfgaaDoor
open Go.RowKit RR
set_option linter.unusedVariables false
set_option linter.unusedSimpArgs false
set_option maxRecDepth 100000
theorem build_in_kind {p : Pat} {b o : Nat} {kv : Value} {w : World} (h : BuildIn p b o kv w) (w0 : World) (ob : Nat) (g : Gl) (F : Nat → Prop) (hG : GlAt w w0 ob g F) :
    Calls Tryd.prog 26 #[.pointer (some ⟨ob, 0, none⟩), .pointer (some ⟨b, o, none⟩)] w0 (BuildTo (buildP p g) w w0 ob F) := by
  obtain ⟨k, t, n, m, l⟩ := p
  by_cases h1 : k = 1
  · subst h1; exact build_k1 t n m l b o kv w h w0 ob g F hG
  by_cases h2 : k = 2
  · subst h2; exact build_k2 t n m l b o kv w h w0 ob g F hG
  by_cases h3 : k = 3
  · subst h3; exact build_k3 t n m l b o kv w h w0 ob g F hG
  by_cases h4 : k = 4
  · subst h4; exact build_k4 t n m l b o kv w h w0 ob g F hG
  by_cases h13 : k = 13
  · subst h13; exact build_k13 t n m l b o kv w h w0 ob g F hG
  by_cases h15 : k = 15
  · subst h15; exact build_k15 t n m l b o kv w h w0 ob g F hG
  by_cases h18 : k = 18
  · subst h18; exact build_k18 t n m l b o kv w h w0 ob g F hG
  by_cases h19 : k = 19
  · subst h19; exact build_k19 t n m l b o kv w h w0 ob g F hG
  by_cases h20 : k = 20
  · subst h20; exact build_k20 t n m l b o kv w h w0 ob g F hG
  · exact build_other k t n m l ⟨h1, h2, h3, h4, h13, h15, h18, h19, h20⟩ b o kv w h w0 ob g F hG
theorem Build_any {w : World} (hT : TabZ32 w) {b o : Nat} {p : Pat} (hp : PatAt w b o p) : fitP p → ∀ (w0 : World) (ob : Nat) (g : Gl) (F : Nat → Prop), GlAt w w0 ob g F →
    Calls Tryd.prog 26 #[.pointer (some ⟨ob, 0, none⟩), .pointer (some ⟨b, o, none⟩)] w0 (BuildTo (buildP p g) w w0 ob F) := by
  induction hp with
  | leaf b o k t n m a c c0 c1 c2 c3 c4 hk hn ht hm =>
    intro hf w0 ob g F hG
    exact build_in_kind (p := .mk k t n m []) ⟨⟨c0, c1, c2, c3, c4, hk, hn, ht, hm⟩, hf, hT, fun h => absurd h (Nat.not_lt_zero _)⟩ w0 ob g F hG
  | node b o k t n m l b' o' c c0 c1 c2 c3 c4 hk hn ht hm h0 hc hc' hl ih =>
    intro hf w0 ob g F hG
    refine build_in_kind (p := .mk k t n m l) ⟨⟨c0, c1, c2, c3, c4, hk, hn, ht, hm⟩, hf, hT, fun _ => ⟨b', o', c, rfl, hc, hc', fun i hi w0 ob g F hG => ?_⟩⟩ w0 ob g F hG
    have hf' := hf
    rw [fitP] at hf'
    exact ih i hi (fitL_get hf'.2.2.2.2 hi) w0 ob g F hG
structure StepIn (w : World) (rb gb ob : Nat) (g : Gl) (o : Part) : Prop where
  root : w.heap[rb]? = some (.cells (partC o) 69 (0, 0))
  ptr : w.cell? ⟨gb, 0, none⟩ = some (.pointer (some ⟨ob, 0, none⟩))
  blk : ∃ a c fa fc, w.heap[ob]? = some (.cells #[.slice a g.sets.length c, .slice fa g.fo.length fc, .bool g.much] 66 (0, 0)) ∧
    (∀ q, q < g.sets.length → ∃ b off, a = some ⟨b, off, none⟩ ∧ ∀ j, j < 4 → w.cell? ⟨b, off + q * 4 + j, none⟩ = some (.int .u64 (word (g.sets.getD q fun _ => false) (64 * j) 64))) ∧
    ∀ q, q < g.fo.length → ∃ b off, fa = some ⟨b, off, none⟩ ∧ w.cell? ⟨b, off + q, none⟩ = some (.int .u32 (g.fo.getD q 0 : Nat))
  fits : Fits g
  inn : InG g o
  inf : InF g
  tab : TabZ32 w
end Go.Proofs.YtkkdpafkafjfgaaDoor

namespace Go.Proofs.YtkkdpafkafjfgaaDoor
open Go.RowKit RR
set_option linter.unusedVariables false
set_option maxRecDepth 100000
set_option linter.unusedSimpArgs false
section
variable {P : Program} {wb w0 : World} {g : Nat} {Fin : World → Prop} {mk : List Nat} {is : Nat} {ops : Array Oper} {Q : Exit → Act → World → Prop} {shs : List Sh} {a0 : Act} {A : Array Edge} {i : Nat} {d : Option Tmp} {op : Op} {ty : TypeId} {pos : String} {G : Option (Nat × Bool)}
end
section
variable {P : Program} {w0 : World} {ops : Array Oper} {Q : Exit → Act → World → Prop} {shs : List Sh} {a0 : Act} {A : Array Edge} {i : Nat} {d : Option Tmp} {ty : TypeId} {pos : String} {G : Option (Nat × Bool)}
end
theorem agg_bool (w : World) : (isAgg 4).run Tryd.prog w = .ok false w := run_isAgg Tryd.underlying4 w
end Go.Proofs.YtkkdpafkafjfgaaDoor

namespace Go.Proofs.YtkkdpafkafjfgaaDoor
open Go.RowKit RR
set_option linter.unusedVariables false
set_option maxRecDepth 100000
set_option linter.unusedSimpArgs false
def zeroA : Aut := ⟨List.replicate 256 0, [], []⟩
theorem zeroA_cls {j : Nat} (h : j < 256) : zeroA.cls.getD j 0 = 0 := by
  show (List.replicate 256 (0 : Int)).getD j 0 = 0
  rw [List.getD_eq_getElem?_getD, List.getElem?_replicate, if_pos h]; rfl
theorem zeroA_B : autB zeroA none 0 none 0 = zAut := by
  apply Array.ext_getElem?
  intro j
  by_cases h1 : j < 256
  · rw [autB_cls _ _ _ _ _ h1, zeroA_cls h1]
    unfold zAut; rw [Array.getElem?_append_left (by rw [rowI_size]; exact h1), rowI_get _ h1]
  · unfold zAut
    rw [Array.getElem?_append_right (by rw [rowI_size]; omega), rowI_size]
    by_cases h2 : j = 256
    · subst h2; rw [autB_next]; rfl
    · by_cases h3 : j = 257
      · subst h3; rw [autB_ends]; rfl
      · rw [Array.getElem?_eq_none (by rw [autB_size]; omega), Array.getElem?_eq_none (by simp; omega)]
theorem zeroA_at (w : World) : AutAt w zeroA none none :=
  ⟨List.length_replicate, fun j hj => by rw [zeroA_cls hj]; exact ⟨by decide, by decide⟩, ⟨fun _ => none, fun _ => 0, Or.inl rfl, fun i hi => absurd hi (Nat.not_lt_zero _)⟩, Or.inl rfl, Nat.zero_le _, Nat.zero_le _, fun i hi => absurd hi (Nat.not_lt_zero _), fun i hi => absurd hi (Nat.not_lt_zero _)⟩
def TwoEnd (w : World) (err : Int) (L : List UInt8 → Bool) : Ending → World → Prop := fun e w' =>
  ∃ B na nc ea ec, e = .returned (.tuple #[.agg (autB B na nc ea ec), .int .i64 err]) ∧ AutNew w.heap.size w' B na ea ∧ Grew w w' ∧ (err ≠ 0 → B = zeroA) ∧ (err = 0 → ∃ S : RA, S.n ≤ 8192 ∧ (∀ l, S.tak 0 l = L l) ∧ LeastOf S B)
theorem autB_one (A : Aut) (na : Option Addr) (nc : Nat) (ea : Option Addr) (ec : Nat) : (autB A na nc ea ec).all (·.oneCell') = true := by
  rw [Array.all_eq_true_iff_forall_mem]
  intro v hv
  unfold autB clsB at hv
  rw [Array.mem_append] at hv
  rcases hv with hv | hv
  · simp at hv
    obtain ⟨_, _, rfl⟩ := hv; rfl
  · simp at hv
    rcases hv with rfl | rfl <;> rfl
section
variable {ops : Array Oper} {rest : List Oper} {o : Oper} {a : Act} {w : World} {Q : Exit → Act → World → Prop}
theorem wpList_store_aut (hgd : o.guard = none) {x y : Operand} (ho : o.op = .store 30 x y) {b : Nat} {old av : Array Value} (hx : a.eval x = .pointer (some ⟨b, 0, none⟩)) (hy : a.eval y = .agg av) (hb : w.heap[b]? = some (.cells old 30 (0, 0))) (h1 : old.size = 258) (h2 : av.size = 258) (h3 : av.all (·.oneCell') = true)
    (h : wpList Tryd.prog ops Q rest (a.put o.dst undef) (w.setRow b av)) : wpList Tryd.prog ops Q (o :: rest) a w := by
  refine wpList_plain hgd fun _ hK => ?_
  unfold Oper.wp execOp
  simp only [ho, hx, hy, Instr.storeAt, Instr.sureAddr, Sem.run_bind, Sem.run_pure, Result.andThen_ok, run_storeVar_row w b _ _ _ _ hb (by rw [h2]; exact info_aut) (by rw [h1, h2]) h3]
  exact hK _ _ h
theorem wpList_build_aut (hgd : o.guard = none) (ho : o.op = .build 30 #[]) (h : wpList Tryd.prog ops Q rest (a.put o.dst (.agg zAut)) w) : wpList Tryd.prog ops Q (o :: rest) a w := by
  refine wpList_plain hgd fun _ hK => ?_
  have hb : Tryd.prog.built 30 [] = some zAut := by kernel_rfl
  unfold Oper.wp execOp
  simp only [ho, List.map_toArray, List.map_nil, Sem.run_bind, run_build w _ _ _ hb, Result.andThen_ok]
  exact hK _ _ h
end
theorem results_aut2 {fn : Func} {p q : Tmp} (h : fn.results = #[.cell p 30, .tmp q]) {w : World} {tmps : Array Value} {rb : Nat} {av : Array Value} {v : Value} (hp : tmps.getD p undef = .pointer (some ⟨rb, 0, none⟩)) (hq : tmps.getD q undef = v) (hb : w.heap[rb]? = some (.cells av 30 (0, 0))) (hs : av.size = 258) :
    (results fn tmps).run Tryd.prog w = .ok (.tuple #[.agg av, v]) w := by
  rw [results_cell_tmp h, hp, hq]
  have hl := run_loadVar_row (P := Tryd.prog) w rb 30 30 av (0, 0) _ hb Tryd.underlying30 rfl (by rw [hs]; exact info_aut)
  simp [asAddr, hl]
theorem zAut_size : zAut.size = 258 := aCells_size _
theorem zAut_one : zAut.all (·.oneCell') = true := by rw [← zeroA_B]; exact autB_one _ _ _ _ _
theorem setRow_grew {w0 w : World} {g : Nat} (h : Grew w0 w) (hg : w0.heap.size ≤ g) (cs : Array Value) : Grew w0 (w.setRow g cs) :=
  h.below (B := g) ⟨rfl, rfl, rfl, by simp [World.setRow], fun k hk => setRow_other _ _ _ _ (by omega)⟩ hg
theorem AutNew.set {B0 B : Nat} {w' : World} {A : Aut} {na ea : Option Addr} (h : AutNew B w' A na ea) (hb : B0 ≤ B) {rs : Nat} (hr : rs < B) (cs : Array Value) : AutNew B0 (w'.setRow rs cs) A na ea := fun w'' hs hk =>
  h w'' (by simpa [World.setRow] using hs) fun k hk1 hk2 => (hk k (by omega) (by simpa [World.setRow] using hk2)).trans (setRow_other _ _ _ _ (by omega))
end Go.Proofs.YtkkdpafkafjfgaaDoor

namespace Go.Proofs.YtkkdpafkafjfgaaDoor
open Go.RowKit RR
set_option linter.unusedVariables false
set_option maxRecDepth 100000
set_option linter.unusedSimpArgs false
section
variable {ops : Array Oper} {rest : List Oper} {o : Oper} {a : Act} {w : World} {Q : Exit → Act → World → Prop}
end
end Go.Proofs.YtkkdpafkafjfgaaDoor

namespace Go.Proofs.YtkkdpafkafjfgaaDoor
open Go.RowKit RR
set_option linter.unusedVariables false
set_option linter.unusedSimpArgs false
set_option maxRecDepth 100000
theorem no_slot {shs : List Sh} {B : Nat} (h : ∀ s ∈ shs, (∃ v, s = .val v) ∨ s = .fact fun _ _ => True) : ∀ i v w w', LowRl B w w' → shF shs i v w → shF shs i v w' := by
  intro i v w w' _ hs
  unfold shF at hs ⊢
  rw [List.getD_eq_getElem?_getD] at hs ⊢
  cases hg : shs[i]? with
  | none => trivial
  | some s =>
    rw [hg] at hs
    rcases h s (List.mem_of_getElem? hg) with ⟨u, rfl⟩ | rfl
    · exact hs
    · trivial
theorem idx_bools {b o n c i : Nat} (h : i < n) (w : World) : (Instr.indexAt 28 (.slice (some ⟨b, o, none⟩) n c) (.int .i64 (i : Nat))).run Tryd.prog w = .ok (.pointer (some ⟨b, o + i, none⟩)) w := by
  have := index_sl (sz := 1) Tryd.underlying28 (by kernel_rfl) (fun w => size_of (by kernel_rfl) w) (b := b) (o := o) (c := c) h w
  rwa [Nat.mul_one] at this
theorem idx_ints {b o n c i : Nat} (h : i < n) (w : World) : (Instr.indexAt 37 (.slice (some ⟨b, o, none⟩) n c) (.int .i64 (i : Nat))).run Tryd.prog w = .ok (.pointer (some ⟨b, o + i, none⟩)) w := by
  have := index_sl (sz := 1) Tryd.underlying37 (by kernel_rfl) (fun w => size_of (by kernel_rfl) w) (b := b) (o := o) (c := c) h w
  rwa [Nat.mul_one] at this
end Go.Proofs.YtkkdpafkafjfgaaDoor

namespace Go.Proofs.YtkkdpafkafjfgaaDoor
open Go.RowKit
set_option linter.unusedVariables false
theorem enc_digit (d : Nat) (h : d < 10) : Utf8.encode ((48 : Int) + (d : Int)) = ⟨#[UInt8.ofNat (48 + d)]⟩ := by
  rcases d with _ | _ | _ | _ | _ | _ | _ | _ | _ | _ | d
  all_goals first | (simp [Utf8.encode]; done) | omega | (unfold Utf8.encode; simp; rfl)
theorem digText_lt {n : Nat} (h : n < 10) : digText n = Utf8.encode ((48 : Int) + (n : Int)) := by
  rw [enc_digit n h]
  unfold digText
  rw [Lib.decDigits, dif_pos h]
theorem digText_ge {n : Nat} (h : ¬ n < 10) : digText n = digText (n / 10) ++ Utf8.encode ((48 : Int) + ((n % 10 : Nat) : Int)) := by
  rw [enc_digit _ (Nat.mod_lt _ (by omega))]
  unfold digText
  rw [Lib.decDigits, dif_neg h]
  apply ByteArray.ext
  simp
theorem decDigits_le : ∀ n : Nat, (Lib.decDigits n).length ≤ n + 1 := fun n => by
  induction n using Nat.strongRecOn with
  | _ n ih =>
    rw [Lib.decDigits]
    split
    · simp
    · have := ih (n / 10) (by omega)
      simp; omega
theorem digText_size (n : Nat) : (digText n).size ≤ n + 1 := decDigits_le n
theorem enc_size (r : Nat) (h : r < 10) : (Utf8.encode ((48 : Int) + (r : Int))).size = 1 := by rw [enc_digit r h]; rfl
set_option maxRecDepth 100000 in
set_option maxHeartbeats 1000000 in
theorem Digits_any (n : Nat) : ∀ (w : World), n ≤ 1000000 → Calls Tryd.prog 70 #[.int .i64 n] w fun e w' => e = .returned (.string (digText n)) ∧ w' = w := by
  induction n using Nat.strongRecOn with
  | _ n ih =>
    intro w hn
    by_cases h : n < 10
    · have d1 : decide ((n : Int) < 10) = true := decide_eq_true (by omega)
      have d2 : decide (n < 10) = true := decide_eq_true h
      have HE := hidd (digText_lt h)
      have w2 : IntKind.i32.wrap (48 + (n : Int)) = 48 + (n : Int) := by unfold IntKind.wrap; simp [IntKind.bits, IntKind.signed]; omega
      clear ih
      go_enter Tryd.func70, Tryd.ntmps70
      go_wp2_with fail
      go_ret
      exact ⟨by rw [HE.out]; rfl, rfl⟩
    · have d1 : decide ((n : Int) < 10) = false := decide_eq_false (by omega)
      have d2 : decide (n < 10) = false := decide_eq_false h
      have HE := hidd (digText_ge h)
      have HC := hidd (fun w => ih (n / 10) (by omega) w (by omega))
      have hs : (digText (n / 10)).size ≤ 1000001 := by have := digText_size (n / 10); omega
      have hr : n % 10 < 10 := Nat.mod_lt _ (by omega)
      have hu := enc_size (n % 10) hr
      have w2 : IntKind.i32.wrap (48 + ((n % 10 : Nat) : Int)) = 48 + ((n % 10 : Nat) : Int) := by unfold IntKind.wrap; simp [IntKind.bits, IntKind.signed]; omega
      have w3 : IntKind.i32.wrap (48 + (n : Int) % 10) = 48 + (n : Int) % 10 := by have := w2; simpa using this
      have hz : ((n % 10 : Nat) : Int) = (n : Int) % 10 := by simp
      rw [hz] at HE hu
      clear ih hr w2
      generalize digText (n / 10) = T at HC HE hs
      clear hz
      go_enter Tryd.func70, Tryd.ntmps70
      go_wp2_with fail
      refine (HC.out w).mono ?_; rintro r0 w' ⟨rfl, rfl⟩
      go_wp2_with fail
      go_ret
      exact ⟨by rw [HE.out]; rfl, rfl⟩
end Go.Proofs.YtkkdpafkafjfgaaDoor
