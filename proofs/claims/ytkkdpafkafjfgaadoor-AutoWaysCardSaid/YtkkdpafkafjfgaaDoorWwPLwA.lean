/- The laws' alive: Make of one byte. -/
import Derived.Test.YtkkdpafkafjfgaaDoorWwPGlK
import Derived.Test.YtkkdpafkafjfgaaDoorWwPGlX
import Derived.Test.YtkkdpafkafjfgaaDoorWwPAuA
namespace Go.Proofs.YtkkdpafkafjfgaaDoor
open Go.RowKit RR
set_option linter.unusedVariables false
set_option linter.unusedSimpArgs false
set_option maxRecDepth 100000
def A3 : RA := ⟨3, fun s c => if s = 0 ∧ c = 97 then 2 else 1, fun s => s == 2⟩
theorem A3_can : Can A3 := by
  refine ⟨⟨by decide, fun s c _ _ => ?_⟩, fun s t hs ht e => ?_, ?_, ?_⟩
  · show (if s = 0 ∧ c = 97 then 2 else 1) < 3
    split <;> decide
  · have e0 : (A3.en s) = A3.en t := e []
    have e1 : A3.en (A3.nx s 97) = A3.en (A3.nx t 97) := e [97]
    have hs : s < 3 := hs
    have ht : t < 3 := ht
    rcases (by omega : s = 0 ∨ s = 1 ∨ s = 2) with rfl | rfl | rfl <;> rcases (by omega : t = 0 ∨ t = 1 ∨ t = 2) with rfl | rfl | rfl <;> first | rfl | (exfalso; revert e0; decide) | (exfalso; revert e1; decide)
  · have : ∀ p : Fin 768, A3.arr p.val ≤ A3.top p.val := by decide +kernel
    intro p hp
    exact this ⟨p, hp⟩
  · have : ∀ s : Fin 3, s.val < A3.top (256 * s.val) := by decide +kernel
    intro s hs
    exact this ⟨s, hs⟩
theorem A3_go : ∀ (l : List UInt8) (s : Nat), s ≠ 0 → A3.go s l = if l = [] then s else 1
  | [], s, _ => rfl
  | c :: l, s, h => by
    have e : A3.nx s c.toNat = 1 := by show (if s = 0 ∧ c.toNat = 97 then 2 else 1) = 1; rw [if_neg (fun x => h x.1)]
    rw [RA.go, e, A3_go l 1 (by decide)]
    split <;> rfl
theorem A3_tak (l : List UInt8) : A3.tak 0 l = decide (l = [97]) := by
  unfold RA.tak
  cases l with
  | nil => rfl
  | cons c l =>
    rw [RA.go]
    by_cases hc : c = 97
    · subst hc
      have e : A3.nx 0 (97 : UInt8).toNat = 2 := rfl
      rw [e, A3_go l 2 (by decide)]
      by_cases hl : l = []
      · subst hl; rfl
      · rw [if_neg hl]
        have : ((97 : UInt8) :: l = [97]) ↔ False := ⟨fun h => hl (List.cons.inj h).2, False.elim⟩
        rw [decide_eq_false (fun h => hl (List.cons.inj h).2)]; rfl
    · have e : A3.nx 0 c.toNat = 1 := by
        show (if 0 = 0 ∧ c.toNat = 97 then 2 else 1) = 1
        rw [if_neg (fun x => hc (UInt8.toNat_inj.1 x.2))]
      rw [e, A3_go l 1 (by decide), decide_eq_false (fun h => hc (List.cons.inj h).1)]
      split <;> rfl
def patA : Pat := .mk 1 ⟨#[97]⟩ 0 ⟨#[]⟩ []
theorem patA_right : makeErr patA = 0 := by
  have h1 : patErr patA = 0 := by decide +kernel
  have h2 : placesP patA = some 1 := rfl
  unfold makeErr
  rw [if_pos h1, h2]; rfl
theorem patA_lang (l : List UInt8) : autL patA l = A3.tak 0 l := by
  rw [A3_tak, Bool.eq_iff_iff, autL_lang patA_right, decide_eq_true_eq, langP_eq]
  unfold langK
  rw [if_pos (show patA.kind = 1 from rfl)]; exact Iff.rfl
theorem is_three {B : Aut} (h : IsAut B (autL patA)) : B.next.length = 3 := by
  obtain ⟨C, hC, rfl⟩ := h.can
  have hr := autOf_ra hC.ok
  rw [autOf_n]
  refine (can_one hC A3_can fun l => ?_).n
  rw [← (hr.eqv (h.right.ok h.cls)) l 0 h.right.n0, h.lang]; exact patA_lang l
theorem TwoEnd.is {w : World} {L : List UInt8 → Bool} {e : Ending} {w' : World} (h : TwoEnd w 0 L e w') : ∃ B na nc ea ec, e = .returned (.tuple #[.agg (autB B na nc ea ec), .int .i64 0]) ∧ AutNew w.heap.size w' B na ea ∧ Grew w w' ∧ IsAut B L := by
  obtain ⟨B, na, nc, ea, ec, he, h1, h2, _, h3⟩ := h
  obtain ⟨S, hn, hl, hS⟩ := h3 rfl
  exact ⟨B, na, nc, ea, ec, he, h1, h2, hS.is hn hl⟩
theorem runA_go (A : Aut) : ∀ (t : List UInt8) (s : Nat), t.foldl (fun s b => stepA A s b.toNat) s = (raA A).go s t
  | [], _ => rfl
  | c :: t, s => by rw [List.foldl_cons, runA_go A t]; rfl
theorem takes_tak (A : Aut) (t : List UInt8) : takesA A t = (raA A).tak 0 t := by
  unfold takesA runA RA.tak
  rw [runA_go]; rfl
theorem IsAut.acc {B : Aut} {L : List UInt8 → Bool} (h : IsAut B L) (t : List UInt8) : accV B t = .tuple #[.bool (L t), .int .i64 0] := by
  unfold accV
  rw [if_pos (wrongA_zero.2 h.right), takes_tak, h.lang]
theorem patA_takes : autL patA [97] = true := by rw [patA_lang, A3_tak]; rfl
theorem patA_v (w : World) : PatV w (.slice none 0 0) patA := ⟨Or.inl ⟨none, 0, rfl, rfl⟩, by decide, by decide, by decide, by decide⟩
theorem len_next (B : Aut) (na : Option Addr) (nc : Nat) (ea : Option Addr) (ec : Nat) : (autB B na nc ea ec)[256]? = some (.slice na B.next.length nc) := autB_next _ _ _ _ _
set_option maxHeartbeats 4000000 in
theorem Alive_any (w : World) (hT : TabZ32 w) : Calls Tryd.prog 13 #[] w fun e w' => e = .returned (.bool true) ∧ Grew w w' := by
  have hz := zero_aut
  have HM : Hid (Calls Tryd.prog 10 #[.agg #[.int .i64 1, .string ⟨#[97]⟩, .int .i64 0, .string ⟨#[]⟩, .slice none 0 0]] w (TwoEnd w 0 (autL patA))) := by
    have := Make_any patA (.slice none 0 0) w (patA_v w) hT
    rw [patA_right] at this; exact this
  clear hT
  go_enter Tryd.func13, Tryd.ntmps13
  go_wp2_with fail
  refine HM.out.mono ?_
  rintro e w1 h1
  obtain ⟨B, na, nc, ea, ec, rfl, hN, g1, hI⟩ := h1.is
  obtain ⟨bb, hbb⟩ : ∃ bb, w1.heap.size = bb := ⟨_, rfl⟩
  obtain ⟨av, hav⟩ : ∃ av, autB B na nc ea ec = av := ⟨_, rfl⟩
  have HB := hidd (And.intro (autB_size B na nc ea ec) (autB_one B na nc ea ec))
  rw [hav] at HB
  have hz0 : (w1.alloc (.cells zAut 30)).heap[bb]? = some (.cells zAut 30 (0, 0)) := by rw [← hbb]; exact heap_alloc_new w1 _
  obtain ⟨W, hW⟩ : ∃ W, (w1.alloc (.cells zAut 30)).setRow bb av = W := ⟨_, rfl⟩
  have hb2 := setRow_heap _ bb _ av _ _ hz0
  rw [hW] at hb2
  have ga := (Grew.refl w1).alloc (.cells zAut 30)
  have gw : Grew w1 W := by rw [← hW]; exact setRow_grew ga (by omega) av
  have HZ := hidd hz0
  have HX := hidd (And.intro hb2 (g1.trans gw))
  have hA : AutAt W B na ea := hN.at.kept gw
  have HAc : Hid (Calls Tryd.prog 21 #[.agg av, .string ⟨#[97]⟩] W fun e w' => e = .returned (.tuple #[.bool true, .int .i64 0]) ∧ Grew W w') := by
    have := Accepts_any B na ea nc ec ⟨#[97]⟩ W hA (by decide)
    rw [hav] at this
    have e : accV B (ByteArray.mk #[97]).data.toList = .tuple #[.bool true, .int .i64 0] := by
      rw [hI.acc]
      show Value.tuple #[.bool (autL patA [97]), .int .i64 0] = _
      rw [patA_takes]
    rw [e] at this; exact this
  have h3 := len_next B na nc ea ec
  rw [is_three hI, hav] at h3
  have H3 := hidd h3
  rw [hav]
  clear h1 hN g1 hI hz0 hb2 ga gw hA h3 HM hav
  go_wp2_with (first | (rw [hW]) | (refine wpList_store_aut (b := bb) rfl rfl rfl rfl HZ.out zAut_size HB.out.1 HB.out.2 ?_) | (refine wpList_load_aut (b := bb) rfl rfl rfl HX.out.1 HB.out.1 ?_))
  refine HAc.out.mono ?_; rintro e w2 ⟨rfl, g2⟩
  have HG2 := hidd (HX.out.2.trans g2)
  have hb3 := heap_kept g2 HX.out.1
  have c3 : w2.cell? ⟨bb, 256, none⟩ = some (.slice na 3 nc) := by rw [cell_of hb3]; exact H3.out
  clear g2 hb3 HAc
  go_wp2_with fail
  go_ret
  exact ⟨rfl, HG2.out⟩
end Go.Proofs.YtkkdpafkafjfgaaDoor

namespace Go.Proofs.YtkkdpafkafjfgaaDoor
open Go.RowKit RR
set_option linter.unusedVariables false
set_option linter.unusedSimpArgs false
set_option maxRecDepth 100000
def AutVal (w : World) (v : Array Value) (L : List UInt8 → Bool) (n : Nat) : Prop := ∃ B na nc ea ec, v = autB B na nc ea ec ∧ AutAt w B na ea ∧ IsAut B L ∧ B.next.length = n
section
variable {w w' : World} {b : Nat} {v v2 : Array Value} {L M : List UInt8 → Bool} {n m : Nat}
theorem AutVal.kept (h : AutVal w v L n) (g : Grew w w') : AutVal w' v L n := by
  obtain ⟨B, na, nc, ea, ec, h1, h2, h3⟩ := h; exact ⟨B, na, nc, ea, ec, h1, h2.kept g, h3⟩
theorem AutVal.size (h : AutVal w v L n) : v.size = 258 := by obtain ⟨B, na, nc, ea, ec, rfl, _⟩ := h; exact autB_size B na nc ea ec
theorem AutVal.pos (h : AutVal w v L n) : 0 < n ∧ n ≤ 8192 := by obtain ⟨B, na, nc, ea, ec, rfl, _, h3, rfl⟩ := h; exact ⟨h3.right.n0, h3.right.n1⟩
theorem AutVal.as (h : AutVal w v L n) (e : ∀ l, L l = M l) : AutVal w v M n := by
  have : L = M := funext e
  rw [← this]; exact h
theorem TwoEnd.val {L : List UInt8 → Bool} {e : Ending} (h : TwoEnd w 0 L e w') : ∃ v n, e = .returned (.tuple #[.agg v, .int .i64 0]) ∧ Grew w w' ∧ AutVal w' v L n := by
  obtain ⟨B, na, nc, ea, ec, he, h1, h2, h3⟩ := h.is
  exact ⟨_, _, he, h2, B, na, nc, ea, ec, rfl, h1.at, h3, rfl⟩
theorem TwoEnd.err {err : Int} {L : List UInt8 → Bool} {e : Ending} (h : TwoEnd w err L e w') : ∃ v, e = .returned (.tuple #[.agg v, .int .i64 err]) ∧ Grew w w' ∧ v.size = 258 ∧ v.all (·.oneCell') = true := by
  obtain ⟨B, na, nc, ea, ec, he, h1, h2, h3⟩ := h
  exact ⟨_, he, h2, autB_size B na nc ea ec, autB_one B na nc ea ec⟩
end
section
variable {ops : Array Oper} {rest : List Oper} {o : Oper} {a : Act} {w : World} {Q : Exit → Act → World → Prop}
end
end Go.Proofs.YtkkdpafkafjfgaaDoor

namespace Go.Proofs.YtkkdpafkafjfgaaDoor
open Go.RowKit RR
set_option linter.unusedVariables false
set_option linter.unusedSimpArgs false
set_option maxRecDepth 100000
def Mk (w : World) (v : Array Value) (p : Pat) : Prop := v.size = 258 ∧ v.all (·.oneCell') = true ∧ ∃ B na nc ea ec, v = autB B na nc ea ec ∧ AutAt w B na ea ∧ (makeErr p ≠ 0 → B = zeroA) ∧ (makeErr p = 0 → IsAut B (autL p))
def MkN (N : Nat) (w : World) (v : Array Value) (p : Pat) : Prop := ∀ w'', w.heap.size ≤ w''.heap.size → (∀ k, N ≤ k → k < w.heap.size → w''.heap[k]? = w.heap[k]?) → Mk w'' v p
theorem MkN.at {N : Nat} {w : World} {v : Array Value} {p : Pat} (h : MkN N w v p) : Mk w v p := h w (Nat.le_refl _) fun _ _ _ => rfl
theorem Mk.kept {w w' : World} {v : Array Value} {p : Pat} (h : Mk w v p) (g : Grew w w') : Mk w' v p := by
  obtain ⟨h1, h2, B, na, nc, ea, ec, h3, h4, h5⟩ := h
  exact ⟨h1, h2, B, na, nc, ea, ec, h3, h4.kept g, h5⟩
theorem make_mk {w : World} {p : Pat} {kv : Value} (hp : PatV w kv p) (hT : TabZ32 w) : Calls Tryd.prog 10 #[.agg #[.int .i64 p.kind, .string p.text, .int .i64 p.n, .string p.name, kv]] w fun e w' => ∃ v, e = .returned (.tuple #[.agg v, .int .i64 (makeErr p)]) ∧ Grew w w' ∧ v.size = 258 ∧ v.all (·.oneCell') = true ∧ MkN w.heap.size w' v p := by
  refine (Make_any p kv w hp hT).mono fun e w' h => ?_
  by_cases h0 : makeErr p = 0
  · rw [h0] at h ⊢
    obtain ⟨B, na, nc, ea, ec, he, h1, h2, h3⟩ := h.is
    exact ⟨_, he, h2, autB_size B na nc ea ec, autB_one B na nc ea ec, fun w'' hs hk => ⟨autB_size B na nc ea ec, autB_one B na nc ea ec, B, na, nc, ea, ec, rfl, h1 w'' hs hk, fun h => absurd h0 h, fun _ => h3⟩⟩
  · obtain ⟨B, na, nc, ea, ec, he, h1, h2, h3, _⟩ := h
    exact ⟨_, he, h2, autB_size B na nc ea ec, autB_one B na nc ea ec, fun w'' hs hk => ⟨autB_size B na nc ea ec, autB_one B na nc ea ec, B, na, nc, ea, ec, rfl, h1 w'' hs hk, h3, fun h => absurd h h0⟩⟩
theorem StarL.append {A : Lang} {a b : List UInt8} (h : StarL A a) (k : StarL A b) : StarL A (a ++ b) := by
  induction h with
  | nil => exact k
  | cons x y ih => rw [List.append_assoc]; exact .cons x ih
end Go.Proofs.YtkkdpafkafjfgaaDoor
