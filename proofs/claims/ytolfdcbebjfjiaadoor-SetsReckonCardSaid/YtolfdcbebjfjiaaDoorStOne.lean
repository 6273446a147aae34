/- The byte that sets.Read reads next, by its closure. Conditions: what the two captured variables hold. -/
import Derived.Test.YtolfdcbebjfjiaaDoorStReadP
namespace Go.Proofs.YtolfdcbebjfjiaaDoor
open Go.RowKit
set_option linter.unusedVariables false
/-- Only block a has turned; nothing is new. -/
structure Beside (a : Nat) (w w' : World) : Prop where
  below : Below a w w'
  size : w'.heap.size = w.heap.size
  block : ∀ k, k ≠ a → w'.heap[k]? = w.heap[k]?
theorem Beside.refl (a : Nat) (w : World) : Beside a w w := ⟨Below.refl _ _, rfl, fun _ _ => rfl⟩
theorem Beside.trans {a : Nat} {u v w : World} (h : Beside a u v) (k : Beside a v w) : Beside a u w := ⟨h.below.trans k.below, k.size.trans h.size, fun j hj => (k.block j hj).trans (h.block j hj)⟩
theorem Beside.set {a : Nat} {w w' : World} (h : Beside a w w') (v : Value) : Beside a w (w'.setCell ⟨a, 0, none⟩ v) :=
  ⟨h.below.trans (Below.setCell' (by simp) v), by rw [← h.size]; simp [World.setCell], fun k hk => by rw [← h.block k hk]; simp only [World.setCell, Array.getElem?_modify]; rw [if_neg (fun e => hk e.symm)]⟩
theorem Beside.cell {a : Nat} {w w' : World} (h : Beside a w w') {p : Addr} (hp : p.block ≠ a) : w'.cell? p = w.cell? p := by unfold World.cell?; rw [h.block _ hp]
theorem Beside.frozen {a : Nat} {w w' : World} (h : Beside a w w') {p : Addr} (hp : p.block ≠ a) : w'.frozen? p = w.frozen? p := by unfold World.frozen?; rw [h.block _ hp]
theorem Beside.arr {a b n : Nat} {w w' : World} {f : Nat → Value} (h : Beside a w w') (hb : b ≠ a) (k : ArrAt w b 0 n f) : ArrAt w' b 0 n f :=
  fun j hj => ⟨by rw [h.cell hb]; exact (k j hj).1, by rw [h.frozen hb]; exact (k j hj).2⟩
/-- The two captured variables: the place, the text. -/
structure AtText (w : World) (a T : Nat) (t : ByteArray) (i : Nat) : Prop where
  at_ : w.cell? ⟨a, 0, none⟩ = some (.int .i64 i)
  free : w.frozen? ⟨a, 0, none⟩ = false
  text : w.cell? ⟨T, 0, none⟩ = some (.string t)
  ne : T ≠ a
theorem AtText.set {w : World} {a T i j : Nat} {t : ByteArray} (h : AtText w a T t i) : AtText (w.setCell ⟨a, 0, none⟩ (.int .i64 j)) a T t j :=
  ⟨setCell_cell_same rfl h.at_, by rw [setCell_frozen]; exact h.free, by rw [setCell_cell_other _ _ _ _ (.inl (Ne.symm h.ne))]; exact h.text, h.ne⟩
theorem AtText.kept {w w' : World} {a T i : Nat} {t : ByteArray} (h : AtText w a T t i) (g : Grew w w') : AtText w' a T t i :=
  ⟨g.keeps h.at_, by rw [g.frozen (p := ⟨a, 0, none⟩) (lt_of_cell h.at_)]; exact h.free, g.keeps h.text, h.ne⟩
theorem byteAt_eq {t : ByteArray} {i : Nat} (h : i < t.size) : (t[i]).toNat = byteAt t i := by
  have h' : i < t.data.toList.length := h
  unfold byteAt
  rw [List.getD_eq_getElem?_getD, List.getElem?_eq_getElem h', Option.getD_some]
  rfl
theorem byteAt_lt (t : ByteArray) (i : Nat) : byteAt t i < 256 := by unfold byteAt; have := (t.data.toList.getD i 0).toNat_lt; omega
theorem index_text {t : ByteArray} {i : Nat} (h : i < t.size) (w : World) : (Instr.index 9 (.string t) (.int .i64 i)).run Tryd.prog w = .ok (.int .u8 (byteAt t i)) w := by
  have h2 : t[i]? = some t[i] := by simp [h]
  have e := byteAt_eq h
  simp [Instr.index, asIntOf, Sem.run_bind, run_underlying Tryd.underlying9, h2, ← e]
def oneV : Option Nat → Value
  | some c => .tuple #[.int .u8 c, .bool true]
  | none => .tuple #[.int .u8 0, .bool false]
set_option maxHeartbeats 1000000 in
theorem one_any (a T i : Nat) (t : ByteArray) (w : World) (H : AtText w a T t i) (hi : i ≤ t.size) (ht : t.size ≤ 65536) (o : Option Nat) (p : Nat) (ho : oneR (byteAt t) t.size i = (o, p)) :
    Calls Tryd.prog 35 #[.pointer (some ⟨a, 0, none⟩), .pointer (some ⟨T, 0, none⟩)] w fun e w' => e = .returned (oneV o) ∧ AtText w' a T t p ∧ Beside a w w' := by
  have HH := hidd H
  have c0 := H.at_
  have c1 := H.text
  have cf := H.free
  have hne := H.ne
  have HO := hidd ho
  unfold oneR at ho
  have hbl := byteAt_lt t
  by_cases h1 : t.size ≤ i
  · rw [if_pos h1] at ho
    obtain ⟨rfl, rfl⟩ := Prod.mk.inj ho
    obtain rfl : i = t.size := by omega
    clear H ho
    go_enter Tryd.func35, Tryd.ntmps35
    go_wp2_with fail
    go_ret2
    exact ⟨rfl, HH.out, Beside.refl _ _⟩
  rw [if_neg h1] at ho
  have hx0 := index_text (t := t) (i := i) (by omega)
  by_cases h2 : plainB (byteAt t i) = true
  · rw [if_pos h2] at ho
    obtain ⟨rfl, rfl⟩ := Prod.mk.inj ho
    clear H ho
    go_enter Tryd.func35, Tryd.ntmps35
    go_wp2_with fail
    refine (plain_any _ w (hbl i)).mono ?_; rintro e wp ⟨rfl, rfl⟩
    rw [h2]
    go_wp2_with fail
    go_ret2
    exact ⟨rfl, HH.out.set, (Beside.refl a _).set _⟩
  rw [if_neg h2] at ho
  have h2f : plainB (byteAt t i) = false := by simpa using h2
  by_cases h3 : byteAt t i ≠ 92
  · rw [if_pos h3] at ho
    obtain ⟨rfl, rfl⟩ := Prod.mk.inj ho
    have hn : ((byteAt t i : Int) != 92) = true := by simp; omega
    clear H ho
    go_enter Tryd.func35, Tryd.ntmps35
    go_wp2_with fail
    refine (plain_any _ w (hbl i)).mono ?_; rintro e wp ⟨rfl, rfl⟩
    rw [h2f]
    go_wp2_with fail
    go_ret2
    exact ⟨rfl, HH.out, Beside.refl _ _⟩
  rw [if_neg h3] at ho
  have hn : ((byteAt t i : Int) != 92) = false := by simp; omega
  have K1 := hidd (HH.out.set (j := i + 1))
  have B1 := hidd ((Beside.refl a w).set (.int .i64 ((i + 1 : Nat) : Int)))
  have HOO := hidd ho
  clear H ho
  go_enter Tryd.func35, Tryd.ntmps35
  go_wp2_with fail
  refine (plain_any _ w (hbl i)).mono ?_; rintro e wp ⟨rfl, rfl⟩
  rw [h2f]
  have e1 : (((i + 1 : Nat) : Int)) = (i : Int) + 1 := by omega
  rw [e1] at K1 B1
  go_wp2_with fail
  go_loopw [5, 24] (fun u5 u24 wr => ∃ (j : Nat) (N : Int), u24 = .int .i64 j ∧ u5 = .int .i64 N ∧ Hid (AtText wr a T t (i + 1 + j)) ∧ Hid (Beside a wp wr) ∧
    ((j = 0 ∧ N = 0) ∨ (j = 1 ∧ N = digV (byteAt t (i + 1)) ∧ i + 1 < t.size ∧ 0 ≤ N) ∨ (j = 2 ∧ N = 16 * digV (byteAt t (i + 1)) + digV (byteAt t (i + 2)) ∧ i + 2 < t.size ∧ 0 ≤ digV (byteAt t (i + 1)) ∧ 0 ≤ digV (byteAt t (i + 2))))) (fun _ u24 _ => 2 - (intOf u24).toNat)
  case atStart => exact ⟨0, 0, rfl, rfl, K1, B1, Or.inl ⟨rfl, rfl⟩⟩
  case round =>
    obtain ⟨j, N, rfl, rfl, KA, KB, hj⟩ := hrel
    clear K1 B1 c0 c1 cf
    have c1 := KA.out.text
    have cf := KA.out.free
    rcases hj with ⟨rfl, rfl⟩ | ⟨rfl, rfl, hi1, hd1⟩ | ⟨rfl, rfl, hi2, hd1, hd2⟩
    · obtain ⟨q, hq⟩ : ∃ q, q = i + 1 := ⟨_, rfl⟩
      have KA : Hid (AtText wr a T t q) := by rw [hq]; exact KA
      have c0 : wr.cell? ⟨a, 0, none⟩ = some (.int .i64 (q : Int)) := KA.out.at_
      have hdl := digV_lt (byteAt t q)
      rw [← hq] at HOO
      have eq1 : (((q + 1 : Nat) : Int)) = (q : Int) + 1 := by omega
      have HQ : Hid (byteAt t (i + 1) = byteAt t q) := by rw [hq]; rfl
      have HQ1 := hidd hq
      have hql : q ≤ t.size := by omega
      have hdl1 := digV_lt (byteAt t (i + 1))
      clear hq
      by_cases hs : t.size ≤ q
      · have HR : Hid (o = none ∧ p = t.size) := by
          have := HOO.out
          rw [if_pos (by omega)] at this
          obtain ⟨h1, h2⟩ := Prod.mk.inj this
          exact ⟨h1.symm, h2.symm⟩
        have he : (((q : Nat) : Int) == (t.size : Int)) = true := by simp; omega
        go_wp2_with fail
        go_ret2
        exact ⟨by rw [HR.out.1]; rfl, by rw [HR.out.2, show t.size = q by omega]; exact KA.out, KB.out⟩
      · have he : (((q : Nat) : Int) == (t.size : Int)) = false := by simp; omega
        have hx := index_text (t := t) (i := q) (by omega)
        by_cases hd : digV (byteAt t (q)) < 0
        · have HR : Hid (o = none ∧ p = q) := by
            have := HOO.out
            rw [if_neg (by omega), if_pos (by omega)] at this
            obtain ⟨h1, h2⟩ := Prod.mk.inj this
            exact ⟨h1.symm, h2.symm⟩
          have hdd : decide (digV (byteAt t (q)) < 0) = true := decide_eq_true hd
          go_wp2_with fail
          refine (digit_any _ wr (hbl _)).mono ?_; rintro e w5 ⟨rfl, rfl⟩
          go_wp2_with fail
          go_ret2
          exact ⟨by rw [HR.out.1]; rfl, by rw [HR.out.2]; exact KA.out, KB.out⟩
        · have hdd : decide (digV (byteAt t (q)) < 0) = false := decide_eq_false hd
          have KA2 := hidd (KA.out.set (j := q + 1))
          have KB2 := hidd (KB.out.set (.int .i64 ((q + 1 : Nat) : Int)))
          rw [eq1] at KA2 KB2
          go_wp2_with fail
          refine (digit_any _ wr (hbl _)).mono ?_; rintro e w5 ⟨rfl, rfl⟩
          go_wp2_with fail
          refine (digit_any _ w5 (hbl _)).mono ?_; rintro e w6 ⟨rfl, rfl⟩
          go_wp2_with fail
          exact ⟨⟨1, _, (by simp), rfl, (by have e := HQ1.out; subst e; exact KA2), KB2, Or.inr (Or.inl ⟨rfl, (by rw [HQ.out]), (by have := HQ1.out; omega), (by omega)⟩)⟩, (by simp [intOf])⟩
    · obtain ⟨q, hq⟩ : ∃ q, q = i + 2 := ⟨_, rfl⟩
      have KA : Hid (AtText wr a T t q) := by rw [hq]; exact KA
      have c0 : wr.cell? ⟨a, 0, none⟩ = some (.int .i64 (q : Int)) := KA.out.at_
      have hdl := digV_lt (byteAt t q)
      rw [← hq] at HOO
      have eq1 : (((q + 1 : Nat) : Int)) = (q : Int) + 1 := by omega
      have HQ : Hid (byteAt t (i + 2) = byteAt t q) := by rw [hq]; rfl
      have HQ1 := hidd hq
      have hql : q ≤ t.size := by omega
      have hdl1 := digV_lt (byteAt t (i + 1))
      clear hq
      by_cases hs : t.size ≤ q
      · have HR : Hid (o = none ∧ p = t.size) := by
          have := HOO.out
          rw [if_neg (by omega), if_neg (by omega), if_pos (by omega)] at this
          obtain ⟨h1, h2⟩ := Prod.mk.inj this
          exact ⟨h1.symm, h2.symm⟩
        have he : (((q : Nat) : Int) == (t.size : Int)) = true := by simp; omega
        go_wp2_with fail
        go_ret2
        exact ⟨by rw [HR.out.1]; rfl, by rw [HR.out.2, show t.size = q by omega]; exact KA.out, KB.out⟩
      · have he : (((q : Nat) : Int) == (t.size : Int)) = false := by simp; omega
        have hx := index_text (t := t) (i := q) (by omega)
        by_cases hd : digV (byteAt t (q)) < 0
        · have HR : Hid (o = none ∧ p = q) := by
            have := HOO.out
            rw [if_neg (by omega), if_neg (by omega), if_neg (by omega), if_pos (by omega)] at this
            obtain ⟨h1, h2⟩ := Prod.mk.inj this
            exact ⟨h1.symm, h2.symm⟩
          have hdd : decide (digV (byteAt t (q)) < 0) = true := decide_eq_true hd
          go_wp2_with fail
          refine (digit_any _ wr (hbl _)).mono ?_; rintro e w5 ⟨rfl, rfl⟩
          go_wp2_with fail
          go_ret2
          exact ⟨by rw [HR.out.1]; rfl, by rw [HR.out.2]; exact KA.out, KB.out⟩
        · have hdd : decide (digV (byteAt t (q)) < 0) = false := decide_eq_false hd
          have KA2 := hidd (KA.out.set (j := q + 1))
          have KB2 := hidd (KB.out.set (.int .i64 ((q + 1 : Nat) : Int)))
          rw [eq1] at KA2 KB2
          go_wp2_with fail
          refine (digit_any _ wr (hbl _)).mono ?_; rintro e w5 ⟨rfl, rfl⟩
          go_wp2_with fail
          refine (digit_any _ w5 (hbl _)).mono ?_; rintro e w6 ⟨rfl, rfl⟩
          go_wp2_with fail
          exact ⟨⟨2, _, (by simp), rfl, (by have e := HQ1.out; subst e; exact KA2), KB2, Or.inr (Or.inr ⟨rfl, (by rw [HQ.out]), (by have := HQ1.out; omega), hd1, (by rw [HQ.out]; omega)⟩)⟩, (by simp [intOf])⟩
    · have KA : Hid (AtText wr a T t (i + 3)) := KA
      have hdl1 := digV_lt (byteAt t (i + 1))
      have hdl2 := digV_lt (byteAt t (i + 2))
      have HR : Hid (o = some (16 * (digV (byteAt t (i + 1))).toNat + (digV (byteAt t (i + 2))).toNat) ∧ p = i + 3) := by
        have := HOO.out
        rw [if_neg (by omega), if_neg (by omega), if_neg (by omega), if_neg (by omega)] at this
        obtain ⟨h1, h2⟩ := Prod.mk.inj this
        exact ⟨h1.symm, h2.symm⟩
      have HV : Hid (((16 * (digV (byteAt t (i + 1))).toNat + (digV (byteAt t (i + 2))).toNat : Nat) : Int) = 16 * digV (byteAt t (i + 1)) + digV (byteAt t (i + 2))) := by rw [Hid]; omega
      have hw : IntKind.u8.wrap (16 * digV (byteAt t (i + 1)) + digV (byteAt t (i + 2))) = 16 * digV (byteAt t (i + 1)) + digV (byteAt t (i + 2)) := by simp [IntKind.wrap, IntKind.signed, IntKind.bits]; omega
      go_wp2_with fail
      go_ret2
      exact ⟨by rw [HR.out.1]; unfold oneV; dsimp only; rw [HV.out]; rfl, by rw [HR.out.2]; exact KA.out, KB.out⟩
end Go.Proofs.YtolfdcbebjfjiaaDoor
