/- scanfailbig: low, of, SetBit (a bit set in a number of no sign). -/
import Derived.Test.YthhcpocgfmlbeaaBgN
namespace Go.Proofs.Ythhcpocgfmlbeaa
open Go.RowKit
set_option linter.unusedVariables false
theorem wpList_copy_eq {ops : Array Oper} {rest : List Oper} {o : Oper} {a : Act} {Q : Exit → Act → World → Prop} {w w' : World} (hgd : o.guard = none) {s x : Operand} {t t2 : TypeId}
    (ho : o.op = .call { callee := .builtin .copy, args := #[s, x], argTypes := #[t, t2] }) {v u v' : Value} (hs : a.eval s = v) (hx : a.eval x = u)
    (hr : (Builtin.copy_ #[t, t2] o.type #[v, u]).run Try.prog w = .ok v' w') (h : wpList Try.prog ops Q rest (a.put o.dst v') w') : wpList Try.prog ops Q (o :: rest) a w := by
  refine wpList_plain hgd fun _ hK => ?_
  unfold Oper.wp execOp
  simp only [ho, resolve, invoke, builtin, Sem.run_bind, Sem.run_pure, Result.andThen_ok, List.map_toArray, List.map_cons, List.map_nil, hs, hx, hr]
  exact hK _ _ h
theorem arr_setCells {b n : Nat} : ∀ (cs : List Value) (o : Nat) (w : World) (f : Nat → Value), ArrAt w b 0 n f → o + cs.length ≤ n → ArrAt (w.setCells b o cs) b 0 n (fun j => if o ≤ j ∧ j < o + cs.length then cs.getD (j - o) (.bool false) else f j)
  | [], o, w, f, h, _ => h.congr fun j hj => by rw [if_neg (by simp)]
  | v :: vs, o, w, f, h, hl => by
    rw [List.length_cons] at hl
    have ih := arr_setCells vs (o + 1) _ _ (h.set0 o (by omega) v) (by omega)
    refine ih.congr fun j hj => ?_
    by_cases e1 : j = o
    · subst e1
      rw [if_neg (by omega), if_pos rfl, if_pos ⟨Nat.le_refl _, by rw [List.length_cons]; omega⟩, Nat.sub_self]
      rfl
    · by_cases e2 : o + 1 ≤ j ∧ j < o + 1 + vs.length
      · rw [if_pos e2, if_pos ⟨by omega, by rw [List.length_cons]; omega⟩]
        obtain ⟨k, hk⟩ : ∃ k, j = o + 1 + k := ⟨j - (o + 1), by omega⟩
        subst hk
        simp [show o + 1 + k - o = k + 1 by omega]
      · rw [if_neg e2, if_neg e1, if_neg (by rw [List.length_cons]; omega)]
theorem grew_setCells {w0 : World} {b : Nat} (hb : w0.heap.size ≤ b) : ∀ (cs : List Value) (o : Nat) (w : World), Grew w0 w → Grew w0 (w.setCells b o cs)
  | [], o, w, h => h
  | v :: vs, o, w, h => grew_setCells hb vs (o + 1) _ (h.setCell hb v)
theorem copy_words {w0 w : World} {b n m c c2 : Nat} {p : Option Addr} {A : Nat} (hb : w0.heap.size ≤ b) (hw : Grew w0 w) (h : ArrAt w b 0 n (fun _ => .int .u32 0)) (hA : WordsAt w (.slice p m c) A m) (hm : m ≤ n) (ty : TypeId) :
    ∃ w', (Builtin.copy_ #[29, 29] ty #[.slice (some ⟨b, 0, none⟩) n c2, .slice p m c]).run Try.prog w = .ok (.int .i64 m) w' ∧ ArrAt w' b 0 n (fun j => .int .u32 (dg A j : Nat)) ∧ Grew w0 w' := by
  have hs : (Try.prog.info? 57).map (·.size) = some 1 := by kernel_rfl
  by_cases h0 : m = 0
  · subst h0
    have hz : A = 0 := by have := hA.fits; simp at this; exact this
    subst hz
    refine ⟨w, run_copy_none w _ _ ty 57 _ _ _ _ _ _ Try.underlying29 hs (Nat.zero_min n), h.congr fun j hj => ?_, hw⟩
    simp [dg]
  · obtain ⟨b', o', rfl, hc⟩ := hA.words (by omega)
    have hl : ((List.range m).map fun j => Value.int .u32 (dg A j : Nat)).length = m := by simp
    refine ⟨_, by
      have := run_copy_cells (P := Try.prog) w 29 29 ty 57 b 0 n c2 ⟨b', o', none⟩ m c ((List.range m).map fun j => .int .u32 (dg A j : Nat)) Try.underlying29 hs (by rw [hl]; exact (Nat.min_eq_left hm).symm)
        (fun j u hj => by
          have hlt : j < m := by have := (List.getElem?_eq_some_iff.1 hj).1; simpa using this
          rw [addr_to, hc j hlt]
          simp [hlt] at hj
          rw [hj])
        (fun j hj => by rw [hl] at hj; rw [h.at j (by omega)]; rfl) (fun j hj => by rw [hl] at hj; exact h.free j (by omega))
        (fun u hu => by
          obtain ⟨j, _, rfl⟩ := List.mem_map.1 hu
          rfl)
      rw [hl] at this
      exact this, (arr_setCells _ 0 w _ h (by rw [hl]; omega)).congr fun j hj => ?_, grew_setCells hb _ 0 _ hw⟩
    rw [hl]
    by_cases e : j < m
    · rw [if_pos ⟨Nat.zero_le _, by omega⟩]
      simp [List.getD_eq_getElem?_getD, e]
    · rw [if_neg (by omega), dg_high hA.fits (by omega)]; rfl
section
variable {w : World} {z x y : Nat} {X Y : Int}
set_option maxRecDepth 100000 in
set_option maxHeartbeats 4000000 in
theorem low_any {V n : Nat} (hx : IntAt w x (V : Nat)) (hn : nw V ≤ n) (hn2 : n ≤ 1099511627776) :
    Calls Try.prog 56 #[.pointer (some ⟨x, 0, none⟩), .int .i64 (n : Nat)] w fun e w' => e = .returned (.slice (some ⟨w.heap.size, 0, none⟩) n n) ∧ Grew w w' ∧ ArrAt w' w.heap.size 0 n (fun j => .int .u32 (dg V j : Nat)) := by
  obtain ⟨p, c, hh, hp⟩ := hx
  have e0 : (V : Int).natAbs = V := rfl
  rw [e0] at hh hp
  obtain ⟨wm, hmk, AM, gm⟩ := make_words n (by omega) w
  obtain ⟨wc, hcp, AC, gc⟩ := copy_words (c2 := n) (Nat.le_refl _) gm AM (hp.kept gm) hn 3
  obtain ⟨⟨k0, k1⟩, _⟩ := two_cells (heap_keep gm hh)
  obtain ⟨⟨j0, j1⟩, _⟩ := two_cells (heap_keep gc hh)
  rw [decide_eq_false (show ¬ (V : Int) < 0 by omega)] at k0 j0
  have HC := hidd (And.intro gc AC)
  obtain ⟨m, hm0⟩ : ∃ n, nw V = n := ⟨_, rfl⟩
  rw [hm0] at hcp k1 j1
  clear hh hp hn gm AM AC gc hm0
  go_enter Try.func56, Try.ntmps56
  go_wp2_with (at_builtin; refine wpList_copy_eq rfl rfl rfl rfl hcp ?_)
  go_ret
  exact ⟨rfl, HC.out.1, HC.out.2⟩
set_option maxRecDepth 100000 in
set_option maxHeartbeats 4000000 in
theorem of_any {p : Option Addr} {A n c : Nat} (hz : ObjAt w z) (h : WordsAt w (.slice p (n + 1) c) A (n + 1)) (ht : dg A n = 0) (hn : n ≤ 1099511627776) :
    Calls Try.prog 57 #[.pointer (some ⟨z, 0, none⟩), .slice p (n + 1 : Nat) c] w fun e w' => e = .returned (.pointer (some ⟨z, 0, none⟩)) ∧ But z w w' ∧ IntAt w' z (A : Nat) := by
  have HO := hidd hz
  obtain ⟨b, o, rfl, hc⟩ := h.words (by omega)
  have ct := hc n (by omega)
  rw [ht] at ct
  obtain ⟨_, _, he, hac, hac2⟩ := h.form
  cases he
  have HT := hidd (trim_any h)
  have HV : Hid (Calls Try.prog 36 #[.pointer (some ⟨z, 0, none⟩), .bool false, .slice (some ⟨b, o, none⟩) (nw A) c] w fun e w' => e = .returned (.pointer (some ⟨z, 0, none⟩)) ∧ But z w w' ∧ IntAt w' z (A : Nat)) := give_any false hz (trim_words h)
  clear hz h hc ht
  obtain ⟨m, hm0⟩ : ∃ n, nw A = n := ⟨_, rfl⟩
  rw [hm0] at HT HV
  clear hm0
  go_enter Try.func57, Try.ntmps57
  go_wp2_with fail
  refine HT.out.mono ?_; rintro e w1 ⟨rfl, rfl⟩
  go_wp2_with fail
  refine HV.out.mono ?_; rintro e w1 ⟨rfl, b1, i1⟩
  have HB := hidd (And.intro b1 i1)
  clear b1 i1
  go_wp2_with fail
  go_ret
  exact ⟨rfl, HB.out.1, HB.out.2⟩
theorem dg_bit {V i n q s : Nat} (hV : V < B32 ^ n) (hd : 2 ^ (i + 1) ∣ V) (hq : i = q * 32 + s) (hs : s < 32) (hn : q < n) : dg V q % 2 ^ (s + 1) = 0 ∧ dg V q + 2 ^ s < 4294967296 ∧ V + 2 ^ i < B32 ^ n ∧ ∀ j, j < n → updN (dg V) q (dg V q + 2 ^ s) j = dg (V + 2 ^ i) j := by
  have hB : B32 = 2 ^ 32 := by decide
  have h1 : dg V q % 2 ^ (s + 1) = 0 := by
    obtain ⟨m, rfl⟩ := hd
    have : 2 ^ (i + 1) * m / B32 ^ q = 2 ^ (s + 1) * m := by
      rw [hB, ← Nat.pow_mul, show i + 1 = 32 * q + (s + 1) by omega, Nat.pow_add, Nat.mul_assoc, Nat.mul_div_cancel_left _ (Nat.pow_pos (by decide))]
    unfold dg
    rw [this, hB, Nat.mod_mod_of_dvd _ (Nat.pow_dvd_pow 2 (by omega)), Nat.mul_mod_right]
  have h2 : dg V q + 2 ^ s < 4294967296 := by
    have hl := dg_lt V q
    obtain ⟨k, hk⟩ := Nat.dvd_of_mod_eq_zero h1
    have e32 : (4294967296 : Nat) = 2 ^ (s + 1) * 2 ^ (31 - s) := by rw [← Nat.pow_add, show s + 1 + (31 - s) = 32 by omega]
    rw [hk] at hl ⊢
    rw [e32] at hl ⊢
    have hk2 : k < 2 ^ (31 - s) := Nat.lt_of_mul_lt_mul_left hl
    have := Nat.mul_le_mul_left (2 ^ (s + 1)) (show k + 1 ≤ 2 ^ (31 - s) by omega)
    have hp : 0 < 2 ^ s := Nat.pow_pos (by decide)
    rw [Nat.mul_add, Nat.mul_one] at this
    have h3 : 2 ^ (s + 1) = 2 ^ s * 2 := Nat.pow_succ ..
    omega
  have hu := vs_upd (dg V) q (dg V q + 2 ^ s) n hn
  have hlt : ∀ j, j < n → updN (dg V) q (dg V q + 2 ^ s) j < B32 := fun j _ => by
    unfold updN; split
    · exact h2
    · exact dg_lt V j
  have hv : vs (updN (dg V) q (dg V q + 2 ^ s)) n = V + 2 ^ i := by
    rw [vs_dg' hV, Nat.add_mul] at hu
    have : 2 ^ s * B32 ^ q = 2 ^ i := by rw [hB, ← Nat.pow_mul, ← Nat.pow_add, hq]; congr 1; omega
    omega
  refine ⟨h1, h2, by rw [← hv]; exact vs_lt hlt, fun j hj => ?_⟩
  rw [← hv, dg_vs hlt hj]
theorem andn_clear {d s : Nat} (hd : d < 4294967296) (hs : s < 32) (h : d % 2 ^ (s + 1) = 0) : bits .andNot .u32 (d : Int) ((2 ^ s : Nat) : Int) = (d : Int) ∧ bits .or .u32 (d : Int) ((2 ^ s : Nat) : Int) = ((d + 2 ^ s : Nat) : Int) := by
  have hbit : d.testBit s = false := by
    have h1 : (d % 2 ^ (s + 1)).testBit s = d.testBit s := by rw [Nat.testBit_mod_two_pow]; simp
    rw [← h1, h]; simp
  have hp : 2 ^ s < 4294967296 := by
    have : 2 ^ s < 2 ^ 32 := Nat.pow_lt_pow_right (by decide) hs
    simpa using this
  have hz : BitVec.ofNat 32 d &&& BitVec.ofNat 32 (2 ^ s) = 0#32 := by
    apply BitVec.eq_of_getLsbD_eq
    intro i hi
    simp only [BitVec.getLsbD_and, BitVec.getLsbD_ofNat, hi, decide_true, Bool.true_and]
    rw [Nat.testBit_two_pow]
    by_cases e : s = i
    · subst e; rw [hbit]; simp
    · simp [e]
  have hsum : d + 2 ^ s < 4294967296 := by
    obtain ⟨k, hk⟩ := Nat.dvd_of_mod_eq_zero h
    have e32 : (4294967296 : Nat) = 2 ^ (s + 1) * 2 ^ (31 - s) := by rw [← Nat.pow_add, show s + 1 + (31 - s) = 32 by omega]
    rw [hk] at hd ⊢
    rw [e32] at hd ⊢
    have hk2 : k < 2 ^ (31 - s) := Nat.lt_of_mul_lt_mul_left hd
    have := Nat.mul_le_mul_left (2 ^ (s + 1)) (show k + 1 ≤ 2 ^ (31 - s) by omega)
    have hp : 0 < 2 ^ s := Nat.pow_pos (by decide)
    rw [Nat.mul_add, Nat.mul_one] at this
    have h3 : 2 ^ (s + 1) = 2 ^ s * 2 := Nat.pow_succ ..
    omega
  have ha : BitVec.ofInt 32 (d : Int) = BitVec.ofNat 32 d := rfl
  have hb : BitVec.ofInt 32 ((2 ^ s : Nat) : Int) = BitVec.ofNat 32 (2 ^ s) := BitVec.ofInt_natCast ..
  obtain ⟨t, ht⟩ : ∃ t, 2 ^ s = t := ⟨_, rfl⟩
  rw [ht] at hp hz hsum hb ⊢
  constructor
  · show IntKind.wrap .u32 (((BitVec.ofInt 32 (d : Int)) &&& ~~~(BitVec.ofInt 32 (t : Int))).toNat : Int) = _
    rw [ha, hb]
    have : BitVec.ofNat 32 d &&& ~~~(BitVec.ofNat 32 t) = BitVec.ofNat 32 d := by
      apply BitVec.eq_of_getLsbD_eq
      intro i hi
      have := congrArg (fun v => BitVec.getLsbD v i) hz
      simp only [BitVec.getLsbD_and, BitVec.getLsbD_zero] at this
      simp only [BitVec.getLsbD_and, BitVec.getLsbD_not, hi, decide_true, Bool.true_and]
      revert this
      cases (BitVec.ofNat 32 d).getLsbD i <;> cases (BitVec.ofNat 32 t).getLsbD i <;> simp
    rw [this, BitVec.toNat_ofNat]
    unfold IntKind.wrap; simp [IntKind.signed, IntKind.bits]; omega
  · show IntKind.wrap .u32 (((BitVec.ofInt 32 (d : Int)) ||| (BitVec.ofInt 32 (t : Int))).toNat : Int) = _
    rw [ha, hb, ← BitVec.add_eq_or_of_and_eq_zero _ _ hz, BitVec.toNat_add, BitVec.toNat_ofNat, BitVec.toNat_ofNat]
    unfold IntKind.wrap
    simp only [IntKind.signed, IntKind.bits]
    rw [Nat.mod_eq_of_lt (show d < 2 ^ 32 by omega), Nat.mod_eq_of_lt (show t < 2 ^ 32 by omega), Nat.mod_eq_of_lt (show d + t < 2 ^ 32 by omega)]
    simp
    omega
end
end Go.Proofs.Ythhcpocgfmlbeaa
