/- scanfailbig: trim, words, plain, give: at words of any number. -/
import Derived.Test.YthhcpocgfmlbeaaDoorBgM
import Derived.BigQuiet
import Derived.Deep.QuietTactic
namespace Go.Proofs.YthhcpocgfmlbeaaDoor
open Go.RowKit
set_option linter.unusedVariables false
set_option maxRecDepth 100000 in
set_option maxHeartbeats 1000000 in
theorem trim_any {w : World} {p : Option Addr} {A n c : Nat} (h : WordsAt w (.slice p n c) A n) :
    Calls Tryd.prog 86 #[.slice p n c] w fun e w' => e = .returned (.slice p (nw A) c) ∧ w' = w := by
  have HW := hidd h
  obtain ⟨_, _, he, hc, hc2⟩ := h.form
  cases he
  clear h
  go_enter Tryd.func86, Tryd.ntmps86
  go_wp2_with fail
  go_loopw [3] (fun u wr => ∃ k : Nat, k ≤ n ∧ u = .int .i64 k ∧ Hid (A < B32 ^ k) ∧ wr = w) (fun u _ => (intOf u).toNat)
  case atStart => exact ⟨n, Nat.le_refl _, rfl, HW.out.fits, rfl⟩
  case round =>
    obtain ⟨k, hk, rfl, HA, rfl⟩ := hrel
    cases k with
    | zero =>
      have hz : nw A = 0 := by have := nw_le HA.out; omega
      go_wp2_with fail
      go_ret
      exact ⟨by rw [hz]; rfl, rfl⟩
    | succ k =>
      obtain ⟨b, o, rfl, hcell⟩ := HW.out.words (by omega)
      have ck := hcell k (by omega)
      clear hcell
      by_cases hd : dg A k = 0
      · have HD := hidd (lt_top HA.out hd)
        rw [hd] at ck
        clear hd
        go_wp2_with fail
        go_roundw
        case rel => exact ⟨k, by omega, by go_num, HD, trivial⟩
        case measure => simp [intOf]
      · have hz : nw A = k + 1 := nw_top HA.out hd
        have hd2 : (((dg A k : Nat) : Int) == 0) = false := by rw [beq_eq_false_iff_ne]; omega
        go_wp2_with fail
        go_ret
        exact ⟨by rw [hz]; rfl, rfl⟩
theorem trim_words {w : World} {p : Option Addr} {A n c : Nat} (h : WordsAt w (.slice p n c) A n) : WordsAt w (.slice p (nw A) c) A (nw A) := h.cut (nw_le h.fits) (nw_lt A)
theorem dg_two (x : Nat) : dg x 0 = x % 4294967296 ∧ dg x 1 = x / 4294967296 % 4294967296 := by
  constructor
  · unfold dg; rw [Nat.pow_zero, Nat.div_one]
  · unfold dg; rw [Nat.pow_one]
theorem two_words {x : Nat} : x < B32 ^ 2 ↔ x < 18446744073709551616 := by rw [show B32 ^ 2 = 18446744073709551616 by decide]
set_option maxRecDepth 100000 in
set_option maxHeartbeats 1000000 in
theorem words_any (x : Nat) (hx : x < 18446744073709551616) (w : World) :
    Calls Tryd.prog 84 #[.int .u64 x] w fun e w' => Grew w w' ∧ ∃ p c, e = .returned (.slice p (nw x) c) ∧ WordsAt w' (.slice p (nw x) c) x (nw x) := by
  obtain ⟨d0, d1⟩ := dg_two x
  have h0 : IntKind.u32.wrap (x : Int) = (dg x 0 : Nat) := by rw [d0]; unfold IntKind.wrap; simp [IntKind.signed, IntKind.bits]
  have h1 : IntKind.u32.wrap ((x : Int) / 4294967296) = (dg x 1 : Nat) := by rw [d1]; unfold IntKind.wrap; simp [IntKind.signed, IntKind.bits]
  have HT : Hid (∀ w1 p, WordsAt w1 (.slice p 2 2) x 2 → Calls Tryd.prog 86 #[.slice p 2 2] w1 fun e w' => e = .returned (.slice p (nw x) 2) ∧ w' = w1) := fun w1 p h => trim_any h
  have HN : Hid (WordsAt (w.alloc (.cells #[.int .u32 (dg x 0 : Nat), .int .u32 (dg x 1 : Nat)] 103)) (.slice (some ⟨w.heap.size, 0, none⟩) 2 2) x 2) := by
    refine ⟨two_words.2 hx, _, 2, rfl, Nat.le_refl _, by omega, fun _ => ⟨_, 0, rfl, fun j hj => ?_⟩⟩
    rw [World.cell?_alloc_mark]
    match j, hj with
    | 0, _ => rfl
    | 1, _ => rfl
  clear hx d0 d1
  go_enter Tryd.func84, Tryd.ntmps84
  go_wp2_with fail
  refine (HT.out _ _ HN.out).mono ?_; rintro e w1 ⟨rfl, rfl⟩
  go_wp2_with fail
  go_ret
  exact ⟨(Grew.refl w).alloc _, _, 2, rfl, trim_words HN.out⟩
theorem plain_two {A : Nat} (h : A < 18446744073709551616) : (dg A 0 ||| dg A 1 * 4294967296) = A := by
  obtain ⟨d0, d1⟩ := dg_two A
  have h1 : dg A 0 < 2 ^ 32 := dg_lt A 0
  have := Nat.shiftLeft_add_eq_or_of_lt h1 (dg A 1)
  rw [Nat.or_comm, show dg A 1 * 4294967296 = dg A 1 <<< 32 by rw [Nat.shiftLeft_eq], ← this, Nat.shiftLeft_eq, d0, d1]
  omega
set_option maxRecDepth 100000 in
set_option maxHeartbeats 1000000 in
theorem plain_any {w : World} {p : Option Addr} {A c : Nat} (h : WordsAt w (.slice p (nw A) c) A (nw A)) (hA : A < 18446744073709551616) :
    Calls Tryd.prog 83 #[.slice p (nw A) c] w fun e w' => e = .returned (.int .u64 A) ∧ w' = w := by
  have h2 : nw A ≤ 2 := nw_le (two_words.2 hA)
  have h0 := h.fits
  by_cases n0 : nw A = 0
  · have e0 : A = 0 := by rw [n0] at h0; simpa using h0
    subst e0
    rw [n0] at h ⊢
    clear h h2 n0 h0 hA
    go_enter Tryd.func83, Tryd.ntmps83
    go_wp2_with fail
    go_ret
    exact ⟨rfl, rfl⟩
  · obtain ⟨b, o, rfl, hc⟩ := h.words (by omega)
    have c0 : w.cell? ⟨b, o, none⟩ = some (.int .u32 (dg A 0 : Nat)) := hc 0 (by omega)
    obtain ⟨_, _, he, hcp, _⟩ := h.form
    cases he
    by_cases n1 : nw A = 1
    · have e0 : dg A 0 = A := by rw [n1] at h0; rw [(dg_two A).1, Nat.mod_eq_of_lt (by simpa using h0)]
      rw [e0] at c0
      rw [n1] at hcp ⊢
      clear h hc h2 n0 h0 n1 e0
      go_enter Tryd.func83, Tryd.ntmps83
      go_wp2_with fail
      go_ret
      exact ⟨rfl, rfl⟩
    · have c1 := hc 1 (by omega)
      rw [show nw A = 2 by omega] at hcp ⊢
      have e0 := plain_two hA
      have l0 := dg_lt A 0
      have l1 := dg_lt A 1
      have HB : Hid (bits .or .u64 (dg A 0 : Nat) ((dg A 1 : Nat) * 4294967296) = (A : Int)) := by
        have := bits_or_u64_nat (dg A 0) (dg A 1 * 4294967296) (by omega) (by omega)
        rw [e0] at this
        unfold Hid; rw [← this]; simp
      have hb := HB.out
      have hw : IntKind.u64.wrap ((dg A 1 : Nat) * 4294967296 : Int) = (dg A 1 : Nat) * 4294967296 := by unfold IntKind.wrap; simp [IntKind.signed, IntKind.bits]; omega
      clear h hc h2 n0 h0 n1 e0
      go_enter Tryd.func83, Tryd.ntmps83
      go_wp2_with fail
      go_ret
      exact ⟨by rw [← HB.out]; rfl, rfl⟩
set_option maxRecDepth 100000 in
set_option maxHeartbeats 1000000 in
theorem give_any {w : World} {z : Nat} {p : Option Addr} {A c : Nat} (neg : Bool) (hz : ObjAt w z) (h : WordsAt w (.slice p (nw A) c) A (nw A)) :
    Calls Tryd.prog 54 #[.pointer (some ⟨z, 0, none⟩), .bool neg, .slice p (nw A) c] w fun e w' => e = .returned (.pointer (some ⟨z, 0, none⟩)) ∧ But z w w' ∧ IntAt w' z (sgI neg A) := by
  obtain ⟨n, p0, l0, c0, hh⟩ := hz
  have HE : Hid (IntAt ((w.setCell ⟨z, 1, none⟩ (.slice p (nw A) c)).setCell ⟨z, 0, none⟩ (.bool (neg && decide (0 < nw A)))) z (sgI neg A)) := by
    refine ⟨p, c, ?_, ?_⟩
    · rw [set_heap (set_heap hh 1 _) 0 _, sgI_neg, sgI_abs]; rfl
    · rw [sgI_abs]; exact h.but ⟨_, _, _, _, hh⟩ (((But.refl z w).set _).set _)
  have HB : Hid (But z w ((w.setCell ⟨z, 1, none⟩ (.slice p (nw A) c)).setCell ⟨z, 0, none⟩ (.bool (neg && decide (0 < nw A))))) := ((But.refl z w).set _).set _
  obtain ⟨⟨k0, k1⟩, kf⟩ := two_cells hh
  obtain ⟨m, hm⟩ : ∃ m, nw A = m := ⟨_, rfl⟩
  rw [hm] at HE HB ⊢
  clear h hh hm
  cases neg
  all_goals
    go_enter Tryd.func54, Tryd.ntmps54
    go_wp2_with fail
    go_ret
    exact ⟨rfl, HB.out, HE.out⟩
/-- As two numbers stand. -/
def cmpI (A C : Nat) : Int := if A < C then -1 else if A = C then 0 else 1
theorem u32_ne {x y : Nat} (h : x ≠ y) : ((x : Int) == (y : Int)) = false := by rw [beq_eq_false_iff_ne]; omega
set_option maxRecDepth 100000 in
set_option maxHeartbeats 1000000 in
theorem cmp_any {w : World} {p q : Option Addr} {A C c d : Nat} (hA : WordsAt w (.slice p (nw A) c) A (nw A)) (hC : WordsAt w (.slice q (nw C) d) C (nw C)) :
    Calls Tryd.prog 82 #[.slice p (nw A) c, .slice q (nw C) d] w fun e w' => e = .returned (.int .i64 (cmpI A C)) ∧ ∃ k, w' = w.drewN k := by
  obtain ⟨_, _, he, hac, hac2⟩ := hA.form
  cases he
  obtain ⟨_, _, he, hcc, hcc2⟩ := hC.form
  cases he
  by_cases hl : nw A = nw C
  · have hfA := hA.fits
    have hfC := hC.fits
    rw [← hl] at hC hfC hcc ⊢
    have HA := hidd hA
    have HC := hidd hC
    have HS := hidd (high_same hfA hfC)
    obtain ⟨n, hn⟩ : ∃ n, nw A = n := ⟨_, rfl⟩
    rw [hn] at HA HC HS hac hcc ⊢
    clear hA hC hl hfA hfC hn
    go_enter Tryd.func82, Tryd.ntmps82
    go_wp2_with fail
    go_loopw [5] (fun u wr => ∃ (k : Nat) (z : Int), k ≤ n ∧ z = (k : Int) - 1 ∧ u = .int .i64 z ∧ Hid (A / B32 ^ k = C / B32 ^ k) ∧ Hid (∃ m, wr = w.drewN m)) (fun u _ => (intOf u + 1).toNat)
    case atStart => exact ⟨n, _, Nat.le_refl _, rfl, by go_num, HS, 0, rfl⟩
    case round =>
      obtain ⟨k, z, hk, hz, rfl, HE, HD⟩ := hrel
      obtain ⟨nd, rfl⟩ := HD.out
      clear HD
      cases k with
      | zero =>
        have HF : Hid (cmpI A C = 0) := by
          have := HE.out
          rw [Nat.pow_zero, Nat.div_one, Nat.div_one] at this
          unfold Hid cmpI; rw [if_neg (by omega), if_pos this]
        have e0 : decide ((0 : Int) ≤ z) = false := decide_eq_false (by omega)
        clear hz
        go_wp2_with fail
        go_ret
        exact ⟨by rw [HF.out]; rfl, nd, rfl⟩
      | succ k =>
        obtain rfl : z = (k : Int) := by omega
        clear hz
        obtain ⟨b, o, rfl, hcA⟩ := HA.out.words (by omega)
        obtain ⟨b', o', rfl, hcC⟩ := HC.out.words (by omega)
        have ca := hcA k (by omega)
        have cc := hcC k (by omega)
        clear hcA hcC
        by_cases hd : dg A k = dg C k
        · have HN := hidd (high_down HE.out hd)
          rw [← hd] at cc
          clear hd
          go_wp2_with fail
          go_quiet (fail)
          go_wp2_with fail
          go_roundw
          case rel => exact ⟨k, _, by omega, rfl, by go_num, HN, _, rfl⟩
          case measure => simp [intOf]
        · have e1 := u32_ne hd
          by_cases hlt : dg A k < dg C k
          · have HF : Hid (cmpI A C = -1) := if_pos (high_lt HE.out hlt)
            have e2 : decide (((dg A k : Nat) : Int) < (dg C k : Nat)) = true := decide_eq_true (by omega)
            have e3 : decide (dg A k < dg C k) = true := decide_eq_true hlt
            clear hd hlt
            go_wp2_with fail
            go_quiet (fail)
            go_wp2_with fail
            go_quiet (fail)
            go_wp2_with fail
            go_ret
            exact ⟨by rw [HF.out]; rfl, _, by rw [World.drewN_drewN, World.drewN_drewN]⟩
          · have HF : Hid (cmpI A C = 1) := by
              have := high_lt HE.out.symm (show dg C k < dg A k by omega)
              unfold Hid cmpI; rw [if_neg (by omega), if_neg (by omega)]
            have e2 : decide (((dg A k : Nat) : Int) < (dg C k : Nat)) = false := decide_eq_false (by omega)
            have e3 : decide (dg A k < dg C k) = false := decide_eq_false hlt
            clear hd hlt
            go_wp2_with fail
            go_quiet (fail)
            go_wp2_with fail
            go_quiet (fail)
            go_wp2_with fail
            go_ret
            exact ⟨by rw [HF.out]; rfl, _, by rw [World.drewN_drewN, World.drewN_drewN]⟩
  · have e1 : (((nw A : Nat) : Int) == (nw C : Nat)) = false := u32_ne hl
    by_cases hlt : nw A < nw C
    · have HF : Hid (cmpI A C = -1) := if_pos (lt_of_nw hlt)
      have e2 : decide (nw A < nw C) = true := decide_eq_true hlt
      clear hA hC hl hlt
      go_enter Tryd.func82, Tryd.ntmps82
      go_wp2_with fail
      go_ret
      exact ⟨by rw [HF.out]; rfl, 0, rfl⟩
    · have HF : Hid (cmpI A C = 1) := by
        have := lt_of_nw (show nw C < nw A by omega)
        unfold Hid cmpI; rw [if_neg (by omega), if_neg (by omega)]
      have e2 : decide (nw A < nw C) = false := decide_eq_false hlt
      clear hA hC hl hlt
      go_enter Tryd.func82, Tryd.ntmps82
      go_wp2_with fail
      go_ret
      exact ⟨by rw [HF.out]; rfl, 0, rfl⟩
end Go.Proofs.YthhcpocgfmlbeaaDoor
