/- The reference's Dupl: at every text and number. -/
import Derived.Test.YtgkchdjogfdjaaaTxMuch
import Derived.Test.YtgkchdjogfdjaaaOwn
import Derived.Lib.Repeat
namespace Go.Proofs.Ytgkchdjogfdjaaa
open Go.RowKit
set_option linter.unusedVariables false

def duplCells (s : ByteArray) (k : Nat) : List Value := (Lib.repeatL s.data.toList k).map fun b => .int .u8 b.toNat
theorem duplCells_length (s : ByteArray) (k : Nat) : (duplCells s k).length = k * s.size := by rw [duplCells, List.length_map, Lib.repeatL_length, ← size_data]
theorem duplCells_succ (s : ByteArray) (k : Nat) : duplCells s k ++ strCells s = duplCells s (k + 1) := by
  unfold duplCells strCells
  rw [← List.map_append, Lib.repeatL_add, Lib.repeatL_one]

theorem RDupl_much (s : ByteArray) (n : Int) (w : World) (hs : s.size ≤ maxLen) (h : 65536 < s.size) :
    Calls Try.prog 22 #[.string s, .int .i64 n] w fun e w' => e = .returned (.tuple #[.string ⟨#[]⟩, .int .i64 4]) ∧ Grew w w' := by
  have hd : decide (65536 < s.size) = true := by simpa using h
  go_enter Try.func22, Try.ntmps22
  go_wp2_with fail
  refine (much_1 s w 9 hs).mono ?_; rintro e w1 ⟨rfl, rfl⟩
  rw [hd]
  go_wp2_with fail
  go_ret2
  exact ⟨rfl, (Grew.refl _).alloc _⟩

theorem RDupl_range (s : ByteArray) (n : Int) (w : World) (h : s.size ≤ 65536) (hn : n < 0) :
    Calls Try.prog 22 #[.string s, .int .i64 n] w fun e w' => e = .returned (.tuple #[.string ⟨#[]⟩, .int .i64 3]) ∧ Grew w w' := by
  have hd : decide (65536 < s.size) = false := by simpa using h
  go_enter Try.func22, Try.ntmps22
  go_wp2_with fail
  refine (much_1 s w 9 (by unfold maxLen; omega)).mono ?_; rintro e w1 ⟨rfl, rfl⟩
  rw [hd]
  go_wp2_with fail
  go_ret2
  exact ⟨rfl, (Grew.refl _).alloc _⟩

theorem RDupl_all (s : ByteArray) (n : Int) (w : World) (h : s.size ≤ 65536) (hn : 0 ≤ n) (hn2 : n ≤ 9223372036854775807) :
    Calls Try.prog 22 #[.string s, .int .i64 n] w fun e w' => ∃ (r : ByteArray) (k : Int), e = .returned (.tuple #[.string r, .int .i64 k]) ∧ Grew w w' ∧
      ((n * s.size ≤ 65536 ∧ k = 0 ∧ r.data.toList = Lib.repeatL s.data.toList n.toNat) ∨ (65536 < n * s.size ∧ k = 4 ∧ r = ⟨#[]⟩)) := by
  have hd : decide (65536 < s.size) = false := by simpa using h
  obtain ⟨n, rfl⟩ := Int.eq_ofNat_of_zero_le hn
  by_cases h0 : s.size = 0
  · have hz : ¬ (0 : Int) < (s.size : Int) := by omega
    have hl : s.data.toList = [] := List.eq_nil_of_length_eq_zero (by rw [← size_data]; exact h0)
    have HF : Hid ((n : Int) * s.size ≤ 65536 ∧ (0 : Int) = 0 ∧ (⟨([] : List UInt8).toArray⟩ : ByteArray).data.toList = Lib.repeatL s.data.toList n) := by
      rw [hl, h0, Lib.repeatL_nil]; exact ⟨by simp, rfl, rfl⟩
    have hsz : s.size ≤ 65536 := h
    clear h0 hl
    go_enter Try.func22, Try.ntmps22
    go_wp2_with fail
    refine (much_1 s w 9 (by unfold maxLen; omega)).mono ?_; rintro e w1 ⟨rfl, rfl⟩
    rw [hd]
    have hconv := own_string (w := w.alloc (.cells #[.string s] 9)) (B := 0) [] (Own.nil _ _ _)
    go_wp2_with fail
    go_loop [6, 7] (fun v u => v = .slice none 0 0 ∧ u = .int .i64 0) (fun _ _ => 0)
    case atStart => exact ⟨rfl, rfl⟩
    case round =>
      obtain ⟨rfl, rfl⟩ := hrel
      go_wp2_with fail
      all_goals (go_ret2; exact ⟨_, _, rfl, (Grew.refl _).alloc _, .inl (by have := HF.out; simpa using this)⟩)
  · have hp : (0 : Int) < (s.size : Int) := by omega
    have hp' : 0 < s.size := by omega
    clear h0
    go_enter Try.func22, Try.ntmps22
    go_wp2_with fail
    refine (much_1 s w 9 (by unfold maxLen; omega)).mono ?_; rintro e w1 ⟨rfl, rfl⟩
    rw [hd]
    go_wp2_with fail
    go_loopw [6, 7] (fun v u wr => ∃ k p : Nat, k ≤ n ∧ Hid (p = k * s.size) ∧ p ≤ 65536 ∧ u = .int .i64 k ∧ Hid (Own 5 wr (w.heap.size + 1) v (duplCells s k)) ∧ Hid (Below w.heap.size w wr) ∧ w.heap.size + 1 ≤ wr.heap.size) (fun _ u _ => n - (intOf u).toNat)
    case atStart => exact ⟨0, 0, by omega, by simp [Hid], by omega, rfl, by unfold Hid; simpa [duplCells, Lib.repeatL] using Own.nil _ _ _, (Grew.refl w).alloc _, by simp⟩
    case round =>
      obtain ⟨k, p, hk, HP, hp2, rfl, HO, HB, hsz⟩ := hrel
      have hln := duplCells_length s k
      rw [← HP.out] at hln
      by_cases hlt : k < n
      · obtain ⟨v', w', hap, HO', HB'⟩ := own_str HO.out (B := w.heap.size + 1) hsz s hp' (by rw [hln]; omega) 35
        rw [duplCells_succ] at HO'
        obtain ⟨ad, cap, hv'⟩ := HO'.len
        have hln2 : (duplCells s (k + 1)).length = p + s.size := by rw [duplCells_length, Nat.succ_mul, HP.out]
        rw [hln2] at hv'
        subst hv'
        have HO2 := hidd HO'
        have HB2 := hidd HB'
        have HL2 := hidd hln2
        clear HO' HB' hln hln2
        by_cases hbig : 65536 < p + s.size
        · have hov : Hid (65536 < (n : Int) * s.size) := by
            have h1 := Nat.mul_le_mul_right s.size (show k + 1 ≤ n by omega)
            rw [Nat.succ_mul, ← HP.out] at h1
            have h2 : ((n * s.size : Nat) : Int) = (n : Int) * s.size := by rw [Int.natCast_mul]
            unfold Hid; omega
          go_wp2_with (at_builtin; refine wpList_append_eq rfl rfl rfl rfl hap ?_)
          go_ret2
          exact ⟨_, _, rfl, HB.out.trans (HB2.out.mono (by omega)), .inr ⟨hov.out, rfl, rfl⟩⟩
        · go_wp2_with (at_builtin; refine wpList_append_eq rfl rfl rfl rfl hap ?_)
          go_roundw
          case rel => exact ⟨k + 1, p + s.size, by omega, by unfold Hid; rw [HP.out, Nat.succ_mul], by omega, by go_num, HO2.out, HB.out.trans (HB2.out.mono (by omega)), by have := HB2.out.size; omega⟩
          case measure => simp [intOf]; omega
      · have hkn : k = n := by omega
        have hconv := own_string (Lib.repeatL s.data.toList k) HO.out
        obtain ⟨l, hl⟩ : ∃ l, l = Lib.repeatL s.data.toList k := ⟨_, rfl⟩
        rw [← hl] at hconv
        have HF : Hid ((n : Int) * s.size ≤ 65536 ∧ (0 : Int) = 0 ∧ (⟨l.toArray⟩ : ByteArray).data.toList = Lib.repeatL s.data.toList n) := by
          have h2 : ((n * s.size : Nat) : Int) = (n : Int) * s.size := by rw [Int.natCast_mul]
          have h3 := HP.out
          rw [hkn] at h3
          refine ⟨by omega, rfl, ?_⟩
          rw [str_mk, hl, hkn]
        clear hkn hl hln
        go_wp2_with fail
        go_ret2
        exact ⟨_, _, rfl, HB.out, .inl (by have := HF.out; simpa using this)⟩
end Go.Proofs.Ytgkchdjogfdjaaa
