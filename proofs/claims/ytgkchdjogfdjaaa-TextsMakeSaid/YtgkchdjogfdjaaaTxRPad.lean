/- The reference's Pad: at every text, length, sign and side. -/
import Derived.Test.YtgkchdjogfdjaaaTxMuch
import Derived.Test.YtgkchdjogfdjaaaOwn
import Derived.Test.YtgkchdjogfdjaaaTxPad
import Derived.Lib.ItoaWalk
namespace Go.Proofs.Ytgkchdjogfdjaaa
open Go.RowKit
set_option linter.unusedVariables false

def padCells (f : ByteArray) (k : Nat) : List Value := (Lib.repeatL f.data.toList k).map fun b => .int .u8 b.toNat

theorem RPad_err (s : ByteArray) (n : Int) (f : ByteArray) (left : Bool) (w : World) (hs : s.size ≤ maxLen) (hf : f.size ≤ maxLen) (h : padE s n f ≠ 0) :
    Calls Try.prog 25 #[.string s, .int .i64 n, .string f, .bool left] w fun e w' => e = .returned (.tuple #[.string ⟨#[]⟩, .int .i64 (padE s n f)]) ∧ Grew w w' := by
  have hf' := hf
  unfold maxLen at hf'
  by_cases h1 : 65536 < s.size
  · have hd : decide (65536 < s.size) = true := by simpa using h1
    have HE : Hid (padE s n f = 4) := if_pos h1
    rw [HE.out]
    clear h
    go_enter Try.func25, Try.ntmps25
    go_wp2_with fail
    refine (much_1 s w 9 hs).mono ?_; rintro e w1 ⟨rfl, rfl⟩
    rw [hd]
    go_wp2_with fail
    go_ret2
    exact ⟨rfl, (Grew.refl _).alloc _⟩
  · have hd : decide (65536 < s.size) = false := by simpa using h1
    by_cases h2 : f.size ≠ 1
    · have HE : Hid (padE s n f = 8) := by rw [Hid, padE, if_neg h1, if_pos h2]
      rw [HE.out]
      have h2' : ((f.size : Int) != 1) = true := by simp; omega
      clear h h2
      go_enter Try.func25, Try.ntmps25
      go_wp2_with fail
      refine (much_1 s w 9 hs).mono ?_; rintro e w1 ⟨rfl, rfl⟩
      rw [hd]
      go_wp2_with fail
      go_ret2
      exact ⟨rfl, (Grew.refl _).alloc _⟩
    · by_cases h3 : 65536 < n
      · have HE : Hid (padE s n f = 4) := by rw [Hid, padE, if_neg h1, if_neg h2, if_pos h3]
        rw [HE.out]
        have h2' : ((f.size : Int) != 1) = false := by simp; omega
        clear h h2
        go_enter Try.func25, Try.ntmps25
        go_wp2_with fail
        refine (much_1 s w 9 hs).mono ?_; rintro e w1 ⟨rfl, rfl⟩
        rw [hd]
        go_wp2_with fail
        go_ret2
        exact ⟨rfl, (Grew.refl _).alloc _⟩
      · exact absurd (by rw [padE, if_neg h1, if_neg h2, if_neg h3]) h

theorem RPad_ok (s : ByteArray) (n : Int) (f : ByteArray) (left : Bool) (w : World) (h : padE s n f = 0) (hn : -9223372036854775808 ≤ n) :
    Calls Try.prog 25 #[.string s, .int .i64 n, .string f, .bool left] w fun e w' => ∃ r : ByteArray, e = .returned (.tuple #[.string r, .int .i64 0]) ∧ r.data.toList = (if left then Lib.repeatL f.data.toList (n - s.size).toNat ++ s.data.toList else s.data.toList ++ Lib.repeatL f.data.toList (n - s.size).toNat) ∧ Grew w w' := by
  have h1 : s.size ≤ 65536 ∧ f.size = 1 ∧ n ≤ 65536 := by
    unfold padE at h
    by_cases a : 65536 < s.size
    · rw [if_pos a] at h; omega
    · rw [if_neg a] at h
      by_cases b : f.size ≠ 1
      · rw [if_pos b] at h; omega
      · rw [if_neg b] at h
        by_cases c : 65536 < n
        · rw [if_pos c] at h; omega
        · omega
  obtain ⟨h1, h2, h3⟩ := h1
  have hd : decide (65536 < s.size) = false := by simpa using h1
  have h2' : ((f.size : Int) != 1) = false := by simp; omega
  have h2p : 0 < f.size := by omega
  obtain ⟨c, hc⟩ : ∃ c, f.data.toList = [c] := by
    have hl : f.data.toList.length = 1 := by rw [← size_data]; exact h2
    match hh : f.data.toList, hl with
    | [c], _ => exact ⟨c, rfl⟩
  have hcf : f[0] = c := by
    have e1 : f[0] = f.data.toList.getD 0 0 := Lib.getD_at f 0 h2p
    rw [e1, hc]; rfl
  have hcl := c.toNat_lt
  have H2 := hidd h2
  have HC := hidd hc
  have hf : f.size ≤ 65536 := by omega
  clear h h2 hc
  obtain ⟨m, hm⟩ : ∃ m : Nat, m = (n - s.size).toNat := ⟨_, rfl⟩
  have hm2 : m ≤ 65536 ∧ ((m = 0 ∧ n ≤ s.size) ∨ n = s.size + m) := by omega
  obtain ⟨hmb, hm3⟩ := hm2
  have HM := hidd hm
  clear hm
  go_enter Try.func25, Try.ntmps25
  go_wp2_with fail
  refine (much_1 s w 9 (by unfold maxLen; omega)).mono ?_; rintro e w1 ⟨rfl, rfl⟩
  rw [hd]
  go_wp2_with fail
  go_loopw [10] (fun v wr => ∃ (k : Nat) (ad : Option Addr) (cap : Nat), k ≤ m ∧ v = .slice ad k cap ∧ Hid (Own 5 wr (w.heap.size + 1) v (padCells f k)) ∧ Hid (Below w.heap.size w wr) ∧ w.heap.size + 1 ≤ wr.heap.size) (fun v _ => m - (match v with | .slice _ k _ => k | _ => 0))
  case atStart => exact ⟨0, none, 0, by omega, rfl, by unfold Hid; simpa [padCells, Lib.repeatL] using Own.nil _ _ _, (Grew.refl w).alloc _, by simp⟩
  case round =>
    obtain ⟨k, ad, cap, hk, rfl, HO, HB, hsz⟩ := hrel
    have hln : (padCells f k).length = k := by rw [padCells, List.length_map, Lib.repeatL_length, ← size_data, H2.out, Nat.mul_one]
    by_cases hlt : k < m
    · have hlt2 : (s.size : Int) + k < n := by omega
      obtain ⟨v', w', hap, HO', HB'⟩ := own_byte HO.out (B := w.heap.size + 1) hsz (c.toNat : Int) (by rw [hln]; omega) 35 5
      have hsucc : padCells f k ++ [.int .u8 (c.toNat : Int)] = padCells f (k + 1) := by
        unfold padCells
        rw [Lib.repeatL_add, Lib.repeatL_one, List.map_append, HC.out]; rfl
      rw [hsucc] at HO'
      obtain ⟨ad', cap', hv'⟩ := HO'.len
      have hln2 : (padCells f (k + 1)).length = k + 1 := by rw [padCells, List.length_map, Lib.repeatL_length, ← size_data, H2.out, Nat.mul_one]
      rw [hln2] at hv'
      subst hv'
      have HO2 := hidd HO'
      have HB2 := hidd HB'
      clear HO' HB' hln hln2 hsucc hm3
      go_wp2_with (at_builtin; refine wpList_append_eq rfl rfl rfl rfl hap ?_)
      go_roundw
      case rel => exact ⟨k + 1, ad', cap', by omega, rfl, HO2.out, HB.out.trans (HB2.out.mono (by omega)), by have := HB2.out.size; omega⟩
      case measure => simp; omega
    · have hkm : k = m := by omega
      have hge : ¬ (s.size : Int) + k < n := by omega
      have hconv := own_string (Lib.repeatL f.data.toList k) HO.out
      obtain ⟨l, hl⟩ : ∃ l, l = Lib.repeatL f.data.toList k := ⟨_, rfl⟩
      rw [← hl] at hconv
      have hll : (⟨l.toArray⟩ : ByteArray).size = k := by rw [size_data, str_mk, hl, Lib.repeatL_length, ← size_data, H2.out, Nat.mul_one]
      have HL : Hid (l = Lib.repeatL f.data.toList (n - s.size).toNat) := by rw [hl, hkm, HM.out]; rfl
      obtain ⟨x, hx⟩ : ∃ x : ByteArray, x = ⟨l.toArray⟩ := ⟨_, rfl⟩
      rw [← hx] at hconv hll
      have HX := hidd hx
      clear hkm hl hln hx hm3
      cases left
      · go_wp2_with fail
        go_ret2
        exact ⟨_, rfl, by rw [data_append, HX.out, HL.out, str_mk, show (n - s.size).toNat = n.toNat - s.size by omega], HB.out⟩
      · go_wp2_with fail
        go_ret2
        exact ⟨_, rfl, by rw [data_append, HX.out, HL.out, str_mk, show (n - s.size).toNat = n.toNat - s.size by omega], HB.out⟩
end Go.Proofs.Ytgkchdjogfdjaaa
