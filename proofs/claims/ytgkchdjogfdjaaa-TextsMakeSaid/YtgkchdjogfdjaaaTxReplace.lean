/- texts.Replace: at every three texts. -/
import Derived.Test.YtgkchdjogfdjaaaTxLong
import Derived.Test.YtgkchdjogfdjaaaArr
import Derived.Test.YtgkchdjogfdjaaaTxDupl
import Derived.Lib.ItoaWalk
namespace Go.Proofs.Ytgkchdjogfdjaaa
open Go.RowKit
set_option linter.unusedVariables false

def zero256 : Array Value := Array.replicate 256 (.int .u8 0)
theorem zeroB256 (w : World) : (zeroValue 45).run Try.prog w = .ok (.agg zero256) w := by kernel_rfl

def zeroInts256 : Array Value := Array.replicate 256 (.int .i64 0)
theorem zeroI256 (w : World) : (zeroValue 34).run Try.prog w = .ok (.agg zeroInts256) w := by kernel_rfl
/-- The table of bytes after so many were put into it. -/
def tabK (f t : List UInt8) : Nat → Nat → UInt8
  | 0, j => j.toUInt8
  | k + 1, j => if j = (f.getD k 0).toNat then t.getD k 0 else tabK f t k j

set_option maxRecDepth 100000 in
theorem Replace_ok (s f t : ByteArray) (w : World) (h1 : s.size ≤ 65536) (h2 : f.size ≤ 65536) (h3 : t.size = f.size) (h4 : 0 < f.size) :
    Calls Try.prog 17 #[.string s, .string f, .string t] w fun e w' => ∃ r : ByteArray, e = .returned (.tuple #[.string r, .int .i64 0]) ∧ r.data.toList = s.data.toList.map (fun b => tabK f.data.toList t.data.toList f.size b.toNat) ∧ Grew w w' := by
  have hd : (decide (65536 < s.size) || (decide (65536 < f.size) || decide (65536 < t.size))) = false := by simp; omega
  have h5 : ((f.size : Int) != t.size) = false := by simp; omega
  have h6 : f.toList.isEmpty = false := isEmpty_of_size h4
  have H3 := hidd h3
  have hlt : t.size ≤ 65536 := by omega
  have hz := zeroB256
  have A0 : ∀ w : World, ArrAt (w.alloc (.cells zero256 45)) w.heap.size 0 256 (fun j => .int .u8 (if j < 0 then j else 0)) := fun w =>
    ArrAt.new w _ _ _ _ (fun j hj => by simp [zero256, hj])
  have A0' := fun w => hidd (A0 w)
  clear h3 A0
  go_enter Try.func17, Try.ntmps17
  go_wp2_with fail
  refine (long_3 s f t w 9 (by unfold maxLen; omega) (by unfold maxLen; omega) (by unfold maxLen; omega)).mono ?_; rintro e w1 ⟨rfl, rfl⟩
  rw [hd]
  go_wp2_with fail
  have A1 := (A0' (w.alloc (.cells #[.string s, .string f, .string t] 9))).out
  rw [World.size_alloc] at A1
  clear A0' hz
  go_loopw [29] (fun u wr => ∃ k : Nat, k ≤ 256 ∧ u = .int .i64 k ∧ Hid (ArrAt wr (w.heap.size + 1) 0 256 (fun j => .int .u8 (if j < k then j else 0))) ∧ Hid (Below w.heap.size w wr)) (fun u _ => 256 - (intOf u).toNat)
  case atStart => exact ⟨0, by omega, rfl, A1, ((Below.refl _ _).alloc (Nat.le_refl _) _).alloc (by simp) _⟩
  case round =>
    obtain ⟨k, hk, rfl, HA, HB⟩ := hrel
    clear A1
    by_cases hlt : k < 256
    · have hc : wr.cell? ⟨w.heap.size + 1, k, none⟩ = some (.int .u8 0) := by simpa using HA.out.at0 k hlt
      have hf := HA.out.free0 k hlt
      go_wp2_with fail
      go_roundw
      case rel => exact ⟨k + 1, by omega, by go_num, (HA.out.set0 k hlt (.int .u8 (k : Int))).congr (fun j hj => by
          by_cases e : j = k
          · subst e; simp
          · by_cases e2 : j < k
            · simp [e, e2, show j < k + 1 by omega]
            · simp [e, e2, show ¬ j < k + 1 by omega]), HB.out.setCell (by simp) _⟩
      case measure => simp [intOf]; omega
    · have hke : k = 256 := by omega
      subst hke
      have A2 : ArrAt wr (w.heap.size + 1) 0 256 (fun j => .int .u8 ((tabK f.data.toList t.data.toList 0 j).toNat : Int)) := HA.out.congr (fun j hj => by
        simp [tabK, hj]; omega)
      have HA2 := hidd A2
      clear HA A2 hlt
      go_wp2_with fail
      obtain ⟨wo, hwo⟩ : ∃ wo : World, wo = wr := ⟨_, rfl⟩
      go_loopw [39] (fun u wr => ∃ k : Nat, k ≤ f.size ∧ u = .int .i64 k ∧ Hid (ArrAt wr (w.heap.size + 1) 0 256 (fun j => .int .u8 ((tabK f.data.toList t.data.toList k j).toNat : Int))) ∧ Hid (Below w.heap.size w wr)) (fun u _ => f.size - (intOf u).toNat)
      case atStart => exact ⟨0, by omega, rfl, HA2, HB⟩
      case round =>
        obtain ⟨k, hk2, rfl, HA, HB⟩ := hrel
        clear HA2
        by_cases hlt : k < f.size
        · have hlt2 : k < t.size := by have := H3.out; omega
          have hb := (f[k]).toNat_lt
          have hc : wr.cell? ⟨w.heap.size + 1, (f[k]).toNat, none⟩ = some (.int .u8 ((tabK f.data.toList t.data.toList k (f[k]).toNat).toNat : Int)) := HA.out.at0 _ (by omega)
          have hf := HA.out.free0 (f[k]).toNat (by omega)
          go_wp2_with fail
          go_region
          go_wp2_with fail
          go_roundw
          case rel => exact ⟨k + 1, by omega, by go_num, by
            refine ((HA.out.set0 (f[k]).toNat (by omega) (.int .u8 ((t[k]).toNat : Int))).drew).congr (fun j hj => ?_)
            have e1 : f.data.toList.getD k 0 = f[k] := (Lib.getD_at f k hlt).symm
            have e2 : t.data.toList.getD k 0 = t[k] := (Lib.getD_at t k hlt2).symm
            simp only [tabK, e1, e2]
            by_cases e : j = (f[k]).toNat
            · rw [if_pos e, if_pos e]
            · rw [if_neg e, if_neg e], (HB.out.setCell (by simp) _).drew⟩
          case measure => simp [intOf]; omega
        · have hke : k = f.size := by omega
          have HK := hidd hke
          clear hke
          obtain ⟨w5, hmk, A5, g5⟩ := make_bytes s.size (by omega) wr
          have B5 : Hid (ArrAt w5 (w.heap.size + 1) 0 256 (fun j => .int .u8 ((tabK f.data.toList t.data.toList f.size j).toNat : Int))) := by
            have := HA.out.kept g5
            rwa [HK.out] at this
          have H5 : Hid (Below w.heap.size w w5) := HB.out.trans (g5.mono (by have := HB.out.size; omega))
          have hg : w.heap.size + 1 < wr.heap.size := HA.out.lt (by omega)
          have hG : ∃ G : Nat, G = wr.heap.size := ⟨_, rfl⟩
          obtain ⟨G, hG⟩ := hG
          rw [← hG] at A5 hmk hg
          have A5' : Hid (ArrAt w5 G 0 s.size (fun j => if j < 0 then .int .u8 ((tabK f.data.toList t.data.toList f.size (s.data.toList.getD j 0).toNat).toNat : Int) else .int .u8 0)) := A5.congr (fun j hj => by simp)
          have HG := hidd hG
          have hnl : ¬ k < f.size := hlt
          clear A5 HA hG
          go_wp2_with fail
          clear hmk hnl
          have g55 : Hid (w5.heap.size = w5.heap.size) := rfl
          go_loopw [55] (fun u wr => ∃ k : Nat, k ≤ s.size ∧ u = .int .i64 k ∧ Hid (ArrAt wr (w.heap.size + 1) 0 256 (fun j => .int .u8 ((tabK f.data.toList t.data.toList f.size j).toNat : Int))) ∧
              Hid (ArrAt wr G 0 s.size (fun j => if j < k then .int .u8 ((tabK f.data.toList t.data.toList f.size (s.data.toList.getD j 0).toNat).toNat : Int) else .int .u8 0)) ∧ Hid (Below w.heap.size w wr)) (fun u _ => s.size - (intOf u).toNat)
          case atStart => exact ⟨0, by omega, rfl, B5, A5', H5⟩
          case round =>
            obtain ⟨q, hq, rfl, HA, HC, HB⟩ := hrel
            clear B5 A5' H5
            by_cases hlt : q < s.size
            · have hb := (s[q]).toNat_lt
              have es : s.data.toList.getD q 0 = s[q] := (Lib.getD_at s q hlt).symm
              have ES := hidd es
              clear es
              have hc : wr.cell? ⟨w.heap.size + 1, (s[q]).toNat, none⟩ = some (.int .u8 ((tabK f.data.toList t.data.toList f.size (s[q]).toNat).toNat : Int)) := HA.out.at0 _ (by omega)
              obtain ⟨x, hx⟩ : ∃ x : Nat, x = (tabK f.data.toList t.data.toList f.size (s[q]).toNat).toNat := ⟨_, rfl⟩
              rw [← hx] at hc
              have HX := hidd hx
              clear hx
              have hd : wr.cell? ⟨G, q, none⟩ = some (.int .u8 0) := by simpa using HC.out.at0 q hlt
              have hf := HC.out.free0 q hlt
              go_wp2_with fail
              go_roundw
              case rel => exact ⟨q + 1, by omega, by go_num, HA.out.other _ (by simp; omega) _, (HC.out.set0 q hlt (.int .u8 (x : Int))).congr (fun j hj => by
                by_cases e : j = q
                · subst e; rw [if_pos rfl, if_pos (by omega), HX.out, ES.out]
                · by_cases e2 : j < q
                  · rw [if_neg e, if_pos e2, if_pos (by omega)]
                  · rw [if_neg e, if_neg e2, if_neg (by omega)]), HB.out.setCell (by simp; omega) _⟩
              case measure => simp [intOf]; omega
            · have hqe : q = s.size := by omega
              have hs := string_arr (s.data.toList.map (fun b => tabK f.data.toList t.data.toList f.size b.toNat)) (by rw [List.length_map, ← size_data]) _ HC.out (fun j hj => by
                simp only [List.length_map] at hj
                rw [if_pos (by rw [hqe, size_data]; exact hj)]
                simp [List.getD_eq_getElem?_getD, List.getElem?_eq_getElem hj]) s.size
              have HQ := hidd hqe
              clear hqe
              go_wp2_with fail
              go_ret2
              exact ⟨_, rfl, str_mk _, HB.out⟩

theorem Replace_much (s f t : ByteArray) (w : World) (hs : s.size ≤ maxLen) (hf : f.size ≤ maxLen) (ht : t.size ≤ maxLen) (h : 65536 < s.size ∨ 65536 < f.size ∨ 65536 < t.size) :
    Calls Try.prog 17 #[.string s, .string f, .string t] w fun e w' => e = .returned (.tuple #[.string ⟨#[]⟩, .int .i64 4]) ∧ Grew w w' := by
  have hd : (decide (65536 < s.size) || (decide (65536 < f.size) || decide (65536 < t.size))) = true := by simpa using h
  have HH := hidd h
  clear h
  go_enter Try.func17, Try.ntmps17
  go_wp2_with fail
  refine (long_3 s f t w 9 hs hf ht).mono ?_; rintro e w1 ⟨rfl, rfl⟩
  rw [hd]
  go_wp2_with fail
  go_ret2
  exact ⟨rfl, (Grew.refl _).alloc _⟩
theorem Replace_fit (s f t : ByteArray) (w : World) (hs : s.size ≤ 65536) (hf : f.size ≤ 65536) (ht : t.size ≤ 65536) (h : f.size ≠ t.size ∨ f.size = 0) :
    Calls Try.prog 17 #[.string s, .string f, .string t] w fun e w' => e = .returned (.tuple #[.string ⟨#[]⟩, .int .i64 8]) ∧ Grew w w' := by
  have hd : (decide (65536 < s.size) || (decide (65536 < f.size) || decide (65536 < t.size))) = false := by simp; omega
  by_cases h1 : f.size = t.size
  · have h5 : ((f.size : Int) != t.size) = false := by simp; omega
    have h6 : f.toList.isEmpty = true := by rw [nil_of_size (by omega)]; rfl
    have HH := hidd h
    clear h h1
    go_enter Try.func17, Try.ntmps17
    go_wp2_with fail
    refine (long_3 s f t w 9 (by unfold maxLen; omega) (by unfold maxLen; omega) (by unfold maxLen; omega)).mono ?_; rintro e w1 ⟨rfl, rfl⟩
    rw [hd]
    go_wp2_with fail
    go_ret2
    exact ⟨rfl, (Grew.refl _).alloc _⟩
  · have h5 : ((f.size : Int) != t.size) = true := by simp; omega
    have HH := hidd h
    clear h h1
    go_enter Try.func17, Try.ntmps17
    go_wp2_with fail
    refine (long_3 s f t w 9 (by unfold maxLen; omega) (by unfold maxLen; omega) (by unfold maxLen; omega)).mono ?_; rintro e w1 ⟨rfl, rfl⟩
    rw [hd]
    go_wp2_with fail
    go_ret2
    exact ⟨rfl, (Grew.refl _).alloc _⟩
end Go.Proofs.Ytgkchdjogfdjaaa
