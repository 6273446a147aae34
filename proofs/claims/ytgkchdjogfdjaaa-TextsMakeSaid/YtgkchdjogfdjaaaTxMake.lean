/- TextsMake: for every three texts and two numbers the law returns true and writes nothing that was there. No condition. -/
import Derived.Test.YtgkchdjogfdjaaaTxSubstr
import Derived.Test.YtgkchdjogfdjaaaTxRSubstr
import Derived.Test.YtgkchdjogfdjaaaTxDupl
import Derived.Test.YtgkchdjogfdjaaaTxRDupl
import Derived.Test.YtgkchdjogfdjaaaTxPad
import Derived.Test.YtgkchdjogfdjaaaTxRPad
import Derived.Test.YtgkchdjogfdjaaaTxReplace
import Derived.Test.YtgkchdjogfdjaaaTxRReplace
namespace Go.Proofs.Ytgkchdjogfdjaaa
open Go.RowKit
set_option linter.unusedVariables false

/-- What a call of these functions leaves: a text with these bytes, this error, and nothing turned. -/
def Told (w : World) (o : List UInt8 × Int) (e : Ending) (w' : World) : Prop := ∃ (r : ByteArray) (k : Int), e = .returned (.tuple #[.string r, .int .i64 k]) ∧ k = o.2 ∧ r.data.toList = o.1 ∧ Grew w w'
theorem Told.mk0 {w w' : World} {e : Ending} {r : ByteArray} {k : Int} {o : List UInt8 × Int} (h : e = .returned (.tuple #[.string r, .int .i64 k])) (h1 : o = (r.data.toList, k)) (g : Grew w w') : Told w o e w' :=
  ⟨r, k, h, by rw [h1], by rw [h1], g⟩

def substrO (s : ByteArray) (a n : Int) : List UInt8 × Int :=
  if 65536 < s.size then ([], 4) else if a < 1 ∨ s.size + 1 < a ∨ n < 0 ∨ s.size + 1 - a < n then ([], 6) else ((s.data.toList.drop (a - 1).toNat).take n.toNat, 0)
theorem Substr_told (s : ByteArray) (a n : Int) (w : World) (hs : s.size ≤ maxLen) : Calls Try.prog 14 #[.string s, .int .i64 a, .int .i64 n] w (Told w (substrO s a n)) := by
  by_cases h1 : 65536 < s.size
  · exact (Substr_much s a n w hs h1).mono fun e w' ⟨h, g⟩ => Told.mk0 h (by rw [substrO, if_pos h1]) g
  · by_cases h2 : a < 1 ∨ s.size + 1 < a ∨ n < 0 ∨ s.size + 1 - a < n
    · exact (Substr_none s a n w (by omega) h2).mono fun e w' ⟨h, g⟩ => Told.mk0 h (by rw [substrO, if_neg h1, if_pos h2]) g
    · exact (Substr_ok s a n w (by omega) (by omega) (by omega) (by omega)).mono fun e w' ⟨r, h, hr, g⟩ => Told.mk0 h (by rw [substrO, if_neg h1, if_neg h2, hr]) g
theorem RSubstr_told (s : ByteArray) (a n : Int) (w : World) (hs : s.size ≤ maxLen) (ba : -9223372036854775808 ≤ a ∧ a ≤ 9223372036854775807) : Calls Try.prog 24 #[.string s, .int .i64 a, .int .i64 n] w (Told w (substrO s a n)) := by
  by_cases h1 : 65536 < s.size
  · exact (RSubstr_much s a n w hs h1).mono fun e w' ⟨h, g⟩ => Told.mk0 h (by rw [substrO, if_pos h1]) g
  · by_cases h2 : a < 1 ∨ s.size + 1 < a ∨ n < 0 ∨ s.size + 1 - a < n
    · exact (RSubstr_none s a n w (by omega) h2 ba).mono fun e w' ⟨h, g⟩ => Told.mk0 h (by rw [substrO, if_neg h1, if_pos h2]) g
    · exact (RSubstr_ok s a n w (by omega) (by omega) (by omega) (by omega)).mono fun e w' ⟨r, h, hr, g⟩ => Told.mk0 h (by rw [substrO, if_neg h1, if_neg h2, hr]) g

def duplO (s : ByteArray) (n : Int) : List UInt8 × Int :=
  if 65536 < s.size then ([], 4) else if n < 0 then ([], 3) else if 65536 < n * s.size then ([], 4) else (Lib.repeatL s.data.toList n.toNat, 0)
theorem Dupl_told (s : ByteArray) (n : Int) (w : World) (hs : s.size ≤ maxLen) (hn : n ≤ 9223372036854775807) : Calls Try.prog 18 #[.string s, .int .i64 n] w (Told w (duplO s n)) := by
  by_cases h1 : 65536 < s.size
  · exact (Dupl_much s n w hs h1).mono fun e w' ⟨h, g⟩ => Told.mk0 h (by rw [duplO, if_pos h1]) g
  · by_cases h2 : n < 0
    · exact (Dupl_range s n w (by omega) h2).mono fun e w' ⟨h, g⟩ => Told.mk0 h (by rw [duplO, if_neg h1, if_pos h2]) g
    · by_cases h3 : 65536 < n * s.size
      · exact (Dupl_over s n w (by omega) (by omega) h3).mono fun e w' ⟨h, g⟩ => Told.mk0 h (by rw [duplO, if_neg h1, if_neg h2, if_pos h3]) g
      · exact (Dupl_ok s n w (by omega) (by omega) hn (by omega)).mono fun e w' ⟨r, h, hr, g⟩ => Told.mk0 h (by rw [duplO, if_neg h1, if_neg h2, if_neg h3, hr]) g
theorem RDupl_told (s : ByteArray) (n : Int) (w : World) (hs : s.size ≤ maxLen) (hn : n ≤ 9223372036854775807) : Calls Try.prog 22 #[.string s, .int .i64 n] w (Told w (duplO s n)) := by
  by_cases h1 : 65536 < s.size
  · exact (RDupl_much s n w hs h1).mono fun e w' ⟨h, g⟩ => Told.mk0 h (by rw [duplO, if_pos h1]) g
  · by_cases h2 : n < 0
    · exact (RDupl_range s n w (by omega) h2).mono fun e w' ⟨h, g⟩ => Told.mk0 h (by rw [duplO, if_neg h1, if_pos h2]) g
    · refine (RDupl_all s n w (by omega) (by omega) hn).mono ?_
      rintro e w' ⟨r, k, h, g, ⟨h3, rfl, hr⟩ | ⟨h3, rfl, rfl⟩⟩
      · exact Told.mk0 h (by rw [duplO, if_neg h1, if_neg h2, if_neg (by omega), hr]) g
      · exact Told.mk0 h (by rw [duplO, if_neg h1, if_neg h2, if_pos h3]) g

def padO (s : ByteArray) (n : Int) (f : ByteArray) (left : Bool) : List UInt8 × Int :=
  if padE s n f = 0 then (if left then Lib.repeatL f.data.toList (n - s.size).toNat ++ s.data.toList else s.data.toList ++ Lib.repeatL f.data.toList (n - s.size).toNat, 0) else ([], padE s n f)
theorem Lpad_told (s : ByteArray) (n : Int) (f : ByteArray) (w : World) (hs : s.size ≤ maxLen) (hf : f.size ≤ maxLen) (hn : -9223372036854775808 ≤ n) : Calls Try.prog 19 #[.string s, .int .i64 n, .string f] w (Told w (padO s n f true)) := by
  by_cases h1 : padE s n f = 0
  · exact (Lpad_ok s n f w h1 hn).mono fun e w' ⟨r, h, hr, g⟩ => Told.mk0 h (by rw [padO, if_pos h1, hr]; rfl) g
  · exact (Lpad_err s n f w hs hf h1).mono fun e w' ⟨h, g⟩ => Told.mk0 h (by rw [padO, if_neg h1]) g
theorem Rpad_told (s : ByteArray) (n : Int) (f : ByteArray) (w : World) (hs : s.size ≤ maxLen) (hf : f.size ≤ maxLen) (hn : -9223372036854775808 ≤ n) : Calls Try.prog 20 #[.string s, .int .i64 n, .string f] w (Told w (padO s n f false)) := by
  by_cases h1 : padE s n f = 0
  · exact (Rpad_ok s n f w h1 hn).mono fun e w' ⟨r, h, hr, g⟩ => Told.mk0 h (by rw [padO, if_pos h1, hr]; rfl) g
  · exact (Rpad_err s n f w hs hf h1).mono fun e w' ⟨h, g⟩ => Told.mk0 h (by rw [padO, if_neg h1]) g
theorem RPad_told (s : ByteArray) (n : Int) (f : ByteArray) (left : Bool) (w : World) (hs : s.size ≤ maxLen) (hf : f.size ≤ maxLen) (hn : -9223372036854775808 ≤ n) : Calls Try.prog 25 #[.string s, .int .i64 n, .string f, .bool left] w (Told w (padO s n f left)) := by
  by_cases h1 : padE s n f = 0
  · exact (RPad_ok s n f left w h1 hn).mono fun e w' ⟨r, h, hr, g⟩ => Told.mk0 h (by rw [padO, if_pos h1, hr]) g
  · exact (RPad_err s n f left w hs hf h1).mono fun e w' ⟨h, g⟩ => Told.mk0 h (by rw [padO, if_neg h1]) g

def replaceO (s f t : ByteArray) : List UInt8 × Int :=
  if 65536 < s.size ∨ 65536 < f.size ∨ 65536 < t.size then ([], 4) else if f.size ≠ t.size ∨ f.size = 0 then ([], 8) else (s.data.toList.map (fun b => tabK f.data.toList t.data.toList f.size b.toNat), 0)
theorem Replace_told (s f t : ByteArray) (w : World) (hs : s.size ≤ maxLen) (hf : f.size ≤ maxLen) (ht : t.size ≤ maxLen) : Calls Try.prog 17 #[.string s, .string f, .string t] w (Told w (replaceO s f t)) := by
  by_cases h1 : 65536 < s.size ∨ 65536 < f.size ∨ 65536 < t.size
  · exact (Replace_much s f t w hs hf ht h1).mono fun e w' ⟨h, g⟩ => Told.mk0 h (by rw [replaceO, if_pos h1]) g
  · by_cases h2 : f.size ≠ t.size ∨ f.size = 0
    · exact (Replace_fit s f t w (by omega) (by omega) (by omega) h2).mono fun e w' ⟨h, g⟩ => Told.mk0 h (by rw [replaceO, if_neg h1, if_pos h2]) g
    · exact (Replace_ok s f t w (by omega) (by omega) (by omega) (by omega)).mono fun e w' ⟨r, h, hr, g⟩ => Told.mk0 h (by rw [replaceO, if_neg h1, if_neg h2, hr]) g
theorem RReplace_told (s f t : ByteArray) (w : World) (hs : s.size ≤ maxLen) (hf : f.size ≤ maxLen) (ht : t.size ≤ maxLen) : Calls Try.prog 23 #[.string s, .string f, .string t] w (Told w (replaceO s f t)) := by
  by_cases h1 : 65536 < s.size ∨ 65536 < f.size ∨ 65536 < t.size
  · exact (RReplace_much s f t w hs hf ht h1).mono fun e w' ⟨h, g⟩ => Told.mk0 h (by rw [replaceO, if_pos h1]) g
  · by_cases h2 : f.size ≠ t.size ∨ f.size = 0
    · exact (RReplace_fit s f t w (by omega) (by omega) (by omega) h2).mono fun e w' ⟨h, g⟩ => Told.mk0 h (by rw [replaceO, if_neg h1, if_pos h2]) g
    · exact (RReplace_ok s f t w (by omega) (by omega) (by omega) (by omega)).mono fun e w' ⟨r, h, hr, g⟩ => Told.mk0 h (by rw [replaceO, if_neg h1, if_neg h2, hr]) g

/-- Two that were told the same. -/
theorem Told.two {w1 w1' w2 w2' : World} {o : List UInt8 × Int} {e1 e2 : Ending} (h1 : Told w1 o e1 w1') (h2 : Told w2 o e2 w2') :
    ∃ (a b : ByteArray) (k : Int), e1 = .returned (.tuple #[.string a, .int .i64 k]) ∧ e2 = .returned (.tuple #[.string b, .int .i64 k]) ∧ b.toList = a.toList ∧ Grew w1 w1' ∧ Grew w2 w2' := by
  obtain ⟨a, k, rfl, hk, ha, g1⟩ := h1
  obtain ⟨b, k', rfl, hk', hb, g2⟩ := h2
  refine ⟨a, b, k, rfl, by rw [hk, hk'], by rw [Lib.toList_data, Lib.toList_data, ha, hb], g1, g2⟩

theorem TextsMake_walk (s f t : ByteArray) (a n : Int) (w : World) (hs : s.size ≤ maxLen) (hf : f.size ≤ maxLen) (ht : t.size ≤ maxLen) (ha : (Lit.int .i64 a).wf = true) (hn : (Lit.int .i64 n).wf = true) :
    Calls Try.prog 11 #[.string s, .string f, .string t, .int .i64 a, .int .i64 n] w fun e w' => e = .returned (.bool true) ∧ Grew w w' := by
  have ba := bd_i64 ha
  have bn := bd_i64 hn
  clear ha hn
  go_enter Try.func11, Try.ntmps11
  go_wp2_with fail
  refine (Dupl_told s n _ hs bn.2).mono ?_
  rintro e1 w1 ⟨a1, k1, rfl, hk1, ha1, g1⟩
  have HK1 := hidd hk1
  have HA1 := hidd ha1
  clear hk1 ha1
  go_wp2_with fail
  refine (RDupl_told s n _ hs bn.2).mono ?_
  rintro e2 w2 ⟨b1, k2, rfl, hk2, hb1, g2⟩
  obtain rfl : k1 = k2 := by rw [hk2, HK1.out]
  have q1 : b1.toList = a1.toList := by rw [Lib.toList_data, Lib.toList_data, hb1, HA1.out]
  clear hk2 hb1 HK1 HA1
  go_wp2_with fail
  refine (Replace_told s f t _ hs hf ht).mono ?_
  rintro e1 w3 ⟨a2, k3, rfl, hk1, ha1, g3⟩
  have HK1 := hidd hk1
  have HA1 := hidd ha1
  clear hk1 ha1
  go_wp2_with fail
  refine (RReplace_told s f t _ hs hf ht).mono ?_
  rintro e2 w4 ⟨b2, k4, rfl, hk2, hb1, g4⟩
  obtain rfl : k3 = k4 := by rw [hk2, HK1.out]
  have q2 : b2.toList = a2.toList := by rw [Lib.toList_data, Lib.toList_data, hb1, HA1.out]
  clear hk2 hb1 HK1 HA1
  go_wp2_with fail
  refine (Substr_told s a n _ hs).mono ?_
  rintro e1 w5 ⟨a3, k5, rfl, hk1, ha1, g5⟩
  have HK1 := hidd hk1
  have HA1 := hidd ha1
  clear hk1 ha1
  go_wp2_with fail
  refine (RSubstr_told s a n _ hs ba).mono ?_
  rintro e2 w6 ⟨b3, k6, rfl, hk2, hb1, g6⟩
  obtain rfl : k5 = k6 := by rw [hk2, HK1.out]
  have q3 : b3.toList = a3.toList := by rw [Lib.toList_data, Lib.toList_data, hb1, HA1.out]
  clear hk2 hb1 HK1 HA1
  go_wp2_with fail
  refine (Lpad_told s n f _ hs hf bn.1).mono ?_
  rintro e1 w7 ⟨a4, k7, rfl, hk1, ha1, g7⟩
  have HK1 := hidd hk1
  have HA1 := hidd ha1
  clear hk1 ha1
  go_wp2_with fail
  refine (RPad_told s n f true _ hs hf bn.1).mono ?_
  rintro e2 w8 ⟨b4, k8, rfl, hk2, hb1, g8⟩
  obtain rfl : k7 = k8 := by rw [hk2, HK1.out]
  have q4 : b4.toList = a4.toList := by rw [Lib.toList_data, Lib.toList_data, hb1, HA1.out]
  clear hk2 hb1 HK1 HA1
  go_wp2_with fail
  refine (Rpad_told s n t _ hs ht bn.1).mono ?_
  rintro e1 w9 ⟨a5, k9, rfl, hk1, ha1, g9⟩
  have HK1 := hidd hk1
  have HA1 := hidd ha1
  clear hk1 ha1
  go_wp2_with fail
  refine (RPad_told s n t false _ hs ht bn.1).mono ?_
  rintro e2 w10 ⟨b5, k10, rfl, hk2, hb1, g10⟩
  obtain rfl : k9 = k10 := by rw [hk2, HK1.out]
  have q5 : b5.toList = a5.toList := by rw [Lib.toList_data, Lib.toList_data, hb1, HA1.out]
  clear hk2 hb1 HK1 HA1
  go_wp2_with fail
  go_ret
  exact ⟨rfl, g1.trans (g2.trans (g3.trans (g4.trans (g5.trans (g6.trans (g7.trans (g8.trans (g9.trans g10))))))))⟩
end Go.Proofs.Ytgkchdjogfdjaaa
