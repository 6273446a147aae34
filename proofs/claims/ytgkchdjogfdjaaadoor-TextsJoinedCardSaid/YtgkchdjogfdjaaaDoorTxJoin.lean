/- texts.Join and the reference's: at every list of texts. Conditions: each text's reach. -/
import Derived.Test.YtgkchdjogfdjaaaDoorTxSplit
import Derived.Test.YtgkchdjogfdjaaaDoorTxJoinL
import Derived.Test.YtgkchdjogfdjaaaDoorTxSame
namespace Go.Proofs.YtgkchdjogfdjaaaDoor
open Go.RowKit
set_option linter.unusedVariables false
/-- What Join answers. -/
def joinS (l : List ByteArray) (g : ByteArray) : ByteArray × Nat := if g.size ≠ 1 then (⟨#[]⟩, 8) else if 65537 < sumL l then (⟨#[]⟩, 4) else (joinB (signOf g) l, 0)
theorem joinS_fit {l : List ByteArray} {g : ByteArray} (h : g.size ≠ 1) : joinS l g = (⟨#[]⟩, 8) := if_pos h
theorem joinS_much {l : List ByteArray} {g : ByteArray} (h : g.size = 1) (h2 : 65537 < sumL l) : joinS l g = (⟨#[]⟩, 4) := by unfold joinS; rw [if_neg (by omega), if_pos h2]
theorem joinS_ok {l : List ByteArray} {g : ByteArray} (h : g.size = 1) (h2 : ¬ 65537 < sumL l) : joinS l g = (joinB (signOf g) l, 0) := by unfold joinS; rw [if_neg (by omega), if_neg h2]
def joinV (l : List ByteArray) (g : ByteArray) : Value := .tuple #[.string (joinS l g).1, .int .i64 ((joinS l g).2 : Nat)]
theorem StrsArg.len {w : World} {v : Value} {l : List ByteArray} (h : StrsArg w v l) : ∃ a c, v = .slice a l.length c ∧ l.length ≤ 9223372036854775807 := by
  rcases h with ⟨a, c, h, e⟩ | ⟨b, o, c, h, h0, h1, h2, _⟩
  · exact ⟨a, c, by rw [e]; exact h, by rw [e]; simp⟩
  · exact ⟨_, c, h, by unfold maxLen at h2; omega⟩
theorem StrsArg.at {w : World} {a : Option Addr} {n c : Nat} {l : List ByteArray} (h : StrsArg w (.slice a n c) l) {k : Nat} (hk : k < l.length) : ∃ b o : Nat, a = some ⟨b, o, none⟩ ∧ w.cell? ⟨b, o + k, none⟩ = some (.string (l.getD k ByteArray.empty)) := by
  rcases h with ⟨_, _, e, e2⟩ | ⟨b, o, c, e, _, _, _, h⟩
  · rw [e2] at hk; simp at hk
  · cases e; exact ⟨b, o, rfl, h k hk⟩
theorem mem_getD {l : List ByteArray} {k : Nat} (h : k < l.length) : l.getD k ByteArray.empty ∈ l := by
  rw [List.getD_eq_getElem?_getD, List.getElem?_eq_getElem h]; exact List.getElem_mem h
theorem lib_Join (l : List ByteArray) (g : ByteArray) (v : Value) (w : World) (h : StrsArg w v l) (hg : g.size = 1) (hl : sumL l ≤ 65537) : Calls Tryd.prog 25 #[v, .string g] w fun e w' => e = .returned (.string (joinB (signOf g) l)) ∧ Grew w w' := by
  have hle := join_le (signOf g) l
  have hll := length_le_sumL l
  have e0 : joinB (signOf g) l = ⟨(Lib.join (l.map (·.data.toList)) g.data.toList).toArray⟩ := by rw [sign_list g hg]; rfl
  rcases h with ⟨a, c, rfl, rfl⟩ | ⟨b, o, c, rfl, h0, h1, h2, h3⟩
  · refine (Tryd.strings_Join_none a c g w).mono ?_; rintro e w' ⟨rfl, rfl⟩
    exact ⟨rfl, Grew.refl _⟩
  · rw [e0]
    exact Tryd.strings_Join b o c l g w (fun j x hj => by
      have hjl : j < l.length := (List.getElem?_eq_some_iff.1 hj).1
      rw [h3 j hjl, List.getD_eq_getElem?_getD, hj]; rfl) (lt_of_cell (h3 0 h0)) (by omega) h1 (by rw [sign_list g hg]; unfold ld at hle; omega)
theorem Join_fit (l : List ByteArray) (g : ByteArray) (v : Value) (w : World) (h : StrsArg w v l) (hg : g.size ≠ 1) (hm : g.size ≤ maxLen) : Calls Tryd.prog 9 #[v, .string g] w fun e w' => e = .returned (joinV l g) ∧ Grew w w' := by
  unfold joinV
  rw [joinS_fit hg]
  have hz : ((g.size : Int) != 1) = true := by rw [bne_iff_ne]; omega
  clear hg h
  go_enter Tryd.func9, Tryd.ntmps9
  go_wp2_with fail
  go_ret2
  exact ⟨rfl, Grew.refl _⟩
theorem Join_one (l : List ByteArray) (g : ByteArray) (v : Value) (w : World) (h : StrsArg w v l) (hg : g.size = 1) (hz : ∀ s ∈ l, s.size ≤ 140737488355328) : Calls Tryd.prog 9 #[v, .string g] w fun e w' => e = .returned (joinV l g) ∧ Grew w w' := by
  obtain ⟨p, c, rfl, hn⟩ := h.len
  have HS := hidd h
  have HZ := hidd hz
  have HJ := hidd (fun hl => lib_Join l g _ w h hg hl)
  have hz1 : ((g.size : Int) != 1) = false := by rw [bne_eq_false_iff_eq]; omega
  have HG1 := hidd hg
  clear h hz hg
  go_enter Tryd.func9, Tryd.ntmps9
  go_wp2_with fail
  go_loopw [6, 14] (fun v6 v14 wr => ∃ k n : Nat, v14 = .int .i64 k ∧ v6 = .int .i64 n ∧ k ≤ l.length ∧ n ≤ 65537 ∧ wr = w ∧ Hid (n = sumL (l.take k))) (fun _ v14 _ => l.length - (intOf v14).toNat)
  case atStart => exact ⟨0, 0, rfl, rfl, by omega, by omega, rfl, rfl⟩
  case round =>
    obtain ⟨k, n, rfl, rfl, hk, hn1, rfl, HN⟩ := hrel
    by_cases hlt : k < l.length
    · obtain ⟨b, o, rfl, c0⟩ := HS.out.at hlt
      have hx := HZ.out _ (mem_getD hlt)
      have HN2 := hidd (sumL_succ hlt)
      obtain ⟨x, hx0⟩ : ∃ x, l.getD k ByteArray.empty = x := ⟨_, rfl⟩
      rw [hx0] at c0 hx HN2
      clear hx0
      rw [← HN.out] at HN2
      have hkl : decide ((k : Int) < (l.length : Int)) = true := decide_eq_true (by omega)
      by_cases hbig : 65537 < n + (x.size + 1)
      · have kb : decide ((65537 : Int) < (n : Int) + ((x.size : Int) + 1)) = true := decide_eq_true (by omega)
        have HV : Hid (joinV l g = .tuple #[.string ⟨#[]⟩, .int .i64 4]) := by
          unfold joinV
          rw [joinS_much HG1.out (by have := sumL_take_le l (k + 1); have := HN2.out; omega)]; rfl
        go_wp2_with fail
        go_ret2
        exact ⟨by rw [HV.out]; rfl, Grew.refl _⟩
      · have kb : decide ((65537 : Int) < (n : Int) + ((x.size : Int) + 1)) = false := decide_eq_false (by omega)
        go_wp2_with fail
        go_roundw
        case rel => exact ⟨k + 1, n + (x.size + 1), by simp, by simp, by omega, by omega, trivial, HN2.out.symm⟩
        case measure => simp [intOf]; omega
    · have hkl : decide ((k : Int) < (l.length : Int)) = false := decide_eq_false (by omega)
      have hsum : n = sumL l := by rw [HN.out, List.take_of_length_le (by omega)]
      have HV : Hid (joinV l g = .tuple #[.string (joinB (signOf g) l), .int .i64 0]) := by
        unfold joinV
        rw [joinS_ok HG1.out (by omega)]; rfl
      have HJ2 := hidd (HJ.out (by omega))
      clear HJ
      go_wp2_with (go_at_call 25; refine HJ2.out.mono ?_; rintro e w1 ⟨rfl, g1⟩)
      go_ret2
      exact ⟨by rw [HV.out]; rfl, g1⟩
theorem Join_all (l : List ByteArray) (g : ByteArray) (v : Value) (w : World) (h : StrsArg w v l) (hm : g.size ≤ maxLen) (hz : ∀ s ∈ l, s.size ≤ 140737488355328) : Calls Tryd.prog 9 #[v, .string g] w fun e w' => e = .returned (joinV l g) ∧ Grew w w' := by
  by_cases hg : g.size = 1
  · exact Join_one l g v w h hg hz
  · exact Join_fit l g v w h hg hm
/-- 'append(v, s...)', s a text, perhaps empty. -/
theorem own_strs {w : World} {B : Nat} {v : Value} {xs : List Value} (h : Own 5 w B v xs) (hB : B ≤ w.heap.size) (s : ByteArray) (hl : xs.length + s.size ≤ 200000000000000) (ty : TypeId) :
    ∃ v' w', (Builtin.append_ #[36, 9] ty #[v, .string s]).run Tryd.prog w = .ok v' w' ∧ Own 5 w' B v' (xs ++ strCells s) ∧ Below B w w' := by
  by_cases h0 : 0 < s.size
  · exact own_str h hB s h0 hl ty
  · have hs : s.size = 0 := by omega
    have hc : strCells s = [] := List.eq_nil_of_length_eq_zero (by rw [strCells_length]; exact hs)
    obtain ⟨i0, hi, hz0, hz1, hz2⟩ := info_parts info_u8
    rw [hc, List.append_nil]
    rcases h.2 with ⟨rfl, h2⟩ | ⟨g, cap, cur, rfl, hbg, hg, hnc, hcm, hcs, htake⟩
    · refine ⟨.slice none 0 0, w, ?_, h, Below.refl _ _⟩
      have hf := first_str (P := Tryd.prog) s 1 w
      rw [hs] at hf
      simp [Builtin.append_, run_underlying Tryd.underlying36, run_underlying Tryd.underlying9, sizeOf, typeInfo, hi, len_str, hs, hz1, hf]
    · simp only [Nat.mul_one] at hcs htake
      have hr := run_append_room_str (P := Tryd.prog) w 36 9 ty 5 i0 Tryd.underlying36 Tryd.underlying9 hi hz1 g xs.length cap cur hg s (by omega) (by omega)
      refine ⟨_, _, hr, ⟨by rw [Nat.mul_one], .inr ⟨g, cap, _, by rw [hs, Nat.add_zero], hbg, setRow_heap w g cur _ _ _ hg, by omega, hcm, ?_, ?_⟩⟩, ⟨rfl, rfl, rfl, by simp, fun k hk => setRow_other w g k _ (by omega)⟩⟩
      · simp only [List.size_toArray, List.length_append, List.length_take, List.length_drop, Array.length_toList, strCells_length]
        omega
      · rw [hc, List.append_nil, htake, Nat.mul_one]
        exact List.take_left
theorem RJoin_fit (l : List ByteArray) (g : ByteArray) (v : Value) (w : World) (h : StrsArg w v l) (hg : g.size ≠ 1) (hm : g.size ≤ maxLen) : Calls Tryd.prog 10 #[v, .string g] w fun e w' => e = .returned (joinV l g) ∧ Grew w w' := by
  unfold joinV
  rw [joinS_fit hg]
  have hz : ((g.size : Int) != 1) = true := by rw [bne_iff_ne]; omega
  clear hg h
  go_enter Tryd.func10, Tryd.ntmps10
  go_wp2_with fail
  go_ret2
  exact ⟨rfl, Grew.refl _⟩
def bytesC (l : List UInt8) : List Value := l.map fun b => .int .u8 (b.toNat : Int)
theorem bytesC_append (a b : List UInt8) : bytesC (a ++ b) = bytesC a ++ bytesC b := by simp [bytesC]
theorem RJoin_one (l : List ByteArray) (g : ByteArray) (v : Value) (w : World) (h : StrsArg w v l) (hg : g.size = 1) (hz : ∀ s ∈ l, s.size ≤ 140737488355328) : Calls Tryd.prog 10 #[v, .string g] w fun e w' => e = .returned (joinV l g) ∧ Grew w w' := by
  obtain ⟨p, c, rfl, hn⟩ := h.len
  have HS := hidd h
  have HZ := hidd hz
  have hz1 : ((g.size : Int) != 1) = false := by rw [bne_eq_false_iff_eq]; omega
  have HG1 := hidd hg
  have hg1 : 0 < g.size := by omega
  have HT : Hid (signOf g = g[0]) := (Lib.getD_at g 0 hg1).symm
  obtain ⟨z, hz0⟩ : ∃ z, g[0] = z := ⟨_, rfl⟩
  obtain ⟨C, hC⟩ : ∃ C, signOf g = C := ⟨_, rfl⟩
  have hcz : C = z := by rw [← hC, HT.out, hz0]
  subst hcz
  have HC := hidd hC
  have HO := hidd (Own.nil 5 w w.heap.size)
  have HG := hidd (Grew.refl w)
  clear h hz hg HT hC
  go_enter Tryd.func10, Tryd.ntmps10
  go_wp2_with fail
  go_loopw [6, 14] (fun v6 v14 wr => ∃ k : Nat, v14 = .int .i64 k ∧ k ≤ l.length ∧ w.heap.size ≤ wr.heap.size ∧ (jn C l k).length ≤ 65536 ∧ Hid (Own 5 wr w.heap.size v6 (bytesC (jn C l k))) ∧ Hid (Grew w wr)) (fun _ v14 _ => l.length - (intOf v14).toNat)
  case atStart => exact ⟨0, rfl, by omega, by omega, by simp [jn_zero], HO, HG⟩
  case round =>
    obtain ⟨k, rfl, hk, hsz, hjl, HO, HG⟩ := hrel
    by_cases hlt : k < l.length
    · obtain ⟨b, o, rfl, c00⟩ := HS.out.at hlt
      have c0 := HG.out.keeps c00
      have hx := HZ.out _ (mem_getD hlt)
      have HJ1 := hidd (fun h0 : k = 0 => (jn_one C (l := l) (by omega)))
      have HJs := hidd (fun h0 : 0 < k => jn_succ C h0 hlt)
      have HLn := hidd (jn_len C (l := l) (k + 1) (by omega) (by omega))
      have HLe := hidd (sumL_take_le l (k + 1))
      have hkl : decide ((k : Int) < (l.length : Int)) = true := decide_eq_true (by omega)
      by_cases hk0 : k = 0
      · subst hk0
        have hj1 := HJ1.out rfl
        obtain ⟨x, hx0⟩ : ∃ x, l.getD 0 ByteArray.empty = x := ⟨_, rfl⟩
        rw [hx0, Nat.add_zero] at c0
        rw [hx0] at hx hj1
        clear hx0 c00
        have HOe : Hid (Own 5 wr w.heap.size u6 []) := HO.out
        obtain ⟨v', w', hap, ho2, hb2⟩ := own_strs HOe.out hsz x (by simp; omega) 36
        have HO2 : Hid (Own 5 w' w.heap.size v' (bytesC (jn C l 1))) := by
          rw [hj1]; exact ho2
        have HB2 := hidd (HG.out.below hb2 (Nat.le_refl _))
        have hsz2 : w.heap.size ≤ w'.heap.size := HB2.out.size
        have hln : (jn C l 1).length = x.size := by rw [hj1, ← size_data]
        obtain ⟨p', c', hv'⟩ := HO2.out.len
        have hv2 : v' = .slice p' x.size c' := by rw [hv', show (bytesC (jn C l 1)).length = x.size by rw [bytesC, List.length_map, hln]]
        subst hv2
        clear ho2 hb2 hv' hj1
        by_cases hbig : 65536 < x.size
        · have kb : decide ((65536 : Int) < (x.size : Int)) = true := decide_eq_true (by omega)
          have HV : Hid (joinV l g = .tuple #[.string ⟨#[]⟩, .int .i64 4]) := by
            unfold joinV
            rw [joinS_much HG1.out (by have h1 := HLn.out; have h2 := HLe.out; rw [Nat.zero_add] at h1 h2; omega)]; rfl
          go_wp2_with (at_builtin; refine wpList_append_eq rfl rfl rfl rfl hap ?_)
          go_ret2
          exact ⟨by rw [HV.out]; rfl, HB2.out⟩
        · have kb : decide ((65536 : Int) < (x.size : Int)) = false := decide_eq_false (by omega)
          go_wp2_with (at_builtin; refine wpList_append_eq rfl rfl rfl rfl hap ?_)
          go_roundw
          case rel => exact ⟨1, by simp, by omega, hsz2, by omega, HO2, HB2⟩
          case measure => simp [intOf]; omega
      · have hjs := HJs.out (by omega)
        have kk : decide ((0 : Int) < (k : Int)) = true := decide_eq_true (by omega)
        obtain ⟨x, hx0⟩ : ∃ x, l.getD k ByteArray.empty = x := ⟨_, rfl⟩
        rw [hx0] at c00 c0 hx hjs
        clear hx0
        obtain ⟨v1, w1, hap1, ho1, hb1⟩ := own_byte HO.out hsz (C.toNat : Int) (by rw [bytesC, List.length_map]; omega) 36 5
        have HB1 := hidd (HG.out.below hb1 (Nat.le_refl _))
        have hsz1 : w.heap.size ≤ w1.heap.size := HB1.out.size
        obtain ⟨v', w', hap, ho2, hb2⟩ := own_strs ho1 hsz1 x (by simp [bytesC]; omega) 36
        have HO2 : Hid (Own 5 w' w.heap.size v' (bytesC (jn C l (k + 1)))) := by
          rw [hjs, bytesC_append, bytesC_append]; exact ho2
        have HB2 := hidd (HB1.out.below hb2 (Nat.le_refl _))
        have hsz2 : w.heap.size ≤ w'.heap.size := HB2.out.size
        obtain ⟨N, hN⟩ : ∃ N, (jn C l (k + 1)).length = N := ⟨_, rfl⟩
        obtain ⟨p', c', hv'⟩ := HO2.out.len
        have hv2 : v' = .slice p' N c' := by rw [hv', bytesC, List.length_map, hN]
        subst hv2
        have hNs : N + 1 = sumL (l.take (k + 1)) := by rw [← hN]; exact HLn.out
        have HNs := hidd hNs
        have c1 := HB1.out.keeps c00
        clear ho1 hb1 ho2 hb2 hv' hjs c00 hNs
        by_cases hbig : 65536 < N
        · have kb : decide ((65536 : Int) < (N : Int)) = true := decide_eq_true (by omega)
          have HV : Hid (joinV l g = .tuple #[.string ⟨#[]⟩, .int .i64 4]) := by
            unfold joinV
            rw [joinS_much HG1.out (by have h1 := HNs.out; have h2 := HLe.out; omega)]; rfl
          go_wp2_with (at_builtin; first | refine wpList_append_eq rfl rfl rfl rfl hap1 ?_ | refine wpList_append_eq rfl rfl rfl rfl hap ?_)
          go_ret2
          exact ⟨by rw [HV.out]; rfl, HB2.out⟩
        · have kb : decide ((65536 : Int) < (N : Int)) = false := decide_eq_false (by omega)
          go_wp2_with (at_builtin; first | refine wpList_append_eq rfl rfl rfl rfl hap1 ?_ | refine wpList_append_eq rfl rfl rfl rfl hap ?_)
          go_roundw
          case rel => exact ⟨k + 1, by simp, by omega, hsz2, by omega, HO2, HB2⟩
          case measure => simp [intOf]; omega
    · have hkl : decide ((k : Int) < (l.length : Int)) = false := decide_eq_false (by omega)
      have hke : k = l.length := by omega
      have hsm : ¬ 65537 < sumL l := by
        rcases Nat.eq_zero_or_pos l.length with h0 | h0
        · rw [List.eq_nil_of_length_eq_zero h0, sumL_nil]; omega
        · have h1 := jn_len C (l := l) k (by omega) hk
          rw [List.take_of_length_le (by omega)] at h1
          omega
      have HV : Hid (joinV l g = .tuple #[.string ⟨(jn C l k).toArray⟩, .int .i64 0]) := by
        unfold joinV
        rw [joinS_ok HG1.out hsm, HC.out, jn_all C l (by omega)]; rfl
      have hcv := own_string (jn C l k) HO.out
      clear hsm hke
      go_wp2_with fail
      go_ret2
      exact ⟨by rw [HV.out]; rfl, HG.out⟩
theorem RJoin_all (l : List ByteArray) (g : ByteArray) (v : Value) (w : World) (h : StrsArg w v l) (hm : g.size ≤ maxLen) (hz : ∀ s ∈ l, s.size ≤ 140737488355328) : Calls Tryd.prog 10 #[v, .string g] w fun e w' => e = .returned (joinV l g) ∧ Grew w w' := by
  by_cases hg : g.size = 1
  · exact RJoin_one l g v w h hg hz
  · exact RJoin_fit l g v w h hg hm
end Go.Proofs.YtgkchdjogfdjaaaDoor
