/- TextsReplaced: for every three texts and place the law returns true and writes nothing that was there. No condition. -/
import Derived.Test.YtgkchdjogfdjaaaTxReplace
import Derived.Test.YtgkchdjogfdjaaaTxReverse
import Derived.Deep.DeepCutAuto
namespace Go.Proofs.Ytgkchdjogfdjaaa
open Go.RowKit
set_option linter.unusedVariables false

/-- How often a byte stands among the first so many. -/
def cntK (l : List UInt8) : Nat → Nat → Nat
  | 0, _ => 0
  | k + 1, j => cntK l k j + if (l.getD k 0).toNat = j then 1 else 0
theorem cntK_le (l : List UInt8) (j : Nat) : ∀ k, cntK l k j ≤ k
  | 0 => Nat.le_refl _
  | k + 1 => by have := cntK_le l j k; simp only [cntK]; split <;> omega
theorem cnt_pos (l : List UInt8) (j : Nat) : ∀ n, 1 ≤ cntK l n j → ∃ i, i < n ∧ (l.getD i 0).toNat = j
  | 0, h => by simp [cntK] at h
  | n + 1, h => by
    simp only [cntK] at h
    by_cases e : (l.getD n 0).toNat = j
    · exact ⟨n, by omega, e⟩
    · rw [if_neg e] at h
      obtain ⟨i, hi, hj⟩ := cnt_pos l j n (by omega)
      exact ⟨i, by omega, hj⟩
theorem cnt_of (l : List UInt8) (i : Nat) : ∀ n, i < n → 1 ≤ cntK l n (l.getD i 0).toNat
  | 0, h => by omega
  | n + 1, h => by
    simp only [cntK]
    by_cases e : i = n
    · subst e; rw [if_pos rfl]; omega
    · have := cnt_of l i n (by omega); omega
theorem tab_miss (f t : List UInt8) (j : Nat) : ∀ n, cntK f n j = 0 → tabK f t n j = j.toUInt8
  | 0, _ => rfl
  | n + 1, h => by
    simp only [cntK] at h
    by_cases e : (f.getD n 0).toNat = j
    · rw [if_pos e] at h; omega
    · rw [if_neg e] at h
      rw [tabK, if_neg (fun h => e h.symm)]
      exact tab_miss f t j n (by omega)
theorem tab_hit (f t : List UInt8) (i : Nat) : ∀ n, i < n → cntK f n (f.getD i 0).toNat ≤ 1 → tabK f t n (f.getD i 0).toNat = t.getD i 0
  | 0, h, _ => by omega
  | n + 1, h, hc => by
    simp only [cntK] at hc
    by_cases e : i = n
    · subst e; rw [tabK, if_pos rfl]
    · have h1 := cnt_of f i n (by omega)
      by_cases e2 : (f.getD n 0).toNat = (f.getD i 0).toNat
      · rw [if_pos e2] at hc; omega
      · rw [if_neg e2] at hc
        rw [tabK, if_neg (fun h => e2 h.symm)]
        exact tab_hit f t i n (by omega) (by omega)
theorem tab_back (f t : List UInt8) (n : Nat) (h : ∀ j, j < 256 → cntK f n j ≤ 1 ∧ cntK t n j ≤ 1 ∧ cntK t n j ≤ cntK f n j) (b : UInt8) : tabK t f n (tabK f t n b.toNat).toNat = b := by
  have hb := b.toNat_lt
  have h0 := h b.toNat hb
  by_cases e : cntK f n b.toNat = 0
  · rw [tab_miss f t _ n e]
    have : (b.toNat.toUInt8).toNat = b.toNat := by simp
    rw [this, tab_miss t f _ n (by omega)]; simp
  · obtain ⟨i, hi, hj⟩ := cnt_pos f b.toNat n (by omega)
    have hx := (t.getD i 0).toNat_lt
    rw [← hj, tab_hit f t i n hi (by rw [hj]; omega), tab_hit t f i n hi (h _ hx).2.1]
    exact UInt8.toNat_inj.1 hj

def zeroInts256 : Array Value := Array.replicate 256 (.int .i64 0)
theorem zeroI256 (w : World) : (zeroValue 34).run Try.prog w = .ok (.agg zeroInts256) w := by kernel_rfl
theorem arr_zero256 (w : World) (t : TypeId) (l : List UInt8) : ArrAt (w.alloc (.cells zeroInts256 t)) w.heap.size 0 256 (fun j => .int .i64 (cntK l 0 j)) :=
  ArrAt.new w _ _ _ _ (fun j hj => by simp [zeroInts256, cntK, hj])

set_option maxRecDepth 100000 in
set_option maxHeartbeats 1000000 in
theorem TextsReplaced_main (s f t : ByteArray) (cut : Int) (w : World) (h1 : s.size ≤ 65536) (h2 : f.size ≤ 65536) (h3 : t.size = f.size) (h4 : 0 < f.size) (bc : -9223372036854775808 ≤ cut ∧ cut ≤ 9223372036854775807) :
    Calls Try.prog 7 #[.string s, .string f, .string t, .int .i64 cut] w fun e w' => e = .returned (.bool true) ∧ Grew w w' := by
  have H3 := hidd h3
  have hlt : t.size ≤ 65536 := by omega
  clear h3
  go_enter Try.func7, Try.ntmps7
  go_wp2_with fail
  refine (alive_true _).mono ?_
  rintro e w1 ⟨rfl, g1⟩
  go_wp2_with fail
  refine (Replace_ok s f t _ h1 h2 H3.out h4).mono ?_
  rintro e w2 ⟨a, rfl, ha, g2⟩
  have sa : a.size = s.size := by rw [size_data, ha, List.length_map, ← size_data]
  have HA := hidd ha
  clear ha
  go_upto_region 8 with (fail)
  go_cut [43] (fun s43 wx => s43 = .bool (decide (0 ≤ cut ∧ cut ≤ s.size)) ∧ w2 = wx)
  case first =>
    by_cases c1 : 0 ≤ cut
    · by_cases c2 : cut ≤ s.size
      · go_wp2_with fail
        go_meet
        exact ⟨by simp [c1, c2], rfl⟩
      · go_wp2_with fail
        go_meet
        exact ⟨by simp [c1, c2], rfl⟩
    · go_wp2_with fail
      go_meet
      exact ⟨by simp; omega, rfl⟩
  case rest =>
    obtain ⟨rfl, rfl⟩ := hcut
    go_upto_if 43 with (fail)
    go_cut [] (fun wx => Grew w wx)
    case first =>
      by_cases hc : 0 ≤ cut ∧ cut ≤ s.size
      · obtain ⟨n, rfl⟩ := Int.eq_ofNat_of_zero_le hc.1
        have hn : n ≤ s.size := by omega
        have hd : decide (0 ≤ (n : Int) ∧ (n : Int) ≤ (s.size : Int)) = true := by simpa using hc.2
        rw [hd]
        have z1 : (s.extract 0 n).size ≤ 65536 := by simp; omega
        have z2 : (s.extract n s.size).size ≤ 65536 := by simp; omega
        have Z1 := hidd z1
        have Z2 := hidd z2
        clear z1 z2 hd hc
        go_wp2_with fail
        refine (Replace_ok (s.extract 0 n) f t _ Z1.out h2 H3.out h4).mono ?_
        rintro e w3 ⟨b, rfl, hb, g3⟩
        have HB := hidd hb
        have sb : b.size ≤ 65536 := by rw [size_data, hb, List.length_map, ← size_data]; exact Z1.out
        clear hb
        go_wp2_with fail
        refine (Replace_ok (s.extract n s.size) f t _ Z2.out h2 H3.out h4).mono ?_
        rintro e w4 ⟨c, rfl, hc, g4⟩
        have sc : c.size ≤ 65536 := by rw [size_data, hc, List.length_map, ← size_data]; exact Z2.out
        have hbc : (b ++ c).toList = a.toList := by
          rw [Lib.toList_data, Lib.toList_data, data_append, HB.out, hc, HA.out, Lib.extract_data, Lib.extract_data, List.drop_zero, Nat.sub_zero, List.take_of_length_le (l := List.drop n s.data.toList) (by rw [List.length_drop, ← size_data]; omega), ← List.map_append, List.take_append_drop]
        clear hc
        go_wp2_with fail
        go_meet
        exact g1.trans (g2.trans (g3.trans g4))
      · have hd : decide (0 ≤ cut ∧ cut ≤ (s.size : Int)) = false := by simpa using hc
        rw [hd]
        go_wp2_with fail
        go_meet
        exact g1.trans g2
    case rest =>
      have hz := zeroI256
      have hcv := fun w : World => bytesOf w f
      have A1 := (arr_zero256 wc 34 f.data.toList)
      have A2 := (arr_zero256 (wc.alloc (.cells zeroInts256 34)) 34 t.data.toList)
      rw [World.size_alloc] at A2
      have P1 : ∀ C fr, Hid (ArrAt (((wc.alloc (.cells zeroInts256 34)).alloc (.cells zeroInts256 34)).alloc (.cells C 5 fr)).drew wc.heap.size 0 256 (fun j => .int .i64 (cntK f.data.toList 0 j))) := fun C fr => ((A1.alloc _).alloc _).drew
      have P2 : ∀ C fr, Hid (ArrAt (((wc.alloc (.cells zeroInts256 34)).alloc (.cells zeroInts256 34)).alloc (.cells C 5 fr)).drew (wc.heap.size + 1) 0 256 (fun j => .int .i64 (cntK t.data.toList 0 j))) := fun C fr => (A2.alloc _).drew
      have P3 : ∀ C fr, Hid (Below wc.heap.size wc (((wc.alloc (.cells zeroInts256 34)).alloc (.cells zeroInts256 34)).alloc (.cells C 5 fr)).drew) := fun C fr => ((((Grew.refl wc).alloc _).alloc _).alloc _).drew
      have GC := hidd hcut
      have hG : ∃ G : Nat, G = wc.heap.size := ⟨_, rfl⟩
      obtain ⟨G, hG⟩ := hG
      have HG := hidd hG
      clear A1 A2 hcut hG
      go_wp2_with fail
      go_loopw [78] (fun u wr => ∃ k : Nat, k ≤ f.size ∧ u = .int .i64 k ∧ Hid (ArrAt wr wc.heap.size 0 256 (fun j => .int .i64 (cntK f.data.toList k j))) ∧
          Hid (ArrAt wr (wc.heap.size + 1) 0 256 (fun j => .int .i64 (cntK t.data.toList k j))) ∧ Hid (Below wc.heap.size wc wr)) (fun u _ => f.size - (intOf u).toNat)
      case atStart => exact ⟨0, by omega, rfl, P1 _ _, P2 _ _, P3 _ _⟩
      case round =>
        obtain ⟨k, hk2, rfl, HX, HY, HB⟩ := hrel
        clear P1 P2 P3 hz hcv
        by_cases hlt : k < f.size
        · have hlt2 : k < t.size := by have := H3.out; omega
          have hb1 := (f[k]).toNat_lt
          have hb2 := (t[k]).toNat_lt
          have e1 : f.data.toList.getD k 0 = f[k] := (Lib.getD_at f k hlt).symm
          have e2 : t.data.toList.getD k 0 = t[k] := (Lib.getD_at t k hlt2).symm
          have E1 := hidd e1
          have E2 := hidd e2
          clear e1 e2
          obtain ⟨x, hx⟩ : ∃ x, x = cntK f.data.toList k (f[k]).toNat := ⟨_, rfl⟩
          obtain ⟨y, hy⟩ : ∃ y, y = cntK t.data.toList k (t[k]).toNat := ⟨_, rfl⟩
          have bx := cntK_le f.data.toList (f[k]).toNat k
          have bY := cntK_le t.data.toList (t[k]).toNat k
          rw [← hx] at bx
          rw [← hy] at bY
          have c1 : wr.cell? ⟨wc.heap.size, (f[k]).toNat, none⟩ = some (.int .i64 x) := by rw [hx]; exact HX.out.at0 _ (by omega)
          have c2 : wr.cell? ⟨wc.heap.size + 1, (t[k]).toNat, none⟩ = some (.int .i64 y) := by rw [hy]; exact HY.out.at0 _ (by omega)
          have f1 := HX.out.free0 (f[k]).toNat (by omega)
          have f2 := HY.out.free0 (t[k]).toNat (by omega)
          have XX := hidd hx
          have YY := hidd hy
          clear hx hy
          go_wp2_with fail
          go_roundw
          case rel => exact ⟨k + 1, by omega, by go_num, by
              refine (((HX.out.set0 (f[k]).toNat (by omega) (.int .i64 ((x : Int) + 1))).other ⟨wc.heap.size + 1, (t[k]).toNat, none⟩ (by simp) (.int .i64 ((y : Int) + 1)))).congr (fun j hj => ?_)
              simp only [cntK, E1.out]
              by_cases e : j = (f[k]).toNat
              · rw [if_pos e, if_pos e.symm, XX.out, e]; simp
              · rw [if_neg e, if_neg (fun h => e h.symm)]; simp, by
              refine ((HY.out.other ⟨wc.heap.size, (f[k]).toNat, none⟩ (by simp) (.int .i64 ((x : Int) + 1))).set0 (t[k]).toNat (by omega) (.int .i64 ((y : Int) + 1))).congr (fun j hj => ?_)
              simp only [cntK, E2.out]
              by_cases e : j = (t[k]).toNat
              · rw [if_pos e, if_pos e.symm, YY.out, e]; simp
              · rw [if_neg e, if_neg (fun h => e h.symm)]; simp, (HB.out.setCell (by simp) _).setCell (by simp) _⟩
          case measure => simp [intOf]; omega
        · have hke : k = f.size := by omega
          have HK := hidd hke
          have HX' : Hid (ArrAt wr wc.heap.size 0 256 (fun j => .int .i64 (cntK f.data.toList f.size j))) := by have := HX.out; rwa [HK.out] at this
          have HY' : Hid (ArrAt wr (wc.heap.size + 1) 0 256 (fun j => .int .i64 (cntK t.data.toList f.size j))) := by have := HY.out; rwa [HK.out] at this
          clear hke HX HY
          go_wp2_with fail
          obtain ⟨wo, hwo⟩ : ∃ wo : World, wo = wr := ⟨_, rfl⟩
          go_loopw [96] (fun u wr => ∃ q : Nat, q ≤ 256 ∧ u = .int .i64 q ∧ Hid (∀ j, j < q → cntK f.data.toList f.size j ≤ 1 ∧ cntK t.data.toList f.size j ≤ 1 ∧ cntK t.data.toList f.size j ≤ cntK f.data.toList f.size j) ∧
              Hid (ArrAt wr wc.heap.size 0 256 (fun j => .int .i64 (cntK f.data.toList f.size j))) ∧ Hid (ArrAt wr (wc.heap.size + 1) 0 256 (fun j => .int .i64 (cntK t.data.toList f.size j))) ∧ Hid (Below wc.heap.size wc wr)) (fun u _ => 256 - (intOf u).toNat)
          case atStart => exact ⟨0, by omega, rfl, fun j hj => absurd hj (by omega), HX', HY', HB⟩
          case round =>
            obtain ⟨q, hq, rfl, HN, HX, HY, HB⟩ := hrel
            clear HX' HY'
            by_cases hq2 : q < 256
            · obtain ⟨x, hx⟩ : ∃ x, x = cntK f.data.toList f.size q := ⟨_, rfl⟩
              obtain ⟨y, hy⟩ : ∃ y, y = cntK t.data.toList f.size q := ⟨_, rfl⟩
              have bx := cntK_le f.data.toList q f.size
              have bY := cntK_le t.data.toList q f.size
              rw [← hx] at bx
              rw [← hy] at bY
              have c1 : wr.cell? ⟨wc.heap.size, q, none⟩ = some (.int .i64 x) := by rw [hx]; exact HX.out.at0 _ hq2
              have c2 : wr.cell? ⟨wc.heap.size + 1, q, none⟩ = some (.int .i64 y) := by rw [hy]; exact HY.out.at0 _ hq2
              have XX := hidd hx
              have YY := hidd hy
              clear hx hy
              have gend : Hid (Grew w wr) := GC.out.below HB.out (GC.out.size)
              by_cases d1 : (1 : Int) < x
              · go_wp2_with fail
                go_quiet (fail)
                go_wp2_with fail
                go_ret
                exact ⟨rfl, gend.out.drewN _⟩
              · have d1' : decide ((1 : Int) < x) = false := by simpa using d1
                by_cases d2 : (1 : Int) < y
                · go_wp2_with fail
                  go_quiet (fail)
                  go_wp2_with fail
                  go_ret
                  exact ⟨rfl, gend.out.drewN _⟩
                · have d2' : decide ((1 : Int) < y) = false := by simpa using d2
                  by_cases d3 : (x : Int) < y
                  · go_wp2_with fail
                    go_quiet (fail)
                    go_wp2_with fail
                    go_ret
                    exact ⟨rfl, gend.out.drewN _⟩
                  · go_wp2_with fail
                    go_quiet (fail)
                    go_wp2_with fail
                    go_roundw
                    case rel => exact ⟨q + 1, by omega, by go_num, fun j hj => by
                      by_cases e : j = q
                      · subst e; rw [← XX.out, ← YY.out]; omega
                      · exact HN.out j (by omega), HX.out.drewN _, HY.out.drewN _, below_drewN HB.out _⟩
                    case measure => simp [intOf]; omega
            · have hqe : q = 256 := by omega
              subst hqe
              have gend : Hid (Grew w wr) := GC.out.below HB.out (GC.out.size)
              have h2t : 0 < t.size := by have := H3.out; omega
              go_wp2_with fail
              refine (Replace_ok a t f _ (by omega) (by omega) H3.out.symm h2t).mono ?_
              rintro e w9 ⟨r, rfl, hr, g9⟩
              have hrs : r.toList = s.toList := by
                rw [Lib.toList_data, Lib.toList_data, hr, HA.out, List.map_map, H3.out]
                have : ((fun b => tabK t.data.toList f.data.toList f.size b.toNat) ∘ fun b => tabK f.data.toList t.data.toList f.size b.toNat) = id := by
                  funext b; exact tab_back _ _ _ HN.out b
                rw [this, List.map_id]
              clear hr
              go_wp2_with fail
              go_ret
              exact ⟨rfl, gend.out.trans g9⟩

set_option maxRecDepth 100000 in
theorem TextsReplaced_walk (s f t : ByteArray) (cut : Int) (w : World) (hs : s.size ≤ maxLen) (hf : f.size ≤ maxLen) (ht : t.size ≤ maxLen) (hc : (Lit.int .i64 cut).wf = true) :
    Calls Try.prog 7 #[.string s, .string f, .string t, .int .i64 cut] w fun e w' => e = .returned (.bool true) ∧ Grew w w' := by
  have bc := bd_i64 hc
  clear hc
  by_cases h1 : 65536 < s.size ∨ 65536 < f.size ∨ 65536 < t.size
  · go_enter Try.func7, Try.ntmps7
    go_wp2_with fail
    refine (alive_true _).mono ?_
    rintro e w1 ⟨rfl, g1⟩
    go_wp2_with fail
    refine (Replace_much s f t _ hs hf ht h1).mono ?_
    rintro e w2 ⟨rfl, g2⟩
    go_wp2_with fail
    go_ret
    exact ⟨rfl, g1.trans g2⟩
  · by_cases h2 : f.size ≠ t.size ∨ f.size = 0
    · go_enter Try.func7, Try.ntmps7
      go_wp2_with fail
      refine (alive_true _).mono ?_
      rintro e w1 ⟨rfl, g1⟩
      go_wp2_with fail
      refine (Replace_fit s f t _ (by omega) (by omega) (by omega) h2).mono ?_
      rintro e w2 ⟨rfl, g2⟩
      go_wp2_with fail
      go_ret
      exact ⟨rfl, g1.trans g2⟩
    · exact TextsReplaced_main s f t cut w (by omega) (by omega) (by omega) (by omega) bc
end Go.Proofs.Ytgkchdjogfdjaaa
