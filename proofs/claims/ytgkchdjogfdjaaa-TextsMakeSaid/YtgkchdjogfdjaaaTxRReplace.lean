/- The reference's Replace: at every three texts. -/
import Derived.Test.YtgkchdjogfdjaaaTxMuch
import Derived.Test.YtgkchdjogfdjaaaOwn
import Derived.Test.YtgkchdjogfdjaaaBytes
import Derived.Test.YtgkchdjogfdjaaaTxReplace
namespace Go.Proofs.Ytgkchdjogfdjaaa
open Go.RowKit
set_option linter.unusedVariables false

theorem tabK_at (f t : List UInt8) (c k : Nat) : ∀ n, k < n → (f.getD k 0).toNat = c → (∀ i, k < i → i < n → (f.getD i 0).toNat ≠ c) → tabK f t n c = t.getD k 0
  | 0, h, _, _ => by omega
  | n + 1, h, hk, hn => by
    by_cases e : k = n
    · subst e; rw [tabK, if_pos hk.symm]
    · rw [tabK, if_neg (fun h2 => hn n (by omega) (by omega) h2.symm)]
      exact tabK_at f t c k n (by omega) hk (fun i h1 h2 => hn i h1 (by omega))
theorem tabK_none (f t : List UInt8) (c : Nat) : ∀ n, (∀ i, i < n → (f.getD i 0).toNat ≠ c) → tabK f t n c = c.toUInt8
  | 0, _ => rfl
  | n + 1, hn => by
    rw [tabK, if_neg (fun h2 => hn n (by omega) h2.symm)]
    exact tabK_none f t c n (fun i h => hn i (by omega))

theorem RReplace_much (s f t : ByteArray) (w : World) (hs : s.size ≤ maxLen) (hf : f.size ≤ maxLen) (ht : t.size ≤ maxLen) (h : 65536 < s.size ∨ 65536 < f.size ∨ 65536 < t.size) :
    Calls Try.prog 23 #[.string s, .string f, .string t] w fun e w' => e = .returned (.tuple #[.string ⟨#[]⟩, .int .i64 4]) ∧ Grew w w' := by
  have hd : (decide (65536 < s.size) || (decide (65536 < f.size) || decide (65536 < t.size))) = true := by simpa using h
  have HH := hidd h
  clear h
  go_enter Try.func23, Try.ntmps23
  go_wp2_with fail
  refine (much_3 s f t w 9 hs hf ht).mono ?_; rintro e w1 ⟨rfl, rfl⟩
  rw [hd]
  go_wp2_with fail
  go_ret2
  exact ⟨rfl, (Grew.refl _).alloc _⟩
theorem RReplace_fit (s f t : ByteArray) (w : World) (hs : s.size ≤ 65536) (hf : f.size ≤ 65536) (ht : t.size ≤ 65536) (h : f.size ≠ t.size ∨ f.size = 0) :
    Calls Try.prog 23 #[.string s, .string f, .string t] w fun e w' => e = .returned (.tuple #[.string ⟨#[]⟩, .int .i64 8]) ∧ Grew w w' := by
  have hd : (decide (65536 < s.size) || (decide (65536 < f.size) || decide (65536 < t.size))) = false := by simp; omega
  by_cases h1 : f.size = t.size
  · have h5 : ((f.size : Int) != t.size) = false := by rw [bne_eq_false_iff_eq]; omega
    have h6 : ((f.size : Int) == 0) = true := by rw [beq_iff_eq]; omega
    have HH := hidd h
    have HH1 := hidd h1
    clear h h1
    go_enter Try.func23, Try.ntmps23
    go_wp2_with fail
    refine (much_3 s f t w 9 (by unfold maxLen; omega) (by unfold maxLen; omega) (by unfold maxLen; omega)).mono ?_; rintro e w1 ⟨rfl, rfl⟩
    rw [hd]
    go_wp2_with fail
    go_ret2
    exact ⟨rfl, (Grew.refl _).alloc _⟩
  · have h5 : ((f.size : Int) != t.size) = true := by rw [bne_iff_ne]; omega
    have HH := hidd h
    clear h h1
    go_enter Try.func23, Try.ntmps23
    go_wp2_with fail
    refine (much_3 s f t w 9 (by unfold maxLen; omega) (by unfold maxLen; omega) (by unfold maxLen; omega)).mono ?_; rintro e w1 ⟨rfl, rfl⟩
    rw [hd]
    go_wp2_with fail
    go_ret2
    exact ⟨rfl, (Grew.refl _).alloc _⟩

set_option maxRecDepth 100000 in
set_option maxHeartbeats 1000000 in
theorem RReplace_ok (s f t : ByteArray) (w : World) (h1 : s.size ≤ 65536) (h2 : f.size ≤ 65536) (h3 : t.size = f.size) (h4 : 0 < f.size) :
    Calls Try.prog 23 #[.string s, .string f, .string t] w fun e w' => ∃ r : ByteArray, e = .returned (.tuple #[.string r, .int .i64 0]) ∧ r.data.toList = s.data.toList.map (fun b => tabK f.data.toList t.data.toList f.size b.toNat) ∧ Grew w w' := by
  have hd : (decide (65536 < s.size) || (decide (65536 < f.size) || decide (65536 < t.size))) = false := by simp; omega
  have h5 : ((f.size : Int) != t.size) = false := by rw [bne_eq_false_iff_eq]; omega
  have h6 : ((f.size : Int) == 0) = false := beq_eq_false_iff_ne.2 (by omega)
  have h7 : ¬ f = ByteArray.empty := fun h => by rw [h] at h4; simp at h4
  have H3 := hidd h3
  have hlt : t.size ≤ 65536 := by omega
  have hz := zeroI256
  have A0 : ∀ w : World, Hid (ArrAt (w.alloc (.cells zeroInts256 34)) w.heap.size 0 256 (fun j => .int .i64 (if j < 0 then ((tabK f.data.toList t.data.toList f.size j).toNat : Int) else 0))) := fun w =>
    ArrAt.new w _ _ _ _ (fun j hj => by simp [zeroInts256, hj])
  clear h3
  go_enter Try.func23, Try.ntmps23
  go_wp2_with fail
  refine (much_3 s f t w 9 (by unfold maxLen; omega) (by unfold maxLen; omega) (by unfold maxLen; omega)).mono ?_; rintro e w1 ⟨rfl, rfl⟩
  rw [hd]
  have A1 := (A0 (w.alloc (.cells #[.string s, .string f, .string t] 9)))
  rw [World.size_alloc] at A1
  clear A0
  go_wp2_with fail
  clear hz
  go_loopw [29] (fun u wr => ∃ c : Nat, c ≤ 256 ∧ u = .int .i64 c ∧ Hid (ArrAt wr (w.heap.size + 1) 0 256 (fun j => .int .i64 (if j < c then ((tabK f.data.toList t.data.toList f.size j).toNat : Int) else 0))) ∧ Hid (Below w.heap.size w wr) ∧ w.heap.size + 1 < wr.heap.size) (fun u _ => 256 - (intOf u).toNat)
  case atStart => exact ⟨0, by omega, rfl, A1, ((Grew.refl w).alloc _).alloc _, by simp⟩
  case round =>
    obtain ⟨c, hc, rfl, HA, HB, hsz⟩ := hrel
    clear A1
    by_cases hlt : c < 256
    · have hcc : wr.cell? ⟨w.heap.size + 1, c, none⟩ = some (.int .i64 0) := by simpa using HA.out.at0 c hlt
      have hcf := HA.out.free0 c hlt
      have HA2 : Hid (ArrAt (wr.setCell ⟨w.heap.size + 1, c, none⟩ (.int .i64 c)) (w.heap.size + 1) 0 256 (fun j => if j = c then .int .i64 (c : Int) else .int .i64 (if j < c then ((tabK f.data.toList t.data.toList f.size j).toNat : Int) else 0))) := HA.out.set0 c hlt _
      have HB2 : Hid (Below w.heap.size w (wr.setCell ⟨w.heap.size + 1, c, none⟩ (.int .i64 c))) := HB.out.setCell (by simp) _
      have hsz2 : w.heap.size + 1 < (wr.setCell ⟨w.heap.size + 1, c, none⟩ (.int .i64 c)).heap.size := by simpa [World.setCell] using hsz
      have HS2 := hidd hsz2
      clear hsz2
      go_wp2_with fail
      clear hcc hcf
      obtain ⟨wo, hwo⟩ : ∃ wo : World, wo = wr.setCell ⟨w.heap.size + 1, c, none⟩ (.int .i64 c) := ⟨_, rfl⟩
      rw [← hwo] at HA2 HB2 HS2 ⊢
      clear hwo HA HB hsz
      go_loopw [10] (fun u wx => ∃ k : Nat, k ≤ f.size ∧ u = .int .i64 ((k : Int) - 1) ∧ Hid (∀ i, k ≤ i → i < f.size → (f.data.toList.getD i 0).toNat ≠ c) ∧ Hid (wx = wo)) (fun u _ => (intOf u + 1).toNat)
      case atStart => exact ⟨f.size, Nat.le_refl _, by first | rfl | simp, fun i h1 h2 => absurd h2 (by omega), rfl⟩
      case round =>
        obtain ⟨k, hk, rfl, HN, hwx⟩ := hrel
        have hwx' := hwx.out
        subst hwx'
        clear hwx
        by_cases hk0 : 0 < k
        · obtain ⟨q, rfl⟩ : ∃ q, k = q + 1 := ⟨k - 1, by omega⟩
          have hqf : q < f.size := by omega
          have hqt : q < t.size := by have := H3.out; omega
          have e0 : ((q + 1 : Nat) : Int) - 1 = q := by omega
          rw [e0]
          have hb1 := (f[q]).toNat_lt
          have hb2 := (t[q]).toNat_lt
          have e1 : f.data.toList.getD q 0 = f[q] := (Lib.getD_at f q hqf).symm
          have e2 : t.data.toList.getD q 0 = t[q] := (Lib.getD_at t q hqt).symm
          have E1 := hidd e1
          have E2 := hidd e2
          clear e1 e2 e0
          by_cases hit : (f[q]).toNat = c
          · have ht1 : (((f[q]).toNat : Int) == c) = true := by rw [beq_iff_eq]; omega
            have hcc : wr.cell? ⟨w.heap.size + 1, c, none⟩ = some (.int .i64 c) := by simpa using HA2.out.at0 c hlt
            have hcf := HA2.out.free0 c hlt
            have HF := HA2.out.set0 c hlt (.int .i64 ((t[q]).toNat : Int))
            have HF2 : Hid (ArrAt (wr.setCell ⟨w.heap.size + 1, c, none⟩ (.int .i64 ((t[q]).toNat : Int))) (w.heap.size + 1) 0 256 (fun j => .int .i64 (if j < c + 1 then ((tabK f.data.toList t.data.toList f.size j).toNat : Int) else 0))) := HF.congr (fun j hj => by
              by_cases e : j = c
              · subst e
                rw [if_pos rfl, if_pos (by omega), tabK_at _ _ j q f.size hqf (by rw [E1.out]; exact hit) (fun i h1 h2 => HN.out i h1 h2), E2.out]
              · by_cases e3 : j < c
                · rw [if_neg e, if_neg e, if_pos e3, if_pos (by omega)]
                · rw [if_neg e, if_neg e, if_neg e3, if_neg (by omega)])
            have HI := hidd hit
            clear HF hit
            go_wp2_with fail
            go_roundw
            case rel => exact ⟨c + 1, by omega, by go_num, HF2.out, HB2.out.setCell (by simp) _, by have := HS2.out; simpa [World.setCell] using this⟩
            case measure => simp [intOf]; omega
          · have ht1 : (((f[q]).toNat : Int) == c) = false := beq_eq_false_iff_ne.2 (by omega)
            have HI := hidd hit
            clear hit
            go_wp2_with fail
            go_roundw
            case rel => exact ⟨q, by omega, rfl, fun i h1 h2 => by
              by_cases e : i = q
              · subst e; rw [E1.out]; exact HI.out
              · exact HN.out i (by omega) h2, trivial⟩
            case measure => simp [intOf]
        · have hk1 : k = 0 := by omega
          subst hk1
          have HF2 : Hid (ArrAt wr (w.heap.size + 1) 0 256 (fun j => .int .i64 (if j < c + 1 then ((tabK f.data.toList t.data.toList f.size j).toNat : Int) else 0))) := HA2.out.congr (fun j hj => by
              by_cases e : j = c
              · subst e
                rw [if_pos rfl, if_pos (by omega), tabK_none _ _ j f.size (fun i h => HN.out i (by omega) h)]
                simp; omega
              · by_cases e3 : j < c
                · rw [if_neg e, if_pos e3, if_pos (by omega)]
                · rw [if_neg e, if_neg e3, if_neg (by omega)])
          go_wp2_with fail
          go_roundw
          case rel => exact ⟨c + 1, by omega, by go_num, HF2.out, HB2.out, HS2.out⟩
          case measure => simp [intOf]; omega
    · have hke : c = 256 := by omega
      subst hke
      rw [show ((256 : Nat) : Int) = 256 from rfl]
      have HA2 : Hid (ArrAt wr (w.heap.size + 1) 0 256 (fun j => .int .i64 ((tabK f.data.toList t.data.toList f.size j).toNat : Int))) := HA.out.congr (fun j hj => by rw [if_pos hj])
      have hcv := bytesOf wr s
      have P0 : ∀ n, Hid (BytesAt ((wr.alloc (.cells (bytesRow s n) 5 ((bytesRow s n).size, (bytesRow s n).size + 1))).drew) wr.heap.size 0 s.data.toList) := fun n => (bytesAt_row wr s n 5).drew
      have P1 : ∀ n, Hid (ArrAt ((wr.alloc (.cells (bytesRow s n) 5 ((bytesRow s n).size, (bytesRow s n).size + 1))).drew) (w.heap.size + 1) 0 256 (fun j => .int .i64 ((tabK f.data.toList t.data.toList f.size j).toNat : Int))) := fun n => (HA2.out.alloc _).drew
      have P2 : ∀ n, Hid (Below w.heap.size w ((wr.alloc (.cells (bytesRow s n) 5 ((bytesRow s n).size, (bytesRow s n).size + 1))).drew)) := fun n => (HB.out.alloc (by omega) _).drew
      obtain ⟨G, hG⟩ : ∃ G : Nat, G = wr.heap.size := ⟨_, rfl⟩
      have P3 : ∀ n, Hid ((wr.alloc (.cells (bytesRow s n) 5 ((bytesRow s n).size, (bytesRow s n).size + 1))).drew.heap.size = G + 1) := fun n => by
        show (wr.alloc _).heap.size = G + 1
        rw [World.size_alloc, hG]
      have hGB : w.heap.size + 1 < G := by omega
      rw [← hG] at P0 hcv
      have HG := hidd hG
      have hlt' : ¬ 256 < 256 := hlt
      clear HA HA2 HB hG hsz
      go_wp2_with fail
      clear hcv
      go_loopw [58, 11] (fun u v wr => ∃ k : Nat, k ≤ s.size ∧ u = .int .i64 k ∧ Hid (BytesAt wr G 0 s.data.toList) ∧ Hid (ArrAt wr (w.heap.size + 1) 0 256 (fun j => .int .i64 ((tabK f.data.toList t.data.toList f.size j).toNat : Int))) ∧
          Hid (Own 5 wr (G + 1) v (((s.data.toList.map (fun b => tabK f.data.toList t.data.toList f.size b.toNat)).take k).map fun b => .int .u8 b.toNat)) ∧ Hid (Below w.heap.size w wr) ∧ G + 1 ≤ wr.heap.size) (fun u _ _ => s.size - (intOf u).toNat)
      case atStart => exact ⟨0, by omega, rfl, P0 _, P1 _, by unfold Hid; simpa using Own.nil _ _ _, P2 _, by rw [(P3 _).out]; exact Nat.le_refl _⟩
      case round =>
        obtain ⟨k, hk, rfl, HA, HT, HO, HB, hsz⟩ := hrel
        clear P0 P1 P2 P3
        by_cases hks : k < s.size
        · have hkl : k < s.data.toList.length := by rw [← size_data]; exact hks
          obtain ⟨c, hc⟩ : ∃ c, c = s.data.toList[k] := ⟨_, rfl⟩
          have hcl := c.toNat_lt
          have c1 : wr.cell? ⟨G, k, none⟩ = some (.int .u8 (c.toNat : Int)) := by rw [hc]; exact HA.out.at0 k hkl
          obtain ⟨x, hx⟩ : ∃ x, x = tabK f.data.toList t.data.toList f.size c.toNat := ⟨_, rfl⟩
          have hxl := x.toNat_lt
          have c2 : wr.cell? ⟨w.heap.size + 1, c.toNat, none⟩ = some (.int .i64 (x.toNat : Int)) := by rw [hx]; exact HT.out.at0 _ (by omega)
          have hln : (((s.data.toList.map (fun b => tabK f.data.toList t.data.toList f.size b.toNat)).take k).map fun b => Value.int .u8 (b.toNat : Int)).length = k := by
            rw [List.length_map, List.length_take, List.length_map]; omega
          obtain ⟨v', w', hap, HO', HB'⟩ := own_byte HO.out (B := G + 1) hsz (x.toNat : Int) (by rw [hln]; omega) 35 5
          have HO2 := hidd HO'
          have HB2 := hidd HB'
          have HCC := hidd hc
          have HXX := hidd hx
          clear HO' HB' hln hc hx
          go_wp2_with (at_builtin; refine wpList_append_eq rfl rfl rfl rfl hap ?_)
          go_roundw
          case rel => exact ⟨k + 1, by omega, by go_num, fun j hj => ⟨by rw [HB2.out.cell (p := ⟨G, 0 + j, none⟩) (by simp)]; exact (HA.out j hj).1, by rw [HB2.out.frozen (p := ⟨G, 0 + j, none⟩) (by simp)]; exact (HA.out j hj).2⟩,
            HT.out.below HB2.out (by omega), by
              have := HO2.out
              rw [← List.map_singleton (f := fun b : UInt8 => Value.int .u8 (b.toNat : Int)), ← List.map_append] at this
              have e2 : (s.data.toList.map (fun b => tabK f.data.toList t.data.toList f.size b.toNat)).take k ++ [x] = (s.data.toList.map (fun b => tabK f.data.toList t.data.toList f.size b.toNat)).take (k + 1) := by
                rw [List.take_add_one, List.getElem?_map, List.getElem?_eq_getElem hkl, HXX.out, HCC.out]; rfl
              rw [e2] at this; exact this, HB.out.trans (HB2.out.mono (by omega)), by have := HB2.out.size; omega⟩
          case measure => simp [intOf]; omega
        · have hkm : k = s.size := by omega
          have hconv := own_string _ HO.out
          obtain ⟨l, hl⟩ : ∃ l, l = (s.data.toList.map (fun b => tabK f.data.toList t.data.toList f.size b.toNat)).take k := ⟨_, rfl⟩
          rw [← hl] at hconv
          have HL : Hid (l = s.data.toList.map (fun b => tabK f.data.toList t.data.toList f.size b.toNat)) := by
            rw [hl, hkm, List.take_of_length_le (by rw [List.length_map, ← size_data]; exact Nat.le_refl _)]; rfl
          clear hkm hl
          go_wp2_with fail
          go_ret2
          exact ⟨_, rfl, (str_mk _).trans HL.out, HB.out⟩
end Go.Proofs.Ytgkchdjogfdjaaa
