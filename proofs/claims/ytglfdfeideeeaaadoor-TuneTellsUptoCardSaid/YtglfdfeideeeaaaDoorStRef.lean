/- The document's own sets: Bytes and Back, byte by byte. No condition. -/
import Derived.Test.YtglfdfeideeeaaaDoorStArr
namespace Go.Proofs.YtglfdfeideeeaaaDoor
open Go.RowKit
set_option linter.unusedVariables false
def rowF (f : Nat → Bool) : Value := .agg (rowB 256 fun j => .bool (f j))
theorem half (x k : Nat) : x / 2 ^ k / 2 = x / 2 ^ (k + 1) := by rw [Nat.div_div_eq_div_mul, Nat.pow_succ]
set_option maxRecDepth 20000 in
set_option maxHeartbeats 1000000 in
theorem Bytes_w (A : Nat → Nat) (f : Nat → Bool) (w : World) (HB : Hid (∀ q r, r < 64 → ((A q / 2 ^ r) % 2 == 1) = f (64 * q + r))) (HL : Hid (W64 A)) : Calls Tryd.prog 75 #[setW A] w fun e w' => e = .returned (rowF f) ∧ Grew w w' := by
  unfold setW
  have hz := run_zero_row
  have HX : Hid (ArrAt (((w.alloc (.cells (wordsB A) 33)).alloc (.cells (rowB 256 fun _ => .bool false) 46)).alloc (.cells (rowB 256 fun _ => .bool false) 46)) w.heap.size 0 4 (fun j => .int .u64 (A j))) := ((words_at w A).alloc _).alloc _
  have HR : Hid (ArrAt (((w.alloc (.cells (wordsB A) 33)).alloc (.cells (rowB 256 fun _ => .bool false) 46)).alloc (.cells (rowB 256 fun _ => .bool false) 46)) (w.heap.size + 1) 0 256 (fun j => .bool false)) := by
    have := row_at (w.alloc (.cells (wordsB A) 33)) fun _ => .bool false
    rw [World.size_alloc] at this
    exact this.alloc _
  have HO : Hid (ArrAt (((w.alloc (.cells (wordsB A) 33)).alloc (.cells (rowB 256 fun _ => .bool false) 46)).alloc (.cells (rowB 256 fun _ => .bool false) 46)) (w.heap.size + 1 + 1) 0 256 (fun j => .bool (decide (j < 0) && f j))) := by
    have := row_at ((w.alloc (.cells (wordsB A) 33)).alloc (.cells (rowB 256 fun _ => .bool false) 46)) fun _ => .bool false
    rw [World.size_alloc, World.size_alloc] at this
    exact this.congr fun j hj => by simp
  have HG : Hid (Grew w (((w.alloc (.cells (wordsB A) 33)).alloc (.cells (rowB 256 fun _ => .bool false) 46)).alloc (.cells (rowB 256 fun _ => .bool false) 46))) := (((Grew.refl w).alloc _).alloc _).alloc _
  unfold wordsB at HX HR HO HG
  go_enter Tryd.func75, Tryd.ntmps75
  go_wp2_with fail
  go_loopw [4, 5, 6, 7] (fun u4 u5 u6 u7 wr => ∃ (i : Nat), u7 = .int .i64 i ∧ i ≤ 256 ∧ Hid (ArrAt wr w.heap.size 0 4 (fun j => .int .u64 (A j))) ∧ Hid (ArrAt wr (w.heap.size + 1) 0 256 (fun j => .bool false)) ∧ Hid (ArrAt wr (w.heap.size + 1 + 1) 0 256 (fun j => .bool (decide (j < i) && f j))) ∧ Hid (Grew w wr)) (fun _ _ _ u7 _ => 256 - (intOf u7).toNat)
  case atStart => exact ⟨0, rfl, by omega, HX, HR, HO, HG⟩
  case round =>
    obtain ⟨i, rfl, hi, KX, KR, KO, KW⟩ := hrel
    clear HX HR HO HG
    by_cases h : i < 256
    · obtain ⟨q, hq0⟩ : ∃ q, q = i / 64 := ⟨_, rfl⟩
      obtain ⟨r, hr0⟩ : ∃ r, r = i % 64 := ⟨_, rfl⟩
      have hq : ((i : Int) / 64) = (q : Int) := by omega
      have hr : ((i : Int) % 64) = (r : Int) := by omega
      have hlt : q < 4 := by omega
      have hrl : r < 64 := by omega
      have HI : Hid (64 * q + r = i) := by rw [Hid]; omega
      have cw := KX.out.at0 q hlt
      have co := KO.out.at0 i h
      have cf := KO.out.free0 i h
      clear hq0 hr0
      go_wp2_with fail
      go_loopw [5, 6] (fun u5 u6 wr2 => ∃ (k x : Nat), u6 = .int .i64 k ∧ u5 = .int .u64 x ∧ k ≤ r ∧ x < 18446744073709551616 ∧ Hid (x = A q / 2 ^ k) ∧ wr2 = wr) (fun _ u6 _ => r - (intOf u6).toNat)
      case atStart => exact ⟨0, A q, rfl, rfl, Nat.zero_le _, HL.out q, (by rw [Hid]; simp), rfl⟩
      case round =>
        obtain ⟨k, x, rfl, rfl, hk, hx, HXK, rfl⟩ := hrel
        by_cases hkr : k < r
        · go_wp2_with fail
          exact ⟨⟨k + 1, x / 2, (by simp), (by simp), (by omega), (by omega), (by rw [Hid, HXK.out, half]), trivial⟩, (by simp [intOf]; omega)⟩
        · obtain rfl : k = r := by omega
          have HV : Hid (((x : Int) % 2 == 1) = f i) := by
            have h1 := HB.out q k hrl
            rw [HI.out, ← HXK.out] at h1
            rw [Hid, ← h1, show ((x : Int) % 2) = ((x % 2 : Nat) : Int) by omega]
            rcases Nat.mod_two_eq_zero_or_one x with h | h <;> rw [h] <;> rfl
          go_wp2_with fail
          rw [HV.out]
          exact ⟨⟨i + 1, (by simp), (by omega), KX.out.other _ (by simp; omega) _, KR.out.other _ (by simp) _, (KO.out.set0 i h (.bool (f i))).congr fun j hj => by
            by_cases e : j = i
            · subst e; simp
            · have : (j < i + 1) = (j < i) := by apply propext; omega
              simp [e, this], KW.out.setCell (by simp; omega) _⟩, (by simp [intOf]; omega)⟩
    · obtain rfl : i = 256 := by omega
      go_wp2_with (first | (refine wpList_load_arr rfl rfl rfl KO.out Tryd.underlying46 rfl info_row ?_) | (refine wpList_store_arr rfl rfl rfl rfl KR.out info_row (fun j _ => rfl) ?_; intro w5 hS hb))
      refine bodyPost_arr rfl rfl hS Tryd.underlying46 rfl info_row rfl ⟨?_, KW.out.below hb (by omega)⟩
      exact congrArg (fun x => Ending.returned (.agg x)) (rowB_congr fun j hj => by simp [hj])
theorem Bytes_any (f : Nat → Bool) (w : World) : Calls Tryd.prog 75 #[setV f] w fun e w' => e = .returned (rowF f) ∧ Grew w w' :=
  Bytes_w (fun j => word f (64 * j) 64) f w (fun q r hr => has_word f (64 * q) r hr) (fun q => word_lt64 f _)
def bw (f : Nat → Bool) (c k : Nat) : Nat := word f (max c (64 * k)) (64 * (k + 1) - max c (64 * k))
theorem bw_top (f : Nat → Bool) (k : Nat) (hk : k < 4) : bw f 256 k = 0 := by
  unfold bw
  rw [show 64 * (k + 1) - max 256 (64 * k) = 0 by omega]; rfl
theorem bw_all (f : Nat → Bool) (k : Nat) : bw f 0 k = word f (64 * k) 64 := by
  unfold bw
  rw [show max 0 (64 * k) = 64 * k by omega, show 64 * (k + 1) - 64 * k = 64 by omega]
theorem bw_step (f : Nat → Bool) (b q : Nat) (h1 : 64 * q ≤ b) (h2 : b < 64 * (q + 1)) : bw f b q = (f b).toNat + 2 * bw f (b + 1) q ∧ bw f (b + 1) q < 9223372036854775808 := by
  unfold bw
  rw [show max b (64 * q) = b by omega, show max (b + 1) (64 * q) = b + 1 by omega, show 64 * (q + 1) - b = (64 * (q + 1) - (b + 1)) + 1 by omega]
  exact ⟨rfl, Nat.lt_of_lt_of_le (word_lt f _ _) ((Nat.pow_le_pow_right (by decide) (by omega) : 2 ^ (64 * (q + 1) - (b + 1)) ≤ 2 ^ 63))⟩
theorem bw_other (f : Nat → Bool) (b q k : Nat) (h1 : 64 * q ≤ b) (h2 : b < 64 * (q + 1)) (hk : k ≠ q) : bw f b k = bw f (b + 1) k := by
  unfold bw
  rcases Nat.lt_or_gt_of_ne hk with h | h
  · rw [show 64 * (k + 1) - max b (64 * k) = 0 by omega, show 64 * (k + 1) - max (b + 1) (64 * k) = 0 by omega]; rfl
  · rw [show max b (64 * k) = 64 * k by omega, show max (b + 1) (64 * k) = 64 * k by omega]
theorem next_c (b : Nat) (hb : b < 256) : (∃ b1 : Nat, Value.int .i64 ((b : Int) - 1) = .int .i64 b1 ∧ b1 < 256 ∧ b = b1 + 1) ∨ (Value.int .i64 ((b : Int) - 1) = .int .i64 (-1) ∧ b = 0) := by
  cases b with
  | zero => exact Or.inr ⟨rfl, rfl⟩
  | succ b => exact Or.inl ⟨b, by simp, by omega, rfl⟩
theorem bw_set {f : Nat → Bool} {b q : Nat} {x : Int} (hx : x = (bw f b q : Int)) (hn : ∀ k, k ≠ q → bw f b k = bw f (b + 1) k) (j : Nat) : (if j = q then Value.int .u64 x else .int .u64 (bw f (b + 1) j)) = .int .u64 (bw f b j) := by
  by_cases e : j = q
  · subst e; rw [if_pos rfl, hx]
  · rw [if_neg e, hn j e]
set_option maxRecDepth 20000 in
set_option maxHeartbeats 1000000 in
theorem Back_any (f : Nat → Bool) (w : World) : Calls Tryd.prog 21 #[rowF f] w fun e w' => e = .returned (setV f) ∧ Grew w w' := by
  unfold rowF
  have HX : Hid (ArrAt (((w.alloc (.cells (rowB 256 fun j => .bool (f j)) 46)).alloc (.cells (wordsB fun _ => 0) 33)).alloc (.cells (wordsB fun _ => 0) 33)) w.heap.size 0 256 (fun j => .bool (f j))) := ((row_at w _).alloc _).alloc _
  have HR : Hid (ArrAt (((w.alloc (.cells (rowB 256 fun j => .bool (f j)) 46)).alloc (.cells (wordsB fun _ => 0) 33)).alloc (.cells (wordsB fun _ => 0) 33)) (w.heap.size + 1) 0 4 (fun j => .int .u64 ((0 : Nat) : Int))) := by
    have := words_at (w.alloc (.cells (rowB 256 fun j => .bool (f j)) 46)) fun _ => 0
    rw [World.size_alloc] at this
    exact this.alloc _
  have HO : Hid (ArrAt (((w.alloc (.cells (rowB 256 fun j => .bool (f j)) 46)).alloc (.cells (wordsB fun _ => 0) 33)).alloc (.cells (wordsB fun _ => 0) 33)) (w.heap.size + 1 + 1) 0 4 (fun j => .int .u64 (bw f 256 j))) := by
    have := words_at ((w.alloc (.cells (rowB 256 fun j => .bool (f j)) 46)).alloc (.cells (wordsB fun _ => 0) 33)) fun _ => 0
    rw [World.size_alloc, World.size_alloc] at this
    exact this.congr fun j hj => by rw [bw_top f j hj]
  have HG : Hid (Grew w (((w.alloc (.cells (rowB 256 fun j => .bool (f j)) 46)).alloc (.cells (wordsB fun _ => 0) 33)).alloc (.cells (wordsB fun _ => 0) 33))) := (((Grew.refl w).alloc _).alloc _).alloc _
  unfold wordsB at HX HR HO HG
  go_enter Tryd.func21, Tryd.ntmps21
  go_wp2_with fail
  go_loopw [4] (fun u4 wr => ∃ (c : Nat), ((∃ b : Nat, u4 = .int .i64 b ∧ b < 256 ∧ c = b + 1) ∨ (u4 = .int .i64 (-1) ∧ c = 0)) ∧ Hid (ArrAt wr w.heap.size 0 256 (fun j => .bool (f j))) ∧ Hid (ArrAt wr (w.heap.size + 1) 0 4 (fun j => .int .u64 ((0 : Nat) : Int))) ∧ Hid (ArrAt wr (w.heap.size + 1 + 1) 0 4 (fun j => .int .u64 (bw f c j))) ∧ Hid (Grew w wr)) (fun u4 _ => (intOf u4 + 1).toNat)
  case atStart => exact ⟨256, Or.inl ⟨255, rfl, by omega, rfl⟩, HX, HR, HO, HG⟩
  case round =>
    obtain ⟨c, hc, KX, KR, KO, KW⟩ := hrel
    clear HX HR HO HG
    rcases hc with ⟨b, rfl, hb, rfl⟩ | ⟨rfl, rfl⟩
    · obtain ⟨q, hq0⟩ : ∃ q, q = b / 64 := ⟨_, rfl⟩
      have hq : ((b : Int) / 64) = (q : Int) := by omega
      have hlt : q < 4 := by omega
      obtain ⟨h1, h2⟩ := bw_step f b q (by omega) (by omega)
      have HT := hidd h1
      have HN : Hid (∀ k, k ≠ q → bw f b k = bw f (b + 1) k) := fun k hk => bw_other f b q k (by omega) (by omega) hk
      have cx := KX.out.at0 b hb
      have co := KO.out.at0 q hlt
      have cf := KO.out.free0 q hlt
      have hw1 : IntKind.u64.wrap ((bw f (b + 1) q : Int) * 2) = (bw f (b + 1) q : Int) * 2 := by rw [IntKind.wrap_u64]; omega
      have hw2 : IntKind.u64.wrap ((bw f (b + 1) q : Int) * 2 + 1) = (bw f (b + 1) q : Int) * 2 + 1 := by rw [IntKind.wrap_u64]; omega
      clear hq0 h1
      cases hf : f b with
      | true =>
        rw [hf] at cx
        rw [hf] at HT
        have hx : Hid ((bw f (b + 1) q : Int) * 2 + 1 = (bw f b q : Int)) := by have := HT.out; simp only [Bool.toNat, cond_true] at this; rw [Hid]; omega
        go_wp2_with fail
        refine ⟨⟨b, next_c b hb, (KX.out.other _ (by simp; omega) _).other _ (by simp; omega) _, (KR.out.other _ (by simp) _).other _ (by simp) _, ((KO.out.set0 q hlt _).set0 q hlt _).congr fun j hj => ?_, (KW.out.setCell (by simp; omega) _).setCell (by simp; omega) _⟩, (by simp [intOf])⟩
        rw [← bw_set hx.out HN.out j]
        by_cases e : j = q <;> simp [e]
      | false =>
        rw [hf] at cx
        rw [hf] at HT
        have hx : Hid ((bw f (b + 1) q : Int) * 2 = (bw f b q : Int)) := by have := HT.out; simp only [Bool.toNat, cond_false] at this; rw [Hid]; omega
        go_wp2_with fail
        exact ⟨⟨b, next_c b hb, KX.out.other _ (by simp; omega) _, KR.out.other _ (by simp) _, (KO.out.set0 q hlt _).congr fun j hj => bw_set hx.out HN.out j, KW.out.setCell (by simp; omega) _⟩, (by simp [intOf])⟩
    · go_wp2_with (first | (refine wpList_load_arr rfl rfl rfl KO.out Tryd.underlying33 rfl info_set ?_) | (refine wpList_store_arr rfl rfl rfl rfl KR.out info_set (fun j _ => rfl) ?_; intro w5 hS hb))
      refine bodyPost_arr rfl rfl hS Tryd.underlying33 rfl info_set rfl ⟨?_, KW.out.below hb (by omega)⟩
      exact congrArg (fun x => Ending.returned (.agg x)) ((rowB_congr (g := fun j => .int .u64 (word f (64 * j) 64)) fun j hj => by rw [bw_all]).trans rfl)
end Go.Proofs.YtglfdfeideeeaaaDoor
