/- scanfailbig: mul. -/
import Derived.Test.YthhcpocgfmlbeaaDoorBgC
namespace Go.Proofs.YthhcpocgfmlbeaaDoor
open Go.RowKit
set_option linter.unusedVariables false
/-- The row r holds the words g of V, and a carry for place k. -/
structure Row (w wr : World) (rb N : Nat) (g : Nat → Nat) (V c k z : Nat) : Prop where
  arr : ArrAt wr rb 0 N (fun j => .int .u32 (g j : Nat))
  lt : ∀ j, g j < B32
  sum : vs g N + c * B32 ^ k = V
  high : ∀ j, z ≤ j → g j = 0
  grew : Grew w wr
theorem arr_upd {w : World} {b n i v : Nat} {g : Nat → Nat} (h : ArrAt w b 0 n (fun j => .int .u32 (g j : Nat))) (hi : i < n) : ArrAt (w.setCell ⟨b, i, none⟩ (.int .u32 (v : Nat))) b 0 n (fun j => .int .u32 (updN g i v j : Nat)) :=
  (h.set0 i hi _).congr fun j hj => by
    unfold updN
    by_cases e : j = i
    · rw [if_pos e, if_pos e]
    · rw [if_neg e, if_neg e]
theorem Row.step {w wr : World} {N V c k p z : Nat} {g : Nat → Nat} (h : Row w wr w.heap.size N g V c k z) (hk : k < N) (hz : k < z) : Row w (wr.setCell ⟨w.heap.size, k, none⟩ (.int .u32 (((c + (p + g k)) % B32 : Nat) : Int))) w.heap.size N (updN g k ((c + (p + g k)) % B32)) (V + p * B32 ^ k) ((c + (p + g k)) / B32) (k + 1) z :=
  ⟨arr_upd h.arr hk, fun j => by
    show (if j = k then _ else g j) < B32
    split
    · exact Nat.mod_lt _ (by decide)
    · exact h.lt j, mul_step hk h.sum, fun j hj => by
    show (if j = k then _ else g j) = 0
    rw [if_neg (by omega)]; exact h.high j hj, h.grew.setCell (Nat.le_refl _) _⟩
theorem Row.shut {w wr : World} {N V c k : Nat} {g : Nat → Nat} (h : Row w wr w.heap.size N g V c k k) (hk : k < N) (hc : c < B32) : Row w (wr.setCell ⟨w.heap.size, k, none⟩ (.int .u32 (c : Nat))) w.heap.size N (updN g k c) V 0 0 (k + 1) :=
  ⟨arr_upd h.arr hk, fun j => by
    show (if j = k then _ else g j) < B32
    split
    · exact hc
    · exact h.lt j, by
    have := vs_upd g k c N hk
    rw [h.high k (Nat.le_refl _), Nat.zero_mul, Nat.add_zero, h.sum] at this
    rw [Nat.zero_mul, Nat.add_zero]; exact this, fun j hj => by
    show (if j = k then _ else g j) = 0
    rw [if_neg (by omega)]; exact h.high j (by omega), h.grew.setCell (Nat.le_refl _) _⟩
theorem Row.drewN {w wr : World} {rb N V c k z : Nat} {g : Nat → Nat} (h : Row w wr rb N g V c k z) (n : Nat) : Row w (wr.drewN n) rb N g V c k z := ⟨h.arr.drewN n, h.lt, h.sum, h.high, h.grew.drewN n⟩
theorem mul_next (A C i j : Nat) : (A % B32 ^ i) * C + dg A i * (C % B32 ^ j) * B32 ^ i + dg A i * dg C j * B32 ^ (i + j) = (A % B32 ^ i) * C + dg A i * (C % B32 ^ (j + 1)) * B32 ^ i := by
  rw [mod_succ C j, Nat.mul_add, Nat.add_mul (dg A i * (C % B32 ^ j)), Nat.pow_add, show dg A i * (dg C j * B32 ^ j) * B32 ^ i = dg A i * dg C j * (B32 ^ i * B32 ^ j) by rw [← Nat.mul_assoc, Nat.mul_comm (B32 ^ i), Nat.mul_assoc], Nat.add_assoc]
theorem mul_row {A C i m : Nat} (hC : C < B32 ^ m) : (A % B32 ^ i) * C + dg A i * (C % B32 ^ m) * B32 ^ i = (A % B32 ^ (i + 1)) * C := by
  rw [Nat.mod_eq_of_lt hC, mod_succ A i, Nat.add_mul, show dg A i * C * B32 ^ i = dg A i * B32 ^ i * C by rw [Nat.mul_assoc, Nat.mul_comm C, ← Nat.mul_assoc]]
theorem prod_lt {x y : Nat} (hx : x < 4294967296) (hy : y < 4294967296) : x * y ≤ 18446744065119617025 := by
  have := Nat.mul_le_mul (show x ≤ 4294967295 by omega) (show y ≤ 4294967295 by omega)
  omega
set_option maxRecDepth 100000 in
set_option maxHeartbeats 4000000 in
theorem mul_any {w : World} {p q : Option Addr} {A C n m c d : Nat} (hA : WordsAt w (.slice p n c) A n) (hC : WordsAt w (.slice q m d) C m) (hn : n ≤ 1099511627776) (hm : m ≤ 1099511627776) :
    Calls Tryd.prog 73 #[.slice p n c, .slice q m d] w fun e w' => Grew w w' ∧ ∃ p' c', e = .returned (.slice p' (nw (A * C)) c') ∧ WordsAt w' (.slice p' (nw (A * C)) c') (A * C) (nw (A * C)) := by
  have HA := hidd hA
  have HC := hidd hC
  obtain ⟨_, _, he, hac, hac2⟩ := hA.form
  cases he
  obtain ⟨_, _, he, hcc, hcc2⟩ := hC.form
  cases he
  by_cases hz : n = 0 ∨ m = 0
  · have h0 : A * C = 0 := by
      rcases hz with rfl | rfl
      · have : A = 0 := by have := hA.fits; simp at this; exact this
        rw [this, Nat.zero_mul]
      · have : C = 0 := by have := hC.fits; simp at this; exact this
        rw [this, Nat.mul_zero]
    have HZ : Hid (A * C = 0 ∧ nw (A * C) = 0) := ⟨h0, by rw [h0, nw_zero]⟩
    clear hA hC h0
    by_cases hn0 : n = 0
    · have e1 : ((n : Int) == 0) = true := by rw [hn0]; rfl
      clear hz hn0
      go_enter Tryd.func73, Tryd.ntmps73
      go_wp2_with fail
      go_ret
      exact ⟨Grew.refl _, none, 0, by rw [HZ.out.2]; rfl, by rw [HZ.out.2, HZ.out.1]; exact wordsAt_nil _ (by omega)⟩
    · have e1 : ((n : Int) == 0) = false := by rw [beq_eq_false_iff_ne]; omega
      have e2 : ((m : Int) == 0) = true := by rw [hz.resolve_left hn0]; rfl
      clear hz hn0
      go_enter Tryd.func73, Tryd.ntmps73
      go_wp2_with fail
      go_ret
      exact ⟨Grew.refl _, none, 0, by rw [HZ.out.2]; rfl, by rw [HZ.out.2, HZ.out.1]; exact wordsAt_nil _ (by omega)⟩
  · have e1 : ((n : Int) == 0) = false := by rw [beq_eq_false_iff_ne]; omega
    have e2 : ((m : Int) == 0) = false := by rw [beq_eq_false_iff_ne]; omega
    have hCf := hC.fits
    have HCF := hidd hCf
    clear hA hC hCf
    obtain ⟨wm, hmk0, AM, gm⟩ := make_words (n + m) (by omega) w
    have hmk : (Instr.makeSlice 54 (.int .i64 ((n : Int) + (m : Int))) (.int .i64 ((n : Int) + (m : Int)))).run Tryd.prog w = .ok (.slice (some ⟨w.heap.size, 0, none⟩) (n + m) (n + m)) wm := hmk0
    have HR0 : Hid (Row w wm w.heap.size (n + m) (fun _ => 0) (A % B32 ^ 0 * C) 0 0 (0 + m)) := by
      refine ⟨AM, fun _ => by decide, ?_, fun _ _ => rfl, gm⟩
      rw [Nat.pow_zero, Nat.mod_one, Nat.zero_mul]
      have : ∀ k, vs (fun _ => 0) k = 0 := by intro k; induction k with | zero => rfl | succ k ih => rw [vs, ih]; simp
      rw [this]; simp
    clear AM gm hmk0
    go_enter Tryd.func73, Tryd.ntmps73
    go_wp2_with fail
    go_loopw [6, 7, 8] (fun u6 _ _ wr => ∃ (i : Nat) (g : Nat → Nat), i ≤ n ∧ u6 = .int .i64 i ∧ Hid (Row w wr w.heap.size (n + m) g (A % B32 ^ i * C) 0 0 (i + m))) (fun u6 _ _ _ => n - (intOf u6).toNat)
    case atStart => exact ⟨0, _, Nat.zero_le _, rfl, HR0⟩
    case round =>
      obtain ⟨i, g, hi, rfl, HR⟩ := hrel
      by_cases hlt : i < n
      · have HR1 : Hid (Row w wr w.heap.size (n + m) g (A % B32 ^ i * C + dg A i * (C % B32 ^ 0) * B32 ^ i) 0 (i + 0) (i + m)) := by
          refine ⟨HR.out.arr, HR.out.lt, ?_, HR.out.high, HR.out.grew⟩
          have := HR.out.sum
          rw [Nat.zero_mul] at this ⊢
          rw [this, Nat.pow_zero, Nat.mod_one, Nat.mul_zero, Nat.zero_mul]; rfl
        go_wp2_with fail
        go_loopw [7, 8] (fun u7 u8 wr => ∃ (j c0 : Nat) (g : Nat → Nat), j ≤ m ∧ u8 = .int .i64 j ∧ u7 = .int .u64 (c0 : Nat) ∧ c0 < 4294967296 ∧ Hid (Row w wr w.heap.size (n + m) g (A % B32 ^ i * C + dg A i * (C % B32 ^ j) * B32 ^ i) c0 (i + j) (i + m))) (fun _ u8 _ => m - (intOf u8).toNat)
        case atStart => exact ⟨0, 0, g, Nat.zero_le _, rfl, rfl, by omega, HR1⟩
        case round =>
          obtain ⟨j, c0, g', hj, rfl, rfl, hc0, HR⟩ := hrel
          by_cases hlt2 : j < m
          · obtain ⟨b, o, rfl, hcA⟩ := HA.out.words (by omega)
            obtain ⟨b', o', rfl, hcC⟩ := HC.out.words (by omega)
            have ca := HR.out.grew.keeps (hcA i hlt)
            have cc := HR.out.grew.keeps (hcC j hlt2)
            have la := dg_lt A i
            have lc := dg_lt C j
            obtain ⟨K, hK⟩ : ∃ K, i + j = K := ⟨_, rfl⟩
            have cr := HR.out.arr.at0 (i + j) (by omega)
            have cf := HR.out.arr.free0 (i + j) (by omega)
            have lg : g' (i + j) < 4294967296 := HR.out.lt (i + j)
            have HS := hidd fun nq => (HR.out.drewN nq).step (p := dg A i * dg C j) (k := i + j) (by omega) (by omega)
            rw [mul_next] at HS
            obtain ⟨x, hx⟩ : ∃ x, dg A i = x := ⟨_, rfl⟩
            obtain ⟨y, hy⟩ : ∃ x, dg C j = x := ⟨_, rfl⟩
            rw [hx] at ca la
            rw [hy] at cc lc
            obtain ⟨P, hP⟩ : ∃ P, x * y = P := ⟨_, rfl⟩
            obtain ⟨s0, hs0⟩ : ∃ s, g' (i + j) = s := ⟨_, rfl⟩
            have hPl : P ≤ 18446744065119617025 := by rw [← hP]; exact prod_lt la lc
            have HS : Hid (∀ nq, Row w ((wr.drewN nq).setCell ⟨w.heap.size, i + j, none⟩ (.int .u32 (((c0 + (P + s0)) % B32 : Nat) : Int))) w.heap.size (n + m) (updN g' (i + j) ((c0 + (P + s0)) % B32)) (A % B32 ^ i * C + dg A i * (C % B32 ^ (j + 1)) * B32 ^ i) ((c0 + (P + s0)) / B32) (i + j + 1) (i + m)) := by
              refine hidd fun nq => ?_
              have := HS.out nq
              rw [hx, hy, hP, hs0] at this
              rw [hx]; exact this
            rw [hs0] at cr lg
            obtain ⟨r0, hr0⟩ : ∃ r, (c0 + (P + s0)) % B32 = r := ⟨_, rfl⟩
            obtain ⟨c1, hc1⟩ : ∃ r, (c0 + (P + s0)) / B32 = r := ⟨_, rfl⟩
            rw [hr0, hc1] at HS
            rw [hK] at HS cr cf
            have hKl : K < n + m := by omega
            have f1 : IntKind.u64.wrap ((x : Int) * (y : Int)) = (P : Int) := by rw [← Int.natCast_mul, hP]; exact wrap_u64 (by omega)
            have f2 : IntKind.u64.wrap ((P : Int) + (s0 : Int)) = (P : Int) + (s0 : Int) := by rw [← Int.natCast_add]; exact wrap_u64 (by omega)
            have f3 : IntKind.u64.wrap ((c0 : Int) + ((P : Int) + (s0 : Int))) = (c0 : Int) + ((P : Int) + (s0 : Int)) := by rw [← Int.natCast_add, ← Int.natCast_add]; exact wrap_u64 (by omega)
            have f4 : IntKind.u32.wrap ((c0 : Int) + ((P : Int) + (s0 : Int))) = (r0 : Int) := by rw [← Int.natCast_add, ← Int.natCast_add, wrap_u32, ← hr0]
            have f5 : ((c0 : Int) + ((P : Int) + (s0 : Int))) / 4294967296 = (c1 : Int) := by rw [← hc1]; show _ = (((c0 + (P + s0)) / 4294967296 : Nat) : Int); omega
            have f6 : IntKind.i64.wrap ((i : Int) + (j : Int)) = (K : Int) := by rw [IntKind.wrap_i64]; omega
            have f7 : (i : Int) + (j : Int) = (K : Int) := by omega
            have hc1l : c1 < 4294967296 := by rw [← hc1]; show (c0 + (P + s0)) / 4294967296 < 4294967296; omega
            have HKK := hidd hK
            clear hcA hcC hx hy hP hs0 hr0 hc1 hK HR
            go_wp2_with fail
            go_quiet (fail)
            go_wp2_with fail
            have hx2 := HS.out nq
            rw [show K + 1 = i + (j + 1) by have := HKK.out; omega] at hx2
            exact ⟨⟨j + 1, c1, _, by omega, by go_num, rfl, hc1l, hx2⟩, by simp [intOf]; omega⟩
          · obtain rfl : j = m := by omega
            have HR2 : Hid (Row w wr w.heap.size (n + j) g' (A % B32 ^ (i + 1) * C) c0 (i + j) (i + j)) := by
              have := HR.out
              rw [mul_row HCF.out] at this
              exact this
            have HS := hidd (HR2.out.shut (by omega) hc0)
            obtain ⟨K, hK⟩ : ∃ K, i + j = K := ⟨_, rfl⟩
            have cr := HR2.out.arr.at0 (i + j) (by omega)
            have cf := HR2.out.arr.free0 (i + j) (by omega)
            rw [hK] at HS cr cf
            obtain ⟨s0, hs0⟩ : ∃ s, g' K = s := ⟨_, rfl⟩
            rw [hs0] at cr
            have hKl : K < n + j := by omega
            have f4 : IntKind.u32.wrap (c0 : Int) = (c0 : Int) := by rw [wrap_u32, Nat.mod_eq_of_lt hc0]
            have f6 : IntKind.i64.wrap ((i : Int) + (j : Int)) = (K : Int) := by rw [IntKind.wrap_i64]; omega
            have f7 : (i : Int) + (j : Int) = (K : Int) := by omega
            have HKK := hidd hK
            clear hK HR hs0
            go_wp2_with fail
            have hx2 := HS.out
            rw [show K + 1 = i + 1 + j by have := HKK.out; omega] at hx2
            exact ⟨⟨i + 1, _, by omega, by go_num, hidd ⟨hx2.arr, hx2.lt, hx2.sum, hx2.high, hx2.grew⟩⟩, by simp [intOf]; omega⟩
      · obtain rfl : i = n := by omega
        have HV : Hid (WordsAt wr (.slice (some ⟨w.heap.size, 0, none⟩) (i + m) (i + m)) (A * C) (i + m)) := by
          have h1 := HR.out.sum
          rw [Nat.zero_mul, Nat.add_zero, Nat.mod_eq_of_lt HA.out.fits] at h1
          refine wordsAt_arr (f := g) (by rw [← h1]; exact vs_lt fun j _ => HR.out.lt j) (fun j hj => ?_) HR.out.arr (Nat.le_refl _) (by omega)
          rw [← h1, dg_vs (fun j _ => HR.out.lt j) hj]
        have HG := hidd HR.out.grew
        clear HR
        go_wp2_with fail
        refine (trim_any HV.out).mono ?_; rintro e w3 ⟨rfl, rfl⟩
        go_wp2_with fail
        go_ret
        exact ⟨HG.out, _, _, rfl, trim_words HV.out⟩
end Go.Proofs.YthhcpocgfmlbeaaDoor
