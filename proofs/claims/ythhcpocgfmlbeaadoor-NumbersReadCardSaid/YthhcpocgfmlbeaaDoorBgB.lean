/- scanfailbig: add. Printed. -/
import Derived.Test.YthhcpocgfmlbeaaDoorBgA
namespace Go.Proofs.YthhcpocgfmlbeaaDoor
open Go.RowKit
set_option linter.unusedVariables false
theorem info_u32 : (Tryd.prog.info? 103).map (fun i => (i.zero, i.size, i.bytes)) = some (some (.int .u32 0), 1, 4) := by kernel_rfl
theorem make_words (n : Nat) (hn : n ≤ 2199023255552) (w : World) :
    ∃ w', (Instr.makeSlice 54 (.int .i64 (n : Int)) (.int .i64 (n : Int))).run Tryd.prog w = .ok (.slice (some ⟨w.heap.size, 0, none⟩) n n) w' ∧ ArrAt w' w.heap.size 0 n (fun _ => .int .u32 0) ∧ Grew w w' := by
  obtain ⟨i0, hi, hz0, hz1, hz2⟩ := info_parts info_u32
  exact make_row 54 103 i0 (.int .u32 0) Tryd.underlying54 hi hz0 hz1 rfl n (by rw [hz2]; omega) (by unfold maxLen; omega) w
theorem arr_zero {w : World} {b n : Nat} (h : ArrAt w b 0 n (fun _ => .int .u32 0)) (f : Nat → Nat) (hf : ∀ j, j < n → f j = 0) : ArrAt w b 0 n (fun j => .int .u32 (f j : Nat)) := h.congr fun j hj => by rw [hf j hj]; rfl
theorem arr_next {w : World} {b n i : Nat} {f : Nat → Nat} (h : ArrAt w b 0 n (fun j => .int .u32 ((if j < i then f j else 0 : Nat) : Int))) (hi : i < n) : ArrAt (w.setCell ⟨b, i, none⟩ (.int .u32 (f i : Nat))) b 0 n (fun j => .int .u32 ((if j < i + 1 then f j else 0 : Nat) : Int)) :=
  (h.set0 i hi _).congr fun j hj => by
    by_cases e : j = i
    · subst e; simp
    · have : (j < i + 1) = (j < i) := by apply propext; omega
      simp [e, this]
theorem wrap_u64 {x : Nat} (h : x < 18446744073709551616) : IntKind.u64.wrap (x : Int) = x := by unfold IntKind.wrap; simp [IntKind.signed, IntKind.bits]; omega
theorem wrap_u32 (x : Nat) : IntKind.u32.wrap (x : Int) = (x % 4294967296 : Nat) := by unfold IntKind.wrap; simp [IntKind.signed, IntKind.bits]
set_option maxRecDepth 100000 in
set_option maxHeartbeats 4000000 in
theorem add_any {w : World} {p q : Option Addr} {A C n m c d : Nat} (hA : WordsAt w (.slice p n c) A n) (hC : WordsAt w (.slice q m d) C m) (hn : n ≤ 1099511627776) (hm : m ≤ 1099511627776) :
    Calls Tryd.prog 98 #[.slice p n c, .slice q m d] w fun e w' => Grew w w' ∧ ∃ p' c', e = .returned (.slice p' (nw (A + C)) c') ∧ WordsAt w' (.slice p' (nw (A + C)) c') (A + C) (nw (A + C)) := by
  have HA := hidd hA
  have HC := hidd hC
  obtain ⟨_, _, he, hac, hac2⟩ := hA.form
  cases he
  obtain ⟨_, _, he, hcc, hcc2⟩ := hC.form
  cases he
  clear hA hC
  by_cases hl : n < m
  · have e1 : decide (n < m) = true := decide_eq_true hl
    have HS := hidd (sum_dg (n := m) HC.out.fits (Nat.lt_of_lt_of_le HA.out.fits (Nat.pow_le_pow_right (by decide) (by omega))))
    have HCL := hidd (fun i => cA_le (fun j => dg_lt C j) (fun j => dg_lt A j) i)
    obtain ⟨wm, hmk, AM, gm⟩ := make_words (m + 1) (by omega) w
    have hmk' : (Instr.makeSlice 54 (.int .i64 ((m : Int) + 1)) (.int .i64 ((m : Int) + 1))).run Tryd.prog w = .ok (.slice (some ⟨w.heap.size, 0, none⟩) (m + 1) (m + 1)) wm := hmk
    have HAM := hidd (arr_zero AM (fun j => if j < 0 then rA (dg C) (dg A) j else 0) (fun j hj => if_neg (by omega)))
    have HGM := hidd gm
    clear AM gm
    go_enter Tryd.func98, Tryd.ntmps98
    go_wp2_with fail
    go_loopw [6, 7] (fun u6 u7 wr => ∃ i : Nat, i ≤ m ∧ u7 = .int .i64 i ∧ u6 = .int .u64 (cA (dg C) (dg A) i : Nat) ∧ Hid (ArrAt wr w.heap.size 0 (m + 1) (fun j => .int .u32 ((if j < i then rA (dg C) (dg A) j else 0 : Nat) : Int))) ∧ Hid (Grew w wr)) (fun _ u7 _ => m - (intOf u7).toNat)
    case atStart => exact ⟨0, Nat.zero_le _, rfl, rfl, HAM, HGM⟩
    case round =>
      obtain ⟨i, hi, rfl, rfl, HR, HG⟩ := hrel
      by_cases hlt : i < m
      · obtain ⟨b, o, rfl, hcA⟩ := HC.out.words (by omega)
        have ca := HG.out.keeps (hcA i hlt)
        have cs := HR.out.at0 i (by omega)
        have cf := HR.out.free0 i (by omega)
        have hcl := HCL.out i
        have la := dg_lt C i
        have lc := dg_lt A i
        have HN := hidd (arr_next HR.out (show i < m + 1 by omega))
        have HG' : Hid (∀ v, Grew w (wr.setCell ⟨w.heap.size, i, none⟩ v)) := hidd fun v => HG.out.setCell (Nat.le_refl _) v
        have HC1 : Hid (cA (dg C) (dg A) (i + 1) = (cA (dg C) (dg A) i + dg C i + dg A i) / 4294967296) := rfl
        have HR1 : Hid (rA (dg C) (dg A) i = (cA (dg C) (dg A) i + dg C i + dg A i) % 4294967296) := rfl
        obtain ⟨c1, hc1⟩ : ∃ x, cA (dg C) (dg A) (i + 1) = x := ⟨_, rfl⟩
        obtain ⟨r0, hr0⟩ : ∃ x, rA (dg C) (dg A) i = x := ⟨_, rfl⟩
        rw [hc1] at HC1
        rw [hr0] at HR1 HN
        have HQ := hidd hc1
        obtain ⟨c0, hc0⟩ : ∃ x, cA (dg C) (dg A) i = x := ⟨_, rfl⟩
        rw [hc0] at HC1 HR1 hcl
        by_cases hm2 : i < n
        · obtain ⟨b', o', rfl, hcC⟩ := HA.out.words (by omega)
          have cc := HG.out.keeps (hcC i hm2)
          obtain ⟨x, hx⟩ : ∃ x, dg C i = x := ⟨_, rfl⟩
          obtain ⟨y, hy⟩ : ∃ x, dg A i = x := ⟨_, rfl⟩
          rw [hx] at ca la HC1 HR1
          rw [hy] at cc lc HC1 HR1
          have f0 := hc0
          have f1 : IntKind.u64.wrap ((c0 : Int) + (x : Int)) = (c0 : Int) + (x : Int) := by rw [← Int.natCast_add]; exact wrap_u64 (by omega)
          have f2 : IntKind.u64.wrap ((c0 : Int) + (x : Int) + (y : Int)) = (c0 : Int) + (x : Int) + (y : Int) := by rw [← Int.natCast_add, ← Int.natCast_add]; exact wrap_u64 (by omega)
          have f3 : IntKind.u32.wrap ((c0 : Int) + (x : Int) + (y : Int)) = (r0 : Int) := by rw [← Int.natCast_add, ← Int.natCast_add, wrap_u32, HR1.out]
          have f4 : ((c0 : Int) + (x : Int) + (y : Int)) / 4294967296 = (c1 : Int) := by rw [HC1.out]; omega
          clear hcA hcC hc1 hr0 hx hy HC1 HR1 hc0
          go_wp2_with fail
          go_roundw
          case rel => exact ⟨i + 1, by omega, by go_num, by rw [HQ.out], HN, HG'.out _⟩
          case measure => simp [intOf]; omega
        · have hy : dg A i = 0 := dg_high HA.out.fits (by omega)
          have e2 : decide (i < n) = false := decide_eq_false hm2
          obtain ⟨x, hx⟩ : ∃ x, dg C i = x := ⟨_, rfl⟩
          rw [hx] at ca la HC1 HR1
          rw [hy] at HC1 HR1
          have f0 := hc0
          have f1 : IntKind.u64.wrap ((c0 : Int) + (x : Int)) = (c0 : Int) + (x : Int) := by rw [← Int.natCast_add]; exact wrap_u64 (by omega)
          have f3 : IntKind.u32.wrap ((c0 : Int) + (x : Int)) = (r0 : Int) := by rw [← Int.natCast_add, wrap_u32, HR1.out]; rfl
          have f4 : ((c0 : Int) + (x : Int)) / 4294967296 = (c1 : Int) := by rw [HC1.out]; omega
          clear hcA hc1 hr0 hx hy HC1 HR1 hm2 hc0
          go_wp2_with fail
          go_roundw
          case rel => exact ⟨i + 1, by omega, by go_num, by rw [HQ.out], HN, HG'.out _⟩
          case measure => simp [intOf]; omega
      · obtain rfl : i = m := by omega
        have cs := HR.out.at0 i (by omega)
        have cf := HR.out.free0 i (by omega)
        have hcl := HCL.out i
        have HW : Hid (WordsAt (wr.setCell ⟨w.heap.size, i, none⟩ (.int .u32 (cA (dg C) (dg A) i : Nat))) (.slice (some ⟨w.heap.size, 0, none⟩) (i + 1) (i + 1)) (C + A) (i + 1)) := by
          refine wordsAt_arr (f := fun j => if j = i then cA (dg C) (dg A) i else rA (dg C) (dg A) j) HS.out.2.2 (fun j hj => ?_) ((HR.out.set0 i (by omega) _).congr fun j hj => ?_) (Nat.le_refl _) (by omega)
          · by_cases e : j = i
            · rw [if_pos e, e]; exact HS.out.2.1.symm
            · rw [if_neg e]; exact (HS.out.1 j (by omega)).symm
          · by_cases e : j = i
            · rw [if_pos e, if_pos e]
            · rw [if_neg e, if_neg e, if_pos (by omega)]
        have HG' : Hid (∀ v, Grew w (wr.setCell ⟨w.heap.size, i, none⟩ v)) := hidd fun v => HG.out.setCell (Nat.le_refl _) v
        obtain ⟨c0, hc0⟩ : ∃ x, cA (dg C) (dg A) i = x := ⟨_, rfl⟩
        rw [hc0] at HW hcl
        have f3 : IntKind.u32.wrap (c0 : Int) = (c0 : Int) := by rw [wrap_u32, Nat.mod_eq_of_lt (by omega)]
        have f0 := hc0
        clear hc0
        go_wp2_with fail
        refine (trim_any HW.out).mono ?_; rintro e w3 ⟨rfl, rfl⟩
        go_wp2_with fail
        go_ret
        exact ⟨HG'.out _, _, _, by rw [Nat.add_comm A C]; rfl, by have := trim_words HW.out; rwa [Nat.add_comm A C]⟩
  · have e1 : decide (n < m) = false := decide_eq_false hl
    have HS := hidd (sum_dg (n := n) HA.out.fits (Nat.lt_of_lt_of_le HC.out.fits (Nat.pow_le_pow_right (by decide) (by omega))))
    have HCL := hidd (fun i => cA_le (fun j => dg_lt A j) (fun j => dg_lt C j) i)
    obtain ⟨wm, hmk, AM, gm⟩ := make_words (n + 1) (by omega) w
    have hmk' : (Instr.makeSlice 54 (.int .i64 ((n : Int) + 1)) (.int .i64 ((n : Int) + 1))).run Tryd.prog w = .ok (.slice (some ⟨w.heap.size, 0, none⟩) (n + 1) (n + 1)) wm := hmk
    have HAM := hidd (arr_zero AM (fun j => if j < 0 then rA (dg A) (dg C) j else 0) (fun j hj => if_neg (by omega)))
    have HGM := hidd gm
    clear AM gm
    go_enter Tryd.func98, Tryd.ntmps98
    go_wp2_with fail
    go_loopw [6, 7] (fun u6 u7 wr => ∃ i : Nat, i ≤ n ∧ u7 = .int .i64 i ∧ u6 = .int .u64 (cA (dg A) (dg C) i : Nat) ∧ Hid (ArrAt wr w.heap.size 0 (n + 1) (fun j => .int .u32 ((if j < i then rA (dg A) (dg C) j else 0 : Nat) : Int))) ∧ Hid (Grew w wr)) (fun _ u7 _ => n - (intOf u7).toNat)
    case atStart => exact ⟨0, Nat.zero_le _, rfl, rfl, HAM, HGM⟩
    case round =>
      obtain ⟨i, hi, rfl, rfl, HR, HG⟩ := hrel
      by_cases hlt : i < n
      · obtain ⟨b, o, rfl, hcA⟩ := HA.out.words (by omega)
        have ca := HG.out.keeps (hcA i hlt)
        have cs := HR.out.at0 i (by omega)
        have cf := HR.out.free0 i (by omega)
        have hcl := HCL.out i
        have la := dg_lt A i
        have lc := dg_lt C i
        have HN := hidd (arr_next HR.out (show i < n + 1 by omega))
        have HG' : Hid (∀ v, Grew w (wr.setCell ⟨w.heap.size, i, none⟩ v)) := hidd fun v => HG.out.setCell (Nat.le_refl _) v
        have HC1 : Hid (cA (dg A) (dg C) (i + 1) = (cA (dg A) (dg C) i + dg A i + dg C i) / 4294967296) := rfl
        have HR1 : Hid (rA (dg A) (dg C) i = (cA (dg A) (dg C) i + dg A i + dg C i) % 4294967296) := rfl
        obtain ⟨c1, hc1⟩ : ∃ x, cA (dg A) (dg C) (i + 1) = x := ⟨_, rfl⟩
        obtain ⟨r0, hr0⟩ : ∃ x, rA (dg A) (dg C) i = x := ⟨_, rfl⟩
        rw [hc1] at HC1
        rw [hr0] at HR1 HN
        have HQ := hidd hc1
        obtain ⟨c0, hc0⟩ : ∃ x, cA (dg A) (dg C) i = x := ⟨_, rfl⟩
        rw [hc0] at HC1 HR1 hcl
        by_cases hm2 : i < m
        · obtain ⟨b', o', rfl, hcC⟩ := HC.out.words (by omega)
          have cc := HG.out.keeps (hcC i hm2)
          obtain ⟨x, hx⟩ : ∃ x, dg A i = x := ⟨_, rfl⟩
          obtain ⟨y, hy⟩ : ∃ x, dg C i = x := ⟨_, rfl⟩
          rw [hx] at ca la HC1 HR1
          rw [hy] at cc lc HC1 HR1
          have f0 := hc0
          have f1 : IntKind.u64.wrap ((c0 : Int) + (x : Int)) = (c0 : Int) + (x : Int) := by rw [← Int.natCast_add]; exact wrap_u64 (by omega)
          have f2 : IntKind.u64.wrap ((c0 : Int) + (x : Int) + (y : Int)) = (c0 : Int) + (x : Int) + (y : Int) := by rw [← Int.natCast_add, ← Int.natCast_add]; exact wrap_u64 (by omega)
          have f3 : IntKind.u32.wrap ((c0 : Int) + (x : Int) + (y : Int)) = (r0 : Int) := by rw [← Int.natCast_add, ← Int.natCast_add, wrap_u32, HR1.out]
          have f4 : ((c0 : Int) + (x : Int) + (y : Int)) / 4294967296 = (c1 : Int) := by rw [HC1.out]; omega
          clear hcA hcC hc1 hr0 hx hy HC1 HR1 hc0
          go_wp2_with fail
          go_roundw
          case rel => exact ⟨i + 1, by omega, by go_num, by rw [HQ.out], HN, HG'.out _⟩
          case measure => simp [intOf]; omega
        · have hy : dg C i = 0 := dg_high HC.out.fits (by omega)
          have e2 : decide (i < m) = false := decide_eq_false hm2
          obtain ⟨x, hx⟩ : ∃ x, dg A i = x := ⟨_, rfl⟩
          rw [hx] at ca la HC1 HR1
          rw [hy] at HC1 HR1
          have f0 := hc0
          have f1 : IntKind.u64.wrap ((c0 : Int) + (x : Int)) = (c0 : Int) + (x : Int) := by rw [← Int.natCast_add]; exact wrap_u64 (by omega)
          have f3 : IntKind.u32.wrap ((c0 : Int) + (x : Int)) = (r0 : Int) := by rw [← Int.natCast_add, wrap_u32, HR1.out]; rfl
          have f4 : ((c0 : Int) + (x : Int)) / 4294967296 = (c1 : Int) := by rw [HC1.out]; omega
          clear hcA hc1 hr0 hx hy HC1 HR1 hm2 hc0
          go_wp2_with fail
          go_roundw
          case rel => exact ⟨i + 1, by omega, by go_num, by rw [HQ.out], HN, HG'.out _⟩
          case measure => simp [intOf]; omega
      · obtain rfl : i = n := by omega
        have cs := HR.out.at0 i (by omega)
        have cf := HR.out.free0 i (by omega)
        have hcl := HCL.out i
        have HW : Hid (WordsAt (wr.setCell ⟨w.heap.size, i, none⟩ (.int .u32 (cA (dg A) (dg C) i : Nat))) (.slice (some ⟨w.heap.size, 0, none⟩) (i + 1) (i + 1)) (A + C) (i + 1)) := by
          refine wordsAt_arr (f := fun j => if j = i then cA (dg A) (dg C) i else rA (dg A) (dg C) j) HS.out.2.2 (fun j hj => ?_) ((HR.out.set0 i (by omega) _).congr fun j hj => ?_) (Nat.le_refl _) (by omega)
          · by_cases e : j = i
            · rw [if_pos e, e]; exact HS.out.2.1.symm
            · rw [if_neg e]; exact (HS.out.1 j (by omega)).symm
          · by_cases e : j = i
            · rw [if_pos e, if_pos e]
            · rw [if_neg e, if_neg e, if_pos (by omega)]
        have HG' : Hid (∀ v, Grew w (wr.setCell ⟨w.heap.size, i, none⟩ v)) := hidd fun v => HG.out.setCell (Nat.le_refl _) v
        obtain ⟨c0, hc0⟩ : ∃ x, cA (dg A) (dg C) i = x := ⟨_, rfl⟩
        rw [hc0] at HW hcl
        have f3 : IntKind.u32.wrap (c0 : Int) = (c0 : Int) := by rw [wrap_u32, Nat.mod_eq_of_lt (by omega)]
        have f0 := hc0
        clear hc0
        go_wp2_with fail
        refine (trim_any HW.out).mono ?_; rintro e w3 ⟨rfl, rfl⟩
        go_wp2_with fail
        go_ret
        exact ⟨HG'.out _, _, _, rfl, trim_words HW.out⟩
end Go.Proofs.YthhcpocgfmlbeaaDoor
