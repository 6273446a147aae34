/- What the rows' lists give (chapter 7), and a world for the witness. -/
import Derived.Test.YtkkdpafkafjfgaaDoorMkPGlZ
import Derived.Test.YtkkdpafkafjfgaaDoorMkPAuR
import Derived.Test.YtkkdpafkafjfgaaDoorMkPStBits
import Derived.Test.YtkkdpafkafjfgaaDoorCards
import Derived.Test.YtkkdpafkafjfgaaDoorTie
import Derived.LaidSub
import Derived.Lib.LaidTab
import Derived.ProofKit
import Derived.OpenShut
import Derived.Deep.DeepHandedRow
import Derived.Test.YtkkdpafkafjfgaaDoorMkPScNo
import Derived.Test.YtkkdpafkafjfgaaDoorMkScWrong
import Derived.Test.YtkkdpafkafjfgaaDoorRows
import Derived.Test.YtkkdpafkafjfgaaDoorMkNtT
import Derived.Test.YtkkdpafkafjfgaaDoorMkSlM
import Derived.Test.YtkkdpafkafjfgaaDoorMkPNtV
import Derived.Test.YtkkdpafkafjfgaaDoorMkScWF
import Derived.Deep.DeepCutAuto
namespace Go.Proofs.YtkkdpafkafjfgaaDoor
open Go.RowKit
set_option linter.unusedVariables false
def cellsD : DataW Unit → Array Value
  | .agg l => (l.map fun | .lit (.int k n) => Value.int k n | _ => Value.bool false).toArray
  | _ => #[]
def layCells (d : DataW Unit) : Obj → Obj
  | .cells _ t frozen => .cells (cellsD d) t frozen
  | o => o
def layTabs (h : Array Obj) : Array Obj :=
  let h1 := h.modify 0 (layCells Rows.laid_math_bits_deBruijn32tab)
  let h2 := h1.modify 1 (layCells Rows.laid_math_bits_deBruijn64tab)
  h2.modify 3 (layCells Rows.laid_internal_strconv_uint64pow10)
noncomputable def laidW (os : Os) : World :=
  { World.holding Tryd.prog os ⟨#[], #[], []⟩ with heap := layTabs (World.holding Tryd.prog os ⟨#[], #[], []⟩).heap }
theorem gTab32 : Tryd.prog.globalNamed "math/bits.deBruijn32tab" = some 0 := by kernel_rfl
theorem gTab32T : (Tryd.prog.globals[0]?).map (·.type) = some 143 := by kernel_rfl
theorem cellsTab32 : Tryd.prog.cellsOf 143 = 32 := by kernel_rfl
theorem cellsU8x : Tryd.prog.cellsOf 5 = 1 := by kernel_rfl
theorem tab32_met {W : World} (h3 : laidMet Tryd.prog [("math/bits.deBruijn32tab", Lib.tabData .u8 (Lib.deBruijn32tab.map Int.ofNat))] W) : TabZ32 W := by
  have h4 := Lib.tabIs_of_head (rest := []) gTab32 gTab32T Tryd.underlying143 Tryd.underlying5 cellsU8x cellsTab32 h3
  intro j hj
  have h5 := h4.cell gTab32 j (by simpa [Lib.deBruijn32tab] using hj)
  rw [h5]
  have hj2 : j < Lib.deBruijn32tab.length := hj
  simp [List.getD_eq_getElem?_getD, List.getElem?_eq_getElem hj2]
end Go.Proofs.YtkkdpafkafjfgaaDoor

namespace Go.Proofs.YtkkdpafkafjfgaaDoor
open Go.RowKit Go.ChangeShapes
set_option linter.unusedVariables false
theorem bulk_part {H : Type} {d : DataW H} {l : List (DataW H)} (h : d ∈ l) : Rows.uptoBulk d ≤ Rows.uptoBulkAll l := by
  induction l with
  | nil => cases h
  | cons x r ih =>
    simp only [Rows.uptoBulkAll]
    rcases List.mem_cons.1 h with rfl | e
    · omega
    · have := ih e; omega
theorem bulk_kids {H : Type} : ∀ (l : List Pat) (es : List (DataW H)), l.length = es.length → (∀ i (h : i < l.length) (k : i < es.length), nodesP (l[i]'h) ≤ Rows.uptoBulk (es[i]'k)) → nodesL l ≤ Rows.uptoBulkAll es
  | [], es, h, _ => by rw [nodesL]; omega
  | p :: l, [], h, _ => by simp at h
  | p :: l, e :: es, h, hk => by
    rw [nodesL]
    simp only [Rows.uptoBulkAll]
    have h0 := hk 0 (by simp) (by simp)
    have := bulk_kids l es (by simpa using h) (fun i hi k => hk (i + 1) (by simp; omega) (by simp; omega))
    have h0 : nodesP p ≤ Rows.uptoBulk e := h0
    omega
section
variable {H : Type} {enc : TypeId × Value → H} {w : World} {base : Nat} {sp : Nat → Bool} {hd : Bool}
theorem bulk_pat : ∀ (fuel : Nat) (cs : List Value) (x : DataW H × List MemPlace), DataW.trod enc Tryd.prog w base sp hd fuel 24 cs = some x → ∀ (p : Pat) (kv : Value), cs = (p.cells kv).toList → PatV w kv p → nodesP p ≤ Rows.uptoBulk x.1 := by
  intro fuel
  induction fuel using Nat.strongRecOn with
  | _ fuel ih =>
    intro cs x h p kv hcs hp
    obtain ⟨xs, n, rfl, rfl, hl, hlen, hf⟩ := DataW.trod_struct Tryd.underlying24 h
    obtain ⟨y0, y1, y2, y3, y4, rfl⟩ := list_five hlen
    subst hcs
    have f4 : DataW.trod enc Tryd.prog w base sp hd n 22 [kv] = some y4 := by simpa [Pat.cells, cells_pats] using hf 4 _ rfl
    simp only [List.map_cons, List.map_nil, Rows.uptoBulk, Rows.uptoBulkAll]
    have hk : nodesL p.kids ≤ Rows.uptoBulk y4.1 := by
      rcases DataW.trod_slice Tryd.underlying22 f4 with ⟨e4, _⟩ | ⟨a, len, cap, elems, rest, n', rfl, e4, rfl, hb, hlc, hcm, hel, hall, _, _⟩
      · simp only [List.cons.injEq, and_true] at e4
        rcases hp.kids with ⟨b, c, e, e2⟩ | ⟨b, o, c, e, h0, _⟩
        · rw [e2, nodesL]; omega
        · rw [e4] at e; cases e
      · simp only [List.cons.injEq, and_true] at e4
        rcases hp.kids with ⟨b, c, e, e2⟩ | ⟨b, o, c, e, h0, h1, h2, h3⟩
        · rw [e2, nodesL]; omega
        · rw [e4] at e
          simp only [Value.slice.injEq, Option.some.injEq] at e
          obtain ⟨ea, el, ec⟩ := e
          subst ea
          subst el
          simp only [Rows.uptoBulk]
          have := bulk_kids p.kids (elems.map (·.1)) (by rw [List.length_map, hel]) (fun i hi k => by
            have hx := hall i hi
            have hie : i < elems.length := by omega
            rw [List.getElem?_eq_getElem hie] at hx
            obtain ⟨cs', k1, k2⟩ := Option.bind_eq_some_iff.1 hx
            rw [cells_pat] at k1
            obtain ⟨_, k3, hc⟩ := World.cells?_some k1
            obtain ⟨v0, v1, v2, v3, v4, rfl⟩ := list_five k3
            obtain ⟨kq, hnq, hvq⟩ := (h3 i hi).value
            have hgd : p.kids.getD i Pat.zero = p.kids[i] := by rw [List.getD_eq_getElem?_getD, List.getElem?_eq_getElem hi]; rfl
            rw [hgd] at hnq hvq
            have c0 := hc 0 (by omega)
            have c1 := hc 1 (by omega)
            have c2 := hc 2 (by omega)
            have c3 := hc 3 (by omega)
            have c4 := hc 4 (by omega)
            simp only [plain_add, Nat.add_zero, List.getElem?_cons_zero, List.getElem?_cons_succ] at c0 c1 c2 c3 c4
            rw [hnq.c0] at c0
            rw [hnq.c1] at c1
            rw [hnq.c2] at c2
            rw [hnq.c3] at c3
            rw [hnq.c4] at c4
            cases c0; cases c1; cases c2; cases c3; cases c4
            have := ih n' (by omega) _ _ k2 (p.kids[i]) _ rfl hvq
            rw [List.getElem_map]
            exact this)
          omega
    rw [nodesP_eq]
    omega
theorem bulk_patv {v : Value} {d : DataW H} {ps : List MemPlace} (h : DataW.Trod enc Tryd.prog w base sp hd 24 v d ps) {p : Pat} {kv : Value} (hv : v = .agg (p.cells kv)) (hp : PatV w kv p) : nodesP p ≤ Rows.uptoBulk d := by
  obtain ⟨fuel, h⟩ := h
  subst hv
  exact bulk_pat fuel _ _ h p kv (by simp [Value.cells]) hp
end
end Go.Proofs.YtkkdpafkafjfgaaDoor

namespace Go.Proofs.YtkkdpafkafjfgaaDoor
open Go.RowKit RR
set_option linter.unusedVariables false
set_option linter.unusedSimpArgs false
set_option maxRecDepth 100000
theorem nt_start {w wr : World} {nb : Nat} (g : Grew w wr) (hnb : w.heap.size ≤ nb) (h : wr.heap[nb]? = some (.cells #[.int .i64 2, .slice none 0 0] 87 (0, 0))) : NtAt w wr nb ⟨2, []⟩ (fun k => k = nb) :=
  ⟨[], .slice none 0 0, ⟨g, h, ⟨rfl, none, 0, rfl, Nat.le_refl _, Nat.zero_le _, fun h => absurd h (Nat.lt_irrefl 0)⟩, hnb, fun k hk => (by cases hk), rfl, fun y hy => (by cases hy)⟩, fun k => ⟨fun h => h.elim id (fun e => by cases e), Or.inl⟩⟩
theorem placesI_neg {p : Pat} (h : placesP p = none) : placesI p = -1 := by unfold placesI; rw [h]
theorem placesI_pos {p : Pat} {n : Nat} (h : placesP p = some n) : placesI p = (n : Nat) := by unfold placesI; rw [h]
set_option maxHeartbeats 4000000 in
theorem MakeR_any (p : Pat) (kv : Value) (w : World) (hp : PatV w kv p) (hB : nodesP p ≤ 2000000) (hL : patErr p = 0 → nodesP p ≤ 300) : Calls Tryd.prog 11 #[.agg (p.cells kv)] w (TwoEnd w (makeErr p) (autL p)) := by
  have hz := zero_aut
  have hG0 := (Grew.refl w).alloc (.cells (p.cells kv) 24)
  have hG1 := (Grew.refl (w.alloc (.cells (p.cells kv) 24))).alloc (.cells zAut 30)
  have HR0 := hidd (heap_alloc2_new w (.cells (p.cells kv) 24) (.cells zAut 30))
  have HG := hidd (hG0.trans hG1)
  have hb0 := heap_kept hG1 (heap_alloc_new w (.cells (p.cells kv) 24))
  obtain ⟨W, hW⟩ : ∃ W, (w.alloc (.cells (p.cells kv) 24)).alloc (.cells zAut 30) = W := ⟨_, rfl⟩
  rw [hW] at HR0 HG hb0
  have HBx := hidd hb0
  have HP := hidd (hp.kept HG.out)
  have HWr := hidd (PWrongR_any kv p W HP.out hB)
  have HLe := hidd hL
  have b0 : W.cell? ⟨w.heap.size, 0, none⟩ = some (.int .i64 p.kind) := cell_of hb0 0
  have b1 : W.cell? ⟨w.heap.size, 1, none⟩ = some (.string p.text) := cell_of hb0 1
  have b2 : W.cell? ⟨w.heap.size, 2, none⟩ = some (.int .i64 p.n) := cell_of hb0 2
  have b3 : W.cell? ⟨w.heap.size, 3, none⟩ = some (.string p.name) := cell_of hb0 3
  have b4 : W.cell? ⟨w.heap.size, 4, none⟩ = some kv := cell_of hb0 4
  obtain ⟨err, herr⟩ : ∃ err, makeErr p = err := ⟨_, rfl⟩
  have HE := hidd herr
  rw [herr]
  obtain ⟨perr, hperr⟩ : ∃ perr, patErr p = perr := ⟨_, rfl⟩
  have HPe := hidd hperr
  rw [hperr] at HWr
  obtain ⟨LL, hLL⟩ : ∃ LL, autL p = LL := ⟨_, rfl⟩
  have HLL := hidd hLL
  rw [hLL]
  unfold Pat.cells at hW HWr ⊢
  clear hG0 hG1 hp herr hperr hb0 hLL hB hL
  go_enter Tryd.func11, Tryd.ntmps11
  go_wp2_with (rw [hW])
  refine HWr.out.mono ?_; rintro e w2 ⟨rfl, g2⟩
  obtain ⟨rs, hrs⟩ : ∃ rs, w.heap.size + 1 = rs := ⟨_, rfl⟩
  rw [hrs] at HR0 ⊢
  have HRs := hidd (show w.heap.size ≤ rs by omega)
  obtain ⟨pb, hpb⟩ : ∃ pb, w.heap.size = pb := ⟨_, rfl⟩
  have HPr : Hid (pb < rs) := by show pb < rs; omega
  rw [hpb] at HBx ⊢
  have HG2 := hidd (HG.out.trans g2)
  have HR2 := hidd (heap_kept g2 HR0.out)
  have HB2 := hidd (heap_kept g2 HBx.out)
  have HP2 := hidd (HP.out.kept g2)
  clear HWr HG HR0 HP HBx g2 hW hrs b0 b1 b2 b3 b4 hpb
  by_cases h0 : perr = 0
  · subst h0
    have hb2 := HB2.out
    have b0 : w2.cell? ⟨pb, 0, none⟩ = some (.int .i64 p.kind) := cell_of hb2 0
    have b1 : w2.cell? ⟨pb, 1, none⟩ = some (.string p.text) := cell_of hb2 1
    have b2 : w2.cell? ⟨pb, 2, none⟩ = some (.int .i64 p.n) := cell_of hb2 2
    have b3 : w2.cell? ⟨pb, 3, none⟩ = some (.string p.name) := cell_of hb2 3
    have b4 : w2.cell? ⟨pb, 4, none⟩ = some kv := cell_of hb2 4
    have h300 := HLe.out HPe.out
    have HPl := hidd (Places_any HP2.out (patErr_fit HPe.out) (by omega) w2 (Grew.refl w2))
    unfold Pat.cells at HPl
    have HN3 := hidd h300
    clear hb2 h300
    cases hpp : placesP p with
    | none =>
      have HErr : Hid (err = 1) := by rw [Hid, ← HE.out]; unfold makeErr; rw [if_pos HPe.out, hpp]
      rw [placesI_neg hpp] at HPl
      clear hpp
      go_wp2_with fail
      refine HPl.out.mono ?_; rintro e w3 ⟨rfl, g3⟩
      have HR3 := hidd (heap_kept g3 HR2.out)
      have HG3 := hidd (HG2.out.trans g3)
      clear g3 b0 b1 b2 b3 b4
      go_wp2_with (first | (refine wpList_build_aut rfl rfl ?_) | (refine wpList_store_aut (b := rs) rfl rfl rfl rfl HR3.out zAut_size zAut_size zAut_one ?_))
      exact bodyPost_ret (results_aut2 (p := 2) (q := 3) rfl rfl rfl (setRow_heap w3 rs _ zAut _ _ HR3.out) zAut_size) rfl ⟨zeroA, none, 0, none, 0, by rw [zeroA_B, HErr.out]; rfl, fun w'' _ _ => zeroA_at w'', setRow_grew HG3.out HRs.out _, fun _ => rfl, fun h => absurd (HErr.out.symm.trans h) (by decide)⟩
    | some n =>
      rw [placesI_pos hpp] at HPl
      have HPp := hidd hpp
      clear hpp
      by_cases h12 : 12 < n
      · have HErr : Hid (err = 4) := by rw [Hid, ← HE.out]; unfold makeErr; rw [if_pos HPe.out, HPp.out]; dsimp only; rw [if_pos h12]
        have k1 : decide ((n : Int) < 0) = false := decide_eq_false (by omega)
        have k2 : decide ((12 : Int) < (n : Int)) = true := decide_eq_true (by omega)
        have k3 : decide (12 < n) = true := decide_eq_true h12
        go_wp2_with fail
        refine HPl.out.mono ?_; rintro e w3 ⟨rfl, g3⟩
        have HR3 := hidd (heap_kept g3 HR2.out)
        have HG3 := hidd (HG2.out.trans g3)
        clear g3 b0 b1 b2 b3 b4
        go_wp2_with (first | (refine wpList_build_aut rfl rfl ?_) | (refine wpList_store_aut (b := rs) rfl rfl rfl rfl HR3.out zAut_size zAut_size zAut_one ?_))
        exact bodyPost_ret (results_aut2 (p := 2) (q := 3) rfl rfl rfl (setRow_heap w3 rs _ zAut _ _ HR3.out) zAut_size) rfl ⟨zeroA, none, 0, none, 0, by rw [zeroA_B, HErr.out]; rfl, fun w'' _ _ => zeroA_at w'', setRow_grew HG3.out HRs.out _, fun _ => rfl, fun h => absurd (HErr.out.symm.trans h) (by decide)⟩
      · have hme : makeErr p = 0 := by unfold makeErr; rw [if_pos HPe.out, HPp.out]; dsimp only; rw [if_neg h12]
        have HErr : Hid (err = 0) := by rw [Hid, ← HE.out]; exact hme
        have HNk := hidd (net_ok hme HN3.out)
        have k1 : decide ((n : Int) < 0) = false := decide_eq_false (by omega)
        have k2 : decide ((12 : Int) < (n : Int)) = false := decide_eq_false (by omega)
        have k3 : decide (12 < n) = false := decide_eq_false h12
        clear hme
        go_wp2_with fail
        refine HPl.out.mono ?_; rintro e w3 ⟨rfl, g3⟩
        have HR3 := hidd (heap_kept g3 HR2.out)
        have HG3 := hidd (HG2.out.trans g3)
        have HB3 := hidd (heap_kept g3 HB2.out)
        have HP3 := hidd (HP2.out.kept g3)
        clear g3 b0 b1 b2 b3 b4 HPl HR2 HG2 HB2 HP2
        have ga := (Grew.refl w3).alloc (.cells #[.int .i64 2, .slice none 0 0] 87)
        have hbn := heap_alloc_new w3 (.cells #[.int .i64 2, .slice none 0 0] 87)
        obtain ⟨nb, hnb⟩ : ∃ nb, w3.heap.size = nb := ⟨_, rfl⟩
        rw [hnb] at hbn
        have HNt := hidd (nt_start ga (Nat.le_of_eq hnb) hbn)
        have HDr := hidd (Draw_any HP3.out (patErr_fit HPe.out) (w3.alloc (.cells #[.int .i64 2, .slice none 0 0] 87)) nb ⟨2, []⟩ _ 0 1 HNt.out (show (netP p).places ≤ 100000 ∧ (netP p).arrows.length ≤ 100000 from ⟨by have := HNk.out.2.2.1; omega, by have := HNk.out.2.2.2.1; omega⟩))
        have hb3 := heap_kept ga HB3.out
        have b0 : (w3.alloc (.cells #[.int .i64 2, .slice none 0 0] 87)).cell? ⟨pb, 0, none⟩ = some (.int .i64 p.kind) := cell_of hb3 0
        have b1 : (w3.alloc (.cells #[.int .i64 2, .slice none 0 0] 87)).cell? ⟨pb, 1, none⟩ = some (.string p.text) := cell_of hb3 1
        have b2 : (w3.alloc (.cells #[.int .i64 2, .slice none 0 0] 87)).cell? ⟨pb, 2, none⟩ = some (.int .i64 p.n) := cell_of hb3 2
        have b3 : (w3.alloc (.cells #[.int .i64 2, .slice none 0 0] 87)).cell? ⟨pb, 3, none⟩ = some (.string p.name) := cell_of hb3 3
        have b4 : (w3.alloc (.cells #[.int .i64 2, .slice none 0 0] 87)).cell? ⟨pb, 4, none⟩ = some kv := cell_of hb3 4
        have hzn : ∀ w, (zeroValue 87).run Tryd.prog w = .ok (.agg #[.int .i64 0, .slice none 0 0]) w := fun w => run_zero (by kernel_rfl) w
        unfold Pat.cells at HDr
        clear ga hbn hb3
        go_wp2_with fail
        refine HDr.out.mono ?_; rintro e w4 ⟨rfl, G, hN4, hT4⟩
        have HR4 := hidd (heap_kept hN4.grew HR3.out)
        have HG4 := hidd (HG3.out.trans hN4.grew)
        have HSe := hidd (Sets_any hN4 HNk.out.1 (by have := HNk.out.2.2.1; show (netP p).places ≤ _; omega) (by have := HNk.out.2.2.2.1; show (netP p).arrows.length ≤ _; omega) HNk.out.2.1 (by have := HNk.out.2.2.2.2.1; show (allN (netP p)).length ≤ _; omega))
        clear HDr HNt HR3 HG3 HB3 HP3 hN4 hT4 b0 b1 b2 b3 b4 hnb hzn
        go_wp2_with fail
        refine HSe.out.mono ?_; rintro e w5 ⟨kS, rows, v, rfl, hX, hTab, g5⟩
        have hkl : kS.length ≤ 8192 := Nat.le_trans (nodup_len kS _ hX.dis hX.dom) (by have := HNk.out.2.2.2.2.1; show (allN (netP p)).length ≤ _; omega)
        have HR5 := hidd (heap_kept g5 HR4.out)
        have HG5 := hidd (HG4.out.trans g5)
        have HSm := hidd (Smallest_any (expA (fun S => inB S 1) (firstN (netP p)) kS rows) v w5 (hX.ok _) hkl hTab)
        have HX := hidd hX
        have HKl := hidd hkl
        clear hX hTab g5 hkl HSe HR4 HG4
        go_wp2_with fail
        refine HSm.out.mono ?_; rintro e w8 ⟨B, na, nbc, eb2, ebc, rfl, hL8, hA8, g8⟩
        have HG8 := hidd (HG5.out.trans g8)
        have HR8 := hidd (heap_kept g8 HR5.out)
        have HA8 := hidd (And.intro hL8 hA8)
        have HRl := hidd (lt_of_block HR5.out)
        clear hL8 hA8 g8 HG5 HR5 HSm
        have HB8 := hidd (And.intro (autB_size B na nbc eb2 ebc) (autB_one B na nbc eb2 ebc))
        obtain ⟨bv, hbv⟩ : ∃ bv, autB B na nbc eb2 ebc = bv := ⟨_, rfl⟩
        have HBv := hidd hbv
        rw [hbv] at HB8
        simp only [hbv]
        clear hbv
        go_wp2_with (refine wpList_store_aut (b := rs) rfl rfl rfl rfl HR8.out zAut_size HB8.out.1 HB8.out.2 ?_)
        refine bodyPost_ret (results_aut2 (p := 2) (q := 3) rfl rfl rfl (setRow_heap w8 rs _ bv _ _ HR8.out) HB8.out.1) rfl ⟨B, na, nbc, eb2, ebc, by rw [HBv.out, HErr.out]; rfl, ?_, setRow_grew HG8.out HRs.out _, fun h => absurd HErr.out h, fun _ => ⟨expA (fun S => inB S 1) (firstN (netP p)) kS rows, HKl.out, fun l => ?_, HA8.out.1⟩⟩
        · have hrl := HRl.out
          have hrs := HRs.out
          exact HA8.out.2.set (by omega) hrl _
        · rw [← HLL.out, ← HNk.out.2.2.2.2.2 l]; exact HX.out.lang _ l
  · have k1 : (perr != 0) = true := by simpa using h0
    have HErr : Hid (err = perr) := by rw [Hid, ← HE.out]; unfold makeErr; rw [HPe.out, if_neg h0]
    have HE0 := hidd h0
    clear h0
    go_wp2_with (first | (refine wpList_build_aut rfl rfl ?_) | (refine wpList_store_aut (b := rs) rfl rfl rfl rfl HR2.out zAut_size zAut_size zAut_one ?_))
    exact bodyPost_ret (results_aut2 (p := 2) (q := 3) rfl rfl rfl (setRow_heap w2 rs _ zAut _ _ HR2.out) zAut_size) rfl ⟨zeroA, none, 0, none, 0, by rw [zeroA_B, HErr.out]; rfl, fun w'' _ _ => zeroA_at w'', setRow_grew HG2.out HRs.out _, fun _ => rfl, fun h => absurd (HErr.out.symm.trans h) HE0.out⟩
end Go.Proofs.YtkkdpafkafjfgaaDoor

namespace Go.Proofs.YtkkdpafkafjfgaaDoor
open Go.RowKit RR
set_option linter.unusedVariables false
set_option linter.unusedSimpArgs false
set_option maxRecDepth 100000
theorem oper_load_autZ {o : Oper} {a : Act} {w : World} {K : Act → World → Prop} {Q : Exit → Act → World → Prop} {x : Operand} (ho : o.op = .load 30 x) {b : Nat} {av : Array Value} (hx : a.eval x = .pointer (some ⟨b, 0, none⟩)) (hA : w.heap[b]? = some (.cells av 30 (0, 0))) (hs : av.size = 258)
    (h : K (a.put o.dst (.agg av)) w) : Oper.wp Tryd.prog o a w K Q := by
  have hl := run_loadVar_row (P := Tryd.prog) w b 30 30 av (0, 0) _ hA Tryd.underlying30 rfl (by rw [hs]; exact info_aut)
  unfold Oper.wp execOp
  simp only [ho, hx, Instr.loadAt, Instr.sureAddr, Sem.run_bind, Sem.run_pure, Result.andThen_ok, hl]
  exact h
def TwN (N : Nat) (w : World) (v : Array Value) (B : Aut) : Prop := ∀ w'', w.heap.size ≤ w''.heap.size → (∀ k, N ≤ k → k < w.heap.size → w''.heap[k]? = w.heap[k]?) → ∃ na nc ea ec, v = autB B na nc ea ec ∧ AutAt w'' B na ea
abbrev TwIs (err : Int) (L : List UInt8 → Bool) (B : Aut) : Prop := (err ≠ 0 → B = zeroA) ∧ (err = 0 → ∃ S : RA, S.n ≤ 8192 ∧ (∀ l, S.tak 0 l = L l) ∧ LeastOf S B)
abbrev TwoOut (w : World) (err : Int) (L : List UInt8 → Bool) : Ending → World → Prop := fun e w' => ∃ v B, e = .returned (.tuple #[.agg v, .int .i64 err]) ∧ Grew w w' ∧ v.size = 258 ∧ v.all (·.oneCell') = true ∧ TwN w.heap.size w' v B ∧ TwIs err L B
theorem TwoEnd.out {w w' : World} {err : Int} {L : List UInt8 → Bool} {e : Ending} (h : TwoEnd w err L e w') : TwoOut w err L e w' := by
  obtain ⟨B, na, nc, ea, ec, he, h1, h2, h3, h4⟩ := h
  exact ⟨_, B, he, h2, autB_size B na nc ea ec, autB_one B na nc ea ec, fun w'' hs hk => ⟨na, nc, ea, ec, rfl, h1 w'' hs hk⟩, h3, h4⟩
theorem TwIs.one {err : Int} {L : List UInt8 → Bool} {B B' : Aut} (h : TwIs err L B) (k : TwIs err L B') : B' = B := by
  by_cases h0 : err = 0
  · obtain ⟨S, _, h1, h2⟩ := h.2 h0
    obtain ⟨S', _, k1, k2⟩ := k.2 h0
    exact k2.one h2 fun l => by rw [h1, k1]
  · rw [h.1 h0, k.1 h0]
theorem TwIs.len {err : Int} {L : List UInt8 → Bool} {B : Aut} (h : TwIs err L B) : B.ends.length = B.next.length := by
  by_cases h0 : err = 0
  · obtain ⟨S, _, _, C, _, _, rfl, _⟩ := h.2 h0
    rw [autOf_n, autOf_ne]
  · rw [h.1 h0]; rfl
section
variable {N M : Nat} {w w' : World} {v v2 : Array Value} {B : Aut} {b : Nat}
theorem TwN.grow (h : TwN N w v B) (g : Grew w w') : TwN N w' v B := fun w'' hs hk =>
  h w'' (Nat.le_trans g.size hs) fun k h1 h2 => by
    rw [hk k h1 (Nat.lt_of_lt_of_le h2 g.size), Array.getElem?_eq_getElem h2]
    exact heap_kept g (Array.getElem?_eq_getElem h2)
theorem two_same (h : TwN N w v B) (k : TwN M w v2 B) (hl : B.ends.length = B.next.length) : Calls Tryd.prog 12 #[.agg v, .agg v2] w fun e w' => e = .returned (.bool true) ∧ Grew w w' := by
  obtain ⟨na, nc, ea, ec, rfl, h1⟩ := h w (Nat.le_refl _) fun _ _ _ => rfl
  obtain ⟨na', nc', ea', ec', rfl, k1⟩ := k w (Nat.le_refl _) fun _ _ _ => rfl
  exact Same_eq B na ea na' ea' nc ec nc' ec' w h1 k1 hl
end
def largeB (p : Pat) : Bool := decide (nodesP p ≤ 4096 ∧ depthP p ≤ 200) && decide (300 < nodesP p)
theorem not_large {p : Pat} (h : largeB p = false) (h0 : patErr p = 0) : nodesP p ≤ 300 := by
  unfold patErr at h0
  split at h0
  · rename_i hs
    have h1 := (size_iff p).1 hs
    unfold largeB at h
    rw [decide_eq_true h1, Bool.true_and] at h
    have := of_decide_eq_false h
    omega
  · cases h0
theorem large_any (p : Pat) (kv : Value) (w : World) (hp : PatV w kv p) (hB : nodesP p ≤ 2000000) : Calls Tryd.prog 9 #[.agg (p.cells kv)] w fun e w' => e = .returned (.bool (largeB p)) ∧ Grew w w' := by
  have hg := (Grew.refl w).alloc (.cells (p.cells kv) 24)
  have hb0 := heap_alloc_new w (.cells (p.cells kv) 24)
  obtain ⟨W, hW⟩ : ∃ W, w.alloc (.cells (p.cells kv) 24) = W := ⟨_, rfl⟩
  rw [hW] at hg hb0
  have HSz := hidd (SizeR_any kv p W (hp.kept hg) hB)
  have HG := hidd hg
  have b0 : W.cell? ⟨w.heap.size, 0, none⟩ = some (.int .i64 p.kind) := cell_of hb0 0
  have b1 : W.cell? ⟨w.heap.size, 1, none⟩ = some (.string p.text) := cell_of hb0 1
  have b2 : W.cell? ⟨w.heap.size, 2, none⟩ = some (.int .i64 p.n) := cell_of hb0 2
  have b3 : W.cell? ⟨w.heap.size, 3, none⟩ = some (.string p.name) := cell_of hb0 3
  have b4 : W.cell? ⟨w.heap.size, 4, none⟩ = some kv := cell_of hb0 4
  obtain ⟨X, hX⟩ : ∃ X, largeB p = X := ⟨_, rfl⟩
  have HX := hidd hX
  obtain ⟨Y, hY⟩ : ∃ Y, sizeR p = Y := ⟨_, rfl⟩
  have HY := hidd hY
  rw [hX]
  rw [hY] at HSz
  unfold Pat.cells at hW HSz ⊢
  obtain ⟨n, hn⟩ : ∃ n, nodesP p = n := ⟨_, rfl⟩
  have HN := hidd hn
  clear hg hb0 hp hX hY
  go_enter Tryd.func9, Tryd.ntmps9
  go_wp2_with (rw [hW])
  refine HSz.out.mono ?_; rintro e w2 ⟨rfl, g2⟩
  have HG2 := hidd (HG.out.trans g2)
  clear b0 b1 b2 b3 b4 g2 HSz HG hW
  by_cases hs : nodesP p ≤ 4096 ∧ depthP p ≤ 200
  · obtain rfl : Y = .tuple #[.int .i64 (n : Nat), .int .i64 (depthP p : Nat), .bool true] := by rw [← HY.out, ← HN.out]; unfold sizeR; rw [if_pos hs]
    by_cases h3 : 300 < n
    · have k3 : decide ((300 : Int) < (n : Int)) = true := decide_eq_true (by omega)
      have k3' : decide (300 < n) = true := decide_eq_true h3
      obtain rfl : X = true := by rw [← HX.out]; unfold largeB; rw [decide_eq_true hs, HN.out, k3']; rfl
      clear hs hB hn
      go_wp2_with fail
      go_ret
      exact ⟨rfl, HG2.out⟩
    · have k3 : decide ((300 : Int) < (n : Int)) = false := decide_eq_false (by omega)
      have k3' : decide (300 < n) = false := decide_eq_false h3
      obtain rfl : X = false := by rw [← HX.out]; unfold largeB; rw [decide_eq_true hs, HN.out, k3']; rfl
      clear hs hB hn
      go_wp2_with fail
      go_ret
      exact ⟨rfl, HG2.out⟩
  · obtain rfl : Y = .tuple #[.int .i64 0, .int .i64 0, .bool false] := by rw [← HY.out]; unfold sizeR; rw [if_neg hs]
    obtain rfl : X = false := by rw [← HX.out]; unfold largeB; rw [decide_eq_false hs]; rfl
    clear hs hB hn
    go_wp2_with fail
    go_ret
    exact ⟨rfl, HG2.out⟩
set_option maxHeartbeats 4000000 in
theorem AutoMakes_walk (p : Pat) (kv : Value) (w : World) (hp : PatV w kv p) (hT : TabZ32 w) (hB : nodesP p ≤ 2000000) :
    Calls Tryd.prog 3 #[.agg (p.cells kv)] w fun e w' => e = .returned (.bool true) ∧ Grew w w' := by
  have hz := zero_aut
  have hg := (Grew.refl w).alloc (.cells (p.cells kv) 24)
  have hb0 := heap_alloc_new w (.cells (p.cells kv) 24)
  obtain ⟨W, hW⟩ : ∃ W, w.alloc (.cells (p.cells kv) 24) = W := ⟨_, rfl⟩
  rw [hW] at hg hb0
  have HBx := hidd hb0
  have HG := hidd hg
  have HLg := hidd (large_any p kv W (hp.kept hg) hB)
  obtain ⟨E, hE⟩ : ∃ E, makeErr p = E := ⟨_, rfl⟩
  have HMk : Hid (∀ w1, Grew W w1 → Calls Tryd.prog 10 #[.agg (p.cells kv)] w1 (TwoOut w1 E (autL p))) := fun w1 g => by
    have := Make_any p kv w1 (hp.kept (hg.trans g)) (hT.kept (hg.trans g))
    rw [hE] at this; exact this.mono fun e w' h => h.out
  have HRm : Hid (largeB p = false → ∀ w1, Grew W w1 → Calls Tryd.prog 11 #[.agg (p.cells kv)] w1 (TwoOut w1 E (autL p))) := fun hl w1 g => by
    have := MakeR_any p kv w1 (hp.kept (hg.trans g)) hB (not_large hl)
    rw [hE] at this; exact this.mono fun e w' h => h.out
  obtain ⟨LL, hLL⟩ : ∃ LL, autL p = LL := ⟨_, rfl⟩
  rw [hLL] at HMk HRm
  have b0 : W.cell? ⟨w.heap.size, 0, none⟩ = some (.int .i64 p.kind) := cell_of hb0 0
  have b1 : W.cell? ⟨w.heap.size, 1, none⟩ = some (.string p.text) := cell_of hb0 1
  have b2 : W.cell? ⟨w.heap.size, 2, none⟩ = some (.int .i64 p.n) := cell_of hb0 2
  have b3 : W.cell? ⟨w.heap.size, 3, none⟩ = some (.string p.name) := cell_of hb0 3
  have b4 : W.cell? ⟨w.heap.size, 4, none⟩ = some kv := cell_of hb0 4
  have HLb : Hid (∀ X, largeB p = X → Calls Tryd.prog 9 #[.agg (p.cells kv)] W fun e w' => e = .returned (.bool X) ∧ Grew W w') := fun X h => by rw [← h]; exact HLg.out
  obtain ⟨pb, hpb⟩ : ∃ pb, w.heap.size = pb := ⟨_, rfl⟩
  rw [hpb] at HBx b0 b1 b2 b3 b4
  have HPb := hidd hpb
  unfold Pat.cells at hW HBx HMk HRm HLb ⊢
  clear hg hb0 hp hT hB HLg hE hLL
  cases hl : largeB p with
  | true =>
    have HL := hidd (HLb.out true hl)
    clear HMk HRm HLb hl
    go_enter Tryd.func3, Tryd.ntmps3
    go_wp2_with (rw [hW])
    refine HL.out.mono ?_; rintro e w2 ⟨rfl, g2⟩
    have HG2 := hidd (HG.out.trans g2)
    clear b0 b1 b2 b3 b4 g2 hW
    go_wp2_with fail
    go_ret
    exact ⟨rfl, HG2.out⟩
  | false =>
    have HL := hidd (HLb.out false hl)
    have HRm := hidd (HRm.out hl)
    clear HLb hl
    go_enter Tryd.func3, Tryd.ntmps3
    go_wp2_with (rw [hW])
    refine HL.out.mono ?_; rintro e w2 ⟨rfl, g2⟩
    have HG2 := hidd g2
    have hb2 := heap_kept g2 HBx.out
    have HB2 := hidd hb2
    clear b0 b1 b2 b3 b4 g2 hW HL HBx hpb
    have b0 : w2.cell? ⟨pb, 0, none⟩ = some (.int .i64 p.kind) := cell_of hb2 0
    have b1 : w2.cell? ⟨pb, 1, none⟩ = some (.string p.text) := cell_of hb2 1
    have b2 : w2.cell? ⟨pb, 2, none⟩ = some (.int .i64 p.n) := cell_of hb2 2
    have b3 : w2.cell? ⟨pb, 3, none⟩ = some (.string p.name) := cell_of hb2 3
    have b4 : w2.cell? ⟨pb, 4, none⟩ = some kv := cell_of hb2 4
    clear hb2
    go_wp2_with fail
    refine (HMk.out _ HG2.out).mono ?_; rintro e w3 ⟨v6, C6, rfl, g3, z1, z2, m6, i6⟩
    obtain ⟨b6, hb6⟩ : ∃ b, w3.heap.size = b := ⟨_, rfl⟩
    have HZ6 : Hid ((w3.alloc (.cells zAut 30)).heap[b6]? = some (.cells zAut 30 (0, 0))) := by rw [← hb6]; exact heap_alloc_new w3 _
    obtain ⟨W3, hW3⟩ : ∃ W, (w3.alloc (.cells zAut 30)).setRow b6 v6 = W := ⟨_, rfl⟩
    have gw6 : Grew w3 W3 := by rw [← hW3]; exact setRow_grew ((Grew.refl w3).alloc _) (by omega) v6
    have hh6 := setRow_heap _ b6 _ v6 _ _ HZ6.out
    rw [hW3] at hh6
    have HY6 := hidd (And.intro z1 z2)
    have HX6 := hidd (And.intro hh6 (And.intro (m6.grow gw6) i6))
    have HG3 := hidd (HG2.out.trans (g3.trans gw6))
    have hb3 := heap_kept (g3.trans gw6) HB2.out
    clear z1 z2 m6 i6 gw6 hh6 HMk HG2 HB2 b0 b1 b2 b3 b4 g3
    go_upto_region 4 with (refine wpList_store_aut (b := b6) rfl rfl rfl rfl HZ6.out zAut_size HY6.out.1 HY6.out.2 ?_)
    try rw [hW3]
    clear hb6 hW3 HZ6
    have b0 : W3.cell? ⟨pb, 0, none⟩ = some (.int .i64 p.kind) := cell_of hb3 0
    have b1 : W3.cell? ⟨pb, 1, none⟩ = some (.string p.text) := cell_of hb3 1
    have b2 : W3.cell? ⟨pb, 2, none⟩ = some (.int .i64 p.n) := cell_of hb3 2
    have b3 : W3.cell? ⟨pb, 3, none⟩ = some (.string p.name) := cell_of hb3 3
    have b4 : W3.cell? ⟨pb, 4, none⟩ = some kv := cell_of hb3 4
    clear hb3
    go_wp2_with fail
    refine (HRm.out _ HG3.out).mono ?_; rintro e w4 ⟨v8, C8, rfl, g4, z1, z2, m8, i8⟩
    obtain ⟨b8, hb8⟩ : ∃ b, w4.heap.size = b := ⟨_, rfl⟩
    have HZ8 : Hid ((w4.alloc (.cells zAut 30)).heap[b8]? = some (.cells zAut 30 (0, 0))) := by rw [← hb8]; exact heap_alloc_new w4 _
    obtain ⟨W4, hW4⟩ : ∃ W, (w4.alloc (.cells zAut 30)).setRow b8 v8 = W := ⟨_, rfl⟩
    have gw8 : Grew w4 W4 := by rw [← hW4]; exact setRow_grew ((Grew.refl w4).alloc _) (by omega) v8
    have hh8 := setRow_heap _ b8 _ v8 _ _ HZ8.out
    rw [hW4] at hh8
    have HY8 := hidd (And.intro z1 z2)
    obtain rfl := HX6.out.2.2.one i8
    have g34 := g4.trans gw8
    have HX8 := hidd hh8
    have HX62 := hidd (heap_kept g34 HX6.out.1)
    have HSm : Hid (Calls Tryd.prog 12 #[.agg v6, .agg v8] W4 fun e w' => e = .returned (.bool true) ∧ Grew W4 w') := two_same (HX6.out.2.1.grow g34) (m8.grow gw8) HX6.out.2.2.len
    have HG4 := hidd (HG3.out.trans g34)
    clear z1 z2 m8 i8 g4 gw8 hh8 g34 HX6 HRm HG3 b0 b1 b2 b3 b4
    go_upto_region 5 with (refine wpList_store_aut (b := b8) rfl rfl rfl rfl HZ8.out zAut_size HY8.out.1 HY8.out.2 ?_)
    try rw [hW4]
    clear hb8 hW4 HZ8
    go_wp2_with fail
    refine oper_load_autZ (b := b6) rfl rfl HX62.out HY6.out.1 ?_
    go_wp2_with fail
    refine oper_load_autZ (b := b8) rfl rfl HX8.out HY8.out.1 ?_
    go_wp2_with fail
    refine HSm.out.mono ?_; rintro e w5 ⟨rfl, g5⟩
    have HG5 := hidd (HG.out.trans (HG4.out.trans g5))
    clear g5
    go_wp2_with fail
    go_ret
    exact ⟨rfl, HG5.out⟩
end Go.Proofs.YtkkdpafkafjfgaaDoor

namespace Go.Proofs.YtkkdpafkafjfgaaDoor
open Go.RowKit
set_option linter.unusedVariables false
theorem tab32_makes {W : World} (h : laidMetH Tryd.prog Rows.autoMakesUptoRow.laid W) : TabZ32 W :=
  tab32_met (laidMetH.filter (fun x => x.1 == "math/bits.deBruijn32tab") h)
theorem AutoMakes_up {w : World} {p : Pat} {kv : Value} (hp : PatV w kv p) (hT : TabZ32 w) (hB : nodesP p ≤ 2000000) :
    Calls Tryd.prog 3 #[.agg (p.cells kv)] w fun e w' => e = .returned (.bool true) ∧ Grew w w' := AutoMakes_walk p kv w hp hT hB
end Go.Proofs.YtkkdpafkafjfgaaDoor
