/- The document's Kids. Printed. -/
import Derived.Test.YtglfdfeideeeaaaDoorPT6V
import Derived.Test.YtglfdfeideeeaaaDoorTnMerge
namespace Go.Proofs.YtglfdfeideeeaaaDoor
open Go.RowKit
set_option linter.unusedVariables false
theorem skip_cat (x : Pat) : skipK 18 x = (x.kind == 1 && x.text.toList.isEmpty) := by
  unfold skipK
  rw [empty_iff]
  simp
theorem skip_alt (x : Pat) : skipK 19 x = (x.kind == 15) := by
  unfold skipK failB
  simp
theorem ends_snoc {l : List Pat} {x : Pat} (h : ∀ y ∈ l, endsB y = false) (hx : endsB x = false) : ∀ y ∈ l ++ [x], endsB y = false := fun y hy => by
  rcases List.mem_append.1 hy with hy | hy
  · exact h y hy
  · rw [List.mem_singleton] at hy; rw [hy]; exact hx
set_option maxRecDepth 100000 in
set_option maxHeartbeats 16000000 in
theorem Kids_18 {Q : Nat → Prop} {N : Nat} (l : List Pat) (v : Value) (w : World) (h : ListIn w Q v l) (hQ : ∀ b, Q b → N ≤ b) (hn : nodesL l ≤ 4096) :
    Calls Tryd.prog 48 #[v, .int .i64 18] w fun e w' => ∃ v', e = .returned v' ∧ PatsOwn w' w.heap.size N v' (kids6 18 l) ∧ Grew w w' := by
  obtain ⟨a, c, rfl, hm⟩ := h.len
  have hlen := length_le_nodes l
  have HR := hidd h
  have HQ := hidd hQ
  have HN := hidd hn
  unfold maxLen at hm
  clear h hQ
  go_enter Tryd.func48, Tryd.ntmps48
  go_wp2_with fail
  go_loopw [5, 13] (fun s5 s13 wr => ∃ i : Nat, s13 = .int .i64 i ∧ i ≤ l.length ∧ Hid (PatsOwn wr w.heap.size N s5 (kf 18 (flatP 18 (l.take i))) ∧ Grew w wr ∧ ∀ y ∈ kf 18 (flatP 18 (l.take i)), endsB y = false)) (fun _ s13 _ => l.length - (intOf s13).toNat)
  case atStart => exact ⟨0, rfl, by omega, PatsOwn.nil _ _ _, Grew.refl _, fun y hy => by simp [kf, flatP] at hy⟩
  case round =>
    obtain ⟨i, rfl, hi, HD⟩ := hrel
    by_cases hlt : i < l.length
    · obtain ⟨b, o, kv, rfl, hnd, hq⟩ := HR.out.at hlt
      have hq2 := hq.lt
      have hnd2 := hnd.kept HD.out.2.1
      obtain ⟨ka, kn, kc, rfl⟩ := hq.form
      have HO := hidd (flat_own (k := 18) hlt)
      have HL := hidd (fun j => kf_len 18 (j := j) hlt HN.out)
      have HH := hidd (fun j => @kids_hit 18 l i j hlt)
      obtain ⟨r, hr⟩ : ∃ r, l.getD i Pat.zero = r := ⟨_, rfl⟩
      rw [hr] at hnd2 hq2 HO HL HH
      have HQ2 := hidd hq2
      obtain ⟨c0, c1, c2, c3, c4, _, _, _, _⟩ := hnd2
      have kk : decide ((i : Int) < (l.length : Int)) = true := decide_eq_true (by omega)
      have hsz := HD.out.2.1.size
      clear hr hq hq2 hnd
      by_cases hkd : r.kind = 18
      · have k1 : (r.kind == 18) = true := by simp [hkd]
        have HOe : Hid (ownL 18 r = r.kids) := if_pos hkd
        have hle := HQ2.out.list
        obtain ⟨_, _, hle2, hlm⟩ := hle.len
        obtain ⟨O, hO⟩ : ∃ O, r.kids = O := ⟨_, rfl⟩
        rw [hO] at HOe hle hle2 hlm
        unfold maxLen at hlm
        have hkn : kn = O.length := by cases hle2; rfl
        subst hkn
        have HOw := hidd hle
        have G2 : Hid (Grew wr ((wr.alloc (.cells #[.int .i64 r.kind, .string r.text, .int .i64 r.n, .string r.name, .slice ka O.length kc] 24)).alloc (.cells #[.int .i64 r.kind, .string r.text, .int .i64 r.n, .string r.name, .slice ka O.length kc] 24))) := ((Grew.refl wr).alloc _).alloc _
        clear hle hle2 hkd hO
        go_wp2_with fail
        generalize (wr.alloc (.cells #[.int .i64 r.kind, .string r.text, .int .i64 r.n, .string r.name, .slice ka O.length kc] 24)).alloc (.cells #[.int .i64 r.kind, .string r.text, .int .i64 r.n, .string r.name, .slice ka O.length kc] 24) = W2 at G2 ⊢
        clear c0 c1 c2 c3 c4 k1
        obtain ⟨A, hA⟩ : ∃ A, flatP 18 (l.take i) = A := ⟨_, rfl⟩
        rw [hA] at HO HL HH HD
        have HD2 : Hid (PatsOwn W2 w.heap.size N u5 (kf 18 (A ++ O.take 0)) ∧ Grew w W2 ∧ ∀ y ∈ kf 18 (A ++ O.take 0), endsB y = false) := by rw [List.take_zero, List.append_nil]; exact ⟨HD.out.1.kept G2.out, HD.out.2.1.trans G2.out, HD.out.2.2⟩
        clear HD hA G2 hsz HQ2
        go_loopw [5, 27] (fun s5 s27 wx => ∃ j : Nat, s27 = .int .i64 j ∧ j ≤ O.length ∧ Hid (PatsOwn wx w.heap.size N s5 (kf 18 (A ++ O.take j)) ∧ Grew w wx ∧ ∀ y ∈ kf 18 (A ++ O.take j), endsB y = false)) (fun _ s27 _ => O.length - (intOf s27).toNat)
        case atStart => exact ⟨0, rfl, by omega, HD2.out⟩
        case round =>
          obtain ⟨j, rfl, hj, HE⟩ := hrel
          clear HD2
          by_cases hjl : j < O.length
          · obtain ⟨b2, o2, kx, rfl, hnx, hqx⟩ := (HOw.out.kept HE.out.2.1).at hjl
            obtain ⟨xa, xn, xc, rfl⟩ := hqx.form
            have hqx2 := hqx.lt
            have HK0 := hidd (fun h => @kf_skip 18 A O j hjl h)
            have HK1 := hidd (fun h => @kf_take 18 A O j hjl h)
            have HH2 := hidd (HH.out j HOe.out hjl)
            have HL2 := HL.out j
            have HL3 := HL.out (j + 1)
            rw [HOe.out] at HL2 HL3
            obtain ⟨x, hx⟩ : ∃ x, O.getD j Pat.zero = x := ⟨_, rfl⟩
            rw [hx] at hnx HK0 HK1 HH2 hqx2
            have HQx := hidd hqx2
            obtain ⟨d0, d1, d2, d3, d4, _, _, _, _⟩ := hnx
            have kj : decide ((j : Int) < (O.length : Int)) = true := decide_eq_true (by omega)
            have HSk := hidd (skip_cat x)
            have HEn := hidd (ends_or x)
            clear hx hqx hqx2
            cases y1 : x.kind == 1 with
            | true =>
              have y17 : (x.kind == 17) = false := by rw [beq_iff_eq] at y1; rw [y1]; rfl
              have y15 : (x.kind == 15) = false := by rw [beq_iff_eq] at y1; rw [y1]; rfl
              cases y2 : x.text.toList.isEmpty with
              | true =>
                have hs : skipK 18 x = true := by rw [HSk.out]; simp [y1, y2]
                have HE2 := HE
                rw [← HK0.out hs] at HE2
                clear hs HSk HEn HK0 HK1 HH2 HL2 HL3
                go_wp2_with fail
                go_roundw
                case rel => exact ⟨j + 1, by go_num, by omega, ⟨HE2.out.1.kept ((Grew.refl wr).alloc _), HE2.out.2.1.alloc _, HE2.out.2.2⟩⟩
                case measure => simp [intOf]; omega
              | false =>
                have hs : skipK 18 x = false := by rw [HSk.out]; simp [y1, y2]
                have he : endsB x = false := by rw [HEn.out]; simp [y15, y17]
                have g1 : Grew wr (wr.alloc (.cells #[.int .i64 x.kind, .string x.text, .int .i64 x.n, .string x.name, .slice xa xn xc] 24)) := (Grew.refl wr).alloc _
                have hsx := HE.out.2.1.size
                have hll := HL2
                have hll2 := HL3
                rw [HK1.out hs, List.length_append] at hll2
                obtain ⟨v', w', hap, ho, hbel, hgr⟩ := pats_append_one (HE.out.1.kept g1) (by have := g1.size; omega) (HQx.out.kept g1) (fun b hb hb3 => ⟨HQ.out b hb.1.1, fun e => by have := HE.out.1.blocks b e; have := hb.1.2; omega⟩) (by omega) 22 24
                rw [World.size_alloc] at hap
                have HF : Hid (PatsOwn w' w.heap.size N v' (kf 18 (A ++ O.take (j + 1))) ∧ Grew w w' ∧ ∀ y ∈ kf 18 (A ++ O.take (j + 1)), endsB y = false) := by rw [HK1.out hs]; exact ⟨ho, (HE.out.2.1.trans g1).below hbel (Nat.le_refl _), ends_snoc HE.out.2.2 he⟩
                have q0 : w'.cell? ⟨wr.heap.size, 0, none⟩ = some (.int .i64 x.kind) := by rw [World.cell?_of_block (hgr.block wr.heap.size (by simp) (fun e => by have := HE.out.1.blocks _ e.symm; omega)), World.cell?_alloc_mark]; rfl
                clear ho hbel hgr hs he HSk HEn HK0 HK1 HH2 HL2 HL3 hll hll2 g1 hsx
                go_wp2_with (at_builtin; refine wpList_append_eq rfl rfl rfl rfl hap ?_)
                go_roundw
                case rel => exact ⟨j + 1, by go_num, by omega, HF.out⟩
                case measure => simp [intOf]; omega
            | false =>
              cases y17 : x.kind == 17 with
              | true =>
                have hs : skipK 18 x = false := by rw [HSk.out]; simp [y1]
                have he : endsB x = true := by rw [HEn.out]; simp [y17]
                have g1 : Grew wr (wr.alloc (.cells #[.int .i64 x.kind, .string x.text, .int .i64 x.n, .string x.name, .slice xa xn xc] 24)) := (Grew.refl wr).alloc _
                have hsx := HE.out.2.1.size
                have hll := HL2
                have hll2 := HL3
                rw [HK1.out hs, List.length_append] at hll2
                obtain ⟨v', w', hap, ho, hbel, hgr⟩ := pats_append_one (HE.out.1.kept g1) (by have := g1.size; omega) (HQx.out.kept g1) (fun b hb hb3 => ⟨HQ.out b hb.1.1, fun e => by have := HE.out.1.blocks b e; have := hb.1.2; omega⟩) (by omega) 22 24
                rw [World.size_alloc] at hap
                have hres := HH2.out hs he HE.out.2.2
                have HF : Hid (PatsOwn w' w.heap.size N v' (kids6 18 l) ∧ Grew w w') := by rw [hres]; exact ⟨ho, (HE.out.2.1.trans g1).below hbel (Nat.le_refl _)⟩
                have q0 : w'.cell? ⟨wr.heap.size, 0, none⟩ = some (.int .i64 x.kind) := by rw [World.cell?_of_block (hgr.block wr.heap.size (by simp) (fun e => by have := HE.out.1.blocks _ e.symm; omega)), World.cell?_alloc_mark]; rfl
                clear ho hbel hgr hs he HSk HEn HK0 HK1 HH2 HL2 HL3 hll hll2 g1 hsx
                go_wp2_with (at_builtin; refine wpList_append_eq rfl rfl rfl rfl hap ?_)
                go_ret
                exact ⟨_, rfl, HF.out⟩
              | false =>
                cases y15 : x.kind == 15 with
                | true =>
                  have hs : skipK 18 x = false := by rw [HSk.out]; simp [y1]
                  have he : endsB x = true := by rw [HEn.out]; simp [y15]
                  have g1 : Grew wr (wr.alloc (.cells #[.int .i64 x.kind, .string x.text, .int .i64 x.n, .string x.name, .slice xa xn xc] 24)) := (Grew.refl wr).alloc _
                  have hsx := HE.out.2.1.size
                  have hll := HL2
                  have hll2 := HL3
                  rw [HK1.out hs, List.length_append] at hll2
                  obtain ⟨v', w', hap, ho, hbel, hgr⟩ := pats_append_one (HE.out.1.kept g1) (by have := g1.size; omega) (HQx.out.kept g1) (fun b hb hb3 => ⟨HQ.out b hb.1.1, fun e => by have := HE.out.1.blocks b e; have := hb.1.2; omega⟩) (by omega) 22 24
                  rw [World.size_alloc] at hap
                  have hres := HH2.out hs he HE.out.2.2
                  have HF : Hid (PatsOwn w' w.heap.size N v' (kids6 18 l) ∧ Grew w w') := by rw [hres]; exact ⟨ho, (HE.out.2.1.trans g1).below hbel (Nat.le_refl _)⟩
                  have q0 : w'.cell? ⟨wr.heap.size, 0, none⟩ = some (.int .i64 x.kind) := by rw [World.cell?_of_block (hgr.block wr.heap.size (by simp) (fun e => by have := HE.out.1.blocks _ e.symm; omega)), World.cell?_alloc_mark]; rfl
                  clear ho hbel hgr hs he HSk HEn HK0 HK1 HH2 HL2 HL3 hll hll2 g1 hsx
                  go_wp2_with (at_builtin; refine wpList_append_eq rfl rfl rfl rfl hap ?_)
                  go_ret
                  exact ⟨_, rfl, HF.out⟩
                | false =>
                  have hs : skipK 18 x = false := by rw [HSk.out]; simp [y1]
                  have he : endsB x = false := by rw [HEn.out]; simp [y15, y17]
                  have g1 : Grew wr (wr.alloc (.cells #[.int .i64 x.kind, .string x.text, .int .i64 x.n, .string x.name, .slice xa xn xc] 24)) := (Grew.refl wr).alloc _
                  have hsx := HE.out.2.1.size
                  have hll := HL2
                  have hll2 := HL3
                  rw [HK1.out hs, List.length_append] at hll2
                  obtain ⟨v', w', hap, ho, hbel, hgr⟩ := pats_append_one (HE.out.1.kept g1) (by have := g1.size; omega) (HQx.out.kept g1) (fun b hb hb3 => ⟨HQ.out b hb.1.1, fun e => by have := HE.out.1.blocks b e; have := hb.1.2; omega⟩) (by omega) 22 24
                  rw [World.size_alloc] at hap
                  have HF : Hid (PatsOwn w' w.heap.size N v' (kf 18 (A ++ O.take (j + 1))) ∧ Grew w w' ∧ ∀ y ∈ kf 18 (A ++ O.take (j + 1)), endsB y = false) := by rw [HK1.out hs]; exact ⟨ho, (HE.out.2.1.trans g1).below hbel (Nat.le_refl _), ends_snoc HE.out.2.2 he⟩
                  have q0 : w'.cell? ⟨wr.heap.size, 0, none⟩ = some (.int .i64 x.kind) := by rw [World.cell?_of_block (hgr.block wr.heap.size (by simp) (fun e => by have := HE.out.1.blocks _ e.symm; omega)), World.cell?_alloc_mark]; rfl
                  clear ho hbel hgr hs he HSk HEn HK0 HK1 HH2 HL2 HL3 hll hll2 g1 hsx
                  go_wp2_with (at_builtin; refine wpList_append_eq rfl rfl rfl rfl hap ?_)
                  go_roundw
                  case rel => exact ⟨j + 1, by go_num, by omega, HF.out⟩
                  case measure => simp [intOf]; omega
          · have hje : j = O.length := by omega
            have kj : decide ((j : Int) < (O.length : Int)) = false := decide_eq_false (by omega)
            have HE2 := HE
            rw [hje, List.take_length, ← HOe.out, ← HO.out] at HE2
            clear HE hje
            go_wp2_with fail
            go_roundw
            case rel => exact ⟨i + 1, by go_num, by omega, HE2.out⟩
            case measure => simp [intOf]; omega
      · have k1 : (r.kind == 18) = false := by simp [hkd]
        have HOe : Hid (ownL 18 r = [r]) := if_neg hkd
        have hle := list_one ((HQ2.out.kept HD.out.2.1).kept ((Grew.refl wr).alloc (.cells #[.int .i64 r.kind, .string r.text, .int .i64 r.n, .string r.name, .slice ka kn kc] 24))) 24
        obtain ⟨O, hO⟩ : ∃ O, [r] = O := ⟨_, rfl⟩
        have hOl : O.length = 1 := by rw [← hO]; rfl
        rw [hO] at HOe hle
        have HOw := hidd hle
        have G2 : Hid (Grew wr ((wr.alloc (.cells #[.int .i64 r.kind, .string r.text, .int .i64 r.n, .string r.name, .slice ka kn kc] 24)).alloc (.cells #[.int .i64 r.kind, .string r.text, .int .i64 r.n, .string r.name, .slice ka kn kc] 24))) := ((Grew.refl wr).alloc _).alloc _
        rw [World.size_alloc, cells_eq] at HOw
        clear hle hkd hO
        go_wp2_with fail
        generalize (wr.alloc (.cells #[.int .i64 r.kind, .string r.text, .int .i64 r.n, .string r.name, .slice ka kn kc] 24)).alloc (.cells #[.int .i64 r.kind, .string r.text, .int .i64 r.n, .string r.name, .slice ka kn kc] 24) = W2 at G2 HOw ⊢
        obtain ⟨gb, hgb⟩ : ∃ gb, wr.heap.size + 1 = gb := ⟨_, rfl⟩
        rw [hgb] at HOw ⊢
        clear c0 c1 c2 c3 c4 k1 hgb
        obtain ⟨A, hA⟩ : ∃ A, flatP 18 (l.take i) = A := ⟨_, rfl⟩
        rw [hA] at HO HL HH HD
        have HD2 : Hid (PatsOwn W2 w.heap.size N u5 (kf 18 (A ++ O.take 0)) ∧ Grew w W2 ∧ ∀ y ∈ kf 18 (A ++ O.take 0), endsB y = false) := by rw [List.take_zero, List.append_nil]; exact ⟨HD.out.1.kept G2.out, HD.out.2.1.trans G2.out, HD.out.2.2⟩
        clear HD hA G2 hsz HQ2
        go_loopw [5, 27] (fun s5 s27 wx => ∃ j : Nat, s27 = .int .i64 j ∧ j ≤ 1 ∧ Hid (PatsOwn wx w.heap.size N s5 (kf 18 (A ++ O.take j)) ∧ Grew w wx ∧ ∀ y ∈ kf 18 (A ++ O.take j), endsB y = false) ∧ Hid (j = 0 → wx = W2)) (fun _ s27 _ => 1 - (intOf s27).toNat)
        case atStart => exact ⟨0, rfl, by omega, HD2.out, fun _ => rfl⟩
        case round =>
          obtain ⟨j, rfl, hj, HE, HX⟩ := hrel
          clear HD2
          by_cases hjl : j < 1
          · have HOw2 := HOw.out
            rw [← HX.out (by omega)] at HOw2
            have hjl : j < O.length := by rw [hOl]; exact hjl
            obtain ⟨b2, o2, kx, e2, hnx, hqx⟩ := HOw2.at hjl
            cases e2
            clear HX HOw2
            obtain ⟨xa, xn, xc, rfl⟩ := hqx.form
            have hqx2 := hqx.lt
            have HK0 := hidd (fun h => @kf_skip 18 A O j hjl h)
            have HK1 := hidd (fun h => @kf_take 18 A O j hjl h)
            have HH2 := hidd (HH.out j HOe.out hjl)
            have HL2 := HL.out j
            have HL3 := HL.out (j + 1)
            rw [HOe.out] at HL2 HL3
            obtain ⟨x, hx⟩ : ∃ x, O.getD j Pat.zero = x := ⟨_, rfl⟩
            rw [hx] at hnx HK0 HK1 HH2 hqx2
            have HQx := hidd hqx2
            obtain ⟨d0, d1, d2, d3, d4, _, _, _, _⟩ := hnx
            have kj : decide ((j : Int) < 1) = true := decide_eq_true (by omega)
            have hj0 : j = 0 := by omega
            subst hj0
            have HSk := hidd (skip_cat x)
            have HEn := hidd (ends_or x)
            clear hx hqx hqx2
            cases y1 : x.kind == 1 with
            | true =>
              have y17 : (x.kind == 17) = false := by rw [beq_iff_eq] at y1; rw [y1]; rfl
              have y15 : (x.kind == 15) = false := by rw [beq_iff_eq] at y1; rw [y1]; rfl
              cases y2 : x.text.toList.isEmpty with
              | true =>
                have hs : skipK 18 x = true := by rw [HSk.out]; simp [y1, y2]
                have HE2 := HE
                rw [← HK0.out hs] at HE2
                clear hs HSk HEn HK0 HK1 HH2 HL2 HL3
                go_wp2_with fail
                go_roundw
                case rel => exact ⟨0 + 1, by go_num, by omega, ⟨HE2.out.1.kept ((Grew.refl wr).alloc _), HE2.out.2.1.alloc _, HE2.out.2.2⟩, fun e => absurd e (by omega)⟩
                case measure => simp [intOf]
              | false =>
                have hs : skipK 18 x = false := by rw [HSk.out]; simp [y1, y2]
                have he : endsB x = false := by rw [HEn.out]; simp [y15, y17]
                have g1 : Grew wr (wr.alloc (.cells #[.int .i64 x.kind, .string x.text, .int .i64 x.n, .string x.name, .slice xa xn xc] 24)) := (Grew.refl wr).alloc _
                have hsx := HE.out.2.1.size
                have hll := HL2
                have hll2 := HL3
                rw [HK1.out hs, List.length_append] at hll2
                obtain ⟨v', w', hap, ho, hbel, hgr⟩ := pats_append_one (HE.out.1.kept g1) (by have := g1.size; omega) (HQx.out.kept g1) (fun b hb hb3 => ⟨HQ.out b hb.1.1, fun e => by have := HE.out.1.blocks b e; have := hb.1.2; omega⟩) (by omega) 22 24
                rw [World.size_alloc] at hap
                have HF : Hid (PatsOwn w' w.heap.size N v' (kf 18 (A ++ O.take (0 + 1))) ∧ Grew w w' ∧ ∀ y ∈ kf 18 (A ++ O.take (0 + 1)), endsB y = false) := by rw [HK1.out hs]; exact ⟨ho, (HE.out.2.1.trans g1).below hbel (Nat.le_refl _), ends_snoc HE.out.2.2 he⟩
                have q0 : w'.cell? ⟨wr.heap.size, 0, none⟩ = some (.int .i64 x.kind) := by rw [World.cell?_of_block (hgr.block wr.heap.size (by simp) (fun e => by have := HE.out.1.blocks _ e.symm; omega)), World.cell?_alloc_mark]; rfl
                clear ho hbel hgr hs he HSk HEn HK0 HK1 HH2 HL2 HL3 hll hll2 g1 hsx
                go_wp2_with (at_builtin; refine wpList_append_eq rfl rfl rfl rfl hap ?_)
                go_roundw
                case rel => exact ⟨0 + 1, by go_num, by omega, HF.out, fun e => absurd e (by omega)⟩
                case measure => simp [intOf]
            | false =>
              cases y17 : x.kind == 17 with
              | true =>
                have hs : skipK 18 x = false := by rw [HSk.out]; simp [y1]
                have he : endsB x = true := by rw [HEn.out]; simp [y17]
                have g1 : Grew wr (wr.alloc (.cells #[.int .i64 x.kind, .string x.text, .int .i64 x.n, .string x.name, .slice xa xn xc] 24)) := (Grew.refl wr).alloc _
                have hsx := HE.out.2.1.size
                have hll := HL2
                have hll2 := HL3
                rw [HK1.out hs, List.length_append] at hll2
                obtain ⟨v', w', hap, ho, hbel, hgr⟩ := pats_append_one (HE.out.1.kept g1) (by have := g1.size; omega) (HQx.out.kept g1) (fun b hb hb3 => ⟨HQ.out b hb.1.1, fun e => by have := HE.out.1.blocks b e; have := hb.1.2; omega⟩) (by omega) 22 24
                rw [World.size_alloc] at hap
                have hres := HH2.out hs he HE.out.2.2
                have HF : Hid (PatsOwn w' w.heap.size N v' (kids6 18 l) ∧ Grew w w') := by rw [hres]; exact ⟨ho, (HE.out.2.1.trans g1).below hbel (Nat.le_refl _)⟩
                have q0 : w'.cell? ⟨wr.heap.size, 0, none⟩ = some (.int .i64 x.kind) := by rw [World.cell?_of_block (hgr.block wr.heap.size (by simp) (fun e => by have := HE.out.1.blocks _ e.symm; omega)), World.cell?_alloc_mark]; rfl
                clear ho hbel hgr hs he HSk HEn HK0 HK1 HH2 HL2 HL3 hll hll2 g1 hsx
                go_wp2_with (at_builtin; refine wpList_append_eq rfl rfl rfl rfl hap ?_)
                go_ret
                exact ⟨_, rfl, HF.out⟩
              | false =>
                cases y15 : x.kind == 15 with
                | true =>
                  have hs : skipK 18 x = false := by rw [HSk.out]; simp [y1]
                  have he : endsB x = true := by rw [HEn.out]; simp [y15]
                  have g1 : Grew wr (wr.alloc (.cells #[.int .i64 x.kind, .string x.text, .int .i64 x.n, .string x.name, .slice xa xn xc] 24)) := (Grew.refl wr).alloc _
                  have hsx := HE.out.2.1.size
                  have hll := HL2
                  have hll2 := HL3
                  rw [HK1.out hs, List.length_append] at hll2
                  obtain ⟨v', w', hap, ho, hbel, hgr⟩ := pats_append_one (HE.out.1.kept g1) (by have := g1.size; omega) (HQx.out.kept g1) (fun b hb hb3 => ⟨HQ.out b hb.1.1, fun e => by have := HE.out.1.blocks b e; have := hb.1.2; omega⟩) (by omega) 22 24
                  rw [World.size_alloc] at hap
                  have hres := HH2.out hs he HE.out.2.2
                  have HF : Hid (PatsOwn w' w.heap.size N v' (kids6 18 l) ∧ Grew w w') := by rw [hres]; exact ⟨ho, (HE.out.2.1.trans g1).below hbel (Nat.le_refl _)⟩
                  have q0 : w'.cell? ⟨wr.heap.size, 0, none⟩ = some (.int .i64 x.kind) := by rw [World.cell?_of_block (hgr.block wr.heap.size (by simp) (fun e => by have := HE.out.1.blocks _ e.symm; omega)), World.cell?_alloc_mark]; rfl
                  clear ho hbel hgr hs he HSk HEn HK0 HK1 HH2 HL2 HL3 hll hll2 g1 hsx
                  go_wp2_with (at_builtin; refine wpList_append_eq rfl rfl rfl rfl hap ?_)
                  go_ret
                  exact ⟨_, rfl, HF.out⟩
                | false =>
                  have hs : skipK 18 x = false := by rw [HSk.out]; simp [y1]
                  have he : endsB x = false := by rw [HEn.out]; simp [y15, y17]
                  have g1 : Grew wr (wr.alloc (.cells #[.int .i64 x.kind, .string x.text, .int .i64 x.n, .string x.name, .slice xa xn xc] 24)) := (Grew.refl wr).alloc _
                  have hsx := HE.out.2.1.size
                  have hll := HL2
                  have hll2 := HL3
                  rw [HK1.out hs, List.length_append] at hll2
                  obtain ⟨v', w', hap, ho, hbel, hgr⟩ := pats_append_one (HE.out.1.kept g1) (by have := g1.size; omega) (HQx.out.kept g1) (fun b hb hb3 => ⟨HQ.out b hb.1.1, fun e => by have := HE.out.1.blocks b e; have := hb.1.2; omega⟩) (by omega) 22 24
                  rw [World.size_alloc] at hap
                  have HF : Hid (PatsOwn w' w.heap.size N v' (kf 18 (A ++ O.take (0 + 1))) ∧ Grew w w' ∧ ∀ y ∈ kf 18 (A ++ O.take (0 + 1)), endsB y = false) := by rw [HK1.out hs]; exact ⟨ho, (HE.out.2.1.trans g1).below hbel (Nat.le_refl _), ends_snoc HE.out.2.2 he⟩
                  have q0 : w'.cell? ⟨wr.heap.size, 0, none⟩ = some (.int .i64 x.kind) := by rw [World.cell?_of_block (hgr.block wr.heap.size (by simp) (fun e => by have := HE.out.1.blocks _ e.symm; omega)), World.cell?_alloc_mark]; rfl
                  clear ho hbel hgr hs he HSk HEn HK0 HK1 HH2 HL2 HL3 hll hll2 g1 hsx
                  go_wp2_with (at_builtin; refine wpList_append_eq rfl rfl rfl rfl hap ?_)
                  go_roundw
                  case rel => exact ⟨0 + 1, by go_num, by omega, HF.out, fun e => absurd e (by omega)⟩
                  case measure => simp [intOf]
          · have hje : j = O.length := by rw [hOl]; omega
            have kj : decide ((j : Int) < 1) = false := decide_eq_false (by omega)
            have HE2 := HE
            rw [hje, List.take_length, ← HOe.out, ← HO.out] at HE2
            clear HE hje
            go_wp2_with fail
            go_roundw
            case rel => exact ⟨i + 1, by go_num, by omega, HE2.out⟩
            case measure => simp [intOf]; omega
    · have hie : i = l.length := by omega
      have kk : decide ((i : Int) < (l.length : Int)) = false := decide_eq_false (by omega)
      have HE : Hid (PatsOwn wr w.heap.size N u5 (kids6 18 l) ∧ Grew w wr) := by
        have h1 := HD.out
        rw [show l.take i = l from by rw [hie, List.take_length]] at h1
        rw [kids_none h1.2.2]
        exact ⟨h1.1, h1.2.1⟩
      clear HD hie
      go_wp2_with fail
      go_ret
      exact ⟨_, rfl, HE.out⟩
set_option maxRecDepth 100000 in
set_option maxHeartbeats 16000000 in
theorem Kids_19 {Q : Nat → Prop} {N : Nat} (l : List Pat) (v : Value) (w : World) (h : ListIn w Q v l) (hQ : ∀ b, Q b → N ≤ b) (hn : nodesL l ≤ 4096) :
    Calls Tryd.prog 48 #[v, .int .i64 19] w fun e w' => ∃ v', e = .returned v' ∧ PatsOwn w' w.heap.size N v' (kids6 19 l) ∧ Grew w w' := by
  obtain ⟨a, c, rfl, hm⟩ := h.len
  have hlen := length_le_nodes l
  have HR := hidd h
  have HQ := hidd hQ
  have HN := hidd hn
  unfold maxLen at hm
  clear h hQ
  go_enter Tryd.func48, Tryd.ntmps48
  go_wp2_with fail
  go_loopw [5, 13] (fun s5 s13 wr => ∃ i : Nat, s13 = .int .i64 i ∧ i ≤ l.length ∧ Hid (PatsOwn wr w.heap.size N s5 (kf 19 (flatP 19 (l.take i))) ∧ Grew w wr ∧ ∀ y ∈ kf 19 (flatP 19 (l.take i)), endsB y = false)) (fun _ s13 _ => l.length - (intOf s13).toNat)
  case atStart => exact ⟨0, rfl, by omega, PatsOwn.nil _ _ _, Grew.refl _, fun y hy => by simp [kf, flatP] at hy⟩
  case round =>
    obtain ⟨i, rfl, hi, HD⟩ := hrel
    by_cases hlt : i < l.length
    · obtain ⟨b, o, kv, rfl, hnd, hq⟩ := HR.out.at hlt
      have hq2 := hq.lt
      have hnd2 := hnd.kept HD.out.2.1
      obtain ⟨ka, kn, kc, rfl⟩ := hq.form
      have HO := hidd (flat_own (k := 19) hlt)
      have HL := hidd (fun j => kf_len 19 (j := j) hlt HN.out)
      have HH := hidd (fun j => @kids_hit 19 l i j hlt)
      obtain ⟨r, hr⟩ : ∃ r, l.getD i Pat.zero = r := ⟨_, rfl⟩
      rw [hr] at hnd2 hq2 HO HL HH
      have HQ2 := hidd hq2
      obtain ⟨c0, c1, c2, c3, c4, _, _, _, _⟩ := hnd2
      have kk : decide ((i : Int) < (l.length : Int)) = true := decide_eq_true (by omega)
      have hsz := HD.out.2.1.size
      clear hr hq hq2 hnd
      by_cases hkd : r.kind = 19
      · have k1 : (r.kind == 19) = true := by simp [hkd]
        have HOe : Hid (ownL 19 r = r.kids) := if_pos hkd
        have hle := HQ2.out.list
        obtain ⟨_, _, hle2, hlm⟩ := hle.len
        obtain ⟨O, hO⟩ : ∃ O, r.kids = O := ⟨_, rfl⟩
        rw [hO] at HOe hle hle2 hlm
        unfold maxLen at hlm
        have hkn : kn = O.length := by cases hle2; rfl
        subst hkn
        have HOw := hidd hle
        have G2 : Hid (Grew wr ((wr.alloc (.cells #[.int .i64 r.kind, .string r.text, .int .i64 r.n, .string r.name, .slice ka O.length kc] 24)).alloc (.cells #[.int .i64 r.kind, .string r.text, .int .i64 r.n, .string r.name, .slice ka O.length kc] 24))) := ((Grew.refl wr).alloc _).alloc _
        clear hle hle2 hkd hO
        go_wp2_with fail
        generalize (wr.alloc (.cells #[.int .i64 r.kind, .string r.text, .int .i64 r.n, .string r.name, .slice ka O.length kc] 24)).alloc (.cells #[.int .i64 r.kind, .string r.text, .int .i64 r.n, .string r.name, .slice ka O.length kc] 24) = W2 at G2 ⊢
        clear c0 c1 c2 c3 c4 k1
        obtain ⟨A, hA⟩ : ∃ A, flatP 19 (l.take i) = A := ⟨_, rfl⟩
        rw [hA] at HO HL HH HD
        have HD2 : Hid (PatsOwn W2 w.heap.size N u5 (kf 19 (A ++ O.take 0)) ∧ Grew w W2 ∧ ∀ y ∈ kf 19 (A ++ O.take 0), endsB y = false) := by rw [List.take_zero, List.append_nil]; exact ⟨HD.out.1.kept G2.out, HD.out.2.1.trans G2.out, HD.out.2.2⟩
        clear HD hA G2 hsz HQ2
        go_loopw [5, 27] (fun s5 s27 wx => ∃ j : Nat, s27 = .int .i64 j ∧ j ≤ O.length ∧ Hid (PatsOwn wx w.heap.size N s5 (kf 19 (A ++ O.take j)) ∧ Grew w wx ∧ ∀ y ∈ kf 19 (A ++ O.take j), endsB y = false)) (fun _ s27 _ => O.length - (intOf s27).toNat)
        case atStart => exact ⟨0, rfl, by omega, HD2.out⟩
        case round =>
          obtain ⟨j, rfl, hj, HE⟩ := hrel
          clear HD2
          by_cases hjl : j < O.length
          · obtain ⟨b2, o2, kx, rfl, hnx, hqx⟩ := (HOw.out.kept HE.out.2.1).at hjl
            obtain ⟨xa, xn, xc, rfl⟩ := hqx.form
            have hqx2 := hqx.lt
            have HK0 := hidd (fun h => @kf_skip 19 A O j hjl h)
            have HK1 := hidd (fun h => @kf_take 19 A O j hjl h)
            have HH2 := hidd (HH.out j HOe.out hjl)
            have HL2 := HL.out j
            have HL3 := HL.out (j + 1)
            rw [HOe.out] at HL2 HL3
            obtain ⟨x, hx⟩ : ∃ x, O.getD j Pat.zero = x := ⟨_, rfl⟩
            rw [hx] at hnx HK0 HK1 HH2 hqx2
            have HQx := hidd hqx2
            obtain ⟨d0, d1, d2, d3, d4, _, _, _, _⟩ := hnx
            have kj : decide ((j : Int) < (O.length : Int)) = true := decide_eq_true (by omega)
            have HSk := hidd (skip_alt x)
            have HEn := hidd (ends_or x)
            clear hx hqx hqx2
            cases y15 : x.kind == 15 with
            | true =>
              have hs : skipK 19 x = true := by rw [HSk.out]; simp [y15]
              have HE2 := HE
              rw [← HK0.out hs] at HE2
              clear hs HSk HEn HK0 HK1 HH2 HL2 HL3
              go_wp2_with fail
              go_roundw
              case rel => exact ⟨j + 1, by go_num, by omega, ⟨HE2.out.1.kept ((Grew.refl wr).alloc _), HE2.out.2.1.alloc _, HE2.out.2.2⟩⟩
              case measure => simp [intOf]; omega
            | false =>
              cases y17 : x.kind == 17 with
              | true =>
                have hs : skipK 19 x = false := by rw [HSk.out]; rw [y15]
                have he : endsB x = true := by rw [HEn.out]; simp [y17]
                have g1 : Grew wr (wr.alloc (.cells #[.int .i64 x.kind, .string x.text, .int .i64 x.n, .string x.name, .slice xa xn xc] 24)) := (Grew.refl wr).alloc _
                have hsx := HE.out.2.1.size
                have hll := HL2
                have hll2 := HL3
                rw [HK1.out hs, List.length_append] at hll2
                obtain ⟨v', w', hap, ho, hbel, hgr⟩ := pats_append_one (HE.out.1.kept g1) (by have := g1.size; omega) (HQx.out.kept g1) (fun b hb hb3 => ⟨HQ.out b hb.1.1, fun e => by have := HE.out.1.blocks b e; have := hb.1.2; omega⟩) (by omega) 22 24
                rw [World.size_alloc] at hap
                have hres := HH2.out hs he HE.out.2.2
                have HF : Hid (PatsOwn w' w.heap.size N v' (kids6 19 l) ∧ Grew w w') := by rw [hres]; exact ⟨ho, (HE.out.2.1.trans g1).below hbel (Nat.le_refl _)⟩
                have q0 : w'.cell? ⟨wr.heap.size, 0, none⟩ = some (.int .i64 x.kind) := by rw [World.cell?_of_block (hgr.block wr.heap.size (by simp) (fun e => by have := HE.out.1.blocks _ e.symm; omega)), World.cell?_alloc_mark]; rfl
                clear ho hbel hgr hs he HSk HEn HK0 HK1 HH2 HL2 HL3 hll hll2 g1 hsx
                go_wp2_with (at_builtin; refine wpList_append_eq rfl rfl rfl rfl hap ?_)
                go_ret
                exact ⟨_, rfl, HF.out⟩
              | false =>
                have hs : skipK 19 x = false := by rw [HSk.out]; rw [y15]
                have he : endsB x = false := by rw [HEn.out]; simp [y15, y17]
                have g1 : Grew wr (wr.alloc (.cells #[.int .i64 x.kind, .string x.text, .int .i64 x.n, .string x.name, .slice xa xn xc] 24)) := (Grew.refl wr).alloc _
                have hsx := HE.out.2.1.size
                have hll := HL2
                have hll2 := HL3
                rw [HK1.out hs, List.length_append] at hll2
                obtain ⟨v', w', hap, ho, hbel, hgr⟩ := pats_append_one (HE.out.1.kept g1) (by have := g1.size; omega) (HQx.out.kept g1) (fun b hb hb3 => ⟨HQ.out b hb.1.1, fun e => by have := HE.out.1.blocks b e; have := hb.1.2; omega⟩) (by omega) 22 24
                rw [World.size_alloc] at hap
                have HF : Hid (PatsOwn w' w.heap.size N v' (kf 19 (A ++ O.take (j + 1))) ∧ Grew w w' ∧ ∀ y ∈ kf 19 (A ++ O.take (j + 1)), endsB y = false) := by rw [HK1.out hs]; exact ⟨ho, (HE.out.2.1.trans g1).below hbel (Nat.le_refl _), ends_snoc HE.out.2.2 he⟩
                have q0 : w'.cell? ⟨wr.heap.size, 0, none⟩ = some (.int .i64 x.kind) := by rw [World.cell?_of_block (hgr.block wr.heap.size (by simp) (fun e => by have := HE.out.1.blocks _ e.symm; omega)), World.cell?_alloc_mark]; rfl
                clear ho hbel hgr hs he HSk HEn HK0 HK1 HH2 HL2 HL3 hll hll2 g1 hsx
                go_wp2_with (at_builtin; refine wpList_append_eq rfl rfl rfl rfl hap ?_)
                go_roundw
                case rel => exact ⟨j + 1, by go_num, by omega, HF.out⟩
                case measure => simp [intOf]; omega
          · have hje : j = O.length := by omega
            have kj : decide ((j : Int) < (O.length : Int)) = false := decide_eq_false (by omega)
            have HE2 := HE
            rw [hje, List.take_length, ← HOe.out, ← HO.out] at HE2
            clear HE hje
            go_wp2_with fail
            go_roundw
            case rel => exact ⟨i + 1, by go_num, by omega, HE2.out⟩
            case measure => simp [intOf]; omega
      · have k1 : (r.kind == 19) = false := by simp [hkd]
        have HOe : Hid (ownL 19 r = [r]) := if_neg hkd
        have hle := list_one ((HQ2.out.kept HD.out.2.1).kept ((Grew.refl wr).alloc (.cells #[.int .i64 r.kind, .string r.text, .int .i64 r.n, .string r.name, .slice ka kn kc] 24))) 24
        obtain ⟨O, hO⟩ : ∃ O, [r] = O := ⟨_, rfl⟩
        have hOl : O.length = 1 := by rw [← hO]; rfl
        rw [hO] at HOe hle
        have HOw := hidd hle
        have G2 : Hid (Grew wr ((wr.alloc (.cells #[.int .i64 r.kind, .string r.text, .int .i64 r.n, .string r.name, .slice ka kn kc] 24)).alloc (.cells #[.int .i64 r.kind, .string r.text, .int .i64 r.n, .string r.name, .slice ka kn kc] 24))) := ((Grew.refl wr).alloc _).alloc _
        rw [World.size_alloc, cells_eq] at HOw
        clear hle hkd hO
        go_wp2_with fail
        generalize (wr.alloc (.cells #[.int .i64 r.kind, .string r.text, .int .i64 r.n, .string r.name, .slice ka kn kc] 24)).alloc (.cells #[.int .i64 r.kind, .string r.text, .int .i64 r.n, .string r.name, .slice ka kn kc] 24) = W2 at G2 HOw ⊢
        obtain ⟨gb, hgb⟩ : ∃ gb, wr.heap.size + 1 = gb := ⟨_, rfl⟩
        rw [hgb] at HOw ⊢
        clear c0 c1 c2 c3 c4 k1 hgb
        obtain ⟨A, hA⟩ : ∃ A, flatP 19 (l.take i) = A := ⟨_, rfl⟩
        rw [hA] at HO HL HH HD
        have HD2 : Hid (PatsOwn W2 w.heap.size N u5 (kf 19 (A ++ O.take 0)) ∧ Grew w W2 ∧ ∀ y ∈ kf 19 (A ++ O.take 0), endsB y = false) := by rw [List.take_zero, List.append_nil]; exact ⟨HD.out.1.kept G2.out, HD.out.2.1.trans G2.out, HD.out.2.2⟩
        clear HD hA G2 hsz HQ2
        go_loopw [5, 27] (fun s5 s27 wx => ∃ j : Nat, s27 = .int .i64 j ∧ j ≤ 1 ∧ Hid (PatsOwn wx w.heap.size N s5 (kf 19 (A ++ O.take j)) ∧ Grew w wx ∧ ∀ y ∈ kf 19 (A ++ O.take j), endsB y = false) ∧ Hid (j = 0 → wx = W2)) (fun _ s27 _ => 1 - (intOf s27).toNat)
        case atStart => exact ⟨0, rfl, by omega, HD2.out, fun _ => rfl⟩
        case round =>
          obtain ⟨j, rfl, hj, HE, HX⟩ := hrel
          clear HD2
          by_cases hjl : j < 1
          · have HOw2 := HOw.out
            rw [← HX.out (by omega)] at HOw2
            have hjl : j < O.length := by rw [hOl]; exact hjl
            obtain ⟨b2, o2, kx, e2, hnx, hqx⟩ := HOw2.at hjl
            cases e2
            clear HX HOw2
            obtain ⟨xa, xn, xc, rfl⟩ := hqx.form
            have hqx2 := hqx.lt
            have HK0 := hidd (fun h => @kf_skip 19 A O j hjl h)
            have HK1 := hidd (fun h => @kf_take 19 A O j hjl h)
            have HH2 := hidd (HH.out j HOe.out hjl)
            have HL2 := HL.out j
            have HL3 := HL.out (j + 1)
            rw [HOe.out] at HL2 HL3
            obtain ⟨x, hx⟩ : ∃ x, O.getD j Pat.zero = x := ⟨_, rfl⟩
            rw [hx] at hnx HK0 HK1 HH2 hqx2
            have HQx := hidd hqx2
            obtain ⟨d0, d1, d2, d3, d4, _, _, _, _⟩ := hnx
            have kj : decide ((j : Int) < 1) = true := decide_eq_true (by omega)
            have hj0 : j = 0 := by omega
            subst hj0
            have HSk := hidd (skip_alt x)
            have HEn := hidd (ends_or x)
            clear hx hqx hqx2
            cases y15 : x.kind == 15 with
            | true =>
              have hs : skipK 19 x = true := by rw [HSk.out]; simp [y15]
              have HE2 := HE
              rw [← HK0.out hs] at HE2
              clear hs HSk HEn HK0 HK1 HH2 HL2 HL3
              go_wp2_with fail
              go_roundw
              case rel => exact ⟨0 + 1, by go_num, by omega, ⟨HE2.out.1.kept ((Grew.refl wr).alloc _), HE2.out.2.1.alloc _, HE2.out.2.2⟩, fun e => absurd e (by omega)⟩
              case measure => simp [intOf]
            | false =>
              cases y17 : x.kind == 17 with
              | true =>
                have hs : skipK 19 x = false := by rw [HSk.out]; rw [y15]
                have he : endsB x = true := by rw [HEn.out]; simp [y17]
                have g1 : Grew wr (wr.alloc (.cells #[.int .i64 x.kind, .string x.text, .int .i64 x.n, .string x.name, .slice xa xn xc] 24)) := (Grew.refl wr).alloc _
                have hsx := HE.out.2.1.size
                have hll := HL2
                have hll2 := HL3
                rw [HK1.out hs, List.length_append] at hll2
                obtain ⟨v', w', hap, ho, hbel, hgr⟩ := pats_append_one (HE.out.1.kept g1) (by have := g1.size; omega) (HQx.out.kept g1) (fun b hb hb3 => ⟨HQ.out b hb.1.1, fun e => by have := HE.out.1.blocks b e; have := hb.1.2; omega⟩) (by omega) 22 24
                rw [World.size_alloc] at hap
                have hres := HH2.out hs he HE.out.2.2
                have HF : Hid (PatsOwn w' w.heap.size N v' (kids6 19 l) ∧ Grew w w') := by rw [hres]; exact ⟨ho, (HE.out.2.1.trans g1).below hbel (Nat.le_refl _)⟩
                have q0 : w'.cell? ⟨wr.heap.size, 0, none⟩ = some (.int .i64 x.kind) := by rw [World.cell?_of_block (hgr.block wr.heap.size (by simp) (fun e => by have := HE.out.1.blocks _ e.symm; omega)), World.cell?_alloc_mark]; rfl
                clear ho hbel hgr hs he HSk HEn HK0 HK1 HH2 HL2 HL3 hll hll2 g1 hsx
                go_wp2_with (at_builtin; refine wpList_append_eq rfl rfl rfl rfl hap ?_)
                go_ret
                exact ⟨_, rfl, HF.out⟩
              | false =>
                have hs : skipK 19 x = false := by rw [HSk.out]; rw [y15]
                have he : endsB x = false := by rw [HEn.out]; simp [y15, y17]
                have g1 : Grew wr (wr.alloc (.cells #[.int .i64 x.kind, .string x.text, .int .i64 x.n, .string x.name, .slice xa xn xc] 24)) := (Grew.refl wr).alloc _
                have hsx := HE.out.2.1.size
                have hll := HL2
                have hll2 := HL3
                rw [HK1.out hs, List.length_append] at hll2
                obtain ⟨v', w', hap, ho, hbel, hgr⟩ := pats_append_one (HE.out.1.kept g1) (by have := g1.size; omega) (HQx.out.kept g1) (fun b hb hb3 => ⟨HQ.out b hb.1.1, fun e => by have := HE.out.1.blocks b e; have := hb.1.2; omega⟩) (by omega) 22 24
                rw [World.size_alloc] at hap
                have HF : Hid (PatsOwn w' w.heap.size N v' (kf 19 (A ++ O.take (0 + 1))) ∧ Grew w w' ∧ ∀ y ∈ kf 19 (A ++ O.take (0 + 1)), endsB y = false) := by rw [HK1.out hs]; exact ⟨ho, (HE.out.2.1.trans g1).below hbel (Nat.le_refl _), ends_snoc HE.out.2.2 he⟩
                have q0 : w'.cell? ⟨wr.heap.size, 0, none⟩ = some (.int .i64 x.kind) := by rw [World.cell?_of_block (hgr.block wr.heap.size (by simp) (fun e => by have := HE.out.1.blocks _ e.symm; omega)), World.cell?_alloc_mark]; rfl
                clear ho hbel hgr hs he HSk HEn HK0 HK1 HH2 HL2 HL3 hll hll2 g1 hsx
                go_wp2_with (at_builtin; refine wpList_append_eq rfl rfl rfl rfl hap ?_)
                go_roundw
                case rel => exact ⟨0 + 1, by go_num, by omega, HF.out, fun e => absurd e (by omega)⟩
                case measure => simp [intOf]
          · have hje : j = O.length := by rw [hOl]; omega
            have kj : decide ((j : Int) < 1) = false := decide_eq_false (by omega)
            have HE2 := HE
            rw [hje, List.take_length, ← HOe.out, ← HO.out] at HE2
            clear HE hje
            go_wp2_with fail
            go_roundw
            case rel => exact ⟨i + 1, by go_num, by omega, HE2.out⟩
            case measure => simp [intOf]; omega
    · have hie : i = l.length := by omega
      have kk : decide ((i : Int) < (l.length : Int)) = false := decide_eq_false (by omega)
      have HE : Hid (PatsOwn wr w.heap.size N u5 (kids6 19 l) ∧ Grew w wr) := by
        have h1 := HD.out
        rw [show l.take i = l from by rw [hie, List.take_length]] at h1
        rw [kids_none h1.2.2]
        exact ⟨h1.1, h1.2.1⟩
      clear HD hie
      go_wp2_with fail
      go_ret
      exact ⟨_, rfl, HE.out⟩
end Go.Proofs.YtglfdfeideeeaaaDoor
