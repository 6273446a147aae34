/- Exploring masks of 32 bits. Printed by gen-gle.py. -/
import Derived.Test.YtkkdpafkafjfgaaDoorMkPAuEy
namespace Go.Proofs.YtkkdpafkafjfgaaDoor
open Go.RowKit RR
set_option linter.unusedVariables false
set_option maxRecDepth 100000
theorem wf_u32 {n : Nat} (h : n ≤ 4294967295) : (Lit.int .u32 (n : Int)).wf = true := by
  simp [Lit.wf, IntKind.min, IntKind.max, IntKind.signed, IntKind.bits]; omega
def encU : Enc Tryd.prog 67 Nat where
  enc n := .int .u32 n
  D n := n ≤ 4294967295
  key n h := ⟨_, Go.Maps.keyOf_int_mk Tryd.underlying67 (wf_u32 h)⟩
  inj x y _ _ h := by cases h; rfl
theorem keyU : Maps.Keyed Tryd.prog 67 := Maps.int_keyed Tryd.underlying67
theorem intsU : ∃ i0, Tryd.prog.info? 67 = some i0 ∧ i0.zero = some (.int .u32 0) ∧ i0.size = 1 ∧ i0.bytes = 4 := info_parts (show (Tryd.prog.info? 67).map (fun i => (i.zero, i.size, i.bytes)) = some (some (.int .u32 0), 1, 4) by kernel_rfl)
theorem info_u32s : (Tryd.prog.info? 67).map (·.size) = some 1 := by kernel_rfl
set_option maxRecDepth 100000 in
set_option maxHeartbeats 4000000 in
theorem Explore_u32 (first : Nat) (g1 g2 : FuncId) (l1 l2 : Array Value) (st : Nat → Nat → Nat) (en : Nat → Bool) (D : Nat → Prop) (N : Nat) (w : World) (hg1 : isGo Tryd.prog g1 = true) (hg2 : isGo Tryd.prog g2 = true)
    (hst : ∀ w1 x c, Grew w w1 → D x → c < 256 → Calls Tryd.prog g1 (#[.int .u32 (x : Nat), .int .u8 (c : Nat)] ++ l1) w1 fun e w' => e = .returned (.int .u32 (st x c : Nat)) ∧ Grew w1 w')
    (hen : ∀ w1 x, Grew w w1 → D x → Calls Tryd.prog g2 (#[.int .u32 (x : Nat)] ++ l2) w1 fun e w' => e = .returned (.bool (en x)) ∧ Grew w1 w')
    (hD : D first) (hDs : ∀ x c, D x → c < 256 → D (st x c)) (hN : ∀ ks : List Nat, ks.Nodup → (∀ x ∈ ks, D x) → ks.length ≤ N) (h9 : N ≤ 8192) (hDe : ∀ x, D x → x ≤ 4294967295) :
    Calls Tryd.prog 30 #[.int .u32 (first : Nat), .func (.func g1) #[] l1, .func (.func g2) #[] l2] w (RawEnd first st en D N w) := by
  have HSt := hidd hst
  have HEn := hidd hen
  have HD := hidd hD
  have HDs := hidd hDs
  have HN := hidd hN
  have HDe := hidd hDe
  have HG2 := hidd hg2
  have eg1 := fun args w => run_go hg1 args w
  have hmm := run_makeMap (P := Tryd.prog) 145 w
  obtain ⟨w2, hput, hK2, hg2', hs2⟩ := (KMap.made encU w).put keyU (t := 145) Tryd.underlying145 (x := first) (hDe first hD) (by simp) (.int .i64 (0 : Nat))
  have hput2 : (Instr.mapUpdate 145 (.map (some w.heap.size)) (.int .u32 (first : Nat)) (.int .i64 0)).run Tryd.prog (w.alloc (.map #[] 0)) = .ok () w2 := hput
  have hs3 : w2.heap.size = w.heap.size + 1 := by rw [hs2, World.size_alloc]
  have HS0 : Hid (ExSt encU 67 1 (fun x => [.int .u32 (x : Nat)]) en first w ((w2.alloc (.cells #[.int .u32 (first : Nat)] 67)).alloc (.cells #[.slice none 0 0, .slice none 0 0] 147)) w.heap.size (w.heap.size + 1 + 1) [first] [] (.slice (some ⟨w.heap.size + 1, 0, none⟩) 1 1) (.slice none 0 0) (.slice none 0 0)) := by
    have gr : Grew w w2 := grew_grown ((Grew.refl w).alloc _) hg2' fun b e => by injection e with e; omega
    have g3 := ((Grew.refl w2).alloc (.cells #[.int .u32 (first : Nat)] 67)).alloc (.cells #[.slice none 0 0, .slice none 0 0] 147)
    have hq := QRow.made (base := w.heap.size) (e := 67) (size := 1) w2 #[.int .u32 (first : Nat)] 1 (by rw [hs3]; omega) (by unfold maxLen; omega) rfl
    rw [hs3] at hq
    have hh := heap_alloc_new (w2.alloc (.cells #[.int .u32 (first : Nat)] 67)) (.cells #[.slice none 0 0, .slice none 0 0] 147)
    rw [World.size_alloc, hs3] at hh
    refine ⟨gr.trans g3, hK2.kept g3, hq.grew ((Grew.refl _).alloc _), hh, ⟨rfl, none, 0, rfl, Nat.le_refl _, Nat.zero_le _, fun h => absurd h (by omega)⟩, ⟨rfl, none, 0, rfl, Nat.le_refl _, Nat.zero_le _, fun h => absurd h (by omega)⟩, ⟨Nat.le_refl _, by omega, by omega⟩, fun k hk => ?_, fun k hk => (by cases hk), fun k hk => (by cases hk), fun k hk => ⟨by simp [Value.ownBlock], by simp [Value.ownBlock]⟩, fun k hk => (by cases hk)⟩
    cases hk
    rw [World.size_alloc, World.size_alloc, hs3]
    exact ⟨by show w.heap.size + 1 ≠ _; omega, by show w.heap.size + 1 ≠ _; omega, by show _ ≤ w.heap.size + 1; omega, by show w.heap.size + 1 < _; omega⟩
  have HE0 : Hid (Exp first st D [first] [] 0 0 (fun _ => 0)) := Exp.start hD
  clear hput hK2 hg2' hs2 hst hen hD hDs hN hDe
  go_enter Tryd.func30, Tryd.ntmps30
  go_wp2_with fail
  clear hput2 hmm
  generalize (w2.alloc (.cells #[.int .u32 (first : Nat)] 67)).alloc (.cells #[.slice none 0 0, .slice none 0 0] 147) = W at HS0 ⊢
  obtain ⟨mb, hmb⟩ : ∃ mb, w.heap.size = mb := ⟨_, rfl⟩
  rw [hmb] at HS0 ⊢
  obtain ⟨rb, hrb⟩ : ∃ rb, mb + 1 + 1 = rb := ⟨_, rfl⟩
  rw [hrb] at HS0 ⊢
  have HMb := hidd hmb
  clear hs3 hmb hrb
  go_loopw [8, 10] (fun s8 s10 wr => ∃ i k la lc, s10 = .int .i64 (i : Nat) ∧ i ≤ k ∧ s8 = .slice la k lc ∧ k ≤ N ∧ Hid (∃ ks rows nv ev, Exp first st D ks rows i 0 (fun _ => 0) ∧ ks.length = k ∧ ExSt encU 67 1 (fun x => [.int .u32 (x : Nat)]) en first w wr mb rb ks rows (.slice la k lc) nv ev)) (fun _ s10 _ => N - (intOf s10).toNat)
  case atStart => exact ⟨0, 1, _, _, rfl, by omega, rfl, by have := HN.out [first] (by simp) (by intro x hx; rw [List.mem_singleton] at hx; rw [hx]; exact HD.out); simpa using this, [first], [], _, _, HE0.out, rfl, HS0.out⟩
  case round =>
    obtain ⟨i, k, la, lc, rfl, hik, rfl, hkN, KS⟩ := hrel
    clear HS0 HE0
    obtain ⟨ks, rows, nv, ev, hX, hks, hS⟩ := KS.out
    by_cases hlt : i < k
    · have kl : decide ((i : Int) < (k : Int)) = true := decide_eq_true (by omega)
      have hz := run_zero_rowI
      have HI0 : Hid (ExSt encU 67 1 (fun x => [.int .u32 (x : Nat)]) en first w (wr.alloc (.cells (rowI fun _ => 0) 26)) mb rb ks rows (.slice la k lc) nv ev ∧ ArrAt (wr.alloc (.cells (rowI fun _ => 0) 26)) wr.heap.size 0 256 (fun j => .int .i64 ((if j < 0 then (fun _ => 0) j else 0 : Nat) : Int)) ∧ ¬ Foot mb rb (.slice la k lc) nv ev wr.heap.size) :=
        ⟨hS.kept ((Grew.refl wr).alloc _), (rowI_at wr (fun _ => 0) 26).congr fun j _ => by rw [if_neg (Nat.not_lt_zero j)]; rfl, fun hf => by have := hS.foot_lt hf; omega⟩
      have HX0 := hidd hX
      have HKs := hidd hks
      have HGs : Hid (w.heap.size ≤ wr.heap.size) := hS.grew.size
      clear KS hS hX hks
      go_wp2_with fail
      generalize wr.alloc (.cells (rowI fun _ => 0) 26) = W1 at HI0 ⊢
      obtain ⟨g0, hg0⟩ : ∃ g0, wr.heap.size = g0 := ⟨_, rfl⟩
      rw [hg0] at HI0 HGs ⊢
      clear hg0
      obtain ⟨w0, rfl⟩ : ∃ w0, w0 = wr := ⟨_, rfl⟩
      go_loopw [8, 29] (fun s8 s29 wr => ∃ c k la lc, s29 = .int .i64 (c : Nat) ∧ c ≤ 256 ∧ s8 = .slice la k lc ∧ k ≤ N ∧ i < k ∧ Hid (∃ ks row, Exp first st D ks rows i c row ∧ ks.length = k ∧ ExSt encU 67 1 (fun x => [.int .u32 (x : Nat)]) en first w wr mb rb ks rows (.slice la k lc) nv ev ∧ ArrAt wr g0 0 256 (fun j => .int .i64 ((if j < c then row j else 0 : Nat) : Int)) ∧ ¬ Foot mb rb (.slice la k lc) nv ev g0)) (fun _ s29 _ => 256 - (intOf s29).toNat)
      case atStart => exact ⟨0, k, _, _, rfl, by omega, rfl, hkN, hlt, ks, _, HX0.out, HKs.out, HI0.out⟩
      case round =>
        obtain ⟨c, k2, la2, lc2, rfl, hc, rfl, hkN2, hik2, JS⟩ := hrel
        clear HI0 HX0 HKs
        obtain ⟨ks2, row, hX, hks, hS, hA, hF⟩ := JS.out
        clear JS
        by_cases hcl : c < 256
        · have kc : decide ((c : Int) < 256) = true := decide_eq_true (by omega)
          have hcw : (c : Int) % 256 = (c : Int) := by omega
          have hcl2 : (c : Int) < 256 := by omega
          obtain ⟨x, hx⟩ : ∃ x, ks2.getD i first = x := ⟨_, rfl⟩
          have hls := hS.list
          rw [hks] at hls
          obtain ⟨lb, lo, lc3, e, _, hlb, _, _, hcell⟩ := hls.at (by omega)
          cases e
          have c0 := hcell i (.int .u32 (x : Nat)) (by omega) (by rw [flat_one, List.getElem?_map, ← hx, List.getD_eq_getElem?_getD, List.getElem?_eq_getElem (by omega)]; rfl)
          have hDx : D x := by rw [← hx]; exact hX.dom _ (getD_lt_mem (by omega))
          have HCall := hidd (HSt.out wr x c hS.grew hDx hcl)
          have HDy := hidd (HDs.out x c hDx hcl)
          obtain ⟨y, hy⟩ : ∃ y, st x c = y := ⟨_, rfl⟩
          rw [hy] at HCall HDy
          have HX := hidd hX
          have HKs := hidd hks
          have HS := hidd hS
          have HA := hidd hA
          have HF := hidd hF
          have HXe : Hid (st (ks2.getD i first) c = y) := by rw [hx]; exact hy
          clear hcell hX hks hS hA hF hx hDx hy hls
          go_wp2_with fail
          refine HCall.out.mono ?_; rintro e wz ⟨rfl, gz⟩
          have HSz := hidd (HS.out.kept gz)
          have HAz := hidd (HA.out.kept gz)
          have cr := HAz.out.at0 c hcl
          rw [if_neg (Nat.lt_irrefl c)] at cr
          have cf := HAz.out.free0 c hcl
          have hgl : g0 < wz.heap.size := HAz.out.lt (by omega)
          clear c0 HS HA gz HCall
          by_cases hq : y ∈ ks2
          · have hlook := HSz.out.map.lookS keyU (t := 145) Tryd.underlying145 (numL_mem hq) true
            obtain ⟨q, hqe⟩ : ∃ q, ks2.idxOf y = q := ⟨_, rfl⟩
            rw [hqe] at hlook
            have hlook2 : (Instr.lookup 145 (.map (some mb)) (.int .u32 (y : Nat)) true).run Tryd.prog wz = .ok (.tuple #[.int .i64 (q : Nat), .bool true]) wz := hlook
            have HE := hidd (HX.out.seen (by rw [HXe.out]; exact hq))
            rw [HXe.out, hqe] at HE
            have HAn := hidd (arr_next (q := q) hcl HAz.out)
            have HSn : Hid (ExSt encU 67 1 (fun x => [.int .u32 (x : Nat)]) en first w (wz.setCell ⟨g0, c, none⟩ (.int .i64 (q : Nat))) mb rb ks2 rows (.slice (some ⟨lb, lo, none⟩) k2 lc2) nv ev) := by
              exact HSz.out.same (HSz.out.grew.setCell (p := ⟨g0, c, none⟩) HGs.out _) (by simp [World.setCell]) fun k hk => q_set_other _ _ (fun e => HF.out (e ▸ hk))
            clear hlook hqe hq
            go_wp2_with fail
            exact ⟨⟨c + 1, k2, _, _, by simp, by omega, rfl, hkN2, hik2, ks2, _, HE.out, HKs.out, HSn.out, HAn.out, HF.out⟩, by simp [intOf]; omega⟩
          · have hlook : (Instr.lookup 145 (.map (some mb)) (.int .u32 (y : Nat)) true).run Tryd.prog wz = .ok (.tuple #[.int .i64 0, .bool false]) wz := HSz.out.map.lookN keyU (t := 145) Tryd.underlying145 (zero_int wz) (HDe.out y HDy.out) (by rw [numL_fst]; exact hq) true
            obtain ⟨i0, hi0, hz0, hz1, hz2⟩ := intsU
            have hN2 := HN.out ks2 HX.out.dis HX.out.dom
            obtain ⟨w6, hput, hs6, _, v', w7, hap, ⟨va, vc, rfl⟩, hS7, hall⟩ := HSz.out.add (mt := 145) (lt := 64) keyU Tryd.underlying145 Tryd.underlying64 hi0 hz0 hz1 hz2 rfl (x := y) (y := y) (HDe.out y HDy.out) hq rfl rfl (fun u hu => by rw [List.mem_singleton] at hu; rw [hu]; rfl) (by omega) (by omega) (by have := HX.out.le; have := HX.out.len; omega) 67 64
            obtain ⟨h8, hF8⟩ := hall g0 hgl HF.out
            rw [← hs6] at hap
            rw [HKs.out] at hput hap hF8 hS7
            have hput2 : (Instr.mapUpdate 145 (.map (some mb)) (.int .u32 (y : Nat)) (.int .i64 (k2 : Nat))).run Tryd.prog wz = .ok () w6 := hput
            have hap2 : (Builtin.append_ #[64, 64] 64 #[.slice (some ⟨lb, lo, none⟩) k2 lc2, .slice (some ⟨w6.heap.size, 0, none⟩) 1 1]).run Tryd.prog (w6.alloc (.cells #[.int .u32 (y : Nat)] 67)) = .ok (.slice va (k2 + 1) vc) w7 := hap
            have HE := hidd (HX.out.fresh (by rw [HKs.out]; exact hik2) (by rw [HXe.out]; exact HDy.out) (by rw [HXe.out]; exact hq))
            rw [HXe.out, HKs.out] at HE
            have HA7 := hidd (arr_block HAz.out h8)
            have cr7 := HA7.out.at0 c hcl
            rw [if_neg (Nat.lt_irrefl c)] at cr7
            have cf7 := HA7.out.free0 c hcl
            have HAn := hidd (arr_next (q := k2) hcl HA7.out)
            have hk3 := HN.out _ HE.out.dis HE.out.dom
            rw [List.length_append, HKs.out] at hk3
            have hk4 : k2 + 1 ≤ N := hk3
            have HF8 := hidd hF8
            have HSn : Hid (ExSt encU 67 1 (fun x => [.int .u32 (x : Nat)]) en first w (w7.setCell ⟨g0, c, none⟩ (.int .i64 (k2 : Nat))) mb rb (ks2 ++ [y]) rows (.slice va (k2 + 1) vc) nv ev) :=
              hS7.same (hS7.grew.setCell (p := ⟨g0, c, none⟩) HGs.out _) (by simp [World.setCell]) fun k hk => q_set_other _ _ (fun e => HF8.out (e ▸ hk))
            have HKn : Hid ((ks2 ++ [y]).length = k2 + 1) := by rw [List.length_append, HKs.out]; rfl
            clear hput hap hF8 hS7 hall h8 hs6 hq cr cf hk3 hN2
            go_wp2_with (first | (at_builtin; refine wpList_append_eq rfl rfl rfl rfl hap2 ?_))
            exact ⟨⟨c + 1, k2 + 1, _, _, by simp, by omega, rfl, hk4, by omega, ks2 ++ [y], _, HE.out, HKn.out, HSn.out, HAn.out, HF8.out⟩, by simp [intOf]; omega⟩
        · obtain rfl : c = 256 := by omega
          have kc : decide ((256 : Int) < 256) = false := rfl
          have HX := hidd hX
          have HKs := hidd hks
          have HS := hidd hS
          have HA : Hid (ArrAt wr g0 0 256 fun j => .int .i64 (row j : Nat)) := hA.congr fun j hj => by rw [if_pos hj]
          have HF := hidd hF
          clear hX hks hS hA hF
          go_wp2_with fail
          have hS := HS.out
          have hks := HKs.out
          have hX := HX.out
          have hli := hX.len
          obtain ⟨x, hx⟩ : ∃ x, ks2.getD i first = x := ⟨_, rfl⟩
          have hls := hS.list
          rw [hks] at hls
          obtain ⟨lb, lo, lc3, e, _, hlb, _, _, hcell⟩ := hls.at (by omega)
          cases e
          have c0 := hcell i (.int .u32 (x : Nat)) (by omega) (by rw [flat_one, List.getElem?_map, ← hx, List.getD_eq_getElem?_getD, List.getElem?_eq_getElem (by omega)]; rfl)
          have hDx : D x := by rw [← hx]; exact hX.dom _ (getD_lt_mem (by omega))
          have hEnx := fun w1 g => HEn.out w1 x g hDx
          obtain ⟨i0, hi0, hz0, hz1, hz2⟩ := info_rowx
          obtain ⟨j0, hj0, jz0, jz1, jz2⟩ := info_boolx
          have hnl : nv.ownBlock ≠ some lb := fun e => (hS.ln lb rfl).1 e
          have hel : ev.ownBlock ≠ some lb := fun e => (hS.ln lb rfl).2 e
          have hlr : lb ≠ rb := (hS.ownl lb rfl).2.1
          have hrl := (Array.getElem?_eq_some_iff.1 hS.raw).1
          have hrw : w.heap.size ≤ rb := hS.lo.2.1
          have hFn : g0 ≠ rb ∧ nv.ownBlock ≠ some g0 ∧ ev.ownBlock ≠ some g0 := ⟨fun e => HF.out (Or.inr (Or.inl e)), fun e => HF.out (Or.inr (Or.inr (Or.inr (Or.inl e)))), fun e => HF.out (Or.inr (Or.inr (Or.inr (Or.inr e))))⟩
          have hgl : g0 < wr.heap.size := HA.out.lt (by omega)
          have hnr : ∀ (cs : List Value) (z : Value) (w1 w2 : World), TwRl w.heap.size rb (chE nv ev i (rowsC rows) ((ks2.take i).map fun x => Value.bool (en x)) (rowI fun c => (row c : Nat)).toList [.bool (en x)]) w1 w2 → NewRow wr cs z w1 → NewRow wr cs z w2 := fun cs z w1 w2 g h => NewRow.mono hrl (fun c k hk => by cases c; exact (hS.ownn k hk).2.2.2; exact (hS.owne k hk).2.2.2) z w1 w2 g h
          refine RR.region_frame [61, 62, 63, 64, 65, 66, 67, 68, 69, 70, 71, 72, 73, 74, 75, 76, 77, 78, 79, 80, 81, 82, 83, 84, 85] mixed TwRl.drew TwRl.trans
            [.val (.pointer (some ⟨rb, 0, none⟩)), .val (.pointer (some ⟨rb, 0, none⟩)), .val (.pointer (some ⟨rb, 0, none⟩)), .val (.pointer (some ⟨rb, 0, none⟩)), .val (.pointer (some ⟨rb, 0, none⟩)), .val nv, .val (.agg (rowI fun c => (row c : Nat))), .fact (NewRow wr (rowI fun c => (row c : Nat)).toList), .fact fun _ _ => True,
             .val (.pointer (some ⟨rb, 0, none⟩)), .val (.pointer (some ⟨rb, 0, none⟩)), .val (.pointer (some ⟨rb, 1, none⟩)), .val ev, .val (.func (.func g2) #[] l2), .val (.slice (some ⟨lb, lo, none⟩) k2 lc2), .val (.int .i64 (i : Nat)), .val (.pointer (some ⟨lb, lo + i, none⟩)), .val (.int .u32 (x : Nat)), .val (.bool (en x)), .fact (NewRow wr [.bool (en x)]), .fact fun _ _ => True,
             .val (.pointer (some ⟨rb, 0, none⟩)), .val (.pointer (some ⟨rb, 0, none⟩)), .fact fun _ _ => True, .val (.pointer (some ⟨rb, 0, none⟩)), .val (.pointer (some ⟨rb, 1, none⟩)), .fact fun _ _ => True]
            (hS.tw hli (rowI fun c => (row c : Nat)).toList [.bool (en x)] _) (tw_mono ?_) (by kernel_rfl) (by kernel_rfl)
            ⟨wj_move (chE_plain rfl) (by kernel_rfl) rfl rfl, wj_move (chE_plain rfl) (by kernel_rfl) rfl rfl, wj_move (chE_plain rfl) (by kernel_rfl) rfl rfl, wj_nil (chE_plain rfl) (by kernel_rfl) rfl rfl, wj_field (field_raw0 rb) (chE_plain rfl) (by kernel_rfl) rfl rfl,
             wj_row false agg_slices (chE_plain rfl) (by kernel_rfl) rfl rfl,
             wj_load (p := ⟨g0, 0, none⟩) ?load (chE_plain rfl) (by kernel_rfl) rfl rfl,
             wj_build (fun w => build_row (fun c => (row c : Nat)) w) (chE_plain rfl) (by kernel_rfl) rfl rfl,
             wj_append (chE_I _ _ _ _ _ _ _) false (by kernel_rfl) (by exact (show (69 : Nat) < 87 by decide)) (by exact (show (8 : Nat) < 27 by decide)) (by exact (show (5 : Nat) ≠ 8 by decide)) agg_rows hi0 hz0 hz1 hz2 (rowI_size _) (rowI_list _) ?one (by show i + 1 ≤ maxLen; unfold maxLen; omega) (by show (i + 1) * 2048 ≤ _; omega) (by kernel_rfl) rfl rfl rfl,
             wj_move (chE_plain rfl) (by kernel_rfl) rfl rfl, wj_nil (chE_plain rfl) (by kernel_rfl) rfl rfl, wj_field (field_raw1 rb) (chE_plain rfl) (by kernel_rfl) rfl rfl,
             wj_row true agg_boolsl (chE_plain rfl) (by kernel_rfl) rfl rfl,
             wj_move (chE_plain rfl) (by kernel_rfl) rfl rfl, wj_move (chE_plain rfl) (by kernel_rfl) rfl rfl, wj_move (chE_plain rfl) (by kernel_rfl) rfl rfl,
             wj_index ?idx (chE_plain rfl) (by kernel_rfl) rfl rfl rfl,
             wj_load (p := ⟨lb, lo + i, none⟩) ?elem (chE_plain rfl) (by kernel_rfl) rfl rfl,
             wj_callv HG2.out (chE_plain rfl) (fun w1 g => hEnx w1 (hS.grew.below g.1 (Nat.le_refl _))) (by kernel_rfl) rfl rfl rfl,
             wj_build (fun w => build_bool (en x) w) (chE_plain rfl) (by kernel_rfl) rfl rfl,
             wj_append (chE_I _ _ _ _ _ _ _) true (by kernel_rfl) (by exact (show (81 : Nat) < 87 by decide)) (by exact (show (20 : Nat) < 27 by decide)) (by exact (show (12 : Nat) ≠ 20 by decide)) Tryd.underlying28 hj0 jz0 jz1 jz2 rfl rfl (fun u hu => by rw [List.mem_singleton.1 hu]; rfl) (by show i + 1 ≤ maxLen; unfold maxLen; omega) (by show (i + 1) * 1 ≤ _; omega) (by kernel_rfl) rfl rfl rfl,
             wj_nil (chE_plain rfl) (by kernel_rfl) rfl rfl, wj_field (field_raw0 rb) (chE_plain rfl) (by kernel_rfl) rfl rfl,
             wj_store (chE_I _ _ _ _ _ _ _) false (by kernel_rfl) (by exact (show (23 : Nat) < 27 by decide)) (by kernel_rfl) rfl rfl (fun w => size_of (by kernel_rfl) w) hrw,
             wj_nil (chE_plain rfl) (by kernel_rfl) rfl rfl, wj_field (field_raw1 rb) (chE_plain rfl) (by kernel_rfl) rfl rfl,
             wj_store (chE_I _ _ _ _ _ _ _) true (by kernel_rfl) (by exact (show (26 : Nat) < 27 by decide)) (by kernel_rfl) rfl rfl (fun w => size_of (by kernel_rfl) w) hrw, trivial⟩ ?_
          case load =>
            intro w1 g
            exact load_rowI (arr_block HA.out (g.2 g0 hgl hFn.1 (fun c => by cases c; exact hFn.2.1; exact hFn.2.2)))
          case one =>
            intro u hu
            obtain ⟨j, _, rfl⟩ := List.mem_map.1 (show u ∈ (List.range 256).map fun j => Value.int .i64 ((row j : Nat) : Int) from hu)
            rfl
          case idx =>
            intro w1
            have := index_sl (sz := 1) Tryd.underlying64 (by kernel_rfl) (fun w => size_of info_u32s w) (b := lb) (o := lo) (c := lc2) hik2 w1
            rwa [Nat.mul_one] at this
          case elem =>
            intro w1 g
            refine load_one (fun w => run_isAgg Tryd.underlying67 w) ?_
            rw [World.cell?_of_block (a := ⟨lb, lo + i, none⟩) (g.2 lb hlb hlr (fun c => by cases c; exact hnl; exact hel))]
            exact c0
          · intro s hs
            simp only [List.mem_cons, List.not_mem_nil, or_false] at hs
            rcases hs with rfl | rfl | rfl | rfl | rfl | rfl | rfl | rfl | rfl | rfl | rfl | rfl | rfl | rfl | rfl | rfl | rfl | rfl | rfl | rfl | rfl | rfl | rfl | rfl | rfl | rfl | rfl <;> first | exact Or.inl ⟨_, rfl⟩ | exact Or.inr ⟨_, rfl, hnr _⟩ | exact Or.inr ⟨_, rfl, fun _ _ _ _ _ => trivial⟩
          · intro xs listed a1 w1 hall hxs hJ hR _
            have hrow := hS.rowed hli (by rw [hks]; exact hik2) hx hJ hR (hall 8 (by exact (show (8 : Nat) < 27 by decide))) (hall 20 (by exact (show (20 : Nat) < 27 by decide))) (hall 23 (by exact (show (23 : Nat) < 27 by decide))) (hall 26 (by exact (show (26 : Nat) < 27 by decide)))
            rw [hxs 69, hxs 81] at hrow
            have HRow := hidd hrow
            have HEx := hidd (hX.rowed (by rw [hks]; exact hik2))
            simp only [List.foldl_cons, List.foldl_nil, List.setIfInBounds_toArray, List.set_cons_succ, List.set_cons_zero]
            clear hrow hxs hall hJ hR hS hks hX hli hls hcell c0 hDx hEnx hnl hel hlr hrl hrw hFn hgl hnr hi0 hz0 hz1 hz2 hj0 jz0 jz1 jz2 hx
            go_wp2_with fail
            exact ⟨⟨i + 1, k2, _, _, by simp, by omega, rfl, hkN2, ks2, rows ++ [row], _, _, HEx.out, HKs.out, HRow.out⟩, by simp [intOf]; omega⟩
    · obtain rfl : i = k := by omega
      have kl : decide ((i : Int) < (i : Int)) = false := decide_eq_false (by omega)
      have hD := hS.done (by rw [hks]; exact hX)
      have hgr := hS.grew
      have HX := hidd hX
      have HKs := hidd hks
      have HD := hidd hD
      have HGr := hidd hgr
      clear KS hS hX hks hD hgr
      go_wp2_with fail
      go_ret
      exact ⟨rb, ks, rows, rfl, by rw [HKs.out]; exact HX.out, by rw [HKs.out]; exact hkN, HD.out, HGr.out⟩
end Go.Proofs.YtkkdpafkafjfgaaDoor
