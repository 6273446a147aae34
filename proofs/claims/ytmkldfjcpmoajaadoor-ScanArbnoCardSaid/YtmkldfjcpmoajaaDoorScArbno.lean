/- ScanArbno: the walk. Conditions: what the arguments are read as; the library's table of powers of ten. -/
import Derived.Test.YtmkldfjcpmoajaaDoorScLit
import Derived.Test.YtmkldfjcpmoajaaDoorScPlain
namespace Go.Proofs.YtmkldfjcpmoajaaDoor
open Go.RowKit
set_option linter.unusedVariables false
section
variable {R : List Rule} {w : World} {rv ka : Value} {a : Pat} {s : ByteArray}
/-- At the places ahead of n the kid never matches nothing. -/
def KidOk (R : List Rule) (s : ByteArray) (a : Pat) (n : Nat) : Prop := ∀ j, j < n → allOk (allT R s a j) = true ∧ ∀ x ∈ (allT R s a j).1, x.1 ≠ j
theorem KidOk.alike {at_ : Int} (h : KidOk R s a (s.size + 1)) : alikeB R s (arbnoP a) (altP [someP 1 0 ByteArray.empty, catP [a, arbnoP a]]) at_ = true :=
  arbno_alike fun n _ hn => h n (by omega)
theorem way_ne {l : List Way} {n k : Nat} (h : ∀ j, j < k → (l.getD j way0).1 ≠ n) (hk : l.length ≤ k) : ∀ x ∈ l, x.1 ≠ n := by
  intro x hx
  obtain ⟨j, hj, rfl⟩ := List.mem_iff_getElem.1 hx
  have := h j (by omega)
  rwa [List.getD_eq_getElem?_getD, List.getElem?_eq_getElem hj] at this
set_option maxRecDepth 100000 in
set_option maxHeartbeats 4000000 in
theorem ScanArbno_walk (at_ : Int) (hR : RulesAt w rv R) (ha : PatV w ka a) (hs : s.size ≤ maxLen) (hat : -9223372036854775808 ≤ at_ ∧ at_ ≤ 9223372036854775807) (hT : TabP w) :
    Calls Tryd.prog 10 #[rv, .agg (a.cells ka), .string s, .int .i64 at_] w fun e w' => e = .returned (.bool true) ∧ Grew w w' := by
  obtain ⟨ra, rc, rfl, _⟩ := hR.len
  obtain ⟨kb, kn, kc, rfl⟩ := kids_form ha.kids
  have H := hidd (And.intro hR (And.intro ha (And.intro hs hT)))
  have HAl : Hid (∀ w1, Grew w w1 → Calls Tryd.prog 23 #[] w1 fun e w' => e = .returned (.bool true) ∧ Grew w1 w') := fun w1 g => alive_any w1 (hT.kept g)
  have HAA : Hid (∀ (n : Nat) w1, Grew w w1 → Calls Tryd.prog 29 #[.slice ra R.length rc, .agg #[.int .i64 a.kind, .string a.text, .int .i64 a.n, .string a.name, .slice kb kn kc], .string s, .int .i64 n] w1 fun e w' => AllEnd w1 (allT R s a n) e w') :=
    fun n w1 g => all_any (p := a) (kv := .slice kb kn kc) n (hR.kept g) (ha.kept g) hs (hT.kept g)
  clear hR ha hs hT hat
  unfold Pat.cells
  by_cases hlong : 60 < (s.size : Int)
  · go_enter Tryd.func10, Tryd.ntmps10
    go_wp2_with fail
    refine (HAl.out _ ((Grew.refl w).alloc _)).mono ?_; rintro e w1 ⟨rfl, g1⟩
    have HG := hidd (((Grew.refl w).alloc _).trans g1)
    clear g1 HAl
    go_wp2_with fail
    go_ret
    exact ⟨rfl, HG.out⟩
  · have hle : s.size ≤ 60 := by omega
    go_enter Tryd.func10, Tryd.ntmps10
    go_wp2_with fail
    refine (HAl.out _ ((Grew.refl w).alloc _)).mono ?_; rintro e w1 ⟨rfl, g1⟩
    have HG := hidd g1
    clear g1 HAl
    go_wp2_with fail
    clear hlong
    go_loopg [9] (s.size + 2) (fun k s9 wr => ∃ i : Nat, s9 = .int .i64 i ∧ Hid (Grew (w.alloc (.cells #[.int .i64 a.kind, .string a.text, .int .i64 a.n, .string a.name, .slice kb kn kc] 25)) wr ∧ KidOk R s a i) ∧ s.size + 2 ≤ k + i ∧ i ≤ s.size + 1)
    case atStart => exact ⟨0, rfl, ⟨HG.out, fun j hj => by omega⟩, by omega, by omega⟩
    case round =>
      obtain ⟨i, rfl, HI, hk, hi⟩ := hrel
      clear HG
      obtain ⟨k0, k1, k2, k3, k4⟩ := box_five (w := wr) (b := w.heap.size) (by rw [HI.out.1.block _ (by simp)]; exact heap_alloc_new w _)
      by_cases hlt : i ≤ s.size
      · go_wp2_with fail
        refine (HAA.out i _ (((Grew.refl w).alloc _).trans HI.out.1)).mono ?_; rintro e w2 ⟨g2, b, c', rfl, hv⟩
        have HG2 := hidd (And.intro (HI.out.1.trans g2) hv)
        have HKO := hidd HI.out.2
        obtain ⟨r, hr⟩ : ∃ r, allT R s a i = r := ⟨_, rfl⟩
        rw [hr] at HG2 ⊢
        have HRR := hidd hr
        clear hr g2 hv HI k0 k1 k2 k3 k4
        obtain ⟨l, cut, er⟩ := r
        dsimp only
        cases hok : allOk (l, cut, er) with
        | false =>
          go_wp2_with fail
          go_ret
          exact ⟨rfl, ((Grew.refl w).alloc _).trans HG2.out.1⟩
        | true =>
          have HOK := hidd hok
          clear hok
          cases cut with
          | true =>
            go_wp2_with fail
            go_ret
            exact ⟨rfl, ((Grew.refl w).alloc _).trans HG2.out.1⟩
          | false =>
            go_wp2_with fail
            go_loopg [14, 43] (l.length + 1) (fun kk _ s43 wr2 => ∃ k : Nat, s43 = .int .i64 k ∧ Hid (Grew w2 wr2 ∧ ∀ j, j < k → (l.getD j way0).1 ≠ i) ∧ l.length + 1 ≤ kk + k ∧ k ≤ l.length)
            case atStart => exact ⟨0, rfl, ⟨Grew.refl _, fun j hj => by omega⟩, by omega, by omega⟩
            case round =>
              obtain ⟨k, rfl, HJ, hkk, hkl⟩ := hrel
              have hll : l.length ≤ 9223372036854775807 := by
                obtain ⟨_, _, _, _, h⟩ := HG2.out.2.len
                exact h
              by_cases hk2 : k < l.length
              · obtain ⟨bb, ob, rfl, gb⟩ : ∃ b1 o : Nat, b = some ⟨b1, o, none⟩ ∧ ∀ i, i < l.length → w2.cell? ⟨b1, o + i * 2, none⟩ = some (.int .i64 (l.getD i way0).1) ∧ ∃ gv, w2.cell? ⟨b1, o + i * 2 + 1, none⟩ = some gv ∧ GiftsV w2 gv (l.getD i way0).2 := by
                  rcases HG2.out.2 with ⟨_, _, e, e2⟩ | ⟨b, o, c, e, _, _, _, h⟩
                  · rw [e2] at hk2; simp at hk2
                  · cases e; exact ⟨b, o, rfl, h⟩
                obtain ⟨a0', gv, a1', hgv⟩ := gb k hk2
                obtain ⟨ga, gc, rfl, _, _⟩ := hgv.len
                have a0 := HJ.out.1.keeps a0'
                have a1 := HJ.out.1.keeps a1'
                have HB0 : Hid (∀ j, j < k → (l.getD j way0).1 ≠ i) := HJ.out.2
                have HX : Hid ((l.getD k way0).1 ≠ i → ∀ j, j < k + 1 → (l.getD j way0).1 ≠ i) := fun h j hj => by
                  by_cases e : j < k
                  · exact HB0.out j e
                  · obtain rfl : j = k := by omega
                    exact h
                have hcl : l.length ≤ c' := by
                  obtain ⟨_, c2, e, h, _⟩ := HG2.out.2.len
                  cases e; exact h
                clear gb a0' a1' hgv HB0
                generalize (l.getD k way0).2.length = gn at a1
                generalize (l.getD k way0).1 = x1 at a0 HX
                by_cases hx : x1 = i
                · have f1 : ((x1 : Int) == (i : Int)) = true := by rw [hx]; simp
                  clear hx HX
                  go_wp2_with fail
                  go_ret
                  exact ⟨rfl, ((Grew.refl w).alloc _).trans (HG2.out.1.trans (HJ.out.1.alloc _))⟩
                · have f1 : ((x1 : Int) == (i : Int)) = false := by simp; omega
                  have HX2 := hidd (HX.out hx)
                  have HJG := hidd (HJ.out.1)
                  clear hx HX HJ
                  go_wp2_with fail
                  go_roundg (l.length + 1 - (k + 1))
                  case rel => exact ⟨k + 1, by go_num, ⟨HJG.out.alloc _, HX2.out⟩, by omega, by omega⟩
                  case measure => omega
              · have HK2 : Hid (Grew (w.alloc (.cells #[.int .i64 a.kind, .string a.text, .int .i64 a.n, .string a.name, .slice kb kn kc] 25)) wr ∧ KidOk R s a (i + 1)) := ⟨HG2.out.1.trans HJ.out.1, fun j hj => by
                  by_cases e : j < i
                  · exact HKO.out j e
                  · obtain rfl : j = i := by omega
                    rw [HRR.out]
                    exact ⟨HOK.out, way_ne HJ.out.2 (show l.length ≤ k by omega)⟩⟩
                clear HJ
                go_wp2_with fail
                go_roundg (s.size + 2 - (i + 1))
                case rel => exact ⟨i + 1, by go_num, HK2.out, by omega, by omega⟩
                case measure => omega
      · have HKO : Hid (KidOk R s a (s.size + 1)) := by
          have := HI.out.2
          rwa [show i = s.size + 1 by omega] at this
        have HGr := hidd HI.out.1
        clear HI HAA
        go_wp2_with fail
        obtain ⟨hR, ha, HS, hT⟩ := H.out
        clear H
        obtain ⟨w0, hw0⟩ : ∃ w0, (wr.alloc (.cells #[.int .i64 a.kind, .string a.text, .int .i64 a.n, .string a.name, .slice kb kn kc] 25)).alloc (.cells #[.int .i64 20, .string ByteArray.empty, .int .i64 0, .string ByteArray.empty, .slice (some ⟨wr.heap.size, 0, none⟩) 1 1] 25) = w0 := ⟨_, rfl⟩
        have gb : Grew (w.alloc (.cells (a.cells (.slice kb kn kc)) 25)) w0 := hw0 ▸ (HGr.out.alloc _).alloc _
        have g0 : Grew w w0 := ((Grew.refl w).alloc _).trans gb
        have hb0 : w0.heap[w.heap.size]? = some (.cells (a.cells (.slice kb kn kc)) 25 (0, 0)) := by rw [gb.block _ (by simp)]; exact heap_alloc_new w _
        obtain ⟨hq, hb1⟩ := heap_two wr (.cells #[.int .i64 a.kind, .string a.text, .int .i64 a.n, .string a.name, .slice kb kn kc] 25) (.cells #[.int .i64 20, .string ByteArray.empty, .int .i64 0, .string ByteArray.empty, .slice (some ⟨wr.heap.size, 0, none⟩) 1 1] 25)
        rw [hw0] at hq hb1
        have hp0 := ha.kept g0
        obtain ⟨k0, k1, k2, k3, k4⟩ := box_five hq
        have hp1 : PatV w0 (.slice (some ⟨wr.heap.size, 0, none⟩) 1 1) (arbnoP a) := ⟨Or.inr ⟨wr.heap.size, 0, 1, rfl, Nat.one_pos, Nat.le_refl _, by unfold maxLen; omega, fun k hk => by
          obtain rfl : k = 0 := by have : k < 1 := hk; omega
          exact pat_in ha g0 k0 k1 k2 k3 k4⟩, ⟨by show (-9223372036854775808 : Int) ≤ 20; omega, by show (20 : Int) ≤ 9223372036854775807; omega⟩, ⟨by show (-9223372036854775808 : Int) ≤ 0; omega, by show (0 : Int) ≤ 9223372036854775807; omega⟩, Nat.zero_le _, Nat.zero_le _⟩
        have hb1 : w0.heap[wr.heap.size + 1]? = some (.cells ((arbnoP a).cells (.slice (some ⟨wr.heap.size, 0, none⟩) 1 1)) 25 (0, 0)) := hb1
        have HR := hR.kept g0
        have HT := hT.kept g0
        have HALL := HKO.out.alike (at_ := at_)
        subst hw0
        refine region_shapes ([.val (.slice ra R.length rc), .pat (arbnoP a), .pat (someP 1 0 ByteArray.empty), .pat (a), .pat (arbnoP a), .kids ([a, arbnoP a]), .pat (catP [a, arbnoP a]), .kids ([someP 1 0 ByteArray.empty, catP [a, arbnoP a]]), .pat (altP [someP 1 0 ByteArray.empty, catP [a, arbnoP a]]), .val (.string s), .val (.int .i64 at_), .val (.bool true), .val (.bool true)]) (by kernel_rfl)
          ⟨st_move (by kernel_rfl) rfl, st_load hb1 hp1 (by kernel_rfl) rfl rfl, st_lit (Nat.zero_le _) (by kernel_rfl) rfl rfl, st_load hb0 hp0 (by kernel_rfl) rfl rfl, st_load hb1 hp1 (by kernel_rfl) rfl rfl, st_two (by kernel_rfl) rfl rfl rfl, st_cat (by kernel_rfl) rfl rfl, st_two (by kernel_rfl) rfl rfl rfl, st_alt (by kernel_rfl) rfl rfl, st_move (by kernel_rfl) rfl, st_move (by kernel_rfl) rfl, st_alike HT HR HS (HALL) (by kernel_rfl) rfl rfl rfl rfl rfl rfl, st_assign (by kernel_rfl) rfl, trivial⟩ ?_
        intro a1 w1' g1 hdf hsz hsm ht
        have e12 : a1.tmps.getD 8 undef = .bool true := ht 12 _ 8 rfl rfl
        have G := hidd (g0.trans g1)
        clear ht hsm hsz hb0 hb1 hp0 hp1 HR HT g1 g0 gb ha hR hT HS HALL hq k0 k1 k2 k3 k4
        obtain ⟨tm, df⟩ := a1
        dsimp only at e12 hdf
        subst hdf
        rw [Array.getD_eq_getD_getElem?] at e12
        go_wp2_with fail
        refine bodyPost_ret (v := .bool true) (by simp [results, Tryd.results10, e12]) rfl ⟨rfl, G.out⟩
end
end Go.Proofs.YtmkldfjcpmoajaaDoor
