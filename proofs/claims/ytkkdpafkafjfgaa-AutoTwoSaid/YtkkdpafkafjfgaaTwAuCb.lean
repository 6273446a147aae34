/- Both, Either, Not: the program's. -/
import Derived.Test.YtkkdpafkafjfgaaTwAuCa
namespace Go.Proofs.Ytkkdpafkafjfgaa
open Go.RowKit RR
set_option linter.unusedVariables false
set_option maxRecDepth 100000
set_option linter.unusedSimpArgs false
def zeroA : Aut := ⟨List.replicate 256 0, [], []⟩
theorem zeroA_cls {j : Nat} (h : j < 256) : zeroA.cls.getD j 0 = 0 := by
  show (List.replicate 256 (0 : Int)).getD j 0 = 0
  rw [List.getD_eq_getElem?_getD, List.getElem?_replicate, if_pos h]; rfl
theorem zeroA_B : autB zeroA none 0 none 0 = zAut := by
  apply Array.ext_getElem?
  intro j
  by_cases h1 : j < 256
  · rw [autB_cls _ _ _ _ _ h1, zeroA_cls h1]
    unfold zAut; rw [Array.getElem?_append_left (by rw [rowI_size]; exact h1), rowI_get _ h1]
  · unfold zAut
    rw [Array.getElem?_append_right (by rw [rowI_size]; omega), rowI_size]
    by_cases h2 : j = 256
    · subst h2; rw [autB_next]; rfl
    · by_cases h3 : j = 257
      · subst h3; rw [autB_ends]; rfl
      · rw [Array.getElem?_eq_none (by rw [autB_size]; omega), Array.getElem?_eq_none (by simp; omega)]
theorem zeroA_at (w : World) : AutAt w zeroA none none :=
  ⟨List.length_replicate, fun j hj => by rw [zeroA_cls hj]; exact ⟨by decide, by decide⟩, ⟨fun _ => none, fun _ => 0, Or.inl rfl, fun i hi => absurd hi (Nat.not_lt_zero _)⟩, Or.inl rfl, Nat.zero_le _, Nat.zero_le _, fun i hi => absurd hi (Nat.not_lt_zero _), fun i hi => absurd hi (Nat.not_lt_zero _)⟩
def TwoEnd (w : World) (err : Int) (L : List UInt8 → Bool) : Ending → World → Prop := fun e w' =>
  ∃ B na nc ea ec, e = .returned (.tuple #[.agg (autB B na nc ea ec), .int .i64 err]) ∧ AutNew w.heap.size w' B na ea ∧ Grew w w' ∧ (err ≠ 0 → B = zeroA) ∧ (err = 0 → ∃ S : RA, S.n ≤ 8192 ∧ (∀ l, S.tak 0 l = L l) ∧ LeastOf S B)
theorem autB_one (A : Aut) (na : Option Addr) (nc : Nat) (ea : Option Addr) (ec : Nat) : (autB A na nc ea ec).all (·.oneCell') = true := by
  rw [Array.all_eq_true_iff_forall_mem]
  intro v hv
  unfold autB clsB at hv
  rw [Array.mem_append] at hv
  rcases hv with hv | hv
  · simp at hv
    obtain ⟨_, _, rfl⟩ := hv; rfl
  · simp at hv
    rcases hv with rfl | rfl <;> rfl
section
variable {ops : Array Oper} {rest : List Oper} {o : Oper} {a : Act} {w : World} {Q : Exit → Act → World → Prop}
theorem wpList_store_aut (hgd : o.guard = none) {x y : Operand} (ho : o.op = .store 26 x y) {b : Nat} {old av : Array Value} (hx : a.eval x = .pointer (some ⟨b, 0, none⟩)) (hy : a.eval y = .agg av) (hb : w.heap[b]? = some (.cells old 26 (0, 0))) (h1 : old.size = 258) (h2 : av.size = 258) (h3 : av.all (·.oneCell') = true)
    (h : wpList Try.prog ops Q rest (a.put o.dst undef) (w.setRow b av)) : wpList Try.prog ops Q (o :: rest) a w := by
  refine wpList_plain hgd fun _ hK => ?_
  unfold Oper.wp execOp
  simp only [ho, hx, hy, Instr.storeAt, Instr.sureAddr, Sem.run_bind, Sem.run_pure, Result.andThen_ok, run_storeVar_row w b _ _ _ _ hb (by rw [h2]; exact info_aut) (by rw [h1, h2]) h3]
  exact hK _ _ h
theorem wpList_build_aut (hgd : o.guard = none) (ho : o.op = .build 26 #[]) (h : wpList Try.prog ops Q rest (a.put o.dst (.agg zAut)) w) : wpList Try.prog ops Q (o :: rest) a w := by
  refine wpList_plain hgd fun _ hK => ?_
  have hb : Try.prog.built 26 [] = some zAut := by kernel_rfl
  unfold Oper.wp execOp
  simp only [ho, List.map_toArray, List.map_nil, Sem.run_bind, run_build w _ _ _ hb, Result.andThen_ok]
  exact hK _ _ h
end
theorem results_aut2 {fn : Func} {p q : Tmp} (h : fn.results = #[.cell p 26, .tmp q]) {w : World} {tmps : Array Value} {rb : Nat} {av : Array Value} {v : Value} (hp : tmps.getD p undef = .pointer (some ⟨rb, 0, none⟩)) (hq : tmps.getD q undef = v) (hb : w.heap[rb]? = some (.cells av 26 (0, 0))) (hs : av.size = 258) :
    (results fn tmps).run Try.prog w = .ok (.tuple #[.agg av, v]) w := by
  rw [results_cell_tmp h, hp, hq]
  have hl := run_loadVar_row (P := Try.prog) w rb 26 26 av (0, 0) _ hb Try.underlying26 rfl (by rw [hs]; exact info_aut)
  simp [asAddr, hl]
theorem zAut_size : zAut.size = 258 := aCells_size _
theorem zAut_one : zAut.all (·.oneCell') = true := by rw [← zeroA_B]; exact autB_one _ _ _ _ _
theorem setRow_grew {w0 w : World} {g : Nat} (h : Grew w0 w) (hg : w0.heap.size ≤ g) (cs : Array Value) : Grew w0 (w.setRow g cs) :=
  h.below (B := g) ⟨rfl, rfl, rfl, by simp [World.setRow], fun k hk => setRow_other _ _ _ _ (by omega)⟩ hg
theorem AutNew.set {B0 B : Nat} {w' : World} {A : Aut} {na ea : Option Addr} (h : AutNew B w' A na ea) (hb : B0 ≤ B) {rs : Nat} (hr : rs < B) (cs : Array Value) : AutNew B0 (w'.setRow rs cs) A na ea := fun w'' hs hk =>
  h w'' (by simpa [World.setRow] using hs) fun k hk1 hk2 => (hk k (by omega) (by simpa [World.setRow] using hk2)).trans (setRow_other _ _ _ _ (by omega))
theorem stepA_lt {A : Aut} (hr : RightA A) (hc : A.cls.length = 256) {s c : Nat} (hs : s < A.next.length) (h : c < 256) : stepA A s c < A.next.length := (hr.ok hc).nx s c hs h
set_option maxRecDepth 100000 in
theorem ANot_any (A : Aut) (na ea : Option Addr) (nc ec : Nat) (w : World) (h : AutAt w A na ea) : Calls Try.prog 17 #[.agg (autB A na nc ea ec)] w (TwoEnd w (wrongA A) fun l => !(raA A).tak 0 l) := by
  have hB := box_new w A na nc ea ec 26
  have hb0 := heap_alloc_new w (.cells (autB A na nc ea ec) 26)
  have hG0 := (Grew.refl w).alloc (.cells (autB A na nc ea ec) 26)
  have hG1 := (Grew.refl (w.alloc (.cells (autB A na nc ea ec) 26))).alloc (.cells zAut 26)
  have hr0 := heap_alloc2_new w (.cells (autB A na nc ea ec) 26) (.cells zAut 26)
  have HH := hidd (heap_kept hG1 hb0)
  have HSz := hidd (autB_size A na nc ea ec)
  have HG := hidd (hG0.trans hG1)
  have HL := hidd (show Held ((w.alloc (.cells (autB A na nc ea ec) 26)).alloc (.cells zAut 26)) w.heap.size A na nc ea ec from ⟨hB.kept hG1, h.kept (hG0.trans hG1)⟩)
  have HR0 := hidd hr0
  have HWr := hidd (AWrong_any A na ea nc ec _ (h.kept (hG0.trans hG1)))
  have hz := zero_aut
  obtain ⟨W, hW⟩ : ∃ W, (w.alloc (.cells (autB A na nc ea ec) 26)).alloc (.cells zAut 26) = W := ⟨_, rfl⟩
  rw [hW] at HH HG HL HR0 HWr
  have HC := hidd h.c256
  obtain ⟨err, herr⟩ : ∃ err, wrongA A = err := ⟨_, rfl⟩
  have HE := hidd herr
  rw [herr] at HWr ⊢
  generalize hav : autB A na nc ea ec = av at *
  clear hB hG0 hG1 hb0 hr0 h herr
  go_enter Try.func17, Try.ntmps17
  go_wp2_with (refine wpList_load_aut rfl rfl rfl HH.out HSz.out ?_)
  refine HWr.out.mono ?_; rintro e w1 ⟨rfl, g1⟩
  obtain ⟨rs, hrs⟩ : ∃ rs, w.heap.size + 1 = rs := ⟨_, rfl⟩
  rw [hrs] at HR0 ⊢
  have HG1 := hidd (HG.out.trans g1)
  have HR1 := hidd (heap_kept g1 HR0.out)
  have HL1 := hidd (HL.out.kept g1)
  have HRs := hidd (show w.heap.size ≤ rs by omega)
  clear HWr HH HG HR0 HL g1 hW hrs
  by_cases h0 : err = 0
  · subst h0
    have HR := hidd (wrongA_zero.1 HE.out)
    have hp := HR.out.n0
    have h9 := HR.out.n1
    have HEx := hidd (Explore_int 0 30 31 #[.pointer (some ⟨w.heap.size, 0, none⟩)] #[.pointer (some ⟨w.heap.size, 0, none⟩)] (stepA A) (fun s => !A.ends.getD s false) (fun s => s < A.next.length) A.next.length w1 (by kernel_rfl) (by kernel_rfl)
      (fun w2 x c g hx hc => NotSt_any A na ea nc ec _ x c w2 (HL1.out.kept g) HR.out hx hc) (fun w2 x g hx => NotEn_any A na ea nc ec _ x w2 (HL1.out.kept g) HR.out hx) hp (fun x c hx hc => stepA_lt HR.out HC.out hx hc) (fun ks h1 h2 => nodup_lt _ h1 h2) h9 (fun x hx => by omega))
    clear hp h9
    go_wp2_with fail
    refine HEx.out.mono ?_; rintro e w2 ⟨b, ks, rows, rfl, hE, hl, hR, g2⟩
    have HEx2 := hidd hE
    have HLe := hidd (Least_any (expA (fun s => !A.ends.getD s false) 0 ks rows) b w2 (hE.ok _) (Nat.le_trans hl HR.out.n1) hR)
    have HG2 := hidd (HG1.out.trans g2)
    have HR2 := hidd (heap_kept g2 HR1.out)
    have HLn : Hid ((expA (fun s => !A.ends.getD s false) 0 ks rows).n ≤ 8192) := Nat.le_trans hl HR.out.n1
    clear hE hl hR g2 HEx HG1 HR1
    go_wp2_with fail
    refine HLe.out.mono ?_; rintro e w3 ⟨B, nb, nbc, eb, ebc, rfl, hL3, hA3, g3⟩
    have HG3 := hidd (HG2.out.trans g3)
    have HR3 := hidd (heap_kept g3 HR2.out)
    have HA3 := hidd (And.intro hL3 hA3)
    have HRl := hidd (lt_of_block HR2.out)
    clear hL3 hA3 g3 HLe HG2 HR2
    have HB3 := hidd (And.intro (autB_size B nb nbc eb ebc) (autB_one B nb nbc eb ebc))
    obtain ⟨bv, hbv⟩ : ∃ bv, autB B nb nbc eb ebc = bv := ⟨_, rfl⟩
    have HBv := hidd hbv
    rw [hbv] at HB3
    simp only [hbv]
    clear hbv
    go_wp2_with (refine wpList_store_aut rfl rfl rfl rfl HR3.out zAut_size HB3.out.1 HB3.out.2 ?_)
    refine bodyPost_ret (results_aut2 (p := 2) (q := 3) rfl rfl rfl (setRow_heap w3 rs _ bv _ _ HR3.out) HB3.out.1) rfl ⟨B, nb, nbc, eb, ebc, by rw [HBv.out]; rfl, ?_, setRow_grew HG3.out HRs.out _, fun h => absurd rfl h, fun _ => ⟨_, HLn.out, fun l => ?_, HA3.out.1⟩⟩
    · have hrl := HRl.out
      have hrs := HRs.out
      exact HA3.out.2.set (by omega) hrl _
    · rw [HEx2.out.lang, show stepA A = (raA A).nx from rfl, goS_one]; rfl
  · have k1 : (err != 0) = true := by simpa using h0
    have HE0 := hidd h0
    clear h0
    go_wp2_with (first | (refine wpList_build_aut rfl rfl ?_) | (refine wpList_store_aut rfl rfl rfl rfl HR1.out zAut_size zAut_size zAut_one ?_))
    exact bodyPost_ret (results_aut2 (p := 2) (q := 3) rfl rfl rfl (setRow_heap w1 rs _ zAut _ _ HR1.out) zAut_size) rfl ⟨zeroA, none, 0, none, 0, by rw [zeroA_B]; rfl, fun w'' _ _ => zeroA_at w'', setRow_grew HG1.out HRs.out _, fun _ => rfl, fun h => absurd h HE0.out⟩
end Go.Proofs.Ytkkdpafkafjfgaa
