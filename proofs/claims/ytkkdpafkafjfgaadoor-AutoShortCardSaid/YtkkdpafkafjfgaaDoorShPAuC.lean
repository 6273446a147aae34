/- One step of an automaton; how many texts it takes: the program's Count. -/
import Derived.Test.YtkkdpafkafjfgaaDoorShPAuR
import Derived.Test.YtkkdpafkafjfgaaDoorShPGlZ
import Derived.Test.YtkkdpafkafjfgaaDoorShPOwn
namespace Go.Proofs.YtkkdpafkafjfgaaDoor
open Go.RowKit
set_option linter.unusedVariables false
structure Held (w : World) (b : Nat) (A : Aut) (na : Option Addr) (nc : Nat) (ea : Option Addr) (ec : Nat) : Prop where
  box : Box w b A na nc ea ec
  rows : AutAt w A na ea
theorem Held.kept {w w' : World} {b : Nat} {A : Aut} {na : Option Addr} {nc : Nat} {ea : Option Addr} {ec : Nat} (h : Held w b A na nc ea ec) (g : Grew w w') : Held w' b A na nc ea ec := ⟨h.box.kept g, h.rows.kept g⟩
set_option maxRecDepth 100000 in
theorem Step_any (A : Aut) (na ea : Option Addr) (nc ec : Nat) (b s c : Nat) (w : World) (h : Held w b A na nc ea ec) (hr : RightA A) (hs : s < A.next.length) (hc : c < 256) : Calls Tryd.prog 40 #[.pointer (some ⟨b, 0, none⟩), .int .i64 s, .int .u8 c] w fun e w' => e = .returned (.int .i64 (stepA A s c)) ∧ Grew w w' := by
  obtain ⟨n, hn⟩ : ∃ n, A.next.length = n := ⟨_, rfl⟩
  obtain ⟨ra, rc, h1, h2⟩ := h.rows.next
  obtain ⟨nb, no, rfl, hcx⟩ := h1.get hr.n0
  have c0 := hcx s hs
  have hsr := h2 s hs
  have k1 := hr.cl h.rows.c256 hc
  have k2 := hr.to h.rows.c256 hs hc
  obtain ⟨kn, hk⟩ : ∃ kn : Nat, A.cls.getD c 0 = (kn : Int) := ⟨(A.cls.getD c 0).toNat, by omega⟩
  have cc := h.box.cl.at0 c hc
  have cx := h.box.nx
  rw [hk] at cc k2
  rw [Int.toNat_natCast] at k2
  obtain ⟨rb, ro, hra, hrc⟩ := hsr.get (by omega)
  rw [hra] at c0
  have ct := hrc kn k2.1
  obtain ⟨m, hm⟩ : ∃ m : Nat, (A.next.getD s []).getD kn 0 = (m : Int) := ⟨((A.next.getD s []).getD kn 0).toNat, by omega⟩
  rw [hm] at ct
  have HT2 : Hid (stepA A s c = m) := by unfold stepA; rw [hk, Int.toNat_natCast, hm, Int.toNat_natCast]; rfl
  have hkl := k2.1
  rw [hn] at cx hs
  have hcl : (c : Int) < 256 := by omega
  have h9 : n ≤ 8192 := by have := hr.n1; omega
  generalize A.next.getD s [] = r at c0 hkl
  clear hk hm hra hrc hsr h2 h1 hcx k1 k2 hr h hn
  go_enter Tryd.func40, Tryd.ntmps40
  go_wp2_with fail
  have hk0 : w.drew.cell? ⟨b, 256, none⟩ = some (.slice (some ⟨nb, no, none⟩) n nc) ∧ w.drew.cell? ⟨nb, no + s, none⟩ = some (.slice (some ⟨rb, ro, none⟩) r.length (rc s)) ∧ w.drew.cell? ⟨b, c, none⟩ = some (.int .i64 kn) ∧ w.drew.cell? ⟨rb, ro + kn, none⟩ = some (.int .i64 m) := ⟨cx, c0, cc, ct⟩
  clear cx c0 cc ct
  go_region_held3 (fun g => g.cell? ⟨b, 256, none⟩ = some (.slice (some ⟨nb, no, none⟩) n nc) ∧ g.cell? ⟨nb, no + s, none⟩ = some (.slice (some ⟨rb, ro, none⟩) r.length (rc s)) ∧ g.cell? ⟨b, c, none⟩ = some (.int .i64 kn) ∧ g.cell? ⟨rb, ro + kn, none⟩ = some (.int .i64 m)) (with_reducible exact hk0) (fail)
  go_wp2_with fail
  go_ret
  rw [HT2.out]
  exact ⟨rfl, (Grew.refl w).drew⟩
end Go.Proofs.YtkkdpafkafjfgaaDoor

namespace Go.Proofs.YtkkdpafkafjfgaaDoor
open Go.RowKit
set_option linter.unusedVariables false
theorem run_loadVar_off {w : World} {b o n : Nat} {f : Nat → Value} (h : ∀ j, j < n → w.cell? ⟨b, o + j, none⟩ = some (f j)) {ty : TypeId} {d : TypeDesc} (hu : Tryd.prog.underlying ty = some d) (hd : aggAu d = true) (hi : (Tryd.prog.info? ty).map (·.size) = some n) :
    (loadVar ty ⟨b, o, none⟩).run Tryd.prog w = .ok (.agg ((List.range n).map f).toArray) w := by
  have hl := run_loadCells (P := Tryd.prog) w ⟨b, o, none⟩ n f (fun j hj => by rw [addr_addV]; exact h j hj)
  have hagg := run_isAgg hu w
  rw [hd] at hagg
  simp [loadVar, Sem.run_bind, hagg, size_of hi, hl]
theorem run_storeCells_arrA (b : Nat) : ∀ (l : List Value) (i : Nat) (w : World), (∀ j, j < l.length → (w.cell? ⟨b, i + j, none⟩).isSome ∧ w.frozen? ⟨b, i + j, none⟩ = false) → (∀ v ∈ l, v.oneCell' = true) →
    ∃ w', (storeCells ⟨b, 0, none⟩ l i).run Tryd.prog w = .ok () w' ∧ (∀ j, j < l.length → w'.cell? ⟨b, i + j, none⟩ = l[j]?) ∧ (∀ q, w'.frozen? q = w.frozen? q) ∧ (∀ o, o < i → w'.cell? ⟨b, o, none⟩ = w.cell? ⟨b, o, none⟩) ∧ Below b w w'
  | [], i, w, _, _ => ⟨w, rfl, fun j hj => by simp at hj, fun _ => rfl, fun _ _ => rfl, Below.refl _ _⟩
  | v :: l, i, w, h, hv => by
    obtain ⟨h0, h1⟩ := h 0 (by simp)
    rw [Nat.add_zero] at h0 h1
    obtain ⟨u, hu⟩ := Option.isSome_iff_exists.1 h0
    obtain ⟨w', k1, k2, k3, k4, k5⟩ := run_storeCells_arrA b l (i + 1) (w.setCell ⟨b, i, none⟩ v) (fun j hj => by
      obtain ⟨c1, c2⟩ := h (j + 1) (by simpa using hj)
      rw [show i + (j + 1) = i + 1 + j by omega] at c1 c2
      refine ⟨by rw [setCell_cell_other _ _ _ _ (.inr (by simp; omega))]; exact c1, by rw [setCell_frozen]; exact c2⟩) (fun x hx => hv x (by simp [hx]))
    refine ⟨w', ?_, fun j hj => ?_, fun q => by rw [k3, setCell_frozen], fun o ho => by rw [k4 o (by omega), setCell_cell_other _ _ _ _ (.inr (by simp; omega))], Below.trans (Below.setCell' (by simp) v) k5⟩
    · unfold storeCells
      rw [addr_addV, Nat.zero_add, Sem.run_bind, run_store _ _ _ _ _ (hv v (by simp)), hu]
      simp only [h1, Bool.false_eq_true, if_false, Result.andThen]
      exact k1
    · cases j with
      | zero => rw [Nat.add_zero, k4 i (by omega), setCell_cell_same rfl hu]; rfl
      | succ j => rw [show i + (j + 1) = i + 1 + j by omega, k2 j (by simpa using hj)]; rfl
theorem run_storeVar_arrA {w : World} {b n : Nat} {f0 f : Nat → Value} (h : ArrAt w b 0 n f0) {ty : TypeId} (hi : (Tryd.prog.info? ty).map (·.size) = some n) (h1 : ∀ j, j < n → (f j).oneCell' = true) :
    ∃ w', (storeVar ty ⟨b, 0, none⟩ (.agg (((List.range n).map f).toArray))).run Tryd.prog w = .ok () w' ∧ ArrAt w' b 0 n f ∧ Below b w w' := by
  obtain ⟨w', k1, k2, k3, _, k5⟩ := run_storeCells_arrA b ((List.range n).map f) 0 w (fun j hj => by
    have := h j (by simpa using hj)
    rw [this.1]; exact ⟨rfl, this.2⟩) (fun v hv => by
    obtain ⟨j, hj, rfl⟩ := List.mem_map.1 hv
    exact h1 j (List.mem_range.1 hj))
  refine ⟨w', ?_, fun j hj => ⟨?_, by rw [k3]; exact (h j hj).2⟩, k5⟩
  · cases hq : Tryd.prog.info? ty with
    | none => rw [hq] at hi; cases hi
    | some i =>
      have hs : i.size = n := by simpa [hq] using hi
      simp [storeVar, Sem.run_bind, sizeOf, typeInfo, hq, hs, Value.cells, k1]
  · rw [k2 j (by simpa using hj)]; simp [hj]
section
variable {ops : Array Oper} {rest : List Oper} {o : Oper} {a : Act} {w : World} {Q : Exit → Act → World → Prop}
theorem wpList_load_off (hgd : o.guard = none) {x : Operand} (ho : o.op = .load 26 x) {b k : Nat} {f : Nat → Int} (hx : a.eval x = .pointer (some ⟨b, k, none⟩)) (hA : ∀ j, j < 256 → w.cell? ⟨b, k + j, none⟩ = some (.int .i64 (f j)))
    (h : wpList Tryd.prog ops Q rest (a.put o.dst (.agg (rowI f))) w) : wpList Tryd.prog ops Q (o :: rest) a w := by
  refine wpList_plain hgd fun _ hK => ?_
  have hl := run_loadVar_off (f := fun j => .int .i64 (f j)) hA Tryd.underlying26 rfl info_cls
  unfold Oper.wp execOp
  simp only [ho, hx, Instr.loadAt, Instr.sureAddr, Sem.run_bind, Sem.run_pure, Result.andThen_ok, hl]
  exact hK _ _ h
theorem wpList_store_row (hgd : o.guard = none) {x y : Operand} (ho : o.op = .store 26 x y) {b : Nat} {f0 f : Nat → Int} (hx : a.eval x = .pointer (some ⟨b, 0, none⟩)) (hy : a.eval y = .agg (rowI f)) (hA : ArrAt w b 0 256 fun j => .int .i64 (f0 j))
    (h : ∀ w', (ArrAt w' b 0 256 fun j => .int .i64 (f j)) → Below b w w' → wpList Tryd.prog ops Q rest (a.put o.dst undef) w') : wpList Tryd.prog ops Q (o :: rest) a w := by
  refine wpList_plain hgd fun _ hK => ?_
  obtain ⟨w', k1, k2, k3⟩ := run_storeVar_arrA (f := fun j => .int .i64 (f j)) hA info_cls (fun j _ => rfl)
  have k1' : (storeVar 26 ⟨b, 0, none⟩ (.agg (rowI f))).run Tryd.prog w = .ok () w' := k1
  unfold Oper.wp execOp
  simp only [ho, hx, hy, Instr.storeAt, Instr.sureAddr, Sem.run_bind, Sem.run_pure, Result.andThen_ok, k1']
  exact hK _ _ (h w' k2 k3)
end
end Go.Proofs.YtkkdpafkafjfgaaDoor

namespace Go.Proofs.YtkkdpafkafjfgaaDoor
open Go.RowKit
set_option linter.unusedVariables false
theorem not_lt (b : Nat) : 18446744073709551615 - b < 18446744073709551616 := by omega
theorem testBit_not64 (x j : Nat) (hx : x < 18446744073709551616) : (18446744073709551615 - x).testBit j = (decide (j < 64) && !x.testBit j) := by
  rw [show 18446744073709551615 - x = 2 ^ 64 - (x + 1) by omega, Nat.testBit_two_pow_sub_succ hx]
theorem xor_not (x : Nat) (hx : x < 18446744073709551616) : 18446744073709551615 ^^^ x = 18446744073709551615 - x := by
  apply Nat.eq_of_testBit_eq
  intro j
  rw [Nat.testBit_xor, testBit_not64 x j hx, show 18446744073709551615 = 2 ^ 64 - 1 from rfl, Nat.testBit_two_pow_sub_one]
  by_cases hj : j < 64
  · simp [hj]
  · have := Nat.testBit_lt_two_pow (x := x) (i := j) (Nat.lt_of_lt_of_le hx (Nat.pow_le_pow_right (n := 2) (i := 64) (by decide) (by omega)))
    simp [hj, this]
theorem word_not (f : Nat → Bool) (b : Nat) : 18446744073709551615 - word f b 64 = word (fun i => !f i) b 64 :=
  word_eq (not_lt _) (fun j hj => by rw [testBit_not64 _ _ (word_lt64 f b), testBit_word]; simp [hj])
theorem words_eq {A B : Nat → Nat} (h : ∀ j, A j = B j) : setW A = setW B := by rw [funext h]
theorem not_fn (a b : Nat) (w : World) (ha : a < 18446744073709551616) (hb : b < 18446744073709551616) :
    Calls Tryd.prog 99 #[.int .u64 a, .int .u64 b] w fun e w' => e = .returned (.int .u64 ((18446744073709551615 - a : Nat) : Int)) ∧ w' = w := by
  have h := show bits .xor .u64 IntKind.u64.max (a : Int) = _ from bits_xor_u64_nat 18446744073709551615 a (by omega) ha
  rw [xor_not a ha] at h
  go_enter Tryd.func99, Tryd.ntmps99
  go_wp2_with fail
  go_ret
  all_goals exact ⟨rfl, rfl⟩
set_option maxHeartbeats 1000000 in
theorem not_each (A B : Nat → Nat) (w : World) (hA : W64 A) (hB : W64 B) :
    Calls Tryd.prog 98 #[setW A, setW B, .func (.func 99) #[] #[]] w fun e w' => e = .returned (setW (fun j => 18446744073709551615 - A j)) ∧ Grew w w' := by
  have HZ : Hid (ArrAt (((w.alloc (.cells (wordsB A) 77)).alloc (.cells (wordsB B) 77)).alloc (.cells (wordsB fun _ => 0) 77)) w.heap.size 0 4 (fun j => .int .u64 (A j))) := ((words_at w A).alloc _).alloc _
  have HY : Hid (ArrAt (((w.alloc (.cells (wordsB A) 77)).alloc (.cells (wordsB B) 77)).alloc (.cells (wordsB fun _ => 0) 77)) (w.heap.size + 1) 0 4 (fun j => .int .u64 (B j))) := by
    have := words_at (w.alloc (.cells (wordsB A) 77)) B
    rw [World.size_alloc] at this
    exact this.alloc _
  have HX : Hid (ArrAt (((w.alloc (.cells (wordsB A) 77)).alloc (.cells (wordsB B) 77)).alloc (.cells (wordsB fun _ => 0) 77)) (w.heap.size + 1 + 1) 0 4 (fun j => .int .u64 ((0 : Nat) : Int))) := by
    have := words_at ((w.alloc (.cells (wordsB A) 77)).alloc (.cells (wordsB B) 77)) (fun _ => 0)
    rw [World.size_alloc, World.size_alloc] at this
    exact this
  have HW : Hid (Grew w (((w.alloc (.cells (wordsB A) 77)).alloc (.cells (wordsB B) 77)).alloc (.cells (wordsB fun _ => 0) 77))) := (((Grew.refl w).alloc _).alloc _).alloc _
  unfold wordsB at HZ HY HX HW
  unfold setW
  have HA := hidd hA
  have HB := hidd hB
  clear hA hB
  go_enter Tryd.func98, Tryd.ntmps98
  go_wp2_with fail
  go_loopw [7, 8] (fun u7 u8 wr => ∃ (i : Nat), u8 = .int .i64 i ∧ i ≤ 4 ∧ Hid (ArrAt wr w.heap.size 0 4 (fun j => .int .u64 (A j))) ∧ Hid (ArrAt wr (w.heap.size + 1) 0 4 (fun j => .int .u64 (B j))) ∧ Hid (ArrAt wr (w.heap.size + 1 + 1) 0 4 (fun j => .int .u64 ((if j < i then 18446744073709551615 - A j else 0 : Nat) : Int))) ∧ Hid (Grew w wr)) (fun _ u8 _ => 4 - (intOf u8).toNat)
  case atStart => exact ⟨0, rfl, by omega, HZ, HY, (by rw [Hid]; exact HX.out.congr fun j hj => by simp), HW⟩
  case round =>
    obtain ⟨i, rfl, hi, KA, KB, KS, KW⟩ := hrel
    by_cases h : i < 4
    · have ca := KA.out.at0 i h
      have cb := KB.out.at0 i h
      have cs := KS.out.at0 i h
      have cf := KS.out.free0 i h
      have la := HA.out i
      have lb := HB.out i
      go_wp2_with fail
      go_region_with (go_at_call 99; refine (not_fn _ _ _ la lb).mono ?_; rintro e w1 ⟨rfl, rfl⟩)
      all_goals (
        have KA' := hidd ((KA.out.other ⟨w.heap.size + 1 + 1, i, none⟩ (by simp; omega) (.int .u64 ((18446744073709551615 - A i : Nat) : Int))).drew)
        have KB' := hidd ((KB.out.other ⟨w.heap.size + 1 + 1, i, none⟩ (by simp) (.int .u64 ((18446744073709551615 - A i : Nat) : Int))).drew)
        have KS' := hidd ((KS.out.set0 i h (.int .u64 ((18446744073709551615 - A i : Nat) : Int))).drew)
        have KW' := hidd ((KW.out.setCell (p := ⟨w.heap.size + 1 + 1, i, none⟩) (by simp; omega) (.int .u64 ((18446744073709551615 - A i : Nat) : Int))).drew)
        go_wp2_with fail
        refine ⟨⟨i + 1, (by simp), (by omega), KA', KB', (by
          rw [Hid]; exact KS'.out.congr fun j hj => by
            by_cases e : j = i
            · subst e; simp
            · have : (j < i + 1) = (j < i) := by apply propext; omega
              simp [e, this]), KW'⟩, (by simp [intOf]; omega)⟩)
    · obtain rfl : i = 4 := by omega
      have c0 := KS.out.at0 0 (by omega)
      have c1 := KS.out.at0 1 (by omega)
      have c2 := KS.out.at0 2 (by omega)
      have c3 := KS.out.at0 3 (by omega)
      simp only [show (0:Nat) < 4 from by omega, show (1:Nat) < 4 from by omega, show (2:Nat) < 4 from by omega, show (3:Nat) < 4 from by omega, if_true] at c0 c1 c2 c3
      have f0 := KS.out.free0 0 (by omega)
      have f1 := KS.out.free0 1 (by omega)
      have f2 := KS.out.free0 2 (by omega)
      have f3 := KS.out.free0 3 (by omega)
      go_wp2_with fail
      (try simp only [Exit.inBlock, Exit.then])
      refine bodyPost_arr (n := 4) rfl rfl ((((KS.out.set0 0 (by omega) _).set0 1 (by omega) _).set0 2 (by omega) _).set0 3 (by omega) _) Tryd.underlying77 rfl info_set rfl ⟨?_, ?_⟩
      · refine congrArg (fun x => Ending.returned (.agg x)) ((rowB_congr (g := fun j => .int .u64 ((18446744073709551615 - A j : Nat) : Int)) fun j hj => ?_).trans rfl)
        match j, hj with
        | 0, _ => rfl
        | 1, _ => rfl
        | 2, _ => rfl
        | 3, _ => rfl
      · exact (((KW.out.setCell (by simp <;> omega) _).setCell (by simp <;> omega) _).setCell (by simp <;> omega) _).setCell (by simp <;> omega) _
set_option maxHeartbeats 1000000 in
theorem Not_w (A : Nat → Nat) (w : World) (hA : W64 A) :
    Calls Tryd.prog 57 #[setW A] w fun e w' => e = .returned (setW (fun j => 18446744073709551615 - A j)) ∧ Grew w w' := by
  have HX : Hid (ArrAt ((w.alloc (.cells (wordsB A) 77)).alloc (.cells (wordsB fun _ => 0) 77)) (w.heap.size + 1) 0 4 (fun j => .int .u64 ((0 : Nat) : Int))) := by
    have := words_at (w.alloc (.cells (wordsB A) 77)) (fun _ => 0)
    rw [World.size_alloc] at this
    exact this
  have HW : Hid (Grew w ((w.alloc (.cells (wordsB A) 77)).alloc (.cells (wordsB fun _ => 0) 77))) := (((Grew.refl w).alloc _).alloc _)
  have HE := fun w0 : World => not_each A A w0
  unfold wordsB at HX HW
  unfold setW at HE ⊢
  have HA := hidd hA
  clear hA
  go_enter Tryd.func57, Tryd.ntmps57
  go_wp2_with fail
  refine (HE _ HA.out HA.out).mono ?_; rintro e w1 ⟨rfl, G⟩
  have KS := hidd (HX.out.kept G)
  have G1 := hidd (HW.out.trans G)
  clear G HE HX HW
  have c0 := KS.out.at0 0 (by omega)
  have c1 := KS.out.at0 1 (by omega)
  have c2 := KS.out.at0 2 (by omega)
  have c3 := KS.out.at0 3 (by omega)
  have f0 := KS.out.free0 0 (by omega)
  have f1 := KS.out.free0 1 (by omega)
  have f2 := KS.out.free0 2 (by omega)
  have f3 := KS.out.free0 3 (by omega)
  go_wp2_with fail
  (try simp only [Exit.inBlock, Exit.then])
  refine bodyPost_arr (n := 4) rfl rfl ((((KS.out.set0 0 (by omega) _).set0 1 (by omega) _).set0 2 (by omega) _).set0 3 (by omega) _) Tryd.underlying77 rfl info_set rfl ⟨?_, ?_⟩
  · refine congrArg (fun x => Ending.returned (.agg x)) ((rowB_congr (g := fun j => .int .u64 ((18446744073709551615 - A j : Nat) : Int)) fun j hj => ?_).trans rfl)
    match j, hj with
    | 0, _ => rfl
    | 1, _ => rfl
    | 2, _ => rfl
    | 3, _ => rfl
  · exact (((G1.out.setCell (by simp <;> omega) _).setCell (by simp <;> omega) _).setCell (by simp <;> omega) _).setCell (by simp <;> omega) _
theorem Not_any (f : Nat → Bool) (w : World) : Calls Tryd.prog 57 #[setV f] w fun e w' => e = .returned (setV fun i => !f i) ∧ Grew w w' := by
  have := Not_w (fun j => word f (64 * j) 64) w (fun j => word_lt64 f _)
  rw [words_eq (fun j => word_not f (64 * j))] at this
  exact this
end Go.Proofs.YtkkdpafkafjfgaaDoor
