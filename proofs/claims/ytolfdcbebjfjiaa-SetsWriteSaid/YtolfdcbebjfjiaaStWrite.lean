/- SetsWrite: the walk. Condition: the text's own bound. -/
import Derived.Test.YtolfdcbebjfjiaaStShape
import Derived.Test.YtolfdcbebjfjiaaStRReadE
import Derived.Test.YtolfdcbebjfjiaaStRReadN
namespace Go.Proofs.Ytolfdcbebjfjiaa
open Go.RowKit
set_option linter.unusedVariables false
theorem RRead_any (t : ByteArray) (w : World) (ht : t.size ≤ maxLen) : Calls Try.prog 7 #[.string t] w fun v w' => v = .returned (.tuple #[setV (readR t).2.2, faultV (readR t).1 (readR t).2.1]) ∧ Grew w w' := by
  by_cases h : 65536 < t.size
  · refine (rread_much t w ht h).mono fun v w' ⟨h1, h2⟩ => ⟨?_, h2⟩
    rw [h1]
    unfold readR
    rw [if_pos h, setV_empty]
  · by_cases h0 : t.size = 0
    · exact rread_empty t w (by omega) h0
    · by_cases h9 : byteAt t 0 = 94
      · exact rread_not t w (by omega) (by omega) h9
      · exact rread_plain t w (by omega) (by omega) h9
theorem fault_guard : Try.prog.eqGuardType Try.prog.depth 28 = false := by kernel_rfl
theorem fault_held : Try.prog.stoodInHeld 28 = false := by kernel_rfl
theorem go_print : isGo Try.prog 4 = true := by kernel_rfl
theorem go_rprint : isGo Try.prog 5 = true := by kernel_rfl
theorem str_neq (s : ByteArray) {x y : Operand} (a : Act) (w : World) : (do eqGuard .neq 9 x y (.string s) (.string s); binOp .neq 9 (.string s) (.string s) : Sem Value).run Try.prog w = .ok (.bool false) w := by
  simp [eqGuard, binOp, Op.stringOp]
theorem eq_fault (a b : Int) (w : World) : (Op.equalIn 10000 28 (.agg #[.int .i64 a, .int .i64 b]) (.agg #[.int .i64 a, .int .i64 b])).run Try.prog w = .ok true w := by
  have hi : (Try.prog.info? 26).map (·.size) = some 1 := by kernel_rfl
  have hj : (Try.prog.info? 3).map (·.size) = some 1 := by kernel_rfl
  cases hq : Try.prog.info? 26 with
  | none => rw [hq] at hi; cases hi
  | some i =>
    have hs : i.size = 1 := by simpa [hq] using hi
    cases hr : Try.prog.info? 3 with
    | none => rw [hr] at hj; cases hj
    | some i2 =>
      have hs2 : i2.size = 1 := by simpa [hr] using hj
      have h1 : (isAgg 26).run Try.prog w = .ok false w := by
        unfold isAgg
        rw [Sem.run_bind, run_underlying Try.underlying26 w]; rfl
      have he : ∀ x : Int, (Op.equalIn 9999 26 (.int .i64 x) (.int .i64 x)).run Try.prog w = .ok true w := fun x => by
        rw [show (9999 : Nat) = 9998 + 1 from rfl, run_equalIn_int w 9998 _ _ _ _ _ Try.underlying26]; simp
      have he2 : ∀ x : Int, (Op.equalIn 9999 3 (.int .i64 x) (.int .i64 x)).run Try.prog w = .ok true w := fun x => by
        rw [show (9999 : Nat) = 9998 + 1 from rfl, run_equalIn_int w 9998 _ _ _ _ _ Try.underlying3]; simp
      have hf : Try.prog.underlying 28 = some (.struct (Try.prog.fieldsOf 28)) := by kernel_rfl
      rw [show (10000 : Nat) = 9999 + 1 from rfl, run_equalIn_struct w 9999 _ _ _ hf fault_held]
      have hfs : Try.prog.fieldsOf 28 = (match Try.prog.underlying 28 with | some (.struct fs) => fs | _ => #[]) := by rw [hf]
      rw [hfs, Try.underlying28]
      simp [Op.eqFields, Sem.run_bind, part, h1, he, he2]
set_option maxRecDepth 100000 in
set_option maxHeartbeats 4000000 in
theorem SetsWrite_walk (f : Nat → Bool) (t : ByteArray) (w : World) (ht : t.size ≤ maxLen) : Calls Try.prog 3 #[setV f, .string t] w fun e w' => e = .returned (.bool true) ∧ Grew w w' := by
  have HB : Hid (SetAt (w.alloc (.cells #[.int .u64 (word f 0 64 : Nat), .int .u64 (word f 64 64 : Nat), .int .u64 (word f 128 64 : Nat), .int .u64 (word f 192 64 : Nat)] 24)) w.heap.size f) := SetAt.new w f
  have HG : Hid (Grew w (w.alloc (.cells #[.int .u64 (word f 0 64 : Nat), .int .u64 (word f 64 64 : Nat), .int .u64 (word f 128 64 : Nat), .int .u64 (word f 192 64 : Nat)] 24))) := (Grew.refl w).alloc _
  have HR1 := fun w0 : World => hidd (Read_any t w0 ht)
  have HR2 := fun w0 : World => hidd (RRead_any t w0 ht)
  generalize (readR t).2.2 = g at HR1 HR2
  generalize (readR t).1 = e at HR1 HR2
  generalize (readR t).2.1 = p at HR1 HR2
  unfold setV faultV at HR1 HR2
  clear ht
  unfold setV
  go_enter Try.func3, Try.ntmps3
  go_wp2_with fail
  have B2 := HB.out
  refine region_frame [9, 10, 11, 12, 13] ([.val (setV f), .val (.string (txt (pr f 0))), .val (setV f), .val (.string (txt (pr f 0))), .val (.bool false)]) (by kernel_rfl) (by kernel_rfl)
    ⟨st_load (g := f) B2 (by kernel_rfl) rfl rfl, st_call1 go_print (fun w1 g => Print_any f w1) (by kernel_rfl) rfl rfl, st_load (g := f) B2 (by kernel_rfl) rfl rfl, st_call1 go_rprint (fun w1 g => rprint_any f w1) (by kernel_rfl) rfl rfl, st_num (str_neq _) (by kernel_rfl) rfl rfl rfl, trivial⟩ ?_
  intro xs w5 g5 hx
  have el : xs 13 = .bool false := hx 4 _ 13 rfl rfl
  have HG5 := hidd (HG.out.trans g5)
  clear hx g5 B2 HB HG
  simp only [List.foldl_cons, List.foldl_nil, List.setIfInBounds_toArray, List.set_cons_succ, List.set_cons_zero, el]
  clear el
  have hq := fun w0 => eq_setV g w0
  have hq2 := fun w0 => eq_fault (e : Int) (p : Int) w0
  have hg1 := set_guard
  have hg2 := fault_guard
  have hg3 := fault_held
  go_wp2_with fail
  refine (HR1 _).out.mono ?_; rintro e' w6 ⟨rfl, G6⟩
  have S6 := hidd ((SetAt.new w6 g).kept ((Grew.refl _).alloc (.cells #[.int .i64 (e : Nat), .int .i64 (p : Nat)] 28)))
  have F6 : Hid (ArrAt ((w6.alloc (.cells #[.int .u64 (word g 0 64 : Nat), .int .u64 (word g 64 64 : Nat), .int .u64 (word g 128 64 : Nat), .int .u64 (word g 192 64 : Nat)] 24)).alloc (.cells #[.int .i64 (e : Nat), .int .i64 (p : Nat)] 28)) (w6.heap.size + 1) 0 2 (twoF (.int .i64 (e : Nat)) (.int .i64 (p : Nat)))) := by
    have := two_at (w6.alloc (.cells #[.int .u64 (word g 0 64 : Nat), .int .u64 (word g 64 64 : Nat), .int .u64 (word g 128 64 : Nat), .int .u64 (word g 192 64 : Nat)] 24)) (.int .i64 (e : Nat)) (.int .i64 (p : Nat)) 28
    rw [World.size_alloc] at this
    exact this
  have HG6 := hidd (((HG5.out.trans G6).alloc (.cells #[.int .u64 (word g 0 64 : Nat), .int .u64 (word g 64 64 : Nat), .int .u64 (word g 128 64 : Nat), .int .u64 (word g 192 64 : Nat)] 24)).alloc (.cells #[.int .i64 (e : Nat), .int .i64 (p : Nat)] 28))
  clear G6 HG5
  go_wp2_with fail
  refine (HR2 _).out.mono ?_; rintro e' w7 ⟨rfl, G7⟩
  obtain ⟨c0, c1, c2, c3⟩ := (S6.out.kept G7).four
  have d0 : w7.cell? ⟨w6.heap.size + 1, 0, none⟩ = some (.int .i64 (e : Nat)) := (F6.out.kept G7).at0 0 (by omega)
  have d1 : w7.cell? ⟨w6.heap.size + 1, 1, none⟩ = some (.int .i64 (p : Nat)) := (F6.out.kept G7).at0 1 (by omega)
  have hl : w6.heap.size + 1 < w7.heap.size := (F6.out.kept G7).lt (by omega)
  have hl2 : w6.heap.size < w7.heap.size := by omega
  have HG7 := hidd (HG6.out.trans G7)
  clear G7 HG6 S6 F6
  go_wp2_with fail
  go_ret
  exact ⟨rfl, (HG7.out.alloc _).alloc _⟩
end Go.Proofs.Ytolfdcbebjfjiaa
