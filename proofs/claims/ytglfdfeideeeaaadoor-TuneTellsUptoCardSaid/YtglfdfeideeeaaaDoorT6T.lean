/- TuneTells: the walk. Conditions: what the argument is read as, at most two million nodes; the library's table. -/
import Derived.Test.YtglfdfeideeeaaaDoorT6O
import Derived.Test.YtglfdfeideeeaaaDoorPT6Q
import Derived.Test.YtglfdfeideeeaaaDoorPT6V
import Derived.Test.YtglfdfeideeeaaaDoorTnLen
import Derived.Test.YtglfdfeideeeaaaDoorPTnBnd
import Derived.Laws.StructEq
namespace Go.Proofs.YtglfdfeideeeaaaDoor
open Go.RowKit
set_option linter.unusedVariables false
theorem set_guard6 : Tryd.prog.eqGuardType Tryd.prog.depth 33 = false := by kernel_rfl
theorem eq_set6 (a b c d : Int) (w : World) : (Op.equalIn 10000 33 (.agg #[.int .u64 a, .int .u64 b, .int .u64 c, .int .u64 d]) (.agg #[.int .u64 a, .int .u64 b, .int .u64 c, .int .u64 d])).run Tryd.prog w = .ok true w := by
  have hi : (Tryd.prog.info? 31).map (·.size) = some 1 := by kernel_rfl
  cases hq : Tryd.prog.info? 31 with
  | none => rw [hq] at hi; cases hi
  | some i =>
    have hs : i.size = 1 := by simpa [hq] using hi
    have hagg : (isAgg 31).run Tryd.prog w = .ok false w := by
      unfold isAgg
      rw [Sem.run_bind, run_underlying Tryd.underlying31 w]; rfl
    rw [show (10000 : Nat) = 9999 + 1 from rfl, Op.equalIn]
    have he : ∀ x : Int, (Op.equalIn 9999 31 (.int .u64 x) (.int .u64 x)).run Tryd.prog w = .ok true w := fun x => by
      rw [show (9999 : Nat) = 9998 + 1 from rfl, run_equalIn_int w 9998 _ _ _ _ _ Tryd.underlying31]; simp
    simp [Sem.run_bind, run_underlying Tryd.underlying33, sizeOf, typeInfo, hq, hs, part]
    rw [show List.range' 0 4 = [0, 1, 2, 3] from rfl]
    simp [Sem.run_bind, hagg, he]
theorem form_of6 {w : World} {v : Value} {l : List Pat} (h : KidsAt w v l) : ∃ b n c, v = .slice b n c := by
  rcases h with ⟨a, c, rfl, _⟩ | ⟨b, o, c, rfl, _⟩ <;> exact ⟨_, _, _, rfl⟩
def SimpOut (X : Pat) (er : Int) (w : World) (e : Ending) (w' : World) : Prop := ∃ a n c, e = .returned (.tuple #[.agg #[.int .i64 X.kind, .string X.text, .int .i64 X.n, .string X.name, .slice a n c], .int .i64 er]) ∧ Grew w w' ∧ PatV w' (.slice a n c) X
theorem simp_out {p : Pat} (w : World) {e : Ending} {w' : World} (h : SimplifyEnd p w e w') : SimpOut (if patErr p = 0 then simple p else Pat.zero) (patErr p) w e w' := by
  rcases h with ⟨h0, a, n, c, h1, h2, h3⟩ | ⟨h0, h1, h2⟩
  · rw [if_pos h0]
    exact ⟨a, n, c, by rw [h1, h0], h3, h2.patV⟩
  · rw [if_neg h0]
    exact ⟨none, 0, 0, h1, h2, ⟨Or.inl ⟨none, 0, rfl, rfl⟩, by decide, by decide, Nat.zero_le _, Nat.zero_le _⟩⟩
set_option maxRecDepth 100000 in
set_option maxHeartbeats 4000000 in
theorem TuneTells_walk {w : World} {ka : Value} {p : Pat} (hp : PatV w ka p) (hT : TabZ w) (hB : nodesP p ≤ 2000000) :
    Calls Tryd.prog 3 #[.agg (p.cells ka)] w fun e w' => e = .returned (.bool true) ∧ Grew w w' := by
  obtain ⟨kb, kn, kc, rfl⟩ := form_of6 hp.kids
  have HB0 : Hid ((w.alloc (.cells #[.int .i64 p.kind, .string p.text, .int .i64 p.n, .string p.name, .slice kb kn kc] 24)).heap[w.heap.size]? = some (.cells #[.int .i64 p.kind, .string p.text, .int .i64 p.n, .string p.name, .slice kb kn kc] 24 (0, 0))) := heap_alloc_new w _
  obtain ⟨X, hX⟩ : ∃ X, (if patErr p = 0 then simple p else Pat.zero) = X := ⟨_, rfl⟩
  obtain ⟨er, her⟩ : ∃ er, patErr p = er := ⟨_, rfl⟩
  have HS : Hid (∀ w1, Grew w w1 → Calls Tryd.prog 4 #[.agg #[.int .i64 p.kind, .string p.text, .int .i64 p.n, .string p.name, .slice kb kn kc]] w1 (SimpOut X er w1)) := fun w1 g =>
    (Simplify_any p _ w1 (hp.kept g) (hT.kept g)).mono fun e w' h => by have := simp_out w1 h; rw [hX, her] at this; exact this
  have HR : Hid (∀ w1, Grew w w1 → Calls Tryd.prog 5 #[.agg #[.int .i64 p.kind, .string p.text, .int .i64 p.n, .string p.name, .slice kb kn kc]] w1 (SimpOut X er w1)) := fun w1 g =>
    (SimplifyR_any p _ w1 (hp.kept g) hB).mono fun e w' h => by have := simp_out w1 h; rw [hX, her] at this; exact this
  have HE : Hid (∀ w1 k k', PatV w1 k X → PatV w1 k' X → Calls Tryd.prog 6 #[.agg #[.int .i64 X.kind, .string X.text, .int .i64 X.n, .string X.name, k], .agg #[.int .i64 X.kind, .string X.text, .int .i64 X.n, .string X.name, k']] w1 fun e w' => e = .returned (.bool true) ∧ Grew w1 w') := fun w1 k k' h1 h2 => Same_eq h1 h2
  obtain ⟨l1, hl1⟩ : ∃ x, (lengthOf p).1 = x := ⟨_, rfl⟩
  obtain ⟨l2, hl2⟩ : ∃ x, (lengthOf p).2.1 = x := ⟨_, rfl⟩
  obtain ⟨l3, hl3⟩ : ∃ x, (lengthOf p).2.2 = x := ⟨_, rfl⟩
  have HL : Hid (∀ w1, Grew w w1 → Calls Tryd.prog 7 #[.agg #[.int .i64 p.kind, .string p.text, .int .i64 p.n, .string p.name, .slice kb kn kc]] w1 fun e w' => e = .returned (.tuple #[.int .i64 l1, .int .i64 l2, .int .i64 l3]) ∧ Grew w1 w') := fun w1 g => by
    have := Length_any p _ w1 (hp.kept g); rw [hl1, hl2, hl3] at this; exact this
  have HLr : Hid (∀ w1, Grew w w1 → Calls Tryd.prog 8 #[.agg #[.int .i64 p.kind, .string p.text, .int .i64 p.n, .string p.name, .slice kb kn kc]] w1 fun e w' => e = .returned (.tuple #[.int .i64 l1, .int .i64 l2, .int .i64 l3]) ∧ Grew w1 w') := fun w1 g => by
    have := LengthR_any _ p w1 (hp.kept g) hB; rw [hl1, hl2, hl3] at this; exact this
  obtain ⟨s0, hs0⟩ : ∃ x, q4 (firstOf p).1.1 0 = x := ⟨_, rfl⟩
  obtain ⟨s1, hs1⟩ : ∃ x, q4 (firstOf p).1.1 1 = x := ⟨_, rfl⟩
  obtain ⟨s2, hs2⟩ : ∃ x, q4 (firstOf p).1.1 2 = x := ⟨_, rfl⟩
  obtain ⟨s3, hs3⟩ : ∃ x, q4 (firstOf p).1.1 3 = x := ⟨_, rfl⟩
  obtain ⟨fn, hfn⟩ : ∃ x, (firstOf p).1.2 = x := ⟨_, rfl⟩
  obtain ⟨fe, hfe⟩ : ∃ x, (firstOf p).2 = x := ⟨_, rfl⟩
  have HF : Hid (∀ w1, Grew w w1 → Calls Tryd.prog 9 #[.agg #[.int .i64 p.kind, .string p.text, .int .i64 p.n, .string p.name, .slice kb kn kc]] w1 fun e w' => e = .returned (.tuple #[.agg #[.int .u64 s0, .int .u64 s1, .int .u64 s2, .int .u64 s3], .bool fn, .int .i64 fe]) ∧ Grew w1 w') := fun w1 g => by
    have := First_any p _ w1 (hp.kept g); unfold FirstEnd at this; rw [hs0, hs1, hs2, hs3, hfn, hfe] at this; exact this
  have HFr : Hid (∀ w1, Grew w w1 → Calls Tryd.prog 10 #[.agg #[.int .i64 p.kind, .string p.text, .int .i64 p.n, .string p.name, .slice kb kn kc]] w1 fun e w' => e = .returned (.tuple #[.agg #[.int .u64 s0, .int .u64 s1, .int .u64 s2, .int .u64 s3], .bool fn, .int .i64 fe]) ∧ Grew w1 w') := fun w1 g => by
    have := FirstR_any p _ w1 (hp.kept g) hB; unfold FirstEnd at this; rw [hs0, hs1, hs2, hs3, hfn, hfe] at this; exact this
  clear hp hB hT hX her hl1 hl2 hl3 hs0 hs1 hs2 hs3 hfn hfe
  unfold Pat.cells
  have hq := fun w0 => eq_set6 s0 s1 s2 s3 w0
  have hag := fun x y u v w0 => run_eqGuard_agg (P := Tryd.prog) (w := w0) x y u v
  have hsg := set_guard6
  go_enter Tryd.func3, Tryd.ntmps3
  go_wp2_with fail
  refine (HS.out _ ((Grew.refl w).alloc _)).mono ?_; rintro e w1 ⟨xa, xn, xc, rfl, g1, hx⟩
  have HG1 := hidd ((((Grew.refl w).alloc _).trans g1).alloc (.cells #[.int .i64 X.kind, .string X.text, .int .i64 X.n, .string X.name, .slice xa xn xc] 24))
  have HX1 := hidd (hx.kept ((Grew.refl w1).alloc (.cells #[.int .i64 X.kind, .string X.text, .int .i64 X.n, .string X.name, .slice xa xn xc] 24)))
  have HB1 := hidd (heap_more (o := .cells #[.int .i64 X.kind, .string X.text, .int .i64 X.n, .string X.name, .slice xa xn xc] 24) (heap_kept g1 HB0.out))
  have HC1 := hidd (heap_alloc_new w1 (.cells #[.int .i64 X.kind, .string X.text, .int .i64 X.n, .string X.name, .slice xa xn xc] 24))
  obtain ⟨⟨k0, k1, k2, k3, k4⟩, _⟩ := five_cells (heap_kept g1 HB0.out)
  have hw1 : w.heap.size < w1.heap.size := (Array.getElem?_eq_some_iff.1 (heap_kept g1 HB0.out)).1
  clear g1 hx HB0 HS
  go_wp2_with fail
  generalize hbx : w1.heap.size = bx at HC1 hw1 ⊢
  generalize w1.alloc (.cells #[.int .i64 X.kind, .string X.text, .int .i64 X.n, .string X.name, .slice xa xn xc] 24) = W1 at HG1 HX1 HB1 HC1 ⊢
  clear hbx k0 k1 k2 k3 k4
  refine (HR.out _ HG1.out).mono ?_; rintro e w2 ⟨ya, yn, yc, rfl, g2, hy⟩
  have HG2 := hidd ((HG1.out.trans g2).alloc (.cells #[.int .i64 X.kind, .string X.text, .int .i64 X.n, .string X.name, .slice ya yn yc] 24))
  have HX2 := hidd ((HX1.out.kept g2).kept ((Grew.refl w2).alloc (.cells #[.int .i64 X.kind, .string X.text, .int .i64 X.n, .string X.name, .slice ya yn yc] 24)))
  have HY2 := hidd (hy.kept ((Grew.refl w2).alloc (.cells #[.int .i64 X.kind, .string X.text, .int .i64 X.n, .string X.name, .slice ya yn yc] 24)))
  have HB2 := hidd (heap_more (o := .cells #[.int .i64 X.kind, .string X.text, .int .i64 X.n, .string X.name, .slice ya yn yc] 24) (heap_kept g2 HB1.out))
  have hbx2 : bx < w2.heap.size := (Array.getElem?_eq_some_iff.1 (heap_kept g2 HC1.out)).1
  obtain ⟨⟨x0, x1, x2, x3, x4⟩, _⟩ := five_cells (heap_kept g2 HC1.out)
  clear g2 hy HR HG1 HX1 HB1 HC1
  go_wp2_with fail
  refine (HE.out _ _ _ HX2.out HY2.out).mono ?_; rintro e w3 ⟨rfl, g3⟩
  have HG3 := hidd (HG2.out.trans g3)
  have HB3 := hidd (heap_kept g3 HB2.out)
  clear g3 HE HG2 HX2 HY2 HB2 x0 x1 x2 x3 x4
  obtain ⟨⟨k0, k1, k2, k3, k4⟩, _⟩ := five_cells HB3.out
  go_wp2_with fail
  refine (HL.out _ HG3.out).mono ?_; rintro e w4 ⟨rfl, g4⟩
  have HG4 := hidd (HG3.out.trans g4)
  have HB4 := hidd (heap_kept g4 HB3.out)
  clear g4 HL HG3 HB3 k0 k1 k2 k3 k4
  obtain ⟨⟨k0, k1, k2, k3, k4⟩, _⟩ := five_cells HB4.out
  go_wp2_with fail
  refine (HLr.out _ HG4.out).mono ?_; rintro e w5 ⟨rfl, g5⟩
  have HG5 := hidd (HG4.out.trans g5)
  have HB5 := hidd (heap_kept g5 HB4.out)
  clear g5 HLr HG4 HB4 k0 k1 k2 k3 k4
  obtain ⟨⟨k0, k1, k2, k3, k4⟩, _⟩ := five_cells HB5.out
  go_wp2_with fail
  refine (HF.out _ HG5.out).mono ?_; rintro e w6 ⟨rfl, g6⟩
  have HG6 := hidd ((HG5.out.trans g6).alloc (.cells #[.int .u64 s0, .int .u64 s1, .int .u64 s2, .int .u64 s3] 33))
  have HB6 := hidd (heap_kept g6 HB5.out)
  clear g6 HF HG5 HB5 k0 k1 k2 k3 k4
  obtain ⟨⟨k0, k1, k2, k3, k4⟩, _⟩ := five_cells HB6.out
  have hw6 : w.heap.size < w6.heap.size := (Array.getElem?_eq_some_iff.1 HB6.out).1
  go_wp2_with fail
  refine (HFr.out _ HG6.out).mono ?_; rintro e w7 ⟨rfl, g7⟩
  have HG7 := hidd ((HG6.out.trans g7).alloc (.cells #[.int .u64 s0, .int .u64 s1, .int .u64 s2, .int .u64 s3] 33))
  have hc6 : w7.heap[w6.heap.size]? = some (.cells #[.int .u64 s0, .int .u64 s1, .int .u64 s2, .int .u64 s3] 33 (0, 0)) := heap_kept g7 (heap_alloc_new w6 _)
  have hlt7 : w6.heap.size < w7.heap.size := (Array.getElem?_eq_some_iff.1 hc6).1
  obtain ⟨⟨f0, f1, f2, f3⟩, _⟩ := four_cells hc6
  clear g7 HFr HG6 HB6 hc6 k0 k1 k2 k3 k4
  go_wp2_with fail
  go_ret
  exact ⟨rfl, HG7.out⟩
end Go.Proofs.YtglfdfeideeeaaaDoor
