/- scanfailbig: GCD. -/
import Derived.Test.YthhcpocgfmlbeaaBgU
namespace Go.Proofs.Ythhcpocgfmlbeaa
open Go.RowKit
set_option linter.unusedVariables false
theorem nw_small2 {X : Nat} (hX : X < 18446744073709551616) : nw X ≤ 1099511627776 := Nat.le_trans (nw_le (two_words.2 hX)) (by omega)
theorem int_lt {w : World} {b : Nat} {z : Int} (h : IntAt w b z) : b < w.heap.size := by
  obtain ⟨_, _, h1, _⟩ := h
  exact (Array.getElem?_eq_some_iff.1 h1).1
/-- A number's object holds one number. -/
theorem IntAt.same {w : World} {b P Q : Nat} (h : IntAt w b (P : Nat)) (k : IntAt w b (Q : Nat)) : P = Q := by
  obtain ⟨p, c, h1, h2⟩ := h
  obtain ⟨q, d, k1, k2⟩ := k
  rw [show ((P : Nat) : Int).natAbs = P from rfl] at h1 h2
  rw [show ((Q : Nat) : Int).natAbs = Q from rfl] at k1 k2
  obtain ⟨⟨_, a1⟩, _⟩ := two_cells h1
  obtain ⟨⟨_, a2⟩, _⟩ := two_cells k1
  rw [a1] at a2
  have e := Option.some.inj a2
  injection e with e1 e2 e3
  subst e1 e3
  rw [← e2] at k2
  have f1 := h2.fits
  have f2 := k2.fits
  rw [← vs_dg' f1, ← vs_dg' f2]
  by_cases h0 : nw P = 0
  · rw [h0]; rfl
  · obtain ⟨b1, o1, x1, c1⟩ := h2.words (by omega)
    obtain ⟨b2, o2, x2, c2⟩ := k2.words (by omega)
    rw [x1] at x2
    have x3 := Option.some.inj x2
    injection x3 with y1 y2 y3
    subst y1 y2
    refine vs_congr fun j hj => ?_
    have u1 := c1 j hj
    have u2 := c2 j hj
    rw [u1] at u2
    have u3 := Option.some.inj u2
    injection u3 with u4 u5
    omega
open Classical in
/-- The number that a pointer's object holds (a measure). -/
noncomputable def numAt (w : World) (v : Value) : Nat := if h : ∃ Q : Nat, ∃ b, v = .pointer (some ⟨b, 0, none⟩) ∧ IntAt w b (Q : Nat) then h.choose else 0
theorem numAt_eq {w : World} {b Q : Nat} (h : IntAt w b (Q : Nat)) : numAt w (.pointer (some ⟨b, 0, none⟩)) = Q := by
  have hx : ∃ Q : Nat, ∃ b', (Value.pointer (some ⟨b, 0, none⟩)) = .pointer (some ⟨b', 0, none⟩) ∧ IntAt w b' (Q : Nat) := ⟨Q, b, rfl, h⟩
  unfold numAt
  rw [dif_pos hx]
  obtain ⟨b', e, h2⟩ := hx.choose_spec
  injection e with e1
  have e2 := Option.some.inj e1
  injection e2 with e3
  subst e3
  exact h2.same h
/-- How far the division has come. -/
structure GcdSt (A B P Q : Nat) (S T : Int) : Prop where
  gcd : Nat.gcd P Q = Nat.gcd A B
  pos : 0 < P
  p : P < 18446744073709551616
  q : Q < 18446744073709551616
  s : S.natAbs ≤ B
  sum : P * T.natAbs + Q * S.natAbs ≤ B
  sign : (0 ≤ S ∧ T ≤ 0) ∨ (S ≤ 0 ∧ 0 ≤ T)
theorem GcdSt.start {A B : Nat} (hA : A < 18446744073709551616) (hB : B < 18446744073709551616) (h0 : 0 < A) (h1 : 0 < B) : GcdSt A B A B 1 0 :=
  ⟨rfl, h0, hA, hB, by show 1 ≤ B; omega, by show A * 0 + B * 1 ≤ B; omega, Or.inl ⟨by omega, by omega⟩⟩
theorem GcdSt.t {A B P Q : Nat} {S T : Int} (h : GcdSt A B P Q S T) : T.natAbs ≤ B := by
  have h1 := h.sum
  have h2 := Nat.mul_le_mul_right T.natAbs h.pos
  rw [Nat.succ_mul, Nat.zero_mul, Nat.zero_add] at h2
  omega
theorem abs_step {S T : Int} (D : Nat) (h : (0 ≤ S ∧ T ≤ 0) ∨ (S ≤ 0 ∧ 0 ≤ T)) : (S - (D : Int) * T).natAbs = S.natAbs + D * T.natAbs ∧ ((0 ≤ T ∧ S - (D : Int) * T ≤ 0) ∨ (T ≤ 0 ∧ 0 ≤ S - (D : Int) * T)) ∧ ((D : Int) * T).natAbs = D * T.natAbs := by
  have e : ((D : Int) * T).natAbs = D * T.natAbs := by rw [Int.natAbs_mul]; rfl
  rcases h with ⟨h1, h2⟩ | ⟨h1, h2⟩
  · have := Int.mul_nonneg (Int.natCast_nonneg D) (show 0 ≤ -T by omega)
    rw [Int.mul_neg] at this
    exact ⟨by omega, Or.inr ⟨h2, by omega⟩, e⟩
  · have := Int.mul_nonneg (Int.natCast_nonneg D) h2
    exact ⟨by omega, Or.inl ⟨h2, by omega⟩, e⟩
theorem GcdSt.step {A B P Q : Nat} {S T : Int} (h : GcdSt A B P Q S T) (hq : 0 < Q) : GcdSt A B Q (P % Q) T (S - ((P / Q : Nat) : Int) * T) := by
  obtain ⟨a1, a2, _⟩ := abs_step (P / Q) h.sign
  refine ⟨by rw [← h.gcd, Nat.gcd_comm P Q, Nat.gcd_rec Q P, Nat.gcd_comm], hq, h.q, Nat.lt_trans (Nat.mod_lt _ hq) h.q, h.t, ?_, ?_⟩
  · rw [a1, Nat.mul_add, ← Nat.mul_assoc]
    have h1 := h.sum
    have h2 := Nat.div_add_mod P Q
    have h3 : P * T.natAbs = Q * (P / Q) * T.natAbs + P % Q * T.natAbs := by rw [← Nat.add_mul, h2]
    omega
  · rcases a2 with ⟨b1, b2⟩ | ⟨b1, b2⟩
    · exact Or.inl ⟨b1, b2⟩
    · exact Or.inr ⟨b1, b2⟩
section
variable {w : World} {z a b : Nat}
set_option maxRecDepth 100000 in
set_option maxHeartbeats 4000000 in
theorem GCD_own {A B : Nat} (hz : ObjAt w z) (ha : IntAt w a (A : Nat)) (hb : IntAt w b (B : Nat)) (hza : z ≠ a) (hzb : z ≠ b) (hA : A < 18446744073709551616) (hB : B < 18446744073709551616) :
    Calls Try.prog 32 #[.pointer (some ⟨z, 0, none⟩), .pointer none, .pointer none, .pointer (some ⟨a, 0, none⟩), .pointer (some ⟨b, 0, none⟩)] w fun e w' => e = .returned (.pointer (some ⟨z, 0, none⟩)) ∧ But z w w' ∧ IntAt w' z (Nat.gcd A B : Nat) := by
  have HO := hidd hz
  have HA := hidd ha
  have HB := hidd hb
  obtain ⟨p, c, hh, hp⟩ := ha
  obtain ⟨q, d, hk, hq⟩ := hb
  rw [show (A : Int).natAbs = A from rfl] at hh hp
  rw [show (B : Int).natAbs = B from rfl] at hk hq
  obtain ⟨⟨k0, k1⟩, _⟩ := two_cells hh
  obtain ⟨⟨j0, j1⟩, _⟩ := two_cells hk
  obtain ⟨n, hn0⟩ : ∃ n, nw A = n := ⟨_, rfl⟩
  obtain ⟨m, hm0⟩ : ∃ n, nw B = n := ⟨_, rfl⟩
  rw [hn0] at k1
  rw [hm0] at j1
  clear hh hp hk hq
  by_cases h0 : n = 0
  · have hA0 : A = 0 := by
      by_cases e : A = 0
      · exact e
      · have := nw_pos e; omega
    have HZ : Hid (∀ k, Calls Try.prog 31 #[.pointer (some ⟨z, 0, none⟩), .pointer (some ⟨b, 0, none⟩)] (w.drewN k) fun e w' => e = .returned (.pointer (some ⟨z, 0, none⟩)) ∧ But z (w.drewN k) w' ∧ IntAt w' z (Nat.gcd A B : Nat)) := fun k => by
      have := Abs_own (HO.out.kept ((Grew.refl w).drewN k)) (HB.out.kept ((Grew.refl w).drewN k)) (nw_small2 hB)
      rw [hA0, Nat.gcd_zero_left]
      exact this
    subst h0
    clear hz hn0 hm0 hA0
    go_enter Try.func32, Try.ntmps32
    go_wp2_with fail
    go_quiet (fail)
    go_wp2_with fail
    go_quiet (fail)
    go_wp2_with fail
    refine (HZ.out _).mono ?_; rintro e w1 ⟨rfl, b1, i1⟩
    have H1 := hidd (And.intro (But.grewL ((Grew.refl w).drewN _) b1) i1)
    clear b1 i1
    go_wp2_with fail
    go_ret
    exact ⟨rfl, H1.out.1, H1.out.2⟩
  · by_cases h1 : m = 0
    · have hB0 : B = 0 := by
        by_cases e : B = 0
        · exact e
        · have := nw_pos e; omega
      have HZ : Hid (∀ k, Calls Try.prog 31 #[.pointer (some ⟨z, 0, none⟩), .pointer (some ⟨a, 0, none⟩)] (w.drewN k) fun e w' => e = .returned (.pointer (some ⟨z, 0, none⟩)) ∧ But z (w.drewN k) w' ∧ IntAt w' z (Nat.gcd A B : Nat)) := fun k => by
        have := Abs_own (HO.out.kept ((Grew.refl w).drewN k)) (HA.out.kept ((Grew.refl w).drewN k)) (nw_small2 hA)
        rw [hB0, Nat.gcd_zero_right]
        exact this
      have e0 : ((n : Int) == 0) = false := by rw [beq_eq_false_iff_ne]; omega
      subst h1
      clear hz hn0 hm0 hB0
      go_enter Try.func32, Try.ntmps32
      go_wp2_with fail
      go_quiet (fail)
      go_wp2_with fail
      go_quiet (fail)
      go_wp2_with fail
      refine (HZ.out _).mono ?_; rintro e w1 ⟨rfl, b1, i1⟩
      have H1 := hidd (And.intro (But.grewL ((Grew.refl w).drewN _) b1) i1)
      clear b1 i1
      go_wp2_with fail
      go_ret
      exact ⟨rfl, H1.out.1, H1.out.2⟩
    · have hA0 : 0 < A := by
        rcases Nat.eq_zero_or_pos A with e | e
        · rw [e, nw_zero] at hn0; omega
        · exact e
      have hB0 : 0 < B := by
        rcases Nat.eq_zero_or_pos B with e | e
        · rw [e, nw_zero] at hm0; omega
        · exact e
      have HST := hidd (GcdSt.start hA hB hA0 hB0)
      have hzl : z < w.heap.size := by obtain ⟨_, _, _, _, h1⟩ := hz; exact (Array.getElem?_eq_some_iff.1 h1).1
      have e0 : ((n : Int) == 0) = false := by rw [beq_eq_false_iff_ne]; omega
      have e1 : ((m : Int) == 0) = false := by rw [beq_eq_false_iff_ne]; omega
      have HP : Hid (Calls Try.prog 31 #[.pointer (some ⟨w.heap.size, 0, none⟩), .pointer (some ⟨a, 0, none⟩)] (w.alloc (.cells #[.bool false, .slice none 0 0] 31)) fun e w' => e = .returned (.pointer (some ⟨w.heap.size, 0, none⟩)) ∧ But w.heap.size (w.alloc (.cells #[.bool false, .slice none 0 0] 31)) w' ∧ IntAt w' w.heap.size (A : Nat)) :=
        Abs_own (obj_new w) (HA.out.kept ((Grew.refl w).alloc _)) (nw_small2 hA)
      have HQ : Hid (∀ w1, Grew w w1 → Calls Try.prog 31 #[.pointer (some ⟨w1.heap.size, 0, none⟩), .pointer (some ⟨b, 0, none⟩)] (w1.alloc (.cells #[.bool false, .slice none 0 0] 31)) fun e w' => e = .returned (.pointer (some ⟨w1.heap.size, 0, none⟩)) ∧ But w1.heap.size (w1.alloc (.cells #[.bool false, .slice none 0 0] 31)) w' ∧ IntAt w' w1.heap.size (B : Nat)) := fun w1 g =>
        Abs_own (obj_new w1) (HB.out.kept (g.trans ((Grew.refl w1).alloc _))) (nw_small2 hB)
      have HN1 := hidd (fun w1 => NewInt_any 1 (by unfold In64; omega) w1)
      have HN0 := hidd (fun w1 => NewInt_any 0 (by unfold In64; omega) w1)
      clear hz
      go_enter Try.func32, Try.ntmps32
      go_wp2_with fail
      refine HP.out.mono ?_; rintro e w1 ⟨rfl, b1, i1⟩
      have G1 := hidd (And.intro (b1.grew ((Grew.refl w).alloc _) (Nat.le_refl _)) i1)
      clear b1 i1
      go_wp2_with fail
      refine (HQ.out _ G1.out.1).mono ?_; rintro e w2 ⟨rfl, b2, i2⟩
      have l1 : w.heap.size < w1.heap.size := by
        obtain ⟨_, _, h1, _⟩ := G1.out.2
        exact (Array.getElem?_eq_some_iff.1 h1).1
      have G2 := hidd (And.intro (G1.out.1.trans (b2.grew ((Grew.refl w1).alloc _) (Nat.le_refl _))) (And.intro (G1.out.2.kept (b2.grew ((Grew.refl w1).alloc _) (Nat.le_refl _))) i2))
      clear b2 i2
      go_wp2_with fail
      refine (HN1.out _).mono ?_; rintro e w3 ⟨rfl, g3, i3⟩
      have G3 := hidd (And.intro (G2.out.1.trans g3) (And.intro (G2.out.2.1.kept g3) (And.intro (G2.out.2.2.kept g3) i3)))
      clear g3 i3
      go_wp2_with fail
      refine (HN0.out _).mono ?_; rintro e w4 ⟨rfl, g4, i4⟩
      have G4 := hidd (And.intro (G3.out.1.trans g4) (And.intro (G3.out.2.1.kept g4) (And.intro (G3.out.2.2.1.kept g4) (And.intro (G3.out.2.2.2.kept g4) i4))))
      clear g4 i4
      go_wp2_with fail
      go_loopw [15, 16, 17, 18] (fun u15 u16 u17 u18 wr => ∃ (P Q : Nat) (S T : Int) (pb qb sb tb : Nat), u15 = .pointer (some ⟨pb, 0, none⟩) ∧ u16 = .pointer (some ⟨qb, 0, none⟩) ∧ u17 = .pointer (some ⟨sb, 0, none⟩) ∧ u18 = .pointer (some ⟨tb, 0, none⟩) ∧ w.heap.size ≤ pb ∧ w.heap.size ≤ qb ∧ Hid (IntAt wr pb (P : Nat) ∧ IntAt wr qb (Q : Nat) ∧ IntAt wr sb S ∧ IntAt wr tb T) ∧ Hid (GcdSt A B P Q S T) ∧ Hid (Grew w wr)) (fun _ u16 _ _ wr => numAt wr u16)
      case atStart => exact ⟨A, B, 1, 0, _, _, _, _, rfl, rfl, rfl, rfl, Nat.le_refl _, Nat.le_of_lt l1, ⟨G4.out.2.1, G4.out.2.2.1, G4.out.2.2.2.1, G4.out.2.2.2.2⟩, HST, G4.out.1⟩
      case round =>
        obtain ⟨P, Q, S, T, pb, qb, sb, tb, rfl, rfl, rfl, rfl, hpb, hqb, HI, HT, HG⟩ := hrel
        have hnw : ∃ l, nw Q = l := ⟨_, rfl⟩
        obtain ⟨l, hl⟩ := hnw
        have kq : ∃ sq pq cq, wr.cell? ⟨qb, 0, none⟩ = some (.bool sq) ∧ wr.cell? ⟨qb, 1, none⟩ = some (.slice pq l cq) := by
          obtain ⟨pq, cq, h1, _⟩ := HI.out.2.1
          rw [show ((Q : Nat) : Int).natAbs = Q from rfl, hl] at h1
          obtain ⟨⟨r0, r1⟩, _⟩ := two_cells h1
          exact ⟨_, pq, cq, r0, r1⟩
        obtain ⟨sq, pq, cq, kq0, kq1⟩ := kq
        by_cases hq0 : Q = 0
        · have hl0 : l = 0 := by rw [← hl, hq0, nw_zero]
          subst hl0
          have HZ : Hid (Calls Try.prog 44 #[.pointer (some ⟨z, 0, none⟩), .pointer (some ⟨pb, 0, none⟩)] wr fun e w' => e = .returned (.pointer (some ⟨z, 0, none⟩)) ∧ But z wr w' ∧ IntAt w' z (Nat.gcd A B : Nat)) := by
            have h1 := HT.out.gcd
            rw [hq0, Nat.gcd_zero_right] at h1
            rw [← h1]
            exact Set_own (HO.out.kept HG.out) HI.out.1 (by omega) (nw_small2 HT.out.p)
          clear hq0 hl
          go_wp2_with fail
          refine HZ.out.mono ?_; rintro e w5 ⟨rfl, b5, i5⟩
          have H5 := hidd (And.intro b5 i5)
          clear b5 i5
          go_wp2_with fail
          go_ret
          exact ⟨rfl, But.grewL HG.out H5.out.1, H5.out.2⟩
        · have hl1 : decide ((0 : Int) < (l : Int)) = true := decide_eq_true (by have := nw_pos hq0; omega)
          have hl2 : decide (0 < l) = true := decide_eq_true (by have := nw_pos hq0; omega)
          have HT2 := hidd (HT.out.step (Nat.pos_of_ne_zero hq0))
          have HLT := hidd (Nat.mod_lt P (Nat.pos_of_ne_zero hq0))
          have hlen : wr.heap.size ≥ w.heap.size := HG.out.size
          have HD : Hid (Calls Try.prog 40 #[.pointer (some ⟨wr.heap.size, 0, none⟩), .pointer (some ⟨pb, 0, none⟩), .pointer (some ⟨qb, 0, none⟩), .pointer (some ⟨wr.heap.size + 1, 0, none⟩)] ((wr.alloc (.cells #[.bool false, .slice none 0 0] 31)).alloc (.cells #[.bool false, .slice none 0 0] 31)) fun e w' => e = .returned (.tuple #[.pointer (some ⟨wr.heap.size, 0, none⟩), .pointer (some ⟨wr.heap.size + 1, 0, none⟩)]) ∧ Grew wr w' ∧ IntAt w' wr.heap.size (P / Q : Nat) ∧ IntAt w' (wr.heap.size + 1) (P % Q : Nat)) := by
            have g1 := (Grew.refl wr).alloc (.cells #[.bool false, .slice none 0 0] 31)
            have g2 := (Grew.refl (wr.alloc (.cells #[.bool false, .slice none 0 0] 31))).alloc (.cells #[.bool false, .slice none 0 0] 31)
            have o2 := obj_new (wr.alloc (.cells #[.bool false, .slice none 0 0] 31))
            rw [World.size_alloc] at o2
            have h := QuoRem_own ((obj_new wr).kept g2) o2 (HI.out.1.kept (g1.trans g2)) (HI.out.2.1.kept (g1.trans g2)) (by omega) (nw_small2 HT.out.p) (by omega) (Or.inr HT.out.p)
            refine h.mono fun e w' ⟨he, ⟨w3, b3, b4⟩, i1, i2⟩ => ⟨he, ?_, ?_, ?_⟩
            · exact b4.grew (b3.grew (g1.trans g2) (Nat.le_refl _)) (by omega)
            · exact i1
            · exact i2
          clear hq0 hl
          go_wp2_with fail
          refine HD.out.mono ?_; rintro e w5 ⟨rfl, g5, i5, j5⟩
          have H5 := hidd (And.intro g5 (And.intro i5 (And.intro j5 (And.intro (HI.out.2.1.kept g5) (And.intro (HI.out.2.2.1.kept g5) (HI.out.2.2.2.kept g5))))))
          clear g5 i5 j5
          have HM : Hid (Calls Try.prog 28 #[.pointer (some ⟨w5.heap.size + 1, 0, none⟩), .pointer (some ⟨wr.heap.size, 0, none⟩), .pointer (some ⟨tb, 0, none⟩)] ((w5.alloc (.cells #[.bool false, .slice none 0 0] 31)).alloc (.cells #[.bool false, .slice none 0 0] 31)) fun e w' => e = .returned (.pointer (some ⟨w5.heap.size + 1, 0, none⟩)) ∧ Grew w5 w' ∧ ObjAt w' w5.heap.size ∧ IntAt w' (w5.heap.size + 1) (((P / Q : Nat) : Int) * T) ∧ w5.heap.size + 1 < w'.heap.size) := by
            have g1 := (Grew.refl w5).alloc (.cells #[.bool false, .slice none 0 0] 31)
            have g2 := (Grew.refl (w5.alloc (.cells #[.bool false, .slice none 0 0] 31))).alloc (.cells #[.bool false, .slice none 0 0] 31)
            have o2 := obj_new (w5.alloc (.cells #[.bool false, .slice none 0 0] 31))
            rw [World.size_alloc] at o2
            have l1 := int_lt H5.out.2.1
            have l2 := int_lt H5.out.2.2.2.2.2
            have hD : P / Q < 18446744073709551616 := Nat.lt_of_le_of_lt (Nat.div_le_self P Q) HT.out.p
            have hT : T.natAbs < 18446744073709551616 := Nat.lt_of_le_of_lt HT.out.t hB
            have h := Mul_own o2 (H5.out.2.1.kept (g1.trans g2)) (H5.out.2.2.2.2.2.kept (g1.trans g2)) (by omega) (by omega) (nw_small2 hD) (nw_small2 hT)
            refine h.mono fun e w' ⟨he, b3, i3⟩ => ⟨he, b3.grew (g1.trans g2) (by omega), ?_, i3, int_lt i3⟩
            exact ((obj_new w5).kept g2).but b3 (by omega)
          go_wp2_with fail
          refine HM.out.mono ?_; rintro e w6 ⟨rfl, g6, o6, i6, l6⟩
          have H6 := hidd (And.intro g6 (And.intro o6 i6))
          clear g6 o6 i6
          have HSb : Hid (Calls Try.prog 24 #[.pointer (some ⟨w5.heap.size, 0, none⟩), .pointer (some ⟨sb, 0, none⟩), .pointer (some ⟨w5.heap.size + 1, 0, none⟩)] w6 fun e w' => e = .returned (.pointer (some ⟨w5.heap.size, 0, none⟩)) ∧ Grew w5 w' ∧ IntAt w' w5.heap.size (S - ((P / Q : Nat) : Int) * T)) := by
            have l1 := int_lt H5.out.2.2.2.2.1
            obtain ⟨a1, _, a3⟩ := abs_step (P / Q) HT.out.sign
            have hS : S.natAbs < 18446744073709551616 := Nat.lt_of_le_of_lt HT.out.s hB
            have hM : (((P / Q : Nat) : Int) * T).natAbs < 18446744073709551616 := by
              have := HT2.out.t
              rw [a1] at this
              rw [a3]
              omega
            have h := Sub_own H6.out.2.1 (H5.out.2.2.2.2.1.kept H6.out.1) H6.out.2.2 (by omega) (by omega) (nw_small2 hS) (nw_small2 hM)
            exact h.mono fun e w' ⟨he, b3, i3⟩ => ⟨he, b3.grew H6.out.1 (Nat.le_refl _), i3⟩
          go_wp2_with fail
          refine HSb.out.mono ?_; rintro e w7 ⟨rfl, g7, i7⟩
          have H7 := hidd (And.intro (H5.out.1.trans g7) (And.intro i7 (And.intro (H5.out.2.2.2.1.kept g7) (And.intro (H5.out.2.2.1.kept g7) (H5.out.2.2.2.2.2.kept g7)))))
          clear g7 i7
          have hm1 : numAt w7 (.pointer (some ⟨wr.heap.size + 1, 0, none⟩)) = P % Q := numAt_eq H7.out.2.2.2.1
          have hm2 : numAt wr (.pointer (some ⟨qb, 0, none⟩)) = Q := numAt_eq HI.out.2.1
          go_wp2_with fail
          go_roundw
          case rel => exact ⟨Q, P % Q, T, _, qb, wr.heap.size + 1, tb, w5.heap.size, rfl, rfl, rfl, rfl, hqb, by omega, ⟨H7.out.2.2.1, H7.out.2.2.2.1, H7.out.2.2.2.2, H7.out.2.1⟩, HT2, HG.out.trans H7.out.1⟩
          case measure => rw [hm1, hm2]; exact HLT.out
end
end Go.Proofs.Ythhcpocgfmlbeaa
