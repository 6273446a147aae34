/- The machine's method enter: nodes that have others in them, or many ways. -/
import Derived.Test.YtmkldfjcpmoajabDoorScResumeB
namespace Go.Proofs.YtmkldfjcpmoajabDoor
open Go.RowKit
set_option linter.unusedVariables false

/-- What comes of 'enter', z being what is told where there is nothing. -/
def Enters (X : Far) (w0 : World) (bm : Nat) (rv : Value) (s : ByteArray) (fuel : Nat) (w : World) (z : Int) (r : Option (List Todo) × MS) (e : Ending) (w' : World) : Prop :=
  (match r.1 with
   | none => e = .returned (.tuple #[.pointer none, .bool false, .int .i64 z])
   | some k => ∃ kp, e = .returned (.tuple #[.pointer kp, .bool true, .int .i64 0]) ∧ TodoAt w0 w' kp k) ∧ MacRep X w0 bm rv s fuel r.2 w' ∧ Keep w w'
abbrev EnterCalls (R : List Rule) (X : Far) (w0 : World) (bm : Nat) (rv : Value) (s : ByteArray) (fuel : Nat) (m : MS) (w : World) (nb no : Nat) (p : Pat) (kp : Option Addr) (k : List Todo) (a : Nat) (z : Int) : Prop :=
  Calls Tryd.prog 28 #[.pointer (some ⟨bm, 0, none⟩), .pointer (some ⟨nb, no, none⟩), .int .i64 a, .pointer kp] w fun e w' => Enters X w0 bm rv s fuel w z (enter R p a k m) e w'
section
variable {R : List Rule} {X : Far} {w0 w : World} {bm nb no : Nat} {kp : Option Addr} {rv : Value} {s : ByteArray} {fuel : Nat} {m : MS} {p : Pat} {k : List Todo} {a : Nat}

/-- One thing more is to be done, made in memory of its own. -/
theorem one_more (hk : TodoAt w0 w kp k) (hp : PatAt w0 nb no p) (op f : Nat) {o : Obj} : ((w.alloc o).alloc (.cells #[.int .i64 op, .pointer (some ⟨nb, no, none⟩), .int .i64 f, .pointer kp] 74)).heap[w.heap.size + 1]? = some (.cells #[.int .i64 op, .pointer (some ⟨nb, no, none⟩), .int .i64 f, .pointer kp] 74) ∧
    TodoAt w0 ((w.alloc o).alloc (.cells #[.int .i64 op, .pointer (some ⟨nb, no, none⟩), .int .i64 f, .pointer kp] 74)) (some ⟨w.heap.size + 1, 0, none⟩) (⟨op, p, f⟩ :: k) := by
  have h := (heap_two w o (.cells #[.int .i64 op, .pointer (some ⟨nb, no, none⟩), .int .i64 f, .pointer kp] 74)).2
  exact ⟨h, w.heap.size + 1, nb, no, kp, rfl, h, hp, hk.kept (Keep.of_grew (((Grew.refl w).alloc _).alloc _))⟩

set_option maxRecDepth 100000 in
set_option maxHeartbeats 1000000 in
theorem enter_many (h : MacRep X w0 bm rv s fuel m w) (hp : PatAt w0 nb no p) (hk : TodoAt w0 w kp k) (hkd : p.kind = 7 ∨ p.kind = 13 ∨ p.kind = 14) : EnterCalls R X w0 bm rv s fuel m w nb no p kp k a 0 := by
  have k0 : w.cell? ⟨nb, no, none⟩ = some (.int .i64 p.kind) := by
    obtain ⟨v, hv⟩ := hp.open
    exact (hv.1.kept h.grew).c0
  replace k0 : ∀ o, (w.alloc o).cell? ⟨nb, no, none⟩ = some (.int .i64 p.kind) := fun o => ((Grew.refl w).alloc o).keeps k0
  have HM := hidd h
  unfold EnterCalls
  rcases hkd with hkd | hkd | hkd
  all_goals
    rw [hkd] at k0
  · have e1 : enter R p a k m = (some (⟨2, p, 0⟩ :: k), m) := by unfold enter; rw [if_pos hkd]
    have hT := one_more hk hp 2 0 (o := .cells #[.pointer (some ⟨nb, no, none⟩)] 65)
    have HT := hidd hT.2
    have E := hidd e1
    clear hT e1 hkd h hp hk
    go_enter Tryd.func28, Tryd.ntmps28
    go_wp2_with fail
    go_ret3
    rw [E.out]
    exact ⟨⟨_, rfl, HT.out⟩, HM.out.kept (((Grew.refl w).alloc _).alloc _), Keep.of_grew (((Grew.refl w).alloc _).alloc _)⟩
  · have e1 : enter R p a k m = (some (⟨1, p, 0⟩ :: k), m) := by unfold enter; rw [if_neg (by omega), if_pos hkd]
    have hT := one_more hk hp 1 0 (o := .cells #[.pointer (some ⟨nb, no, none⟩)] 65)
    have HT := hidd hT.2
    have E := hidd e1
    clear hT e1 hkd h hp hk
    go_enter Tryd.func28, Tryd.ntmps28
    go_wp2_with fail
    go_ret3
    rw [E.out]
    exact ⟨⟨_, rfl, HT.out⟩, HM.out.kept (((Grew.refl w).alloc _).alloc _), Keep.of_grew (((Grew.refl w).alloc _).alloc _)⟩
  · have e1 : enter R p a k m = (some (⟨3, p, 0⟩ :: k), m) := by unfold enter; rw [if_neg (by omega), if_neg (by omega), if_pos hkd]
    have hT := one_more hk hp 3 0 (o := .cells #[.pointer (some ⟨nb, no, none⟩)] 65)
    have HT := hidd hT.2
    have E := hidd e1
    clear hT e1 hkd h hp hk
    go_enter Tryd.func28, Tryd.ntmps28
    go_wp2_with fail
    go_ret3
    rw [E.out]
    exact ⟨⟨_, rfl, HT.out⟩, HM.out.kept (((Grew.refl w).alloc _).alloc _), Keep.of_grew (((Grew.refl w).alloc _).alloc _)⟩

set_option maxRecDepth 100000 in
set_option maxHeartbeats 2000000 in
theorem enter_other (h : MacRep X w0 bm rv s fuel m w) (hp : PatAt w0 nb no p) (hin : inner p = false) : EnterCalls R X w0 bm rv s fuel m w nb no p kp k a 0 := by
  obtain ⟨i1, i2, i3, i4, i5, i6, i7, i8, i9⟩ := inner_false hin
  have e1 : enter R p a k m = (none, m) := by unfold enter; rw [if_neg i1, if_neg i2, if_neg i3, if_neg i4, if_neg i5, if_neg i6, if_neg i7, if_neg i8, if_neg i9]
  have k0 : w.cell? ⟨nb, no, none⟩ = some (.int .i64 p.kind) := by
    obtain ⟨v, hv⟩ := hp.open
    exact (hv.1.kept h.grew).c0
  replace k0 : ∀ o, (w.alloc o).cell? ⟨nb, no, none⟩ = some (.int .i64 p.kind) := fun o => ((Grew.refl w).alloc o).keeps k0
  have HM := hidd h
  have E := hidd e1
  have b1 : (p.kind == 7) = false := beq_eq_false_iff_ne.2 i1
  have b2 : (p.kind == 13) = false := beq_eq_false_iff_ne.2 i2
  have b3 : (p.kind == 14) = false := beq_eq_false_iff_ne.2 i3
  have b4 : (p.kind == 18) = false := beq_eq_false_iff_ne.2 i4
  have b5 : (p.kind == 19) = false := beq_eq_false_iff_ne.2 i5
  have b6 : (p.kind == 20) = false := beq_eq_false_iff_ne.2 i6
  have b7 : (p.kind == 21) = false := beq_eq_false_iff_ne.2 i7
  have b8 : (p.kind == 22) = false := beq_eq_false_iff_ne.2 i8
  have b9 : (p.kind == 24) = false := beq_eq_false_iff_ne.2 i9
  clear h hp hin i1 i2 i3 i4 i5 i6 i7 i8 i9 e1
  unfold EnterCalls
  go_enter Tryd.func28, Tryd.ntmps28
  go_wp2_with fail
  go_ret3
  rw [E.out]
  exact ⟨rfl, HM.out.kept ((Grew.refl w).alloc _), Keep.of_grew ((Grew.refl w).alloc _)⟩

set_option maxRecDepth 100000 in
set_option maxHeartbeats 1000000 in
theorem enter_arbno (h : MacRep X w0 bm rv s fuel m w) (hp : PatAt w0 nb no p) (hk : TodoAt w0 w kp k) (hkd : p.kind = 20) (hc : m.choices.length ≤ 1000000000) : EnterCalls R X w0 bm rv s fuel m w nb no p kp k a 0 := by
  have k0 : w.cell? ⟨nb, no, none⟩ = some (.int .i64 p.kind) := by
    obtain ⟨v, hv⟩ := hp.open
    exact (hv.1.kept h.grew).c0
  have e1 : enter R p a k m = (some k, m.later (⟨4, p, 0⟩ :: k) a) := by
    unfold enter; rw [if_neg (by omega), if_neg (by omega), if_neg (by omega), if_neg (by omega), if_neg (by omega), if_pos hkd]
  rw [hkd] at k0
  replace k0 : ∀ o, (w.alloc o).cell? ⟨nb, no, none⟩ = some (.int .i64 20) := fun o => ((Grew.refl w).alloc o).keeps k0
  have HL : Hid (∀ w1, Grew w w1 → Calls Tryd.prog 38 #[.pointer (some ⟨bm, 0, none⟩), .int .i64 4, .pointer (some ⟨nb, no, none⟩), .int .i64 a, .int .i64 0, .pointer kp] w1 fun e w' => e = .returned (.tuple #[]) ∧ MacRep X w0 bm rv s fuel (m.later (⟨4, p, 0⟩ :: k) a) w' ∧ Keep w1 w') :=
    fun w1 g => later_int (h.kept g) 4 0 (by rfl) (by omega) (by rfl) hp (hk.kept (Keep.of_grew g)) hc
  have E := hidd e1
  have HK := hidd hk
  clear h hp hk hkd e1
  unfold EnterCalls
  go_enter Tryd.func28, Tryd.ntmps28
  go_wp2_with fail
  refine (HL.out _ ((Grew.refl w).alloc _)).mono ?_; rintro e w2 ⟨rfl, h2, k2⟩
  have H2 := hidd h2
  have K2 := hidd ((Keep.of_grew ((Grew.refl w).alloc _)).trans k2)
  clear h2 k2
  go_wp2_with fail
  go_ret3
  rw [E.out]
  exact ⟨⟨kp, rfl, HK.out.kept K2.out⟩, H2.out, K2.out⟩

theorem two_more (hk : TodoAt w0 w kp k) (hp : PatAt w0 nb no p) {b' o' : Nat} {r : Pat} (hr : PatAt w0 b' o' r) (op f : Nat) (o : Obj) :
    TodoAt w0 (((w.alloc o).alloc (.cells #[.int .i64 op, .pointer (some ⟨nb, no, none⟩), .int .i64 f, .pointer kp] 74)).alloc (.cells #[.int .i64 0, .pointer (some ⟨b', o', none⟩), .int .i64 0, .pointer (some ⟨w.heap.size + 1, 0, none⟩)] 74)).drew (some ⟨w.heap.size + 2, 0, none⟩) (⟨0, r, 0⟩ :: ⟨op, p, f⟩ :: k) := by
  obtain ⟨h1, h2⟩ := heap_two (w.alloc o) (.cells #[.int .i64 op, .pointer (some ⟨nb, no, none⟩), .int .i64 f, .pointer kp] 74) (.cells #[.int .i64 0, .pointer (some ⟨b', o', none⟩), .int .i64 0, .pointer (some ⟨w.heap.size + 1, 0, none⟩)] 74)
  rw [World.size_alloc] at h1 h2
  exact ⟨w.heap.size + 2, b', o', some ⟨w.heap.size + 1, 0, none⟩, rfl, h2, hr, w.heap.size + 1, nb, no, kp, rfl, h1, hp, hk.kept (Keep.of_grew ((((Grew.refl w).alloc _).alloc _).alloc _).drew)⟩

set_option maxRecDepth 100000 in
set_option maxHeartbeats 2000000 in
theorem enter_give (h : MacRep X w0 bm rv s fuel m w) (hp : PatAt w0 nb no p) (hk : TodoAt w0 w kp k) (hkd : p.kind = 21 ∨ p.kind = 22) (hkl : 0 < p.kids.length) : EnterCalls R X w0 bm rv s fuel m w nb no p kp k a 0 := by
  obtain ⟨b', o', c, hn, hc1, hc2, hkids⟩ := hp.kid hkl
  have hk0 := hkids 0 hkl
  rw [Nat.zero_mul, Nat.add_zero] at hk0
  have k0 := (hn.kept h.grew).c0
  have k4 := (hn.kept h.grew).c4
  have hkl2 : p.kids.length ≤ 9223372036854775807 := by unfold maxLen at hc2; omega
  have HM := hidd h
  unfold EnterCalls
  have c4 : ∀ o, ((w.alloc (.cells #[.pointer (some ⟨nb, no, none⟩)] 65)).alloc o).cell? ⟨nb, no + 4, none⟩ = some (.slice (some ⟨b', o', none⟩) p.kids.length c) := fun o => (((Grew.refl w).alloc _).alloc o).keeps k4
  have c6 : (w.alloc (.cells #[.pointer (some ⟨nb, no, none⟩)] 65)).cell? ⟨nb, no + 4, none⟩ = some (.slice (some ⟨b', o', none⟩) p.kids.length c) := ((Grew.refl w).alloc _).keeps k4
  rcases hkd with hkd | hkd
  · have e1 : enter R p a k m = (some (⟨0, p.kid 0, 0⟩ :: ⟨6, p, a⟩ :: k), m) := by
      unfold enter; rw [if_neg (by omega), if_neg (by omega), if_neg (by omega), if_neg (by omega), if_neg (by omega), if_neg (by omega), if_pos hkd]
    rw [hkd] at k0
    replace k0 : ∀ o, (w.alloc o).cell? ⟨nb, no, none⟩ = some (.int .i64 21) := fun o => ((Grew.refl w).alloc o).keeps k0
    have E := hidd e1
    have HT := hidd (two_more hk hp hk0 6 a (.cells #[.pointer (some ⟨nb, no, none⟩)] 65))
    clear e1 hkd h hp hk hn hkids hc1 hc2 hk0
    go_enter Tryd.func28, Tryd.ntmps28
    go_wp2_with fail
    go_region
    all_goals
      go_wp2_with fail
      go_ret3
      rw [E.out]
      have g := (((Grew.refl w).alloc (.cells #[.pointer (some ⟨nb, no, none⟩)] 65)).alloc (.cells #[.int .i64 6, .pointer (some ⟨nb, no, none⟩), .int .i64 a, .pointer kp] 74)).alloc (.cells #[.int .i64 0, .pointer (some ⟨b', o', none⟩), .int .i64 0, .pointer (some ⟨w.heap.size + 1, 0, none⟩)] 74)
      exact ⟨⟨_, rfl, HT.out⟩, (HM.out.kept g).kept (Grew.refl _).drew, (Keep.of_grew g).drew⟩
  · have e1 : enter R p a k m = (some (⟨0, p.kid 0, 0⟩ :: ⟨7, p, a⟩ :: k), m) := by
      unfold enter; rw [if_neg (by omega), if_neg (by omega), if_neg (by omega), if_neg (by omega), if_neg (by omega), if_neg (by omega), if_neg (by omega), if_pos hkd]
    rw [hkd] at k0
    replace k0 : ∀ o, (w.alloc o).cell? ⟨nb, no, none⟩ = some (.int .i64 22) := fun o => ((Grew.refl w).alloc o).keeps k0
    have E := hidd e1
    have HT := hidd (two_more hk hp hk0 7 a (.cells #[.pointer (some ⟨nb, no, none⟩)] 65))
    clear e1 hkd h hp hk hn hkids hc1 hc2 hk0
    go_enter Tryd.func28, Tryd.ntmps28
    go_wp2_with fail
    go_region
    all_goals
      go_wp2_with fail
      go_ret3
      rw [E.out]
      have g := (((Grew.refl w).alloc (.cells #[.pointer (some ⟨nb, no, none⟩)] 65)).alloc (.cells #[.int .i64 7, .pointer (some ⟨nb, no, none⟩), .int .i64 a, .pointer kp] 74)).alloc (.cells #[.int .i64 0, .pointer (some ⟨b', o', none⟩), .int .i64 0, .pointer (some ⟨w.heap.size + 1, 0, none⟩)] 74)
      exact ⟨⟨_, rfl, HT.out⟩, (HM.out.kept g).kept (Grew.refl _).drew, (Keep.of_grew g).drew⟩
end
end Go.Proofs.YtmkldfjcpmoajabDoor
