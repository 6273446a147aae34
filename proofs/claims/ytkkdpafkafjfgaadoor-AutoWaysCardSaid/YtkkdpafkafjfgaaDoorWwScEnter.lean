/- The machine's method enter: nodes that have others in them, or many ways. -/
import Derived.Test.YtkkdpafkafjfgaaDoorWwScResume
namespace Go.Proofs.YtkkdpafkafjfgaaDoor
open Go.RowKit
set_option linter.unusedVariables false
def Enters (X : Far) (w0 : World) (bm : Nat) (rv : Value) (s : ByteArray) (fuel : Nat) (w : World) (z : Int) (r : Option (List Todo) × MS) (e : Ending) (w' : World) : Prop :=
  (match r.1 with
   | none => e = .returned (.tuple #[.pointer none, .bool false, .int .i64 z])
   | some k => ∃ kp, e = .returned (.tuple #[.pointer kp, .bool true, .int .i64 0]) ∧ TodoAt w0 w' kp k) ∧ MacRep X w0 bm rv s fuel r.2 w' ∧ Keep w w'
abbrev EnterCalls (R : List Rule) (X : Far) (w0 : World) (bm : Nat) (rv : Value) (s : ByteArray) (fuel : Nat) (m : MS) (w : World) (nb no : Nat) (p : Pat) (kp : Option Addr) (k : List Todo) (a : Nat) (z : Int) : Prop :=
  Calls Tryd.prog 93 #[.pointer (some ⟨bm, 0, none⟩), .pointer (some ⟨nb, no, none⟩), .int .i64 a, .pointer kp] w fun e w' => Enters X w0 bm rv s fuel w z (enter R p a k m) e w'
section
variable {R : List Rule} {X : Far} {w0 w : World} {bm nb no : Nat} {kp : Option Addr} {rv : Value} {s : ByteArray} {fuel : Nat} {m : MS} {p : Pat} {k : List Todo} {a : Nat}
theorem one_more (hk : TodoAt w0 w kp k) (hp : PatAt w0 nb no p) (op f : Nat) {o : Obj} : ((w.alloc o).alloc (.cells #[.int .i64 op, .pointer (some ⟨nb, no, none⟩), .int .i64 f, .pointer kp] 188)).heap[w.heap.size + 1]? = some (.cells #[.int .i64 op, .pointer (some ⟨nb, no, none⟩), .int .i64 f, .pointer kp] 188) ∧
    TodoAt w0 ((w.alloc o).alloc (.cells #[.int .i64 op, .pointer (some ⟨nb, no, none⟩), .int .i64 f, .pointer kp] 188)) (some ⟨w.heap.size + 1, 0, none⟩) (⟨op, p, f⟩ :: k) := by
  have h := (heap_two w o (.cells #[.int .i64 op, .pointer (some ⟨nb, no, none⟩), .int .i64 f, .pointer kp] 188)).2
  exact ⟨h, w.heap.size + 1, nb, no, kp, rfl, h, hp, hk.kept (Keep.of_grew (((Grew.refl w).alloc _).alloc _))⟩
set_option maxRecDepth 100000 in
set_option maxHeartbeats 1000000 in
theorem enter_many (h : MacRep X w0 bm rv s fuel m w) (hp : PatAt w0 nb no p) (hk : TodoAt w0 w kp k) (hkd : p.kind = 7 ∨ p.kind = 13 ∨ p.kind = 14) : EnterCalls R X w0 bm rv s fuel m w nb no p kp k a 0 := by
  have k0 : w.cell? ⟨nb, no, none⟩ = some (.int .i64 p.kind) := by
    obtain ⟨v, hv⟩ := hp.open
    exact (hv.1.kept h.grew).c0
  replace k0 : ∀ o, (w.alloc o).cell? ⟨nb, no, none⟩ = some (.int .i64 p.kind) := fun o => ((Grew.refl w).alloc o).keeps k0
  have HM := hidd h
  unfold EnterCalls
  rcases hkd with hkd | hkd | hkd
  all_goals
    rw [hkd] at k0
  · have e1 : enter R p a k m = (some (⟨2, p, 0⟩ :: k), m) := by unfold enter; rw [if_pos hkd]
    have hT := one_more hk hp 2 0 (o := .cells #[.pointer (some ⟨nb, no, none⟩)] 72)
    have HT := hidd hT.2
    have E := hidd e1
    clear hT e1 hkd h hp hk
    go_enter Tryd.func93, Tryd.ntmps93
    go_wp2_with fail
    go_ret3
    rw [E.out]
    exact ⟨⟨_, rfl, HT.out⟩, HM.out.kept (((Grew.refl w).alloc _).alloc _), Keep.of_grew (((Grew.refl w).alloc _).alloc _)⟩
  · have e1 : enter R p a k m = (some (⟨1, p, 0⟩ :: k), m) := by unfold enter; rw [if_neg (by omega), if_pos hkd]
    have hT := one_more hk hp 1 0 (o := .cells #[.pointer (some ⟨nb, no, none⟩)] 72)
    have HT := hidd hT.2
    have E := hidd e1
    clear hT e1 hkd h hp hk
    go_enter Tryd.func93, Tryd.ntmps93
    go_wp2_with fail
    go_ret3
    rw [E.out]
    exact ⟨⟨_, rfl, HT.out⟩, HM.out.kept (((Grew.refl w).alloc _).alloc _), Keep.of_grew (((Grew.refl w).alloc _).alloc _)⟩
  · have e1 : enter R p a k m = (some (⟨3, p, 0⟩ :: k), m) := by unfold enter; rw [if_neg (by omega), if_neg (by omega), if_pos hkd]
    have hT := one_more hk hp 3 0 (o := .cells #[.pointer (some ⟨nb, no, none⟩)] 72)
    have HT := hidd hT.2
    have E := hidd e1
    clear hT e1 hkd h hp hk
    go_enter Tryd.func93, Tryd.ntmps93
    go_wp2_with fail
    go_ret3
    rw [E.out]
    exact ⟨⟨_, rfl, HT.out⟩, HM.out.kept (((Grew.refl w).alloc _).alloc _), Keep.of_grew (((Grew.refl w).alloc _).alloc _)⟩
set_option maxRecDepth 100000 in
set_option maxHeartbeats 2000000 in
theorem enter_other (h : MacRep X w0 bm rv s fuel m w) (hp : PatAt w0 nb no p) (hin : inner p = false) : EnterCalls R X w0 bm rv s fuel m w nb no p kp k a 0 := by
  obtain ⟨i1, i2, i3, i4, i5, i6, i7, i8, i9⟩ := inner_false hin
  have e1 : enter R p a k m = (none, m) := by unfold enter; rw [if_neg i1, if_neg i2, if_neg i3, if_neg i4, if_neg i5, if_neg i6, if_neg i7, if_neg i8, if_neg i9]
  have k0 : w.cell? ⟨nb, no, none⟩ = some (.int .i64 p.kind) := by
    obtain ⟨v, hv⟩ := hp.open
    exact (hv.1.kept h.grew).c0
  replace k0 : ∀ o, (w.alloc o).cell? ⟨nb, no, none⟩ = some (.int .i64 p.kind) := fun o => ((Grew.refl w).alloc o).keeps k0
  have HM := hidd h
  have E := hidd e1
  have b1 : (p.kind == 7) = false := beq_eq_false_iff_ne.2 i1
  have b2 : (p.kind == 13) = false := beq_eq_false_iff_ne.2 i2
  have b3 : (p.kind == 14) = false := beq_eq_false_iff_ne.2 i3
  have b4 : (p.kind == 18) = false := beq_eq_false_iff_ne.2 i4
  have b5 : (p.kind == 19) = false := beq_eq_false_iff_ne.2 i5
  have b6 : (p.kind == 20) = false := beq_eq_false_iff_ne.2 i6
  have b7 : (p.kind == 21) = false := beq_eq_false_iff_ne.2 i7
  have b8 : (p.kind == 22) = false := beq_eq_false_iff_ne.2 i8
  have b9 : (p.kind == 24) = false := beq_eq_false_iff_ne.2 i9
  clear h hp hin i1 i2 i3 i4 i5 i6 i7 i8 i9 e1
  unfold EnterCalls
  go_enter Tryd.func93, Tryd.ntmps93
  go_wp2_with fail
  go_ret3
  rw [E.out]
  exact ⟨rfl, HM.out.kept ((Grew.refl w).alloc _), Keep.of_grew ((Grew.refl w).alloc _)⟩
set_option maxRecDepth 100000 in
set_option maxHeartbeats 1000000 in
theorem enter_arbno (h : MacRep X w0 bm rv s fuel m w) (hp : PatAt w0 nb no p) (hk : TodoAt w0 w kp k) (hkd : p.kind = 20) (hc : m.choices.length ≤ 1000000000) : EnterCalls R X w0 bm rv s fuel m w nb no p kp k a 0 := by
  have k0 : w.cell? ⟨nb, no, none⟩ = some (.int .i64 p.kind) := by
    obtain ⟨v, hv⟩ := hp.open
    exact (hv.1.kept h.grew).c0
  have e1 : enter R p a k m = (some k, m.later (⟨4, p, 0⟩ :: k) a) := by
    unfold enter; rw [if_neg (by omega), if_neg (by omega), if_neg (by omega), if_neg (by omega), if_neg (by omega), if_pos hkd]
  rw [hkd] at k0
  replace k0 : ∀ o, (w.alloc o).cell? ⟨nb, no, none⟩ = some (.int .i64 20) := fun o => ((Grew.refl w).alloc o).keeps k0
  have HL : Hid (∀ w1, Grew w w1 → Calls Tryd.prog 115 #[.pointer (some ⟨bm, 0, none⟩), .int .i64 4, .pointer (some ⟨nb, no, none⟩), .int .i64 a, .int .i64 0, .pointer kp] w1 fun e w' => e = .returned (.tuple #[]) ∧ MacRep X w0 bm rv s fuel (m.later (⟨4, p, 0⟩ :: k) a) w' ∧ Keep w1 w') :=
    fun w1 g => later_int (h.kept g) 4 0 (by rfl) (by omega) (by rfl) hp (hk.kept (Keep.of_grew g)) hc
  have E := hidd e1
  have HK := hidd hk
  clear h hp hk hkd e1
  unfold EnterCalls
  go_enter Tryd.func93, Tryd.ntmps93
  go_wp2_with fail
  refine (HL.out _ ((Grew.refl w).alloc _)).mono ?_; rintro e w2 ⟨rfl, h2, k2⟩
  have H2 := hidd h2
  have K2 := hidd ((Keep.of_grew ((Grew.refl w).alloc _)).trans k2)
  clear h2 k2
  go_wp2_with fail
  go_ret3
  rw [E.out]
  exact ⟨⟨kp, rfl, HK.out.kept K2.out⟩, H2.out, K2.out⟩
theorem two_more (hk : TodoAt w0 w kp k) (hp : PatAt w0 nb no p) {b' o' : Nat} {r : Pat} (hr : PatAt w0 b' o' r) (op f : Nat) (o : Obj) :
    TodoAt w0 (((w.alloc o).alloc (.cells #[.int .i64 op, .pointer (some ⟨nb, no, none⟩), .int .i64 f, .pointer kp] 188)).alloc (.cells #[.int .i64 0, .pointer (some ⟨b', o', none⟩), .int .i64 0, .pointer (some ⟨w.heap.size + 1, 0, none⟩)] 188)).drew (some ⟨w.heap.size + 2, 0, none⟩) (⟨0, r, 0⟩ :: ⟨op, p, f⟩ :: k) := by
  obtain ⟨h1, h2⟩ := heap_two (w.alloc o) (.cells #[.int .i64 op, .pointer (some ⟨nb, no, none⟩), .int .i64 f, .pointer kp] 188) (.cells #[.int .i64 0, .pointer (some ⟨b', o', none⟩), .int .i64 0, .pointer (some ⟨w.heap.size + 1, 0, none⟩)] 188)
  rw [World.size_alloc] at h1 h2
  exact ⟨w.heap.size + 2, b', o', some ⟨w.heap.size + 1, 0, none⟩, rfl, h2, hr, w.heap.size + 1, nb, no, kp, rfl, h1, hp, hk.kept (Keep.of_grew ((((Grew.refl w).alloc _).alloc _).alloc _).drew)⟩
set_option maxRecDepth 100000 in
set_option maxHeartbeats 2000000 in
theorem enter_give (h : MacRep X w0 bm rv s fuel m w) (hp : PatAt w0 nb no p) (hk : TodoAt w0 w kp k) (hkd : p.kind = 21 ∨ p.kind = 22) (hkl : 0 < p.kids.length) : EnterCalls R X w0 bm rv s fuel m w nb no p kp k a 0 := by
  obtain ⟨b', o', c, hn, hc1, hc2, hkids⟩ := hp.kid hkl
  have hk0 := hkids 0 hkl
  rw [Nat.zero_mul, Nat.add_zero] at hk0
  have k0 := (hn.kept h.grew).c0
  have k4 := (hn.kept h.grew).c4
  have hkl2 : p.kids.length ≤ 9223372036854775807 := by unfold maxLen at hc2; omega
  have HM := hidd h
  unfold EnterCalls
  have c4 : ∀ o, ((w.alloc (.cells #[.pointer (some ⟨nb, no, none⟩)] 72)).alloc o).cell? ⟨nb, no + 4, none⟩ = some (.slice (some ⟨b', o', none⟩) p.kids.length c) := fun o => (((Grew.refl w).alloc _).alloc o).keeps k4
  have c6 : (w.alloc (.cells #[.pointer (some ⟨nb, no, none⟩)] 72)).cell? ⟨nb, no + 4, none⟩ = some (.slice (some ⟨b', o', none⟩) p.kids.length c) := ((Grew.refl w).alloc _).keeps k4
  rcases hkd with hkd | hkd
  · have e1 : enter R p a k m = (some (⟨0, p.kid 0, 0⟩ :: ⟨6, p, a⟩ :: k), m) := by
      unfold enter; rw [if_neg (by omega), if_neg (by omega), if_neg (by omega), if_neg (by omega), if_neg (by omega), if_neg (by omega), if_pos hkd]
    rw [hkd] at k0
    replace k0 : ∀ o, (w.alloc o).cell? ⟨nb, no, none⟩ = some (.int .i64 21) := fun o => ((Grew.refl w).alloc o).keeps k0
    have E := hidd e1
    have HT := hidd (two_more hk hp hk0 6 a (.cells #[.pointer (some ⟨nb, no, none⟩)] 72))
    clear e1 hkd h hp hk hn hkids hc1 hc2 hk0
    go_enter Tryd.func93, Tryd.ntmps93
    go_wp2_with fail
    go_region
    all_goals
      go_wp2_with fail
      go_ret3
      rw [E.out]
      have g := (((Grew.refl w).alloc (.cells #[.pointer (some ⟨nb, no, none⟩)] 72)).alloc (.cells #[.int .i64 6, .pointer (some ⟨nb, no, none⟩), .int .i64 a, .pointer kp] 188)).alloc (.cells #[.int .i64 0, .pointer (some ⟨b', o', none⟩), .int .i64 0, .pointer (some ⟨w.heap.size + 1, 0, none⟩)] 188)
      exact ⟨⟨_, rfl, HT.out⟩, (HM.out.kept g).kept (Grew.refl _).drew, (Keep.of_grew g).drew⟩
  · have e1 : enter R p a k m = (some (⟨0, p.kid 0, 0⟩ :: ⟨7, p, a⟩ :: k), m) := by
      unfold enter; rw [if_neg (by omega), if_neg (by omega), if_neg (by omega), if_neg (by omega), if_neg (by omega), if_neg (by omega), if_neg (by omega), if_pos hkd]
    rw [hkd] at k0
    replace k0 : ∀ o, (w.alloc o).cell? ⟨nb, no, none⟩ = some (.int .i64 22) := fun o => ((Grew.refl w).alloc o).keeps k0
    have E := hidd e1
    have HT := hidd (two_more hk hp hk0 7 a (.cells #[.pointer (some ⟨nb, no, none⟩)] 72))
    clear e1 hkd h hp hk hn hkids hc1 hc2 hk0
    go_enter Tryd.func93, Tryd.ntmps93
    go_wp2_with fail
    go_region
    all_goals
      go_wp2_with fail
      go_ret3
      rw [E.out]
      have g := (((Grew.refl w).alloc (.cells #[.pointer (some ⟨nb, no, none⟩)] 72)).alloc (.cells #[.int .i64 7, .pointer (some ⟨nb, no, none⟩), .int .i64 a, .pointer kp] 188)).alloc (.cells #[.int .i64 0, .pointer (some ⟨b', o', none⟩), .int .i64 0, .pointer (some ⟨w.heap.size + 1, 0, none⟩)] 188)
      exact ⟨⟨_, rfl, HT.out⟩, (HM.out.kept g).kept (Grew.refl _).drew, (Keep.of_grew g).drew⟩
end
end Go.Proofs.YtkkdpafkafjfgaaDoor
namespace Go.Proofs.YtkkdpafkafjfgaaDoor
open Go.RowKit
set_option linter.unusedVariables false
section
variable {R : List Rule} {X : Far} {w0 w : World} {bm nb no : Nat} {kp : Option Addr} {rv : Value} {s : ByteArray} {fuel : Nat} {m : MS} {p : Pat} {k : List Todo} {a : Nat}
theorem kidsK_step (l : List Pat) (k : List Todo) (j : Nat) (h : j < l.length) : kidsK (l.drop j) k = ⟨0, l.getD j Pat.zero, 0⟩ :: kidsK (l.drop (j + 1)) k := by
  rw [List.drop_eq_getElem_cons h]
  rw [show l.getD j Pat.zero = l[j] by rw [List.getD_eq_getElem?_getD, List.getElem?_eq_getElem h]; rfl]
  rfl
set_option maxRecDepth 100000 in
set_option maxHeartbeats 2000000 in
theorem enter_cat (h : MacRep X w0 bm rv s fuel m w) (hp : PatAt w0 nb no p) (hk : TodoAt w0 w kp k) (hkd : p.kind = 18) (hkl : 0 < p.kids.length) : EnterCalls R X w0 bm rv s fuel m w nb no p kp k a 0 := by
  obtain ⟨b', o', c, hn, hc1, hc2, hkids⟩ := hp.kid hkl
  have k0 := (hn.kept h.grew).c0
  have k4 := (hn.kept h.grew).c4
  have hkl2 : p.kids.length ≤ 9223372036854775807 := by unfold maxLen at hc2; omega
  have e1 : enter R p a k m = (some (kidsK p.kids k), m) := by
    unfold enter; rw [if_neg (by omega), if_neg (by omega), if_neg (by omega), if_pos hkd]
  rw [hkd] at k0
  replace k0 : ∀ o, (w.alloc o).cell? ⟨nb, no, none⟩ = some (.int .i64 18) := fun o => ((Grew.refl w).alloc o).keeps k0
  have c6 : (w.alloc (.cells #[.pointer (some ⟨nb, no, none⟩)] 72)).cell? ⟨nb, no + 4, none⟩ = some (.slice (some ⟨b', o', none⟩) p.kids.length c) := ((Grew.refl w).alloc _).keeps k4
  have c7 : (w.alloc (.cells #[.pointer (some ⟨nb, no, none⟩)] 72)).cell? ⟨w.heap.size, 0, none⟩ = some (.pointer (some ⟨nb, no, none⟩)) := by rw [World.cell?_alloc_mark]; rfl
  have HM := hidd h
  have E := hidd e1
  have HK := hidd hk
  have HKids := hidd hkids
  clear e1 hkd h hp hk hn hkids hc1 hc2
  unfold EnterCalls
  go_enter Tryd.func93, Tryd.ntmps93
  go_wp2_with fail
  have K4 := hidd k4
  clear c6 c7 k0 k4
  go_loopw [3, 11] (fun u v wr => ∃ (j : Nat) (q : Option Addr), j ≤ p.kids.length ∧ v = .int .i64 ((j : Int) - 1) ∧ u = .pointer q ∧ Hid (TodoAt w0 wr q (kidsK (p.kids.drop j) k)) ∧ Hid (Grew (w.alloc (.cells #[.pointer (some ⟨nb, no, none⟩)] 72)) wr)) (fun _ v _ => (intOf v + 1).toNat)
  case atStart => exact ⟨p.kids.length, kp, Nat.le_refl _, rfl, rfl, by rw [Hid, List.drop_length]; exact HK.out.kept (Keep.of_grew ((Grew.refl w).alloc _)), Grew.refl _⟩
  case round =>
    obtain ⟨j, q, hj, rfl, rfl, HT, HG⟩ := hrel
    by_cases h0 : 0 < j
    · obtain ⟨i, rfl⟩ : ∃ i, j = i + 1 := ⟨j - 1, by omega⟩
      have hi : i < p.kids.length := by omega
      have ei : ((i + 1 : Nat) : Int) - 1 = i := by omega
      rw [ei]
      have c6 : wr.cell? ⟨nb, no + 4, none⟩ = some (.slice (some ⟨b', o', none⟩) p.kids.length c) := HG.out.keeps (((Grew.refl w).alloc _).keeps K4.out)
      have c7 : wr.cell? ⟨w.heap.size, 0, none⟩ = some (.pointer (some ⟨nb, no, none⟩)) := HG.out.keeps (by rw [World.cell?_alloc_mark]; rfl)
      have HT2 : Hid (TodoAt w0 (wr.alloc (.cells #[.int .i64 0, .pointer (some ⟨b', o' + i * 5, none⟩), .int .i64 0, .pointer q] 188)) (some ⟨wr.heap.size, 0, none⟩) (kidsK (p.kids.drop i) k)) := by
        rw [Hid, kidsK_step p.kids k i hi]
        exact ⟨wr.heap.size, b', o' + i * 5, q, rfl, heap_alloc_new wr _, HKids.out i hi, HT.out.kept (Keep.of_grew ((Grew.refl wr).alloc _))⟩
      clear ei
      go_wp2_with fail
      go_roundw
      case rel => exact ⟨i, some ⟨wr.heap.size, 0, none⟩, by omega, rfl, rfl, HT2, HG.out.alloc _⟩
      case measure => simp [intOf]
    · obtain rfl : j = 0 := by omega
      have HT0 := HT.out
      rw [List.drop_zero] at HT0
      have HT2 := hidd HT0
      clear HT0
      go_wp2_with fail
      go_ret3
      rw [E.out]
      exact ⟨⟨q, rfl, HT2.out⟩, HM.out.kept (((Grew.refl w).alloc _).trans HG.out), Keep.of_grew (((Grew.refl w).alloc _).trans HG.out)⟩
theorem alts_push (l : List Pat) (k : List Todo) (a j : Nat) (m : MS) (h : j < l.length) :
    { m with choices := (l.drop j).map (fun q => (⟨⟨0, q, 0⟩ :: k, a, m.given⟩ : Ch)) ++ m.choices } =
    MS.later { m with choices := (l.drop (j + 1)).map (fun q => (⟨⟨0, q, 0⟩ :: k, a, m.given⟩ : Ch)) ++ m.choices } (⟨0, l.getD j Pat.zero, 0⟩ :: k) a := by
  rw [List.drop_eq_getElem_cons h]
  rw [show l.getD j Pat.zero = l[j] by rw [List.getD_eq_getElem?_getD, List.getElem?_eq_getElem h]; rfl]
  rfl
set_option maxRecDepth 100000 in
set_option maxHeartbeats 2000000 in
theorem enter_alt (h : MacRep X w0 bm rv s fuel m w) (hp : PatAt w0 nb no p) (hk : TodoAt w0 w kp k) (hkd : p.kind = 19) (hkl : 0 < p.kids.length) (hkl2 : p.kids.length ≤ 4096) (hc : m.choices.length ≤ 999990000) : EnterCalls R X w0 bm rv s fuel m w nb no p kp k a 0 := by
  obtain ⟨b', o', c, hn, hc1, hc2, hkids⟩ := hp.kid hkl
  have k0 := (hn.kept h.grew).c0
  have k4 := (hn.kept h.grew).c4
  have e1 : enter R p a k m = (some (⟨0, p.kid 0, 0⟩ :: k), { m with choices := (p.kids.drop 1).map (fun q => ⟨⟨0, q, 0⟩ :: k, a, m.given⟩) ++ m.choices }) := by
    unfold enter; rw [if_neg (by omega), if_neg (by omega), if_neg (by omega), if_neg (by omega), if_pos hkd]
  rw [hkd] at k0
  replace k0 : ∀ o, (w.alloc o).cell? ⟨nb, no, none⟩ = some (.int .i64 19) := fun o => ((Grew.refl w).alloc o).keeps k0
  have c6 : (w.alloc (.cells #[.pointer (some ⟨nb, no, none⟩)] 72)).cell? ⟨nb, no + 4, none⟩ = some (.slice (some ⟨b', o', none⟩) p.kids.length c) := ((Grew.refl w).alloc _).keeps k4
  have c7 : (w.alloc (.cells #[.pointer (some ⟨nb, no, none⟩)] 72)).cell? ⟨w.heap.size, 0, none⟩ = some (.pointer (some ⟨nb, no, none⟩)) := by rw [World.cell?_alloc_mark]; rfl
  have HM := hidd h
  have E := hidd e1
  have HK := hidd hk
  have HKids := hidd hkids
  have HN := hidd hn
  clear e1 hkd h hp hk hn hkids hc1 hc2
  unfold EnterCalls
  go_enter Tryd.func93, Tryd.ntmps93
  go_wp2_with fail
  have K4 := hidd k4
  clear c6 c7 k0 k4
  go_loopw [12] (fun v wr => ∃ j : Nat, 1 ≤ j ∧ j ≤ p.kids.length ∧ v = .int .i64 ((j : Int) - 1) ∧ Hid (MacRep X w0 bm rv s fuel { m with choices := (p.kids.drop j).map (fun q => (⟨⟨0, q, 0⟩ :: k, a, m.given⟩ : Ch)) ++ m.choices } wr) ∧ Hid (Keep w wr) ∧ Hid (wr.heap[w.heap.size]? = some (.cells #[.pointer (some ⟨nb, no, none⟩)] 72 (0, 0)))) (fun v _ => (intOf v).toNat)
  case atStart => exact ⟨p.kids.length, hkl, Nat.le_refl _, rfl, by rw [Hid, List.drop_length]; exact HM.out.kept ((Grew.refl w).alloc _), Keep.of_grew ((Grew.refl w).alloc _), heap_alloc_new w _⟩
  case round =>
    obtain ⟨j, h1, hj, rfl, HR, HW, HC⟩ := hrel
    have c6 : wr.cell? ⟨nb, no + 4, none⟩ = some (.slice (some ⟨b', o', none⟩) p.kids.length c) := (HN.out.kept HR.out.grew).c4
    have c7 := cell_of_one HC.out
    by_cases h0 : 1 < j
    · obtain ⟨i, rfl⟩ : ∃ i, j = i + 1 := ⟨j - 1, by omega⟩
      have hi : i < p.kids.length := by omega
      have ei : ((i + 1 : Nat) : Int) - 1 = i := by omega
      rw [ei]
      have z1 : decide (0 < i) = true := decide_eq_true (by omega)
      have HL : Hid (∀ w1, Grew wr w1 → Calls Tryd.prog 115 #[.pointer (some ⟨bm, 0, none⟩), .int .i64 0, .pointer (some ⟨b', o' + i * 5, none⟩), .int .i64 a, .int .i64 0, .pointer kp] w1 fun e w' => e = .returned (.tuple #[]) ∧ MacRep X w0 bm rv s fuel { m with choices := (p.kids.drop i).map (fun q => (⟨⟨0, q, 0⟩ :: k, a, m.given⟩ : Ch)) ++ m.choices } w' ∧ Keep w1 w') := by
        intro w1 g
        rw [alts_push p.kids k a i m hi]
        exact later_int (HR.out.kept g) 0 0 (by rfl) (by omega) (by rfl) (HKids.out i hi) ((HK.out.kept HW.out).kept (Keep.of_grew g)) (by
          show (_ ++ m.choices).length ≤ _
          rw [List.length_append, List.length_map, List.length_drop]; omega)
      clear ei
      go_wp2_with fail
      refine (HL.out _ (Grew.refl _)).mono ?_; rintro e w2 ⟨rfl, h2, k2⟩
      have H2 := hidd h2
      have K2 := hidd k2
      clear h2 k2
      go_wp2_with fail
      go_roundw
      case rel => exact ⟨i, by omega, by omega, rfl, H2, HW.out.trans K2.out, K2.out.block _ _ _ rfl HC.out⟩
      case measure => simp [intOf] <;> omega
    · obtain rfl : j = 1 := by omega
      have z1 : decide ((0 : Int) < (1 : Int) - 1) = false := by decide
      have hk0 := HKids.out 0 hkl
      rw [Nat.zero_mul, Nat.add_zero] at hk0
      have HK0 := hidd hk0
      clear hk0
      go_wp2_with fail
      go_ret3
      rw [E.out]
      have g := (Grew.refl wr).alloc (.cells #[.int .i64 0, .pointer (some ⟨b', o', none⟩), .int .i64 0, .pointer kp] 188)
      exact ⟨⟨some ⟨wr.heap.size, 0, none⟩, rfl, ⟨wr.heap.size, b', o', kp, rfl, heap_alloc_new wr _, HK0.out, HK.out.kept (HW.out.trans (Keep.of_grew g))⟩⟩, HR.out.kept g, HW.out.trans (Keep.of_grew g)⟩
theorem call_name (r : Rule) (kv : Value) (w : World) (x : Nat) (hx : w.cell? ⟨x, 0, none⟩ = some (.pointer (some ⟨nb, no, none⟩))) (hn : w.cell? ⟨nb, no + 3, none⟩ = some (.string p.name)) :
    Calls Tryd.prog 120 #[.agg (r.cells kv), .pointer (some ⟨x, 0, none⟩)] w fun e w' => e = .returned (.bool (sameText r.1 p.name)) ∧ Grew w w' := by
  unfold Rule.cells
  have HE : Hid (sameText r.1 p.name = (r.1.toList == p.name.toList)) := by rw [Hid, Lib.toList_data, Lib.toList_data]; rfl
  have hx2 : ∀ o, (w.alloc o).cell? ⟨x, 0, none⟩ = some (.pointer (some ⟨nb, no, none⟩)) := fun o => ((Grew.refl w).alloc o).keeps hx
  have hn2 : ∀ o, (w.alloc o).cell? ⟨nb, no + 3, none⟩ = some (.string p.name) := fun o => ((Grew.refl w).alloc o).keeps hn
  go_enter Tryd.func120, Tryd.ntmps120
  go_wp2_with fail
  go_quiet (fail)
  go_wp2_with fail
  go_ret
  rw [HE.out]
  exact ⟨rfl, ((Grew.refl _).alloc _).drewN _⟩
theorem ruleOf_find (R : List Rule) (name : ByteArray) : ruleOf R name = (match R.findIdx? (fun r => sameText r.1 name) with | some i => some (R.getD i Rule.zero).2 | none => none) := by
  unfold ruleOf
  induction R with
  | nil => rfl
  | cons r l ih =>
    rw [List.find?_cons, List.findIdx?_cons]
    cases h : sameText r.1 name with
    | true => rfl
    | false =>
      simp only [Bool.false_eq_true, if_false]
      rw [ih]
      cases List.findIdx? (fun r => sameText r.1 name) l with
      | none => rfl
      | some i => simp
theorem findIdx_lt {α : Type} (t : α → Bool) : ∀ (l : List α) (i : Nat), l.findIdx? t = some i → i < l.length
  | [], i, h => by cases h
  | x :: l, i, h => by
    rw [List.findIdx?_cons] at h
    split at h
    · cases h; simp
    · cases hh : List.findIdx? t l with
      | none => rw [hh] at h; cases h
      | some j =>
        rw [hh] at h; cases h
        have := findIdx_lt t l j hh
        simp; omega
set_option maxRecDepth 100000 in
set_option maxHeartbeats 2000000 in
theorem enter_call (h : MacRep X w0 bm rv s fuel m w) (hp : PatAt w0 nb no p) (hk : TodoAt w0 w kp k) (hkd : p.kind = 24) (hR : RulesAt w0 rv R) (hR2 : R.length ≤ 64) : EnterCalls R X w0 bm rv s fuel m w nb no p kp k a 7 := by
  obtain ⟨v, hn, _⟩ := hp.open
  have k0 := (hn.kept h.grew).c0
  have k3 := (hn.kept h.grew).c3
  have c0 : w.cell? ⟨bm, 0, none⟩ = some rv := by obtain ⟨sv, cv, gp, vs, h⟩ := h; exact h.c0
  have e1 : enter R p a k m = (match ruleOf R p.name with | some q => (some (⟨0, q, 0⟩ :: k), m) | none => (none, m)) := by
    unfold enter; rw [if_neg (by omega), if_neg (by omega), if_neg (by omega), if_neg (by omega), if_neg (by omega), if_neg (by omega), if_neg (by omega), if_neg (by omega), if_pos hkd]; rfl
  rw [ruleOf_find] at e1
  rw [hkd] at k0
  replace k0 : ∀ o, (w.alloc o).cell? ⟨nb, no, none⟩ = some (.int .i64 24) := fun o => ((Grew.refl w).alloc o).keeps k0
  have d0 : ∀ o, (w.alloc o).cell? ⟨bm, 0, none⟩ = some rv := fun o => ((Grew.refl w).alloc o).keeps c0
  have HW : Hid (Grew w (w.alloc (.cells #[.pointer (some ⟨nb, no, none⟩)] 72))) := (Grew.refl w).alloc _
  have HF : Hid (Calls Tryd.prog 119 #[rv, .func (.func 120) #[] #[.pointer (some ⟨w.heap.size, 0, none⟩)]] (w.alloc (.cells #[.pointer (some ⟨nb, no, none⟩)] 72)) fun e w' =>
      e = .returned (.int .i64 (optInt (R.findIdx? (fun r => sameText r.1 p.name)))) ∧ Grew (w.alloc (.cells #[.pointer (some ⟨nb, no, none⟩)] 72)) w') :=
    IndexFunc_rules 120 (.pointer (some ⟨w.heap.size, 0, none⟩)) (Or.inr rfl) (fun r => sameText r.1 p.name) rv R _ (hR.kept (h.grew.trans HW.out)) (fun r _ kv w1 g1 _ => call_name (nb := nb) (no := no) (p := p) r kv w1 w.heap.size (g1.keeps (by rw [World.cell?_alloc_mark]; rfl)) (g1.keeps (HW.out.keeps k3)))
  have HM := hidd h
  have HK := hidd hk
  have HRU := hidd hR
  obtain ⟨oi, hoi⟩ : ∃ oi, R.findIdx? (fun r => sameText r.1 p.name) = oi := ⟨_, rfl⟩
  rw [hoi] at HF e1
  have HLT : Hid (∀ i, oi = some i → i < R.length) := fun i hi => findIdx_lt _ R i (by rw [hoi, hi])
  clear h hp hk hkd hn hR hoi k3 c0
  unfold EnterCalls
  cases oi with
  | none =>
    have E : Hid (enter R p a k m = (none, m)) := e1
    dsimp only [optInt] at HF
    clear e1
    go_enter Tryd.func93, Tryd.ntmps93
    go_wp2_with fail
    refine HF.out.mono ?_; rintro e w2 ⟨rfl, g2⟩
    have G2 := hidd (HW.out.trans g2)
    clear g2
    go_wp2_with fail
    go_ret3
    rw [E.out]
    exact ⟨rfl, HM.out.kept G2.out, Keep.of_grew G2.out⟩
  | some i =>
    have E : Hid (enter R p a k m = (some (⟨0, (R.getD i Rule.zero).2, 0⟩ :: k), m)) := e1
    dsimp only [optInt] at HF
    have hi := HLT.out i rfl
    rcases HRU.out with ⟨_, _, _, e0⟩ | ⟨rb, ro, rc, rfl, r0, r1, r2, r3⟩
    · rw [e0] at hi; simp at hi
    have hPi := hidd (r3 i hi).2.2
    have e0 : decide ((i : Int) < 0) = false := decide_eq_false (by omega)
    have hrl : R.length ≤ 9223372036854775807 := by omega
    clear e1 HRU r3 r2 HLT
    go_enter Tryd.func93, Tryd.ntmps93
    go_wp2_with fail
    refine HF.out.mono ?_; rintro e w2 ⟨rfl, g2⟩
    have G2 := hidd (HW.out.trans g2)
    have d1 : w2.cell? ⟨bm, 0, none⟩ = some (.slice (some ⟨rb, ro, none⟩) R.length rc) := g2.keeps (d0 _)
    clear g2
    go_wp2_with fail
    go_ret3
    rw [E.out]
    have g := (Grew.refl w2).alloc (.cells #[.int .i64 0, .pointer (some ⟨rb, ro + i * 6 + 1, none⟩), .int .i64 0, .pointer kp] 188)
    exact ⟨⟨some ⟨w2.heap.size, 0, none⟩, rfl, ⟨w2.heap.size, rb, ro + i * 6 + 1, kp, rfl, heap_alloc_new w2 _, hPi.out, HK.out.kept (Keep.of_grew (G2.out.trans g))⟩⟩, HM.out.kept (G2.out.trans g), Keep.of_grew (G2.out.trans g)⟩
end
end Go.Proofs.YtkkdpafkafjfgaaDoor
