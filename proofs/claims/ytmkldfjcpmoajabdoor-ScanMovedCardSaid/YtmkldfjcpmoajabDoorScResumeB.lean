/- The machine's method resume, the other kinds. -/
import Derived.Test.YtmkldfjcpmoajabDoorScResume
namespace Go.Proofs.YtmkldfjcpmoajabDoor
open Go.RowKit
set_option linter.unusedVariables false
section
variable {X : Far} {w0 w : World} {bm tb nb no : Nat} {q : Option Addr} {rv : Value} {s : ByteArray} {fuel : Nat} {m : MS} {t : Todo} {k : List Todo} {a : Nat}

set_option maxRecDepth 100000 in
set_option maxHeartbeats 1000000 in
theorem resume_fence (h : MacRep X w0 bm rv s fuel m w) (hh : Head w0 w tb nb no q t k) (ho : t.op = 8) : ResumeCalls X w0 bm rv s fuel m w tb t k a := by
  have t0 := hh.t0
  have t1 := hh.t1
  have t2 := hh.t2
  have t3 := hh.t3
  have e1 : resume s t k a m = (none, m.shut) := by unfold resume; dsimp only; rw [if_pos ho]
  obtain ⟨sv, cv, gp, vs, h⟩ := h
  have c1 := h.c1
  rw [ho] at t0
  have E := hidd e1
  clear hh ho e1
  unfold ResumeCalls
  have c7 := h.c7
  have f7 := h.free 7
  have d5 : (w.setCell ⟨bm, 7, none⟩ (.bool true)).cell? ⟨bm, 5, none⟩ = some cv := by rw [setCell_cell_other _ _ _ _ (.inr (by simp))]; exact h.c5
  have d6 : (w.setCell ⟨bm, 7, none⟩ (.bool true)).frozen? ⟨bm, 5, none⟩ = false := by rw [setCell_frozen]; exact h.free 5
  have d7 : ∀ n, ((w.drewN n).setCell ⟨bm, 7, none⟩ (.bool true)).cell? ⟨bm, 5, none⟩ = some cv := fun n => d5
  have d8 : ∀ n, ((w.drewN n).setCell ⟨bm, 7, none⟩ (.bool true)).frozen? ⟨bm, 5, none⟩ = false := fun n => d6
  rcases h.own.2 with ⟨rfl, hn0⟩ | ⟨g, cap, cur, rfl, g1, g2, g3, g4, g5, g6⟩
  · have HE := hidd (shut_end h (World.ownsRow_nil w _ _ 3))
    clear h hn0
    go_enter Tryd.func27, Tryd.ntmps27
    go_wp2_with fail
    go_quiet (fail)
    go_wp2_with fail
    go_ret3
    rw [E.out]
    exact ⟨rfl, by first | exact HE.out.1.kept ((Grew.refl _).drewN _) | exact HE.out.1, by first | exact HE.out.2.drewN _ | exact HE.out.2⟩
  · have HE := hidd (shut_end h (cv' := .slice (some ⟨g, 0, none⟩) 0 cap) ⟨by simp, .inr ⟨g, cap, cur, rfl, g1, g2, by omega, g4, g5, by simp⟩⟩)
    clear h g1 g2 g3 g4 g5 g6
    go_enter Tryd.func27, Tryd.ntmps27
    go_wp2_with fail
    go_quiet (fail)
    go_wp2_with fail
    go_ret3
    rw [E.out]
    exact ⟨rfl, by first | exact HE.out.1.kept ((Grew.refl _).drewN _) | exact HE.out.1, by first | exact HE.out.2.drewN _ | exact HE.out.2⟩

theorem heap_two (w : World) (o o' : Obj) : ((w.alloc o).alloc o').heap[w.heap.size]? = some o ∧ ((w.alloc o).alloc o').heap[w.heap.size + 1]? = some o' := by
  refine ⟨?_, ?_⟩
  · rw [heap_alloc_old _ _ (by simp)]; exact heap_alloc_new w o
  · rw [show w.heap.size + 1 = (w.alloc o).heap.size by simp]; exact heap_alloc_new _ o'

set_option maxRecDepth 100000 in
set_option maxHeartbeats 1000000 in
theorem resume_again (h : MacRep X w0 bm rv s fuel m w) (hh : Head w0 w tb nb no q t k) (ho : t.op = 4) (hk : 0 < t.node.kids.length) : ResumeCalls X w0 bm rv s fuel m w tb t k a := by
  have t0 := hh.t0
  have t1 := hh.t1
  have t2 := hh.t2
  have t3 := hh.t3
  have e1 : resume s t k a m = (some (⟨0, t.node.kid 0, 0⟩ :: ⟨5, t.node, a⟩ :: k, a), m) := by
    unfold resume; dsimp only; rw [if_neg (by omega), if_neg (by omega), if_neg (by omega), if_neg (by omega), if_pos ho]
  obtain ⟨b', o', c, hn, hc1, hc2, hkids⟩ := hh.p.kid hk
  have hk0 := hkids 0 hk
  rw [Nat.zero_mul, Nat.add_zero] at hk0
  have k4 := (hn.kept h.grew).c4
  have c1 : w.cell? ⟨bm, 1, none⟩ = some (.string s) := by obtain ⟨sv, cv, gp, vs, h⟩ := h; exact h.c1
  rw [ho] at t0
  have E := hidd e1
  have HM := hidd h
  have HH := hidd hh
  have HK := hidd hk0
  have hkl : t.node.kids.length ≤ 9223372036854775807 := by unfold maxLen at hc2; omega
  clear hh ho e1 h hn hkids hk0 hc1 hc2
  unfold ResumeCalls
  go_enter Tryd.func27, Tryd.ntmps27
  go_wp2_with fail
  go_quiet (fail)
  go_wp2_with fail
  go_ret3
  rw [E.out]
  have g := ((Grew.refl w).alloc (.cells #[.int .i64 5, .pointer (some ⟨nb, no, none⟩), .int .i64 a, .pointer q] 74)).alloc (.cells #[.int .i64 0, .pointer (some ⟨b', o', none⟩), .int .i64 0, .pointer (some ⟨w.heap.size, 0, none⟩)] 74)
  obtain ⟨b1, b2⟩ := heap_two w (.cells #[.int .i64 5, .pointer (some ⟨nb, no, none⟩), .int .i64 a, .pointer q] 74) (.cells #[.int .i64 0, .pointer (some ⟨b', o', none⟩), .int .i64 0, .pointer (some ⟨w.heap.size, 0, none⟩)] 74)
  refine ⟨⟨some ⟨w.heap.size + 1, 0, none⟩, rfl, ⟨w.heap.size + 1, b', o', some ⟨w.heap.size, 0, none⟩, rfl, b2, HK.out, w.heap.size, nb, no, q, rfl, b1, HH.out.p, ?_⟩⟩, ?_, ?_⟩
  · exact HH.out.k.kept ((Keep.of_grew g).drewN _)
  · exact (HM.out.kept g).kept ((Grew.refl _).drewN _)
  · exact (Keep.of_grew g).drewN _

theorem give_end {sv cv : Value} {gp : Option Addr} {vs : List Value} (h : MacSt X w0 bm rv s fuel m w sv cv gp vs) {x : Gift} (n : Nat) :
    MacRep X w0 bm rv s fuel { m with given := m.given ++ [x] } (((w.drewN n).alloc (.cells #[.string x.1, .string x.2, .pointer gp] 83)).setCell ⟨bm, 6, none⟩ (.pointer (some ⟨w.heap.size, 0, none⟩))) ∧
    Keep w (((w.drewN n).alloc (.cells #[.string x.1, .string x.2, .pointer gp] 83)).setCell ⟨bm, 6, none⟩ (.pointer (some ⟨w.heap.size, 0, none⟩))) := by
  have g : Grew w ((w.drewN n).alloc (.cells #[.string x.1, .string x.2, .pointer gp] 83)) := ((Grew.refl w).drewN n).alloc _
  obtain ⟨h2, k2⟩ := given_set (m' := { m with given := m.given ++ [x] }) (gp' := some ⟨w.heap.size, 0, none⟩) (h.kept g) (by
    show GiftsR _ _ _
    dsimp only
    rw [List.reverse_append]
    exact ⟨w.heap.size, gp, rfl, heap_alloc_new (w.drewN n) _, h.given.kept (Keep.of_grew g)⟩) rfl rfl rfl rfl
  exact ⟨⟨_, _, _, _, h2⟩, (Keep.of_grew g).trans k2⟩

set_option maxRecDepth 100000 in
set_option maxHeartbeats 1000000 in
theorem resume_give (h : MacRep X w0 bm rv s fuel m w) (hh : Head w0 w tb nb no q t k) (ho : t.op = 6) (hs : s.size ≤ 65536) (ha : a ≤ s.size) (hst : t.start ≤ a) : ResumeCalls X w0 bm rv s fuel m w tb t k a := by
  have t0 := hh.t0
  have t1 := hh.t1
  have t2 := hh.t2
  have t3 := hh.t3
  have e1 : resume s t k a m = (some (k, a), { m with given := m.given ++ [(t.node.name, s.extract t.start a)] }) := by
    unfold resume; dsimp only; rw [if_neg (by omega), if_neg (by omega), if_neg (by omega), if_neg (by omega), if_neg (by omega), if_neg (by omega), if_pos ho]
  have k3 : w.cell? ⟨nb, no + 3, none⟩ = some (.string t.node.name) := by
    obtain ⟨v, hv⟩ := hh.p.open
    exact (hv.1.kept h.grew).c3
  obtain ⟨sv, cv, gp, vs, h⟩ := h
  have c1 := h.c1
  have c6 := h.c6
  have f6 := h.free 6
  rw [ho] at t0
  have E := hidd e1
  have HM := hidd h
  have HH := hidd hh
  have ca : ∀ n o, ((w.drewN n).alloc o).cell? ⟨bm, 6, none⟩ = some (.pointer gp) := fun n o => by
    rw [(((Grew.refl w).drewN n).alloc o).cell h.lt]; exact c6
  have fa : ∀ n o, ((w.drewN n).alloc o).frozen? ⟨bm, 6, none⟩ = false := fun n o => by
    rw [(((Grew.refl w).drewN n).alloc o).frozen h.lt]; exact f6
  clear hh ho e1 h
  unfold ResumeCalls
  go_enter Tryd.func27, Tryd.ntmps27
  go_wp2_with fail
  go_quiet (fail)
  go_wp2_with fail
  go_region
  all_goals
    go_wp2_with fail
    go_ret3
    rw [E.out]
    obtain ⟨h2, k2⟩ := give_end (x := (t.node.name, s.extract t.start a)) HM.out (nq + 1)
    exact ⟨⟨q, rfl, HH.out.k.kept k2⟩, h2, k2⟩

set_option maxRecDepth 100000 in
set_option maxHeartbeats 1000000 in
theorem resume_say (h : MacRep X w0 bm rv s fuel m w) (hh : Head w0 w tb nb no q t k) (ho : t.op = 7) (hs : s.size ≤ 65536) (ha : a ≤ s.size) (hst : t.start ≤ a) (hd : m.said.length ≤ 1000000000000) : ResumeCalls X w0 bm rv s fuel m w tb t k a := by
  have t0 := hh.t0
  have t1 := hh.t1
  have t2 := hh.t2
  have t3 := hh.t3
  have e1 : resume s t k a m = (some (k, a), m.speak (t.node.name, s.extract t.start a)) := by
    unfold resume; dsimp only; rw [if_neg (by omega), if_neg (by omega), if_neg (by omega), if_neg (by omega), if_neg (by omega), if_neg (by omega), if_neg (by omega)]
  have k3 : w.cell? ⟨nb, no + 3, none⟩ = some (.string t.node.name) := by
    obtain ⟨v, hv⟩ := hh.p.open
    exact (hv.1.kept h.grew).c3
  have HS : Hid (∀ w1, Grew w w1 → Calls Tryd.prog 41 #[.pointer (some ⟨bm, 0, none⟩), .string t.node.name, .string (s.extract t.start a)] w1 fun e w' => e = .returned (.tuple #[]) ∧ MacRep X w0 bm rv s fuel (m.speak (t.node.name, s.extract t.start a)) w' ∧ Keep w1 w') := fun w1 g => say_any (h.kept g) t.node.name (s.extract t.start a) hd
  obtain ⟨sv, cv, gp, vs, h⟩ := h
  have c1 := h.c1
  rw [ho] at t0
  have E := hidd e1
  have HM := hidd h
  have HH := hidd hh
  have HG := hidd (fun n => (Grew.refl w).drewN n)
  clear hh ho e1 h
  unfold ResumeCalls
  go_enter Tryd.func27, Tryd.ntmps27
  go_wp2_with fail
  go_quiet (fail)
  go_wp2_with fail
  go_region_held3 (fun w' => w'.cell? ⟨nb, no + 3, none⟩ = some (.string t.node.name) ∧ w'.cell? ⟨tb, 2, none⟩ = some (.int .i64 t.start)) (first | go_keep | exact hnm)
    (first
     | (go_at_call 41; refine (HS.out _ (HG.out _)).mono ?_; rintro e w3 ⟨rfl, h3, k3'⟩; have hnm : w3.cell? ⟨nb, no + 3, none⟩ = some (.string t.node.name) ∧ w3.cell? ⟨tb, 2, none⟩ = some (.int .i64 t.start) := ⟨by obtain ⟨v, hv⟩ := HH.out.p.open; exact (hv.1.kept h3.grew).c3, (HH.out.kept ((Keep.of_grew (HG.out _)).trans k3')).t2⟩; have H3 : Hid (MacRep X w0 bm rv s fuel (m.speak (t.node.name, s.extract t.start a)) w3 ∧ Keep w w3) := ⟨h3, (Keep.of_grew (HG.out _)).trans k3'⟩; clear h3 k3'))
  all_goals
    go_wp2_with fail
    go_ret3
    rw [E.out]
    exact ⟨⟨q, rfl, HH.out.k.kept H3.out.2⟩, H3.out.1, H3.out.2⟩
end
end Go.Proofs.YtmkldfjcpmoajabDoor
