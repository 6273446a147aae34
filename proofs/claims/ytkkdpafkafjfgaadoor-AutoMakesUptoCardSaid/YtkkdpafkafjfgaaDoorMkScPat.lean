/- Patterns as they lie in memory. No condition. -/
import Derived.Test.YtkkdpafkafjfgaaDoorMkPArr
import Derived.Test.YtkkdpafkafjfgaaDoorMkScTr
import Derived.OneCell
import Derived.RegionTactic
import Derived.ChangeAlike
import Derived.Test.YtkkdpafkafjfgaaDoorMkPBase
import Derived.Lib.ItoaWalk
namespace Go.Proofs.YtkkdpafkafjfgaaDoor
open Go.RowKit
set_option linter.unusedVariables false
def Pat.zero : Pat := .mk 0 ByteArray.empty 0 ByteArray.empty []
inductive PatAt (w : World) : Nat → Nat → Pat → Prop where
  | leaf (b o : Nat) (k : Int) (t : ByteArray) (n : Int) (m : ByteArray) (a : Option Addr) (c : Nat)
      (c0 : w.cell? ⟨b, o, none⟩ = some (.int .i64 k)) (c1 : w.cell? ⟨b, o + 1, none⟩ = some (.string t)) (c2 : w.cell? ⟨b, o + 2, none⟩ = some (.int .i64 n)) (c3 : w.cell? ⟨b, o + 3, none⟩ = some (.string m))
      (c4 : w.cell? ⟨b, o + 4, none⟩ = some (.slice a 0 c)) (hk : -9223372036854775808 ≤ k ∧ k ≤ 9223372036854775807) (hn : -9223372036854775808 ≤ n ∧ n ≤ 9223372036854775807) (ht : t.size ≤ maxLen) (hm : m.size ≤ maxLen) :
      PatAt w b o (.mk k t n m [])
  | node (b o : Nat) (k : Int) (t : ByteArray) (n : Int) (m : ByteArray) (l : List Pat) (b' o' c : Nat)
      (c0 : w.cell? ⟨b, o, none⟩ = some (.int .i64 k)) (c1 : w.cell? ⟨b, o + 1, none⟩ = some (.string t)) (c2 : w.cell? ⟨b, o + 2, none⟩ = some (.int .i64 n)) (c3 : w.cell? ⟨b, o + 3, none⟩ = some (.string m))
      (c4 : w.cell? ⟨b, o + 4, none⟩ = some (.slice (some ⟨b', o', none⟩) l.length c)) (hk : -9223372036854775808 ≤ k ∧ k ≤ 9223372036854775807) (hn : -9223372036854775808 ≤ n ∧ n ≤ 9223372036854775807) (ht : t.size ≤ maxLen) (hm : m.size ≤ maxLen)
      (h0 : 0 < l.length) (hc : l.length ≤ c) (hc' : c ≤ maxLen) (hl : ∀ i, i < l.length → PatAt w b' (o' + i * 5) (l.getD i Pat.zero)) :
      PatAt w b o (.mk k t n m l)
def KidsAt (w : World) (v : Value) (l : List Pat) : Prop :=
  (∃ a c, v = .slice a 0 c ∧ l = []) ∨ ∃ b o c : Nat, v = .slice (some ⟨b, o, none⟩) l.length c ∧ 0 < l.length ∧ l.length ≤ c ∧ c ≤ maxLen ∧ ∀ i, i < l.length → PatAt w b (o + i * 5) (l.getD i Pat.zero)
structure NodeAt (w : World) (b o : Nat) (p : Pat) (v : Value) : Prop where
  c0 : w.cell? ⟨b, o, none⟩ = some (.int .i64 p.kind)
  c1 : w.cell? ⟨b, o + 1, none⟩ = some (.string p.text)
  c2 : w.cell? ⟨b, o + 2, none⟩ = some (.int .i64 p.n)
  c3 : w.cell? ⟨b, o + 3, none⟩ = some (.string p.name)
  c4 : w.cell? ⟨b, o + 4, none⟩ = some v
  hk : -9223372036854775808 ≤ p.kind ∧ p.kind ≤ 9223372036854775807
  hn : -9223372036854775808 ≤ p.n ∧ p.n ≤ 9223372036854775807
  ht : p.text.size ≤ maxLen
  hm : p.name.size ≤ maxLen
theorem PatAt.open {w : World} {b o : Nat} {p : Pat} (h : PatAt w b o p) : ∃ v, NodeAt w b o p v ∧ KidsAt w v p.kids := by
  cases h with
  | leaf _ _ k t n m a c c0 c1 c2 c3 c4 hk hn ht hm => exact ⟨_, ⟨c0, c1, c2, c3, c4, hk, hn, ht, hm⟩, Or.inl ⟨a, c, rfl, rfl⟩⟩
  | node _ _ k t n m l b' o' c c0 c1 c2 c3 c4 hk hn ht hm h0 hc hc' hl => exact ⟨_, ⟨c0, c1, c2, c3, c4, hk, hn, ht, hm⟩, Or.inr ⟨b', o', c, rfl, h0, hc, hc', hl⟩⟩
theorem PatAt.shut {w : World} {b o : Nat} {p : Pat} {v : Value} (h : NodeAt w b o p v) (k : KidsAt w v p.kids) : PatAt w b o p := by
  obtain ⟨kd, t, n, m, l⟩ := p
  rcases k with ⟨a, c, rfl, e⟩ | ⟨b', o', c, rfl, h0, hc, hc', hl⟩
  · have e : l = [] := e
    subst e
    exact .leaf b o kd t n m a c h.c0 h.c1 h.c2 h.c3 h.c4 h.hk h.hn h.ht h.hm
  · exact .node b o kd t n m l b' o' c h.c0 h.c1 h.c2 h.c3 h.c4 h.hk h.hn h.ht h.hm h0 hc hc' hl
theorem PatAt.kept {w w' : World} (g : Grew w w') {b o : Nat} {p : Pat} (h : PatAt w b o p) : PatAt w' b o p := by
  induction h with
  | leaf b o k t n m a c c0 c1 c2 c3 c4 hk hn ht hm => exact .leaf b o k t n m a c (g.keeps c0) (g.keeps c1) (g.keeps c2) (g.keeps c3) (g.keeps c4) hk hn ht hm
  | node b o k t n m l b' o' c c0 c1 c2 c3 c4 hk hn ht hm h0 hc hc' hl ih => exact .node b o k t n m l b' o' c (g.keeps c0) (g.keeps c1) (g.keeps c2) (g.keeps c3) (g.keeps c4) hk hn ht hm h0 hc hc' ih
theorem KidsAt.kept {w w' : World} (g : Grew w w') {v : Value} {l : List Pat} (h : KidsAt w v l) : KidsAt w' v l := by
  rcases h with h | ⟨b, o, c, h1, h2, h3, h4, h5⟩
  · exact Or.inl h
  · exact Or.inr ⟨b, o, c, h1, h2, h3, h4, fun i hi => (h5 i hi).kept g⟩
theorem NodeAt.kept {w w' : World} (g : Grew w w') {b o : Nat} {p : Pat} {v : Value} (h : NodeAt w b o p v) : NodeAt w' b o p v :=
  ⟨g.keeps h.c0, g.keeps h.c1, g.keeps h.c2, g.keeps h.c3, g.keeps h.c4, h.hk, h.hn, h.ht, h.hm⟩
theorem NodeAt.lt {w : World} {b o : Nat} {p : Pat} {v : Value} (h : NodeAt w b o p v) : b < w.heap.size := lt_of_cell h.c0
structure PatV (w : World) (kv : Value) (p : Pat) : Prop where
  kids : KidsAt w kv p.kids
  hk : -9223372036854775808 ≤ p.kind ∧ p.kind ≤ 9223372036854775807
  hn : -9223372036854775808 ≤ p.n ∧ p.n ≤ 9223372036854775807
  ht : p.text.size ≤ maxLen
  hm : p.name.size ≤ maxLen
def Pat.cells (p : Pat) (kv : Value) : Array Value := #[.int .i64 p.kind, .string p.text, .int .i64 p.n, .string p.name, kv]
theorem PatV.kept {w w' : World} (g : Grew w w') {kv : Value} {p : Pat} (h : PatV w kv p) : PatV w' kv p := ⟨h.kids.kept g, h.hk, h.hn, h.ht, h.hm⟩
theorem PatV.box {w : World} {kv : Value} {p : Pat} (h : PatV w kv p) (t : TypeId) : PatAt (w.alloc (.cells (p.cells kv) t)) w.heap.size 0 p :=
  .shut ⟨by rw [World.cell?_alloc_mark]; rfl, by rw [World.cell?_alloc_mark]; rfl, by rw [World.cell?_alloc_mark]; rfl, by rw [World.cell?_alloc_mark]; rfl, by rw [World.cell?_alloc_mark]; rfl, h.hk, h.hn, h.ht, h.hm⟩ (h.kids.kept ((Grew.refl w).alloc _))
theorem PatAt.value {w : World} {b o : Nat} {p : Pat} (h : PatAt w b o p) : ∃ kv, NodeAt w b o p kv ∧ PatV w kv p := by
  obtain ⟨v, h1, h2⟩ := h.open
  exact ⟨v, h1, h2, h1.hk, h1.hn, h1.ht, h1.hm⟩
mutual
def sizeW : Pat → Nat → Nat → Nat → Bool × Nat × Nat
  | .mk _ _ _ _ l, d, N, D => if N + 1 ≤ 4096 ∧ d ≤ 200 then sizeL l (d + 1) (N + 1) (max D d) else (false, N + 1, max D d)
def sizeL : List Pat → Nat → Nat → Nat → Bool × Nat × Nat
  | [], _, N, D => (true, N, D)
  | p :: l, d, N, D => (match sizeW p d N D with | (true, N', D') => sizeL l d N' D' | r => r)
end
end Go.Proofs.YtkkdpafkafjfgaaDoor
namespace Go.Proofs.YtkkdpafkafjfgaaDoor
open Go.RowKit
set_option linter.unusedVariables false
set_option maxRecDepth 100000 in
theorem size_visit (b : Option Addr) (d N D bn bd : Nat) (w : World) (t : TypeId) (hd : d ≤ 1000) (hN : N ≤ 4096) (hD : D ≤ 1000) (h1 : w.heap[bn]? = some (.cells #[.int .i64 N] t (0, 0))) (h2 : w.heap[bd]? = some (.cells #[.int .i64 D] t (0, 0))) (hne : bn ≠ bd) :
    Calls Tryd.prog 96 #[.pointer b, .int .i64 d, .pointer (some ⟨bn, 0, none⟩), .pointer (some ⟨bd, 0, none⟩)] w fun e w' =>
      e = .returned (.bool (decide (N + 1 ≤ 4096 ∧ d ≤ 200))) ∧ w' = (w.setCell ⟨bn, 0, none⟩ (.int .i64 (N + 1 : Nat))).setCell ⟨bd, 0, none⟩ (.int .i64 (max D d : Nat)) := by
  have c1 := cell_of_one h1
  have c2 := cell_of_one h2
  have f1 := free_of_one h1
  have f2 := free_of_one h2
  have c2' : ∀ u, (w.setCell ⟨bn, 0, none⟩ u).cell? ⟨bd, 0, none⟩ = some (.int .i64 D) := fun u => by rw [setCell_cell_other _ _ _ _ (.inl hne)]; exact c2
  have c1' : ∀ u, (w.setCell ⟨bn, 0, none⟩ u).cell? ⟨bn, 0, none⟩ = some u := fun u => setCell_cell_same rfl c1
  have c1'' : ∀ u v, ((w.setCell ⟨bn, 0, none⟩ u).setCell ⟨bd, 0, none⟩ v).cell? ⟨bn, 0, none⟩ = some u := fun u v => by rw [setCell_cell_other _ _ _ _ (.inl (Ne.symm hne))]; exact c1' u
  have H1 := hidd h1
  have H2 := hidd h2
  have HN := hidd hne
  clear h1 h2 hne
  by_cases hm : D < d
  all_goals
    by_cases g1 : N + 1 ≤ 4096
    all_goals
      by_cases g2 : d ≤ 200
      all_goals
        have G1 := hidd g1
        have G2 := hidd g2
        have k1 : decide ((N : Int) + 1 ≤ 4096) = decide (N + 1 ≤ 4096) := by rw [decide_eq_decide]; omega
        have k2 : decide ((d : Int) ≤ 200) = decide (d ≤ 200) := by rw [decide_eq_decide]; omega
        simp only [g1, g2, decide_true, decide_false] at k1 k2
        clear g1 g2
        go_enter Tryd.func96, Tryd.ntmps96
        go_wp2_with fail
        go_ret
        refine ⟨ret_bool (by have := G1.out; have := G2.out; simp; omega), ?_⟩
        first | rw [Nat.max_eq_right (by omega)] | rw [Nat.max_eq_left (by omega)]
        rfl
mutual
theorem sizeW_true : ∀ (p : Pat) (d N D N' D' : Nat), sizeW p d N D = (true, N', D') → N' ≤ 4096 ∧ D' ≤ max D 200
  | .mk _ _ _ _ l, d, N, D, N', D', h => by
    unfold sizeW at h
    split at h
    · rename_i hc
      have := sizeL_true l (d + 1) (N + 1) (max D d) N' D' h hc.1
      omega
    · cases h
theorem sizeL_true : ∀ (l : List Pat) (d N D N' D' : Nat), sizeL l d N D = (true, N', D') → N ≤ 4096 → N' ≤ 4096 ∧ D' ≤ max D 200
  | [], d, N, D, N', D', h, hN => by
    unfold sizeL at h
    simp only [Prod.mk.injEq, true_and] at h
    omega
  | p :: l, d, N, D, N', D', h, hN => by
    unfold sizeL at h
    obtain ⟨r, N1, D1, he⟩ : ∃ r N1 D1, sizeW p d N D = (r, N1, D1) := ⟨_, _, _, rfl⟩
    rw [he] at h
    cases r with
    | false => cases h
    | true =>
      have h1 := sizeW_true p d N D N1 D1 he
      have h2 := sizeL_true l d N1 D1 N' D' h h1.1
      omega
end
theorem sizeL_step (l : List Pat) (k d N D : Nat) (h : k < l.length) : sizeL (l.drop k) d N D = (match sizeW (l.getD k Pat.zero) d N D with | (true, N', D') => sizeL (l.drop (k + 1)) d N' D' | r => r) := by
  rw [List.drop_eq_getElem_cons h]
  rw [show l.getD k Pat.zero = l[k] by rw [List.getD_eq_getElem?_getD, List.getElem?_eq_getElem h]; rfl]
  rfl
theorem setCell_heap_other {w : World} {b b' : Nat} (o : Nat) (sp : Option Nat) (u : Value) (h : b ≠ b') : (w.setCell ⟨b, o, sp⟩ u).heap[b']? = w.heap[b']? := by
  simp [World.setCell, Array.getElem?_modify, h]
structure SizeEnd (w0 : World) (bn bd : Nat) (t : TypeId) (r : Bool × Nat × Nat) (w' : World) : Prop where
  n : w'.heap[bn]? = some (.cells #[.int .i64 r.2.1] t (0, 0))
  d : w'.heap[bd]? = some (.cells #[.int .i64 r.2.2] t (0, 0))
  grew : Grew w0 w'
theorem size_after {w0 w : World} {bn bd : Nat} {t : TypeId} (hne : bn ≠ bd) (hbn : w0.heap.size ≤ bn) (hbd : w0.heap.size ≤ bd) {r : Bool × Nat × Nat} (h : SizeEnd w0 bn bd t r w) {x : Bool} {N D : Nat} :
    SizeEnd w0 bn bd t (x, N, D) ((w.setCell ⟨bn, 0, none⟩ (.int .i64 N)).setCell ⟨bd, 0, none⟩ (.int .i64 D)) :=
  ⟨by rw [setCell_heap_other _ _ _ (Ne.symm hne)]; exact one_setCell h.n, one_setCell (by rw [setCell_heap_other _ _ _ hne]; exact h.d), (h.grew.setCell hbn _).setCell hbd _⟩
set_option maxRecDepth 100000 in
theorem walk_size (w0 : World) (bn bd : Nat) (t : TypeId) (hne : bn ≠ bd) (hbn : w0.heap.size ≤ bn) (hbd : w0.heap.size ≤ bd) {b o : Nat} {p : Pat} (hp : PatAt w0 b o p) :
    ∀ (d N D : Nat) (w : World), d ≤ 201 → N ≤ 4096 → D ≤ 201 → SizeEnd w0 bn bd t (true, N, D) w →
    Calls Tryd.prog 54 #[.pointer (some ⟨b, o, none⟩), .int .i64 d, .func (.func 96) #[] #[.pointer (some ⟨bn, 0, none⟩), .pointer (some ⟨bd, 0, none⟩)]] w fun e w' =>
      e = .returned (.bool (sizeW p d N D).1) ∧ SizeEnd w0 bn bd t (sizeW p d N D) w' := by
  induction hp with
  | leaf b o k tx n m a c c0 c1 c2 c3 c4 hk hn ht hm =>
    intro d N D w hd hN hD hw
    have g4 := hw.grew.keeps c4
    have HV := hidd (size_visit (some ⟨b, o, none⟩) d N D bn bd w t (by omega) hN (by omega) hw.n hw.d hne)
    have hW : Hid (SizeEnd w0 bn bd t (true, N + 1, max D d) ((w.setCell ⟨bn, 0, none⟩ (.int .i64 (N + 1 : Nat))).setCell ⟨bd, 0, none⟩ (.int .i64 (max D d : Nat)))) := size_after hne hbn hbd hw
    have g5 : ((w.setCell ⟨bn, 0, none⟩ (.int .i64 (N + 1 : Nat))).setCell ⟨bd, 0, none⟩ (.int .i64 (max D d : Nat))).cell? ⟨b, o + 4, none⟩ = some (.slice a 0 c) := hW.out.grew.keeps c4
    obtain ⟨w1, hw1⟩ : ∃ w1, (w.setCell ⟨bn, 0, none⟩ (.int .i64 (N + 1 : Nat))).setCell ⟨bd, 0, none⟩ (.int .i64 (max D d : Nat)) = w1 := ⟨_, rfl⟩
    rw [hw1] at HV hW g5
    clear hw1
    by_cases g : N + 1 ≤ 4096 ∧ d ≤ 200
    · have e : sizeW (.mk k tx n m []) d N D = (true, N + 1, max D d) := by
        unfold sizeW; rw [if_pos g]; rfl
      have g' : decide (N + 1 ≤ 4096 ∧ d ≤ 200) = true := by simpa using g
      rw [g'] at HV
      have E := hidd e
      clear e g g' c0 c1 c2 c3 c4 g4 hw
      go_enter Tryd.func54, Tryd.ntmps54
      go_wp2_with fail
      refine HV.out.mono ?_; rintro e w2 ⟨rfl, rfl⟩
      go_wp2_with fail
      go_loop [18] (fun u => u = .int .i64 0) (fun _ => 0)
      case atStart => rfl
      case round =>
        obtain rfl := hrel
        go_wp2_with fail
        go_ret
        rw [E.out]
        exact ⟨rfl, hW.out⟩
    · have e : sizeW (.mk k tx n m []) d N D = (false, N + 1, max D d) := by
        unfold sizeW; rw [if_neg g]
      have g' : decide (N + 1 ≤ 4096 ∧ d ≤ 200) = false := by simpa using g
      rw [g'] at HV
      have E := hidd e
      clear e g g' c0 c1 c2 c3 c4 g4 hw
      go_enter Tryd.func54, Tryd.ntmps54
      go_wp2_with fail
      refine HV.out.mono ?_; rintro e w2 ⟨rfl, rfl⟩
      go_wp2_with fail
      go_ret
      rw [E.out]
      exact ⟨rfl, hW.out.n, hW.out.d, hW.out.grew⟩
  | node b o k tx n m l b' o' c c0 c1 c2 c3 c4 hk hn ht hm h0 hc hc' hl ih =>
    intro d N D w hd hN hD hw
    have HV := hidd (size_visit (some ⟨b, o, none⟩) d N D bn bd w t (by omega) hN (by omega) hw.n hw.d hne)
    have hW : Hid (SizeEnd w0 bn bd t (true, N + 1, max D d) ((w.setCell ⟨bn, 0, none⟩ (.int .i64 (N + 1 : Nat))).setCell ⟨bd, 0, none⟩ (.int .i64 (max D d : Nat)))) := size_after hne hbn hbd hw
    have g5 : ((w.setCell ⟨bn, 0, none⟩ (.int .i64 (N + 1 : Nat))).setCell ⟨bd, 0, none⟩ (.int .i64 (max D d : Nat))).cell? ⟨b, o + 4, none⟩ = some (.slice (some ⟨b', o', none⟩) l.length c) := hW.out.grew.keeps c4
    obtain ⟨w1, hw1⟩ : ∃ w1, (w.setCell ⟨bn, 0, none⟩ (.int .i64 (N + 1 : Nat))).setCell ⟨bd, 0, none⟩ (.int .i64 (max D d : Nat)) = w1 := ⟨_, rfl⟩
    rw [hw1] at HV hW g5
    have HC4 := hidd c4
    have IH := hidd ih
    unfold maxLen at hc'
    clear hw1 ih hl c0 c1 c2 c3 c4 hw ht hm
    by_cases g : N + 1 ≤ 4096 ∧ d ≤ 200
    · have e : sizeW (.mk k tx n m l) d N D = sizeL l (d + 1) (N + 1) (max D d) := by
        rw [sizeW]; rw [if_pos g]
      have g' : decide (N + 1 ≤ 4096 ∧ d ≤ 200) = true := by simpa using g
      have hd200 : d ≤ 200 := g.2
      have G1 := hidd g.1
      rw [g'] at HV
      have E := hidd e
      clear e g g'
      go_enter Tryd.func54, Tryd.ntmps54
      go_wp2_with fail
      refine HV.out.mono ?_; rintro e w2 ⟨rfl, rfl⟩
      go_wp2_with fail
      go_loopw [18] (fun u wr => ∃ i N' D' : Nat, i ≤ l.length ∧ u = .int .i64 i ∧ Hid (SizeEnd w0 bn bd t (true, N', D') wr) ∧ N' ≤ 4096 ∧ D' ≤ 201 ∧ Hid (sizeL l (d + 1) (N + 1) (max D d) = sizeL (l.drop i) (d + 1) N' D')) (fun u _ => l.length - (intOf u).toNat)
      case atStart => exact ⟨0, N + 1, max D d, by omega, rfl, hW, G1.out, by omega, rfl⟩
      case round =>
        obtain ⟨i, N', D', hi, rfl, hR, hN', hD', HS⟩ := hrel
        clear g5
        have g6 := hR.out.grew.keeps HC4.out
        by_cases hlt : i < l.length
        · have hs := sizeL_step l i (d + 1) N' D' hlt
          have HK := hidd (IH.out i hlt (d + 1) N' D' wr (by omega) hN' hD' hR.out)
          obtain ⟨r, N1, D1, hr⟩ : ∃ r N1 D1, sizeW (l.getD i Pat.zero) (d + 1) N' D' = (r, N1, D1) := ⟨_, _, _, rfl⟩
          rw [hr] at HK hs
          have HT : Hid (r = true → N1 ≤ 4096 ∧ D1 ≤ max D' 200) := fun hh => sizeW_true (l.getD i Pat.zero) (d + 1) N' D' N1 D1 (by rw [hr, hh])
          have HSS := hidd (HS.out.trans hs)
          clear hr hs
          cases r with
          | true =>
            go_wp2_with fail
            refine HK.out.mono ?_; rintro e w2 ⟨rfl, hE⟩
            go_wp2_with fail
            have hE' := hidd hE
            have := HT.out (by first | rfl | trivial)
            clear hE
            go_roundw
            case rel => exact ⟨i + 1, N1, D1, by omega, by go_num, hE', by omega, by omega, HSS.out⟩
            case measure => simp [intOf]; omega
          | false =>
            go_wp2_with fail
            refine HK.out.mono ?_; rintro e w2 ⟨rfl, hE⟩
            have hE' := hidd hE
            clear hE
            go_wp2_with fail
            go_ret
            rw [E.out, HSS.out]
            exact ⟨rfl, hE'.out⟩
        · obtain rfl : i = l.length := by omega
          have HE2 := hidd (HS.out.trans (show sizeL (l.drop l.length) (d + 1) N' D' = (true, N', D') by rw [List.drop_length]; rfl))
          go_wp2_with fail
          go_ret
          rw [E.out, HE2.out]
          exact ⟨rfl, hR.out⟩
    · have e : sizeW (.mk k tx n m l) d N D = (false, N + 1, max D d) := by
        rw [sizeW]; rw [if_neg g]
      have g' : decide (N + 1 ≤ 4096 ∧ d ≤ 200) = false := by simpa using g
      rw [g'] at HV
      have E := hidd e
      clear e g g'
      go_enter Tryd.func54, Tryd.ntmps54
      go_wp2_with fail
      refine HV.out.mono ?_; rintro e w2 ⟨rfl, rfl⟩
      go_wp2_with fail
      go_ret
      rw [E.out]
      exact ⟨rfl, hW.out.n, hW.out.d, hW.out.grew⟩
theorem size_start (w : World) (cs : Array Value) (t0 t : TypeId) : SizeEnd (w.alloc (.cells cs t0)) (w.heap.size + 1) (w.heap.size + 2) t (true, 0, 0) (((w.alloc (.cells cs t0)).alloc (.cells #[.int .i64 0] t)).alloc (.cells #[.int .i64 0] t)) :=
  ⟨(((Grew.refl ((w.alloc (.cells cs t0)).alloc (.cells #[.int .i64 0] t))).alloc (.cells #[.int .i64 0] t)).block (w.heap.size + 1) (by simp)).trans (by rw [show w.heap.size + 1 = (w.alloc (.cells cs t0)).heap.size by simp]; exact heap_alloc_new _ _),
    by rw [show w.heap.size + 2 = ((w.alloc (.cells cs t0)).alloc (.cells #[.int .i64 0] t)).heap.size by simp]; exact heap_alloc_new _ _, ((Grew.refl _).alloc _).alloc _⟩
set_option maxRecDepth 100000 in
theorem Size_any (kv : Value) (p : Pat) (w : World) (hp : PatV w kv p) :
    Calls Tryd.prog 53 #[.agg (p.cells kv)] w fun e w' => e = .returned (.tuple (match sizeW p 1 0 0 with | (true, N, D) => #[.int .i64 N, .int .i64 D, .int .i64 0] | _ => #[.int .i64 0, .int .i64 0, .int .i64 4])) ∧ Grew w w' := by
  have hb := hp.box 24
  have HK := hidd (walk_size (w.alloc (.cells (p.cells kv) 24)) (w.heap.size + 1) (w.heap.size + 2) 3 (by omega) (by simp) (by simp) hb 1 0 0 _ (by omega) (by omega) (by omega) (size_start w (p.cells kv) 24 3))
  obtain ⟨r, N, D, hr⟩ : ∃ r N D, sizeW p 1 0 0 = (r, N, D) := ⟨_, _, _, rfl⟩
  rw [hr] at HK ⊢
  clear hr hb hp
  cases r with
  | true =>
    go_enter Tryd.func53, Tryd.ntmps53
    go_wp2_with fail
    refine HK.out.mono ?_; rintro e w2 ⟨rfl, hE⟩
    have c1 := cell_of_one hE.n
    have c2 := cell_of_one hE.d
    have f1 := free_of_one hE.n
    have f2 := free_of_one hE.d
    have d1 : ∀ u, (w2.setCell ⟨w.heap.size + 1, 0, none⟩ u).cell? ⟨w.heap.size + 2, 0, none⟩ = some (.int .i64 D) := fun u => by rw [setCell_cell_other _ _ _ _ (.inl (by simp))]; exact c2
    have d2 : ∀ u, (w2.setCell ⟨w.heap.size + 2, 0, none⟩ u).cell? ⟨w.heap.size + 1, 0, none⟩ = some (.int .i64 N) := fun u => by rw [setCell_cell_other _ _ _ _ (.inl (by simp))]; exact c1
    have d3 : ∀ u v, ((w2.setCell ⟨w.heap.size + 1, 0, none⟩ u).setCell ⟨w.heap.size + 2, 0, none⟩ v).cell? ⟨w.heap.size + 1, 0, none⟩ = some u := fun u v => by rw [setCell_cell_other _ _ _ _ (.inl (by simp)), setCell_cell_same rfl c1]
    have d4 : ∀ u v, ((w2.setCell ⟨w.heap.size + 1, 0, none⟩ u).setCell ⟨w.heap.size + 2, 0, none⟩ v).cell? ⟨w.heap.size + 2, 0, none⟩ = some v := fun u v => by rw [setCell_cell_same rfl (d1 u)]
    have hE' := hidd hE
    clear hE
    go_wp2_with fail
    go_region
    go_wp2_with fail
    refine bodyPost_ret (v := .tuple #[.int .i64 N, .int .i64 D, .int .i64 0]) ?_ rfl ⟨rfl, ?_⟩
    · simp [results, Tryd.results53, go_sem, d3, d4]
    · exact ((((Grew.refl w).alloc _).trans hE'.out.grew |>.setCell (by simp) _).setCell (by simp; omega) _).drew
  | false =>
    go_enter Tryd.func53, Tryd.ntmps53
    go_wp2_with fail
    refine HK.out.mono ?_; rintro e w2 ⟨rfl, hE⟩
    have c1 := cell_of_one hE.n
    have c2 := cell_of_one hE.d
    have f1 := free_of_one hE.n
    have f2 := free_of_one hE.d
    have hE' := hidd hE
    have d1 : ∀ u, (w2.setCell ⟨w.heap.size + 1, 0, none⟩ u).cell? ⟨w.heap.size + 2, 0, none⟩ = some (.int .i64 D) := fun u => by rw [setCell_cell_other _ _ _ _ (.inl (by simp))]; exact c2
    have d3 : ∀ u v, ((w2.setCell ⟨w.heap.size + 1, 0, none⟩ u).setCell ⟨w.heap.size + 2, 0, none⟩ v).cell? ⟨w.heap.size + 1, 0, none⟩ = some u := fun u v => by rw [setCell_cell_other _ _ _ _ (.inl (by simp)), setCell_cell_same rfl c1]
    have d4 : ∀ u v, ((w2.setCell ⟨w.heap.size + 1, 0, none⟩ u).setCell ⟨w.heap.size + 2, 0, none⟩ v).cell? ⟨w.heap.size + 2, 0, none⟩ = some v := fun u v => by rw [setCell_cell_same rfl (d1 u)]
    clear hE
    go_wp2_with fail
    refine bodyPost_ret (v := .tuple #[.int .i64 0, .int .i64 0, .int .i64 4]) (by simp [results, Tryd.results53, go_sem, d3, d4]) rfl ⟨rfl, ?_⟩
    exact (((Grew.refl w).alloc _).trans hE'.out.grew |>.setCell (by simp) _).setCell (by simp; omega) _
end Go.Proofs.YtkkdpafkafjfgaaDoor
namespace Go.Proofs.YtkkdpafkafjfgaaDoor
open Go.RowKit
set_option linter.unusedVariables false
def nameByte (i : Nat) (c : UInt8) : Bool := (decide (65 ≤ c.toNat) && decide (c.toNat ≤ 90)) || (decide (0 < i) && (decide (48 ≤ c.toNat) && decide (c.toNat ≤ 57)))
def nameFrom (l : List UInt8) (k : Nat) : Bool := (List.range k).all fun i => nameByte i (l.getD i 0)
def named (s : ByteArray) : Bool := decide (1 ≤ s.size) && (decide (s.size ≤ 16) && nameFrom s.data.toList s.size)
theorem nameFrom_succ (l : List UInt8) (k : Nat) : nameFrom l (k + 1) = (nameFrom l k && nameByte k (l.getD k 0)) := by
  unfold nameFrom; rw [List.range_succ, List.all_append]; simp
theorem nameFrom_false {l : List UInt8} {k n : Nat} (h : nameByte k (l.getD k 0) = false) (hk : k < n) : nameFrom l n = false := by
  unfold nameFrom; rw [List.all_eq_false]
  exact ⟨k, by simpa using hk, by simpa using h⟩
set_option maxRecDepth 100000 in
set_option maxHeartbeats 1000000 in
theorem Named_any (s : ByteArray) (w : World) (hs : s.size ≤ maxLen) :
    Calls Tryd.prog 97 #[.string s] w fun e w' => e = .returned (.bool (named s)) ∧ w = w' := by
  by_cases h1 : s.size < 1 ∨ 16 < s.size
  · have hf : named s = false := by
      unfold named
      rcases h1 with h | h
      · rw [decide_eq_false (by omega)]; rfl
      · rw [decide_eq_false (show ¬ s.size ≤ 16 by omega)]; simp
    have HF := hidd hf
    unfold maxLen at hs
    clear hf
    rcases h1 with h | h
    all_goals
      have k1 : decide ((s.size : Int) < 1) = decide (s.size < 1) := by rw [decide_eq_decide]; omega
      have k2 : decide (16 < (s.size : Int)) = decide (16 < s.size) := by rw [decide_eq_decide]; omega
      first | rw [decide_eq_true (show s.size < 1 by omega)] at k1 | rw [decide_eq_false (show ¬ (s.size < 1) by omega)] at k1
      first | rw [decide_eq_true (show 16 < s.size by omega)] at k2 | rw [decide_eq_false (show ¬ (16 < s.size) by omega)] at k2
      go_enter Tryd.func97, Tryd.ntmps97
      go_wp2_with fail
      go_ret
      exact ⟨ret_bool HF.out.symm, rfl⟩
  · have a1 : 1 ≤ s.size := by omega
    have a2 : s.size ≤ 16 := by omega
    have hn : named s = nameFrom s.data.toList s.size := by
      unfold named; rw [decide_eq_true a1, decide_eq_true a2]; rfl
    have HN := hidd hn
    clear hn h1 hs
    go_enter Tryd.func97, Tryd.ntmps97
    go_wp2_with fail
    go_loop [3, 4, 15] (fun _ _ u => ∃ k : Nat, k ≤ s.size ∧ u = .int .i64 k ∧ Hid (nameFrom s.data.toList k = true)) (fun _ _ u => s.size - (intOf u).toNat)
    case atStart => exact ⟨0, by omega, rfl, rfl⟩
    case round =>
      obtain ⟨k, hk, rfl, HA⟩ := hrel
      by_cases hlt : k < s.size
      · have e1 : s.data.toList.getD k 0 = s[k] := (Lib.getD_at s k hlt).symm
        have hb := (s[k]).toNat_lt
        have HB : Hid (nameByte k (s.data.toList.getD k 0) = ((decide (65 ≤ (s[k]).toNat) && decide ((s[k]).toNat ≤ 90)) || (decide (0 < k) && (decide (48 ≤ (s[k]).toNat) && decide ((s[k]).toNat ≤ 57))))) := by rw [Hid, e1]; rfl
        have HS := hidd (nameFrom_succ s.data.toList k)
        have HX : Hid (nameByte k (s.data.toList.getD k 0) = false → nameFrom s.data.toList s.size = false) := fun h => nameFrom_false h hlt
        clear e1
        have hc : ((s[k]).toNat < 48 ∨ (48 ≤ (s[k]).toNat ∧ (s[k]).toNat ≤ 57)) ∨ ((57 < (s[k]).toNat ∧ (s[k]).toNat < 65) ∨ (65 ≤ (s[k]).toNat ∧ (s[k]).toNat ≤ 90)) ∨ 90 < (s[k]).toNat := by omega
        have hz : k = 0 ∨ 0 < k := by omega
        rcases hz with hz | hz
        · subst hz
          rcases hc with (hc | ⟨hc, hc'⟩) | (⟨hc, hc'⟩ | ⟨hc, hc'⟩) | hc
          all_goals
            have HH := hidd HB.out
            have g1 : decide ((65 : Int) ≤ ((s[0]).toNat : Int)) = decide (65 ≤ (s[0]).toNat) := by rw [decide_eq_decide]; omega
            have g2 : decide (((s[0]).toNat : Int) ≤ 90) = decide ((s[0]).toNat ≤ 90) := by rw [decide_eq_decide]; omega
            have g3 : decide ((48 : Int) ≤ ((s[0]).toNat : Int)) = decide (48 ≤ (s[0]).toNat) := by rw [decide_eq_decide]; omega
            have g4 : decide (((s[0]).toNat : Int) ≤ 57) = decide ((s[0]).toNat ≤ 57) := by rw [decide_eq_decide]; omega
            first | rw [decide_eq_true (show 65 ≤ (s[0]).toNat by omega)] at g1 | rw [decide_eq_false (show ¬ (65 ≤ (s[0]).toNat) by omega)] at g1
            first | rw [decide_eq_true (show (s[0]).toNat ≤ 90 by omega)] at g2 | rw [decide_eq_false (show ¬ ((s[0]).toNat ≤ 90) by omega)] at g2
            first | rw [decide_eq_true (show 48 ≤ (s[0]).toNat by omega)] at g3 | rw [decide_eq_false (show ¬ (48 ≤ (s[0]).toNat) by omega)] at g3
            first | rw [decide_eq_true (show (s[0]).toNat ≤ 57 by omega)] at g4 | rw [decide_eq_false (show ¬ ((s[0]).toNat ≤ 57) by omega)] at g4
            go_wp2_with fail
            first
            | (go_ret; refine ⟨ret_bool ?_, rfl⟩; rw [HN.out, HX.out (by rw [HH.out]; simp; omega)])
            | (go_round
               case rel => exact ⟨1, by omega, by go_num, by rw [Hid, HS.out, HA.out, HH.out]; simp; omega⟩
               case measure => simp [intOf]; omega)
        · have hz' : (((k : Int) == 0) = false) := beq_eq_false_iff_ne.2 (by omega)
          rcases hc with (hc | ⟨hc, hc'⟩) | (⟨hc, hc'⟩ | ⟨hc, hc'⟩) | hc
          all_goals
            have HH := hidd HB.out
            have g1 : decide ((65 : Int) ≤ ((s[k]).toNat : Int)) = decide (65 ≤ (s[k]).toNat) := by rw [decide_eq_decide]; omega
            have g2 : decide (((s[k]).toNat : Int) ≤ 90) = decide ((s[k]).toNat ≤ 90) := by rw [decide_eq_decide]; omega
            have g3 : decide ((48 : Int) ≤ ((s[k]).toNat : Int)) = decide (48 ≤ (s[k]).toNat) := by rw [decide_eq_decide]; omega
            have g4 : decide (((s[k]).toNat : Int) ≤ 57) = decide ((s[k]).toNat ≤ 57) := by rw [decide_eq_decide]; omega
            first | rw [decide_eq_true (show 65 ≤ (s[k]).toNat by omega)] at g1 | rw [decide_eq_false (show ¬ (65 ≤ (s[k]).toNat) by omega)] at g1
            first | rw [decide_eq_true (show (s[k]).toNat ≤ 90 by omega)] at g2 | rw [decide_eq_false (show ¬ ((s[k]).toNat ≤ 90) by omega)] at g2
            first | rw [decide_eq_true (show 48 ≤ (s[k]).toNat by omega)] at g3 | rw [decide_eq_false (show ¬ (48 ≤ (s[k]).toNat) by omega)] at g3
            first | rw [decide_eq_true (show (s[k]).toNat ≤ 57 by omega)] at g4 | rw [decide_eq_false (show ¬ ((s[k]).toNat ≤ 57) by omega)] at g4
            go_wp2_with fail
            first
            | (go_ret; refine ⟨ret_bool ?_, rfl⟩; rw [HN.out, HX.out (by rw [HH.out]; simp; omega)])
            | (go_round
               case rel => exact ⟨k + 1, by omega, by go_num, by rw [Hid, HS.out, HA.out, HH.out]; simp; omega⟩
               case measure => simp [intOf]; omega)
      · obtain rfl : k = s.size := by omega
        go_wp2_with fail
        go_ret
        exact ⟨ret_bool (by rw [HN.out, HA.out]), rfl⟩
end Go.Proofs.YtkkdpafkafjfgaaDoor
namespace Go.Proofs.YtkkdpafkafjfgaaDoor
open Go.RowKit
set_option linter.unusedVariables false
def manyErr (n lo hi : Nat) : Int := if n < lo ∨ hi < n then 5 else 0
def nodeErr (p : Pat) : Int :=
  if p.kind < 1 ∨ 24 < p.kind then 1
  else if p.kind = 1 then (if 65536 < p.text.size then 4 else manyErr p.kids.length 0 0)
  else if p.kind = 3 ∨ p.kind = 4 ∨ p.kind = 5 ∨ p.kind = 6 ∨ p.kind = 7 then (if 65536 < p.text.size then 4 else if p.text.size = 0 then 8 else manyErr p.kids.length 0 0)
  else if p.kind = 2 ∨ p.kind = 8 ∨ p.kind = 9 ∨ p.kind = 10 ∨ p.kind = 11 then (if p.n < 0 ∨ 65536 < p.n then 3 else manyErr p.kids.length 0 0)
  else if p.kind = 18 ∨ p.kind = 19 then manyErr p.kids.length 2 4096
  else if p.kind = 20 then manyErr p.kids.length 1 1
  else if p.kind = 21 ∨ p.kind = 22 then (if named p.name = false then 7 else manyErr p.kids.length 1 1)
  else if p.kind = 23 ∨ p.kind = 24 then (if named p.name = false then 7 else manyErr p.kids.length 0 0)
  else manyErr p.kids.length 0 0
theorem KidsAt.len {w : World} {v : Value} {l : List Pat} (h : KidsAt w v l) : ∃ a c, v = .slice a l.length c ∧ l.length ≤ 9223372036854775807 := by
  rcases h with ⟨a, c, h, e⟩ | ⟨b, o, c, h, h0, h1, h2, _⟩
  · exact ⟨a, c, by rw [e]; exact h, by rw [e]; simp⟩
  · exact ⟨_, c, h, by unfold maxLen at h2; omega⟩
structure Seen (w : World) (b o : Nat) (k : Int) (t : ByteArray) (n : Int) (m : ByteArray) (L : Nat) : Prop where
  c0 : w.cell? ⟨b, o, none⟩ = some (.int .i64 k)
  c1 : w.cell? ⟨b, o + 1, none⟩ = some (.string t)
  c2 : w.cell? ⟨b, o + 2, none⟩ = some (.int .i64 n)
  c3 : w.cell? ⟨b, o + 3, none⟩ = some (.string m)
  c4 : ∃ a c, w.cell? ⟨b, o + 4, none⟩ = some (.slice a L c)
  hL : L ≤ 9223372036854775807
  hk : -9223372036854775808 ≤ k ∧ k ≤ 9223372036854775807
  hn : -9223372036854775808 ≤ n ∧ n ≤ 9223372036854775807
  ht : t.size ≤ 9223372036854775807
  hm : m.size ≤ maxLen
theorem NodeAt.seen {w : World} {b o : Nat} {p : Pat} {v : Value} (h : NodeAt w b o p v) (k : KidsAt w v p.kids) : Seen w b o p.kind p.text p.n p.name p.kids.length := by
  obtain ⟨a, c, rfl, hl⟩ := k.len
  exact ⟨h.c0, h.c1, h.c2, h.c3, ⟨a, c, h.c4⟩, hl, h.hk, h.hn, by have := h.ht; unfold maxLen at this; exact this, h.hm⟩
abbrev Told (w : World) (b o : Nat) (E : Int) : Prop := Calls Tryd.prog 56 #[.pointer (some ⟨b, o, none⟩)] w fun e w' => e = .returned (.int .i64 E) ∧ w = w'
set_option maxRecDepth 100000 in
set_option maxHeartbeats 4000000 in
theorem wrong_none {w : World} {b o : Nat} {k : Int} {t : ByteArray} {n : Int} {m : ByteArray} {L : Nat} (h : Seen w b o k t n m L) (hk : k < 1 ∨ 24 < k) : Told w b o 1 := by
  obtain ⟨c0, c1, c2, c3, ⟨a, c, c4⟩, hL, hk2, hn2, ht, hm⟩ := h
  rcases hk with hk | hk
  · have e1 : decide (k < 1) = true := by simpa using hk
    clear hk
    unfold Told
    go_enter Tryd.func56, Tryd.ntmps56
    go_wp2_with fail
    go_ret
    exact ⟨rfl, rfl⟩
  · have e1 : decide (k < 1) = false := by simp; omega
    have e2 : decide (24 < k) = true := by simpa using hk
    unfold Told
    go_enter Tryd.func56, Tryd.ntmps56
    go_wp2_with fail
    go_ret
    exact ⟨rfl, rfl⟩
set_option maxRecDepth 100000 in
set_option maxHeartbeats 4000000 in
theorem wrong_text {w : World} {b o : Nat} {k : Int} {t : ByteArray} {n : Int} {m : ByteArray} {L : Nat} (h : Seen w b o k t n m L) (hk : k = 1 ∨ k = 3 ∨ k = 4 ∨ k = 5 ∨ k = 6 ∨ k = 7) (hs : 65536 < t.size) : Told w b o 4 := by
  obtain ⟨c0, c1, c2, c3, ⟨a, c, c4⟩, hL, hk2, hn2, ht, hm⟩ := h
  have e1 : decide (65536 < (t.size : Int)) = true := by simp; omega
  clear hs
  rcases hk with rfl | rfl | rfl | rfl | rfl | rfl
  all_goals
    unfold Told
    go_enter Tryd.func56, Tryd.ntmps56
    go_wp2_with fail
    go_ret
    exact ⟨rfl, rfl⟩
end Go.Proofs.YtkkdpafkafjfgaaDoor
