/- tune: slices.IndexFunc of patterns, upTo. -/
import Derived.Test.YtkkdpafkafjfgaaDoorAsTnFun
import Derived.Test.YtkkdpafkafjfgaaDoorAsScWrong
import Derived.Laws.OwnMore
import Derived.Deep.LoopGhost
namespace Go.Proofs.YtkkdpafkafjfgaaDoor
open Go.RowKit
set_option linter.unusedVariables false
def TestOf (f : FuncId) (t : Pat → Bool) : Prop := ∀ (p : Pat) (kv : Value) (w : World), Calls Tryd.prog f #[.agg (p.cells kv)] w fun e w' => e = .returned (.bool (t p)) ∧ Grew w w'
set_option maxRecDepth 100000 in
set_option maxHeartbeats 4000000 in
theorem IndexP_any (f : FuncId) (hfo : f = 82 ∨ f = 84 ∨ f = 88 ∨ f = 89) (t : Pat → Bool) (hf : TestOf f t) {Q : Nat → Prop} (l : List Pat) (v : Value) (w : World) (h : ListIn w Q v l) :
    Calls Tryd.prog 109 #[v, .func (.func f) #[] #[]] w fun e w' => e = .returned (.int .i64 (optInt (l.findIdx? t))) ∧ Grew w w' := by
  obtain ⟨a, c, rfl, hc'⟩ := h.len
  unfold maxLen at hc'
  have HR := hidd h
  have HF := hidd hf
  clear h hf
  rcases hfo with rfl | rfl | rfl | rfl
  all_goals
    go_enter Tryd.func109, Tryd.ntmps109
    go_wp2_with fail
    go_loopw [5, 8] (fun _ u wr => ∃ k : Nat, k ≤ l.length ∧ u = .int .i64 k ∧ Hid (∀ j, j < k → t (l.getD j Pat.zero) = false) ∧ Hid (Grew w wr)) (fun _ u _ => l.length - (intOf u).toNat)
    case atStart => exact ⟨0, by omega, rfl, fun j hj => absurd hj (by omega), Grew.refl _⟩
    case round =>
      obtain ⟨k, hk, rfl, HN, HG⟩ := hrel
      by_cases hlt : k < l.length
      · obtain ⟨b, o, kv, rfl, hn, _⟩ := (HR.out.kept HG.out).at hlt
        have hF := HF.out (l.getD k Pat.zero) kv wr
        have HT : Hid (t (l.getD k Pat.zero) = true → l.findIdx? t = some k) := fun e => findIdx_hit Pat.zero t l k hlt e HN.out
        have HT2 : Hid (t (l.getD k Pat.zero) = false → ∀ j, j < k + 1 → t (l.getD j Pat.zero) = false) := fun e j hj => by
          by_cases e2 : j = k
          · rw [e2]; exact e
          · exact HN.out j (by omega)
        obtain ⟨r, hr⟩ : ∃ r, l.getD k Pat.zero = r := ⟨_, rfl⟩
        rw [hr] at hn hF HT HT2
        rw [cells_eq] at hF
        obtain ⟨c0, c1, c2, c3, c4, _, _, _, _⟩ := hn
        have HFF := hidd hF
        clear hF hr
        cases ht : t r with
        | true =>
          rw [ht] at HFF HT
          clear ht
          go_wp2_with fail
          refine HFF.out.mono ?_; rintro e w2 ⟨rfl, G2⟩
          have G3 := hidd (HG.out.trans G2)
          clear G2
          go_wp2_with fail
          go_ret
          rw [HT.out (by first | rfl | trivial)]
          exact ⟨rfl, G3.out⟩
        | false =>
          rw [ht] at HFF HT2
          clear ht
          go_wp2_with fail
          refine HFF.out.mono ?_; rintro e w2 ⟨rfl, G2⟩
          have G3 := hidd (HG.out.trans G2)
          clear G2
          go_wp2_with fail
          go_roundw
          case rel => exact ⟨k + 1, by omega, by go_num, HT2.out (by first | rfl | trivial), G3⟩
          case measure => simp [intOf]; omega
      · obtain rfl : k = l.length := by omega
        have HE := hidd (findIdx_no Pat.zero t l HN.out)
        go_wp2_with fail
        go_ret
        rw [HE.out]
        exact ⟨rfl, HG.out⟩
theorem upTo_take (t : Pat → Bool) : ∀ (l : List Pat), upToP t l = match l.findIdx? t with | some i => l.take (i + 1) | none => l
  | [] => rfl
  | p :: l => by
    rw [upToP, List.findIdx?_cons]
    cases h : t p with
    | true => rfl
    | false =>
      have := upTo_take t l
      simp only [this, Bool.false_eq_true, if_false]
      cases l.findIdx? t <;> rfl
theorem findIdxP_lt {t : Pat → Bool} {l : List Pat} {i : Nat} (h : l.findIdx? t = some i) : i < l.length := by
  have := List.findIdx?_eq_some_iff_getElem.1 h
  exact this.1
theorem PatsOwn.take {w : World} {B N g m c : Nat} {l : List Pat} (h : PatsOwn w B N (.slice (some ⟨g, 0, none⟩) m c) l) (n : Nat) (hn : n ≤ l.length) : PatsOwn w B N (.slice (some ⟨g, 0, none⟩) n c) (l.take n) := by
  obtain ⟨kvs, h1, h2, h3⟩ := h.rep
  have hln : (l.take n).length = n := by rw [List.length_take]; omega
  refine ⟨kvs.take n, by rw [List.length_take, List.length_take, h1], ?_, fun i hi => ?_⟩
  · rw [hln]
    rcases h2.2 with ⟨h4, _⟩ | ⟨g', cap, cur, h4, h5, h6, h7, h8, h9, h10⟩
    · cases h4
    · cases h4
      refine ⟨by rw [patCells_length _ _ (by rw [List.length_take, List.length_take, h1]), hln], Or.inr ⟨g, c, cur, rfl, h5, h6, by omega, h8, h9, ?_⟩⟩
      rw [← patCells_take l kvs n h1, ← h10, List.take_take]
      congr 1; omega
  · rw [hln] at hi
    have := h3 i (by omega)
    rw [List.getD_eq_getElem?_getD, List.getD_eq_getElem?_getD] at this ⊢
    rw [List.getElem?_take_of_lt hi, List.getElem?_take_of_lt hi]
    exact this
set_option maxRecDepth 100000 in
set_option maxHeartbeats 4000000 in
theorem upTo_any (f : FuncId) (hfo : f = 84 ∨ f = 89) (t : Pat → Bool) (hf : TestOf f t) {B N : Nat} (l : List Pat) (v : Value) (w : World) (h : PatsOwn w B N v l) :
    Calls Tryd.prog 83 #[v, .func (.func f) #[] #[]] w fun e w' => ∃ v', e = .returned v' ∧ PatsOwn w' B N v' (upToP t l) ∧ Grew w w' := by
  have HI := hidd (IndexP_any f (by rcases hfo with h | h <;> simp [h]) t hf l v w h.list)
  have HO := hidd h
  have HU := hidd (upTo_take t l)
  obtain ⟨a, c, rfl⟩ := h.len
  have hm : l.length ≤ maxLen := by obtain ⟨_, _, e, hm⟩ := h.list.len; exact hm
  unfold maxLen at hm
  clear h hf
  cases hx : l.findIdx? t with
  | none =>
    rw [hx] at HI HU
    rcases hfo with rfl | rfl
    all_goals
      go_enter Tryd.func83, Tryd.ntmps83
      go_wp2_with fail
      refine HI.out.mono ?_; rintro e w1 ⟨rfl, g1⟩
      have HE := hidd (And.intro (HO.out.kept g1) g1)
      clear g1
      go_wp2_with fail
      go_ret
      rw [HU.out]
      exact ⟨_, rfl, HE.out⟩
  | some i =>
    rw [hx] at HI HU
    have hi := findIdxP_lt hx
    clear hx
    obtain ⟨g, cap, hv, _, _⟩ : ∃ g cap, Value.slice a l.length c = .slice (some ⟨g, 0, none⟩) l.length cap ∧ B ≤ g ∧ g < w.heap.size := by
      obtain ⟨kvs, h1, h2, h3⟩ := HO.out.rep
      exact h2.form (by omega)
    cases hv
    have hcap : l.length ≤ c := by
      rcases HO.out.list.rep with ⟨_, _, e, e2⟩ | ⟨_, _, _, _, e, _, h3, _⟩
      · rw [e2] at hi; simp at hi
      · cases e; exact h3
    have hcm : c ≤ 9223372036854775807 := by
      rcases HO.out.list.rep with ⟨_, _, e, e2⟩ | ⟨_, _, _, _, e, _, _, h3, _⟩
      · rw [e2] at hi; simp at hi
      · cases e; unfold maxLen at h3; omega
    have HO2 := hidd (HO.out.take (i + 1) (by omega))
    have HI2 : Hid (Calls Tryd.prog 109 #[.slice (some ⟨g, 0, none⟩) l.length c, .func (.func f) #[] #[]] w fun e w' => e = .returned (.int .i64 i) ∧ Grew w w') := HI.out
    clear HI
    rcases hfo with rfl | rfl
    all_goals
      go_enter Tryd.func83, Tryd.ntmps83
      go_wp2_with fail
      refine HI2.out.mono ?_; rintro e w1 ⟨rfl, g1⟩
      have HE := hidd (And.intro (HO2.out.kept g1) g1)
      clear g1
      go_wp2_with fail
      go_ret
      rw [HU.out]
      exact ⟨_, rfl, HE.out⟩
end Go.Proofs.YtkkdpafkafjfgaaDoor
namespace Go.Proofs.YtkkdpafkafjfgaaDoor
open Go.RowKit
set_option linter.unusedVariables false
def setPat (w : World) (g o : Nat) (p : Pat) (kv : Value) : World :=
  ((((w.setCell ⟨g, o, none⟩ (.int .i64 p.kind)).setCell ⟨g, o + 1, none⟩ (.string p.text)).setCell ⟨g, o + 2, none⟩ (.int .i64 p.n)).setCell ⟨g, o + 3, none⟩ (.string p.name)).setCell ⟨g, o + 4, none⟩ kv
theorem patCells_set : ∀ (l : List Pat) (vs : List Value) (i : Nat) (p : Pat) (kv : Value), vs.length = l.length →
    (((((patCells l vs).set (i * 5) (.int .i64 p.kind)).set (i * 5 + 1) (.string p.text)).set (i * 5 + 2) (.int .i64 p.n)).set (i * 5 + 3) (.string p.name)).set (i * 5 + 4) kv = patCells (l.set i p) (vs.set i kv)
  | [], vs, i, p, kv, h => by cases vs <;> simp [patCells]
  | q :: l, [], i, p, kv, h => by simp at h
  | q :: l, v :: vs, 0, p, kv, h => rfl
  | q :: l, v :: vs, i + 1, p, kv, h => by
    have ih := patCells_set l vs i p kv (by simpa using h)
    have e : patCells (q :: l) (v :: vs) = .int .i64 q.kind :: .string q.text :: .int .i64 q.n :: .string q.name :: v :: patCells l vs := rfl
    have e2 : patCells ((q :: l).set (i + 1) p) ((v :: vs).set (i + 1) kv) = .int .i64 q.kind :: .string q.text :: .int .i64 q.n :: .string q.name :: v :: patCells (l.set i p) (vs.set i kv) := rfl
    rw [e, e2, ← ih, show (i + 1) * 5 = i * 5 + 1 + 1 + 1 + 1 + 1 by omega]
    rfl
theorem grownBy_refl (w : World) (r : Option Nat) : w.grownBy w r := ⟨rfl, rfl, rfl, Nat.le_refl _, fun _ _ _ => rfl⟩
theorem grownBy_tr {a b c : World} {r : Option Nat} (h : a.grownBy b r) (k : b.grownBy c r) : a.grownBy c r :=
  ⟨k.os.trans h.os, k.tape.trans h.tape, k.output.trans h.output, Nat.le_trans h.size k.size, fun x hx hne => by rw [k.block x (Nat.lt_of_lt_of_le hx h.size) hne]; exact h.block x hx hne⟩
theorem grownBy_grew {a b c : World} {r : Option Nat} (h : a.grownBy b r) (g : Grew b c) : a.grownBy c r := grownBy_tr h ⟨g.os, g.tape, g.output, g.size, fun k hk _ => g.block k hk⟩
theorem zero_pat (w : World) : (zeroValue 24).run Tryd.prog w = .ok (.agg #[.int .i64 0, .string ByteArray.empty, .int .i64 0, .string ByteArray.empty, .slice none 0 0]) w := by kernel_rfl
theorem zero_one (n : Nat) : ∀ v ∈ (Builtin.zeroCells (Value.agg #[.int .i64 0, .string ByteArray.empty, .int .i64 0, .string ByteArray.empty, .slice none 0 0]).cells n).toList, v.oneCell' = true := by
  intro v hv
  unfold Builtin.zeroCells at hv
  rw [Array.toList_map] at hv
  obtain ⟨i, _, rfl⟩ := List.mem_map.1 hv
  have h5 : i % 5 = 0 ∨ i % 5 = 1 ∨ i % 5 = 2 ∨ i % 5 = 3 ∨ i % 5 = 4 := by omega
  show (#[Value.int .i64 0, .string ByteArray.empty, .int .i64 0, .string ByteArray.empty, .slice none 0 0][i % 5]!).oneCell' = true
  rcases h5 with h | h | h | h | h <;> rw [h] <;> rfl
section
variable {w : World} {B N g n c : Nat} {l : List Pat}
theorem PatsOwn.set (h : PatsOwn w B N (.slice (some ⟨g, 0, none⟩) n c) l) (i : Nat) (p : Pat) (kv : Value) (hq : PQ w (fun b => N ≤ b ∧ b ≠ g) kv p) :
    PatsOwn (setPat w g (i * 5) p kv) B N (.slice (some ⟨g, 0, none⟩) n c) (l.set i p) ∧ w.grownBy (setPat w g (i * 5) p kv) (some g) := by
  obtain ⟨kvs, h1, h2, h3⟩ := h.rep
  have hn : n = l.length := by rcases h2.2 with ⟨h4, _⟩ | ⟨g', cap, cur, h4, _⟩ <;> cases h4; rfl
  subst hn
  obtain ⟨k1, g1⟩ := World.ownsRow.stored h2 (i * 5) (.int .i64 p.kind)
  obtain ⟨k2, g2⟩ := World.ownsRow.stored k1 (i * 5 + 1) (.string p.text)
  obtain ⟨k3, g3⟩ := World.ownsRow.stored k2 (i * 5 + 2) (.int .i64 p.n)
  obtain ⟨k4, g4⟩ := World.ownsRow.stored k3 (i * 5 + 3) (.string p.name)
  obtain ⟨k5, g5⟩ := World.ownsRow.stored k4 (i * 5 + 4) kv
  rw [patCells_set l kvs i p kv h1] at k5
  have G : w.grownBy (setPat w g (i * 5) p kv) (some g) := grownBy_tr (grownBy_tr (grownBy_tr (grownBy_tr g1 g2) g3) g4) g5
  have key : ∀ {u : Value} {q : Pat}, PQ w (fun b => N ≤ b ∧ b ≠ g) u q → PQ (setPat w g (i * 5) p kv) (fun b => N ≤ b ∧ (Value.slice (some ⟨g, 0, none⟩) l.length c).ownBlock ≠ some b) u q := fun hu =>
    (hu.grown G (fun b hb e => hb.2 (Option.some.inj e).symm)).mono fun b hb _ => ⟨hb.1, fun e => hb.2 (Option.some.inj e).symm⟩
  refine ⟨⟨kvs.set i kv, by rw [List.length_set, List.length_set, h1], by rw [List.length_set]; exact k5, fun j hj => ?_⟩, G⟩
  rw [List.length_set] at hj
  by_cases e : i = j
  · subst e
    rw [List.getD_eq_getElem?_getD, List.getD_eq_getElem?_getD, List.getElem?_set_self (by omega), List.getElem?_set_self hj]
    exact key hq
  · rw [List.getD_eq_getElem?_getD, List.getD_eq_getElem?_getD, List.getElem?_set_ne e, List.getElem?_set_ne e, ← List.getD_eq_getElem?_getD, ← List.getD_eq_getElem?_getD]
    exact key ((h3 j hj).mono fun b hb _ => ⟨hb.1, fun e2 => hb.2 (by rw [e2]; rfl)⟩)
theorem PatsOwn.at (h : PatsOwn w B N (.slice (some ⟨g, 0, none⟩) n c) l) {i : Nat} (hi : i < l.length) : ∃ kv, NodeAt w g (i * 5) (l.getD i Pat.zero) kv ∧ PQ w (fun b => N ≤ b ∧ b ≠ g) kv (l.getD i Pat.zero) := by
  obtain ⟨kvs, h1, h2, h3⟩ := h.rep
  refine ⟨kvs.getD i undef, node_of (h3 i hi).nums (fun j hj => ?_), (h3 i hi).mono fun b hb _ => ⟨hb.1, fun e => hb.2 (by rw [e]; rfl)⟩⟩
  have hn : n = l.length := by rcases h2.2 with ⟨h4, _⟩ | ⟨g', cap, cur, h4, _⟩ <;> cases h4; rfl
  subst hn
  rw [World.ownsRow.cellAt h2 (i * 5 + j) (by omega), patCells_at l kvs i j h1 hi hj]
theorem PatsOwn.free (h : PatsOwn w B N (.slice (some ⟨g, 0, none⟩) n c) l) (o : Nat) : w.frozen? ⟨g, o, none⟩ = false := by
  obtain ⟨kvs, h1, h2, h3⟩ := h.rep
  have hn : n = l.length := by rcases h2.2 with ⟨h4, _⟩ | ⟨g', cap, cur, h4, _⟩ <;> cases h4; rfl
  subst hn
  exact World.ownsRow.frozenAt h2 o
set_option maxRecDepth 100000 in
theorem clear_own (h : PatsOwn w B N (.slice (some ⟨g, 0, none⟩) n c) l) (i : Nat) (hi : i < l.length) (hn : n = l.length) (ty : TypeId) :
    ∃ w', (Builtin.clear_ #[22] ty #[.slice (some ⟨g, i * 5, none⟩) (n - i) (c - i)]).run Tryd.prog w = .ok (.tuple #[]) w' ∧ PatsOwn w' B N (.slice (some ⟨g, 0, none⟩) i c) (l.take i) ∧ w.grownBy w' (some g) := by
  subst hn
  obtain ⟨i0, hi0, hz0, hz1, hz2⟩ := info_parts info_pat
  have hz := fun w => zero_pat w
  have ht := (h.take i (by omega)).rep
  obtain ⟨kvs, k1, k2, k3⟩ := ht
  obtain ⟨kvs0, j1, j2, j3⟩ := h.rep
  rcases j2.2 with ⟨h4, _⟩ | ⟨g', cap, cur, h4, h5, h6, h7, h8, h9, h10⟩
  · cases h4
  · cases h4
    have hZ : (Builtin.zeroCells (Value.agg #[.int .i64 0, .string ByteArray.empty, .int .i64 0, .string ByteArray.empty, .slice none 0 0]).cells (l.length - i)).toList.length = (l.length - i) * 5 := by
      rw [Array.length_toList, size_zeroCells]; show _ * 5 = _; omega
    have hst := run_storeCells_at (P := Tryd.prog) g (i * 5) 24 (Builtin.zeroCells (Value.agg #[.int .i64 0, .string ByteArray.empty, .int .i64 0, .string ByteArray.empty, .slice none 0 0]).cells (l.length - i)).toList 0 cur w h6 (by rw [hZ]; omega) (zero_one _)
    obtain ⟨Z, hZe⟩ : ∃ Z, Builtin.zeroCells (Value.agg #[.int .i64 0, .string ByteArray.empty, .int .i64 0, .string ByteArray.empty, .slice none 0 0]).cells (l.length - i) = Z := ⟨_, rfl⟩
    rw [hZe] at hst hZ
    rw [Nat.add_zero] at hst
    refine ⟨w.setRow g (cur.toList.take (i * 5) ++ Z.toList ++ cur.toList.drop (i * 5 + Z.toList.length)).toArray, ?_, ?_, ⟨rfl, rfl, rfl, by simp, fun k hk hne => setRow_other w g k _ (fun e => hne (by rw [e]))⟩⟩
    · obtain ⟨d, hd⟩ : ∃ d, l.length - i = d + 1 := ⟨l.length - i - 1, by omega⟩
      rw [hd] at hZe ⊢
      simp only [Builtin.clear_, Sem.run_bind, run_underlying Tryd.underlying22, hz, hZe, hst, Result.andThen, List.getElem?_toArray, List.getElem?_cons_zero, Sem.run_pure]
    · have hln : (l.take i).length = i := by rw [List.length_take]; omega
      have gr : w.grownBy (w.setRow g (cur.toList.take (i * 5) ++ Z.toList ++ cur.toList.drop (i * 5 + Z.toList.length)).toArray) (some g) := ⟨rfl, rfl, rfl, by simp, fun k hk hne => setRow_other w g k _ (fun e => hne (by rw [e]))⟩
      have e0 : patCells (l.take i) kvs = (patCells l kvs0).take (i * 5) := by
        rcases k2.2 with ⟨h4, _⟩ | ⟨g', cap, cur', h4, _, q6, _, _, _, q10⟩
        · cases h4
        · rw [hln] at h4
          cases h4
          rw [h6] at q6
          cases q6
          rw [← h10, List.take_take, ← q10, hln]
          congr 1; omega
      refine ⟨kvs, k1, ⟨by rw [patCells_length _ _ k1], Or.inr ⟨g, c, _, by rw [hln], h5, setRow_heap w g cur _ _ _ h6, by rw [hln]; omega, h8, ?_, ?_⟩⟩, fun j hj => (k3 j hj).grown gr fun b hb e => hb.2 (by rw [← e]; rfl)⟩
      · rw [List.size_toArray, List.length_append, List.length_append, List.length_take, List.length_drop, hZ, Array.length_toList, h9]
        clear hst gr hZ hZe h6 h9 h10 e0 hz hz0 k1 k2 k3 j1 j2 j3
        omega
      · show ((cur.toList.take (i * 5) ++ Z.toList ++ cur.toList.drop (i * 5 + Z.toList.length)).take ((l.take i).length * 5)) = _
        rw [hln, List.append_assoc, List.take_append_of_le_length (by rw [List.length_take, Array.length_toList]; omega), List.take_take, Nat.min_self, e0, ← h10, List.take_take]
        congr 1; omega
end
theorem wpList_clear_eq {ops : Array Oper} {rest : List Oper} {o : Oper} {a : Act} {Q : Exit → Act → World → Prop} {w w' : World} (hgd : o.guard = none) {x : Operand} {t : TypeId}
    (ho : o.op = .call { callee := .builtin .clear, args := #[x], argTypes := #[t] }) {v u : Value} (hx : a.eval x = v)
    (hr : (Builtin.clear_ #[t] o.type #[v]).run Tryd.prog w = .ok u w') (h : wpList Tryd.prog ops Q rest (a.put o.dst u) w') : wpList Tryd.prog ops Q (o :: rest) a w := by
  refine wpList_plain hgd fun _ hK => ?_
  unfold Oper.wp execOp
  simp only [ho, resolve, invoke, builtin, Sem.run_bind, Sem.run_pure, Result.andThen_ok, List.map_toArray, List.map_cons, List.map_nil, hx, hr]
  exact hK _ _ h
end Go.Proofs.YtkkdpafkafjfgaaDoor
namespace Go.Proofs.YtkkdpafkafjfgaaDoor
open Go.RowKit
set_option linter.unusedVariables false
theorem PQ.form {w : World} {Q : Nat → Prop} {kv : Value} {p : Pat} (h : PQ w Q kv p) : ∃ a n c, kv = .slice a n c := by cases h <;> exact ⟨_, _, _, rfl⟩
theorem below_of_grownBy {w w' : World} {B g : Nat} (h : w.grownBy w' (some g)) (hB : B ≤ g) (hg : g < w.heap.size) : Below B w w' :=
  ⟨h.os, h.tape, h.output, h.size, fun k hk => h.block k (by omega) (fun e => by have := Option.some.inj e; omega)⟩
structure DelAt (t : Pat → Bool) (l D : List Pat) (i j : Nat) : Prop where
  lt : i < j
  le : j ≤ l.length
  len : D.length = l.length
  done : D.take i = (l.take j).filter fun p => !t p
  rest : ∀ k, j ≤ k → k < l.length → D.getD k Pat.zero = l.getD k Pat.zero
theorem take_getD {l : List Pat} {k : Nat} (h : k < l.length) : l.take (k + 1) = l.take k ++ [l.getD k Pat.zero] := by
  rw [List.take_succ_eq_append_getElem h, List.getD_eq_getElem?_getD, List.getElem?_eq_getElem h]; rfl
theorem filter_none {t : Pat → Bool} : ∀ {l : List Pat}, (∀ p ∈ l, t p = false) → l.filter (fun p => !t p) = l := fun h => List.filter_eq_self.2 fun p hp => by simp [h p hp]
theorem DelAt.start {t : Pat → Bool} {l : List Pat} {i : Nat} (h : l.findIdx? t = some i) : DelAt t l l i (i + 1) := by
  obtain ⟨hi, h1, h2⟩ := List.findIdx?_eq_some_iff_getElem.1 h
  refine ⟨by omega, by omega, rfl, ?_, fun _ _ _ => rfl⟩
  rw [take_getD hi, List.filter_append, filter_none (fun p hp => ?_)]
  · have e : t (l.getD i Pat.zero) = true := by rw [List.getD_eq_getElem?_getD, List.getElem?_eq_getElem hi]; exact h1
    simp only [List.filter_cons, e, Bool.not_true, Bool.false_eq_true, if_false, List.filter_nil, List.append_nil]
  · obtain ⟨k, hk, rfl⟩ := List.getElem_of_mem hp
    rw [List.length_take] at hk
    rw [List.getElem_take]
    simpa using h2 k (by omega)
theorem DelAt.skip {t : Pat → Bool} {l D : List Pat} {i j : Nat} (h : DelAt t l D i j) (hj : j < l.length) (ht : t (l.getD j Pat.zero) = true) : DelAt t l D i (j + 1) := by
  refine ⟨by have := h.lt; omega, by omega, h.len, ?_, fun k hk hl => h.rest k (by omega) hl⟩
  rw [take_getD hj, List.filter_append, h.done, List.filter_cons, ht]
  simp only [Bool.not_true, Bool.false_eq_true, if_false, List.filter_nil, List.append_nil]
theorem DelAt.put {t : Pat → Bool} {l D : List Pat} {i j : Nat} (h : DelAt t l D i j) (hj : j < l.length) (ht : t (l.getD j Pat.zero) = false) : DelAt t l (D.set i (l.getD j Pat.zero)) (i + 1) (j + 1) := by
  have hlt := h.lt
  have hln := h.len
  refine ⟨by omega, by omega, by rw [List.length_set, h.len], ?_, fun k hk hl => ?_⟩
  · rw [take_getD (by rw [List.length_set]; omega), take_getD hj, List.filter_append, ← h.done]
    have e1 : (D.set i (l.getD j Pat.zero)).take i = D.take i := by rw [List.take_set_of_le (Nat.le_refl i)]
    have e2 : (D.set i (l.getD j Pat.zero)).getD i Pat.zero = l.getD j Pat.zero := by rw [List.getD_eq_getElem?_getD, List.getElem?_set_self (by omega)]; rfl
    rw [e1, e2, List.filter_cons, ht]; rfl
  · rw [← h.rest k (by omega) hl, List.getD_eq_getElem?_getD, List.getElem?_set_ne (by omega), ← List.getD_eq_getElem?_getD]
theorem DelAt.over {t : Pat → Bool} {l D : List Pat} {i j : Nat} (h : DelAt t l D i j) (hj : j = l.length) : D.take i = l.filter fun p => !t p := by rw [h.done, hj, List.take_length]
theorem find_none {t : Pat → Bool} {l : List Pat} (h : l.findIdx? t = none) : l.filter (fun p => !t p) = l := filter_none fun p hp => List.findIdx?_eq_none_iff.1 h p hp
set_option maxRecDepth 100000 in
set_option maxHeartbeats 4000000 in
theorem DeleteP_any (f : FuncId) (hfo : f = 82 ∨ f = 88) (t : Pat → Bool) (hf : TestOf f t) {B N : Nat} (l : List Pat) (v : Value) (w : World) (h : PatsOwn w B N v l) (hBw : B ≤ w.heap.size) :
    Calls Tryd.prog 80 #[v, .func (.func f) #[] #[]] w fun e w' => ∃ v', e = .returned v' ∧ PatsOwn w' B N v' (l.filter fun p => !t p) ∧ Below B w w' := by
  have HI := hidd (IndexP_any f (by rcases hfo with h | h <;> simp [h]) t hf l v w h.list)
  have HO := hidd h
  obtain ⟨a, c, rfl⟩ := h.len
  have hm : l.length ≤ maxLen := by obtain ⟨_, _, e, hm⟩ := h.list.len; exact hm
  unfold maxLen at hm
  have HF := hidd hf
  clear h hf
  cases hx : l.findIdx? t with
  | none =>
    rw [hx] at HI
    have HU := hidd (find_none hx)
    clear hx
    rcases hfo with rfl | rfl
    all_goals
      go_enter Tryd.func80, Tryd.ntmps80
      go_wp2_with fail
      refine HI.out.mono ?_; rintro e w1 ⟨rfl, g1⟩
      have HE := hidd (And.intro (HO.out.kept g1) g1)
      clear g1
      go_wp2_with fail
      go_ret
      rw [HU.out]
      exact ⟨_, rfl, HE.out.1, Below.mono HE.out.2 hBw⟩
  | some i0 =>
    rw [hx] at HI
    have hi := findIdxP_lt hx
    have HS := hidd (DelAt.start hx)
    clear hx
    obtain ⟨g, cap, hv, hBg, hgl⟩ : ∃ g cap, Value.slice a l.length c = .slice (some ⟨g, 0, none⟩) l.length cap ∧ B ≤ g ∧ g < w.heap.size := by
      obtain ⟨kvs, h1, h2, h3⟩ := HO.out.rep
      exact h2.form (by omega)
    cases hv
    have hcap : l.length ≤ c := by
      rcases HO.out.list.rep with ⟨_, _, e, e2⟩ | ⟨_, _, _, _, e, _, h3, _⟩
      · rw [e2] at hi; simp at hi
      · cases e; exact h3
    have hcm : c ≤ 9223372036854775807 := by
      rcases HO.out.list.rep with ⟨_, _, e, e2⟩ | ⟨_, _, _, _, e, _, _, h3, _⟩
      · rw [e2] at hi; simp at hi
      · cases e; unfold maxLen at h3; omega
    have HI2 : Hid (Calls Tryd.prog 109 #[.slice (some ⟨g, 0, none⟩) l.length c, .func (.func f) #[] #[]] w fun e w' => e = .returned (.int .i64 i0) ∧ Grew w w') := HI.out
    clear HI
    have HB := hidd (And.intro hBg hgl)
    have hne : ((i0 : Int) == -1) = false := by rw [beq_eq_false_iff_ne]; omega
    rcases hfo with rfl | rfl
    all_goals
      go_enter Tryd.func80, Tryd.ntmps80
      go_wp2_with fail
      refine HI2.out.mono ?_; rintro e w1 ⟨rfl, g1⟩
      have HO1 := hidd (HO.out.kept g1)
      have HG1 := hidd (grownBy_grew (grownBy_refl w (some g)) g1)
      clear g1 HI2
      go_wp2_with fail
      go_loopw [5, 6] (fun s5 s6 wr => ∃ (i j : Nat) (D : List Pat), s5 = .int .i64 i ∧ s6 = .int .i64 j ∧ i ≤ l.length ∧ j ≤ l.length ∧ Hid (DelAt t l D i j ∧ PatsOwn wr B N (.slice (some ⟨g, 0, none⟩) l.length c) D ∧ w.grownBy wr (some g))) (fun _ s6 _ => l.length - (intOf s6).toNat)
      case atStart => exact ⟨i0, i0 + 1, l, rfl, by simp, by omega, by omega, HS.out, HO1.out, HG1.out⟩
      case round =>
        obtain ⟨i, j, D, rfl, rfl, hi2, hj2, HD⟩ := hrel
        clear HS HO1 HG1 HO
        by_cases hlt : j < l.length
        · have hij := HD.out.1.lt
          have hln := HD.out.1.len
          have hrest := HD.out.1.rest j (Nat.le_refl _) hlt
          obtain ⟨kv, hn, hq⟩ := HD.out.2.1.at (i := j) (by omega)
          obtain ⟨kv0, hn0, _⟩ := HD.out.2.1.at (i := i) (by omega)
          rw [hrest] at hn hq
          obtain ⟨ka, kn, kc, rfl⟩ := hq.form
          have fz := HD.out.2.1.free
          have hgw := HD.out.2.2.size
          have hF := HF.out (l.getD j Pat.zero) (.slice ka kn kc)
          have HT1 := hidd (fun ht => HD.out.1.skip hlt ht)
          have HT2 := hidd (fun ht => HD.out.1.put hlt ht)
          obtain ⟨r, hr⟩ : ∃ r, l.getD j Pat.zero = r := ⟨_, rfl⟩
          rw [hr] at hn hq hF HT1 HT2
          obtain ⟨r0, hr0⟩ : ∃ r0, D.getD i Pat.zero = r0 := ⟨_, rfl⟩
          rw [hr0] at hn0
          rw [cells_eq] at hF
          have HQ := hidd hq
          have HN0 := hidd hn0
          obtain ⟨c0, c1, c2, c3, c4, _, _, _, _⟩ := hn
          have HFF := hidd hF
          have hglr : g < wr.heap.size := by have := HB.out.2; omega
          have kk : decide ((j : Int) < (l.length : Int)) = true := decide_eq_true (by omega)
          clear hF hr hr0 hq hn0 hrest hln
          cases ht : t r with
          | true =>
            rw [ht] at HFF HT1
            clear ht
            go_wp2_with fail
            refine (HFF.out _).mono ?_; rintro e w2 ⟨rfl, G2⟩
            have HO2 := hidd (((HD.out.2.1.kept ((Grew.refl wr).alloc _)).kept G2))
            have HG2 := hidd (grownBy_grew (grownBy_grew HD.out.2.2 ((Grew.refl wr).alloc _)) G2)
            clear G2
            go_wp2_with fail
            go_roundw
            case rel => exact ⟨i, j + 1, D, rfl, by go_num, by omega, by omega, HT1.out (by first | rfl | trivial), HO2.out, HG2.out⟩
            case measure => simp [intOf]; omega
          | false =>
            rw [ht] at HFF HT2
            clear ht
            go_wp2_with fail
            refine (HFF.out _).mono ?_; rintro e w2 ⟨rfl, G2⟩
            have G3 := hidd ((((Grew.refl wr).alloc _)).trans G2)
            have HO2 := hidd ((HD.out.2.1.kept G3.out).set i r (.slice ka kn kc) (HQ.out.kept G3.out))
            have HG2 := hidd (grownBy_tr (grownBy_grew HD.out.2.2 G3.out) HO2.out.2)
            have hn1 := HN0.out.kept G3.out
            obtain ⟨z0, z1, z2, z3, z4, _, _, _, _⟩ := hn1
            have fz2 : ∀ o, w2.frozen? ⟨g, o, none⟩ = false := fun o => (HD.out.2.1.kept G3.out).free o
            have b0 : w2.cell? ⟨wr.heap.size, 0, none⟩ = some (.int .i64 r.kind) := by rw [G2.cell (by simp), World.cell?_alloc_mark]; rfl
            have b1 : w2.cell? ⟨wr.heap.size, 1, none⟩ = some (.string r.text) := by rw [G2.cell (by simp), World.cell?_alloc_mark]; rfl
            have b2 : w2.cell? ⟨wr.heap.size, 2, none⟩ = some (.int .i64 r.n) := by rw [G2.cell (by simp), World.cell?_alloc_mark]; rfl
            have b3 : w2.cell? ⟨wr.heap.size, 3, none⟩ = some (.string r.name) := by rw [G2.cell (by simp), World.cell?_alloc_mark]; rfl
            have b4 : w2.cell? ⟨wr.heap.size, 4, none⟩ = some (.slice ka kn kc) := by rw [G2.cell (by simp), World.cell?_alloc_mark]; rfl
            clear G2 fz
            go_wp2_with fail
            go_roundw
            case rel => exact ⟨i + 1, j + 1, _, by go_num, by go_num, by omega, by omega, HT2.out (by first | rfl | trivial), HO2.out.1, HG2.out⟩
            case measure => simp [intOf]; omega
        · have hje : j = l.length := by omega
          have HOv := hidd (HD.out.1.over hje)
          have hij := HD.out.1.lt
          obtain ⟨wc, k1, k2, k3⟩ := clear_own HD.out.2.1 i (by rw [HD.out.1.len]; omega) HD.out.1.len.symm 0
          have kk : decide ((j : Int) < (l.length : Int)) = false := decide_eq_false (by omega)
          have HE := hidd (And.intro k2 (below_of_grownBy (grownBy_tr HD.out.2.2 k3) HB.out.1 HB.out.2))
          rw [HOv.out] at HE
          clear k2 k3 HD hje
          go_wp2_with (refine wpList_clear_eq rfl rfl rfl k1 ?_)
          go_ret
          exact ⟨_, rfl, HE.out⟩
end Go.Proofs.YtkkdpafkafjfgaaDoor
namespace Go.Proofs.YtkkdpafkafjfgaaDoor
open Go.RowKit
set_option linter.unusedVariables false
theorem PQ.kvOne {w : World} {Q : Nat → Prop} {n : Nat} {kvs : List Value} {l : List Pat} (hlen : kvs.length = l.length) (h : ∀ i, i < l.length → PQ w Q (kvs.getD i undef) (l.getD i Pat.zero)) : ∀ v ∈ kvs, v.oneCell' = true := by
  intro v hv
  obtain ⟨i, hi, rfl⟩ := List.getElem_of_mem hv
  have := (h i (by omega)).one
  rwa [List.getD_eq_getElem?_getD, List.getElem?_eq_getElem hi] at this
theorem addr_plus (b o j : Nat) : (⟨b, o, none⟩ : Addr).add j = ⟨b, o + j, none⟩ := plain_add b o j
theorem pats_append {w : World} {B N : Nat} {v : Value} {l m : List Pat} (h : PatsOwn w B N v l) (hB : B ≤ w.heap.size) {Q : Nat → Prop} {ad : Option Addr} {c : Nat} (hk : ListIn w Q (.slice ad m.length c) m) (hm : 0 < m.length)
    (hQ : ∀ b, Q b → b < w.heap.size → N ≤ b ∧ v.ownBlock ≠ some b) (hl : l.length + m.length ≤ 100000) (ty : TypeId) :
    ∃ v' w', (Builtin.append_ #[22, 22] ty #[v, .slice ad m.length c]).run Tryd.prog w = .ok v' w' ∧ PatsOwn w' B N v' (l ++ m) ∧ Below B w w' ∧ w.grownBy w' v.ownBlock := by
  obtain ⟨i0, hi0, hz0, hz1, hz2⟩ := info_parts info_pat
  rcases hk.rep with ⟨_, _, _, e⟩ | ⟨b, o, c', us, e, _, h3, h4, h5, h6, h7⟩
  · rw [e] at hm; simp at hm
  · cases e
    obtain ⟨kvs, k1, k2, k3⟩ := h.rep
    obtain ⟨g, cap, w', r1, r2, r3, r4, r5⟩ := run_append_lies (P := Tryd.prog) w 22 ty B 24 i0 _ 5 72 Tryd.underlying22 hi0 hz0 hz1 hz2 rfl (by decide) v l.length (patCells l kvs) k2 ⟨b, o, none⟩ m.length c (patCells m us)
      (patCells_length m us h5) (fun j u hj => by
        have hlt : j < (patCells m us).length := (List.getElem?_eq_some_iff.1 hj).1
        rw [patCells_length m us h5] at hlt
        rw [addr_plus, h6 j hlt]; exact hj) (fun u hu => patCells_one m us u hu (PQ.kvOne (n := 0) h5 h7)) hm (by unfold maxLen; omega) (by omega) hB w.heap.size rfl
    have hbel : Below B w w' := ⟨r3.os, r3.tape, r3.output, r3.size, fun k hk => r3.block k (by omega) (fun e => by
      have := World.ownsRow.lt k2 k e.symm; omega)⟩
    refine ⟨_, w', r1, ?_, hbel, r3⟩
    have key : ∀ {kv : Value} {p : Pat}, PQ w (fun b => N ≤ b ∧ v.ownBlock ≠ some b) kv p → PQ w' (fun b => N ≤ b ∧ (Value.slice (some ⟨g, 0, none⟩) (l.length + m.length) cap).ownBlock ≠ some b) kv p := by
      intro kv p hq
      refine ((hq.lt).grown r3 (fun b hb => hb.1.2)).mono fun b hb2 _ => ⟨hb2.1.1, fun e => ?_⟩
      have e : g = b := Option.some.inj e
      rcases r4 with r4 | r4
      · exact hb2.1.2 (by rw [r4, e])
      · have := hb2.2; omega
    refine ⟨kvs ++ us, by rw [List.length_append, List.length_append, k1, h5], by rw [patCells_append l kvs m us k1, List.length_append]; exact r2, fun i hi => ?_⟩
    by_cases hil : i < l.length
    · rw [List.getD_eq_getElem?_getD, List.getD_eq_getElem?_getD, List.getElem?_append_left (by omega), List.getElem?_append_left hil, ← List.getD_eq_getElem?_getD, ← List.getD_eq_getElem?_getD]
      exact key (k3 i hil)
    · rw [List.length_append] at hi
      rw [List.getD_eq_getElem?_getD, List.getD_eq_getElem?_getD, List.getElem?_append_right (by omega), List.getElem?_append_right (by omega), k1, ← List.getD_eq_getElem?_getD, ← List.getD_eq_getElem?_getD]
      exact key ((h7 (i - l.length) (by omega)).mono hQ)
theorem list_one {w : World} {Q : Nat → Prop} {kv : Value} {p : Pat} (hq : PQ w Q kv p) (t : TypeId) : ListIn (w.alloc (.cells (p.cells kv) t)) Q (.slice (some ⟨w.heap.size, 0, none⟩) 1 1) [p] := by
  refine ⟨Or.inr ⟨w.heap.size, 0, 1, [kv], rfl, by simp, by simp, by unfold maxLen; omega, rfl, fun j hj => ?_, fun i hi => ?_⟩⟩
  · rw [Nat.zero_add, World.cell?_alloc_mark]
    show (p.cells kv)[j]? = (patCells [p] [kv])[j]?
    rw [show patCells [p] [kv] = (p.cells kv).toList from List.append_nil _, Array.getElem?_toList]
  · have : i = 0 := by simp at hi; omega
    subst this
    exact hq.kept ((Grew.refl w).alloc _)
theorem pats_append_one {w : World} {B N : Nat} {v : Value} {l : List Pat} (h : PatsOwn w B N v l) (hB : B ≤ w.heap.size) {Q : Nat → Prop} {kv : Value} {p : Pat} (hq : PQ w Q kv p)
    (hQ : ∀ b, Q b → b < w.heap.size → N ≤ b ∧ v.ownBlock ≠ some b) (hl : l.length + 1 ≤ 100000) (ty t : TypeId) :
    ∃ v' w', (Builtin.append_ #[22, 22] ty #[v, .slice (some ⟨w.heap.size, 0, none⟩) 1 1]).run Tryd.prog (w.alloc (.cells #[.int .i64 p.kind, .string p.text, .int .i64 p.n, .string p.name, kv] t)) = .ok v' w' ∧ PatsOwn w' B N v' (l ++ [p]) ∧ Below B w w' ∧ w.grownBy w' v.ownBlock := by
  obtain ⟨v', w', r1, r2, r3, r4⟩ := pats_append (h.kept ((Grew.refl w).alloc (.cells (p.cells kv) t))) (by simp; omega) (m := [p]) (list_one ((hq.lt).mono fun b hb _ => hQ b hb.1 hb.2) t) (by simp) (fun b hb _ => hb) hl ty
  have g0 : Grew w (w.alloc (.cells (p.cells kv) t)) := (Grew.refl w).alloc _
  exact ⟨v', w', r1, r2, Below.trans (Below.mono g0 hB) r3, grownBy_tr ⟨g0.os, g0.tape, g0.output, g0.size, fun k hk _ => g0.block k hk⟩ r4⟩
theorem PatsOwn.mono {w : World} {B B' N N' : Nat} {v : Value} {l : List Pat} (h : PatsOwn w B N v l) (hB : B' ≤ B) (hN : N' ≤ N) : PatsOwn w B' N' v l := by
  obtain ⟨kvs, h1, h2, h3⟩ := h.rep
  refine ⟨kvs, h1, ⟨h2.1, ?_⟩, fun i hi => (h3 i hi).mono fun b hb _ => ⟨by omega, hb.2⟩⟩
  rcases h2.2 with h | ⟨g, cap, cur, k1, k2, k3⟩
  · exact .inl h
  · exact .inr ⟨g, cap, cur, k1, by omega, k3⟩
theorem flat_take (k : Int) {l : List Pat} {i : Nat} (h : i < l.length) : flatP k (l.take (i + 1)) = flatP k (l.take i) ++ (if (l.getD i Pat.zero).kind = k then (l.getD i Pat.zero).kids else [l.getD i Pat.zero]) := by
  rw [take_getD h]
  generalize l.take i = m
  induction m with
  | nil => simp only [flatP, List.nil_append, List.append_nil]
  | cons x m ih => rw [List.cons_append, flatP, ih, flatP, List.append_assoc]
theorem flat_len (k : Int) (l : List Pat) : (flatP k l).length ≤ nodesL l := Nat.le_trans (length_le_nodes _) (flatP_nodes k l)
theorem nodes_take (l : List Pat) (i : Nat) : nodesL (l.take i) ≤ nodesL l := by
  have := nodesL_append (l.take i) (l.drop i)
  rw [List.take_append_drop] at this; omega
set_option maxRecDepth 100000 in
set_option maxHeartbeats 4000000 in
theorem flat_any (k : Int) {Q : Nat → Prop} {N : Nat} (l : List Pat) (v : Value) (w : World) (h : ListIn w Q v l) (hQ : ∀ b, Q b → N ≤ b) (hk : ∀ p ∈ l, p.kind = k → 0 < p.kids.length) (hn : nodesL l ≤ 4096) :
    Calls Tryd.prog 81 #[v, .int .i64 k] w fun e w' => ∃ v', e = .returned v' ∧ PatsOwn w' w.heap.size N v' (flatP k l) ∧ Grew w w' := by
  obtain ⟨a, c, rfl, hm⟩ := h.len
  have hlen := length_le_nodes l
  have HR := hidd h
  have HK := hidd hk
  have HQ := hidd hQ
  unfold maxLen at hm
  clear h hk hQ
  go_enter Tryd.func81, Tryd.ntmps81
  go_wp2_with fail
  go_loopw [5, 10] (fun s5 s10 wr => ∃ i : Nat, s10 = .int .i64 i ∧ i ≤ l.length ∧ Hid (PatsOwn wr w.heap.size N s5 (flatP k (l.take i)) ∧ Grew w wr)) (fun _ s10 _ => l.length - (intOf s10).toNat)
  case atStart => exact ⟨0, rfl, by omega, PatsOwn.nil _ _ _, Grew.refl _⟩
  case round =>
    obtain ⟨i, rfl, hi, HD⟩ := hrel
    by_cases hlt : i < l.length
    · obtain ⟨b, o, kv, rfl, hnd, hq⟩ := HR.out.at hlt
      have hq2 := hq.lt
      have hnd2 := hnd.kept HD.out.2
      obtain ⟨ka, kn, kc, rfl⟩ := hq.form
      have HS := hidd (flat_take k hlt)
      have hkp := HK.out (l.getD i Pat.zero) (by rw [List.getD_eq_getElem?_getD, List.getElem?_eq_getElem hlt]; exact List.getElem_mem hlt)
      have HI := hidd (fun w => is_any (l.getD i Pat.zero) (.slice ka kn kc) k w)
      have hfl := flat_len k (l.take (i + 1))
      have hnt := nodes_take l (i + 1)
      obtain ⟨r, hr⟩ : ∃ r, l.getD i Pat.zero = r := ⟨_, rfl⟩
      rw [hr] at hnd2 hq2 HS hkp HI
      rw [cells_eq] at HI
      have HFL := hidd (Nat.le_trans hfl hnt)
      rw [HS.out] at HFL
      have HQ2 := hidd hq2
      obtain ⟨c0, c1, c2, c3, c4, _, _, _, _⟩ := hnd2
      have kk : decide ((i : Int) < (l.length : Int)) = true := decide_eq_true (by omega)
      have hsz := HD.out.2.size
      clear hr hq hq2 hnd hfl hnt
      by_cases hkd : r.kind = k
      · rw [if_pos hkd] at HS HFL
        have k1 : (r.kind == k) = true := by simp [hkd]
        rw [k1] at HI
        have hr0 := hkp hkd
        clear hkd k1 hkp
        go_wp2_with fail
        refine (HI.out _).mono ?_; rintro e w2 ⟨rfl, G2⟩
        have G3 := hidd (((Grew.refl wr).alloc (.cells #[.int .i64 r.kind, .string r.text, .int .i64 r.n, .string r.name, .slice ka kn kc] 24)).trans G2)
        have b4 : w2.cell? ⟨wr.heap.size, 4, none⟩ = some (.slice ka kn kc) := by rw [G2.cell (by simp), World.cell?_alloc_mark]; rfl
        obtain ⟨v', w', hap, ho, hbel, hgr⟩ : ∃ v' w', (Builtin.append_ #[22, 22] 22 #[u5, .slice ka kn kc]).run Tryd.prog w2 = .ok v' w' ∧ PatsOwn w' w.heap.size N v' (flatP k (l.take i) ++ r.kids) ∧ Below w.heap.size w2 w' ∧ w2.grownBy w' u5.ownBlock := by
          have hl := (HQ2.out.kept (HD.out.2.trans G3.out)).list
          obtain ⟨_, _, e, _⟩ := hl.len
          cases e
          refine pats_append (HD.out.1.kept G3.out) (by have := G3.out.size; omega) hl hr0 (fun b hb _ => ⟨HQ.out b hb.1, fun e => ?_⟩) (by have := HFL.out; rw [List.length_append] at this; omega) _
          have := HD.out.1.blocks b e
          omega
        have HE : Hid (PatsOwn w' w.heap.size N v' (flatP k (l.take (i + 1))) ∧ Grew w w') := by
          rw [HS.out]; exact ⟨ho, (HD.out.2.trans G3.out).below hbel (Nat.le_refl _)⟩
        clear ho hbel hgr G2
        go_wp2_with (at_builtin; refine wpList_append_eq rfl rfl rfl rfl hap ?_)
        go_roundw
        case rel => exact ⟨i + 1, by go_num, by omega, HE⟩
        case measure => simp [intOf]; omega
      · rw [if_neg hkd] at HS HFL
        have k1 : (r.kind == k) = false := by simp [hkd]
        rw [k1] at HI
        clear hkd k1 hkp
        go_wp2_with fail
        refine (HI.out _).mono ?_; rintro e w2 ⟨rfl, G2⟩
        have G3 := hidd (((Grew.refl wr).alloc (.cells #[.int .i64 r.kind, .string r.text, .int .i64 r.n, .string r.name, .slice ka kn kc] 24)).trans G2)
        have b0 : w2.cell? ⟨wr.heap.size, 0, none⟩ = some (.int .i64 r.kind) := by rw [G2.cell (by simp), World.cell?_alloc_mark]; rfl
        have b1 : w2.cell? ⟨wr.heap.size, 1, none⟩ = some (.string r.text) := by rw [G2.cell (by simp), World.cell?_alloc_mark]; rfl
        have b2 : w2.cell? ⟨wr.heap.size, 2, none⟩ = some (.int .i64 r.n) := by rw [G2.cell (by simp), World.cell?_alloc_mark]; rfl
        have b3 : w2.cell? ⟨wr.heap.size, 3, none⟩ = some (.string r.name) := by rw [G2.cell (by simp), World.cell?_alloc_mark]; rfl
        have b4 : w2.cell? ⟨wr.heap.size, 4, none⟩ = some (.slice ka kn kc) := by rw [G2.cell (by simp), World.cell?_alloc_mark]; rfl
        obtain ⟨v', w', hap, ho, hbel, hgr⟩ := pats_append_one (HD.out.1.kept G3.out) (by have := G3.out.size; omega) (HQ2.out.kept (HD.out.2.trans G3.out)) (fun b hb _ => ⟨HQ.out b hb.1, fun e => by have := HD.out.1.blocks b e; omega⟩) (by have := HFL.out; rw [List.length_append] at this; simp at this; omega) 22 24
        have HE : Hid (PatsOwn w' w.heap.size N v' (flatP k (l.take (i + 1))) ∧ Grew w w') := by
          rw [HS.out]; exact ⟨ho, (HD.out.2.trans G3.out).below hbel (Nat.le_refl _)⟩
        clear ho hbel hgr G2
        go_wp2_with (at_builtin; refine wpList_append_eq rfl rfl rfl rfl hap ?_)
        go_roundw
        case rel => exact ⟨i + 1, by go_num, by omega, HE⟩
        case measure => simp [intOf]; omega
    · have hie : i = l.length := by omega
      have kk : decide ((i : Int) < (l.length : Int)) = false := decide_eq_false (by omega)
      have HE := hidd HD.out
      rw [show l.take i = l from by rw [hie, List.take_length]] at HE
      clear HD hie
      go_wp2_with fail
      go_ret
      exact ⟨_, rfl, HE.out⟩
end Go.Proofs.YtkkdpafkafjfgaaDoor
namespace Go.Proofs.YtkkdpafkafjfgaaDoor
open Go.RowKit
set_option linter.unusedVariables false
theorem is_lit (p : Pat) (kv : Value) (k : Int) (b : Bool) (h : (p.kind == k) = b) (w : World) : Calls Tryd.prog 78 #[.agg #[.int .i64 p.kind, .string p.text, .int .i64 p.n, .string p.name, kv], .int .i64 k] w fun e w' => e = .returned (.bool b) ∧ w' = w.alloc (.cells #[.int .i64 p.kind, .string p.text, .int .i64 p.n, .string p.name, kv] 24) := by
  subst h
  go_enter Tryd.func78, Tryd.ntmps78
  go_wp2_with fail
  go_ret
  exact ⟨rfl, rfl⟩
def twoVT : Option Pat → Value
  | some q => .tuple #[.agg (q.cells (.slice none 0 0)), .bool true]
  | none => .tuple #[.agg (Pat.zero.cells (.slice none 0 0)), .bool false]
theorem heap_third (w : World) (o o' o2 : Obj) : (((w.alloc o).alloc o').alloc o2).heap[w.heap.size + 1 + 1]? = some o2 := by
  have e : w.heap.size + 1 + 1 = ((w.alloc o).alloc o').heap.size := by simp
  rw [e]; exact heap_alloc_new _ _
theorem heap_moreT {w : World} {i : Nat} {o x : Obj} (h : w.heap[i]? = some x) : (w.alloc o).heap[i]? = some x := by rw [heap_alloc_old _ _ (Array.getElem?_eq_some_iff.1 h).1]; exact h
theorem lit_exact (s : ByteArray) (w : World) : Calls Tryd.prog 79 #[.string s] w fun e w' => e = .returned (.agg #[.int .i64 1, .string s, .int .i64 0, .string ⟨#[]⟩, .slice none 0 0]) ∧ w' = w.alloc (.cells #[.int .i64 1, .string s, .int .i64 0, .string ⟨#[]⟩, .slice none 0 0] 24) := by
  go_enter Tryd.func79, Tryd.ntmps79
  go_wp2_with fail
  exact bodyPost_ret (results_pat (rb := w.heap.size) (cs := #[.int .i64 1, .string s, .int .i64 0, .string ⟨#[]⟩, .slice none 0 0]) rfl rfl (heap_alloc_new w _) rfl) rfl ⟨rfl, rfl⟩
set_option maxRecDepth 100000 in
set_option maxHeartbeats 1000000 in
theorem pieces_none (a b : Pat) (ka kb : Value) (w : World) (h1 : ¬ (a.kind = 1 ∧ b.kind = 1)) (h2 : ¬ (a.kind = 2 ∧ b.kind = 2)) : Calls Tryd.prog 87 #[.agg (a.cells ka), .agg (b.cells kb)] w fun e w' => e = .returned (twoVT none) ∧ Grew w w' := by
  rw [cells_eq, cells_eq]
  have HA := fun k b' h w => is_lit a ka k b' h w
  have HB := fun k b' h w => is_lit b kb k b' h w
  have HH := hidd (And.intro h1 h2)
  clear h1 h2
  by_cases k1 : a.kind = 1
  · have e1 : (a.kind == 1) = true := by simp [k1]
    have e2 : (a.kind == 2) = false := by simp [k1]
    have e3 : (b.kind == 1) = false := by have := HH.out.1; simp; omega
    have E1 := hidd e1
    have E2 := hidd e2
    have E3 := hidd e3
    clear k1 e1 e2 e3
    go_enter Tryd.func87, Tryd.ntmps87
    go_wp2_with fail
    refine (HA 1 true E1.out _).mono ?_; rintro e w1 ⟨rfl, rfl⟩
    go_wp2_with fail
    refine (HB 1 false E3.out _).mono ?_; rintro e w1 ⟨rfl, rfl⟩
    go_wp2_with fail
    refine (HA 2 false E2.out _).mono ?_; rintro e w1 ⟨rfl, rfl⟩
    go_wp2_with fail
    exact bodyPost_ret (results_pat2 rfl rfl rfl (heap_moreT (heap_moreT (heap_moreT (heap_third w _ _ _)))) rfl) rfl ⟨rfl, ((((((Grew.refl w).alloc _).alloc _).alloc _).alloc _).alloc _).alloc _⟩
  · have e1 : (a.kind == 1) = false := by simp [k1]
    have E1 := hidd e1
    clear k1 e1
    by_cases k2 : a.kind = 2
    · have e2 : (a.kind == 2) = true := by simp [k2]
      have e3 : (b.kind == 2) = false := by have := HH.out.2; simp; omega
      have E2 := hidd e2
      have E3 := hidd e3
      clear k2 e2 e3
      go_enter Tryd.func87, Tryd.ntmps87
      go_wp2_with fail
      refine (HA 1 false E1.out _).mono ?_; rintro e w1 ⟨rfl, rfl⟩
      go_wp2_with fail
      refine (HA 2 true E2.out _).mono ?_; rintro e w1 ⟨rfl, rfl⟩
      go_wp2_with fail
      refine (HB 2 false E3.out _).mono ?_; rintro e w1 ⟨rfl, rfl⟩
      go_wp2_with fail
      exact bodyPost_ret (results_pat2 rfl rfl rfl (heap_moreT (heap_moreT (heap_moreT (heap_third w _ _ _)))) rfl) rfl ⟨rfl, ((((((Grew.refl w).alloc _).alloc _).alloc _).alloc _).alloc _).alloc _⟩
    · have e2 : (a.kind == 2) = false := by simp [k2]
      have E2 := hidd e2
      clear k2 e2
      go_enter Tryd.func87, Tryd.ntmps87
      go_wp2_with fail
      refine (HA 1 false E1.out _).mono ?_; rintro e w1 ⟨rfl, rfl⟩
      go_wp2_with fail
      refine (HA 2 false E2.out _).mono ?_; rintro e w1 ⟨rfl, rfl⟩
      go_wp2_with fail
      exact bodyPost_ret (results_pat2 rfl rfl rfl (heap_moreT (heap_moreT (heap_third w _ _ _))) rfl) rfl ⟨rfl, (((((Grew.refl w).alloc _).alloc _).alloc _).alloc _).alloc _⟩
set_option maxRecDepth 100000 in
set_option maxHeartbeats 1000000 in
theorem pieces_lit (a b : Pat) (ka kb : Value) (w : World) (h1 : a.kind = 1) (h2 : b.kind = 1) (ha : a.text.size ≤ 65536) (hb : b.text.size ≤ 65536) : Calls Tryd.prog 87 #[.agg (a.cells ka), .agg (b.cells kb)] w fun e w' => e = .returned (twoVT (if a.text.size + b.text.size ≤ 65536 then some (litP (a.text ++ b.text)) else none)) ∧ Grew w w' := by
  rw [cells_eq, cells_eq]
  have HA := fun k b' h w => is_lit a ka k b' h w
  have HB := fun k b' h w => is_lit b kb k b' h w
  have E1 := hidd (show (a.kind == 1) = true by simp [h1])
  have E2 := hidd (show (a.kind == 2) = false by simp [h1])
  have E3 := hidd (show (b.kind == 1) = true by simp [h2])
  clear h1 h2
  by_cases hs : a.text.size + b.text.size ≤ 65536
  · rw [if_pos hs]
    have k1 : decide ((a.text.size : Int) + (b.text.size : Int) ≤ 65536) = true := decide_eq_true (by omega)
    clear hs
    go_enter Tryd.func87, Tryd.ntmps87
    go_wp2_with fail
    refine (HA 1 true E1.out _).mono ?_; rintro e w1 ⟨rfl, rfl⟩
    go_wp2_with fail
    refine (HB 1 true E3.out _).mono ?_; rintro e w1 ⟨rfl, rfl⟩
    go_wp2_with fail
    refine (lit_exact (a.text ++ b.text) _).mono ?_; rintro e w1 ⟨rfl, rfl⟩
    go_wp2_with fail
    exact bodyPost_ret (results_pat2 rfl rfl rfl (heap_moreT (heap_moreT (heap_moreT (heap_third w _ _ _)))) rfl) rfl ⟨rfl, ((((((Grew.refl w).alloc _).alloc _).alloc _).alloc _).alloc _).alloc _⟩
  · rw [if_neg hs]
    have k1 : decide ((a.text.size : Int) + (b.text.size : Int) ≤ 65536) = false := decide_eq_false (by omega)
    clear hs
    go_enter Tryd.func87, Tryd.ntmps87
    go_wp2_with fail
    refine (HA 1 true E1.out _).mono ?_; rintro e w1 ⟨rfl, rfl⟩
    go_wp2_with fail
    refine (HB 1 true E3.out _).mono ?_; rintro e w1 ⟨rfl, rfl⟩
    go_wp2_with fail
    refine (HA 2 false E2.out _).mono ?_; rintro e w1 ⟨rfl, rfl⟩
    go_wp2_with fail
    exact bodyPost_ret (results_pat2 rfl rfl rfl (heap_moreT (heap_moreT (heap_moreT (heap_third w _ _ _)))) rfl) rfl ⟨rfl, ((((((Grew.refl w).alloc _).alloc _).alloc _).alloc _).alloc _).alloc _⟩
set_option maxRecDepth 100000 in
set_option maxHeartbeats 1000000 in
theorem pieces_len (a b : Pat) (ka kb : Value) (w : World) (h1 : a.kind = 2) (h2 : b.kind = 2) (ha : 0 ≤ a.n ∧ a.n ≤ 65536) (hb : 0 ≤ b.n ∧ b.n ≤ 65536) : Calls Tryd.prog 87 #[.agg (a.cells ka), .agg (b.cells kb)] w fun e w' => e = .returned (twoVT (if a.n + b.n ≤ 65536 then some (numP 2 (a.n + b.n)) else none)) ∧ Grew w w' := by
  rw [cells_eq, cells_eq]
  have HA := fun k b' h w => is_lit a ka k b' h w
  have HB := fun k b' h w => is_lit b kb k b' h w
  have E1 := hidd (show (a.kind == 1) = false by simp [h1])
  have E2 := hidd (show (a.kind == 2) = true by simp [h1])
  have E3 := hidd (show (b.kind == 2) = true by simp [h2])
  obtain ⟨ha0, ha1⟩ := ha
  obtain ⟨hb0, hb1⟩ := hb
  clear h1 h2
  by_cases hs : a.n + b.n ≤ 65536
  · rw [if_pos hs]
    have k1 : decide (a.n + b.n ≤ 65536) = true := decide_eq_true hs
    clear hs
    go_enter Tryd.func87, Tryd.ntmps87
    go_wp2_with fail
    refine (HA 1 false E1.out _).mono ?_; rintro e w1 ⟨rfl, rfl⟩
    go_wp2_with fail
    refine (HA 2 true E2.out _).mono ?_; rintro e w1 ⟨rfl, rfl⟩
    go_wp2_with fail
    refine (HB 2 true E3.out _).mono ?_; rintro e w1 ⟨rfl, rfl⟩
    go_wp2_with fail
    exact bodyPost_ret (results_pat2 rfl rfl rfl (heap_moreT (heap_moreT (heap_moreT (heap_third w _ _ _)))) rfl) rfl ⟨rfl, ((((((Grew.refl w).alloc _).alloc _).alloc _).alloc _).alloc _).alloc _⟩
  · rw [if_neg hs]
    have k1 : decide (a.n + b.n ≤ 65536) = false := decide_eq_false hs
    clear hs
    go_enter Tryd.func87, Tryd.ntmps87
    go_wp2_with fail
    refine (HA 1 false E1.out _).mono ?_; rintro e w1 ⟨rfl, rfl⟩
    go_wp2_with fail
    refine (HA 2 true E2.out _).mono ?_; rintro e w1 ⟨rfl, rfl⟩
    go_wp2_with fail
    refine (HB 2 true E3.out _).mono ?_; rintro e w1 ⟨rfl, rfl⟩
    go_wp2_with fail
    exact bodyPost_ret (results_pat2 rfl rfl rfl (heap_moreT (heap_moreT (heap_moreT (heap_third w _ _ _)))) rfl) rfl ⟨rfl, ((((((Grew.refl w).alloc _).alloc _).alloc _).alloc _).alloc _).alloc _⟩
end Go.Proofs.YtkkdpafkafjfgaaDoor
