/- What is so of the machine at all times: how far it may have come, and how much it may hold. Plain. -/
import Derived.Test.YtkkdpafkafjfgaaDoorWwScWrong
import Derived.Test.YtkkdpafkafjfgaaDoorWwScTr
import Derived.Test.YtkkdpafkafjfgaaDoorWwPBase
import Derived.WalkMore
import Derived.ScopeJumps
namespace Go.Proofs.YtkkdpafkafjfgaaDoor
set_option linter.unusedVariables false
theorem errL_all : ∀ {l : List Pat}, errL l = 0 → ∀ p ∈ l, errW p = 0
  | [], _, p, hp => by cases hp
  | q :: l, h, p, hp => by
    rw [errL] at h
    by_cases e : errW q = 0
    · rw [if_pos e] at h
      rcases List.mem_cons.1 hp with rfl | hp
      · exact e
      · exact errL_all h p hp
    · rw [if_neg e] at h; exact absurd h e
theorem errW_node {p : Pat} (h : errW p = 0) : nodeErr p = 0 ∧ ∀ q ∈ p.kids, errW q = 0 := by
  obtain ⟨k, t, n, m, l⟩ := p
  rw [errW] at h
  by_cases e : nodeErr (.mk k t n m l) = 0
  · rw [if_pos e] at h; exact ⟨e, errL_all h⟩
  · rw [if_neg e] at h; exact absurd h e
theorem kid_mem {p : Pat} {i : Nat} (hi : i < p.kids.length) : p.kid i ∈ p.kids := by
  rw [Pat.kid_eq, List.getD_eq_getElem?_getD, List.getElem?_eq_getElem hi]; exact List.getElem_mem hi
theorem errW_kid {p : Pat} (h : errW p = 0) {i : Nat} (hi : i < p.kids.length) : errW (p.kid i) = 0 := (errW_node h).2 _ (kid_mem hi)
theorem many_none {n lo hi : Nat} (h : manyErr n lo hi = 0) : lo ≤ n ∧ n ≤ hi := by
  unfold manyErr at h
  by_cases e : n < lo ∨ hi < n
  · rw [if_pos e] at h; omega
  · omega
theorem node_kids {p : Pat} (h : nodeErr p = 0) : (p.kind = 18 ∨ p.kind = 19 → 2 ≤ p.kids.length ∧ p.kids.length ≤ 4096) ∧ (p.kind = 20 ∨ p.kind = 21 ∨ p.kind = 22 → p.kids.length = 1) := by
  unfold nodeErr at h
  refine ⟨fun hk => ?_, fun hk => ?_⟩
  · rw [if_neg (by omega), if_neg (by omega), if_neg (by omega), if_neg (by omega), if_pos hk] at h
    exact many_none h
  · rcases hk with hk | hk | hk
    · rw [if_neg (by omega), if_neg (by omega), if_neg (by omega), if_neg (by omega), if_neg (by omega), if_pos hk] at h
      have := many_none h; omega
    all_goals
      rw [if_neg (by omega), if_neg (by omega), if_neg (by omega), if_neg (by omega), if_neg (by omega), if_neg (by omega), if_pos (by omega)] at h
      by_cases e : named p.name = false
      · rw [if_pos e] at h; omega
      · rw [if_neg e] at h
        have := many_none h; omega
def cnt (o : Nat) (K : List Todo) : Nat := K.countP (fun t => t.op == o)
def wt (K : List Todo) : Nat := K.countP (fun t => t.op != 0)
theorem cnt_cons (o : Nat) (t : Todo) (K : List Todo) : cnt o (t :: K) = cnt o K + if t.op = o then 1 else 0 := by
  unfold cnt; rw [List.countP_cons]; by_cases h : t.op = o <;> simp [h]
theorem wt_cons (t : Todo) (K : List Todo) : wt (t :: K) = wt K + if t.op = 0 then 0 else 1 := by
  unfold wt; rw [List.countP_cons]; by_cases h : t.op = 0 <;> simp [h]
theorem cnt_nil (o : Nat) : cnt o [] = 0 := rfl
theorem wt_nil : wt [] = 0 := rfl
def tl (o : Nat) : Prop := o = 0 ∨ o = 5 ∨ o = 6 ∨ o = 7
def hd (o : Nat) : Prop := o = 0 ∨ o = 1 ∨ o = 2 ∨ o = 3 ∨ o = 4 ∨ o = 8
structure Good (t : Todo) : Prop where
  op : t.op ≤ 8
  err : errW t.node = 0
  kids : t.op = 4 ∨ t.op = 5 → 0 < t.node.kids.length
structure Thr (L tk n : Nat) (K : List Todo) (a : Nat) (g : List Gift) : Prop where
  at_ : a ≤ L
  says : cnt 7 K ≤ tk
  gives : g.length + cnt 6 K ≤ tk
  start : ∀ t ∈ K, t.start ≤ a
  good : ∀ t ∈ K, Good t
  tail : ∀ t ∈ K.tail, tl t.op
  size : n + wt K ≤ 4096 * tk + 2
theorem Thr.mono {L tk tk' n n' : Nat} {K : List Todo} {a : Nat} {g : List Gift} (h : Thr L tk n K a g) (h1 : tk ≤ tk') (h2 : n' ≤ n) : Thr L tk' n' K a g :=
  ⟨h.at_, by have := h.says; omega, by have := h.gives; omega, h.start, h.good, h.tail, by have := h.size; omega⟩
structure Chd (L tk n : Nat) (c : Ch) : Prop where
  thr : Thr L tk n c.k c.at_ c.given
  head : ∃ t k, c.k = t :: k ∧ hd t.op ∧ (t.op = 1 ∨ t.op = 2 ∨ t.op = 3 → ∀ x ∈ k, x.op = 5 → x.start < c.at_)
def ChInv (L tk : Nat) : List Ch → Prop
  | [] => True
  | c :: cs => Chd L tk cs.length c ∧ ChInv L tk cs
theorem Chd.mono {L tk tk' n : Nat} {c : Ch} (h : Chd L tk n c) (h1 : tk ≤ tk') : Chd L tk' n c := ⟨h.thr.mono h1 (Nat.le_refl _), h.head⟩
theorem ChInv.mono {L tk tk' : Nat} (h1 : tk ≤ tk') : ∀ {cs : List Ch}, ChInv L tk cs → ChInv L tk' cs
  | [], _ => trivial
  | c :: cs, ⟨h, k⟩ => ⟨h.mono h1, k.mono h1⟩
def NN : Nat := 100000
def Ph (tk ways sd : Nat) (K : List Todo) (a : Nat) : Prop :=
  (sd ≤ (tk + ways) * NN ∧ ∃ t k, K = t :: k ∧ hd t.op ∧ (t.op = 1 ∨ t.op = 2 ∨ t.op = 3 → ∀ x ∈ k, x.op = 5 → x.start < a)) ∨
  (sd + cnt 7 K + NN ≤ (tk + ways) * NN + tk) ∨
  (sd + cnt 7 K ≤ (tk + ways) * NN + tk ∧ (∀ t ∈ K, tl t.op) ∧ ∀ t ∈ K, t.op = 5 → t.start < a)
structure Inv (L fuel ways : Nat) (st : Option (List Todo × Nat)) (m : MS) : Prop where
  ticks : m.ticks ≤ fuel
  fuel : fuel ≤ NN
  chs : ChInv L m.ticks m.choices
  cut : m.cut = true → st = none ∧ m.choices = []
  st : match st with
    | none => m.said.length ≤ (m.ticks + ways) * NN
    | some (K, a) => Thr L m.ticks m.choices.length K a m.given ∧ Ph m.ticks ways m.said.length K a
theorem mul_step (x : Nat) : (x + 1) * NN = x * NN + NN := Nat.succ_mul x NN
section
variable {L fuel ways : Nat} {m : MS}
theorem Inv.uncut {x : List Todo × Nat} (h : Inv L fuel ways (some x) m) : m.cut = false := by
  cases e : m.cut with
  | false => rfl
  | true => have := (h.cut e).1; cases this
theorem Inv.pop {x : Ch} {cs : List Ch} (h : Inv L fuel ways none m) (e : m.choices = x :: cs) : Inv L fuel ways (some (x.k, x.at_)) { m with choices := cs, given := x.given } := by
  have hc : m.cut = false := by
    cases e2 : m.cut with
    | false => rfl
    | true => have := (h.cut e2).2; rw [e] at this; cases this
  have hs := h.st
  have h2 := h.chs
  rw [e] at h2
  refine ⟨h.ticks, h.fuel, h2.2, fun h3 => ?_, h2.1.thr, Or.inl ⟨hs, h2.1.head⟩⟩
  rw [show ({ m with choices := cs, given := x.given } : MS).cut = m.cut from rfl, hc] at h3; cases h3
theorem Inv.found {a : Nat} (h : Inv L fuel ways (some ([], a)) m) : Inv L fuel (ways + 1) none m := by
  obtain ⟨h1, h2⟩ := h.st
  have hf := h.fuel
  have ht := h.ticks
  refine ⟨h.ticks, h.fuel, h.chs, (fun e => by have := (h.cut e).1; cases this), ?_⟩
  show m.said.length ≤ (m.ticks + (ways + 1)) * NN
  rw [← Nat.add_assoc, mul_step]
  rcases h2 with ⟨_, t, k, e, _⟩ | h2 | ⟨h2, _, _⟩
  · cases e
  · rw [cnt_nil] at h2; omega
  · rw [cnt_nil] at h2; omega
theorem Thr.rest {tk n : Nat} {t : Todo} {k : List Todo} {a b : Nat} {g : List Gift} (h : Thr L tk n (t :: k) a g) (hb : a ≤ b) (hb2 : b ≤ L) : Thr L tk n k b g :=
  ⟨hb2, by have := h.says; rw [cnt_cons] at this; omega, by have := h.gives; rw [cnt_cons] at this; omega, fun x hx => by have := h.start x (by simp [hx]); omega, fun x hx => h.good x (by simp [hx]),
    fun x hx => h.tail x (by simp only [List.tail_cons]; exact List.mem_of_mem_tail hx), by have := h.size; rw [wt_cons] at this; omega⟩
theorem Thr.head {tk n n' : Nat} {t u : Todo} {k : List Todo} {a b : Nat} {g : List Gift} (h : Thr L tk n (t :: k) a g) (hb : a ≤ b) (hb2 : b ≤ L) (h6 : u.op ≠ 6) (h7 : u.op ≠ 7) (hu : u.start ≤ b) (hg : Good u) (hn : n' ≤ n) (h0 : t.op ≠ 0) : Thr L tk n' (u :: k) b g :=
  ⟨hb2, by have := h.says; rw [cnt_cons] at this ⊢; rw [if_neg h7]; omega, by have := h.gives; rw [cnt_cons] at this ⊢; rw [if_neg h6]; omega,
    fun x hx => by
      rcases List.mem_cons.1 hx with rfl | hx
      · exact hu
      · have := h.start x (by simp [hx]); omega,
    fun x hx => by
      rcases List.mem_cons.1 hx with rfl | hx
      · exact hg
      · exact h.good x (by simp [hx]),
    h.tail, by have := h.size; rw [wt_cons] at this ⊢; rw [if_neg h0] at this; split <;> omega⟩
theorem Inv.resume {s : ByteArray} {t : Todo} {k : List Todo} {a : Nat} (hL : L = s.size) (h : Inv L fuel ways (some (t :: k, a)) m) (h0 : t.op ≠ 0) : Inv L fuel ways (resume s t k a m).1 (resume s t k a m).2 := by
  have hc := h.uncut
  obtain ⟨hT, hP⟩ := h.st
  have hlen : s.data.toList.length = L := by rw [hL]; rfl
  have htail : ∀ x ∈ k, tl x.op := fun x hx => hT.tail x (by simpa using hx)
  have hgt := hT.good t (by simp)
  have hta := hT.start t (by simp)
  have hf := h.fuel
  have ht := h.ticks
  have hcut : ∀ {x : MS}, x.cut = m.cut → ∀ {st : Option (List Todo × Nat)} {c : List Ch}, x.cut = true → st = none ∧ c = [] := fun e _ _ h2 => by rw [e, hc] at h2; cases h2
  -- no way: what was said is little
  have fail : (t.op = 2 ∨ t.op = 3 ∨ (t.op = 5 ∧ a = t.start)) → Inv L fuel ways none m := by
    intro ho
    refine ⟨h.ticks, h.fuel, h.chs, hcut rfl, ?_⟩
    show m.said.length ≤ (m.ticks + ways) * NN
    rcases hP with ⟨h1, _⟩ | h1 | ⟨_, h2, h3⟩
    · exact h1
    · omega
    · rcases ho with ho | ho | ⟨ho, he⟩
      · have := h2 t (by simp); unfold tl at this; omega
      · have := h2 t (by simp); unfold tl at this; omega
      · have := h3 t (by simp) ho; omega
  -- a choice of the same kind, and on
  have push : ∀ (o : Nat) (b c : Nat), t.op = o → (o = 1 ∨ o = 2 ∨ o = 3) → a ≤ b → b ≤ L → a < c → b ≤ c → c ≤ L → Inv L fuel ways (some (k, b)) (m.later (⟨o, t.node, 0⟩ :: k) c) := by
    intro o b c ho ho3 h1 h2 h3 h3' h4
    have hg : Good ⟨o, t.node, 0⟩ := ⟨by dsimp only; omega, hgt.err, fun h5 => by dsimp only at h5; omega⟩
    refine ⟨h.ticks, h.fuel, ⟨⟨hT.head (show a ≤ c by omega) h4 (by dsimp only; omega) (by dsimp only; omega) (Nat.zero_le _) hg (Nat.le_refl _) h0, ⟨_, _, rfl, by dsimp only; unfold hd; omega, fun _ x hx h5 => by have := hT.start x (by simp [hx]); show x.start < c; omega⟩⟩, h.chs⟩, hcut rfl, ?_, ?_⟩
    · have := hT.rest h1 h2
      exact ⟨this.at_, this.says, this.gives, this.start, this.good, this.tail, by
        have h5 := hT.size
        rw [wt_cons, if_neg h0] at h5
        show m.choices.length + 1 + wt k ≤ _
        show _ ≤ 4096 * m.ticks + 2
        omega⟩
    · show Ph m.ticks ways m.said.length k b
      rcases hP with ⟨h5, t', k', e, h6, h7⟩ | h5 | ⟨h5, h6, h7⟩
      · cases e
        have hs := (hT.rest h1 h2).says
        exact Or.inr (Or.inr ⟨by omega, htail, fun x hx h8 => by have := h7 (by omega) x hx h8; omega⟩)
      · rw [cnt_cons] at h5
        exact Or.inr (Or.inl (by omega))
      · have := h6 t (by simp); unfold tl at this; omega
  unfold Proofs.YtkkdpafkafjfgaaDoor.resume
  dsimp only
  by_cases h8 : t.op = 8
  · rw [if_pos h8]
    refine ⟨h.ticks, h.fuel, trivial, fun _ => ⟨rfl, rfl⟩, ?_⟩
    show m.said.length ≤ (m.ticks + ways) * NN
    rcases hP with ⟨h1, _⟩ | h1 | ⟨_, h2, _⟩
    · exact h1
    · omega
    · have := h2 t (by simp); unfold tl at this; omega
  rw [if_neg h8]
  by_cases h1 : t.op = 1
  · rw [if_pos h1]
    by_cases hlt : a < s.data.toList.length
    · rw [if_pos hlt]; exact push 1 a (a + 1) h1 (by omega) (Nat.le_refl _) hT.at_ (by omega) (by omega) (by omega)
    · rw [if_neg hlt]
      refine ⟨h.ticks, h.fuel, h.chs, hcut rfl, hT.rest (Nat.le_refl _) hT.at_, ?_⟩
      show Ph m.ticks ways m.said.length k a
      rcases hP with ⟨h5, t', k', e, h6, h7⟩ | h5 | ⟨h5, h6, h7⟩
      · cases e
        have hs := (hT.rest (Nat.le_refl _) hT.at_).says
        exact Or.inr (Or.inr ⟨by omega, htail, fun x hx h8 => h7 (by omega) x hx h8⟩)
      · rw [cnt_cons] at h5
        exact Or.inr (Or.inl (by omega))
      · have := h6 t (by simp); unfold tl at this; omega
  rw [if_neg h1]
  by_cases h2 : t.op = 2
  · rw [if_pos h2]
    cases hi : idx (s.data.toList.drop a) t.node.bytes true with
    | none => exact fail (Or.inl h2)
    | some n =>
      have := (idx_some (a := a) hi).1
      rw [List.length_drop] at this
      exact push 2 (a + n) (a + n + 1) h2 (by omega) (by omega) (by omega) (by omega) (by omega) (by omega)
  rw [if_neg h2]
  by_cases h3 : t.op = 3
  · rw [if_pos h3]
    cases hi : pairLen (s.data.toList.drop a) 0 with
    | none => exact fail (Or.inr (Or.inl h3))
    | some n =>
      obtain ⟨p1, p2, _⟩ := pairLen_some (a := a) hi
      rw [List.length_drop] at p2
      have := hT.at_
      exact push 3 (a + n) (a + n) h3 (by omega) (by omega) (by omega) (by omega) (by omega) (by omega)
  rw [if_neg h3]
  have ph567 : ∀ {m' : MS} {b : Nat}, t.op = 5 ∨ t.op = 6 ∨ t.op = 7 → a ≤ b → m'.ticks = m.ticks → m'.said.length + cnt 7 k ≤ m.said.length + cnt 7 (t :: k) → Ph m'.ticks ways m'.said.length k b := by
    intro m' b ho hb e1 e2
    rw [e1]
    rcases hP with ⟨h5, t', k', e, h6, h7⟩ | h5 | ⟨h5, h6, h7⟩
    · cases e; unfold hd at h6; omega
    · exact Or.inr (Or.inl (by omega))
    · exact Or.inr (Or.inr ⟨by omega, htail, fun x hx h8 => by have := h7 x (by simp [hx]) h8; omega⟩)
  by_cases h4 : t.op = 4
  · rw [if_pos h4]
    have hkid : errW (t.node.kid 0) = 0 := errW_kid hgt.err (hgt.kids (Or.inl h4))
    have hst : ∀ x ∈ (⟨0, t.node.kid 0, 0⟩ :: ⟨5, t.node, a⟩ :: k : List Todo), x.start ≤ a := fun x hx => by
      rcases List.mem_cons.1 hx with rfl | hx
      · exact Nat.zero_le _
      rcases List.mem_cons.1 hx with rfl | hx
      · exact Nat.le_refl _
      · exact hT.start x (by simp [hx])
    have hgd : ∀ x ∈ (⟨0, t.node.kid 0, 0⟩ :: ⟨5, t.node, a⟩ :: k : List Todo), Good x := fun x hx => by
      rcases List.mem_cons.1 hx with rfl | hx
      · exact ⟨by dsimp only; omega, hkid, fun h5 => by dsimp only at h5; omega⟩
      rcases List.mem_cons.1 hx with rfl | hx
      · exact ⟨by dsimp only; omega, hgt.err, fun _ => hgt.kids (Or.inl h4)⟩
      · exact hT.good x (by simp [hx])
    refine ⟨h.ticks, h.fuel, h.chs, hcut rfl, ⟨hT.at_, ?_, ?_, hst, hgd, ?_, ?_⟩, ?_⟩
    · have := hT.says; rw [cnt_cons] at this; rw [cnt_cons, cnt_cons]; dsimp only; rw [if_neg (by omega), if_neg (by omega)]; omega
    · have := hT.gives; rw [cnt_cons] at this; rw [cnt_cons, cnt_cons]; dsimp only; rw [if_neg (by omega), if_neg (by omega)]; omega
    · intro x hx
      rcases List.mem_cons.1 (by simpa using hx) with rfl | hx
      · exact Or.inr (Or.inl rfl)
      · exact htail x hx
    · have := hT.size; rw [wt_cons, if_neg h0] at this; rw [wt_cons, wt_cons]; dsimp only; rw [if_pos rfl, if_neg (by omega)]; omega
    · rcases hP with ⟨h5, t', k', e, h6, h7⟩ | h5 | ⟨h5, h6, h7⟩
      · exact Or.inl ⟨h5, _, _, rfl, Or.inl rfl, fun h8 => by dsimp only at h8; omega⟩
      · rw [cnt_cons] at h5
        refine Or.inr (Or.inl ?_)
        rw [cnt_cons, cnt_cons]; dsimp only; rw [if_neg (by omega), if_neg (by omega)]; omega
      · have := h6 t (by simp); unfold tl at this; omega
  rw [if_neg h4]
  by_cases h5 : t.op = 5
  · rw [if_pos h5]
    by_cases he : a = t.start
    · rw [if_pos he]; exact fail (Or.inr (Or.inr ⟨h5, he⟩))
    · rw [if_neg he]
      have hg : Good ⟨4, t.node, 0⟩ := ⟨by dsimp only; omega, hgt.err, fun _ => hgt.kids (Or.inr h5)⟩
      refine ⟨h.ticks, h.fuel, ⟨⟨hT.head (Nat.le_refl _) hT.at_ (by dsimp only; omega) (by dsimp only; omega) (Nat.zero_le _) hg (Nat.le_refl _) h0, ⟨_, _, rfl, by dsimp only; unfold hd; omega, fun h6 => by dsimp only at h6; omega⟩⟩, h.chs⟩, hcut rfl, ?_, ph567 (m' := m.later _ _) (Or.inl h5) (Nat.le_refl _) rfl (by rw [cnt_cons]; exact Nat.add_le_add_left (Nat.le_add_right _ _) _)⟩
      have := hT.rest (Nat.le_refl _) hT.at_
      exact ⟨this.at_, this.says, this.gives, this.start, this.good, this.tail, by
        have h6 := hT.size
        rw [wt_cons, if_neg h0] at h6
        show m.choices.length + 1 + wt k ≤ 4096 * m.ticks + 2
        omega⟩
  rw [if_neg h5]
  have hr := hT.rest (Nat.le_refl a) hT.at_
  by_cases h6 : t.op = 6
  · rw [if_pos h6]
    refine ⟨h.ticks, h.fuel, h.chs, hcut rfl, ⟨hr.at_, hr.says, ?_, hr.start, hr.good, hr.tail, hr.size⟩, ph567 (m' := { m with given := m.given ++ [(t.node.name, s.extract t.start a)] }) (Or.inr (Or.inl h6)) (Nat.le_refl _) rfl (by rw [cnt_cons]; exact Nat.add_le_add_left (Nat.le_add_right _ _) _)⟩
    have := hT.gives
    rw [cnt_cons, if_pos h6] at this
    show (m.given ++ [_]).length + cnt 6 k ≤ m.ticks
    rw [List.length_append, List.length_singleton]; omega
  · rw [if_neg h6]
    have h7 : t.op = 7 := by
      rcases hP with ⟨_, t', k', e, h7, _⟩ | _ | ⟨_, h7, _⟩
      · cases e; unfold hd at h7; omega
      · have := hgt.op; omega
      · have := h7 t (by simp); unfold tl at this; omega
    refine ⟨h.ticks, h.fuel, h.chs, hcut rfl, ⟨hr.at_, hr.says, hr.gives, hr.start, hr.good, hr.tail, hr.size⟩, ph567 (m' := m.speak _) (Or.inr (Or.inr h7)) (Nat.le_refl _) rfl ?_⟩
    rw [cnt_cons, if_pos h7]
    show (m.said ++ [_]).length + cnt 7 k ≤ _
    rw [List.length_append, List.length_singleton]; omega
theorem cnt_append (o : Nat) (A B : List Todo) : cnt o (A ++ B) = cnt o A + cnt o B := List.countP_append
theorem wt_append (A B : List Todo) : wt (A ++ B) = wt A + wt B := List.countP_append
theorem cnt_kids (o : Nat) (h : o ≠ 0) (l : List Pat) (k : List Todo) : cnt o (kidsK l k) = cnt o k := by
  unfold kidsK
  rw [cnt_append]
  have : cnt o (l.map fun p => (⟨0, p, 0⟩ : Todo)) = 0 := by
    unfold cnt
    rw [List.countP_eq_zero]
    intro t ht
    obtain ⟨p, _, rfl⟩ := List.mem_map.1 ht
    simp [Ne.symm h]
  omega
theorem wt_kids (l : List Pat) (k : List Todo) : wt (kidsK l k) = wt k := by
  unfold kidsK
  rw [wt_append]
  have : wt (l.map fun p => (⟨0, p, 0⟩ : Todo)) = 0 := by
    unfold wt
    rw [List.countP_eq_zero]
    intro t ht
    obtain ⟨p, _, rfl⟩ := List.mem_map.1 ht
    simp
  omega
structure Come (L fuel ways : Nat) (t : Todo) (k : List Todo) (a : Nat) (m : MS) : Prop where
  ticks : m.ticks + 1 ≤ fuel
  fuel : fuel ≤ NN
  chs : ChInv L (m.ticks + 1) m.choices
  cut : m.cut = false
  thr : Thr L m.ticks m.choices.length k a m.given
  good : errW t.node = 0
  says : m.said.length + cnt 7 k + 1 + NN ≤ (m.ticks + 1 + ways) * NN + (m.ticks + 1)
  tails : ∀ x ∈ k, tl x.op
theorem Inv.come {t : Todo} {k : List Todo} {a : Nat} (h : Inv L fuel ways (some (t :: k, a)) m) (h0 : t.op = 0) (hlt : m.ticks ≠ fuel) : Come L fuel ways t k a m := by
  have hc := h.uncut
  obtain ⟨hT, hP⟩ := h.st
  have ht := h.ticks
  have hf := h.fuel
  refine ⟨by omega, hf, h.chs.mono (by omega), hc, ⟨hT.at_, by have := hT.says; rw [cnt_cons] at this; omega, by have := hT.gives; rw [cnt_cons] at this; omega, fun x hx => hT.start x (by simp [hx]), fun x hx => hT.good x (by simp [hx]),
    fun x hx => hT.tail x (by simp only [List.tail_cons]; exact List.mem_of_mem_tail hx), by have := hT.size; rw [wt_cons] at this; omega⟩, (hT.good t (by simp)).err, ?_, fun x hx => hT.tail x (by simpa using hx)⟩
  have hs := hT.says
  rw [cnt_cons, if_neg (by omega)] at hs
  rw [show m.ticks + 1 + ways = m.ticks + ways + 1 by omega, mul_step]
  rcases hP with ⟨h5, _⟩ | h5 | ⟨h5, _, _⟩
  · omega
  · rw [cnt_cons, if_neg (by omega)] at h5; omega
  · rw [cnt_cons, if_neg (by omega)] at h5; omega
theorem Come.go {t : Todo} {k K : List Todo} {a b : Nat} (h : Come L fuel ways t k a m) {m' : MS} (e1 : m'.ticks = m.ticks + 1) (e4 : m'.cut = m.cut)
    (hs : m'.said.length + cnt 7 K ≤ m.said.length + cnt 7 k + 1) (hch : ChInv L (m.ticks + 1) m'.choices) (hT : Thr L (m.ticks + 1) m'.choices.length K b m'.given) : Inv L fuel ways (some (K, b)) m' := by
  have h1 := h.ticks
  refine ⟨by rw [e1]; exact h.ticks, h.fuel, by rw [e1]; exact hch, (fun h2 => by rw [e4, h.cut] at h2; cases h2), by rw [e1]; exact hT, ?_⟩
  rw [e1]
  have := h.says
  exact Or.inr (Or.inl (by omega))
theorem Come.over {t : Todo} {k : List Todo} {a : Nat} (h : Come L fuel ways t k a m) {m' : MS} (e1 : m'.ticks = m.ticks + 1) (hs : m'.said = m.said) (hch : ChInv L (m.ticks + 1) m'.choices) (hct : m'.cut = true → m'.choices = []) : Inv L fuel ways none m' := by
  have h1 := h.ticks
  have hf := h.fuel
  refine ⟨by rw [e1]; exact h.ticks, h.fuel, by rw [e1]; exact hch, fun e => ⟨rfl, hct e⟩, ?_⟩
  show m'.said.length ≤ (m'.ticks + ways) * NN
  have := h.says
  rw [e1, hs]; omega
theorem Come.thr' {t : Todo} {k : List Todo} {a b : Nat} (h : Come L fuel ways t k a m) (ha : a ≤ b) (hb : b ≤ L) (K : List Todo) (n : Nat) (h7 : cnt 7 K ≤ cnt 7 k + 1) (h6 : cnt 6 K ≤ cnt 6 k + 1) (hst : ∀ x ∈ K, x ∈ k ∨ x.start ≤ b) (hg : ∀ x ∈ K, x ∈ k ∨ Good x) (htl : ∀ x ∈ K.tail, tl x.op) (hw : n + wt K ≤ m.choices.length + wt k + 4096) :
    Thr L (m.ticks + 1) n K b m.given := by
  have t := h.thr
  refine ⟨hb, by have := t.says; omega, by have := t.gives; omega, fun x hx => ?_, fun x hx => ?_, htl, by have := t.size; omega⟩
  · rcases hst x hx with h1 | h1
    · have := t.start x h1; omega
    · exact h1
  · rcases hg x hx with h1 | h1
    · exact t.good x h1
    · exact h1
theorem ChInv.kids {tk : Nat} {k : List Todo} {a : Nat} {g : List Gift} : ∀ (l : List Pat) {cs : List Ch}, ChInv L tk cs → (∀ n, n ≤ cs.length + l.length → ∀ p ∈ l, Thr L tk n (⟨0, p, 0⟩ :: k) a g) →
    ChInv L tk (l.map (fun q => (⟨⟨0, q, 0⟩ :: k, a, g⟩ : Ch)) ++ cs)
  | [], cs, h, _ => h
  | p :: l, cs, h, hT => by
    refine ⟨⟨?_, ⟨_, _, rfl, Or.inl rfl, fun h8 => by dsimp only at h8; omega⟩⟩, ChInv.kids l h (fun n hn q hq => hT n (by simp; omega) q (by simp [hq]))⟩
    exact hT _ (by simp [List.length_append]; omega) p (by simp)
theorem Come.enter {R : List Rule} (hR : ∀ r ∈ R, errW r.2 = 0) {t : Todo} {k k' : List Todo} {a : Nat} {m' : MS} (h : Come L fuel ways t k a m) (hin : inner t.node = true)
    (e : Proofs.YtkkdpafkafjfgaaDoor.enter R t.node a k { m with ticks := m.ticks + 1 } = (some k', m')) : Inv L fuel ways (some (k', a)) m' := by
  have ha := h.thr.at_
  obtain ⟨hn, hkids⟩ := errW_node h.good
  obtain ⟨hk1, hk2⟩ := node_kids hn
  have hkid0 : 0 < t.node.kids.length → errW (t.node.kid 0) = 0 := fun h0 => errW_kid h.good h0
  unfold Proofs.YtkkdpafkafjfgaaDoor.enter at e
  have one : ∀ (o f : Nat), (o = 1 ∨ o = 2 ∨ o = 3) → (some (⟨o, t.node, 0⟩ :: k), ({ m with ticks := m.ticks + 1 } : MS)) = (some k', m') → Inv L fuel ways (some (k', a)) m' := by
    intro o f ho e
    simp only [Prod.mk.injEq, Option.some.injEq] at e
    obtain ⟨rfl, rfl⟩ := e
    refine h.go rfl rfl (by rw [cnt_cons]; dsimp only; rw [if_neg (by omega)]; omega) h.chs ?_
    refine h.thr' (Nat.le_refl _) ha _ _ (by rw [cnt_cons]; dsimp only; rw [if_neg (by omega)]; omega) (by rw [cnt_cons]; dsimp only; rw [if_neg (by omega)]; omega) ?_ ?_ h.tails (by rw [wt_cons]; dsimp only; rw [if_neg (by omega)]; omega)
    · intro x hx
      rcases List.mem_cons.1 hx with rfl | hx
      · exact Or.inr (Nat.zero_le _)
      · exact Or.inl hx
    · intro x hx
      rcases List.mem_cons.1 hx with rfl | hx
      · exact Or.inr ⟨by dsimp only; omega, h.good, fun h5 => by dsimp only at h5; omega⟩
      · exact Or.inl hx
  have two : ∀ (o : Nat), (o = 6 ∨ o = 7) → 0 < t.node.kids.length → (some (⟨0, t.node.kid 0, 0⟩ :: ⟨o, t.node, a⟩ :: k), ({ m with ticks := m.ticks + 1 } : MS)) = (some k', m') → Inv L fuel ways (some (k', a)) m' := by
    intro o ho h0 e
    simp only [Prod.mk.injEq, Option.some.injEq] at e
    obtain ⟨rfl, rfl⟩ := e
    have c7 : cnt 7 (⟨0, t.node.kid 0, 0⟩ :: ⟨o, t.node, a⟩ :: k) ≤ cnt 7 k + 1 := by
      rw [cnt_cons, cnt_cons]; dsimp only
      repeat' split
      all_goals omega
    have c6 : cnt 6 (⟨0, t.node.kid 0, 0⟩ :: ⟨o, t.node, a⟩ :: k) ≤ cnt 6 k + 1 := by
      rw [cnt_cons, cnt_cons]; dsimp only
      repeat' split
      all_goals omega
    refine h.go rfl rfl (by show m.said.length + _ ≤ _; omega) h.chs ?_
    refine h.thr' (Nat.le_refl _) ha _ _ c7 c6 ?_ ?_ ?_ (by rw [wt_cons, wt_cons]; dsimp only; rw [if_pos rfl, if_neg (by omega)]; omega)
    · intro x hx
      rcases List.mem_cons.1 hx with rfl | hx
      · exact Or.inr (Nat.zero_le _)
      rcases List.mem_cons.1 hx with rfl | hx
      · exact Or.inr (Nat.le_refl _)
      · exact Or.inl hx
    · intro x hx
      rcases List.mem_cons.1 hx with rfl | hx
      · exact Or.inr ⟨by dsimp only; omega, hkid0 h0, fun h5 => by dsimp only at h5; omega⟩
      rcases List.mem_cons.1 hx with rfl | hx
      · exact Or.inr ⟨by dsimp only; omega, h.good, fun h5 => by dsimp only at h5; omega⟩
      · exact Or.inl hx
    · intro x hx
      rcases List.mem_cons.1 (by simpa using hx) with rfl | hx
      · unfold tl; dsimp only; omega
      · exact h.tails x hx
  have enterThr : ∀ (q : Pat), errW q = 0 → ∀ n, n ≤ m.choices.length + 4096 → Thr L (m.ticks + 1) n (⟨0, q, 0⟩ :: k) a m.given := by
    intro q hq n hn
    refine h.thr' (Nat.le_refl _) ha _ _ (by rw [cnt_cons]; dsimp only; rw [if_neg (by omega)]; omega) (by rw [cnt_cons]; dsimp only; rw [if_neg (by omega)]; omega) ?_ ?_ h.tails (by rw [wt_cons]; dsimp only; rw [if_pos rfl]; omega)
    · intro x hx
      rcases List.mem_cons.1 hx with rfl | hx
      · exact Or.inr (Nat.zero_le _)
      · exact Or.inl hx
    · intro x hx
      rcases List.mem_cons.1 hx with rfl | hx
      · exact Or.inr ⟨by dsimp only; omega, hq, fun h5 => by dsimp only at h5; omega⟩
      · exact Or.inl hx
  by_cases h7 : t.node.kind = 7
  · rw [if_pos h7] at e; exact one 2 0 (by omega) e
  rw [if_neg h7] at e
  by_cases h13 : t.node.kind = 13
  · rw [if_pos h13] at e; exact one 1 0 (by omega) e
  rw [if_neg h13] at e
  by_cases h14 : t.node.kind = 14
  · rw [if_pos h14] at e; exact one 3 0 (by omega) e
  rw [if_neg h14] at e
  by_cases h18 : t.node.kind = 18
  · rw [if_pos h18] at e
    simp only [Prod.mk.injEq, Option.some.injEq] at e
    obtain ⟨rfl, rfl⟩ := e
    refine h.go rfl rfl (by rw [cnt_kids 7 (by omega)]; show m.said.length + _ ≤ _; omega) h.chs ?_
    refine h.thr' (Nat.le_refl _) ha _ _ (by rw [cnt_kids 7 (by omega)]; omega) (by rw [cnt_kids 6 (by omega)]; omega) ?_ ?_ ?_ (by rw [wt_kids]; show m.choices.length + wt k ≤ m.choices.length + wt k + 4096; omega)
    · intro x hx
      rcases List.mem_append.1 hx with hx | hx
      · obtain ⟨p, _, rfl⟩ := List.mem_map.1 hx; exact Or.inr (Nat.zero_le _)
      · exact Or.inl hx
    · intro x hx
      rcases List.mem_append.1 hx with hx | hx
      · obtain ⟨p, hp, rfl⟩ := List.mem_map.1 hx; exact Or.inr ⟨by dsimp only; omega, hkids p hp, fun h5 => by dsimp only at h5; omega⟩
      · exact Or.inl hx
    · intro x hx
      rcases List.mem_append.1 (List.mem_of_mem_tail hx) with hx | hx
      · obtain ⟨p, hp, rfl⟩ := List.mem_map.1 hx; exact Or.inl rfl
      · exact h.tails x hx
  rw [if_neg h18] at e
  by_cases h19 : t.node.kind = 19
  · rw [if_pos h19] at e
    simp only [Prod.mk.injEq, Option.some.injEq] at e
    obtain ⟨rfl, rfl⟩ := e
    obtain ⟨l1, l2⟩ := hk1 (Or.inr h19)
    refine h.go rfl rfl (by rw [cnt_cons]; dsimp only; rw [if_neg (by omega)]; omega) ?_ ?_
    · exact ChInv.kids (t.node.kids.drop 1) h.chs (fun n hn p hp => enterThr p (hkids p (List.mem_of_mem_drop hp)) n (by rw [List.length_drop] at hn; have hn : n ≤ m.choices.length + (t.node.kids.length - 1) := hn; omega))
    · exact enterThr _ (hkid0 (by omega)) _ (by show ((t.node.kids.drop 1).map _ ++ m.choices).length ≤ m.choices.length + 4096; rw [List.length_append, List.length_map, List.length_drop]; omega)
  rw [if_neg h19] at e
  by_cases h20 : t.node.kind = 20
  · rw [if_pos h20] at e
    simp only [Prod.mk.injEq, Option.some.injEq] at e
    obtain ⟨rfl, rfl⟩ := e
    have l1 := hk2 (Or.inl h20)
    refine h.go rfl rfl (by show m.said.length + _ ≤ _; omega) ⟨⟨?_, ⟨_, _, rfl, by unfold hd; dsimp only; omega, fun h8 => by dsimp only at h8; omega⟩⟩, h.chs⟩ ?_
    · refine h.thr' (Nat.le_refl _) ha _ _ (by rw [cnt_cons]; dsimp only; rw [if_neg (by omega)]; omega) (by rw [cnt_cons]; dsimp only; rw [if_neg (by omega)]; omega) ?_ ?_ h.tails (by rw [wt_cons]; dsimp only; rw [if_neg (by omega)]; omega)
      · intro x hx
        rcases List.mem_cons.1 hx with rfl | hx
        · exact Or.inr (Nat.zero_le _)
        · exact Or.inl hx
      · intro x hx
        rcases List.mem_cons.1 hx with rfl | hx
        · exact Or.inr ⟨by dsimp only; omega, h.good, fun _ => by dsimp only; omega⟩
        · exact Or.inl hx
    · exact h.thr' (Nat.le_refl _) ha _ _ (by omega) (by omega) (fun x hx => Or.inl hx) (fun x hx => Or.inl hx) (fun x hx => h.tails x (List.mem_of_mem_tail hx)) (by show m.choices.length + 1 + wt k ≤ _; omega)
  rw [if_neg h20] at e
  by_cases h21 : t.node.kind = 21
  · rw [if_pos h21] at e; exact two 6 (by omega) (by have := hk2 (Or.inr (Or.inl h21)); omega) e
  rw [if_neg h21] at e
  by_cases h22 : t.node.kind = 22
  · rw [if_pos h22] at e; exact two 7 (by omega) (by have := hk2 (Or.inr (Or.inr h22)); omega) e
  rw [if_neg h22] at e
  by_cases h24 : t.node.kind = 24
  · rw [if_pos h24] at e
    cases hq : ruleOf R t.node.name with
    | none => rw [hq] at e; simp at e
    | some q =>
      rw [hq] at e
      simp only [Prod.mk.injEq, Option.some.injEq] at e
      obtain ⟨rfl, rfl⟩ := e
      have hqR : errW q = 0 := by
        unfold ruleOf at hq
        cases hf : R.find? (fun r => sameText r.1 t.node.name) with
        | none => rw [hf] at hq; cases hq
        | some r => rw [hf] at hq; cases hq; exact hR r (List.mem_of_find?_eq_some hf)
      exact h.go rfl rfl (by rw [cnt_cons]; dsimp only; rw [if_neg (by omega)]; omega) h.chs (enterThr q hqR _ (by show m.choices.length ≤ _; omega))
  · rw [if_neg h24] at e; simp at e
theorem endAt_le {s : ByteArray} {p : Pat} {a b : Nat} (ha : a ≤ s.size) (h : endAt s.data.toList p a = some b) : a ≤ b ∧ b ≤ s.size := by
  have hlen : s.data.toList.length = s.size := rfl
  unfold endAt at h
  by_cases h1 : p.kind = 1
  · rw [if_pos h1] at h
    split at h
    · rename_i hp
      cases h
      have := (List.isPrefixOf_iff_prefix.1 hp).length_le
      rw [List.length_drop] at this
      omega
    · cases h
  rw [if_neg h1] at h
  by_cases h2 : p.kind = 2
  · rw [if_pos h2] at h
    split at h
    · cases h; omega
    · cases h
  rw [if_neg h2] at h
  by_cases h3 : p.kind = 3
  · rw [if_pos h3] at h
    split at h
    · rename_i c hc
      have := (List.getElem?_eq_some_iff.1 hc).1
      split at h
      · cases h; omega
      · cases h
    · cases h
  rw [if_neg h3] at h
  by_cases h4 : p.kind = 4
  · rw [if_pos h4] at h
    split at h
    · rename_i c hc
      have := (List.getElem?_eq_some_iff.1 hc).1
      split at h
      · cases h
      · cases h; omega
    · cases h
  rw [if_neg h4] at h
  by_cases h5 : p.kind = 5
  · rw [if_pos h5] at h
    dsimp only at h
    have := List.Sublist.length_le (List.takeWhile_sublist (p := p.bytes.contains) (l := s.data.toList.drop a))
    rw [List.length_drop] at this
    split at h
    · cases h; omega
    · cases h
  rw [if_neg h5] at h
  by_cases h6 : p.kind = 6
  · rw [if_pos h6] at h
    dsimp only at h
    split at h
    · cases h; omega
    · cases h
  rw [if_neg h6] at h
  by_cases h8 : p.kind = 8
  · rw [if_pos h8] at h
    split at h
    · cases h; omega
    · cases h
  rw [if_neg h8] at h
  by_cases h9 : p.kind = 9
  · rw [if_pos h9] at h
    split at h
    · cases h; omega
    · cases h
  rw [if_neg h9] at h
  by_cases h10 : p.kind = 10
  · rw [if_pos h10] at h
    split at h
    · cases h; omega
    · cases h
  rw [if_neg h10] at h
  by_cases h11 : p.kind = 11
  · rw [if_pos h11] at h
    split at h
    · cases h; omega
    · cases h
  rw [if_neg h11] at h
  split at h
  · cases h; omega
  · cases h
theorem Come.leave {s : ByteArray} {t : Todo} {k : List Todo} {a : Nat} (hL : L = s.size) (h : Come L fuel ways t k a m) :
    Inv L fuel ways ((Proofs.YtkkdpafkafjfgaaDoor.leave s t.node a { m with ticks := m.ticks + 1 }).1.map fun b => (k, b)) (Proofs.YtkkdpafkafjfgaaDoor.leave s t.node a { m with ticks := m.ticks + 1 }).2 := by
  have ha := h.thr.at_
  have go : ∀ b, a ≤ b → b ≤ L → Inv L fuel ways (some (k, b)) { m with ticks := m.ticks + 1 } := fun b h1 h2 =>
    h.go rfl rfl (by show m.said.length + _ ≤ _; omega) h.chs (h.thr' h1 h2 _ _ (by omega) (by omega) (fun x hx => Or.inl hx) (fun x hx => Or.inl hx) (fun x hx => h.tails x (List.mem_of_mem_tail hx)) (by show m.choices.length + wt k ≤ _; omega))
  unfold Proofs.YtkkdpafkafjfgaaDoor.leave
  by_cases h23 : t.node.kind = 23
  · rw [if_pos h23]
    refine h.go (m' := MS.speak { m with ticks := m.ticks + 1 } _) rfl rfl ?_ h.chs (h.thr' (Nat.le_refl _) ha _ _ (by omega) (by omega) (fun x hx => Or.inl hx) (fun x hx => Or.inl hx) (fun x hx => h.tails x (List.mem_of_mem_tail hx)) (by show m.choices.length + wt k ≤ _; omega))
    show (m.said ++ [_]).length + _ ≤ _
    rw [List.length_append, List.length_singleton]; omega
  rw [if_neg h23]
  by_cases h16 : t.node.kind = 16
  · rw [if_pos h16]
    refine h.go (m' := MS.later { m with ticks := m.ticks + 1 } _ _) rfl rfl (by show m.said.length + _ ≤ _; omega) ⟨⟨?_, ⟨_, _, rfl, by unfold hd; dsimp only; omega, fun h8 => by dsimp only at h8; omega⟩⟩, h.chs⟩ ?_
    · refine h.thr' (Nat.le_refl _) ha _ _ (by rw [cnt_cons, cnt_nil]; dsimp only; rw [if_neg (by omega)]; omega) (by rw [cnt_cons, cnt_nil]; dsimp only; rw [if_neg (by omega)]; omega) ?_ ?_ (fun x hx => by cases hx) (by rw [wt_cons, wt_nil]; dsimp only; rw [if_neg (by omega)]; omega)
      · intro x hx
        rcases List.mem_cons.1 hx with rfl | hx
        · exact Or.inr (Nat.zero_le _)
        · cases hx
      · intro x hx
        rcases List.mem_cons.1 hx with rfl | hx
        · exact Or.inr ⟨by dsimp only; omega, h.good, fun h5 => by dsimp only at h5; omega⟩
        · cases hx
    · exact h.thr' (Nat.le_refl _) ha _ _ (by omega) (by omega) (fun x hx => Or.inl hx) (fun x hx => Or.inl hx) (fun x hx => h.tails x (List.mem_of_mem_tail hx)) (by show m.choices.length + 1 + wt k ≤ _; omega)
  rw [if_neg h16]
  by_cases h17 : t.node.kind = 17
  · rw [if_pos h17]
    exact h.over (m' := MS.shut { m with ticks := m.ticks + 1 }) rfl rfl trivial (fun _ => rfl)
  rw [if_neg h17]
  cases he : endAt s.data.toList t.node a with
  | none => exact h.over rfl rfl h.chs (fun e2 => by rw [show ({ m with ticks := m.ticks + 1 } : MS).cut = m.cut from rfl, h.cut] at e2; cases e2)
  | some b =>
    obtain ⟨h1, h2⟩ := endAt_le (by rw [← hL]; exact ha) he
    exact go b h1 (by omega)
theorem ChInv.bound {tk : Nat} : ∀ {cs : List Ch}, ChInv L tk cs → cs.length ≤ 4096 * tk + 3
  | [], _ => by simp
  | c :: cs, ⟨h, _⟩ => by have := h.thr.size; simp; omega
theorem Inv.small {st : Option (List Todo × Nat)} (h : Inv L fuel ways st m) (hw : ways ≤ 100000) : m.choices.length ≤ 500000000 ∧ m.said.length ≤ 100000000000 ∧ (∀ K a, st = some (K, a) → m.given.length ≤ 100000) := by
  have h1 := h.ticks
  have h2 := h.fuel
  have h3 := h.chs.bound
  have h4 : (m.ticks + ways) * NN ≤ 200000 * NN := Nat.mul_le_mul_right _ (by unfold NN at h2; omega)
  have h5 : 200000 * NN = 20000000000 := by unfold NN; rfl
  have hN : NN = 100000 := rfl
  refine ⟨by omega, ?_, ?_⟩
  · cases st with
    | none =>
      have h6 : m.said.length ≤ (m.ticks + ways) * NN := h.st
      exact Nat.le_trans h6 (by omega)
    | some x =>
      obtain ⟨K, a⟩ := x
      obtain ⟨_, h6⟩ := h.st
      rcases h6 with ⟨h7, _⟩ | h7 | ⟨h7, _, _⟩ <;> omega
  · rintro K a rfl
    have := h.st.1.gives
    omega
end
end Go.Proofs.YtkkdpafkafjfgaaDoor
namespace Go.Proofs.YtkkdpafkafjfgaaDoor
open Go.RowKit
set_option linter.unusedVariables false
theorem exists_least {p : Nat → Prop} (h : ∃ n, p n) : ∃ n, p n ∧ ∀ m, p m → n ≤ m := by
  obtain ⟨n, hn⟩ := h
  induction n using Nat.strongRecOn with
  | _ n ih =>
    by_cases e : ∃ m, m < n ∧ p m
    · obtain ⟨m, h1, h2⟩ := e
      exact ih m h1 h2
    · exact ⟨n, hn, fun m hm => by
        rcases Nat.lt_or_ge m n with h1 | h1
        · exact absurd ⟨m, h1, hm⟩ e
        · exact h1⟩
open Classical in
noncomputable def least (p : Nat → Prop) : Nat := if h : ∃ n, p n then Classical.choose (exists_least h) else 0
theorem least_at {p : Nat → Prop} (h : ∃ n, p n) : p (least p) := by
  unfold least; rw [dif_pos h]; exact (Classical.choose_spec (exists_least h)).1
theorem least_le {p : Nat → Prop} {n : Nat} (h : p n) : least p ≤ n := by
  unfold least; rw [dif_pos ⟨n, h⟩]; exact (Classical.choose_spec (exists_least ⟨n, h⟩)).2 n h
theorem jump_mono {l : Nat} {J K : Act → World → Prop} {Q : Exit → Act → World → Prop} (h : ∀ a w, J a w → K a w) : ∀ e a w, Exit.jump l J Q e a w → Exit.jump l K Q e a w := fun e a w hj => by
  cases e <;> first | exact hj | exact ⟨hj.1, h _ _ hj.2⟩
theorem wp_scope_ghost_skip {P : Program} {a : Act} {w : World} {Q : Exit → Act → World → Prop} {c rest : Code} (l : Nat) (J : Nat → Act → World → Prop) (hf : findLabel c l = some (Code.skip.seq rest))
    (first : ∀ Q', (∀ n a w, J n a w → rest.wp P Q' a w) → c.wp P Q' a w)
    (pass : ∀ n a w, J n a w → rest.wp P (Exit.jump l (fun a' w' => ∃ n', n' < n ∧ J n' a' w') Q) a w) : (Code.scope c).wp P Q a w := by
  refine wp_scope_jumps l (fun a w => ∃ n, J n a w) (fun a w => least fun n => J n a w) hf ?_ ?_
  · exact first _ (fun n a w h => Code.wp_mono (jump_mono fun a w ⟨n', _, h'⟩ => ⟨n', h'⟩) (pass n a w h))
  · intro a w h
    refine wp_seq (wp_skip ?_)
    exact Code.wp_mono (jump_mono fun a' w' ⟨n', h1, h2⟩ => ⟨⟨n', h2⟩, Nat.lt_of_le_of_lt (least_le h2) h1⟩) (pass _ a w (least_at h))
end Go.Proofs.YtkkdpafkafjfgaaDoor
