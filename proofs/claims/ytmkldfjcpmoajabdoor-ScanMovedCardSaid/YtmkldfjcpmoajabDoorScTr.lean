/- What a search tells, one thing behind the other (a node come to, a gift told at once, a way): lists with an end, put one behind the other, or into one another. Plain. -/
namespace Go.Proofs.YtmkldfjcpmoajabDoor
set_option linter.unusedVariables false

abbrev Gift := ByteArray × ByteArray
/-- How a telling ends: all told; nobody may look further; not looked at so deep; an unknown name. -/
inductive Mark where
  | done | cut | deep | name
deriving DecidableEq
inductive Tr where
  | stop (m : Mark)
  | tick (t : Tr)
  | say (g : Gift) (t : Tr)
  | way (a : Nat) (g : List Gift) (t : Tr)
namespace Tr
/-- One behind the other. -/
def seq : Tr → Tr → Tr
  | stop m, u => if m = .done then u else stop m
  | tick t, u => tick (seq t u)
  | say g t, u => say g (seq t u)
  | way a g t, u => way a g (seq t u)
/-- Behind each way something. -/
def bind : Tr → (Nat → List Gift → Tr) → Tr
  | stop m, f => stop m
  | tick t, f => tick (bind t f)
  | say g t, f => say g (bind t f)
  | way a g t, f => seq (f a g) (bind t f)
def one (a : Nat) (g : List Gift) : Tr := way a g (stop .done)
def naught : Tr := stop .done
theorem seq_done (u : Tr) : seq (stop .done) u = u := by simp [seq]
theorem seq_naught (u : Tr) : seq naught u = u := by simp [naught, seq]
theorem seq_stop {m : Mark} (h : m ≠ .done) (u : Tr) : seq (stop m) u = stop m := by simp [seq, h]
theorem seq_right : ∀ t : Tr, seq t (stop .done) = t
  | stop m => by
    by_cases h : m = .done
    · subst h; rfl
    · rw [seq_stop h]
  | tick t => by rw [seq, seq_right t]
  | say g t => by rw [seq, seq_right t]
  | way a g t => by rw [seq, seq_right t]
theorem seq_assoc (u v : Tr) : ∀ t : Tr, seq (seq t u) v = seq t (seq u v)
  | stop m => by
    by_cases h : m = .done
    · subst h; rw [seq_done, seq_done]
    · rw [seq_stop h, seq_stop h, seq_stop h]
  | tick t => by rw [seq, seq, seq, seq_assoc u v t]
  | say g t => by rw [seq, seq, seq, seq_assoc u v t]
  | way a g t => by rw [seq, seq, seq, seq_assoc u v t]
theorem bind_seq (f : Nat → List Gift → Tr) (u : Tr) : ∀ t : Tr, bind (seq t u) f = seq (bind t f) (bind u f)
  | stop m => by
    by_cases h : m = .done
    · subst h; rw [seq_done, bind, seq_done]
    · rw [seq_stop h, bind, seq_stop h]
  | tick t => by rw [seq, bind, bind, seq, bind_seq f u t]
  | say g t => by rw [seq, bind, bind, seq, bind_seq f u t]
  | way a g t => by rw [seq, bind, bind, bind_seq f u t, seq_assoc]
theorem bind_assoc (f h : Nat → List Gift → Tr) : ∀ t : Tr, bind (bind t f) h = bind t (fun a g => bind (f a g) h)
  | stop m => by rw [bind, bind, bind]
  | tick t => by rw [bind, bind, bind, bind_assoc f h t]
  | say g t => by rw [bind, bind, bind, bind_assoc f h t]
  | way a g t => by rw [bind, bind, bind_seq, bind_assoc f h t]
theorem bind_one : ∀ t : Tr, bind t one = t
  | stop m => by rw [bind]
  | tick t => by rw [bind, bind_one t]
  | say g t => by rw [bind, bind_one t]
  | way a g t => by rw [bind, bind_one t, one, seq, seq_done]
theorem one_bind (f : Nat → List Gift → Tr) (a : Nat) (g : List Gift) : bind (one a g) f = f a g := by rw [one, bind, bind, seq_right]
theorem none_bind (f : Nat → List Gift → Tr) : bind naught f = naught := rfl
theorem bind_congr {f h : Nat → List Gift → Tr} (e : ∀ a g, f a g = h a g) (t : Tr) : bind t f = bind t h := by rw [show f = h from funext fun a => funext fun g => e a g]

/-- What was looked at less deep: the same, up to where it ended so. -/
def le : Tr → Tr → Prop
  | stop m, u => m = .deep ∨ u = stop m
  | tick t, u => ∃ v, u = tick v ∧ le t v
  | say g t, u => ∃ v, u = say g v ∧ le t v
  | way a g t, u => ∃ v, u = way a g v ∧ le t v
theorem le_refl : ∀ t : Tr, le t t
  | stop m => Or.inr rfl
  | tick t => ⟨t, rfl, le_refl t⟩
  | say g t => ⟨t, rfl, le_refl t⟩
  | way a g t => ⟨t, rfl, le_refl t⟩
theorem le_trans : ∀ t u v : Tr, le t u → le u v → le t v
  | stop m, u, v, h, k => by
    rcases h with h | rfl
    · exact Or.inl h
    · exact k
  | tick t, u, v, ⟨x, e, h⟩, k => by
    subst e; obtain ⟨y, rfl, k⟩ := k; exact ⟨y, rfl, le_trans t x y h k⟩
  | say g t, u, v, ⟨x, e, h⟩, k => by
    subst e; obtain ⟨y, rfl, k⟩ := k; exact ⟨y, rfl, le_trans t x y h k⟩
  | way a g t, u, v, ⟨x, e, h⟩, k => by
    subst e; obtain ⟨y, rfl, k⟩ := k; exact ⟨y, rfl, le_trans t x y h k⟩
theorem le_deep (u : Tr) : le (stop .deep) u := Or.inl rfl
theorem le_seq {u v : Tr} (k : le u v) : ∀ {t x : Tr}, le t x → le (seq t u) (seq x v)
  | stop m, x, h => by
    rcases h with rfl | rfl
    · exact Or.inl rfl
    · by_cases e : m = .done
      · subst e; rw [seq_done, seq_done]; exact k
      · rw [seq_stop e, seq_stop e]; exact le_refl _
  | tick t, x, h => by obtain ⟨y, rfl, h⟩ := h; exact ⟨_, rfl, le_seq k h⟩
  | say g t, x, h => by obtain ⟨y, rfl, h⟩ := h; exact ⟨_, rfl, le_seq k h⟩
  | way a g t, x, h => by obtain ⟨y, rfl, h⟩ := h; exact ⟨_, rfl, le_seq k h⟩
theorem le_bind {f h : Nat → List Gift → Tr} (k : ∀ a g, le (f a g) (h a g)) : ∀ {t x : Tr}, le t x → le (bind t f) (bind x h)
  | stop m, x, e => by
    rcases e with rfl | rfl
    · exact Or.inl rfl
    · exact le_refl _
  | tick t, x, e => by obtain ⟨y, rfl, e⟩ := e; exact ⟨_, rfl, le_bind k e⟩
  | say g t, x, e => by obtain ⟨y, rfl, e⟩ := e; exact ⟨_, rfl, le_bind k e⟩
  | way a g t, x, e => by obtain ⟨y, rfl, e⟩ := e; exact le_seq (le_bind k e) (k a g)

/-- It ends otherwise than for depth. -/
def whole : Tr → Prop
  | stop m => m ≠ .deep
  | tick t => whole t
  | say _ t => whole t
  | way _ _ t => whole t
theorem eq_of_le : ∀ {t u : Tr}, le t u → whole t → u = t
  | stop m, u, h, k => by
    rcases h with h | h
    · exact absurd h k
    · exact h
  | tick t, u, h, k => by obtain ⟨v, rfl, h⟩ := h; rw [eq_of_le h k]
  | say g t, u, h, k => by obtain ⟨v, rfl, h⟩ := h; rw [eq_of_le h k]
  | way a g t, u, h, k => by obtain ⟨v, rfl, h⟩ := h; rw [eq_of_le h k]

/-- The ways alone. -/
def ways : Tr → Tr
  | stop m => stop m
  | tick t => ways t
  | say _ t => ways t
  | way a g t => way a g (ways t)
theorem ways_seq (u : Tr) : ∀ t : Tr, ways (seq t u) = seq (ways t) (ways u)
  | stop m => by
    by_cases h : m = .done
    · subst h; rw [seq_done, ways, seq_done]
    · rw [seq_stop h, ways, seq_stop h]
  | tick t => by rw [seq, ways, ways, ways_seq u t]
  | say g t => by rw [seq, ways, ways, ways_seq u t]
  | way a g t => by rw [seq, ways, ways, seq, ways_seq u t]
theorem ways_bind (f : Nat → List Gift → Tr) : ∀ t : Tr, ways (bind t f) = bind (ways t) (fun a g => ways (f a g))
  | stop m => by rw [bind, ways, bind]
  | tick t => by rw [bind, ways, ways, ways_bind f t]
  | say g t => by rw [bind, ways, ways, ways_bind f t]
  | way a g t => by rw [bind, ways_seq, ways_bind f t, ways, bind]
theorem ways_le : ∀ {t u : Tr}, le t u → le (ways t) (ways u)
  | stop m, u, h => by
    rcases h with rfl | rfl
    · exact Or.inl rfl
    · exact Or.inr rfl
  | tick t, u, h => by obtain ⟨v, rfl, h⟩ := h; exact ways_le (t := t) (u := v) h
  | say g t, u, h => by obtain ⟨v, rfl, h⟩ := h; exact ways_le (t := t) (u := v) h
  | way a g t, u, h => by obtain ⟨v, rfl, h⟩ := h; exact ⟨_, rfl, ways_le h⟩
theorem ways_ways : ∀ t : Tr, ways (ways t) = ways t
  | stop m => rfl
  | tick t => ways_ways t
  | say _ t => ways_ways t
  | way a g t => by rw [ways, ways, ways_ways t]
theorem whole_ways : ∀ {t : Tr}, whole (ways t) ↔ whole t
  | stop m => Iff.rfl
  | tick t => whole_ways (t := t)
  | say _ t => whole_ways (t := t)
  | way a g t => whole_ways (t := t)

/-- For depth it ends behind n nodes at least. -/
def late : Nat → Tr → Prop
  | n, stop m => m = .deep → n = 0
  | n, tick t => late (n - 1) t
  | n, say _ t => late n t
  | n, way _ _ t => late n t
theorem late_mono : ∀ {n m : Nat} {t : Tr}, late n t → m ≤ n → late m t
  | n, m, stop x, h, k => fun e => by have := h e; omega
  | n, m, tick t, h, k => late_mono (t := t) h (by omega)
  | n, m, say _ t, h, k => late_mono (t := t) h k
  | n, m, way _ _ t, h, k => late_mono (t := t) h k
theorem late_seq : ∀ {n : Nat} {t u : Tr}, late n t → late n u → late n (seq t u)
  | n, stop m, u, h, k => by
    by_cases e : m = .done
    · subst e; rw [seq_done]; exact k
    · rw [seq_stop e]; exact h
  | n, tick t, u, h, k => late_seq (t := t) h (late_mono k (by omega))
  | n, say _ t, u, h, k => late_seq (t := t) h k
  | n, way _ _ t, u, h, k => late_seq (t := t) h k
theorem late_bind {f : Nat → List Gift → Tr} : ∀ {n : Nat} {t : Tr}, late n t → (∀ a g, late n (f a g)) → late n (bind t f)
  | n, stop m, h, k => h
  | n, tick t, h, k => late_bind (t := t) h (fun a g => late_mono (k a g) (by omega))
  | n, say _ t, h, k => late_bind (t := t) h k
  | n, way a g t, h, k => late_seq (k a g) (late_bind (t := t) h k)
end Tr
end Go.Proofs.YtmkldfjcpmoajabDoor
