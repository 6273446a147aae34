/- The machine's steps come to an end, and tell what the pattern's form says. Plain. -/
import Derived.Test.YtmkldfjcpmoajabDoorScMach
namespace Go.Proofs.YtmkldfjcpmoajabDoor
open Tr
set_option linter.unusedVariables false

inductive Obs where
  | found (a : Nat) (g : List Gift) (ticks : Nat) (said : List Gift) (rest : Tr)
  | over (cut : Bool) (ticks : Nat) (said : List Gift)
  | fuel
  | name
  | deep
/-- The first way of a telling, with so much fuel. -/
def first (fuel : Nat) : Nat → List Gift → Tr → Obs
  | k, sd, .stop .done => .over false k sd
  | k, sd, .stop .cut => .over true k sd
  | k, sd, .stop .deep => .deep
  | k, sd, .stop .name => .name
  | k, sd, .tick t => if k = fuel then .fuel else first fuel (k + 1) sd t
  | k, sd, .say g t => first fuel k (sd ++ [g]) t
  | k, sd, .way a g t => .found a g k sd t

section
variable (R : List Rule) (s : ByteArray)
def Agree (fuel : Nat) : Obs → Out → Prop
  | .found a g k sd T, o => ∃ m, o = .found a m ∧ m.given = g ∧ m.ticks = k ∧ m.said = sd ∧ m.cut = false ∧ k ≤ fuel ∧ MeansC R s (fuel - k) m.choices T
  | .over b k sd, o => ∃ m, o = .over m ∧ m.cut = b ∧ m.ticks = k ∧ m.said = sd
  | .fuel, o => o = .fuel
  | .name, o => o = .name
  | .deep, o => False

def most (L : Nat) : List Todo → Nat
  | [] => 1
  | t :: k => if t.op = 0 then 1 else (L + 1) * (most L k + 4) + 1
def cost (L : Nat) : List Todo → Nat → Nat
  | [], _ => 1
  | t :: k, a => if t.op = 0 then 1 else if t.op = 8 then 1 else if t.op = 4 then 2 else if t.op = 5 then most L k + 4 else if t.op = 6 ∨ 7 ≤ t.op then most L k + 1 else (L - a + 1) * (most L k + 4) + 1
theorem cost_pos (L : Nat) (k : List Todo) (a : Nat) : 1 ≤ cost L k a := by
  cases k with
  | nil => exact Nat.le_refl _
  | cons t k =>
    rw [cost]
    repeat' split
    all_goals first | omega | exact Nat.le_add_left _ _
theorem cost_le (L : Nat) (k : List Todo) (a : Nat) : cost L k a ≤ most L k := by
  cases k with
  | nil => exact Nat.le_refl _
  | cons t k =>
    have h1 : most L k + 4 ≤ (L + 1) * (most L k + 4) := by rw [Nat.add_mul]; omega
    have h2 : (L - a + 1) * (most L k + 4) ≤ (L + 1) * (most L k + 4) := Nat.mul_le_mul_right _ (by omega)
    rw [cost, most]
    by_cases h0 : t.op = 0
    · rw [if_pos h0, if_pos h0]; exact Nat.le_refl _
    rw [if_neg h0, if_neg h0]
    repeat' split
    all_goals omega
def costC (L : Nat) : List Ch → Nat
  | [] => 0
  | c :: cs => cost L c.k c.at_ + 1 + costC L cs
def load (L : Nat) : Option (List Todo × Nat) → MS → Nat
  | none, m => costC L m.choices
  | some (k, a), m => cost L k a + costC L m.choices

theorem idx_none {t : List UInt8} : ∀ {l : List UInt8} {a : Nat}, idx l t true = none → breaks t l a = []
  | [], _, _ => rfl
  | c :: l, a, h => by
    unfold idx at h
    rw [List.findIdx?_cons] at h
    by_cases e : t.contains c = true
    · rw [if_pos (by rw [e]; rfl)] at h; cases h
    · rw [if_neg (by simpa using e)] at h
      rw [breaks, if_neg e]
      exact idx_none (by simpa [idx] using h)
theorem idx_some {t : List UInt8} : ∀ {l : List UInt8} {a n : Nat}, idx l t true = some n → n < l.length ∧ breaks t l a = (a + n) :: breaks t (l.drop (n + 1)) (a + n + 1)
  | [], _, _, h => by cases h
  | c :: l, a, n, h => by
    unfold idx at h
    rw [List.findIdx?_cons] at h
    by_cases e : t.contains c = true
    · rw [if_pos (by rw [e]; rfl)] at h
      obtain rfl : n = 0 := by cases h; rfl
      exact ⟨by simp, by rw [breaks, if_pos e]; simp⟩
    · rw [if_neg (by simpa using e)] at h
      obtain ⟨k, hk, rfl⟩ : ∃ k, idx l t true = some k ∧ n = k + 1 := by
        cases hh : List.findIdx? (fun c => t.contains c == true) l with
        | none => rw [hh] at h; cases h
        | some k => rw [hh] at h; cases h; exact ⟨k, hh, rfl⟩
      obtain ⟨h1, h2⟩ := idx_some (a := a + 1) hk
      exact ⟨by simp; omega, by rw [breaks, if_neg e, h2]; simp only [List.drop_succ_cons]; rw [show a + 1 + k = a + (k + 1) by omega]⟩
theorem pairLen_none : ∀ {l : List UInt8} {d a : Nat}, pairLen l d = none → pairEnds l d a = []
  | [], _, _, _ => rfl
  | c :: l, d, a, h => by
    unfold pairLen at h
    rw [pairEnds.eq_def (c :: l) d a]
    dsimp only
    split at h
    · rename_i e; rw [if_pos e]; exact pairLen_none (by simpa using h)
    rename_i e; rw [if_neg e]
    split at h
    · rename_i e; rw [if_pos e]
      match d, h with
      | 0, h => rfl
      | d + 2, h => exact pairLen_none (by simpa using h)
    rename_i e2; rw [if_neg e2]
    split at h
    · cases h
    · rename_i e3; rw [if_neg e3]; exact pairLen_none (by simpa using h)
theorem pairLen_some : ∀ {l : List UInt8} {d a n : Nat}, pairLen l d = some n → 0 < n ∧ n ≤ l.length ∧ pairEnds l d a = (a + n) :: pairEnds (l.drop n) 0 (a + n)
  | [], _, _, _, h => by cases h
  | c :: l, d, a, n, h => by
    unfold pairLen at h
    rw [pairEnds.eq_def (c :: l) d a]
    dsimp only
    have back : ∀ {d' : Nat}, (pairLen l d').map (· + 1) = some n → 0 < n ∧ n ≤ (c :: l).length ∧ pairEnds l d' (a + 1) = (a + n) :: pairEnds ((c :: l).drop n) 0 (a + n) := by
      intro d' h
      cases hk : pairLen l d' with
      | none => rw [hk] at h; cases h
      | some k =>
        rw [hk] at h
        obtain rfl : k + 1 = n := by simpa using h
        obtain ⟨h1, h2, h3⟩ := pairLen_some (a := a + 1) hk
        exact ⟨by omega, by simp; omega, by rw [h3, List.drop_succ_cons, show a + 1 + k = a + (k + 1) by omega]⟩
    split at h
    · rename_i e; rw [if_pos e]; exact back h
    rename_i e; rw [if_neg e]
    split at h
    · rename_i e; rw [if_pos e]
      match d, h with
      | 1, h =>
        obtain rfl : 1 = n := by simpa using h
        exact ⟨by omega, by simp, by simp⟩
      | d + 2, h => exact back h
    rename_i e2; rw [if_neg e2]
    split at h
    · rename_i e3; rw [if_pos e3]
      obtain rfl : 1 = n := by simpa using h
      exact ⟨by omega, by simp, by simp⟩
    · rename_i e3; rw [if_neg e3]; exact back h
theorem mores_last {L a : Nat} (h : ¬ a < L) : mores L a = [a] := by
  unfold mores
  rw [show L - a + 1 = 1 by omega]; rfl
theorem mores_more {L a : Nat} (h : a < L) : mores L a = a :: mores L (a + 1) := by
  unfold mores
  rw [show L - a + 1 = (L - (a + 1) + 1) + 1 by omega, List.range'_succ]

theorem kidsK_means {r n : Nat} (hn : r < n) {k : List Todo} {G : Nat → List Gift → Tr} (h : Means R s r k G) : ∀ l : List Pat, Means R s r (kidsK l k) (fun a g => bind (cats (den R s n) l a g) G)
  | [] => by
    have : (fun a g => bind (cats (den R s n) [] a g) G) = G := by
      funext a g; exact one_bind G a g
    rw [this]; exact h
  | p :: l => by
    show Means R s r (⟨0, p, 0⟩ :: kidsK l k) _
    unfold Means
    exact ⟨n, _, hn, fun q hq => Means.mono R s (kidsK_means hn h l) (by omega), by funext a g; exact Tr.bind_assoc _ _ _⟩
theorem enter_means {r n : Nat} (hn : r < n) (p : Pat) {k : List Todo} {G : Nat → List Gift → Tr} (h : Means R s r k G) : Means R s r (⟨0, p, 0⟩ :: k) (fun a g => bind (den R s n p a g) G) :=
  ⟨n, G, hn, fun q hq => Means.mono R s h (by omega), rfl⟩
theorem alts_means {r n : Nat} (hn : r < n) {k : List Todo} {G : Nat → List Gift → Tr} (h : Means R s r k G) (a : Nat) (g : List Gift) {cs : List Ch} {U : Tr} (hU : MeansC R s r cs U) :
    ∀ l : List Pat, MeansC R s r (l.map (fun q => ⟨⟨0, q, 0⟩ :: k, a, g⟩) ++ cs) (seq (bind (alts (den R s n) l a g) G) U)
  | [] => by
    show MeansC R s r cs (seq (bind naught G) U)
    rw [none_bind, seq_naught]; exact hU
  | p :: l => by
    refine ⟨_, _, enter_means R s hn p h, alts_means hn h a g hU l, ?_⟩
    show seq (bind (seq (den R s n p a g) (alts (den R s n) l a g)) G) U = _
    rw [bind_seq, Tr.seq_assoc]

theorem MeansC.mk {r : Nat} {k : List Todo} {F : Nat → List Gift → Tr} {cs : List Ch} {U : Tr} (hF : Means R s r k F) (hU : MeansC R s r cs U) (a : Nat) (g : List Gift) : MeansC R s r (⟨k, a, g⟩ :: cs) (seq (F a g) U) := ⟨F, U, hF, hU, rfl⟩
/-- What a state tells, that may have been cut off. -/
def TellsX (r : Nat) (st : Option (List Todo × Nat)) (m : MS) (T : Tr) : Prop :=
  if m.cut = true then st = none ∧ m.choices = [] ∧ T = stop .cut else Tells R s r st m T
theorem TellsX.of {r : Nat} {st : Option (List Todo × Nat)} {m : MS} {T : Tr} (hc : m.cut = false) (h : Tells R s r st m T) : TellsX R s r st m T := by
  unfold TellsX; rw [if_neg (by rw [hc]; simp)]; exact h
theorem TellsX.shut (r : Nat) (m : MS) : TellsX R s r none m.shut (stop .cut) := by
  unfold TellsX; rw [if_pos (show m.shut.cut = true from rfl)]; exact ⟨rfl, rfl, rfl⟩

/-- What is to be shown of the states behind. -/
def Goes (fuel : Nat) (st : Option (List Todo × Nat)) (m : MS) (T : Tr) : Prop := ∃ c o, runs R s fuel c st m = some o ∧ Agree R s fuel (first fuel m.ticks m.said T) o

theorem resume_goes {fuel r : Nat} {t : Todo} {k : List Todo} {a : Nat} {m : MS} {T : Tr} (h0 : t.op ≠ 0) (hc : m.cut = false) (hT : Tells R s r (some (t :: k, a)) m T)
    (ih : ∀ st m' T', load s.size st m' < load s.size (some (t :: k, a)) m → TellsX R s r st m' T' → m'.ticks = m.ticks → Goes R s fuel st m' T') : Goes R s fuel (some (t :: k, a)) m T := by
  have go : ∀ st m' T', resume s t k a m = (st, m') → first fuel m'.ticks m'.said T' = first fuel m.ticks m.said T → load s.size st m' < load s.size (some (t :: k, a)) m → TellsX R s r st m' T' → m'.ticks = m.ticks → Goes R s fuel (some (t :: k, a)) m T := by
    intro st m' T' e1 e2 hl hX ht
    obtain ⟨c, o, hr, ha⟩ := ih st m' T' hl hX ht
    refine ⟨c + 1, o, ?_, by rw [← e2]; exact ha⟩
    rw [runs, if_neg h0, e1]; exact hr
  have hL : s.data.toList.length = s.size := rfl
  have hcp := fun k a => cost_le s.size k a
  obtain ⟨F, U, hF, hU, rfl⟩ := hT
  unfold Means at hF
  dsimp only at hF
  rw [if_neg h0] at hF
  have hload : load s.size (some (t :: k, a)) m = cost s.size (t :: k) a + costC s.size m.choices := rfl
  rw [cost, if_neg h0] at hload
  unfold resume at go
  dsimp only at go
  by_cases h8 : t.op = 8
  · rw [if_pos h8] at hF hload go
    subst hF
    refine go _ _ _ rfl rfl ?_ (TellsX.shut R s r m) rfl
    show 0 < _; omega
  rw [if_neg h8] at hF hload go
  obtain ⟨G, hG, hF⟩ := hF
  by_cases h1 : t.op = 1
  · rw [if_pos h1] at hF go
    rw [if_neg (by omega), if_neg (by omega), if_neg (by omega)] at hload
    subst hF
    by_cases hlt : a < s.data.toList.length
    · rw [if_pos hlt] at go
      refine go _ _ _ rfl rfl ?_ (TellsX.of R s hc ⟨G, seq (bind (wayL m.given (mores s.data.toList.length (a + 1))) G) U, hG, MeansC.mk R s (F := fun a g => bind (wayL g (mores s.data.toList.length a)) G) ?_ hU (a + 1) m.given, ?_⟩) rfl
      · show cost s.size k a + (cost s.size (⟨1, t.node, 0⟩ :: k) (a + 1) + 1 + costC s.size m.choices) < _
        rw [hload]
        have h2 := hcp k a
        have e : cost s.size (⟨1, t.node, 0⟩ :: k) (a + 1) = (s.size - (a + 1) + 1) * (most s.size k + 4) + 1 := by simp [cost]
        have e2 : s.size - a + 1 = (s.size - (a + 1) + 1) + 1 := by omega
        rw [e, e2, Nat.add_mul (s.size - (a + 1) + 1) 1]
        omega
      · unfold Means; simp only [if_neg (show ¬ (1 = 0) by omega), if_neg (show ¬ (1 = 8) by omega), if_true]; exact ⟨G, hG, rfl⟩
      · dsimp only; rw [mores_more hlt]; show seq (bind (way a m.given _) G) U = _; rw [Tr.bind, Tr.seq_assoc]; rfl
    · rw [if_neg hlt] at go
      refine go _ _ _ rfl rfl ?_ (TellsX.of R s hc ⟨G, U, hG, hU, ?_⟩) rfl
      · show cost s.size k a + _ < _
        rw [hload]
        have h2 := hcp k a
        have h3 : most s.size k + 4 ≤ (s.size - a + 1) * (most s.size k + 4) := by rw [Nat.add_mul]; omega
        omega
      · dsimp only; rw [mores_last hlt]; show seq (bind (way a m.given naught) G) U = _; rw [Tr.bind, none_bind, naught, seq_right]
  rw [if_neg h1] at hF go
  by_cases h2 : t.op = 2
  · rw [if_pos h2] at hF go
    rw [if_neg (by omega), if_neg (by omega), if_neg (by omega)] at hload
    subst hF
    cases hi : idx (s.data.toList.drop a) t.node.bytes true with
    | none =>
      rw [hi] at go
      refine go _ _ U rfl ?_ ?_ (TellsX.of R s hc hU) rfl
      · dsimp only; rw [idx_none hi]; show _ = first _ _ _ (seq (bind naught G) U); rw [none_bind, seq_naught]
      · show costC s.size m.choices < _; rw [hload]; omega
    | some n =>
      rw [hi] at go
      obtain ⟨hn, hb⟩ := idx_some (a := a) hi
      rw [List.length_drop] at hn
      refine go _ _ _ rfl rfl ?_ (TellsX.of R s hc ⟨G, seq (bind (wayL m.given (breaks t.node.bytes (s.data.toList.drop (a + n + 1)) (a + n + 1))) G) U, hG, MeansC.mk R s (F := fun a g => bind (wayL g (breaks t.node.bytes (s.data.toList.drop a) a)) G) ?_ hU (a + n + 1) m.given, ?_⟩) rfl
      · show cost s.size k (a + n) + (cost s.size (⟨2, t.node, 0⟩ :: k) (a + n + 1) + 1 + costC s.size m.choices) < _
        rw [hload]
        have h2 := hcp k (a + n)
        have e : cost s.size (⟨2, t.node, 0⟩ :: k) (a + n + 1) = (s.size - (a + n + 1) + 1) * (most s.size k + 4) + 1 := by simp [cost]
        have e2 : (s.size - (a + n + 1) + 1) * (most s.size k + 4) ≤ (s.size - a) * (most s.size k + 4) := Nat.mul_le_mul_right _ (by omega)
        rw [e, Nat.add_mul (s.size - a) 1]
        omega
      · unfold Means; simp only [if_neg (show ¬ (2 = 0) by omega), if_neg (show ¬ (2 = 8) by omega), if_neg (show ¬ (2 = 1) by omega), if_true]; exact ⟨G, hG, rfl⟩
      · dsimp only; rw [hb, List.drop_drop]; show seq (bind (way (a + n) m.given _) G) U = _; rw [Tr.bind, Tr.seq_assoc]; rfl
  rw [if_neg h2] at hF go
  by_cases h3 : t.op = 3
  · rw [if_pos h3] at hF go
    rw [if_neg (by omega), if_neg (by omega), if_neg (by omega)] at hload
    subst hF
    cases hi : pairLen (s.data.toList.drop a) 0 with
    | none =>
      rw [hi] at go
      refine go _ _ U rfl ?_ ?_ (TellsX.of R s hc hU) rfl
      · dsimp only; rw [pairLen_none hi]; show _ = first _ _ _ (seq (bind naught G) U); rw [none_bind, seq_naught]
      · show costC s.size m.choices < _; rw [hload]; omega
    | some n =>
      rw [hi] at go
      obtain ⟨hn0, hn, hb⟩ := pairLen_some (a := a) hi
      rw [List.length_drop] at hn
      refine go _ _ _ rfl rfl ?_ (TellsX.of R s hc ⟨G, seq (bind (wayL m.given (pairEnds (s.data.toList.drop (a + n)) 0 (a + n))) G) U, hG, MeansC.mk R s (F := fun a g => bind (wayL g (pairEnds (s.data.toList.drop a) 0 a)) G) ?_ hU (a + n) m.given, ?_⟩) rfl
      · show cost s.size k (a + n) + (cost s.size (⟨3, t.node, 0⟩ :: k) (a + n) + 1 + costC s.size m.choices) < _
        rw [hload]
        have h2 := hcp k (a + n)
        have e : cost s.size (⟨3, t.node, 0⟩ :: k) (a + n) = (s.size - (a + n) + 1) * (most s.size k + 4) + 1 := by simp [cost]
        have e2 : (s.size - (a + n) + 1) * (most s.size k + 4) ≤ (s.size - a) * (most s.size k + 4) := Nat.mul_le_mul_right _ (by omega)
        rw [e, Nat.add_mul (s.size - a) 1]
        omega
      · unfold Means; simp only [if_neg (show ¬ (3 = 0) by omega), if_neg (show ¬ (3 = 8) by omega), if_neg (show ¬ (3 = 1) by omega), if_neg (show ¬ (3 = 2) by omega), if_true]; exact ⟨G, hG, rfl⟩
      · dsimp only; rw [hb, List.drop_drop]; show seq (bind (way (a + n) m.given _) G) U = _; rw [Tr.bind, Tr.seq_assoc]; rfl
  rw [if_neg h3] at hF go
  by_cases h4 : t.op = 4
  · rw [if_pos h4] at hF hload go
    obtain ⟨n, c, hn, hcc, rfl⟩ := hF
    obtain ⟨c, rfl⟩ : ∃ d, c = d + 1 := ⟨c - 1, by omega⟩
    refine go _ _ _ rfl rfl ?_ (TellsX.of R s hc ⟨_, U, ⟨n, fun e h => if e = a then naught else seq (G e h) (bind (star (den R s n (t.node.kid 0)) c e h) G), hn, fun q hq => ?_, rfl⟩, hU, ?_⟩) rfl
    · show cost s.size (⟨0, _, _⟩ :: _) _ + _ < _
      rw [hload]; simp [cost]
    · unfold Means; simp only [if_neg (show ¬ (5 = 0) by omega), if_neg (show ¬ (5 = 8) by omega), if_neg (show ¬ (5 = 1) by omega), if_neg (show ¬ (5 = 2) by omega), if_neg (show ¬ (5 = 3) by omega), if_neg (show ¬ (5 = 4) by omega), if_true]
      exact ⟨G, Means.mono R s hG (by omega), n, c, by omega, by omega, rfl⟩
    · dsimp only
      rw [star, Tr.bind_assoc]
      congr 1
      refine bind_congr (fun e h => ?_) _
      split
      · rfl
      · rw [bind_seq, one_bind]
  rw [if_neg h4] at hF hload go
  by_cases h5 : t.op = 5
  · rw [if_pos h5] at hF hload go
    obtain ⟨n, c, hn, hcc, rfl⟩ := hF
    by_cases ha : a = t.start
    · rw [if_pos ha] at go
      refine go _ _ U rfl ?_ ?_ (TellsX.of R s hc hU) rfl
      · dsimp only; rw [if_pos ha, seq_naught]
      · show costC s.size m.choices < _; rw [hload]; omega
    · rw [if_neg ha] at go
      refine go _ _ _ rfl rfl ?_ (TellsX.of R s hc ⟨G, seq (bind (star (den R s n (t.node.kid 0)) c a m.given) G) U, hG, MeansC.mk R s (F := fun a g => bind (star (den R s n (t.node.kid 0)) c a g) G) ?_ hU a m.given, ?_⟩) rfl
      · show cost s.size k a + (cost s.size (⟨4, t.node, 0⟩ :: k) a + 1 + costC s.size m.choices) < _
        rw [hload]
        have h2 := hcp k a
        have e : cost s.size (⟨4, t.node, 0⟩ :: k) a = 2 := by simp [cost]
        rw [e]; omega
      · unfold Means; simp only [if_neg (show ¬ (4 = 0) by omega), if_neg (show ¬ (4 = 8) by omega), if_neg (show ¬ (4 = 1) by omega), if_neg (show ¬ (4 = 2) by omega), if_neg (show ¬ (4 = 3) by omega), if_true]
        exact ⟨G, hG, n, c, hn, hcc, rfl⟩
      · dsimp only; rw [if_neg ha, Tr.seq_assoc]; rfl
  rw [if_neg h5] at hF hload go
  by_cases h6 : t.op = 6
  · rw [if_pos h6] at hF go
    rw [if_pos (Or.inl h6)] at hload
    subst hF
    refine go _ _ _ rfl rfl ?_ (TellsX.of R s hc ⟨G, U, hG, hU, rfl⟩) rfl
    show cost s.size k a + costC s.size m.choices < _
    rw [hload]
    have h2 := hcp k a
    omega
  · rw [if_neg h6] at hF go
    rw [if_pos (Or.inr (by omega))] at hload
    subst hF
    refine go _ _ _ rfl rfl ?_ (TellsX.of R s hc ⟨G, U, hG, hU, rfl⟩) rfl
    show cost s.size k a + costC s.size m.choices < _
    rw [hload]
    have h2 := hcp k a
    omega

theorem inner_false {p : Pat} (h : inner p = false) : p.kind ≠ 7 ∧ p.kind ≠ 13 ∧ p.kind ≠ 14 ∧ p.kind ≠ 18 ∧ p.kind ≠ 19 ∧ p.kind ≠ 20 ∧ p.kind ≠ 21 ∧ p.kind ≠ 22 ∧ p.kind ≠ 24 := by
  simp only [inner, Bool.or_eq_false_iff, decide_eq_false_iff_not] at h
  obtain ⟨⟨⟨⟨⟨⟨⟨⟨h1, h2⟩, h3⟩, h4⟩, h5⟩, h6⟩, h7⟩, h8⟩, h9⟩ := h
  exact ⟨h1, h2, h3, h4, h5, h6, h7, h8, h9⟩

theorem enter_goes {fuel r : Nat} {t : Todo} {k : List Todo} {a : Nat} {m : MS} {T : Tr} (h0 : t.op = 0) (hc : m.cut = false) (hT : Tells R s (r + 1) (some (t :: k, a)) m T) (hr : m.ticks + (r + 1) = fuel)
    (ih : ∀ st m' T', TellsX R s r st m' T' → m'.ticks = m.ticks + 1 → Goes R s fuel st m' T') : Goes R s fuel (some (t :: k, a)) m T := by
  obtain ⟨F, U, hF, hU, rfl⟩ := hT
  unfold Means at hF
  dsimp only at hF
  rw [if_pos h0] at hF
  obtain ⟨n, G, hn, hG, rfl⟩ := hF
  obtain ⟨n, rfl⟩ : ∃ k, n = k + 1 := ⟨n - 1, by omega⟩
  have hU : MeansC R s r m.choices U := MeansC.mono R s hU (by omega)
  have hG : Means R s r k G := hG r (by omega)
  have hn' : r < n := by omega
  have hne : ¬ m.ticks = fuel := by omega
  obtain ⟨m1, hm1⟩ : ∃ m1 : MS, m1 = { m with ticks := m.ticks + 1 } := ⟨_, rfl⟩
  have c1 : m1.choices = m.choices := by rw [hm1]
  have c2 : m1.given = m.given := by rw [hm1]
  have c3 : m1.ticks = m.ticks + 1 := by rw [hm1]
  have c4 : m1.said = m.said := by rw [hm1]
  have c5 : m1.cut = false := by rw [hm1]; exact hc
  obtain ⟨T1, hT1⟩ : ∃ T1, T1 = seq (Tr.bind (node R s (den R s n) n t.node a m.given) G) U := ⟨_, rfl⟩
  have hfirst : ∀ {sd}, first fuel m.ticks sd (seq ((fun a g => Tr.bind (den R s (n + 1) t.node a g) G) a m.given) U) = first fuel (m.ticks + 1) sd T1 := by
    intro sd
    rw [hT1]
    show first fuel m.ticks sd (tick (seq (Tr.bind (node R s (den R s n) n t.node a m.given) G) U)) = _
    rw [first, if_neg hne]
  have goI : ∀ k' m' T', inner t.node = true → enter R t.node a k m1 = (some k', m') → first fuel m'.ticks m'.said T' = first fuel m1.ticks m1.said T1 → TellsX R s r (some (k', a)) m' T' → m'.ticks = m1.ticks → Goes R s fuel (some (t :: k, a)) m (seq ((fun a g => Tr.bind (den R s (n + 1) t.node a g) G) a m.given) U) := by
    intro k' m' T' hin e1 e2 hX ht
    obtain ⟨c, o, hr, ha⟩ := ih _ m' T' hX (by rw [ht, c3])
    refine ⟨c + 1, o, ?_, by rw [hfirst, ← c4, ← c3, ← e2]; exact ha⟩
    rw [runs, if_pos h0, if_neg hne]
    dsimp only
    rw [if_pos hin, ← hm1, e1]; exact hr
  have goL : ∀ x m' T', inner t.node = false → leave s t.node a m1 = (x, m') → first fuel m'.ticks m'.said T' = first fuel m1.ticks m1.said T1 → TellsX R s r (x.map (fun b => (k, b))) m' T' → m'.ticks = m1.ticks → Goes R s fuel (some (t :: k, a)) m (seq ((fun a g => Tr.bind (den R s (n + 1) t.node a g) G) a m.given) U) := by
    intro x m' T' hin e1 e2 hX ht
    obtain ⟨c, o, hr, ha⟩ := ih _ m' T' hX (by rw [ht, c3])
    refine ⟨c + 1, o, ?_, by rw [hfirst, ← c4, ← c3, ← e2]; exact ha⟩
    rw [runs, if_pos h0, if_neg hne]
    dsimp only
    rw [if_neg (by rw [hin]; simp), ← hm1, e1]
    cases x with
    | none => exact hr
    | some b => exact hr
  cases hin : inner t.node with
  | true =>
    have goI := fun k' m' T' => goI k' m' T' hin
    unfold enter at goI
    unfold node at hT1
    dsimp only at hT1
    have wk : ∀ (o : Nat) (L : Nat → Nat → List Nat), Means R s r (⟨o, t.node, 0⟩ :: k) (fun a g => Tr.bind (wayL g (L a a)) G) → T1 = seq (Tr.bind (wayL m.given (L a a)) G) U → TellsX R s r (some (⟨o, t.node, 0⟩ :: k, a)) m1 T1 := by
      intro o L h1 h2
      exact TellsX.of R s c5 ⟨_, U, h1, by rw [c1]; exact hU, by rw [h2, c2]⟩
    by_cases h7 : t.node.kind = 7
    · rw [if_pos h7] at goI hT1
      refine goI _ _ T1 rfl rfl (wk 2 (fun a b => breaks t.node.bytes (s.data.toList.drop a) b) ?_ hT1) rfl
      unfold Means; simp only [if_neg (show ¬ (2 = 0) by omega), if_neg (show ¬ (2 = 8) by omega), if_neg (show ¬ (2 = 1) by omega), if_true]; exact ⟨G, hG, rfl⟩
    rw [if_neg h7] at goI hT1
    by_cases h13 : t.node.kind = 13
    · rw [if_pos h13] at goI hT1
      refine goI _ _ T1 rfl rfl (wk 1 (fun a b => mores s.data.toList.length a) ?_ hT1) rfl
      unfold Means; simp only [if_neg (show ¬ (1 = 0) by omega), if_neg (show ¬ (1 = 8) by omega), if_true]; exact ⟨G, hG, rfl⟩
    rw [if_neg h13] at goI hT1
    by_cases h14 : t.node.kind = 14
    · rw [if_pos h14] at goI hT1
      refine goI _ _ T1 rfl rfl (wk 3 (fun a b => pairEnds (s.data.toList.drop a) 0 b) ?_ hT1) rfl
      unfold Means; simp only [if_neg (show ¬ (3 = 0) by omega), if_neg (show ¬ (3 = 8) by omega), if_neg (show ¬ (3 = 1) by omega), if_neg (show ¬ (3 = 2) by omega), if_true]; exact ⟨G, hG, rfl⟩
    rw [if_neg h14] at goI hT1
    by_cases h15 : t.node.kind = 15
    · simp [inner, h15] at hin
    by_cases h16 : t.node.kind = 16
    · simp [inner, h16] at hin
    by_cases h17 : t.node.kind = 17
    · simp [inner, h17] at hin
    rw [if_neg h15, if_neg h16, if_neg h17] at hT1
    by_cases h18 : t.node.kind = 18
    · rw [if_pos h18] at goI hT1
      exact goI _ _ T1 rfl rfl (TellsX.of R s c5 ⟨_, U, kidsK_means R s hn' hG t.node.kids, by rw [c1]; exact hU, by rw [hT1, c2]⟩) rfl
    rw [if_neg h18] at goI hT1
    by_cases h19 : t.node.kind = 19
    · rw [if_pos h19] at goI hT1
      refine goI _ _ T1 rfl rfl (TellsX.of R s c5 ⟨_, seq (Tr.bind (alts (den R s n) (t.node.kids.drop 1) a m.given) G) U, enter_means R s hn' (t.node.kid 0) hG, ?_, ?_⟩) rfl
      · show MeansC R s r (_ ++ m1.choices) _
        rw [c1, c2]
        exact alts_means R s hn' hG a m.given hU _
      · show T1 = seq (Tr.bind (den R s n (t.node.kid 0) a m1.given) G) _
        rw [hT1, c2, alts, bind_seq, Tr.seq_assoc]
    rw [if_neg h19] at goI hT1
    by_cases h20 : t.node.kind = 20
    · rw [if_pos h20] at goI hT1
      refine goI _ _ T1 rfl rfl (TellsX.of R s (by exact c5) ⟨G, seq (Tr.bind (star (den R s n (t.node.kid 0)) n a m.given) G) U, hG, ?_, ?_⟩) rfl
      · show MeansC R s r (⟨_, a, m1.given⟩ :: m1.choices) _
        rw [c1, c2]
        refine MeansC.mk R s (F := fun a g => Tr.bind (star (den R s n (t.node.kid 0)) n a g) G) ?_ hU a m.given
        unfold Means; simp only [if_neg (show ¬ (4 = 0) by omega), if_neg (show ¬ (4 = 8) by omega), if_neg (show ¬ (4 = 1) by omega), if_neg (show ¬ (4 = 2) by omega), if_neg (show ¬ (4 = 3) by omega), if_true]
        exact ⟨G, hG, n, n, hn', hn', rfl⟩
      · show T1 = seq (G a m1.given) _
        rw [hT1, c2, bind_seq, one_bind, Tr.seq_assoc]
    rw [if_neg h20] at goI hT1
    by_cases h21 : t.node.kind = 21
    · rw [if_pos h21] at goI hT1
      refine goI _ _ T1 rfl rfl (TellsX.of R s c5 ⟨_, U, enter_means R s hn' (t.node.kid 0) (G := fun e h => G e (h ++ [(t.node.name, s.extract a e)])) ?_, by rw [c1]; exact hU, ?_⟩) rfl
      · unfold Means; simp only [if_neg (show ¬ (6 = 0) by omega), if_neg (show ¬ (6 = 8) by omega), if_neg (show ¬ (6 = 1) by omega), if_neg (show ¬ (6 = 2) by omega), if_neg (show ¬ (6 = 3) by omega), if_neg (show ¬ (6 = 4) by omega), if_neg (show ¬ (6 = 5) by omega), if_true]
        exact ⟨G, hG, rfl⟩
      · rw [hT1, c2, Tr.bind_assoc]
        congr 1
        exact bind_congr (fun e h => by rw [one_bind]) _
    rw [if_neg h21] at goI hT1
    by_cases h22 : t.node.kind = 22
    · rw [if_pos h22] at goI hT1
      refine goI _ _ T1 rfl rfl (TellsX.of R s c5 ⟨_, U, enter_means R s hn' (t.node.kid 0) (G := fun e h => say (t.node.name, s.extract a e) (G e h)) ?_, by rw [c1]; exact hU, ?_⟩) rfl
      · unfold Means; simp only [if_neg (show ¬ (7 = 0) by omega), if_neg (show ¬ (7 = 8) by omega), if_neg (show ¬ (7 = 1) by omega), if_neg (show ¬ (7 = 2) by omega), if_neg (show ¬ (7 = 3) by omega), if_neg (show ¬ (7 = 4) by omega), if_neg (show ¬ (7 = 5) by omega), if_neg (show ¬ (7 = 6) by omega)]
        exact ⟨G, hG, rfl⟩
      · rw [hT1, c2, Tr.bind_assoc]
        congr 1
        refine bind_congr (fun e h => ?_) _
        rw [Tr.bind, one_bind]
    rw [if_neg h22] at goI hT1
    by_cases h24 : t.node.kind = 24
    · rw [if_pos h24] at goI
      rw [if_neg (by rw [h24]; omega), if_pos h24] at hT1
      cases hq : ruleOf R t.node.name with
      | some q =>
        rw [hq] at goI hT1
        exact goI _ _ T1 rfl rfl (TellsX.of R s c5 ⟨_, U, enter_means R s hn' q hG, by rw [c1]; exact hU, by rw [hT1, c2]⟩) rfl
      | none =>
        rw [hq] at hT1
        refine ⟨1, .name, ?_, ?_⟩
        · rw [runs, if_pos h0, if_neg hne]
          dsimp only
          rw [if_pos hin]
          unfold enter
          rw [if_neg h7, if_neg h13, if_neg h14, if_neg h18, if_neg h19, if_neg h20, if_neg h21, if_neg h22, if_pos h24, hq]
        · rw [hfirst, hT1]; exact rfl
    · simp [inner, h7, h13, h14, h18, h19, h20, h21, h22, h24] at hin
  | false =>
    have goL := fun x m' T' => goL x m' T' hin
    obtain ⟨h7, h13, h14, h18, h19, h20, h21, h22, h24⟩ := inner_false hin
    unfold leave at goL
    unfold node at hT1
    dsimp only at hT1
    rw [if_neg h7, if_neg h13, if_neg h14, if_neg h18, if_neg h19, if_neg h20, if_neg h21, if_neg h22, if_neg h24] at hT1
    by_cases h23 : t.node.kind = 23
    · rw [if_pos h23] at goL
      rw [if_neg (by rw [h23]; omega), if_neg (by rw [h23]; omega), if_neg (by rw [h23]; omega), if_pos h23] at hT1
      refine goL _ _ (seq (G a m.given) U) rfl ?_ (TellsX.of R s (by exact c5) ⟨G, U, hG, by exact (by rw [c1]; exact hU : MeansC R s r m1.choices U), ?_⟩) rfl
      · rw [hT1, Tr.bind, one_bind]; rfl
      · show _ = seq (G a m1.given) U; rw [c2]
    rw [if_neg h23] at goL hT1
    by_cases h16 : t.node.kind = 16
    · rw [if_pos h16] at goL
      rw [if_neg (by rw [h16]; omega), if_pos h16] at hT1
      refine goL _ _ T1 rfl rfl (TellsX.of R s (by exact c5) ⟨G, stop .cut, hG, ?_, ?_⟩) rfl
      · show MeansC R s r (⟨_, a, m1.given⟩ :: m1.choices) _
        rw [c1]
        refine ⟨fun _ _ => stop .cut, U, ?_, hU, rfl⟩
        unfold Means; simp only [if_neg (show ¬ (8 = 0) by omega), if_true]
      · show T1 = seq (G a m1.given) _
        rw [hT1, c2, Tr.bind, Tr.bind, Tr.seq_assoc]; rfl
    rw [if_neg h16] at goL hT1
    by_cases h17 : t.node.kind = 17
    · rw [if_pos h17] at goL
      rw [if_neg (by rw [h17]; omega), if_pos h17] at hT1
      refine goL _ _ T1 rfl rfl ?_ rfl
      rw [hT1]; exact TellsX.shut R s r m1
    rw [if_neg h17] at goL hT1
    by_cases h15 : t.node.kind = 15
    · rw [if_pos h15, none_bind, seq_naught] at hT1
      have he : endAt s.data.toList t.node a = none := by unfold endAt; rw [h15]; rfl
      rw [he] at goL
      exact goL _ _ T1 rfl rfl (TellsX.of R s c5 (by rw [hT1]; show MeansC R s r m1.choices U; rw [c1]; exact hU)) rfl
    rw [if_neg h15] at hT1
    cases he : endAt s.data.toList t.node a with
    | none =>
      rw [he] at goL hT1
      exact goL _ _ T1 rfl rfl (TellsX.of R s c5 (by rw [hT1]; show MeansC R s r m1.choices _; rw [c1]; exact hU)) rfl
    | some b =>
      rw [he] at goL hT1
      refine goL _ _ T1 rfl rfl (TellsX.of R s c5 ⟨G, U, hG, by rw [c1]; exact hU, ?_⟩) rfl
      rw [hT1, c2]
      show seq (seq (G b m.given) (Tr.bind naught G)) U = _
      rw [none_bind, naught, seq_right]

theorem step {fuel : Nat} (r f : Nat) (ihf : ∀ (st : Option (List Todo × Nat)) (m : MS) (T : Tr), load s.size st m < f → TellsX R s r st m T → m.ticks + r = fuel → Goes R s fuel st m T)
    (ihr : ∀ r', r = r' + 1 → ∀ (st : Option (List Todo × Nat)) (m : MS) (T : Tr), TellsX R s r' st m T → m.ticks + r' = fuel → Goes R s fuel st m T) :
    ∀ (st : Option (List Todo × Nat)) (m : MS) (T : Tr), load s.size st m ≤ f → TellsX R s r st m T → m.ticks + r = fuel → Goes R s fuel st m T := by
  intro st m T hl hX hr
  cases hc : m.cut with
  | true =>
    unfold TellsX at hX
    rw [if_pos hc] at hX
    obtain ⟨rfl, h1, rfl⟩ := hX
    exact ⟨1, .over m, by rw [runs, h1], m, rfl, hc, rfl, rfl⟩
  | false =>
    unfold TellsX at hX
    rw [if_neg (by rw [hc]; simp)] at hX
    match st, hX, hl with
    | none, hX, hl =>
      cases hcs : m.choices with
      | nil =>
        have hX : MeansC R s r m.choices T := hX
        rw [hcs] at hX
        obtain rfl : T = naught := hX
        exact ⟨1, .over m, by rw [runs, hcs], m, rfl, hc, rfl, rfl⟩
      | cons x cs =>
        have hX : MeansC R s r m.choices T := hX
        rw [hcs] at hX
        obtain ⟨F, U, h1, h2, rfl⟩ := hX
        obtain ⟨c, o, h3, h4⟩ := ihf (some (x.k, x.at_)) { m with choices := cs, given := x.given } (seq (F x.at_ x.given) U) (by
          have : load s.size none m = cost s.size x.k x.at_ + 1 + costC s.size cs := by show costC s.size m.choices = _; rw [hcs]; rfl
          show cost s.size x.k x.at_ + costC s.size cs < f
          omega) (TellsX.of R s hc ⟨F, U, h1, h2, rfl⟩) hr
        exact ⟨c + 1, o, by rw [runs, hcs]; exact h3, h4⟩
    | some ([], a), hX, hl =>
      obtain ⟨F, U, h1, h2, rfl⟩ := hX
      have h1 : F = one := h1
      subst h1
      refine ⟨1, .found a m, by rw [runs], ?_⟩
      show Agree R s fuel (first fuel m.ticks m.said (way a m.given (seq naught U))) _
      rw [first, seq_naught]
      exact ⟨m, rfl, rfl, rfl, rfl, hc, by omega, by rw [show fuel - m.ticks = r by omega]; exact h2⟩
    | some (t :: k, a), hX, hl =>
      by_cases h0 : t.op = 0
      · by_cases hr0 : r = 0
        · obtain ⟨F, U, hF, hU, rfl⟩ := hX
          unfold Means at hF
          dsimp only at hF
          rw [if_pos h0] at hF
          obtain ⟨n, G, hn, hG, rfl⟩ := hF
          obtain ⟨n, rfl⟩ : ∃ k, n = k + 1 := ⟨n - 1, by omega⟩
          have hf : m.ticks = fuel := by omega
          refine ⟨1, .fuel, by rw [runs, if_pos h0, if_pos hf], ?_⟩
          show Agree R s fuel (first fuel m.ticks m.said (tick _)) _
          rw [first, if_pos hf]; exact rfl
        · obtain ⟨r', rfl⟩ : ∃ k, r = k + 1 := ⟨r - 1, by omega⟩
          exact enter_goes R s h0 hc hX hr (fun st m' T' h1 h2 => ihr r' rfl st m' T' h1 (by omega))
      · exact resume_goes R s h0 hc hX (fun st m' T' h1 h2 h3 => ihf st m' T' (by omega) h2 (by omega))

theorem goes {fuel : Nat} : ∀ (r f : Nat) (st : Option (List Todo × Nat)) (m : MS) (T : Tr), load s.size st m ≤ f → TellsX R s r st m T → m.ticks + r = fuel → Goes R s fuel st m T := by
  intro r
  induction r with
  | zero =>
    intro f
    induction f using Nat.strongRecOn with
    | _ f ihf =>
      intro st m T hl hX hr
      exact step R s 0 f (fun st m' T' h1 h2 h3 => ihf _ h1 _ _ _ (Nat.le_refl _) h2 h3) (fun r' h => by omega) st m T hl hX hr
  | succ r ihr =>
    intro f
    induction f using Nat.strongRecOn with
    | _ f ihf =>
      intro st m T hl hX hr
      exact step R s (r + 1) f (fun st m' T' h1 h2 h3 => ihf _ h1 _ _ _ (Nat.le_refl _) h2 h3) (fun r' h => by
        obtain rfl : r = r' := by omega
        exact fun st m' T' h1 h2 => ihr _ _ _ _ (Nat.le_refl _) h1 h2) st m T hl hX hr
end
end Go.Proofs.YtmkldfjcpmoajabDoor
