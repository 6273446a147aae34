/- What the document's search does with what a form tells: each way is handed on at once. Plain. -/
import Derived.Test.YtcmdhgamlhnioaaDoorScInv
namespace Go.Proofs.YtcmdhgamlhnioaaDoor
open Tr
set_option linter.unusedVariables false
/-- What the document's Look holds, what the one who asks has gathered, and how many ways there were. -/
structure LS (γ : Type) where
  ticks : Nat
  said : List Gift
  err : Int
  out : γ
  ways : Nat
/-- What is done behind a piece: 0 nobody was content, 1 somebody was, 2 nobody may look further, 3 an error. -/
abbrev Cont (γ : Type) := Nat → List Gift → LS γ → Nat × LS γ
def runK {γ : Type} (fuel : Nat) : Tr → Cont γ → LS γ → Nat × LS γ
  | .stop m, K, s => (match m with | .done => 0 | .cut => 2 | .deep => 4 | .name => 3, if m = .name then { s with err := 7 } else s)
  | .tick t, K, s => if s.ticks < fuel then runK fuel t K { s with ticks := s.ticks + 1 } else (3, { s with err := 10 })
  | .say g t, K, s => runK fuel t K { s with said := s.said ++ [g] }
  | .way a g t, K, s => if (K a g s).1 = 0 then runK fuel t K (K a g s).2 else K a g s
section
variable {γ : Type} {fuel : Nat}
/-- One behind the other. -/
def thenK (r : Nat × LS γ) (f : LS γ → Nat × LS γ) : Nat × LS γ := if r.1 = 0 then f r.2 else r
theorem thenK_no {r : Nat × LS γ} {f : LS γ → Nat × LS γ} (h : r.1 = 0) : thenK r f = f r.2 := if_pos h
theorem thenK_yes {r : Nat × LS γ} {f : LS γ → Nat × LS γ} (h : r.1 ≠ 0) : thenK r f = r := if_neg h
theorem runK_way (a : Nat) (g : List Gift) (t : Tr) (K : Cont γ) (s : LS γ) : runK fuel (.way a g t) K s = thenK (K a g s) (runK fuel t K) := rfl
theorem runK_done (K : Cont γ) (s : LS γ) : runK fuel (.stop .done) K s = (0, s) := rfl
theorem runK_seq (K : Cont γ) (u : Tr) : ∀ (t : Tr) (s : LS γ), runK fuel (seq t u) K s = thenK (runK fuel t K s) (runK fuel u K)
  | .stop m, s => by
    by_cases h : m = .done
    · subst h; rw [seq_done]; rfl
    · rw [seq_stop h]
      cases m
      · exact absurd rfl h
      all_goals rfl
  | .tick t, s => by
    rw [seq, runK, runK]
    split
    · exact runK_seq K u t _
    · rfl
  | .say g t, s => by rw [seq, runK, runK]; exact runK_seq K u t _
  | .way a g t, s => by
    rw [seq, runK_way, runK_way]
    by_cases h : (K a g s).1 = 0
    · rw [thenK_no h, thenK_no h]; exact runK_seq K u t _
    · rw [thenK_yes h, thenK_yes h, thenK_yes h]
theorem runK_bind (K : Cont γ) (f : Nat → List Gift → Tr) : ∀ (t : Tr) (s : LS γ), runK fuel (Tr.bind t f) K s = runK fuel t (fun a g => runK fuel (f a g) K) s
  | .stop m, s => by rw [Tr.bind]; rfl
  | .tick t, s => by
    rw [Tr.bind, runK, runK]
    split
    · exact runK_bind K f t _
    · rfl
  | .say g t, s => by rw [Tr.bind, runK, runK]; exact runK_bind K f t _
  | .way a g t, s => by
    rw [Tr.bind, runK_seq, runK_way]
    unfold thenK
    split
    · exact runK_bind K f t _
    · rfl
theorem runK_one (a : Nat) (g : List Gift) (K : Cont γ) (s : LS γ) : runK fuel (one a g) K s = K a g s := by
  rw [one, runK_way]
  unfold thenK
  split
  · next h => rw [runK_done]; exact Prod.ext h.symm rfl
  · rfl
/-- What is done behind looks further: no tick comes back, nothing said is forgotten; no more is said than nodes and ways pay for (300000 each), but d; where it goes on from another place it pays 200000 back. -/
structure Onw (fuel V d : Nat) (full : Bool) (s : LS γ) (r : Nat × LS γ) : Prop where
  ticks : s.ticks ≤ r.2.ticks
  fuel : r.2.ticks ≤ fuel
  ways : s.ways ≤ r.2.ways
  stay : r.1 = 0 → r.2.ways ≤ V
  cost : r.2.said.length + 300000 * (s.ticks + s.ways) ≤ s.said.length + d + 300000 * (r.2.ticks + r.2.ways)
  back : full = true → r.1 < 3 → r.2.said.length + 300000 * (s.ticks + s.ways) + 200000 ≤ s.said.length + d + 300000 * (r.2.ticks + r.2.ways)
theorem Onw.refl {V d n : Nat} {s : LS γ} (h : s.ticks ≤ fuel) (hw : s.ways ≤ V) : Onw fuel V d false s (n, s) := ⟨Nat.le_refl _, h, Nat.le_refl _, fun _ => hw, by simp only []; omega, fun h => by cases h⟩
theorem Onw.mono {V d e : Nat} {full : Bool} {s : LS γ} {r : Nat × LS γ} (h : Onw fuel V d full s r) (hd : d ≤ e) : Onw fuel V e full s r := ⟨h.ticks, h.fuel, h.ways, h.stay, by have := h.cost; omega, fun h1 h2 => by have := h.back h1 h2; omega⟩
theorem Onw.less {V d : Nat} {full : Bool} {s : LS γ} {r : Nat × LS γ} (h : Onw fuel V d full s r) : Onw fuel V d false s r := ⟨h.ticks, h.fuel, h.ways, h.stay, h.cost, fun h1 => by cases h1⟩
theorem Onw.stop {V d n : Nat} {s s' : LS γ} (hn : n ≠ 0) (h : s.ticks ≤ fuel) (e1 : s'.ticks = s.ticks) (e2 : s'.ways = s.ways) (e3 : s'.said = s.said) : Onw fuel V d false s (n, s') :=
  ⟨by show s.ticks ≤ s'.ticks; omega, by show s'.ticks ≤ fuel; omega, by show s.ways ≤ s'.ways; omega, fun h => absurd h hn, by show s'.said.length + 300000 * (s.ticks + s.ways) ≤ s.said.length + d + 300000 * (s'.ticks + s'.ways); rw [e1, e2, e3]; omega, fun h => by cases h⟩
theorem Onw.halt {V d n : Nat} {s s' : LS γ} (hn : 3 ≤ n) (h : s.ticks ≤ fuel) (e1 : s'.ticks = s.ticks) (e2 : s'.ways = s.ways) (e3 : s'.said = s.said) : Onw fuel V d true s (n, s') :=
  ⟨by show s.ticks ≤ s'.ticks; omega, by show s'.ticks ≤ fuel; omega, by show s.ways ≤ s'.ways; omega, fun h => absurd h (by omega), by show s'.said.length + 300000 * (s.ticks + s.ways) ≤ s.said.length + d + 300000 * (s'.ticks + s'.ways); rw [e1, e2, e3]; omega, fun _ h => absurd h (by show ¬ n < 3; omega)⟩
/-- What is done behind is so from lo nodes on, at places from a0 on of a text of L bytes. -/
def KOk (L fuel V lo d a0 : Nat) (K : Cont γ) : Prop := ∀ a g s, a ≤ L → a0 ≤ a → lo ≤ s.ticks → s.ticks ≤ fuel → s.ways ≤ V → s.said.length + d ≤ 300000 * (s.ticks + s.ways) → Onw fuel V d (decide (a0 < a)) s (K a g s)
theorem KOk.mono {L V lo lo' d a0 a1 : Nat} {K : Cont γ} (h : KOk L fuel V lo d a0 K) (hl : lo ≤ lo') (ha : a0 ≤ a1) : KOk L fuel V lo' d a1 K := fun a g s h0 k h1 h2 h3 h4 => by
  have := h a g s h0 (Nat.le_trans ha k) (Nat.le_trans hl h1) h2 h3 h4
  by_cases e : a1 < a
  · rw [decide_eq_true e]; rw [decide_eq_true (show a0 < a by omega)] at this; exact this
  · rw [decide_eq_false e]; exact this.less
/-- Behind the place a0, at least as if it went on from another place. -/
theorem KOk.full {L V lo d a0 a : Nat} {K : Cont γ} (h : KOk L fuel V lo d a0 K) {g : List Gift} {s : LS γ} (h0 : a ≤ L) (k : a0 < a) (h1 : lo ≤ s.ticks) (h2 : s.ticks ≤ fuel) (h3 : s.ways ≤ V) (h4 : s.said.length + d ≤ 300000 * (s.ticks + s.ways)) : Onw fuel V d true s (K a g s) := by
  have := h a g s h0 (Nat.le_of_lt k) h1 h2 h3 h4
  rwa [decide_eq_true k] at this
theorem KOk.half {L V lo d a0 a : Nat} {K : Cont γ} (h : KOk L fuel V lo d a0 K) {g : List Gift} {s : LS γ} (h0 : a ≤ L) (k : a0 ≤ a) (h1 : lo ≤ s.ticks) (h2 : s.ticks ≤ fuel) (h3 : s.ways ≤ V) (h4 : s.said.length + d ≤ 300000 * (s.ticks + s.ways)) : Onw fuel V d false s (K a g s) := (h a g s h0 k h1 h2 h3 h4).less
theorem thenK_onw {V d e f : Nat} {s : LS γ} {r : Nat × LS γ} {F : LS γ → Nat × LS γ} (h : Onw fuel V d false s r) (hF : r.1 = 0 → Onw fuel V e false r.2 (F r.2)) (hf : d + e ≤ f) : Onw fuel V f false s (thenK r F) := by
  unfold thenK
  by_cases h0 : r.1 = 0
  · rw [if_pos h0]
    have k := hF h0
    exact ⟨Nat.le_trans h.ticks k.ticks, k.fuel, Nat.le_trans h.ways k.ways, k.stay, by have := h.cost; have := k.cost; omega, fun h1 => by cases h1⟩
  · rw [if_neg h0]; exact h.mono (by omega)
/-- One that pays back, and another one. -/
theorem thenK_back {V d e f : Nat} {s : LS γ} {r : Nat × LS γ} {F : LS γ → Nat × LS γ} (h : Onw fuel V d true s r) (hF : r.1 = 0 → Onw fuel V e false r.2 (F r.2)) (hf : d + e ≤ f + 200000) (hd : d ≤ f) : Onw fuel V f false s (thenK r F) := by
  unfold thenK
  by_cases h0 : r.1 = 0
  · rw [if_pos h0]
    have k := hF h0
    exact ⟨Nat.le_trans h.ticks k.ticks, k.fuel, Nat.le_trans h.ways k.ways, k.stay, by have := h.back rfl (by omega); have := k.cost; omega, fun h1 => by cases h1⟩
  · rw [if_neg h0]; exact h.less.mono hd
theorem wayL_onw {L V lo d a0 : Nat} {K : Cont γ} (hK : KOk L fuel V lo d a0 K) (hd : d ≤ 100000) (g : List Gift) : ∀ (l : List Nat) (s : LS γ), (∀ x ∈ l, x ≤ L ∧ a0 < x) → lo ≤ s.ticks → s.ticks ≤ fuel → s.ways ≤ V → s.said.length + d ≤ 300000 * (s.ticks + s.ways) → Onw fuel V d false s (runK fuel (wayL g l) K s)
  | [], s, _, _, h, hw, _ => .refl h hw
  | a :: l, s, hl, h1, h2, hw, h3 => by
    have h4 := hK.full (g := g) (hl a (by simp)).1 (hl a (by simp)).2 h1 h2 hw h3
    rw [wayL, runK_way]
    exact thenK_back h4 (fun h0 => wayL_onw hK hd g l _ (fun x hx => hl x (by simp [hx])) (Nat.le_trans h1 h4.ticks) h4.fuel (h4.stay h0) (by have := h4.back rfl (by omega); omega)) (by omega) (Nat.le_refl _)
/-- Places that go up from one. -/
def Up (L a : Nat) (l : List Nat) : Prop := l = [] ∨ ∃ e r, l = e :: r ∧ a ≤ e ∧ e ≤ L ∧ ∀ x ∈ r, x ≤ L ∧ a < x
theorem Up.all {L a : Nat} {l : List Nat} (h : ∀ x ∈ l, x ≤ L ∧ a < x) : Up L a l := by
  cases l with
  | nil => exact Or.inl rfl
  | cons e r => exact Or.inr ⟨e, r, rfl, Nat.le_of_lt (h e (by simp)).2, (h e (by simp)).1, fun x hx => h x (by simp [hx])⟩
/-- A form that is told from some node on: it costs nothing but what its own node pays for, and pays back. -/
def DOk (L fuel V : Nat) (D : Pat → Nat → List Gift → Tr) : Prop := ∀ (γ : Type) p a g (K : Cont γ) (d : Nat) (s : LS γ), KOk L fuel V (s.ticks + 1) d a K → d ≤ s.ticks → a ≤ L → s.ticks ≤ fuel → s.ways ≤ V → s.said.length ≤ 300000 * (s.ticks + s.ways) → Onw fuel V d true s (runK fuel (D p a g) K s)
theorem cats_onw {L V lo d a0 : Nat} {K : Cont γ} {D : Pat → Nat → List Gift → Tr} (hD : DOk L fuel V D) (hK : KOk L fuel V lo d a0 K) (hd : d ≤ lo) : ∀ l, KOk L fuel V lo d a0 (fun a g s => runK fuel (cats D l a g) K s)
  | [] => fun a g s ha k h1 h2 hw h3 => by
    show Onw fuel V d (decide (a0 < a)) s (runK fuel (one a g) K s)
    rw [runK_one]; exact hK a g s ha k h1 h2 hw h3
  | p :: l => fun a g s ha k h1 h2 hw h3 => by
    show Onw fuel V d (decide (a0 < a)) s (runK fuel (Tr.bind (D p a g) (cats D l)) K s)
    rw [runK_bind]
    have := hD _ p a g _ d s ((cats_onw hD hK hd l).mono (by omega) k) (by omega) ha h2 hw (by omega)
    cases decide (a0 < a)
    · exact this.less
    · exact this
theorem alts_onw {L V d : Nat} {K : Cont γ} {D : Pat → Nat → List Gift → Tr} (hD : DOk L fuel V D) (h5 : fuel ≤ 100000) : ∀ l a g (s : LS γ), KOk L fuel V (s.ticks + 1) d a K → d ≤ s.ticks → a ≤ L → s.ticks ≤ fuel → s.ways ≤ V → s.said.length ≤ 300000 * (s.ticks + s.ways) → Onw fuel V d false s (runK fuel (alts D l a g) K s)
  | [], a, g, s, _, _, _, h, hw, _ => .refl h hw
  | p :: l, a, g, s, hK, h1, ha, h2, hw, h3 => by
    rw [alts, runK_seq]
    have h4 := hD _ p a g K d s hK h1 ha h2 hw h3
    exact thenK_back h4 (fun h0 => alts_onw hD h5 l a g _ (hK.mono (by have := h4.ticks; omega) (Nat.le_refl _)) (Nat.le_trans h1 h4.ticks) ha h4.fuel (h4.stay h0) (by have := h4.back rfl (by omega); omega)) (by omega) (Nat.le_refl _)
/-- Once more, and so on: what is done behind the kid. -/
def starK (fuel : Nat) (D : Nat → List Gift → Tr) (c a : Nat) (K : Cont γ) : Cont γ := fun e h s => if e = a then (0, s) else thenK (K e h s) (runK fuel (star D c e h) K)
theorem runK_star (D : Nat → List Gift → Tr) (c a : Nat) (g : List Gift) (K : Cont γ) (s : LS γ) : runK fuel (star D (c + 1) a g) K s = runK fuel (D a g) (starK fuel D c a K) s := by
  rw [star, runK_bind]
  congr 1
  funext e h s
  unfold starK
  split
  · rfl
  · rw [runK_seq, runK_one]
theorem starK_of {L V lo d a c : Nat} {K : Cont γ} {D : Nat → List Gift → Tr} (h5 : fuel ≤ 100000) (hK : KOk L fuel V lo d a K) (hd : d ≤ lo)
    (ih : ∀ (a : Nat) (g : List Gift) (s : LS γ), KOk L fuel V s.ticks d a K → d ≤ s.ticks → a ≤ L → s.ticks ≤ fuel → s.ways ≤ V → s.said.length ≤ 300000 * (s.ticks + s.ways) → Onw fuel V d true s (runK fuel (star D c a g) K s)) : KOk L fuel V lo d a (starK fuel D c a K) := fun e h u he k k1 k2 k3 k4 => by
  unfold starK
  by_cases hea : e = a
  · rw [if_pos hea, decide_eq_false (by omega)]; exact .refl k2 k3
  · rw [if_neg hea, decide_eq_true (show a < e by omega)]
    have h4 := hK.full (g := h) he (by omega) k1 k2 k3 k4
    by_cases h0 : (K e h u).1 = 0
    · rw [thenK_no h0]
      have hb := h4.back rfl (by omega)
      have k := ih e h (K e h u).2 (hK.mono (by have := h4.ticks; omega) (by omega)) (by have := h4.ticks; omega) he h4.fuel (h4.stay h0) (by omega)
      exact ⟨Nat.le_trans h4.ticks k.ticks, k.fuel, Nat.le_trans h4.ways k.ways, k.stay, by have := k.cost; omega, fun _ h3 => by have := k.back rfl h3; omega⟩
    · rw [thenK_yes h0]; exact h4
theorem star_onw {L V d : Nat} {K : Cont γ} {D : Pat → Nat → List Gift → Tr} {p : Pat} (hD : DOk L fuel V D) (h5 : fuel ≤ 100000) : ∀ (c a : Nat) (g : List Gift) (s : LS γ), KOk L fuel V s.ticks d a K → d ≤ s.ticks → a ≤ L → s.ticks ≤ fuel → s.ways ≤ V → s.said.length ≤ 300000 * (s.ticks + s.ways) → Onw fuel V d true s (runK fuel (star (D p) c a g) K s)
  | 0, a, g, s, _, _, _, h, hw, _ => .halt (by decide) h rfl rfl rfl
  | c + 1, a, g, s, hK, h1, ha, h2, hw, h3 => by
    rw [runK_star]
    refine hD _ p a g _ d s ?_ h1 ha h2 hw h3
    exact starK_of h5 (hK.mono (Nat.le_succ _) (Nat.le_refl _)) (by omega) (star_onw hD h5 c)
theorem starK_onw {L V lo d a : Nat} {K : Cont γ} {D : Pat → Nat → List Gift → Tr} {p : Pat} (hD : DOk L fuel V D) (h5 : fuel ≤ 100000) (hK : KOk L fuel V lo d a K) (hd : d ≤ lo) (c : Nat) : KOk L fuel V lo d a (starK fuel (D p) c a K) := starK_of h5 hK hd (star_onw hD h5 c)
theorem breaks_ge (t : List UInt8) : ∀ (l : List UInt8) (a : Nat), ∀ x ∈ breaks t l a, a ≤ x
  | [], a, x, hx => by rw [breaks] at hx; cases hx
  | c :: l, a, x, hx => by
    rw [breaks] at hx
    split at hx
    · rcases List.mem_cons.1 hx with rfl | hx
      · exact Nat.le_refl _
      · have := breaks_ge t l (a + 1) x hx; omega
    · have := breaks_ge t l (a + 1) x hx; omega
theorem breaks_len (t : List UInt8) : ∀ (l : List UInt8) (a : Nat), (breaks t l a).length ≤ l.length
  | [], a => by rw [breaks]; exact Nat.le_refl _
  | c :: l, a => by
    rw [breaks]
    have := breaks_len t l (a + 1)
    split <;> simp <;> omega
theorem breaks_le (t : List UInt8) : ∀ (l : List UInt8) (a : Nat), ∀ x ∈ breaks t l a, x ≤ a + l.length
  | [], a, x, hx => by rw [breaks] at hx; cases hx
  | c :: l, a, x, hx => by
    rw [breaks] at hx
    split at hx
    · rcases List.mem_cons.1 hx with rfl | hx
      · omega
      · have := breaks_le t l (a + 1) x hx; simp; omega
    · have := breaks_le t l (a + 1) x hx; simp; omega
theorem pairs_bd : ∀ (l : List UInt8) (d a : Nat), (pairEnds l d a).length ≤ l.length ∧ ∀ x ∈ pairEnds l d a, x ≤ a + l.length
  | [], d, a => by rw [pairEnds]; simp
  | c :: l, d, a => by
    have key : ∀ d', ((pairEnds l d' (a + 1)).length ≤ (c :: l).length ∧ ∀ x ∈ pairEnds l d' (a + 1), x ≤ a + (c :: l).length) ∧ (((a + 1) :: pairEnds l d' (a + 1)).length ≤ (c :: l).length ∧ ∀ x ∈ (a + 1) :: pairEnds l d' (a + 1), x ≤ a + (c :: l).length) := fun d' => by
      obtain ⟨h1, h2⟩ := pairs_bd l d' (a + 1)
      refine ⟨⟨by simp; omega, fun x hx => by have := h2 x hx; simp; omega⟩, ⟨by simp; omega, fun x hx => ?_⟩⟩
      rcases List.mem_cons.1 hx with rfl | hx
      · simp
      · have := h2 x hx; simp; omega
    rw [pairEnds.eq_def]
    dsimp only
    split
    · exact (key _).1
    · split
      · split
        · simp
        · exact (key _).2
        · exact (key _).1
      · split
        · exact (key _).2
        · exact (key _).1
theorem mores_bd {L a : Nat} (ha : a ≤ L) : (mores L a).length ≤ L + 1 ∧ ∀ x ∈ mores L a, x ≤ L := by
  unfold mores
  refine ⟨by simp <;> omega, fun x hx => ?_⟩
  rw [List.mem_range'_1] at hx
  omega
theorem breaks_up {L a : Nat} (t l : List UInt8) (h : a + l.length ≤ L) : Up L a (breaks t l a) := by
  cases l with
  | nil => exact Or.inl (by rw [breaks])
  | cons c l =>
    have hall : ∀ x ∈ breaks t l (a + 1), x ≤ L ∧ a < x := fun x hx => by
      have h1 := breaks_ge t l (a + 1) x hx
      have h2 := breaks_le t l (a + 1) x hx
      simp at h; omega
    rw [breaks]
    split
    · exact Or.inr ⟨a, _, rfl, Nat.le_refl _, by omega, hall⟩
    · exact .all hall
theorem pairs_ge : ∀ (l : List UInt8) (d a : Nat), ∀ x ∈ pairEnds l d a, a < x
  | [], d, a, x, hx => by rw [pairEnds] at hx; cases hx
  | c :: l, d, a, x, hx => by
    have key : ∀ d', (x ∈ pairEnds l d' (a + 1) → a < x) ∧ (x ∈ (a + 1) :: pairEnds l d' (a + 1) → a < x) := fun d' => by
      refine ⟨fun hx => by have := pairs_ge l d' (a + 1) x hx; omega, fun hx => ?_⟩
      rcases List.mem_cons.1 hx with rfl | hx
      · omega
      · have := pairs_ge l d' (a + 1) x hx; omega
    rw [pairEnds.eq_def] at hx
    dsimp only at hx
    split at hx
    · exact (key _).1 hx
    · split at hx
      · split at hx
        · cases hx
        · exact (key _).2 hx
        · exact (key _).1 hx
      · split at hx
        · exact (key _).2 hx
        · exact (key _).1 hx
theorem mores_up {L a : Nat} (ha : a ≤ L) : Up L a (mores L a) := by
  unfold mores
  rw [List.range'_succ]
  refine Or.inr ⟨a, _, rfl, Nat.le_refl _, ha, fun x hx => ?_⟩
  rw [List.mem_range'_1] at hx
  omega
theorem leaf_onw {L V d a : Nat} {K : Cont γ} {s : LS γ} {g : List Gift} {l : List Nat} (hK : KOk L fuel V s.ticks d a K) (hl : Up L a l) (hd : d + 1 ≤ s.ticks) (hf : s.ticks ≤ fuel) (h5 : fuel ≤ 100000) (hw : s.ways ≤ V) (h3 : s.said.length + 300000 ≤ 300000 * (s.ticks + s.ways)) : Onw fuel V (d + 100000) false s (runK fuel (wayL g l) K s) := by
  rcases hl with rfl | ⟨e, r, rfl, k1, k2, k3⟩
  · exact .refl hf hw
  · rw [wayL, runK_way]
    have h4 := hK.half (g := g) k2 k1 (Nat.le_refl _) hf hw (by omega)
    exact thenK_onw h4 (fun h0 => wayL_onw (hK.mono h4.ticks (Nat.le_refl _)) (by omega) g r _ k3 (Nat.le_refl _) h4.fuel (h4.stay h0) (by have := h4.cost; omega)) (by omega)
theorem on_ite {d V : Nat} {K : Cont γ} {s : LS γ} {c : Prop} [Decidable c] {x y : Tr} (h : Onw fuel V d false s (runK fuel x K s)) (k : Onw fuel V d false s (runK fuel y K s)) : Onw fuel V d false s (runK fuel (if c then x else y) K s) := by
  by_cases e : c
  · rw [if_pos e]; exact h
  · rw [if_neg e]; exact k
end
theorem node_onw {L fuel V : Nat} {γ : Type} {R : List Rule} {S : ByteArray} (hS : S.size = L) (h5 : fuel ≤ 100000) {D : Pat → Nat → List Gift → Tr} (hD : DOk L fuel V D) (c : Nat) (p : Pat) (a : Nat) (g : List Gift) (K : Cont γ) (d : Nat) (s : LS γ) (hK : KOk L fuel V s.ticks d a K) (hd : d + 1 ≤ s.ticks) (ha : a ≤ L) (hf : s.ticks ≤ fuel) (hw : s.ways ≤ V) (h3 : s.said.length + 300000 ≤ 300000 * (s.ticks + s.ways)) :
    Onw fuel V (d + 100000) false s (runK fuel (node R S D c p a g) K s) := by
  have hl : S.data.toList.length = L := hS
  have hK1 : KOk L fuel V (s.ticks + 1) d a K := hK.mono (Nat.le_succ _) (Nat.le_refl _)
  have h0 : s.said.length ≤ 300000 * (s.ticks + s.ways) := by omega
  have z : ∀ {f : Bool} {r : Nat × LS γ}, Onw fuel V d f s r → Onw fuel V (d + 100000) false s r := fun h => h.less.mono (by omega)
  unfold node
  refine on_ite ?_ ?_
  · exact leaf_onw hK (breaks_up _ _ (by rw [List.length_drop, hl]; omega)) hd hf h5 hw h3
  refine on_ite ?_ ?_
  · rw [hl]; exact leaf_onw hK (mores_up ha) hd hf h5 hw h3
  refine on_ite ?_ ?_
  · refine leaf_onw hK (.all fun x hx => ?_) hd hf h5 hw h3
    have k1 := (pairs_bd (S.data.toList.drop a) 0 a).2 x hx
    have k2 := pairs_ge _ _ _ x hx
    rw [List.length_drop, hl] at k1
    omega
  refine on_ite ?_ ?_
  · exact .refl hf hw
  refine on_ite ?_ ?_
  · rw [runK_way]
    have h4 := hK.half (g := g) ha (Nat.le_refl _) (Nat.le_refl _) hf hw (by omega)
    exact thenK_onw h4 (fun k => (.stop (by decide) h4.fuel rfl rfl rfl : Onw fuel V 0 false (K a g s).2 (runK fuel (stop .cut) K (K a g s).2))) (by omega)
  refine on_ite ?_ ?_
  · exact .stop (by decide) hf rfl rfl rfl
  refine on_ite ?_ ?_
  · exact z (cats_onw hD hK (by omega) p.kids a g s ha (Nat.le_refl _) (Nat.le_refl _) hf hw (by omega))
  refine on_ite ?_ ?_
  · exact z (alts_onw hD h5 _ a g s hK1 (by omega) ha hf hw h0)
  refine on_ite ?_ ?_
  · rw [runK_seq, runK_one]
    have h4 := hK.half (g := g) ha (Nat.le_refl _) (Nat.le_refl _) hf hw (by omega)
    exact thenK_onw h4 (fun k => (star_onw hD h5 c a g _ (hK.mono h4.ticks (Nat.le_refl _)) (by have := h4.ticks; omega) ha h4.fuel (h4.stay k) (by have := h4.cost; omega)).less) (by omega)
  refine on_ite ?_ ?_
  · rw [runK_bind]
    refine z (hD _ _ a g _ d s (fun e h u he k k1 k2 k3 k4 => ?_) (by omega) ha hf hw h0)
    rw [runK_one]; exact hK1 e _ u he k k1 k2 k3 k4
  refine on_ite ?_ ?_
  · rw [runK_bind]
    refine (hD _ _ a g _ (d + 1) s (fun e h u he k k1 k2 k3 k4 => ?_) hd ha hf hw h0).less.mono (by omega)
    rw [runK, runK_one]
    have h4 := hK1 e h { u with said := u.said ++ [(p.name, S.extract a e)] } he k k1 k2 k3 (by simp; omega)
    exact ⟨h4.ticks, h4.fuel, h4.ways, h4.stay, by have := h4.cost; simp at this; omega, fun e1 e2 => by have := h4.back e1 e2; simp at this; omega⟩
  refine on_ite ?_ ?_
  · rw [runK, runK_one]
    have h4 := hK.half (g := g) (s := { s with said := s.said ++ [(p.name, digText a)] }) ha (Nat.le_refl _) (Nat.le_refl _) hf hw (by simp; omega)
    exact ⟨h4.ticks, h4.fuel, h4.ways, h4.stay, by have := h4.cost; simp at this; omega, (fun e => by cases e)⟩
  refine on_ite ?_ ?_
  · cases ruleOf R p.name with
    | some q => exact z (hD _ _ a g K d s hK1 (by omega) ha hf hw h0)
    | none => exact .stop (by decide) hf rfl rfl rfl
  · refine leaf_onw hK ?_ hd hf h5 hw h3
    cases he : endAt S.data.toList p a with
    | none => exact Or.inl rfl
    | some b =>
      have := endAt_le (by rw [hS]; exact ha) he
      rw [hS] at this
      exact Or.inr ⟨b, [], rfl, this.1, this.2, fun x hx => by cases hx⟩
theorem den_onw {L fuel V : Nat} {R : List Rule} {S : ByteArray} (hS : S.size = L) (h5 : fuel ≤ 100000) : ∀ n, DOk L fuel V (den R S n)
  | 0 => fun γ p a g K d s _ _ _ h hw _ => .halt (by decide) h rfl rfl rfl
  | n + 1 => fun γ p a g K d s hK hd ha hf hw h3 => by
    rw [den, runK]
    split
    · next hlt =>
      have h4 := node_onw (R := R) hS h5 (den_onw (R := R) hS h5 n) n p a g K d { s with ticks := s.ticks + 1 } hK (by simp only []; omega) ha hlt hw (by simp only []; omega)
      exact ⟨by have := h4.ticks; simp only [] at this; omega, h4.fuel, h4.ways, h4.stay, by have := h4.cost; simp only [] at this; omega, fun _ _ => by have := h4.cost; simp only [] at this; omega⟩
    · exact .halt (by decide) hf rfl rfl rfl
end Go.Proofs.YtcmdhgamlhnioaaDoor
