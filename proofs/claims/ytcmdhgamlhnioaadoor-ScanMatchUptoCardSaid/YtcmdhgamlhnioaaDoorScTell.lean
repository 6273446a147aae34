/- What the machine tells from call to call. Plain. -/
import Derived.Test.YtcmdhgamlhnioaaDoorScTr
import Derived.Test.YtcmdhgamlhnioaaDoorScWrong
import Derived.Test.YtcmdhgamlhnioaaDoorScInv
/-! What the machine tells from call to call. Plain. -/
namespace Go.Proofs.YtcmdhgamlhnioaaDoor
open Tr
set_option linter.unusedVariables false
section
variable {R : List Rule} {s : ByteArray} {fuel : Nat} {m : MS} {T : Tr}
theorem seq_naught_right : ∀ t : Tr, seq t naught = t
  | .stop .done => rfl
  | .stop .cut => rfl
  | .stop .deep => rfl
  | .stop .name => rfl
  | .tick t => by show tick (seq t naught) = _; rw [seq_naught_right t]
  | .say g t => by show say g (seq t naught) = _; rw [seq_naught_right t]
  | .way a g t => by show way a g (seq t naught) = _; rw [seq_naught_right t]
theorem begin_means (r : Nat) (p : Pat) (a : Nat) : MeansC R s r [⟨[⟨0, p, 0⟩], a, []⟩] (den R s (r + 1) p a []) := by
  refine ⟨fun a g => bind (den R s (r + 1) p a g) one, naught, ⟨r + 1, one, Nat.lt_succ_self r, fun q _ => rfl, rfl⟩, rfl, ?_⟩
  dsimp only
  rw [bind_one, seq_naught_right]
theorem next_goes (hM : MeansC R s (fuel - m.ticks) m.choices T) (hc : m.cut = false) (ht : m.ticks ≤ fuel) : ∃ c o, runs R s fuel c none m = some o ∧ Agree R s fuel (first fuel m.ticks m.said T) o :=
  goes R s (fuel - m.ticks) _ none m T (Nat.le_refl _) (TellsX.of R s hc hM) (by omega)

/-- One way and what is told behind it. -/
def more (x : Way) : List Way × Bool × Int → List Way × Bool × Int
  | (l, c, e) => if e = 0 then (x :: l, c, 0) else ([], false, e)
def tellO (k : Nat) : Obs → List Way × Bool × Int
  | .found a g t _ T => more (a, g) (tell fuel k t T)
  | .over b _ _ => ([], b, 0)
  | .fuel => ([], false, 10)
  | .name => ([], false, 7)
  | .deep => ([], false, 99)
theorem tell_first (k : Nat) : ∀ (T : Tr) (t : Nat) (sd : List Gift), tell fuel (k + 1) t T = tellO (fuel := fuel) k (first fuel t sd T)
  | .stop .done, t, sd => rfl
  | .stop .cut, t, sd => rfl
  | .stop .deep, t, sd => rfl
  | .stop .name, t, sd => rfl
  | .tick T, t, sd => by
    rw [tell, first]
    by_cases h : t = fuel
    · rw [if_pos h, if_pos h]; rfl
    · rw [if_neg h, if_neg h]; exact tell_first k T (t + 1) sd
  | .say g T, t, sd => by rw [tell, first]; exact tell_first k T t _
  | .way a g T, t, sd => rfl

/-- Ways told before, and what is told behind them. -/
def after (d : List Way) : List Way × Bool × Int → List Way × Bool × Int
  | (l, c, e) => if e = 0 then (d ++ l, c, 0) else ([], false, e)
theorem after_more (d : List Way) (x : Way) (r : List Way × Bool × Int) : after d (more x r) = after (d ++ [x]) r := by
  obtain ⟨l, c, e⟩ := r
  unfold more after
  by_cases h : e = 0
  · subst h; simp
  · simp [h]
/-- scan.Ways. -/
def waysOf (R : List Rule) (p : Pat) (s : ByteArray) (a most fuel : Int) : List Way × Bool × Int :=
  if askErr R p s fuel = 0 then (if a < 0 ∨ (s.size : Int) < a ∨ most < 0 ∨ 4096 < most then ([], false, 3) else tell fuel.toNat most.toNat 0 (den R s (fuel.toNat + 1) p a.toNat [])) else ([], false, askErr R p s fuel)
theorem rulesL_all : ∀ (l o : List Rule), rulesL o l = 0 → ∀ r ∈ l, patErr r.2 = 0
  | [], o, h, r, hr => by cases hr
  | x :: l, o, h, r, hr => by
    rw [rulesL] at h
    split at h
    · cases h
    split at h
    · rename_i h2
      rcases List.mem_cons.1 hr with rfl | hr
      · exact h2
      · exact rulesL_all l _ h r hr
    · rename_i h2; exact absurd h h2
theorem patErr_none {p : Pat} (h : patErr p = 0) : errW p = 0 := by
  unfold patErr at h
  split at h
  · exact h
  · cases h
theorem ask_none {R : List Rule} {p : Pat} {s : ByteArray} {fuel : Int} (h : askErr R p s fuel = 0) : errW p = 0 ∧ R.length ≤ 64 ∧ (∀ r ∈ R, errW r.2 = 0) ∧ s.size ≤ 65536 ∧ 0 ≤ fuel ∧ fuel ≤ 100000 := by
  unfold askErr at h
  by_cases h1 : patErr p = 0
  · rw [if_pos h1] at h
    by_cases h2 : rulesErr R = 0
    · rw [if_pos h2] at h
      by_cases h3 : 65536 < s.size
      · rw [if_pos h3] at h; cases h
      · rw [if_neg h3] at h
        by_cases h4 : fuel < 0 ∨ 100000 < fuel
        · rw [if_pos h4] at h; cases h
        · unfold rulesErr at h2
          by_cases h5 : 64 < R.length
          · rw [if_pos h5] at h2; cases h2
          · rw [if_neg h5] at h2
            exact ⟨patErr_none h1, by omega, fun r hr => patErr_none (rulesL_all R [] h2 r hr), by omega, by omega, by omega⟩
    · rw [if_neg h2] at h; exact absurd h h2
  · rw [if_neg h1] at h; exact absurd h h1
end
end Go.Proofs.YtcmdhgamlhnioaaDoor
/-! What the laws' own helpers answer, and what they come to. Plain. -/
namespace Go.Proofs.YtcmdhgamlhnioaaDoor
open Tr
set_option linter.unusedVariables false
section
variable (R : List Rule) (s : ByteArray)
/-- What all ways are told as. -/
def allT (p : Pat) (a : Int) : List Way × Bool × Int := waysOf R p s a 4096 20000
def allOk (r : List Way × Bool × Int) : Bool := decide (r.2.2 = 0) && decide (r.1.length < 4096)
def alikeB (p q : Pat) (a : Int) : Bool := !allOk (allT R s p a) || (!allOk (allT R s q a) || ((allT R s p a).2.1 == (allT R s q a).2.1 && decide ((allT R s p a).1 = (allT R s q a).1)))
theorem allOk_parts {r : List Way × Bool × Int} (h : allOk r = true) : r.2.2 = 0 ∧ r.1.length < 4096 := by
  unfold allOk at h
  rw [Bool.and_eq_true] at h
  exact ⟨of_decide_eq_true h.1, of_decide_eq_true h.2⟩
theorem allOk_some {p : Pat} {a : Int} (h : allOk (allT R s p a) = true) : ∃ n : Nat, a = n ∧ n ≤ s.size ∧ askErr R p s 20000 = 0 ∧ allOf R s p n = some ((allT R s p a).1, (allT R s p a).2.1) := by
  obtain ⟨h1, h2⟩ := allOk_parts h
  unfold allT waysOf at h1 h2 ⊢
  by_cases h0 : askErr R p s 20000 = 0
  · rw [if_pos h0] at h1 h2 ⊢
    by_cases hr : a < 0 ∨ (s.size : Int) < a ∨ (4096 : Int) < 0 ∨ (4096 : Int) < 4096
    · rw [if_pos hr] at h1; cases h1
    · rw [if_neg hr] at h1 h2 ⊢
      obtain ⟨n, rfl⟩ : ∃ n : Nat, a = n := ⟨a.toNat, by omega⟩
      refine ⟨n, rfl, by omega, h0, ?_⟩
      rw [Int.toNat_natCast] at h1 h2 ⊢
      unfold allOf
      change (match tell 20000 4096 0 (den R s 20001 p n []) with | (l, c, e) => if e = 0 ∧ l.length < 4096 then some (l, c) else none) = some ((tell 20000 4096 0 (den R s 20001 p n [])).1, (tell 20000 4096 0 (den R s 20001 p n [])).2.1)
      change (tell 20000 4096 0 (den R s 20001 p n [])).2.2 = 0 at h1
      change (tell 20000 4096 0 (den R s 20001 p n [])).1.length < 4096 at h2
      generalize tell 20000 4096 0 (den R s 20001 p n []) = r at h1 h2 ⊢
      obtain ⟨l, c, e⟩ := r
      dsimp only at h1 h2 ⊢
      rw [if_pos ⟨h1, h2⟩]
  · rw [if_neg h0] at h1; exact absurd h1 h0
/-- What can be told is told whole. -/
theorem all_whole {p : Pat} {n : Nat} (h : allOk (allT R s p n) = true) : whole (den R s 20001 p n []) ∧ wden R s 20001 p n [] = listTr (allT R s p n).1 (allT R s p n).2.1 ∧ n ≤ s.size ∧ askErr R p s 20000 = 0 := by
  obtain ⟨m, e, h1, h2, h3⟩ := allOk_some R s h
  obtain rfl : n = m := by omega
  exact ⟨(allOf_some R s h3).1, (allOf_some R s h3).2, h1, h2⟩
/-- Patterns of which one ends, at this place, where the other one does. -/
theorem alike_at {p q : Pat} {a : Int} (h : ∀ n : Nat, a = n → n ≤ s.size → askErr R p s 20000 = 0 → askErr R q s 20000 = 0 → ∃ m, le (wden R s 20001 p n []) (wden R s m q n [])) : alikeB R s p q a = true := by
  unfold alikeB
  by_cases h1 : allOk (allT R s p a) = true
  · by_cases h2 : allOk (allT R s q a) = true
    · obtain ⟨n, rfl, hn, ha, h3⟩ := allOk_some R s h1
      obtain ⟨n', e, _, ha2, h4⟩ := allOk_some R s h2
      obtain rfl : n = n' := by omega
      obtain ⟨m, hm⟩ := h n rfl hn ha ha2
      obtain ⟨w1, w2⟩ := allOf_some R s h3
      obtain ⟨k1, k2⟩ := allOf_some R s h4
      have h5 : le (wden R s 20001 p n []) (wden R s (max m 20001) q n []) := le_trans _ _ _ hm (wden_le R s (by omega) q n [])
      have h6 := eq_of_le h5 (whole_ways.2 w1)
      have h7 : wden R s (max m 20001) q n [] = wden R s 20001 q n [] := by unfold wden; rw [allOf_deep R s h4 (by omega)]
      rw [h7] at h6
      unfold wden at h6
      rw [k2, w2] at h6
      obtain ⟨e1, e2⟩ := listTr_inj h6
      rw [h1, h2, e1, e2]
      simp
    · simp [h2]
  · simp [h1]
theorem alike_within {p q : Pat} (a : Int) (h : Within R s p q) : alikeB R s p q a = true := alike_at R s fun n _ _ _ _ => h 20001 n []
theorem wayL_list (g : List Gift) : ∀ l : List Nat, wayL g l = listTr (l.map fun a => (a, g)) false
  | [] => rfl
  | a :: l => by rw [wayL, wayL_list g l]; rfl
theorem tell_wayL (fuel : Nat) (g : List Gift) : ∀ (l : List Nat) (m k : Nat), l.length < m → tell fuel m k (wayL g l) = (l.map fun a => (a, g), false, 0)
  | [], m + 1, k, _ => rfl
  | a :: l, m + 1, k, h => by
    rw [wayL, tell, tell_wayL fuel g l m k (by simpa using h)]; rfl
/-- A node by itself whose ends are these: all is told. -/
theorem all_node {p : Pat} {n : Nat} {l : List Nat} (h0 : askErr R p s 20000 = 0) (hn : n ≤ s.size) (h : den R s 20001 p n [] = tick (wayL [] l)) (hl : l.length < 4096) : allT R s p n = (l.map fun a => (a, []), false, 0) ∧ allOk (allT R s p n) = true := by
  have e : allT R s p n = (l.map fun a => (a, []), false, 0) := by
    unfold allT waysOf
    rw [if_pos h0, if_neg (by omega)]
    show tell 20000 4096 0 (den R s 20001 p ((n : Int).toNat) []) = _
    rw [Int.toNat_natCast, h, tell, if_neg (by omega)]
    exact tell_wayL 20000 [] l 4096 _ hl
  refine ⟨e, ?_⟩
  rw [e]
  simp [allOk, hl]
/-- .. whatever is told of it. -/
theorem all_node_of {p : Pat} {n : Nat} {l : List Nat} (h : wden R s 20001 p n [] = wayL [] l) (hk : allOk (allT R s p n) = true) : (allT R s p n).1 = l.map fun a => (a, []) := by
  obtain ⟨_, h2, _⟩ := all_whole R s hk
  rw [h, wayL_list] at h2
  exact (listTr_inj h2).1.symm
end
end Go.Proofs.YtcmdhgamlhnioaaDoor
/-! Which patterns of the laws are alike: places, lengths, texts. Plain. -/
/-! Which patterns of the laws are alike: places, lengths, texts. Plain. -/
namespace Go.Proofs.YtcmdhgamlhnioaaDoor
open Tr
set_option linter.unusedVariables false
section
variable {R : List Rule} {s : ByteArray}
theorem wden_some (n : Nat) {k : Int} (m : Int) (t : ByteArray) (a : Nat) (g : List Gift) (h : k = 1 ∨ k = 2 ∨ k = 3 ∨ k = 4 ∨ k = 5 ∨ k = 6 ∨ k = 8 ∨ k = 9 ∨ k = 10 ∨ k = 11 ∨ k = 12) :
    wden R s (n + 1) (someP k m t) a g = wayL g (endAt s.data.toList (someP k m t) a).toList := by
  have hk : ((someP k m t).kind : Int) = k := rfl
  refine wden_end R s n _ a g ?_ (by rw [hk]; omega) (by rw [hk]; omega) (by rw [hk]; omega) (by rw [hk]; omega)
  rcases h with rfl | rfl | rfl | rfl | rfl | rfl | rfl | rfl | rfl | rfl | rfl <;> rfl
theorem pe_lit (l : List UInt8) (m : Int) (t : ByteArray) (a : Nat) : endAt l (someP 1 m t) a = if t.data.toList.isPrefixOf (l.drop a) then some (a + t.data.toList.length) else none := by simp [endAt, someP, Pat.kind, Pat.bytes, Pat.text]
theorem pe_len (l : List UInt8) (m : Int) (t : ByteArray) (a : Nat) : endAt l (someP 2 m t) a = if a + m.toNat ≤ l.length then some (a + m.toNat) else none := by (simp [endAt, someP, Pat.kind, Pat.num, Pat.n]); congr
theorem pe_tab (l : List UInt8) (m : Int) (t : ByteArray) (a : Nat) : endAt l (someP 8 m t) a = if a ≤ m.toNat ∧ m.toNat ≤ l.length then some m.toNat else none := by simp [endAt, someP, Pat.kind, Pat.num, Pat.n]
theorem pe_rtab (l : List UInt8) (m : Int) (t : ByteArray) (a : Nat) : endAt l (someP 9 m t) a = if a + m.toNat ≤ l.length then some (l.length - m.toNat) else none := by (simp [endAt, someP, Pat.kind, Pat.num, Pat.n]); congr
theorem pe_pos (l : List UInt8) (m : Int) (t : ByteArray) (a : Nat) : endAt l (someP 10 m t) a = if a = m.toNat then some a else none := by (simp [endAt, someP, Pat.kind, Pat.num, Pat.n]); congr
theorem pe_rpos (l : List UInt8) (m : Int) (t : ByteArray) (a : Nat) : endAt l (someP 11 m t) a = if a + m.toNat = l.length then some a else none := by (simp [endAt, someP, Pat.kind, Pat.num, Pat.n]); congr
theorem pe_rem (l : List UInt8) (m : Int) (t : ByteArray) (a : Nat) : endAt l (someP 12 m t) a = some l.length := by simp [endAt, someP, Pat.kind]
theorem sizeL_eq (s : ByteArray) : s.data.toList.length = s.size := rfl
theorem le_of_eq' {t u : Tr} (h : t = u) : le t u := h ▸ le_refl t
/-- Of two simple nodes: the same ends here. -/
theorem alike_ends {k k' m m' : Int} {t t' : ByteArray} {a : Int} (hk : k = 1 ∨ k = 2 ∨ k = 3 ∨ k = 4 ∨ k = 5 ∨ k = 6 ∨ k = 8 ∨ k = 9 ∨ k = 10 ∨ k = 11 ∨ k = 12) (hk' : k' = 1 ∨ k' = 2 ∨ k' = 3 ∨ k' = 4 ∨ k' = 5 ∨ k' = 6 ∨ k' = 8 ∨ k' = 9 ∨ k' = 10 ∨ k' = 11 ∨ k' = 12)
    (h : ∀ n : Nat, n ≤ s.size → endAt s.data.toList (someP k m t) n = endAt s.data.toList (someP k' m' t') n) : alikeB R s (someP k m t) (someP k' m' t') a = true :=
  alike_at R s fun n _ hn _ _ => ⟨20001, by rw [wden_some 20000 m t n [] hk, wden_some 20000 m' t' n [] hk', h n hn]; exact le_refl _⟩
theorem tabs_rtab (n : Int) (h0 : 0 ≤ n) (h1 : n ≤ s.size) (t t' : ByteArray) (a : Int) : alikeB R s (someP 9 n t) (someP 8 ((s.size : Int) - n) t') a = true := by
  refine alike_ends (by omega) (by omega) fun k hk => ?_
  rw [pe_rtab, pe_tab, sizeL_eq]
  obtain ⟨n, rfl⟩ : ∃ m : Nat, n = m := ⟨n.toNat, by omega⟩
  rw [Int.toNat_natCast, show ((s.size : Int) - n).toNat = s.size - n by omega]
  by_cases h : k + n ≤ s.size
  · rw [if_pos h, if_pos (by omega)]
  · rw [if_neg h, if_neg (by omega)]
theorem tabs_rpos (n : Int) (h0 : 0 ≤ n) (h1 : n ≤ s.size) (t t' : ByteArray) (a : Int) : alikeB R s (someP 11 n t) (someP 10 ((s.size : Int) - n) t') a = true := by
  refine alike_ends (by omega) (by omega) fun k hk => ?_
  rw [pe_rpos, pe_pos, sizeL_eq]
  obtain ⟨n, rfl⟩ : ∃ m : Nat, n = m := ⟨n.toNat, by omega⟩
  rw [Int.toNat_natCast, show ((s.size : Int) - n).toNat = s.size - n by omega]
  by_cases h : k + n = s.size
  · rw [if_pos h, if_pos (by omega)]
  · rw [if_neg h, if_neg (by omega)]
theorem tabs_rem (t t' : ByteArray) (a : Int) : alikeB R s (someP 12 0 t) (someP 9 0 t') a = true := by
  refine alike_ends (by omega) (by omega) fun k hk => ?_
  rw [pe_rem, pe_rtab, sizeL_eq, if_pos (by simpa using hk)]
  rfl
/-! Lengths and texts. -/
theorem cat_ends {p q : Pat} {n : Nat} {a : Nat} {g : List Gift} {o : Option Nat} {f : Nat → Option Nat} (h1 : wden R s n p a g = wayL g o.toList) (h2 : ∀ e, wden R s n q e g = wayL g (f e).toList) : wden R s (n + 1) (catP [p, q]) a g = wayL g (o.bind f).toList := by
  rw [wden_cat, cats_two, h1]
  cases o with
  | none => rfl
  | some e =>
    show Tr.bind (wayL g [e]) _ = _
    rw [wayL, Tr.bind, h2, show Tr.bind (wayL g []) (wden R s n q) = naught from rfl, seq_naught_right]
    rfl
theorem lens_len (n m : Int) (hn : 0 ≤ n) (hm : 0 ≤ m) (t t' u : ByteArray) (a : Int) : alikeB R s (catP [someP 2 n t, someP 2 m t']) (someP 2 (n + m) u) a = true := by
  refine alike_at R s fun k _ hk _ _ => ⟨20001, ?_⟩
  rw [cat_ends (n := 20000) (wden_some 19999 n t k [] (by omega)) (fun e => wden_some 19999 m t' e [] (by omega)), wden_some 20000 (n + m) u k [] (by omega)]
  refine le_of_eq' (congrArg (fun o => wayL [] (Option.toList o)) ?_)
  rw [pe_len, pe_len]
  by_cases h : k + n.toNat ≤ s.data.toList.length
  · rw [if_pos h]
    show endAt _ _ _ = _
    rw [pe_len]
    by_cases h2 : k + n.toNat + m.toNat ≤ s.data.toList.length
    · rw [if_pos h2, if_pos (by omega)]; congr 1; omega
    · rw [if_neg h2, if_neg (by omega)]
  · rw [if_neg h, if_neg (by omega)]; rfl
theorem prefix_append (t u l : List UInt8) : (t ++ u).isPrefixOf l = (t.isPrefixOf l && u.isPrefixOf (l.drop t.length)) := by
  induction t generalizing l with
  | nil => simp
  | cons x t ih =>
    cases l with
    | nil => simp [List.isPrefixOf]
    | cons y l =>
      simp only [List.cons_append, List.isPrefixOf, List.length_cons, List.drop_succ_cons]
      rw [ih, Bool.and_assoc]
theorem lens_lit (t u : ByteArray) (a : Int) : alikeB R s (catP [someP 1 0 t, someP 1 0 u]) (someP 1 0 (t ++ u)) a = true := by
  refine alike_at R s fun k _ hk _ _ => ⟨20001, ?_⟩
  rw [cat_ends (n := 20000) (wden_some 19999 0 t k [] (by omega)) (fun e => wden_some 19999 0 u e [] (by omega)), wden_some 20000 0 (t ++ u) k [] (by omega)]
  refine le_of_eq' (congrArg (fun o => wayL [] (Option.toList o)) ?_)
  rw [pe_lit, pe_lit, data_append, prefix_append, List.drop_drop]
  cases h : t.data.toList.isPrefixOf (s.data.toList.drop k) with
  | false => simp
  | true =>
    rw [if_pos rfl]
    show endAt _ _ _ = _
    rw [pe_lit, Bool.true_and]
    cases h2 : u.data.toList.isPrefixOf (s.data.toList.drop (k + t.data.toList.length)) with
    | false => simp
    | true => simp [Nat.add_assoc]
end
end Go.Proofs.YtcmdhgamlhnioaaDoor
/-! Which patterns of the laws are alike: names, any number of times, fences, gifts. Plain. -/
namespace Go.Proofs.YtcmdhgamlhnioaaDoor
open Tr
set_option linter.unusedVariables false

/-- All ways end at such places. -/
def Tr.allw (P : Nat → Prop) : Tr → Prop
  | stop _ => True
  | tick t => allw P t
  | say _ t => allw P t
  | way a _ t => P a ∧ allw P t
namespace Tr
theorem allw_mono {P Q : Nat → Prop} (h : ∀ a, P a → Q a) : ∀ {t : Tr}, allw P t → allw Q t
  | stop _, _ => trivial
  | tick t, k => allw_mono h (t := t) k
  | say _ t, k => allw_mono h (t := t) k
  | way a _ t, k => ⟨h a k.1, allw_mono h k.2⟩
theorem allw_seq {P : Nat → Prop} {u : Tr} (h : allw P u) : ∀ {t : Tr}, allw P t → allw P (seq t u)
  | stop m, _ => by
    by_cases e : m = .done
    · subst e; rw [seq_done]; exact h
    · rw [seq_stop e]; trivial
  | tick t, k => allw_seq h (t := t) k
  | say _ t, k => allw_seq h (t := t) k
  | way a _ t, k => ⟨k.1, allw_seq h k.2⟩
theorem allw_bind {P Q : Nat → Prop} {f : Nat → List Gift → Tr} (h : ∀ a g, P a → allw Q (f a g)) : ∀ {t : Tr}, allw P t → allw Q (bind t f)
  | stop m, _ => trivial
  | tick t, k => allw_bind h (t := t) k
  | say _ t, k => allw_bind h (t := t) k
  | way a g t, k => allw_seq (allw_bind h k.2) (h a g k.1)
theorem allw_ways {P : Nat → Prop} : ∀ {t : Tr}, allw P t → allw P (ways t)
  | stop m, _ => trivial
  | tick t, k => allw_ways (t := t) k
  | say _ t, k => allw_ways (t := t) k
  | way a g t, k => ⟨k.1, allw_ways k.2⟩
theorem allw_le {P : Nat → Prop} : ∀ {t u : Tr}, le t u → allw P u → allw P t
  | stop m, u, _, _ => trivial
  | tick t, u, ⟨v, e, h⟩, k => by subst e; exact allw_le (t := t) h k
  | say _ t, u, ⟨v, e, h⟩, k => by subst e; exact allw_le (t := t) h k
  | way a g t, u, ⟨v, e, h⟩, k => by subst e; exact ⟨k.1, allw_le (t := t) h k.2⟩
theorem bind_allw {P : Nat → Prop} {f h : Nat → List Gift → Tr} (e : ∀ a g, P a → f a g = h a g) : ∀ {t : Tr}, allw P t → bind t f = bind t h
  | stop m, _ => rfl
  | tick t, k => by rw [bind, bind, bind_allw e (t := t) k]
  | say _ t, k => by rw [bind, bind, bind_allw e (t := t) k]
  | way a g t, k => by rw [bind, bind, bind_allw e k.2, e a g k.1]
theorem allw_list {P : Nat → Prop} : ∀ {l : List Way} {c : Bool}, (∀ x ∈ l, P x.1) → allw P (listTr l c)
  | [], c, _ => trivial
  | x :: l, c, h => ⟨h x (by simp), allw_list fun y hy => h y (by simp [hy])⟩
theorem list_allw {P : Nat → Prop} : ∀ {l : List Way} {c : Bool}, allw P (listTr l c) → ∀ x ∈ l, P x.1
  | [], c, _, x, hx => by cases hx
  | y :: l, c, h, x, hx => by
    rcases List.mem_cons.1 hx with rfl | hx
    · exact h.1
    · exact list_allw h.2 x hx
end Tr
section
variable {R : List Rule} {s : ByteArray}
/-! A name stands for its pattern. -/
theorem rulesL_far : ∀ (l pre : List Rule), rulesL pre l = 0 → ∀ o ∈ pre, ∀ x ∈ l, sameText o.1 x.1 = false
  | [], pre, _, o, _, x, hx => by cases hx
  | r :: l, pre, h, o, ho, x, hx => by
    rw [rulesL] at h
    split at h
    · cases h
    rename_i h1
    split at h
    · rcases List.mem_cons.1 hx with rfl | hx
      · cases e : sameText o.1 x.1 with
        | false => rfl
        | true => exact absurd (Or.inr (List.any_eq_true.2 ⟨o, ho, e⟩)) h1
      · exact rulesL_far l _ h o (by simp [ho]) x hx
    · rename_i h2; exact absurd h h2
theorem rulesL_find : ∀ (l pre : List Rule), rulesL pre l = 0 → ∀ x ∈ l, l.find? (fun r => sameText r.1 x.1) = some x
  | [], pre, _, x, hx => by cases hx
  | r :: l, pre, h, x, hx => by
    have h0 := h
    rw [rulesL] at h
    split at h
    · cases h
    split at h
    · by_cases e : x = r
      · subst e
        rw [List.find?_cons, sameText_iff.2 rfl]
      · have hx : x ∈ l := by
          rcases List.mem_cons.1 hx with k | k
          · exact absurd k e
          · exact k
        rw [List.find?_cons, rulesL_far l _ h r (by simp) x hx]
        exact rulesL_find l _ h x hx
    · rename_i h2; exact absurd h h2
def callP (m : ByteArray) : Pat := .mk 24 ByteArray.empty 0 m []
theorem ask_rules {p : Pat} {fuel : Int} (h : askErr R p s fuel = 0) : rulesL [] R = 0 := by
  unfold askErr at h
  by_cases h1 : patErr p = 0
  · rw [if_pos h1] at h
    by_cases h2 : rulesErr R = 0
    · unfold rulesErr at h2
      by_cases h5 : 64 < R.length
      · rw [if_pos h5] at h2; cases h2
      · rw [if_neg h5] at h2; exact h2
    · rw [if_neg h2] at h; exact absurd h h2
  · rw [if_neg h1] at h; exact absurd h h1
theorem wden_call (n : Nat) (m : ByteArray) (a : Nat) (g : List Gift) {q : Pat} (h : ruleOf R m = some q) : wden R s (n + 1) (callP m) a g = wden R s n q a g := by
  show Tr.ways (node R s (den R s n) n (callP m) a g) = _
  have e : node R s (den R s n) n (callP m) a g = (match ruleOf R m with | some q => den R s n q a g | none => stop .name) := rfl
  rw [e, h]; rfl
theorem call_alike {r : Rule} (hr : r ∈ R) (a : Int) : alikeB R s (callP r.1) r.2 a = true := by
  refine alike_at R s fun k _ hk h0 _ => ⟨20001, ?_⟩
  rw [wden_call 20000 r.1 k [] (q := r.2) (by unfold ruleOf; rw [rulesL_find R [] (ask_rules h0) r hr]; rfl)]
  exact wden_le R s (by omega) _ _ _

/-! Any number of times. -/
theorem arbno_alike {p : Pat} {a : Int} (h : ∀ n : Nat, a = n → n ≤ s.size → allOk (allT R s p n) = true ∧ ∀ x ∈ (allT R s p n).1, x.1 ≠ n) :
    alikeB R s (arbnoP p) (altP [someP 1 0 ByteArray.empty, catP [p, arbnoP p]]) a = true := by
  refine alike_at R s fun k e hk _ _ => ⟨20003, ?_⟩
  obtain ⟨h1, h2⟩ := h k e hk
  obtain ⟨_, h3, _⟩ := all_whole R s h1
  have h4 : allw (fun b => b ≠ k) (wden R s 20000 p k []) := allw_le (wden_le R s (show 20000 ≤ 20001 by omega) p k []) (by rw [h3]; exact allw_list h2)
  rw [wden_arbno, wden_alt, alts_two, wden_empty, wden_cat, cats_two, show (20000 : Nat) = 19999 + 1 from rfl, star]
  refine le_seq ?_ (le_refl _)
  rw [bind_allw (P := fun b => b ≠ k) (h := fun e h => seq (one e h) (star (wden R s 20000 p) 19999 e h)) (fun b g hb => by rw [if_neg hb]) h4]
  refine le_bind (fun e h => ?_) (wden_le R s (by omega) p k [])
  rw [show (20001 : Nat) = 20000 + 1 from rfl, wden_arbno]
  refine le_seq ?_ (le_refl _)
  exact star_le (fun a g => wden_le R s (by omega) p a g) (by omega) e h

/-! Behind a fence; an abort. -/
def fenceP : Pat := someP 16 0 ByteArray.empty
def abortP : Pat := someP 17 0 ByteArray.empty
theorem wden_fence (n : Nat) (a : Nat) (g : List Gift) : wden R s (n + 1) fenceP a g = way a g (stop .cut) := rfl
theorem wden_abort (n : Nat) (a : Nat) (g : List Gift) : wden R s (n + 1) abortP a g = stop .cut := rfl
theorem fence_all {p : Pat} {n : Nat} (h1 : allOk (allT R s p n) = true) (h2 : allOk (allT R s (catP [p, fenceP]) n) = true) :
    ((allT R s p n).1 = [] → (allT R s (catP [p, fenceP]) n).1 = [] ∧ (allT R s (catP [p, fenceP]) n).2.1 = (allT R s p n).2.1) ∧
    (∀ x l, (allT R s p n).1 = x :: l → (allT R s (catP [p, fenceP]) n).1 = [x] ∧ (allT R s (catP [p, fenceP]) n).2.1 = true) := by
  obtain ⟨_, e1, _⟩ := all_whole R s h1
  obtain ⟨w2, e2, _⟩ := all_whole R s h2
  have w2 := whole_ways.2 w2
  change whole (wden R s 20001 (catP [p, fenceP]) n []) at w2
  rw [wden_cat, cats_two] at e2 w2
  have hl : le (wden R s 20000 p n []) (wden R s 20001 p n []) := wden_le R s (by omega) p n []
  have key : ∀ e h, wden R s 20000 fenceP e h = way e h (stop .cut) := fun e h => rfl
  rw [bind_congr key] at e2 w2
  generalize allT R s p n = A at e1 ⊢
  generalize allT R s (catP [p, fenceP]) n = C at e2 ⊢
  rw [e1] at hl
  obtain ⟨T, hT⟩ : ∃ T, wden R s 20000 p n [] = T := ⟨_, rfl⟩
  rw [hT] at hl e2 w2
  obtain ⟨l, c, _⟩ := A
  obtain ⟨m, off, _⟩ := C
  dsimp only at hl e2 ⊢
  cases T with
  | stop mk =>
    rcases hl with rfl | hl
    · exact absurd rfl w2
    · rw [Tr.bind, ← hl] at e2
      obtain ⟨rfl, rfl⟩ := listTr_inj e2
      refine ⟨(fun e => ⟨e, rfl⟩), fun x l' e => ?_⟩
      rw [e] at hl; simp [listTr] at hl
  | way b g T =>
    obtain ⟨v, hv, hl⟩ := hl
    rw [Tr.bind, show seq (way b g (stop .cut)) (Tr.bind T fun e h => way e h (stop .cut)) = listTr [(b, g)] true from by rw [seq, seq_stop (by simp)]; rfl] at e2
    obtain ⟨rfl, rfl⟩ := listTr_inj e2
    cases l with
    | nil => simp [listTr] at hv
    | cons x l =>
      simp only [listTr, way.injEq] at hv
      refine ⟨(fun e => by cases e), fun y l' e => ?_⟩
      cases e
      exact ⟨by rw [show (b, g) = x from Prod.ext hv.1.symm hv.2.1.symm], rfl⟩
  | tick T => obtain ⟨v, hv, _⟩ := hl; cases l <;> simp [listTr] at hv
  | say g T => obtain ⟨v, hv, _⟩ := hl; cases l <;> simp [listTr] at hv
theorem cut_list : ∀ {l : List Way} {c : Bool} {T : Tr}, le T (listTr l c) → whole (seq T (stop .cut)) → seq T (stop .cut) = listTr l true
  | [], c, T, h, w => by
    cases T with
    | stop m =>
      rcases h with rfl | h
      · exact absurd rfl w
      · cases c with
        | true => obtain rfl : Mark.cut = m := by simpa [listTr] using h
                  rfl
        | false => obtain rfl : Mark.done = m := by simpa [listTr] using h
                   rfl
    | tick T => obtain ⟨v, hv, _⟩ := h; simp [listTr] at hv
    | say g T => obtain ⟨v, hv, _⟩ := h; simp [listTr] at hv
    | way a g T => obtain ⟨v, hv, _⟩ := h; simp [listTr] at hv
  | x :: l, c, T, h, w => by
    cases T with
    | stop m =>
      rcases h with rfl | h
      · exact absurd rfl w
      · simp [listTr] at h
    | tick T => obtain ⟨v, hv, _⟩ := h; simp [listTr] at hv
    | say g T => obtain ⟨v, hv, _⟩ := h; simp [listTr] at hv
    | way a g T =>
      obtain ⟨v, hv, h⟩ := h
      simp only [listTr, way.injEq] at hv
      obtain ⟨e1, e2, e3⟩ := hv
      subst e1 e2 e3
      rw [seq, cut_list h w]; rfl
theorem abort_all {p q : Pat} {n : Nat} (h1 : allOk (allT R s p n) = true) (h2 : allOk (allT R s (altP [p, catP [abortP, q], q]) n) = true) :
    (allT R s (altP [p, catP [abortP, q], q]) n).1 = (allT R s p n).1 ∧ (allT R s (altP [p, catP [abortP, q], q]) n).2.1 = true := by
  obtain ⟨_, e1, _⟩ := all_whole R s h1
  obtain ⟨w2, e2, _⟩ := all_whole R s h2
  have w2 := whole_ways.2 w2
  change whole (wden R s 20001 (altP [p, catP [abortP, q], q]) n []) at w2
  have key : wden R s 20001 (altP [p, catP [abortP, q], q]) n [] = seq (wden R s 20000 p n []) (stop .cut) := by
    rw [wden_alt, alts, alts, wden_cat, cats_two, wden_abort 19998, Tr.bind, seq_stop (by simp)]
  rw [key] at e2 w2
  have hl : le (wden R s 20000 p n []) (wden R s 20001 p n []) := wden_le R s (by omega) p n []
  rw [e1] at hl
  rw [cut_list hl w2] at e2
  obtain ⟨e3, e4⟩ := listTr_inj e2
  exact ⟨e3.symm, e4.symm⟩

/-! Gifts. -/
def condP (m : ByteArray) (p : Pat) : Pat := .mk 21 ByteArray.empty 0 m [p]
def immP (m : ByteArray) (p : Pat) : Pat := .mk 22 ByteArray.empty 0 m [p]
theorem wden_cond (n : Nat) (m : ByteArray) (p : Pat) (a : Nat) (g : List Gift) : wden R s (n + 1) (condP m p) a g = Tr.bind (wden R s n p a g) (fun e h => one e (h ++ [(m, s.extract a e)])) := by
  show Tr.ways (node R s (den R s n) n (condP m p) a g) = _
  have e : node R s (den R s n) n (condP m p) a g = Tr.bind (den R s n p a g) (fun e h => one e (h ++ [(m, s.extract a e)])) := rfl
  rw [e, ways_bind]; rfl
theorem wden_imm (n : Nat) (m : ByteArray) (p : Pat) (a : Nat) (g : List Gift) : wden R s (n + 1) (immP m p) a g = wden R s n p a g := by
  show Tr.ways (node R s (den R s n) n (immP m p) a g) = _
  have e : node R s (den R s n) n (immP m p) a g = Tr.bind (den R s n p a g) (fun e h => say (m, s.extract a e) (one e h)) := rfl
  rw [e, ways_bind]
  show Tr.bind (wden R s n p a g) (fun e h => one e h) = _
  exact bind_one _
theorem whole_bind_one (f : Nat → List Gift → List Gift) : ∀ {t : Tr}, whole (Tr.bind t fun e h => one e (f e h)) → whole t
  | stop m, h => h
  | tick t, h => whole_bind_one f (t := t) h
  | say g t, h => whole_bind_one f (t := t) h
  | way a g t, h => by
    rw [Tr.bind, one, seq, seq_done] at h
    exact whole_bind_one f (t := t) h
theorem bind_one_list (f : Nat → List Gift → List Gift) : ∀ (l : List Way) (c : Bool), Tr.bind (listTr l c) (fun e h => one e (f e h)) = listTr (l.map fun x => (x.1, f x.1 x.2)) c
  | [], c => rfl
  | x :: l, c => by
    rw [listTr, Tr.bind, one, seq, seq_done, bind_one_list f l c]; rfl
theorem cond_all {p : Pat} {m : ByteArray} {n : Nat} (h1 : allOk (allT R s p n) = true) (h2 : allOk (allT R s (condP m p) n) = true) :
    (allT R s (condP m p) n).1 = (allT R s p n).1.map (fun x => (x.1, x.2 ++ [(m, s.extract n x.1)])) ∧ (allT R s (condP m p) n).2.1 = (allT R s p n).2.1 := by
  obtain ⟨_, e1, _⟩ := all_whole R s h1
  obtain ⟨w2, e2, _⟩ := all_whole R s h2
  have w2 := whole_ways.2 w2
  change whole (wden R s 20001 (condP m p) n []) at w2
  rw [wden_cond] at e2 w2
  have w3 := whole_bind_one _ w2
  have e3 := eq_of_le (wden_le R s (show 20000 ≤ 20001 by omega) p n []) w3
  rw [← e3, e1, bind_one_list] at e2
  obtain ⟨e4, e5⟩ := listTr_inj e2
  exact ⟨e4.symm, e5.symm⟩
theorem imm_all {p : Pat} {m : ByteArray} {n : Nat} (h1 : allOk (allT R s p n) = true) (h2 : allOk (allT R s (immP m p) n) = true) : (allT R s (immP m p) n).1 = (allT R s p n).1 ∧ (allT R s (immP m p) n).2.1 = (allT R s p n).2.1 := by
  obtain ⟨_, e1, _⟩ := all_whole R s h1
  obtain ⟨w2, e2, _⟩ := all_whole R s h2
  have w2 := whole_ways.2 w2
  change whole (wden R s 20001 (immP m p) n []) at w2
  rw [wden_imm] at e2 w2
  rw [← eq_of_le (wden_le R s (show 20000 ≤ 20001 by omega) p n []) w2, e1] at e2
  obtain ⟨e4, e5⟩ := listTr_inj e2
  exact ⟨e4.symm, e5.symm⟩
end
end Go.Proofs.YtcmdhgamlhnioaaDoor
/-! Where ways may end; spans and breaks; anything; brackets in pairs. Plain. -/
namespace Go.Proofs.YtcmdhgamlhnioaaDoor
open Tr
set_option linter.unusedVariables false
section
variable {R : List Rule} {s : ByteArray}
theorem allw_wayL {P : Nat → Prop} {g : List Gift} : ∀ {l : List Nat}, (∀ x ∈ l, P x) → allw P (wayL g l)
  | [], _ => trivial
  | a :: l, h => ⟨h a (by simp), allw_wayL fun x hx => h x (by simp [hx])⟩
theorem breaks_mem {t : List UInt8} : ∀ {l : List UInt8} {a x : Nat}, x ∈ breaks t l a → a ≤ x ∧ x < a + l.length
  | [], a, x, h => by simp [breaks] at h
  | c :: l, a, x, h => by
    rw [breaks] at h
    have back : x ∈ breaks t l (a + 1) → a ≤ x ∧ x < a + (c :: l).length := fun h => by
      have := breaks_mem h
      simp; omega
    split at h
    · rcases List.mem_cons.1 h with rfl | h
      · simp
      · exact back h
    · exact back h
theorem pairEnds_mem : ∀ {l : List UInt8} {d a x : Nat}, x ∈ pairEnds l d a → a < x ∧ x ≤ a + l.length
  | [], d, a, x, h => by simp [pairEnds] at h
  | c :: l, d, a, x, h => by
    have back : ∀ d', x ∈ pairEnds l d' (a + 1) → a < x ∧ x ≤ a + (c :: l).length := fun d' h => by
      have := pairEnds_mem h
      simp; omega
    rw [pairEnds.eq_def] at h
    dsimp only at h
    split at h
    · exact back _ h
    split at h
    · match d, h with
      | 0, h => simp at h
      | 1, h =>
        rcases List.mem_cons.1 h with rfl | h
        · simp
        · exact back _ h
      | d + 2, h => exact back _ h
    split at h
    · rcases List.mem_cons.1 h with rfl | h
      · simp
      · exact back _ h
    · exact back _ h
theorem takeWhile_le {α : Type} (p : α → Bool) (l : List α) : (l.takeWhile p).length ≤ l.length := by
  have := List.takeWhile_sublist p (l := l)
  exact this.length_le
theorem endAt_bd {l : List UInt8} {p : Pat} {a e : Nat} (ha : a ≤ l.length) (h : endAt l p a = some e) : a ≤ e ∧ e ≤ l.length := by
  have one : ∀ {b : Bool}, (match l[a]? with | some c => if p.bytes.contains c = b then some (a + 1) else none | none => none) = some e → a ≤ e ∧ e ≤ l.length := fun {b} h => by
    cases hc : l[a]? with
    | none => rw [hc] at h; cases h
    | some c =>
      have := (List.getElem?_eq_some_iff.1 hc).1
      rw [hc] at h
      dsimp only at h
      by_cases e2 : p.bytes.contains c = b
      · rw [if_pos e2] at h; cases h; omega
      · rw [if_neg e2] at h; cases h
  have pick : ∀ {c : Prop} [Decidable c] {x : Nat}, (if c then some x else none) = some e → c ∧ x = e := fun {c} _ {x} h => by
    by_cases hc : c
    · rw [if_pos hc] at h; cases h; exact ⟨hc, rfl⟩
    · rw [if_neg hc] at h; cases h
  unfold endAt at h
  by_cases e1 : p.kind = 1
  · rw [if_pos e1] at h
    obtain ⟨h1, h2⟩ := pick h
    have := List.IsPrefix.length_le (List.isPrefixOf_iff_prefix.1 h1)
    rw [List.length_drop] at this
    omega
  rw [if_neg e1] at h
  by_cases e2 : p.kind = 2
  · rw [if_pos e2] at h
    obtain ⟨h1, h2⟩ := pick h
    omega
  rw [if_neg e2] at h
  by_cases e3 : p.kind = 3
  · rw [if_pos e3] at h
    exact one (b := true) h
  rw [if_neg e3] at h
  by_cases e4 : p.kind = 4
  · rw [if_pos e4] at h
    refine one (b := false) ?_
    rw [← h]
    cases l[a]? with
    | none => rfl
    | some c =>
      dsimp only
      by_cases hh : p.bytes.contains c = true
      · rw [if_pos hh, if_neg (by rw [hh]; simp)]
      · rw [if_neg hh, if_pos (by simpa using hh)]
  rw [if_neg e4] at h
  by_cases e5 : p.kind = 5
  · rw [if_pos e5] at h
    obtain ⟨h1, h2⟩ := pick h
    have := takeWhile_le p.bytes.contains (l.drop a)
    rw [List.length_drop] at this
    omega
  rw [if_neg e5] at h
  by_cases e6 : p.kind = 6
  · rw [if_pos e6] at h
    obtain ⟨h1, h2⟩ := pick h
    omega
  rw [if_neg e6] at h
  by_cases e8 : p.kind = 8
  · rw [if_pos e8] at h
    obtain ⟨h1, h2⟩ := pick h
    omega
  rw [if_neg e8] at h
  by_cases e9 : p.kind = 9
  · rw [if_pos e9] at h
    obtain ⟨h1, h2⟩ := pick h
    omega
  rw [if_neg e9] at h
  by_cases e10 : p.kind = 10
  · rw [if_pos e10] at h
    obtain ⟨h1, h2⟩ := pick h
    omega
  rw [if_neg e10] at h
  by_cases e11 : p.kind = 11
  · rw [if_pos e11] at h
    obtain ⟨h1, h2⟩ := pick h
    omega
  rw [if_neg e11] at h
  by_cases e12 : p.kind = 12
  · rw [if_pos e12] at h
    cases h; omega
  rw [if_neg e12] at h
  cases h
theorem cats_places {D : Pat → Nat → List Gift → Tr} {L : Nat} (h : ∀ p a g, a ≤ L → allw (fun e => a ≤ e ∧ e ≤ L) (D p a g)) : ∀ l a g, a ≤ L → allw (fun e => a ≤ e ∧ e ≤ L) (cats D l a g)
  | [], a, g, ha => ⟨⟨Nat.le_refl _, ha⟩, trivial⟩
  | p :: l, a, g, ha => by
    rw [cats]
    exact allw_bind (fun b g hb => allw_mono (fun e he => ⟨by omega, he.2⟩) (cats_places h l b g hb.2)) (h p a g ha)
theorem alts_places {D : Pat → Nat → List Gift → Tr} {L : Nat} (h : ∀ p a g, a ≤ L → allw (fun e => a ≤ e ∧ e ≤ L) (D p a g)) : ∀ l a g, a ≤ L → allw (fun e => a ≤ e ∧ e ≤ L) (alts D l a g)
  | [], a, g, ha => trivial
  | p :: l, a, g, ha => by
    rw [alts]
    exact allw_seq (alts_places h l a g ha) (h p a g ha)
theorem star_places {D : Nat → List Gift → Tr} {L : Nat} (h : ∀ a g, a ≤ L → allw (fun e => a ≤ e ∧ e ≤ L) (D a g)) : ∀ c a g, a ≤ L → allw (fun e => a ≤ e ∧ e ≤ L) (star D c a g)
  | 0, a, g, ha => trivial
  | c + 1, a, g, ha => by
    rw [star]
    refine allw_bind (fun b g hb => ?_) (h a g ha)
    split
    · trivial
    · exact allw_seq (allw_mono (fun e he => ⟨by omega, he.2⟩) (star_places h c b g hb.2)) ⟨hb, trivial⟩
/-- Each way ends where it began, or behind it. -/
theorem den_places : ∀ (n : Nat) (p : Pat) (a : Nat) (g : List Gift), a ≤ s.size → allw (fun e => a ≤ e ∧ e ≤ s.size) (den R s n p a g)
  | 0, p, a, g, ha => trivial
  | n + 1, p, a, g, ha => by
    show allw _ (node R s (den R s n) n p a g)
    have ih := den_places n
    have hl : s.data.toList.length = s.size := rfl
    unfold node
    dsimp only
    by_cases e7 : p.kind = 7
    · rw [if_pos e7]
      refine allw_wayL fun x hx => ?_
      have := breaks_mem hx
      rw [List.length_drop, hl] at this; omega
    rw [if_neg e7]
    by_cases e13 : p.kind = 13
    · rw [if_pos e13]
      refine allw_wayL fun x hx => ?_
      unfold mores at hx
      rw [List.mem_range'_1, hl] at hx; omega
    rw [if_neg e13]
    by_cases e14 : p.kind = 14
    · rw [if_pos e14]
      refine allw_wayL fun x hx => ?_
      have := pairEnds_mem hx
      rw [List.length_drop, hl] at this; omega
    rw [if_neg e14]
    by_cases e15 : p.kind = 15
    · rw [if_pos e15]
      trivial
    rw [if_neg e15]
    by_cases e16 : p.kind = 16
    · rw [if_pos e16]
      exact ⟨⟨Nat.le_refl _, ha⟩, trivial⟩
    rw [if_neg e16]
    by_cases e17 : p.kind = 17
    · rw [if_pos e17]
      trivial
    rw [if_neg e17]
    by_cases e18 : p.kind = 18
    · rw [if_pos e18]
      exact cats_places (fun p a g ha => ih p a g ha) _ a g ha
    rw [if_neg e18]
    by_cases e19 : p.kind = 19
    · rw [if_pos e19]
      exact alts_places (fun p a g ha => ih p a g ha) _ a g ha
    rw [if_neg e19]
    by_cases e20 : p.kind = 20
    · rw [if_pos e20]
      exact allw_seq (star_places (fun a g ha => ih _ a g ha) _ a g ha) ⟨⟨Nat.le_refl _, ha⟩, trivial⟩
    rw [if_neg e20]
    by_cases e21 : p.kind = 21
    · rw [if_pos e21]
      refine allw_bind (fun e h he => ?_) (ih _ a g ha)
      exact ⟨he, trivial⟩
    rw [if_neg e21]
    by_cases e22 : p.kind = 22
    · rw [if_pos e22]
      refine allw_bind (fun e h he => ?_) (ih _ a g ha)
      exact ⟨he, trivial⟩
    rw [if_neg e22]
    by_cases e23 : p.kind = 23
    · rw [if_pos e23]
      exact ⟨⟨Nat.le_refl _, ha⟩, trivial⟩
    rw [if_neg e23]
    by_cases e24 : p.kind = 24
    · rw [if_pos e24]
      cases ruleOf R p.name with
      | some q => exact ih _ a g ha
      | none => trivial
    rw [if_neg e24]
    refine allw_wayL fun x hx => ?_
    exact endAt_bd ha (by simpa using hx)
theorem all_places {p : Pat} {n : Nat} (h : allOk (allT R s p n) = true) : ∀ x ∈ (allT R s p n).1, n ≤ x.1 ∧ x.1 ≤ s.size := by
  obtain ⟨_, e1, hn, _⟩ := all_whole R s h
  have := allw_ways (den_places (R := R) (s := s) 20001 p n [] hn)
  rw [show Tr.ways (den R s 20001 p n []) = wden R s 20001 p n [] from rfl, e1] at this
  exact list_allw this

/-! One of some, none of them. -/
theorem pe_any (l : List UInt8) (m : Int) (t : ByteArray) (a : Nat) : endAt l (someP 3 m t) a = match l[a]? with | some c => if t.data.toList.contains c then some (a + 1) else none | none => none := rfl
theorem pe_notany (l : List UInt8) (m : Int) (t : ByteArray) (a : Nat) : endAt l (someP 4 m t) a = match l[a]? with | some c => if t.data.toList.contains c then none else some (a + 1) | none => none := rfl
theorem any_both {t : ByteArray} {n : Nat} (h1 : allOk (allT R s (someP 3 0 t) n) = true) (h2 : allOk (allT R s (someP 4 0 t) n) = true) :
    (allT R s (someP 3 0 t) n).1.length + (allT R s (someP 4 0 t) n).1.length = if n < s.size then 1 else 0 := by
  rw [all_node_of R s (wden_some 20000 0 t n [] (by omega)) h1, all_node_of R s (wden_some 20000 0 t n [] (by omega)) h2, List.length_map, List.length_map]
  rw [pe_any, pe_notany]
  cases h : s.data.toList[n]? with
  | none =>
    rw [List.getElem?_eq_none_iff] at h
    rw [if_neg (by rw [sizeL_eq] at h; omega)]; rfl
  | some c =>
    have := (List.getElem?_eq_some_iff.1 h).1
    rw [if_pos (by rw [sizeL_eq] at this; exact this)]
    dsimp only
    by_cases hh : t.data.toList.contains c = true
    · rw [if_pos hh, if_pos hh]; rfl
    · rw [if_neg hh, if_neg hh]; rfl

/-! Spans and breaks. -/
theorem pe_span (l : List UInt8) (m : Int) (t : ByteArray) (a : Nat) : endAt l (someP 5 m t) a = if 0 < ((l.drop a).takeWhile t.data.toList.contains).length then some (a + ((l.drop a).takeWhile t.data.toList.contains).length) else none := by
  (simp [endAt, someP, Pat.kind, Pat.bytes, Pat.text]); try congr
theorem pe_break (l : List UInt8) (m : Int) (t : ByteArray) (a : Nat) : endAt l (someP 6 m t) a = if a + ((l.drop a).takeWhile (fun c => !t.data.toList.contains c)).length < l.length then some (a + ((l.drop a).takeWhile (fun c => !t.data.toList.contains c)).length) else none := by
  (simp [endAt, someP, Pat.kind, Pat.bytes, Pat.text]); try congr
theorem wden_breakx (n : Nat) (m : Int) (t : ByteArray) (a : Nat) (g : List Gift) : wden R s (n + 1) (someP 7 m t) a g = wayL g (breaks t.data.toList (s.data.toList.drop a) a) := by
  show Tr.ways (node R s (den R s n) n (someP 7 m t) a g) = _
  rw [show node R s (den R s n) n (someP 7 m t) a g = wayL g (breaks t.data.toList (s.data.toList.drop a) a) from rfl, ways_wayL]
theorem wden_arb (n : Nat) (m : Int) (t : ByteArray) (a : Nat) (g : List Gift) : wden R s (n + 1) (someP 13 m t) a g = wayL g (mores s.size a) := by
  show Tr.ways (node R s (den R s n) n (someP 13 m t) a g) = _
  rw [show node R s (den R s n) n (someP 13 m t) a g = wayL g (mores s.size a) from rfl, ways_wayL]
theorem wden_bal (n : Nat) (m : Int) (t : ByteArray) (a : Nat) (g : List Gift) : wden R s (n + 1) (someP 14 m t) a g = wayL g (pairEnds (s.data.toList.drop a) 0 a) := by
  show Tr.ways (node R s (den R s n) n (someP 14 m t) a g) = _
  rw [show node R s (den R s n) n (someP 14 m t) a g = wayL g (pairEnds (s.data.toList.drop a) 0 a) from rfl, ways_wayL]
theorem mores_tail {L a : Nat} (h : a + 1 ≤ L) : (mores L a).tail = (a + 1) :: (mores L (a + 1)).tail := by
  unfold mores
  rw [show L - a + 1 = (L - (a + 1) + 1) + 1 by omega, List.range'_succ, List.tail_cons, List.range'_succ, List.tail_cons]
/-- Anything is any number of bytes. -/
theorem star_len (n : Nat) (hn : 0 < n) (t : ByteArray) (g : List Gift) : ∀ (k a c : Nat), s.size - a = k → a ≤ s.size → k < c → star (wden R s n (someP 2 1 t)) c a g = wayL g (mores s.size a).tail
  | k, a, 0, hk, ha, hc => by omega
  | k, a, c + 1, hk, ha, hc => by
    obtain ⟨n, rfl⟩ : ∃ m, n = m + 1 := ⟨n - 1, by omega⟩
    rw [star, wden_some n 1 t a g (by omega), pe_len, sizeL_eq, show (1 : Int).toNat = 1 from rfl]
    by_cases h : a + 1 ≤ s.size
    · rw [if_pos h]
      show Tr.bind (wayL g [a + 1]) _ = _
      rw [wayL, Tr.bind, show wayL g [] = naught from rfl, none_bind, seq_naught_right, if_neg (by omega), star_len (n + 1) (by omega) t g (k - 1) (a + 1) c (by omega) h (by omega)]
      rw [mores_tail h, wayL, one, seq, seq_done]
    · rw [if_neg h]
      unfold mores
      rw [show s.size - a + 1 = 1 by omega]
      rfl
theorem arb_arbno (t u : ByteArray) (a : Int) : alikeB R s (someP 13 0 t) (arbnoP (someP 2 1 u)) a = true := by
  refine alike_at R s fun k _ hk _ _ => ⟨(s.size + 1) + 1, ?_⟩
  rw [wden_arb 20000, wden_arbno, star_len (s.size + 1) (by omega) u [] (s.size - k) k (s.size + 1) rfl hk (by omega)]
  refine le_of_eq' ?_
  unfold mores
  rw [List.range'_succ, List.tail_cons, wayL, one, seq, seq_done]
end
end Go.Proofs.YtcmdhgamlhnioaaDoor
