/- What a pattern tells behind other bytes: the same, moved. Plain. -/
import Derived.Test.YtmkldfjcpmoajabDoorScAlike
namespace Go.Proofs.YtmkldfjcpmoajabDoor
open Go
set_option linter.unusedVariables false
open Tr
def shift (k : Nat) : Tr → Tr
  | .stop m => .stop m
  | .tick t => .tick (shift k t)
  | .say g t => .say g (shift k t)
  | .way a g t => .way (a + k) g (shift k t)
theorem shift_seq (k : Nat) (u : Tr) : ∀ t, shift k (seq t u) = seq (shift k t) (shift k u)
  | .stop m => by
    by_cases h : m = .done
    · subst h; rw [seq_done, shift, seq_done]
    · rw [seq_stop h, shift, seq_stop h]
  | .tick t => by rw [seq, shift, shift, seq, shift_seq k u t]
  | .say g t => by rw [seq, shift, shift, seq, shift_seq k u t]
  | .way a g t => by rw [seq, shift, shift, seq, shift_seq k u t]
theorem shift_bind (k : Nat) {f f' : Nat → List Gift → Tr} (h : ∀ e g, f' (e + k) g = shift k (f e g)) : ∀ t, Tr.bind (shift k t) f' = shift k (Tr.bind t f)
  | .stop m => by rw [Tr.bind, shift, Tr.bind]
  | .tick t => by rw [Tr.bind, shift, Tr.bind, shift, shift_bind k h t]
  | .say g t => by rw [Tr.bind, shift, Tr.bind, shift, shift_bind k h t]
  | .way a g t => by rw [Tr.bind, shift, Tr.bind, shift_seq, h, shift_bind k h t]
theorem shift_wayL (k : Nat) (g : List Gift) : ∀ L : List Nat, wayL g (L.map (· + k)) = shift k (wayL g L)
  | [] => rfl
  | a :: L => by rw [List.map_cons, wayL, wayL, shift, shift_wayL k g L]
theorem breaks_shift (t : List UInt8) (k : Nat) : ∀ (l : List UInt8) (a : Nat), breaks t l (a + k) = (breaks t l a).map (· + k)
  | [], _ => rfl
  | c :: l, a => by
    have := breaks_shift t k l (a + 1)
    rw [show a + 1 + k = a + k + 1 by omega] at this
    rw [breaks, breaks, this]
    split <;> simp
theorem pairEnds_shift (k : Nat) : ∀ (l : List UInt8) (d a : Nat), pairEnds l d (a + k) = (pairEnds l d a).map (· + k)
  | [], _, _ => rfl
  | c :: l, d, a => by
    have h : ∀ d, pairEnds l d (a + k + 1) = (pairEnds l d (a + 1)).map (· + k) := fun d => by
      have := pairEnds_shift k l d (a + 1)
      rwa [show a + 1 + k = a + k + 1 by omega] at this
    have e : a + 1 + k = a + k + 1 := by omega
    by_cases h1 : c = 40
    · simp only [pairEnds, if_pos h1]; exact h _
    · by_cases h2 : c = 41
      · match d with
        | 0 => simp only [pairEnds, if_neg h1, if_pos h2, List.map_nil]
        | 1 => simp only [pairEnds, if_neg h1, if_pos h2, List.map_cons, h, e]
        | d + 2 => simp only [pairEnds, if_neg h1, if_pos h2]; exact h _
      · by_cases h3 : d = 0
        · simp only [pairEnds, if_neg h1, if_neg h2, if_pos h3, List.map_cons, h, e]
        · simp only [pairEnds, if_neg h1, if_neg h2, if_neg h3]; exact h _
theorem mores_shift (len a k : Nat) : mores (len + k) (a + k) = (mores len a).map (· + k) := by
  unfold mores
  rw [show len + k - (a + k) + 1 = len - a + 1 by omega]
  have := List.map_add_range' (a := k) a (len - a + 1) 1
  rw [Nat.add_comm a k, ← this]
  exact List.map_congr_left fun x _ => Nat.add_comm _ _
def placeKind (k : Int) : Bool := decide (k = 8) || (decide (k = 9) || (decide (k = 10) || (decide (k = 11) || (decide (k = 12) || (decide (k = 23) || decide (k = 24))))))
mutual
def placedB : Pat → Bool
  | .mk k _ _ _ l => placeKind k || placedL l
def placedL : List Pat → Bool
  | [] => false
  | p :: l => placedB p || placedL l
end
theorem drop_shift (m l : List UInt8) (a : Nat) : (m ++ l).drop (a + m.length) = l.drop a := by
  rw [Nat.add_comm, ← List.drop_drop, List.drop_left]
theorem at_shift (m l : List UInt8) (a : Nat) : (m ++ l)[a + m.length]? = l[a]? := by
  rw [List.getElem?_append_right (by omega)]; congr 1; omega
theorem endAt_shift (m l : List UInt8) (p : Pat) (a : Nat) (h : placeKind p.kind = false) : endAt (m ++ l) p (a + m.length) = (endAt l p a).map (· + m.length) := by
  unfold placeKind at h
  simp only [Bool.or_eq_false_iff, decide_eq_false_iff_not] at h
  unfold endAt
  rw [drop_shift, at_shift, List.length_append]
  obtain ⟨h8, h9, h10, h11, h12, h23, h24⟩ := h
  simp only [if_neg h8, if_neg h9, if_neg h10, if_neg h11, if_neg h12]
  have e1 : ∀ x, a + m.length + x = a + x + m.length := fun x => by omega
  by_cases k1 : p.kind = 1
  · simp only [if_pos k1, e1]; split <;> rfl
  simp only [if_neg k1]
  by_cases k2 : p.kind = 2
  · simp only [if_pos k2]
    by_cases hl : a + p.num ≤ l.length
    · rw [if_pos (by omega), if_pos hl, e1]; rfl
    · rw [if_neg (by omega), if_neg hl]; rfl
  simp only [if_neg k2]
  by_cases k3 : p.kind = 3
  · simp only [if_pos k3]
    cases l[a]? with
    | none => rfl
    | some c => dsimp only; split <;> simp [e1]
  simp only [if_neg k3]
  by_cases k4 : p.kind = 4
  · simp only [if_pos k4]
    cases l[a]? with
    | none => rfl
    | some c => dsimp only; split <;> simp [e1]
  simp only [if_neg k4]
  by_cases k5 : p.kind = 5
  · simp only [if_pos k5, e1]; split <;> rfl
  simp only [if_neg k5]
  by_cases k6 : p.kind = 6
  · simp only [if_pos k6, e1]
    generalize (List.takeWhile (fun c => !p.bytes.contains c) (l.drop a)).length = n
    by_cases hl : a + n < l.length
    · rw [if_pos (by omega), if_pos hl]; rfl
    · rw [if_neg (by omega), if_neg hl]; rfl
  simp only [if_neg k6]
  rfl
theorem alts_shift (k : Nat) {D D' : Pat → Nat → List Gift → Tr} : ∀ (l : List Pat), (∀ p ∈ l, ∀ a g, D' p (a + k) g = shift k (D p a g)) → ∀ a g, alts D' l (a + k) g = shift k (alts D l a g)
  | [], _, _, _ => rfl
  | p :: l, h, a, g => by rw [alts, alts, shift_seq, h p (by simp), alts_shift k l (fun q hq => h q (by simp [hq]))]
theorem cats_shift (k : Nat) {D D' : Pat → Nat → List Gift → Tr} : ∀ (l : List Pat), (∀ p ∈ l, ∀ a g, D' p (a + k) g = shift k (D p a g)) → ∀ a g, cats D' l (a + k) g = shift k (cats D l a g)
  | [], _, _, _ => rfl
  | p :: l, h, a, g => by rw [cats, cats, h p (by simp), shift_bind k (fun e g => cats_shift k l (fun q hq => h q (by simp [hq])) e g)]
theorem star_shift (k : Nat) {D D' : Nat → List Gift → Tr} (h : ∀ a g, D' (a + k) g = shift k (D a g)) : ∀ (c a : Nat) (g : List Gift), star D' c (a + k) g = shift k (star D c a g)
  | 0, _, _ => rfl
  | c + 1, a, g => by
    rw [star, star, h]
    refine shift_bind k (fun e g' => ?_) _
    by_cases he : e = a
    · rw [if_pos he, if_pos (by omega)]; rfl
    · rw [if_neg he, if_neg (by omega), shift_seq, star_shift k h c e g']; rfl
theorem extract_shift (m s : ByteArray) (a e : Nat) : (m ++ s).extract (a + m.size) (e + m.size) = s.extract a e := by
  refine str_ext ?_
  simp only [ByteArray.data_extract, ByteArray.data_append, Array.toList_extract, Array.toList_append, List.extract_eq_take_drop]
  rw [show a + m.size = a + m.data.toList.length from rfl, drop_shift]
  congr 1
  have : m.data.toList.length = m.size := rfl
  omega
theorem placed_kid {p : Pat} (h : placedB p = false) : placeKind p.kind = false ∧ (∀ q ∈ p.kids, placedB q = false) ∧ placedB (p.kid 0) = false := by
  obtain ⟨k, t, n, m, l⟩ := p
  rw [placedB, Bool.or_eq_false_iff] at h
  have hall : ∀ (l : List Pat), placedL l = false → ∀ q ∈ l, placedB q = false := by
    intro l
    induction l with
    | nil => intro _ q hq; cases hq
    | cons x l ih =>
      intro h q hq
      rw [placedL, Bool.or_eq_false_iff] at h
      rcases List.mem_cons.1 hq with rfl | hq
      · exact h.1
      · exact ih h.2 q hq
  refine ⟨h.1, hall l h.2, ?_⟩
  unfold Pat.kid
  cases l with
  | nil => rfl
  | cons x l => exact hall _ h.2 x (by simp)
theorem den_shift (m s : ByteArray) : ∀ (n : Nat) (p : Pat), placedB p = false → ∀ a g, den [] (m ++ s) n p (a + m.size) g = shift m.size (den [] s n p a g)
  | 0, _, _, _, _ => rfl
  | n + 1, p, hp, a, g => by
    obtain ⟨hk, hkids, hkid⟩ := placed_kid hp
    have ih := fun q hq => den_shift m s n q hq
    have hd : (m ++ s).data.toList = m.data.toList ++ s.data.toList := by rw [ByteArray.data_append, Array.toList_append]
    have hl : (m ++ s).data.toList.length = s.data.toList.length + m.size := by rw [hd, List.length_append, Nat.add_comm]; rfl
    have hdr : (m ++ s).data.toList.drop (a + m.size) = s.data.toList.drop a := by rw [hd]; exact drop_shift m.data.toList s.data.toList a
    have hE : endAt (m ++ s).data.toList p (a + m.size) = (endAt s.data.toList p a).map (· + m.size) := by rw [hd]; exact endAt_shift m.data.toList s.data.toList p a hk
    unfold placeKind at hk
    simp only [Bool.or_eq_false_iff, decide_eq_false_iff_not] at hk
    obtain ⟨h8, h9, h10, h11, h12, h23, h24⟩ := hk
    rw [den, den, shift]
    congr 1
    unfold node
    dsimp only
    rw [hdr, hl, hE]
    by_cases k7 : p.kind = 7
    · simp only [if_pos k7]; rw [breaks_shift, shift_wayL]
    simp only [if_neg k7]
    by_cases k13 : p.kind = 13
    · simp only [if_pos k13]; rw [mores_shift, shift_wayL]
    simp only [if_neg k13]
    by_cases k14 : p.kind = 14
    · simp only [if_pos k14]; rw [pairEnds_shift, shift_wayL]
    simp only [if_neg k14]
    by_cases k15 : p.kind = 15
    · simp only [if_pos k15]; rfl
    simp only [if_neg k15]
    by_cases k16 : p.kind = 16
    · simp only [if_pos k16]; rfl
    simp only [if_neg k16]
    by_cases k17 : p.kind = 17
    · simp only [if_pos k17]; rfl
    simp only [if_neg k17]
    by_cases k18 : p.kind = 18
    · simp only [if_pos k18]; exact cats_shift _ _ (fun q hq => ih q (hkids q hq)) a g
    simp only [if_neg k18]
    by_cases k19 : p.kind = 19
    · simp only [if_pos k19]
      refine alts_shift _ _ (fun q hq => ih q ?_) a g
      rcases List.mem_cons.1 hq with rfl | hq
      · exact hkid
      · exact hkids q (List.mem_of_mem_drop hq)
    simp only [if_neg k19]
    by_cases k20 : p.kind = 20
    · simp only [if_pos k20]; rw [shift_seq, star_shift _ (ih _ hkid)]; rfl
    simp only [if_neg k20]
    by_cases k21 : p.kind = 21
    · simp only [if_pos k21]; rw [ih _ hkid]
      exact shift_bind _ (fun e h => by rw [extract_shift]; rfl) _
    simp only [if_neg k21]
    by_cases k22 : p.kind = 22
    · simp only [if_pos k22]; rw [ih _ hkid]
      exact shift_bind _ (fun e h => by rw [extract_shift]; rfl) _
    simp only [if_neg k22, if_neg h23, if_neg h24]
    cases endAt s.data.toList p a with
    | none => rfl
    | some e => rfl
def moved (k : Nat) (x : Way) : Way := (x.1 + k, x.2)
theorem tell_shift (fuel k : Nat) : ∀ (t : Tr) (m j : Nat), tell fuel m j (shift k t) = ((tell fuel m j t).1.map (moved k), (tell fuel m j t).2.1, (tell fuel m j t).2.2)
  | t, 0, j => by cases t <;> rfl
  | .stop .done, m + 1, j => rfl
  | .stop .cut, m + 1, j => rfl
  | .stop .deep, m + 1, j => rfl
  | .stop .name, m + 1, j => rfl
  | .tick t, m + 1, j => by
    rw [shift, tell, tell]
    split
    · rfl
    · exact tell_shift fuel k t (m + 1) (j + 1)
  | .say g t, m + 1, j => by rw [shift, tell, tell]; exact tell_shift fuel k t (m + 1) j
  | .way a g t, m + 1, j => by
    rw [shift, tell, tell, tell_shift fuel k t m j]
    rcases tell fuel m j t with ⟨l, c, e⟩
    dsimp only
    split <;> rfl
/-- What is told behind other bytes. -/
theorem moved_all {p : Pat} {s m : ByteArray} (hp : placedB p = false) (h : allOk (allT [] s p 0) = true) (hm : m.size + s.size ≤ 65536) : allT [] (m ++ s) p m.size = ((allT [] s p 0).1.map (moved m.size), (allT [] s p 0).2.1, (allT [] s p 0).2.2) := by
  have hask : askErr [] p s 20000 = 0 := by
    obtain ⟨_, _, _, h, _⟩ := allOk_some [] s h; exact h
  have hask2 : askErr [] p (m ++ s) 20000 = 0 := by
    unfold askErr at hask ⊢
    split at hask
    · rename_i h1
      rw [if_pos h1]
      split at hask
      · rename_i h2
        rw [if_pos h2, if_neg (by rw [ByteArray.size_append]; omega), if_neg (by omega)]
      · rename_i h2; exact absurd hask h2
    · rename_i h1; exact absurd hask h1
  unfold allT waysOf
  rw [if_pos hask, if_pos hask2, if_neg (by rw [ByteArray.size_append]; omega), if_neg (by omega)]
  have := den_shift m s 20001 p hp 0 []
  rw [Nat.zero_add] at this
  show tell 20000 4096 0 (den [] (m ++ s) 20001 p m.size []) = _
  rw [this, tell_shift]
  rfl
end Go.Proofs.YtmkldfjcpmoajabDoor
