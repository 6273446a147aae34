/- math/bits.TrailingZeros32, by the library's own text, under its table; masks of 32 bits. -/
import Derived.Test.YtkkdpafkafjfgaaDoorAgStBits
import Derived.Test.YtkkdpafkafjfgaaDoorAgGlR
import Derived.Test.YtkkdpafkafjfgaaDoorAgScPat
namespace Go.Proofs.YtkkdpafkafjfgaaDoor
open Go.RowKit
set_option linter.unusedVariables false
theorem wrap32 (n : Int) : IntKind.u32.wrap n = n % 4294967296 := by simp [IntKind.wrap, IntKind.signed, IntKind.bits]
theorem bits32 {op : BinOp} {f : Nat → Nat → Nat} (hf : ∀ a b : Nat, a < 4294967296 → b < 4294967296 → f a b < 4294967296)
    (hop : ∀ x y : Int, bits op .u32 x y = IntKind.u32.wrap ((f (BitVec.ofInt 32 x).toNat (BitVec.ofInt 32 y).toNat : Nat) : Int)) (a b : Nat) (ha : a < 4294967296) (hb : b < 4294967296) : bits op .u32 (a : Int) (b : Int) = ((f a b : Nat) : Int) := by
  have e : ∀ x : Nat, x < 4294967296 → (BitVec.ofInt 32 (x : Int)).toNat = x := fun x hx => by
    rw [BitVec.ofInt_natCast, BitVec.toNat_ofNat]; exact Nat.mod_eq_of_lt hx
  have := hf a b ha hb
  rw [hop, e a ha, e b hb, wrap32]; omega
theorem and32 (a b : Nat) (ha : a < 4294967296) (hb : b < 4294967296) : bits .and .u32 (a : Int) (b : Int) = ((a &&& b : Nat) : Int) :=
  bits32 (f := fun a b => a &&& b) (fun a b h _ => Nat.lt_of_le_of_lt Nat.and_le_left h) (fun x y => by
    show IntKind.u32.wrap ((BitVec.ofInt 32 x &&& BitVec.ofInt 32 y).toNat : Int) = _
    rw [BitVec.toNat_and]) a b ha hb
theorem or32 (a b : Nat) (ha : a < 4294967296) (hb : b < 4294967296) : bits .or .u32 (a : Int) (b : Int) = ((a ||| b : Nat) : Int) :=
  bits32 (f := fun a b => a ||| b) (fun a b h k => Nat.or_lt_two_pow (n := 32) h k) (fun x y => by
    show IntKind.u32.wrap ((BitVec.ofInt 32 x ||| BitVec.ofInt 32 y).toNat : Int) = _
    rw [BitVec.toNat_or]) a b ha hb
theorem not32 (b : Nat) (hb : b < 4294967296) (i : Nat) : (4294967295 - b).testBit i = (decide (i < 32) && !b.testBit i) := by
  have := Nat.testBit_two_pow_sub_succ (n := 32) hb i
  rwa [show 2 ^ 32 - (b + 1) = 4294967295 - b by omega] at this
theorem andNot32 (a b : Nat) (ha : a < 4294967296) (hb : b < 4294967296) : bits .andNot .u32 (a : Int) (b : Int) = ((a &&& (4294967295 - b) : Nat) : Int) := by
  have e : ∀ x : Nat, x < 4294967296 → (BitVec.ofInt 32 (x : Int)).toNat = x := fun x hx => by
    rw [BitVec.ofInt_natCast, BitVec.toNat_ofNat]; exact Nat.mod_eq_of_lt hx
  have h : a &&& (4294967295 - b) < 4294967296 := Nat.lt_of_le_of_lt Nat.and_le_left ha
  show IntKind.u32.wrap ((BitVec.ofInt 32 (a : Int) &&& ~~~ BitVec.ofInt 32 (b : Int)).toNat : Int) = _
  rw [BitVec.toNat_and, BitVec.toNat_not, e a ha, e b hb, wrap32]
  rw [show (2 ^ 32 - 1 - b : Nat) = 4294967295 - b from rfl]
  omega
def TabZ32 (w : World) : Prop := ∀ j, j < 32 → w.cell? ⟨0, j, none⟩ = some (.int .u8 (Lib.deBruijn32tab.getD j 0))
theorem TabZ32.kept {w w' : World} (h : TabZ32 w) (g : Grew w w') : TabZ32 w' := fun j hj => g.keeps (h j hj)
theorem tz32 (x a : Nat) (hx : x < 4294967296) (hx0 : x ≠ 0) (hlow : x &&& (4294967296 - x) = a) :
    bits BinOp.and IntKind.u32 (x : Int) (-(x : Int) % 4294967296) * 125613361 % 4294967296 / 134217728 = ((a * 125613361 % 4294967296 / 134217728 : Nat) : Int) := by
  have e1 : -(x : Int) % 4294967296 = ((4294967296 - x : Nat) : Int) := by omega
  rw [e1, and32 x _ hx (by omega), hlow]
  omega
theorem zeros32 (x : Nat) (w : World) (hx : x < 4294967296) (hx0 : x ≠ 0) (hT : TabZ32 w) : Calls Tryd.prog 28 #[.int .u32 x] w fun e w' => e = .returned (.int .i64 (Lib.ctz 32 x)) ∧ w' = w := by
  obtain ⟨hlow, hk⟩ := Lib.lowest_bit 32 x hx0 hx
  obtain ⟨hi, htab⟩ := Lib.deBruijn32_at _ hk
  have hcell := hT _ hi
  rw [htab] at hcell
  have key := tz32 x _ hx hx0 hlow
  obtain ⟨idx, he⟩ : ∃ idx, 2 ^ Lib.ctz 32 x * 125613361 % 4294967296 / 134217728 = idx := ⟨_, rfl⟩
  rw [he] at key hi hcell
  generalize Lib.ctz 32 x = k at hk hcell ⊢
  have hx1 : ((x : Int) == 0) = false := by simp; omega
  clear he htab hlow hT
  go_enter Tryd.func28, Tryd.ntmps28
  go_wp2_with (simp only [key])
  go_ret
  exact ⟨rfl, rfl⟩
theorem low32 {x : Nat} (hx : x < 4294967296) (h0 : x ≠ 0) : x.testBit (Lib.ctz 32 x) = true ∧ ∀ i, (x &&& (x - 1)).testBit i = (x.testBit i && decide (i ≠ Lib.ctz 32 x)) := by
  obtain ⟨m, hm, hk⟩ := Lib.ctzFrom_spec 32 x (by omega) hx
  have hc : Lib.ctz 32 x = Lib.ctzFrom 32 x := if_neg h0
  rw [hc]
  generalize Lib.ctzFrom 32 x = k at hm hk
  have hp : 0 < 2 ^ k := Nat.two_pow_pos k
  have e1 : x - 1 = 2 ^ k * (2 * m) + (2 ^ k - 1) := by rw [hm, Nat.mul_add, Nat.mul_one]; omega
  have hb : ∀ i, x.testBit i = if i < k then false else (2 * m + 1).testBit (i - k) := fun i => by
    rw [hm, Nat.mul_comm, Nat.testBit_mul_two_pow]
    by_cases h : i < k
    · rw [if_pos h]; simp; omega
    · rw [if_neg h]; simp [show k ≤ i by omega]
  have hb1 : ∀ i, k ≤ i → (x - 1).testBit i = (2 * m).testBit (i - k) := fun i hi => by
    rw [e1, Nat.testBit_two_pow_mul_add _ (by omega), if_neg (by omega)]
  refine ⟨by rw [hb, if_neg (Nat.lt_irrefl k), Nat.sub_self, Nat.testBit_zero]; simp, fun i => ?_⟩
  rw [Nat.testBit_and]
  by_cases h : i < k
  · rw [hb, if_pos h]; rfl
  · rw [hb1 i (by omega), hb i, if_neg h]
    by_cases e : i = k
    · subst e; simp
    · obtain ⟨j, hj⟩ : ∃ j, i - k = j + 1 := ⟨i - k - 1, by omega⟩
      rw [hj, Nat.testBit_succ, Nat.testBit_succ, show (2 * m + 1) / 2 = m by omega, show 2 * m / 2 = m by omega]
      simp [e]
theorem low32_lt {x n : Nat} (hx : x < 2 ^ n) (hn : n ≤ 32) (h0 : x ≠ 0) : Lib.ctz 32 x < n := by
  have h := (low32 (Nat.lt_of_lt_of_le hx (Nat.pow_le_pow_right (n := 2) (by decide) hn)) h0).1
  apply Classical.byContradiction; intro hc
  have : x < 2 ^ Lib.ctz 32 x := Nat.lt_of_lt_of_le hx (Nat.pow_le_pow_right (n := 2) (by decide) (by omega))
  rw [Nat.testBit_lt_two_pow this] at h
  cases h
end Go.Proofs.YtkkdpafkafjfgaaDoor

namespace Go.Proofs.YtkkdpafkafjfgaaDoor
set_option linter.unusedVariables false
structure InG (g : Gl) (o : Part) : Prop where
  first : o.first < 2 ^ g.sets.length
  last : o.last < 2 ^ g.sets.length
theorem pow_le12 {n : Nat} (h : n ≤ 12) : 2 ^ n ≤ 4096 := Nat.pow_le_pow_right (n := 2) (by decide) h
theorem InG.small {g : Gl} {o : Part} (h : InG g o) (hf : Fits g) : SmallG o := ⟨Nat.lt_of_lt_of_le h.first (pow_le12 hf.le), Nat.lt_of_lt_of_le h.last (pow_le12 hf.le)⟩
theorem InG.mono {g g' : Gl} {o : Part} (h : InG g o) (hl : g.sets.length ≤ g'.sets.length) : InG g' o :=
  ⟨Nat.lt_of_lt_of_le h.first (Nat.pow_le_pow_right (n := 2) (by decide) hl), Nat.lt_of_lt_of_le h.last (Nat.pow_le_pow_right (n := 2) (by decide) hl)⟩
theorem in0 (g : Gl) (z : Bool) : InG g ⟨0, 0, z⟩ := ⟨Nat.two_pow_pos _, Nat.two_pow_pos _⟩
theorem one_in (g : Gl) (s : Nat → Bool) : g.sets.length ≤ (g.one s).2.sets.length ∧ InG (g.one s).2 (g.one s).1 := by
  unfold Gl.one
  split
  · exact ⟨Nat.le_refl _, in0 _ _⟩
  · refine ⟨by simp, ?_, ?_⟩ <;> simp <;> exact Nat.pow_lt_pow_right (a := 2) (by decide) (by omega)
theorem op2_in {c : Bool} {o k : Part} {g : Gl} (h : InG g o) (h2 : InG g k) : InG (op2 c o k g).2 (op2 c o k g).1 := by
  cases c
  · exact ⟨Nat.or_lt_two_pow h.first h2.first, Nat.or_lt_two_pow h.last h2.last⟩
  · refine ⟨?_, ?_⟩
    · show (thenP o k).first < 2 ^ g.sets.length
      unfold thenP; dsimp only; split
      · exact Nat.or_lt_two_pow h.first h2.first
      · exact h.first
    · show (thenP o k).last < 2 ^ g.sets.length
      unfold thenP; dsimp only; split
      · exact Nat.or_lt_two_pow h2.last h.last
      · exact h2.last
def InB (b : Builder) : Prop := ∀ g, Fits g → Fits (b g).2 ∧ g.sets.length ≤ (b g).2.sets.length ∧ ∀ o, (b g).1 = some o → InG (b g).2 o
theorem lit_in : ∀ (l : List (Nat → Bool)) (o : Part) (g : Gl), Fits g → InG g o → Fits (litG l o g).2 ∧ g.sets.length ≤ (litG l o g).2.sets.length ∧ InG (litG l o g).2 (litG l o g).1
  | [], o, g, hf, ho => ⟨hf, Nat.le_refl _, ho⟩
  | s :: l, o, g, hf, ho => by
    rw [litG]
    split
    · exact ⟨hf, Nat.le_refl _, ho⟩
    · have h1 := one_in g s
      have h2 := one_fits hf s
      have h3 := op2_fits (c := true) h2.1 (ho.small hf) h2.2
      have h4 := op2_in (c := true) (ho.mono h1.1) h1.2
      obtain ⟨k1, k2, k3⟩ := lit_in l _ _ h3.1 h4
      rw [op2_sets] at k2
      exact ⟨k1, Nat.le_trans h1.1 k2, k3⟩
theorem kids_in (c : Bool) : ∀ (l : List Builder), (∀ b ∈ l, InB b) → ∀ (o : Part) (g : Gl), Fits g → InG g o → Fits (kidsG c l o g).2 ∧ g.sets.length ≤ (kidsG c l o g).2.sets.length ∧ ∀ o', (kidsG c l o g).1 = some o' → InG (kidsG c l o g).2 o'
  | [], _, o, g, hf, ho => ⟨hf, Nat.le_refl _, fun o' h => by cases h; exact ho⟩
  | b :: l, hb, o, g, hf, ho => by
    obtain ⟨h1, h2, h3⟩ := hb b (by simp) g hf
    rw [kidsG]
    cases e : (b g).1 with
    | none => exact ⟨h1, h2, fun o' h => by cases h⟩
    | some k =>
      have hk := h3 k e
      have h4 := op2_fits (c := c) h1 (ho.small hf) (hk.small h1)
      have h5 := op2_in (c := c) (ho.mono h2) hk
      obtain ⟨k1, k2, k3⟩ := kids_in c l (fun b hb' => hb b (by simp [hb'])) _ _ h4.1 h5
      rw [op2_sets] at k2
      exact ⟨k1, Nat.le_trans h2 k2, k3⟩
theorem head_in (c : Bool) {l : List Builder} (h : ∀ b ∈ l, InB b) : InB (headG c l) := fun g hf => by
  cases l with
  | nil => exact ⟨hf, Nat.le_refl _, fun o h => by cases h; exact in0 _ _⟩
  | cons b l =>
    obtain ⟨h1, h2, h3⟩ := h b (by simp) g hf
    rw [headG]
    cases e : (b g).1 with
    | none => exact ⟨h1, h2, fun o' h => by cases h⟩
    | some k =>
      obtain ⟨k1, k2, k3⟩ := kids_in c l (fun b hb' => h b (by simp [hb'])) k _ h1 (h3 k e)
      exact ⟨k1, Nat.le_trans h2 k2, k3⟩
theorem star_in {b : Builder} (h : InB b) : InB (fun g => starG (b g)) := fun g hf => by
  obtain ⟨h1, h2, h3⟩ := h g hf
  cases e : (b g).1 with
  | none =>
    have : starG (b g) = (none, (b g).2) := by unfold starG; rw [e]
    dsimp only; rw [this]; exact ⟨h1, h2, fun o' h => by cases h⟩
  | some k =>
    have : starG (b g) = (some (againP k), (b g).2.join k.last k.first) := by unfold starG; rw [e]
    dsimp only; rw [this]
    have hk := h3 k e
    exact ⟨h1.join (hk.small h1).first, h2, fun o' h => by cases h; exact ⟨hk.first, hk.last⟩⟩
theorem buildK_in {k : Int} {t : ByteArray} {n : Int} {bs : List Builder} (h : ∀ b ∈ bs, InB b) : InB (buildK k t n bs) := fun g hf => by
  unfold buildK
  split
  · exact ⟨(lit_in _ _ g hf (in0 g true)).1, (lit_in _ _ g hf (in0 g true)).2.1, fun o e => by cases e; exact (lit_in _ _ g hf (in0 g true)).2.2⟩
  split
  · exact ⟨(one_fits hf _).1, (one_in g _).1, fun o e => by cases e; exact (one_in g _).2⟩
  split
  · exact ⟨(one_fits hf _).1, (one_in g _).1, fun o e => by cases e; exact (one_in g _).2⟩
  split
  · exact star_in (b := fun g => someG (g.one allB)) (fun g hf => ⟨(one_fits hf _).1, (one_in g _).1, fun o e => by cases e; exact (one_in g _).2⟩) g hf
  split
  · exact ⟨hf, Nat.le_refl _, fun o e => by cases e; exact in0 _ _⟩
  split
  · exact head_in true h g hf
  split
  · exact head_in false h g hf
  split
  · exact star_in (head_in false h) g hf
  · exact ⟨hf, Nat.le_refl _, fun o e => by cases e⟩
mutual
theorem build_in : ∀ p : Pat, InB (buildP p)
  | .mk k t n m l => by rw [buildP]; exact buildK_in (buildL_in l)
theorem buildL_in : ∀ (l : List Pat), ∀ b ∈ buildL l, InB b
  | [], b, h => by rw [buildL] at h; cases h
  | p :: l, b, h => by
    rw [buildL] at h
    cases h with
    | head => exact build_in p
    | tail _ h => exact buildL_in l b h
end
mutual
def fitP : Pat → Prop
  | .mk k t n m l => (k = 1 → t.size ≤ 65536) ∧ (k = 2 → 0 ≤ n ∧ n ≤ 65536) ∧ ((k = 18 ∨ k = 19 ∨ k = 20) → 0 < l.length) ∧ l.length ≤ 4096 ∧ fitL l
def fitL : List Pat → Prop
  | [] => True
  | p :: l => fitP p ∧ fitL l
end
theorem fitL_get : ∀ {l : List Pat}, fitL l → ∀ {i : Nat}, i < l.length → fitP (l.getD i Pat.zero)
  | [], _, i, h => absurd h (Nat.not_lt_zero i)
  | p :: l, h, 0, _ => by rw [fitL] at h; exact h.1
  | p :: l, h, i + 1, hi => by rw [fitL] at h; exact fitL_get h.2 (by simpa using hi)
mutual
theorem fit_full : ∀ p : Pat, fitP p → fullP p
  | .mk k t n m l, h => by rw [fitP] at h; rw [fullP]; exact ⟨h.2.2.1, fitL_full l h.2.2.2.2⟩
theorem fitL_full : ∀ l : List Pat, fitL l → fullL l
  | [], _ => by rw [fullL]; trivial
  | p :: l, h => by rw [fitL] at h; rw [fullL]; exact ⟨fit_full p h.1, fitL_full l h.2⟩
end
end Go.Proofs.YtkkdpafkafjfgaaDoor
