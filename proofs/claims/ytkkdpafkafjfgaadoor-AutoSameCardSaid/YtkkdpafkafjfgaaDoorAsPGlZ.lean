/- math/bits.TrailingZeros32, by the library's own text, under its table; masks of 32 bits. -/
import Derived.Test.YtkkdpafkafjfgaaDoorAsStBits
import Derived.Test.YtkkdpafkafjfgaaDoorAsPOwn
namespace Go.Proofs.YtkkdpafkafjfgaaDoor
open Go.RowKit
set_option linter.unusedVariables false
theorem wrap32 (n : Int) : IntKind.u32.wrap n = n % 4294967296 := by simp [IntKind.wrap, IntKind.signed, IntKind.bits]
theorem bits32 {op : BinOp} {f : Nat → Nat → Nat} (hf : ∀ a b : Nat, a < 4294967296 → b < 4294967296 → f a b < 4294967296)
    (hop : ∀ x y : Int, bits op .u32 x y = IntKind.u32.wrap ((f (BitVec.ofInt 32 x).toNat (BitVec.ofInt 32 y).toNat : Nat) : Int)) (a b : Nat) (ha : a < 4294967296) (hb : b < 4294967296) : bits op .u32 (a : Int) (b : Int) = ((f a b : Nat) : Int) := by
  have e : ∀ x : Nat, x < 4294967296 → (BitVec.ofInt 32 (x : Int)).toNat = x := fun x hx => by
    rw [BitVec.ofInt_natCast, BitVec.toNat_ofNat]; exact Nat.mod_eq_of_lt hx
  have := hf a b ha hb
  rw [hop, e a ha, e b hb, wrap32]; omega
theorem and32 (a b : Nat) (ha : a < 4294967296) (hb : b < 4294967296) : bits .and .u32 (a : Int) (b : Int) = ((a &&& b : Nat) : Int) :=
  bits32 (f := fun a b => a &&& b) (fun a b h _ => Nat.lt_of_le_of_lt Nat.and_le_left h) (fun x y => by
    show IntKind.u32.wrap ((BitVec.ofInt 32 x &&& BitVec.ofInt 32 y).toNat : Int) = _
    rw [BitVec.toNat_and]) a b ha hb
theorem or32 (a b : Nat) (ha : a < 4294967296) (hb : b < 4294967296) : bits .or .u32 (a : Int) (b : Int) = ((a ||| b : Nat) : Int) :=
  bits32 (f := fun a b => a ||| b) (fun a b h k => Nat.or_lt_two_pow (n := 32) h k) (fun x y => by
    show IntKind.u32.wrap ((BitVec.ofInt 32 x ||| BitVec.ofInt 32 y).toNat : Int) = _
    rw [BitVec.toNat_or]) a b ha hb
theorem not32 (b : Nat) (hb : b < 4294967296) (i : Nat) : (4294967295 - b).testBit i = (decide (i < 32) && !b.testBit i) := by
  have := Nat.testBit_two_pow_sub_succ (n := 32) hb i
  rwa [show 2 ^ 32 - (b + 1) = 4294967295 - b by omega] at this
theorem andNot32 (a b : Nat) (ha : a < 4294967296) (hb : b < 4294967296) : bits .andNot .u32 (a : Int) (b : Int) = ((a &&& (4294967295 - b) : Nat) : Int) := by
  have e : ∀ x : Nat, x < 4294967296 → (BitVec.ofInt 32 (x : Int)).toNat = x := fun x hx => by
    rw [BitVec.ofInt_natCast, BitVec.toNat_ofNat]; exact Nat.mod_eq_of_lt hx
  have h : a &&& (4294967295 - b) < 4294967296 := Nat.lt_of_le_of_lt Nat.and_le_left ha
  show IntKind.u32.wrap ((BitVec.ofInt 32 (a : Int) &&& ~~~ BitVec.ofInt 32 (b : Int)).toNat : Int) = _
  rw [BitVec.toNat_and, BitVec.toNat_not, e a ha, e b hb, wrap32]
  rw [show (2 ^ 32 - 1 - b : Nat) = 4294967295 - b from rfl]
  omega
def TabZ32 (w : World) : Prop := ∀ j, j < 32 → w.cell? ⟨0, j, none⟩ = some (.int .u8 (Lib.deBruijn32tab.getD j 0))
theorem TabZ32.kept {w w' : World} (h : TabZ32 w) (g : Grew w w') : TabZ32 w' := fun j hj => g.keeps (h j hj)
theorem tz32 (x a : Nat) (hx : x < 4294967296) (hx0 : x ≠ 0) (hlow : x &&& (4294967296 - x) = a) :
    bits BinOp.and IntKind.u32 (x : Int) (-(x : Int) % 4294967296) * 125613361 % 4294967296 / 134217728 = ((a * 125613361 % 4294967296 / 134217728 : Nat) : Int) := by
  have e1 : -(x : Int) % 4294967296 = ((4294967296 - x : Nat) : Int) := by omega
  rw [e1, and32 x _ hx (by omega), hlow]
  omega
theorem zeros32 (x : Nat) (w : World) (hx : x < 4294967296) (hx0 : x ≠ 0) (hT : TabZ32 w) : Calls Tryd.prog 28 #[.int .u32 x] w fun e w' => e = .returned (.int .i64 (Lib.ctz 32 x)) ∧ w' = w := by
  obtain ⟨hlow, hk⟩ := Lib.lowest_bit 32 x hx0 hx
  obtain ⟨hi, htab⟩ := Lib.deBruijn32_at _ hk
  have hcell := hT _ hi
  rw [htab] at hcell
  have key := tz32 x _ hx hx0 hlow
  obtain ⟨idx, he⟩ : ∃ idx, 2 ^ Lib.ctz 32 x * 125613361 % 4294967296 / 134217728 = idx := ⟨_, rfl⟩
  rw [he] at key hi hcell
  generalize Lib.ctz 32 x = k at hk hcell ⊢
  have hx1 : ((x : Int) == 0) = false := by simp; omega
  clear he htab hlow hT
  go_enter Tryd.func28, Tryd.ntmps28
  go_wp2_with (simp only [key])
  go_ret
  exact ⟨rfl, rfl⟩
theorem low32 {x : Nat} (hx : x < 4294967296) (h0 : x ≠ 0) : x.testBit (Lib.ctz 32 x) = true ∧ ∀ i, (x &&& (x - 1)).testBit i = (x.testBit i && decide (i ≠ Lib.ctz 32 x)) := by
  obtain ⟨m, hm, hk⟩ := Lib.ctzFrom_spec 32 x (by omega) hx
  have hc : Lib.ctz 32 x = Lib.ctzFrom 32 x := if_neg h0
  rw [hc]
  generalize Lib.ctzFrom 32 x = k at hm hk
  have hp : 0 < 2 ^ k := Nat.two_pow_pos k
  have e1 : x - 1 = 2 ^ k * (2 * m) + (2 ^ k - 1) := by rw [hm, Nat.mul_add, Nat.mul_one]; omega
  have hb : ∀ i, x.testBit i = if i < k then false else (2 * m + 1).testBit (i - k) := fun i => by
    rw [hm, Nat.mul_comm, Nat.testBit_mul_two_pow]
    by_cases h : i < k
    · rw [if_pos h]; simp; omega
    · rw [if_neg h]; simp [show k ≤ i by omega]
  have hb1 : ∀ i, k ≤ i → (x - 1).testBit i = (2 * m).testBit (i - k) := fun i hi => by
    rw [e1, Nat.testBit_two_pow_mul_add _ (by omega), if_neg (by omega)]
  refine ⟨by rw [hb, if_neg (Nat.lt_irrefl k), Nat.sub_self, Nat.testBit_zero]; simp, fun i => ?_⟩
  rw [Nat.testBit_and]
  by_cases h : i < k
  · rw [hb, if_pos h]; rfl
  · rw [hb1 i (by omega), hb i, if_neg h]
    by_cases e : i = k
    · subst e; simp
    · obtain ⟨j, hj⟩ : ∃ j, i - k = j + 1 := ⟨i - k - 1, by omega⟩
      rw [hj, Nat.testBit_succ, Nat.testBit_succ, show (2 * m + 1) / 2 = m by omega, show 2 * m / 2 = m by omega]
      simp [e]
theorem low32_lt {x n : Nat} (hx : x < 2 ^ n) (hn : n ≤ 32) (h0 : x ≠ 0) : Lib.ctz 32 x < n := by
  have h := (low32 (Nat.lt_of_lt_of_le hx (Nat.pow_le_pow_right (n := 2) (by decide) hn)) h0).1
  apply Classical.byContradiction; intro hc
  have : x < 2 ^ Lib.ctz 32 x := Nat.lt_of_lt_of_le hx (Nat.pow_le_pow_right (n := 2) (by decide) (by omega))
  rw [Nat.testBit_lt_two_pow this] at h
  cases h
end Go.Proofs.YtkkdpafkafjfgaaDoor

namespace Go.Proofs.YtkkdpafkafjfgaaDoor
set_option linter.unusedVariables false
set_option linter.unusedSectionVars false
section
variable {α : Type} [DecidableEq α]
structure Exp (first : α) (st : α → Nat → α) (D : α → Prop) (ks : List α) (rows : List (Nat → Nat)) (i c : Nat) (row : Nat → Nat) : Prop where
  head : ks.getD 0 first = first ∧ 0 < ks.length
  dis : ks.Nodup
  dom : ∀ x ∈ ks, D x
  len : rows.length = i
  old : ∀ s, s < i → ∀ d, d < 256 → st (ks.getD s first) d ∈ ks ∧ (rows.getD s fun _ => 0) d = ks.idxOf (st (ks.getD s first) d)
  new : ∀ d, d < c → st (ks.getD i first) d ∈ ks ∧ row d = ks.idxOf (st (ks.getD i first) d)
  le : i ≤ ks.length
variable {first : α} {st : α → Nat → α} {D : α → Prop} {ks : List α} {rows : List (Nat → Nat)} {i c : Nat} {row : Nat → Nat}
theorem Exp.start (h : D first) : Exp first st D [first] [] 0 0 (fun _ => 0) :=
  ⟨⟨rfl, by simp⟩, by simp, fun x hx => by rw [List.mem_singleton] at hx; rw [hx]; exact h, rfl, fun s hs => by omega, fun d hd => by omega, by simp⟩
theorem getD_lt_mem {l : List α} {k : Nat} {d : α} (h : k < l.length) : l.getD k d ∈ l := by
  rw [List.getD_eq_getElem?_getD, List.getElem?_eq_getElem h]; exact List.getElem_mem h
theorem getD_app_lt {l r : List α} {k : Nat} {d : α} (h : k < l.length) : (l ++ r).getD k d = l.getD k d := by
  rw [List.getD_eq_getElem?_getD, List.getD_eq_getElem?_getD, List.getElem?_append_left h]
theorem Exp.seen (h : Exp first st D ks rows i c row) (hm : st (ks.getD i first) c ∈ ks) : Exp first st D ks rows i (c + 1) (fun d => if d = c then ks.idxOf (st (ks.getD i first) c) else row d) := by
  refine ⟨h.head, h.dis, h.dom, h.len, h.old, fun d hd => ?_, h.le⟩
  by_cases e : d = c
  · subst e; rw [if_pos rfl]; exact ⟨hm, rfl⟩
  · rw [if_neg e]; exact h.new d (by omega)
theorem Exp.fresh (h : Exp first st D ks rows i c row) (hi : i < ks.length) (hd : D (st (ks.getD i first) c)) (hm : st (ks.getD i first) c ∉ ks) :
    Exp first st D (ks ++ [st (ks.getD i first) c]) rows i (c + 1) (fun d => if d = c then ks.length else row d) := by
  have hl : ∀ {y : α}, y ∈ ks → y ∈ ks ++ [st (ks.getD i first) c] := fun hy => List.mem_append_left _ hy
  refine ⟨⟨by rw [getD_app_lt h.head.2]; exact h.head.1, by rw [List.length_append]; have := h.head.2; omega⟩, nodup_snoc h.dis hm, fun x hx => ?_, h.len, fun s hs d hd2 => ?_, fun d hd2 => ?_, by rw [List.length_append]; have := h.le; omega⟩
  · rcases List.mem_append.1 hx with hx | hx
    · exact h.dom x hx
    · rw [List.mem_singleton] at hx; rw [hx]; exact hd
  · have := h.old s hs d hd2
    rw [getD_app_lt (by omega), idx_pre this.1]
    exact ⟨hl this.1, this.2⟩
  · rw [getD_app_lt hi]
    by_cases e : d = c
    · subst e; rw [if_pos rfl, idx_new hm]; exact ⟨by simp, rfl⟩
    · have := h.new d (by omega)
      rw [if_neg e, idx_pre this.1]
      exact ⟨hl this.1, this.2⟩
theorem Exp.rowed (h : Exp first st D ks rows i 256 row) (hi : i < ks.length) : Exp first st D ks (rows ++ [row]) (i + 1) 0 (fun _ => 0) := by
  refine ⟨h.head, h.dis, h.dom, by rw [List.length_append, h.len]; rfl, fun s hs d hd => ?_, fun d hd => by omega, by omega⟩
  by_cases e : s < i
  · rw [List.getD_eq_getElem?_getD (l := rows ++ [row]), List.getElem?_append_left (by rw [h.len]; exact e), ← List.getD_eq_getElem?_getD]
    exact h.old s e d hd
  · have : s = i := by omega
    subst this
    rw [List.getD_eq_getElem?_getD (l := rows ++ [row]), List.getElem?_append_right (by rw [h.len]; exact Nat.le_refl _), h.len, Nat.sub_self]
    exact h.new d hd
theorem Exp.clear (h : Exp first st D ks rows i c row) (r : Nat → Nat) : Exp first st D ks rows i 0 r := ⟨h.head, h.dis, h.dom, h.len, h.old, fun d hd => by omega, h.le⟩
theorem Exp.congr (h : Exp first st D ks rows i c row) {r : Nat → Nat} (e : ∀ d, d < c → r d = row d) : Exp first st D ks rows i c r := ⟨h.head, h.dis, h.dom, h.len, h.old, fun d hd => by rw [e d hd]; exact h.new d hd, h.le⟩
def expA (en : α → Bool) (first : α) (ks : List α) (rows : List (Nat → Nat)) : RA := ⟨ks.length, fun s c => (rows.getD s fun _ => 0) c, fun s => en (ks.getD s first)⟩
theorem Exp.ok (h : Exp first st D ks rows ks.length c row) (en : α → Bool) : (expA en first ks rows).Ok :=
  ⟨h.head.2, fun s d hs hd => by obtain ⟨h1, h2⟩ := h.old s hs d hd; show (rows.getD s fun _ => 0) d < ks.length; rw [h2]; exact idx_lt h1⟩
def goS (st : α → Nat → α) (x : α) : List UInt8 → α
  | [] => x
  | c :: l => goS st (st x c.toNat) l
theorem Exp.tak (h : Exp first st D ks rows ks.length c row) (en : α → Bool) : ∀ (l : List UInt8) (s : Nat), s < ks.length → (expA en first ks rows).tak s l = en (goS st (ks.getD s first) l)
  | [], s, hs => rfl
  | d :: l, s, hs => by
    obtain ⟨h1, h2⟩ := h.old s hs d.toNat (u8_lt d)
    have h3 := idx_lt h1
    have := h.tak en l ((expA en first ks rows).nx s d.toNat) (by show (rows.getD s fun _ => 0) _ < _; rw [h2]; exact h3)
    unfold RA.tak at this ⊢
    rw [RA.go, this, goS]
    congr 2
    show ks.getD ((rows.getD s fun _ => 0) d.toNat) first = _
    rw [h2, List.getD_eq_getElem?_getD, idx_get h1]
    rfl
theorem Exp.lang (h : Exp first st D ks rows ks.length c row) (en : α → Bool) (l : List UInt8) : (expA en first ks rows).tak 0 l = en (goS st first l) := by rw [h.tak en l 0 h.head.2, h.head.1]
end
end Go.Proofs.YtkkdpafkafjfgaaDoor
