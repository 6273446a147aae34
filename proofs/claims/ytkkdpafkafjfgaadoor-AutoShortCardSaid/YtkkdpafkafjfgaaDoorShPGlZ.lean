/- math/bits.TrailingZeros32, by the library's own text, under its table; masks of 32 bits. -/
import Derived.Test.YtkkdpafkafjfgaaDoorShStBits
import Derived.Test.YtkkdpafkafjfgaaDoorShPOwn
import Derived.Laws.Rows
import Derived.Shelf.SlGeneric
import Derived.Shelf.SlicesE.Reverse
import Derived.Test.YtkkdpafkafjfgaaDoorProg
import Derived.Test.YtkkdpafkafjfgaaDoorShPBase
import Derived.Sort.Row
namespace Go.Proofs.YtkkdpafkafjfgaaDoor
open Go.RowKit
set_option linter.unusedVariables false
theorem wrap32 (n : Int) : IntKind.u32.wrap n = n % 4294967296 := by simp [IntKind.wrap, IntKind.signed, IntKind.bits]
theorem bits32 {op : BinOp} {f : Nat → Nat → Nat} (hf : ∀ a b : Nat, a < 4294967296 → b < 4294967296 → f a b < 4294967296)
    (hop : ∀ x y : Int, bits op .u32 x y = IntKind.u32.wrap ((f (BitVec.ofInt 32 x).toNat (BitVec.ofInt 32 y).toNat : Nat) : Int)) (a b : Nat) (ha : a < 4294967296) (hb : b < 4294967296) : bits op .u32 (a : Int) (b : Int) = ((f a b : Nat) : Int) := by
  have e : ∀ x : Nat, x < 4294967296 → (BitVec.ofInt 32 (x : Int)).toNat = x := fun x hx => by
    rw [BitVec.ofInt_natCast, BitVec.toNat_ofNat]; exact Nat.mod_eq_of_lt hx
  have := hf a b ha hb
  rw [hop, e a ha, e b hb, wrap32]; omega
theorem and32 (a b : Nat) (ha : a < 4294967296) (hb : b < 4294967296) : bits .and .u32 (a : Int) (b : Int) = ((a &&& b : Nat) : Int) :=
  bits32 (f := fun a b => a &&& b) (fun a b h _ => Nat.lt_of_le_of_lt Nat.and_le_left h) (fun x y => by
    show IntKind.u32.wrap ((BitVec.ofInt 32 x &&& BitVec.ofInt 32 y).toNat : Int) = _
    rw [BitVec.toNat_and]) a b ha hb
theorem or32 (a b : Nat) (ha : a < 4294967296) (hb : b < 4294967296) : bits .or .u32 (a : Int) (b : Int) = ((a ||| b : Nat) : Int) :=
  bits32 (f := fun a b => a ||| b) (fun a b h k => Nat.or_lt_two_pow (n := 32) h k) (fun x y => by
    show IntKind.u32.wrap ((BitVec.ofInt 32 x ||| BitVec.ofInt 32 y).toNat : Int) = _
    rw [BitVec.toNat_or]) a b ha hb
theorem not32 (b : Nat) (hb : b < 4294967296) (i : Nat) : (4294967295 - b).testBit i = (decide (i < 32) && !b.testBit i) := by
  have := Nat.testBit_two_pow_sub_succ (n := 32) hb i
  rwa [show 2 ^ 32 - (b + 1) = 4294967295 - b by omega] at this
theorem andNot32 (a b : Nat) (ha : a < 4294967296) (hb : b < 4294967296) : bits .andNot .u32 (a : Int) (b : Int) = ((a &&& (4294967295 - b) : Nat) : Int) := by
  have e : ∀ x : Nat, x < 4294967296 → (BitVec.ofInt 32 (x : Int)).toNat = x := fun x hx => by
    rw [BitVec.ofInt_natCast, BitVec.toNat_ofNat]; exact Nat.mod_eq_of_lt hx
  have h : a &&& (4294967295 - b) < 4294967296 := Nat.lt_of_le_of_lt Nat.and_le_left ha
  show IntKind.u32.wrap ((BitVec.ofInt 32 (a : Int) &&& ~~~ BitVec.ofInt 32 (b : Int)).toNat : Int) = _
  rw [BitVec.toNat_and, BitVec.toNat_not, e a ha, e b hb, wrap32]
  rw [show (2 ^ 32 - 1 - b : Nat) = 4294967295 - b from rfl]
  omega
def TabZ32 (w : World) : Prop := ∀ j, j < 32 → w.cell? ⟨0, j, none⟩ = some (.int .u8 (Lib.deBruijn32tab.getD j 0))
theorem TabZ32.kept {w w' : World} (h : TabZ32 w) (g : Grew w w') : TabZ32 w' := fun j hj => g.keeps (h j hj)
theorem tz32 (x a : Nat) (hx : x < 4294967296) (hx0 : x ≠ 0) (hlow : x &&& (4294967296 - x) = a) :
    bits BinOp.and IntKind.u32 (x : Int) (-(x : Int) % 4294967296) * 125613361 % 4294967296 / 134217728 = ((a * 125613361 % 4294967296 / 134217728 : Nat) : Int) := by
  have e1 : -(x : Int) % 4294967296 = ((4294967296 - x : Nat) : Int) := by omega
  rw [e1, and32 x _ hx (by omega), hlow]
  omega
theorem zeros32 (x : Nat) (w : World) (hx : x < 4294967296) (hx0 : x ≠ 0) (hT : TabZ32 w) : Calls Tryd.prog 28 #[.int .u32 x] w fun e w' => e = .returned (.int .i64 (Lib.ctz 32 x)) ∧ w' = w := by
  obtain ⟨hlow, hk⟩ := Lib.lowest_bit 32 x hx0 hx
  obtain ⟨hi, htab⟩ := Lib.deBruijn32_at _ hk
  have hcell := hT _ hi
  rw [htab] at hcell
  have key := tz32 x _ hx hx0 hlow
  obtain ⟨idx, he⟩ : ∃ idx, 2 ^ Lib.ctz 32 x * 125613361 % 4294967296 / 134217728 = idx := ⟨_, rfl⟩
  rw [he] at key hi hcell
  generalize Lib.ctz 32 x = k at hk hcell ⊢
  have hx1 : ((x : Int) == 0) = false := by simp; omega
  clear he htab hlow hT
  go_enter Tryd.func28, Tryd.ntmps28
  go_wp2_with (simp only [key])
  go_ret
  exact ⟨rfl, rfl⟩
theorem low32 {x : Nat} (hx : x < 4294967296) (h0 : x ≠ 0) : x.testBit (Lib.ctz 32 x) = true ∧ ∀ i, (x &&& (x - 1)).testBit i = (x.testBit i && decide (i ≠ Lib.ctz 32 x)) := by
  obtain ⟨m, hm, hk⟩ := Lib.ctzFrom_spec 32 x (by omega) hx
  have hc : Lib.ctz 32 x = Lib.ctzFrom 32 x := if_neg h0
  rw [hc]
  generalize Lib.ctzFrom 32 x = k at hm hk
  have hp : 0 < 2 ^ k := Nat.two_pow_pos k
  have e1 : x - 1 = 2 ^ k * (2 * m) + (2 ^ k - 1) := by rw [hm, Nat.mul_add, Nat.mul_one]; omega
  have hb : ∀ i, x.testBit i = if i < k then false else (2 * m + 1).testBit (i - k) := fun i => by
    rw [hm, Nat.mul_comm, Nat.testBit_mul_two_pow]
    by_cases h : i < k
    · rw [if_pos h]; simp; omega
    · rw [if_neg h]; simp [show k ≤ i by omega]
  have hb1 : ∀ i, k ≤ i → (x - 1).testBit i = (2 * m).testBit (i - k) := fun i hi => by
    rw [e1, Nat.testBit_two_pow_mul_add _ (by omega), if_neg (by omega)]
  refine ⟨by rw [hb, if_neg (Nat.lt_irrefl k), Nat.sub_self, Nat.testBit_zero]; simp, fun i => ?_⟩
  rw [Nat.testBit_and]
  by_cases h : i < k
  · rw [hb, if_pos h]; rfl
  · rw [hb1 i (by omega), hb i, if_neg h]
    by_cases e : i = k
    · subst e; simp
    · obtain ⟨j, hj⟩ : ∃ j, i - k = j + 1 := ⟨i - k - 1, by omega⟩
      rw [hj, Nat.testBit_succ, Nat.testBit_succ, show (2 * m + 1) / 2 = m by omega, show 2 * m / 2 = m by omega]
      simp [e]
theorem low32_lt {x n : Nat} (hx : x < 2 ^ n) (hn : n ≤ 32) (h0 : x ≠ 0) : Lib.ctz 32 x < n := by
  have h := (low32 (Nat.lt_of_lt_of_le hx (Nat.pow_le_pow_right (n := 2) (by decide) hn)) h0).1
  apply Classical.byContradiction; intro hc
  have : x < 2 ^ Lib.ctz 32 x := Nat.lt_of_lt_of_le hx (Nat.pow_le_pow_right (n := 2) (by decide) (by omega))
  rw [Nat.testBit_lt_two_pow this] at h
  cases h
end Go.Proofs.YtkkdpafkafjfgaaDoor

namespace Go.Proofs.YtkkdpafkafjfgaaDoor
open Go.RowKit
set_option linter.unusedVariables false
theorem results_cellA {fn : Func} {p : Tmp} {ty : TypeId} (h : fn.results = #[.cell p ty]) (tmps : Array Value) (P : Program) (w : World) :
    (results fn tmps).run P w = ((asAddr (tmps.getD p undef)).run P w).andThen fun a w₁ => (loadVar ty a).run P w₁ := by
  simp only [results, h]
  simp [Sem.run_bind, Result.andThen]
theorem wpList_build_row {ops : Array Oper} {rest : List Oper} {o : Oper} {a : Act} {w : World} {Q : Exit → Act → World → Prop} (hgd : o.guard = none) {x : Operand} (ho : o.op = .buildSlice 90 1 #[(0, x)]) {f : Nat → Int} (hx : a.eval x = .agg (rowI f))
    (h : wpList Tryd.prog ops Q rest (a.put o.dst (.slice (some ⟨w.heap.size, 0, none⟩) 1 1)) (w.alloc (.cells (rowI f) 26))) : wpList Tryd.prog ops Q (o :: rest) a w := by
  refine wpList_plain hgd fun _ hK => ?_
  unfold Oper.wp execOp
  simp only [ho, List.map_toArray, List.map_cons, List.map_nil, hx, Sem.run_bind, build_row, Result.andThen_ok, Sem.run_pure]
  exact hK _ _ h
end Go.Proofs.YtkkdpafkafjfgaaDoor

namespace Go.Proofs
open Go.Shelf
def Tryd.laysSlE35_f47_ren : Go.Shelf.Ren := ⟨fun | 35 => 47 | n => n, fun | 22 => 109 | 23 => 5 | 3 => 3 | 4 => 4 | 0 => 0 | n => n, fun | n => n⟩
theorem Tryd.laysSlE35_f47 : Go.Proofs.SlLaysE.n35 Tryd.prog Tryd.laysSlE35_f47_ren := {
  mixed := by kernel_rfl
  f35 := ⟨Tryd.f47.name, by decide, Tryd.func47.trans (congrArg some (by kernel_rfl))⟩
  t0 := Tryd.underlying0
  a0 := Tryd.isAgg0
  z0 := Tryd.sizeOf0
  v0 := Tryd.zeroValue0
  t3 := Tryd.underlying3
  a3 := Tryd.isAgg3
  z3 := Tryd.sizeOf3
  v3 := Tryd.zeroValue3
  t4 := Tryd.underlying4
  a4 := Tryd.isAgg4
  z4 := Tryd.sizeOf4
  v4 := Tryd.zeroValue4
  t22 := Tryd.underlying109
  a22 := Tryd.isAgg109
  z22 := Tryd.sizeOf109
  v22 := Tryd.zeroValue109
  a23 := Tryd.isAgg5
  z23 := Tryd.sizeOf5 }
open Go.RowKit Go.Lib Go.Sort in
theorem Tryd.slices_Reverse_bytes {α : Type} [Inhabited α] (enc : α → Value) (h1 : OneCell enc) (blk off cap : Nat) (zs : List α) (w : World) (hH : Holds enc w blk off zs.toArray) (hsz : zs.length ≤ 9223372036854775807) :
    Calls Tryd.prog 47 #[.slice (some ⟨blk, off, none⟩) zs.length cap] w fun e w' => e = .returned (.tuple #[]) ∧ ∃ n, w' = putRow enc (Sort.ahead w n) blk off zs.reverse.toArray := AnyE.slices_Reverse Tryd.laysSlE35_f47 enc h1 blk off cap zs w hH hsz
end Go.Proofs

namespace Go.Proofs.YtkkdpafkafjfgaaDoor
open Go.RowKit
open Go.Sort (Holds mapBlock ahead putRow holds_putRow holds_ahead)
set_option linter.unusedVariables false
theorem bytesOf (w : World) (s : ByteArray) : (convert 9 109 (.string s)).run Tryd.prog w = .ok (.slice (some ⟨w.heap.size, 0, none⟩) s.size (grownCap w s.size 0 5))
      (w.drew.alloc (.cells (bytesRow s (grownCap w s.size 0 5)) 5 ((bytesRow s (grownCap w s.size 0 5)).size, (bytesRow s (grownCap w s.size 0 5)).size + 1))) :=
  run_bytes_of_string (P := Tryd.prog) w 9 109 5 s Tryd.underlying9 Tryd.underlying109 Tryd.underlying5
def encB (x : UInt8) : Value := .int .u8 x.toNat
def BytesAt (w : World) (b off : Nat) (l : List UInt8) : Prop := Holds encB w b off l.toArray
theorem below_mapBlock (w : World) (b : Nat) (f : Array Value → Array Value) : Below b w (mapBlock w b f) :=
  ⟨rfl, rfl, rfl, by simp [mapBlock], fun k hk => by simp only [mapBlock, Array.getElem?_modify]; rw [if_neg (by omega)]⟩
theorem below_ahead (w : World) (b n : Nat) : Below b w (Go.Sort.ahead w n) := ⟨rfl, rfl, rfl, Nat.le_refl _, fun _ _ => rfl⟩
theorem rev_bytes (l : List UInt8) (b off cap : Nat) (w : World) (h : BytesAt w b off l) (hl : l.length ≤ 9223372036854775807) :
    Calls Tryd.prog 47 #[.slice (some ⟨b, off, none⟩) l.length cap] w fun e w' => e = .returned (.tuple #[]) ∧ BytesAt w' b off l.reverse ∧ Below b w w' := by
  refine (Tryd.slices_Reverse_bytes encB (fun _ => rfl) b off cap l w h hl).mono ?_
  rintro e w' ⟨rfl, n, rfl⟩
  exact ⟨rfl, holds_putRow encB _ b off l.toArray _ (holds_ahead encB w n b off _ h) (by simp), (below_ahead w b n).trans (below_mapBlock _ _ _)⟩
theorem addr_add (b off j : Nat) : (⟨b, off, none⟩ : Addr).add j = ⟨b, off + j, none⟩ := by
  unfold Addr.add; split
  · next h0 => subst h0; rfl
  · rfl
theorem BytesAt.conv {w : World} {b off cap : Nat} {l : List UInt8} (h : BytesAt w b off l) :
    (convert 109 9 (.slice (some ⟨b, off, none⟩) l.length cap)).run Tryd.prog w = .ok (.string ⟨l.toArray⟩) w :=
  run_convert_bytes_back w 109 9 5 ⟨b, off, none⟩ cap l Tryd.underlying109 Tryd.underlying5 Tryd.underlying9 (fun j hj => by
    have := (h j (by simpa using hj)).1
    rw [addr_add, this]
    simp [encB, hj])
theorem size_bytesRow (s : ByteArray) (cap : Nat) : s.size ≤ (bytesRow s cap).size := by
  unfold bytesRow
  rw [Array.size_append, Array.size_map]
  exact Nat.le_add_right _ _
theorem bytesAt_row (w : World) (s : ByteArray) (cap : Nat) (t : TypeId) : BytesAt (w.alloc (.cells (bytesRow s cap) t ((bytesRow s cap).size, (bytesRow s cap).size + 1))) w.heap.size 0 s.data.toList := by
  intro j hj
  have hj' : j < s.data.size := by simpa using hj
  refine ⟨?_, ?_⟩
  · rw [Nat.zero_add, World.cell?_alloc_mark, bytesRow_at s cap j hj']
    simp [encB]
    rw [getElem!_pos s.data j hj']
  · rw [Nat.zero_add, World.frozen?_alloc_mark]
    have h1 : s.data.size = s.size := rfl
    have h2 := size_bytesRow s cap
    simp; omega
theorem BytesAt.at0 {w : World} {b : Nat} {l : List UInt8} (h : BytesAt w b 0 l) (k : Nat) (hk : k < l.length) : w.cell? ⟨b, k, none⟩ = some (.int .u8 (l[k].toNat : Int)) := by
  have := (h k (by simpa using hk)).1
  rw [Nat.zero_add] at this
  rw [this]; simp [encB, hk]
theorem BytesAt.drew {w : World} {b off : Nat} {l : List UInt8} (h : BytesAt w b off l) : BytesAt w.drew b off l := h
end Go.Proofs.YtkkdpafkafjfgaaDoor
