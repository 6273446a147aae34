/- math/bits.TrailingZeros32, by the library's own text, under its table; masks of 32 bits. -/
import Derived.Test.YtkkdpafkafjfgaaDoorMkPStBits
import Derived.Laws.Rows
import Derived.Deep.RegionHeld3
import Derived.Shelf.SlGeneric
import Derived.Shelf.SlicesE.Reverse
import Derived.Test.YtkkdpafkafjfgaaDoorProg
import Derived.Test.YtkkdpafkafjfgaaDoorMkPBase
import Derived.Sort.Row
import Derived.Maps.OwnOps
namespace Go.Proofs.YtkkdpafkafjfgaaDoor
open Go.RowKit
set_option linter.unusedVariables false
theorem wrap32 (n : Int) : IntKind.u32.wrap n = n % 4294967296 := by simp [IntKind.wrap, IntKind.signed, IntKind.bits]
theorem bits32 {op : BinOp} {f : Nat → Nat → Nat} (hf : ∀ a b : Nat, a < 4294967296 → b < 4294967296 → f a b < 4294967296)
    (hop : ∀ x y : Int, bits op .u32 x y = IntKind.u32.wrap ((f (BitVec.ofInt 32 x).toNat (BitVec.ofInt 32 y).toNat : Nat) : Int)) (a b : Nat) (ha : a < 4294967296) (hb : b < 4294967296) : bits op .u32 (a : Int) (b : Int) = ((f a b : Nat) : Int) := by
  have e : ∀ x : Nat, x < 4294967296 → (BitVec.ofInt 32 (x : Int)).toNat = x := fun x hx => by
    rw [BitVec.ofInt_natCast, BitVec.toNat_ofNat]; exact Nat.mod_eq_of_lt hx
  have := hf a b ha hb
  rw [hop, e a ha, e b hb, wrap32]; omega
theorem and32 (a b : Nat) (ha : a < 4294967296) (hb : b < 4294967296) : bits .and .u32 (a : Int) (b : Int) = ((a &&& b : Nat) : Int) :=
  bits32 (f := fun a b => a &&& b) (fun a b h _ => Nat.lt_of_le_of_lt Nat.and_le_left h) (fun x y => by
    show IntKind.u32.wrap ((BitVec.ofInt 32 x &&& BitVec.ofInt 32 y).toNat : Int) = _
    rw [BitVec.toNat_and]) a b ha hb
theorem or32 (a b : Nat) (ha : a < 4294967296) (hb : b < 4294967296) : bits .or .u32 (a : Int) (b : Int) = ((a ||| b : Nat) : Int) :=
  bits32 (f := fun a b => a ||| b) (fun a b h k => Nat.or_lt_two_pow (n := 32) h k) (fun x y => by
    show IntKind.u32.wrap ((BitVec.ofInt 32 x ||| BitVec.ofInt 32 y).toNat : Int) = _
    rw [BitVec.toNat_or]) a b ha hb
theorem not32 (b : Nat) (hb : b < 4294967296) (i : Nat) : (4294967295 - b).testBit i = (decide (i < 32) && !b.testBit i) := by
  have := Nat.testBit_two_pow_sub_succ (n := 32) hb i
  rwa [show 2 ^ 32 - (b + 1) = 4294967295 - b by omega] at this
theorem andNot32 (a b : Nat) (ha : a < 4294967296) (hb : b < 4294967296) : bits .andNot .u32 (a : Int) (b : Int) = ((a &&& (4294967295 - b) : Nat) : Int) := by
  have e : ∀ x : Nat, x < 4294967296 → (BitVec.ofInt 32 (x : Int)).toNat = x := fun x hx => by
    rw [BitVec.ofInt_natCast, BitVec.toNat_ofNat]; exact Nat.mod_eq_of_lt hx
  have h : a &&& (4294967295 - b) < 4294967296 := Nat.lt_of_le_of_lt Nat.and_le_left ha
  show IntKind.u32.wrap ((BitVec.ofInt 32 (a : Int) &&& ~~~ BitVec.ofInt 32 (b : Int)).toNat : Int) = _
  rw [BitVec.toNat_and, BitVec.toNat_not, e a ha, e b hb, wrap32]
  rw [show (2 ^ 32 - 1 - b : Nat) = 4294967295 - b from rfl]
  omega
def TabZ32 (w : World) : Prop := ∀ j, j < 32 → w.cell? ⟨0, j, none⟩ = some (.int .u8 (Lib.deBruijn32tab.getD j 0))
theorem TabZ32.kept {w w' : World} (h : TabZ32 w) (g : Grew w w') : TabZ32 w' := fun j hj => g.keeps (h j hj)
theorem tz32 (x a : Nat) (hx : x < 4294967296) (hx0 : x ≠ 0) (hlow : x &&& (4294967296 - x) = a) :
    bits BinOp.and IntKind.u32 (x : Int) (-(x : Int) % 4294967296) * 125613361 % 4294967296 / 134217728 = ((a * 125613361 % 4294967296 / 134217728 : Nat) : Int) := by
  have e1 : -(x : Int) % 4294967296 = ((4294967296 - x : Nat) : Int) := by omega
  rw [e1, and32 x _ hx (by omega), hlow]
  omega
theorem zeros32 (x : Nat) (w : World) (hx : x < 4294967296) (hx0 : x ≠ 0) (hT : TabZ32 w) : Calls Tryd.prog 28 #[.int .u32 x] w fun e w' => e = .returned (.int .i64 (Lib.ctz 32 x)) ∧ w' = w := by
  obtain ⟨hlow, hk⟩ := Lib.lowest_bit 32 x hx0 hx
  obtain ⟨hi, htab⟩ := Lib.deBruijn32_at _ hk
  have hcell := hT _ hi
  rw [htab] at hcell
  have key := tz32 x _ hx hx0 hlow
  obtain ⟨idx, he⟩ : ∃ idx, 2 ^ Lib.ctz 32 x * 125613361 % 4294967296 / 134217728 = idx := ⟨_, rfl⟩
  rw [he] at key hi hcell
  generalize Lib.ctz 32 x = k at hk hcell ⊢
  have hx1 : ((x : Int) == 0) = false := by simp; omega
  clear he htab hlow hT
  go_enter Tryd.func28, Tryd.ntmps28
  go_wp2_with (simp only [key])
  go_ret
  exact ⟨rfl, rfl⟩
theorem low32 {x : Nat} (hx : x < 4294967296) (h0 : x ≠ 0) : x.testBit (Lib.ctz 32 x) = true ∧ ∀ i, (x &&& (x - 1)).testBit i = (x.testBit i && decide (i ≠ Lib.ctz 32 x)) := by
  obtain ⟨m, hm, hk⟩ := Lib.ctzFrom_spec 32 x (by omega) hx
  have hc : Lib.ctz 32 x = Lib.ctzFrom 32 x := if_neg h0
  rw [hc]
  generalize Lib.ctzFrom 32 x = k at hm hk
  have hp : 0 < 2 ^ k := Nat.two_pow_pos k
  have e1 : x - 1 = 2 ^ k * (2 * m) + (2 ^ k - 1) := by rw [hm, Nat.mul_add, Nat.mul_one]; omega
  have hb : ∀ i, x.testBit i = if i < k then false else (2 * m + 1).testBit (i - k) := fun i => by
    rw [hm, Nat.mul_comm, Nat.testBit_mul_two_pow]
    by_cases h : i < k
    · rw [if_pos h]; simp; omega
    · rw [if_neg h]; simp [show k ≤ i by omega]
  have hb1 : ∀ i, k ≤ i → (x - 1).testBit i = (2 * m).testBit (i - k) := fun i hi => by
    rw [e1, Nat.testBit_two_pow_mul_add _ (by omega), if_neg (by omega)]
  refine ⟨by rw [hb, if_neg (Nat.lt_irrefl k), Nat.sub_self, Nat.testBit_zero]; simp, fun i => ?_⟩
  rw [Nat.testBit_and]
  by_cases h : i < k
  · rw [hb, if_pos h]; rfl
  · rw [hb1 i (by omega), hb i, if_neg h]
    by_cases e : i = k
    · subst e; simp
    · obtain ⟨j, hj⟩ : ∃ j, i - k = j + 1 := ⟨i - k - 1, by omega⟩
      rw [hj, Nat.testBit_succ, Nat.testBit_succ, show (2 * m + 1) / 2 = m by omega, show 2 * m / 2 = m by omega]
      simp [e]
theorem low32_lt {x n : Nat} (hx : x < 2 ^ n) (hn : n ≤ 32) (h0 : x ≠ 0) : Lib.ctz 32 x < n := by
  have h := (low32 (Nat.lt_of_lt_of_le hx (Nat.pow_le_pow_right (n := 2) (by decide) hn)) h0).1
  apply Classical.byContradiction; intro hc
  have : x < 2 ^ Lib.ctz 32 x := Nat.lt_of_lt_of_le hx (Nat.pow_le_pow_right (n := 2) (by decide) (by omega))
  rw [Nat.testBit_lt_two_pow this] at h
  cases h
end Go.Proofs.YtkkdpafkafjfgaaDoor

namespace Go.Proofs.YtkkdpafkafjfgaaDoor
open Go.RowKit
set_option linter.unusedVariables false
end Go.Proofs.YtkkdpafkafjfgaaDoor

namespace Go.Proofs.YtkkdpafkafjfgaaDoor
open Go.RowKit
set_option linter.unusedVariables false
theorem results_cellA {fn : Func} {p : Tmp} {ty : TypeId} (h : fn.results = #[.cell p ty]) (tmps : Array Value) (P : Program) (w : World) :
    (results fn tmps).run P w = ((asAddr (tmps.getD p undef)).run P w).andThen fun a w₁ => (loadVar ty a).run P w₁ := by
  simp only [results, h]
  simp [Sem.run_bind, Result.andThen]
theorem wpList_build_row {ops : Array Oper} {rest : List Oper} {o : Oper} {a : Act} {w : World} {Q : Exit → Act → World → Prop} (hgd : o.guard = none) {x : Operand} (ho : o.op = .buildSlice 90 1 #[(0, x)]) {f : Nat → Int} (hx : a.eval x = .agg (rowI f))
    (h : wpList Tryd.prog ops Q rest (a.put o.dst (.slice (some ⟨w.heap.size, 0, none⟩) 1 1)) (w.alloc (.cells (rowI f) 26))) : wpList Tryd.prog ops Q (o :: rest) a w := by
  refine wpList_plain hgd fun _ hK => ?_
  unfold Oper.wp execOp
  simp only [ho, List.map_toArray, List.map_cons, List.map_nil, hx, Sem.run_bind, build_row, Result.andThen_ok, Sem.run_pure]
  exact hK _ _ h
end Go.Proofs.YtkkdpafkafjfgaaDoor

namespace Go.Proofs.YtkkdpafkafjfgaaDoor
open Go.RowKit
set_option linter.unusedVariables false
theorem info_aut : (Tryd.prog.info? 30).map (·.size) = some 258 := by kernel_rfl
end Go.Proofs.YtkkdpafkafjfgaaDoor

namespace Go.Proofs
open Go.Shelf
end Go.Proofs

namespace Go.Proofs.YtkkdpafkafjfgaaDoor
open Go.RowKit
open Go.Sort (Holds mapBlock ahead putRow holds_putRow holds_ahead)
set_option linter.unusedVariables false
theorem bytesOf (w : World) (s : ByteArray) : (convert 9 109 (.string s)).run Tryd.prog w = .ok (.slice (some ⟨w.heap.size, 0, none⟩) s.size (grownCap w s.size 0 5))
      (w.drew.alloc (.cells (bytesRow s (grownCap w s.size 0 5)) 5 ((bytesRow s (grownCap w s.size 0 5)).size, (bytesRow s (grownCap w s.size 0 5)).size + 1))) :=
  run_bytes_of_string (P := Tryd.prog) w 9 109 5 s Tryd.underlying9 Tryd.underlying109 Tryd.underlying5
def encB (x : UInt8) : Value := .int .u8 x.toNat
def BytesAt (w : World) (b off : Nat) (l : List UInt8) : Prop := Holds encB w b off l.toArray
theorem addr_add (b off j : Nat) : (⟨b, off, none⟩ : Addr).add j = ⟨b, off + j, none⟩ := by
  unfold Addr.add; split
  · next h0 => subst h0; rfl
  · rfl
theorem BytesAt.conv {w : World} {b off cap : Nat} {l : List UInt8} (h : BytesAt w b off l) :
    (convert 109 9 (.slice (some ⟨b, off, none⟩) l.length cap)).run Tryd.prog w = .ok (.string ⟨l.toArray⟩) w :=
  run_convert_bytes_back w 109 9 5 ⟨b, off, none⟩ cap l Tryd.underlying109 Tryd.underlying5 Tryd.underlying9 (fun j hj => by
    have := (h j (by simpa using hj)).1
    rw [addr_add, this]
    simp [encB, hj])
theorem size_bytesRow (s : ByteArray) (cap : Nat) : s.size ≤ (bytesRow s cap).size := by
  unfold bytesRow
  rw [Array.size_append, Array.size_map]
  exact Nat.le_add_right _ _
theorem bytesAt_row (w : World) (s : ByteArray) (cap : Nat) (t : TypeId) : BytesAt (w.alloc (.cells (bytesRow s cap) t ((bytesRow s cap).size, (bytesRow s cap).size + 1))) w.heap.size 0 s.data.toList := by
  intro j hj
  have hj' : j < s.data.size := by simpa using hj
  refine ⟨?_, ?_⟩
  · rw [Nat.zero_add, World.cell?_alloc_mark, bytesRow_at s cap j hj']
    simp [encB]
    rw [getElem!_pos s.data j hj']
  · rw [Nat.zero_add, World.frozen?_alloc_mark]
    have h1 : s.data.size = s.size := rfl
    have h2 := size_bytesRow s cap
    simp; omega
theorem BytesAt.at0 {w : World} {b : Nat} {l : List UInt8} (h : BytesAt w b 0 l) (k : Nat) (hk : k < l.length) : w.cell? ⟨b, k, none⟩ = some (.int .u8 (l[k].toNat : Int)) := by
  have := (h k (by simpa using hk)).1
  rw [Nat.zero_add] at this
  rw [this]; simp [encB, hk]
theorem BytesAt.drew {w : World} {b off : Nat} {l : List UInt8} (h : BytesAt w b off l) : BytesAt w.drew b off l := h
end Go.Proofs.YtkkdpafkafjfgaaDoor

namespace Go.Proofs.YtkkdpafkafjfgaaDoor
open Go.RowKit Go.Maps
open Go.ChangeMaps (setBlock heap_setBlock_same heap_setBlock_other modify_eq_set)
set_option linter.unusedVariables false
def MapL (P : Program) (k : TypeId) (w : World) (b : Nat) (l : List (Value × Value)) : Prop :=
  ∃ es clock, w.heap[b]? = some (.map es clock) ∧ es.toList.map (fun e => (e.key, e.val)) = l ∧ (∀ x ∈ l, ∃ y, keyOf P k x.1 = some y) ∧ (l.map (·.1)).Nodup
structure Enc (P : Program) (k : TypeId) (α : Type) where
  enc : α → Value
  D : α → Prop
  key : ∀ x, D x → ∃ y, keyOf P k (enc x) = some y
  inj : ∀ x y, D x → D y → enc x = enc y → x = y
section
variable {P : Program} {k e t : TypeId} {w w' : World} {b : Nat} {l : List (Value × Value)}
theorem MapL.lt (h : MapL P k w b l) : b < w.heap.size := by
  obtain ⟨es, clock, hb, _⟩ := h
  exact (Array.getElem?_eq_some_iff.1 hb).1
theorem MapL.made (w : World) (P : Program) (k : TypeId) : MapL P k (w.alloc (.map #[] 0)) w.heap.size [] := ⟨#[], 0, (MapKept.heap_alloc w _).1, rfl, fun x hx => by simp at hx, by simp⟩
theorem MapL.block (h : MapL P k w b l) (hg : w'.heap[b]? = w.heap[b]?) : MapL P k w' b l := by
  obtain ⟨es, clock, hb, r⟩ := h
  exact ⟨es, clock, hg.trans hb, r⟩
theorem MapL.kept (h : MapL P k w b l) (g : Grew w w') : MapL P k w' b l := h.block (g.block b h.lt)
theorem MapL.grown {row : Option Nat} (h : MapL P k w b l) (g : w.grownBy w' row) (hne : some b ≠ row) : MapL P k w' b l := h.block (g.block b h.lt hne)
theorem MapL.other (h : MapL P k w b l) (p : Addr) (hp : p.block ≠ b) (v : Value) : MapL P k (w.setCell p v) b l := h.block (by simp [World.setCell, Array.getElem?_modify, hp])
theorem MapL.lookN (h : MapL P k w b l) (K : Keyed P k) (ht : P.underlying t = some (.map k e)) {z : Value} (hz : (zeroValue e).run P w = .ok z w) {key : Value} (hkey : ∃ y, keyOf P k key = some y) (hn : ∀ x ∈ l, x.1 ≠ key) (c : Bool) :
    (Instr.lookup t (.map (some b)) key c).run P w = .ok (if c then .tuple #[z, .bool false] else z) w := by
  obtain ⟨es, clock, hb, rfl, hk, _⟩ := h
  obtain ⟨kl, hkl⟩ := hkey
  rcases K.find w hkl es.toList (fun x hx => hk _ (List.mem_map.2 ⟨x, hx, rfl⟩)) with ⟨h1, h2⟩ | ⟨j, e0, h1, h2, h3⟩
  · simp [Instr.lookup, run_underlying ht, MapKept.run_getObj_map hb, K.check w _ hkl, h1, hz, Result.andThen]
  · exact absurd h3 (hn (e0.key, e0.val) (List.mem_map.2 ⟨e0, List.mem_of_getElem? h2, rfl⟩))
theorem nodup_one {α β : Type} {l : List (α × β)} (h : (l.map (·.1)).Nodup) {x : α} {u v : β} (hu : (x, u) ∈ l) (hv : (x, v) ∈ l) : u = v := by
  induction l with
  | nil => simp at hu
  | cons y l ih =>
    rw [List.map_cons, List.nodup_cons] at h
    rcases List.mem_cons.1 hu with e1 | e1 <;> rcases List.mem_cons.1 hv with e2 | e2
    · rw [← e1] at e2; exact (Prod.mk.inj e2).2.symm
    · exact absurd (List.mem_map.2 ⟨_, e2, by rw [← e1]⟩) h.1
    · exact absurd (List.mem_map.2 ⟨_, e1, by rw [← e2]⟩) h.1
    · exact ih h.2 e1 e2
theorem MapL.lookS (h : MapL P k w b l) (K : Keyed P k) (ht : P.underlying t = some (.map k e)) {key v : Value} (hv : (key, v) ∈ l) (c : Bool) :
    (Instr.lookup t (.map (some b)) key c).run P w = .ok (if c then .tuple #[v, .bool true] else v) w := by
  obtain ⟨es, clock, hb, rfl, hk, hn⟩ := h
  obtain ⟨kl, hkl⟩ := hk _ hv
  rcases K.find w hkl es.toList (fun x hx => hk _ (List.mem_map.2 ⟨x, hx, rfl⟩)) with ⟨h1, h2⟩ | ⟨j, e0, h1, h2, h3⟩
  · obtain ⟨x, hx, hxe⟩ := List.mem_map.1 hv
    exact absurd (congrArg (·.1) hxe) (h2 x hx)
  · have he : (key, e0.val) ∈ es.toList.map (fun e => (e.key, e.val)) := List.mem_map.2 ⟨e0, List.mem_of_getElem? h2, by rw [h3]⟩
    have : e0.val = v := nodup_one hn he hv
    simp [Instr.lookup, run_underlying ht, MapKept.run_getObj_map hb, K.check w _ hkl, h1, this, Result.andThen]
theorem MapL.put (h : MapL P k w b l) (K : Keyed P k) (ht : P.underlying t = some (.map k e)) {key : Value} (hkey : ∃ y, keyOf P k key = some y) (hn : ∀ x ∈ l, x.1 ≠ key) (val : Value) :
    ∃ w', (Instr.mapUpdate t (.map (some b)) key val).run P w = .ok () w' ∧ MapL P k w' b (l ++ [(key, val)]) ∧ w.grownBy w' (some b) ∧ w'.heap.size = w.heap.size := by
  obtain ⟨es, clock, hb, rfl, hk, hd⟩ := h
  obtain ⟨kl, hkl⟩ := hkey
  rcases K.find w hkl es.toList (fun x hx => hk _ (List.mem_map.2 ⟨x, hx, rfl⟩)) with ⟨h1, h2⟩ | ⟨j, e0, h1, h2, h3⟩
  · refine ⟨setBlock w b (.map (es.push ⟨key, val, clock⟩) (clock + 1)), by simp [Instr.mapUpdate, run_underlying ht, MapKept.run_getObj_map hb, K.check w false hkl, h1, MapKept.run_setObj_map _ hb, Result.andThen, setBlock],
      ⟨_, _, heap_setBlock_same hb _, by simp, fun x hx => ?_, ?_⟩, ⟨rfl, rfl, rfl, by simp [setBlock], fun i _ hi => heap_setBlock_other hb _ (fun e => hi (by rw [e]))⟩, by simp [setBlock]⟩
    · rcases List.mem_append.1 hx with hx | hx
      · exact hk x hx
      · rw [List.mem_singleton] at hx; rw [hx]; exact ⟨kl, hkl⟩
    · rw [List.map_append, List.nodup_append]
      refine ⟨hd, by simp, fun a ha c hc => ?_⟩
      obtain ⟨x, hx, rfl⟩ := List.mem_map.1 ha
      simp only [List.map_cons, List.map_nil, List.mem_singleton] at hc
      rw [hc]; exact hn x hx
  · exact absurd h3 (hn (e0.key, e0.val) (List.mem_map.2 ⟨e0, List.mem_of_getElem? h2, rfl⟩))
theorem MapL.again (h : MapL P k w b l) (K : Keyed P k) (ht : P.underlying t = some (.map k e)) {key val : Value} (hv : (key, val) ∈ l) :
    ∃ w', (Instr.mapUpdate t (.map (some b)) key val).run P w = .ok () w' ∧ MapL P k w' b l ∧ w.grownBy w' (some b) ∧ w'.heap.size = w.heap.size := by
  obtain ⟨es, clock, hb, rfl, hk, hd⟩ := h
  obtain ⟨kl, hkl⟩ := hk _ hv
  rcases K.find w hkl es.toList (fun x hx => hk _ (List.mem_map.2 ⟨x, hx, rfl⟩)) with ⟨h1, h2⟩ | ⟨j, e0, h1, h2, h3⟩
  · obtain ⟨x, hx, hxe⟩ := List.mem_map.1 hv
    exact absurd (congrArg (·.1) hxe) (h2 x hx)
  · have hj : es[j]? = some e0 := by simpa using h2
    have he : (key, e0.val) ∈ es.toList.map (fun e => (e.key, e.val)) := List.mem_map.2 ⟨e0, List.mem_of_getElem? h2, by rw [h3]⟩
    have h4 : e0.val = val := nodup_one hd he hv
    have hm : (es.modify j (fun e' => { e' with key := key, val := val })).toList.map (fun e => (e.key, e.val)) = es.toList.map (fun e => (e.key, e.val)) := by
      rw [Array.toList_modify, modify_eq_set _ _ _ _ h2, List.map_set]
      refine List.ext_getElem? fun i => ?_
      by_cases e : i = j
      · subst e
        rw [List.getElem?_set_self (by rw [List.length_map]; exact (List.getElem?_eq_some_iff.1 h2).1), List.getElem?_map, h2, ← h4]
        exact congrArg (fun x => some (x, e0.val)) h3.symm
      · rw [List.getElem?_set_ne (fun h => e h.symm)]
    refine ⟨setBlock w b (.map (es.modify j (fun e' => { e' with key := key, val := val })) clock), by simp [Instr.mapUpdate, run_underlying ht, MapKept.run_getObj_map hb, K.check w false hkl, h1, hj, h3, K.stays w hkl, MapKept.run_setObj_map _ hb, Result.andThen, setBlock],
      ⟨_, _, heap_setBlock_same hb _, hm, hk, hd⟩, ⟨rfl, rfl, rfl, by simp [setBlock], fun i _ hi => heap_setBlock_other hb _ (fun e => hi (by rw [e]))⟩, by simp [setBlock]⟩
theorem MapL.len (h : MapL P k w b l) (ht : P.underlying t = some (.map (P.mapKeyOf t) (P.mapElemOf t))) (ty : TypeId) : (Builtin.len_ #[t] ty #[.map (some b)]).run P w = .ok (goInt l.length) w := by
  obtain ⟨es, clock, hb, rfl, _⟩ := h
  rw [run_len_map w t ty b es clock ht hb]
  simp
end
section
variable {P : Program} {k e t : TypeId} {w w' : World} {b : Nat} {α : Type} {E : Enc P k α}
structure KMap (E : Enc P k α) (w : World) (b : Nat) (l : List (α × Value)) : Prop where
  rep : MapL P k w b (l.map fun x => (E.enc x.1, x.2))
  dom : ∀ x ∈ l, E.D x.1
variable {l : List (α × Value)}
theorem KMap.made (E : Enc P k α) (w : World) : KMap E (w.alloc (.map #[] 0)) w.heap.size [] := ⟨MapL.made w P k, fun x hx => by simp at hx⟩
theorem KMap.kept (h : KMap E w b l) (g : Grew w w') : KMap E w' b l := ⟨h.rep.kept g, h.dom⟩
theorem KMap.block (h : KMap E w b l) (g : w'.heap[b]? = w.heap[b]?) : KMap E w' b l := ⟨h.rep.block g, h.dom⟩
theorem KMap.grown {row : Option Nat} (h : KMap E w b l) (g : w.grownBy w' row) (hne : some b ≠ row) : KMap E w' b l := ⟨h.rep.grown g hne, h.dom⟩
theorem KMap.other (h : KMap E w b l) (p : Addr) (hp : p.block ≠ b) (v : Value) : KMap E (w.setCell p v) b l := ⟨h.rep.other p hp v, h.dom⟩
theorem KMap.lt (h : KMap E w b l) : b < w.heap.size := h.rep.lt
theorem KMap.apart (h : KMap E w b l) {x : α} (hx : E.D x) (hn : x ∉ l.map (·.1)) : ∀ y ∈ l.map (fun x => (E.enc x.1, x.2)), y.1 ≠ E.enc x := by
  intro y hy e
  obtain ⟨z, hz, rfl⟩ := List.mem_map.1 hy
  exact hn (List.mem_map.2 ⟨z, hz, E.inj _ _ (h.dom z hz) hx e⟩)
theorem KMap.lookN (h : KMap E w b l) (K : Keyed P k) (ht : P.underlying t = some (.map k e)) {z : Value} (hz : (zeroValue e).run P w = .ok z w) {x : α} (hx : E.D x) (hn : x ∉ l.map (·.1)) (c : Bool) :
    (Instr.lookup t (.map (some b)) (E.enc x) c).run P w = .ok (if c then .tuple #[z, .bool false] else z) w := h.rep.lookN K ht hz (E.key x hx) (h.apart hx hn) c
theorem KMap.lookS (h : KMap E w b l) (K : Keyed P k) (ht : P.underlying t = some (.map k e)) {x : α} {v : Value} (hv : (x, v) ∈ l) (c : Bool) :
    (Instr.lookup t (.map (some b)) (E.enc x) c).run P w = .ok (if c then .tuple #[v, .bool true] else v) w := h.rep.lookS K ht (List.mem_map.2 ⟨(x, v), hv, rfl⟩) c
theorem KMap.put (h : KMap E w b l) (K : Keyed P k) (ht : P.underlying t = some (.map k e)) {x : α} (hx : E.D x) (hn : x ∉ l.map (·.1)) (v : Value) :
    ∃ w', (Instr.mapUpdate t (.map (some b)) (E.enc x) v).run P w = .ok () w' ∧ KMap E w' b (l ++ [(x, v)]) ∧ w.grownBy w' (some b) ∧ w'.heap.size = w.heap.size := by
  obtain ⟨w', h1, h2, h3⟩ := h.rep.put K ht (E.key x hx) (h.apart hx hn) v
  refine ⟨w', h1, ⟨by rw [List.map_append]; exact h2, fun y hy => ?_⟩, h3⟩
  rcases List.mem_append.1 hy with hy | hy
  · exact h.dom y hy
  · rw [List.mem_singleton] at hy; rw [hy]; exact hx
theorem KMap.again (h : KMap E w b l) (K : Keyed P k) (ht : P.underlying t = some (.map k e)) {x : α} {v : Value} (hv : (x, v) ∈ l) :
    ∃ w', (Instr.mapUpdate t (.map (some b)) (E.enc x) v).run P w = .ok () w' ∧ KMap E w' b l ∧ w.grownBy w' (some b) ∧ w'.heap.size = w.heap.size := by
  obtain ⟨w', h1, h2, h3⟩ := h.rep.again K ht (List.mem_map.2 ⟨(x, v), hv, rfl⟩)
  exact ⟨w', h1, ⟨h2, h.dom⟩, h3⟩
theorem KMap.len (h : KMap E w b l) (ht : P.underlying t = some (.map (P.mapKeyOf t) (P.mapElemOf t))) (ty : TypeId) : (Builtin.len_ #[t] ty #[.map (some b)]).run P w = .ok (goInt l.length) w := by
  have := h.rep.len ht ty
  rwa [List.length_map] at this
def numL (ks : List α) : List (α × Value) := ks.zipIdx.map fun x => (x.1, .int .i64 (x.2 : Nat))
theorem numL_fst (ks : List α) : (numL ks).map (·.1) = ks := by
  unfold numL; rw [List.map_map]; exact List.zipIdx_map_fst 0 ks
theorem numL_snoc (ks : List α) (x : α) : numL (ks ++ [x]) = numL ks ++ [(x, .int .i64 (ks.length : Nat))] := by
  unfold numL; rw [List.zipIdx_append, List.map_append]; simp
theorem numL_length (ks : List α) : (numL ks).length = ks.length := by unfold numL; simp
theorem numL_mem [DecidableEq α] {ks : List α} {x : α} (h : x ∈ ks) : (x, Value.int .i64 (ks.idxOf x : Nat)) ∈ numL ks := by
  unfold numL
  refine List.mem_map.2 ⟨(x, ks.idxOf x), ?_, rfl⟩
  rw [List.mem_zipIdx_iff_getElem?]
  have hl := List.idxOf_lt_length_iff.2 h
  rw [List.getElem?_eq_getElem hl]
  congr 1
  exact List.getElem_idxOf hl
end
section
variable {P : Program} {w w' : World} {ops : Array Oper} {rest : List Oper} {o : Oper} {a : Act} {Q : Exit → Act → World → Prop}
end
theorem wf_i64 {n : Nat} (h : n ≤ 9223372036854775807) : (Lit.int .i64 (n : Int)).wf = true := by
  simp [Lit.wf, IntKind.min, IntKind.max, IntKind.signed, IntKind.bits]; omega
def encNat {P : Program} {k : TypeId} (hk : P.underlying k = some (.int .i64)) : Enc P k Nat where
  enc n := .int .i64 n
  D n := n ≤ 9223372036854775807
  key n h := ⟨_, keyOf_int_mk hk (wf_i64 h)⟩
  inj x y _ _ h := by cases h; rfl
end Go.Proofs.YtkkdpafkafjfgaaDoor

namespace Go.Proofs.YtkkdpafkafjfgaaDoor
set_option linter.unusedVariables false
end Go.Proofs.YtkkdpafkafjfgaaDoor
