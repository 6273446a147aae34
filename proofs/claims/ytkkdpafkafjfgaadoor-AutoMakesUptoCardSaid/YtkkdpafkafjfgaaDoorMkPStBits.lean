/- math/bits.OnesCount64 and TrailingZeros64; sets.Has, sets.Size. Conditions: words of 64 bits; the library's table of de Bruijn. -/
import Derived.Test.YtkkdpafkafjfgaaDoorMkPStArr
import Derived.Test.YtkkdpafkafjfgaaDoorMkPArr
import Derived.Test.YtkkdpafkafjfgaaDoorMkScPat
import Derived.Test.YtkkdpafkafjfgaaDoorMkPBase
namespace Go.Proofs.YtkkdpafkafjfgaaDoor
open Go.RowKit
set_option linter.unusedVariables false
theorem and_one (x k : Nat) (hx : x < 18446744073709551616) : (bits .and .u64 ((x : Int) / ((2 ^ k : Nat) : Int)) 1 == 1) = ((x / 2 ^ k) % 2 == 1) := by
  have hd : x / 2 ^ k < 18446744073709551616 := Nat.lt_of_le_of_lt (Nat.div_le_self _ _) hx
  have a1 := bits_and_u64_nat (x / 2 ^ k) 1 hd (by omega)
  rw [show ((x : Int) / ((2 ^ k : Nat) : Int)) = ((x / 2 ^ k : Nat) : Int) by simp]
  erw [a1]
  have h := Nat.and_two_pow_sub_one_eq_mod (x / 2 ^ k) 1
  simp only [Nat.pow_one, Nat.add_one_sub_one] at h
  rw [h]
  rcases Nat.mod_two_eq_zero_or_one (x / 2 ^ k) with h | h <;> rw [h] <;> rfl
theorem Has_any (f : Nat → Bool) (b : Nat) (w : World) (hb : b < 256) : Calls Tryd.prog 29 #[setV f, .int .u8 b] w fun e w' => e = .returned (.bool (f b)) ∧ Grew w w' := by
  obtain ⟨q, hq0⟩ : ∃ q, q = b / 64 := ⟨_, rfl⟩
  obtain ⟨r, hr0⟩ : ∃ r, r = b % 64 := ⟨_, rfl⟩
  have hq : ((b : Int) / 64) = (q : Int) := by omega
  have hr : ((b : Int) % 64) = (r : Int) := by omega
  have hlt : q < 4 := by omega
  have hrl : r < 64 := by omega
  have HX : Hid (ArrAt (w.alloc (.cells (wordsB fun j => word f (64 * j) 64) 77)) w.heap.size 0 4 (fun j => .int .u64 (word f (64 * j) 64))) := words_at w _
  have cw := HX.out.at0 q hlt
  have HW := hidd (has_word f (64 * q) r hrl)
  have HB := hidd (show 64 * q + r = b by omega)
  have HL := hidd (word_lt64 f (64 * q))
  have HO : Hid ((bits .and .u64 ((word f (64 * q) 64 : Nat) / 2 ^ r : Int) 1 == 1) = f b) := by
    have := and_one (word f (64 * q) 64) r (word_lt64 f _)
    rw [has_word f (64 * q) r hrl, show 64 * q + r = b by omega] at this
    rw [Hid, ← this]
    simp
  obtain ⟨x, hx⟩ : ∃ x, word f (64 * q) 64 = x := ⟨_, rfl⟩
  rw [hx] at cw HW HL HO
  unfold wordsB at cw HX
  simp only [Nat.mul_zero, Nat.mul_one, Nat.reduceMul] at cw HX
  unfold setV
  clear hq0 hr0 hx
  go_enter Tryd.func29, Tryd.ntmps29
  go_wp2_with fail
  go_ret
  exact ⟨congrArg (fun v => Ending.returned (.bool v)) HO.out, (Grew.refl w).alloc _⟩
end Go.Proofs.YtkkdpafkafjfgaaDoor
namespace Go.Proofs.YtkkdpafkafjfgaaDoor
open Go.RowKit
set_option linter.unusedVariables false
def upd (f : Nat → Bool) (c : Nat) : Nat → Bool := fun b => f b || b == c
theorem word_upd (f : Nat → Bool) (q r : Nat) (hr : r < 64) : word (upd f (64 * q + r)) (64 * q) 64 = word f (64 * q) 64 ||| 2 ^ r := by
  symm
  refine word_eq (Nat.or_lt_two_pow (word_lt f 64 _) (Nat.pow_lt_pow_right (by decide) hr)) fun j hj => ?_
  rw [Nat.testBit_or, testBit_word, Nat.testBit_two_pow]
  simp only [hj, decide_true, Bool.true_and, upd]
  congr 1
  by_cases e : r = j
  · subst e; simp
  · have h1 : ¬ j = r := fun x => e x.symm
    simp [e, h1]
theorem word_upd_other (f : Nat → Bool) (q r k : Nat) (hr : r < 64) (hk : k ≠ q) : word (upd f (64 * q + r)) (64 * k) 64 = word f (64 * k) 64 :=
  word_congr fun j hj => by
    have h1 : ¬ (64 * k + j = 64 * q + r) := by omega
    simp [upd, h1]
theorem upd_row (f : Nat → Bool) (q r : Nat) (hr : r < 64) (j : Nat) : (if j = q then Value.int .u64 ((word f (64 * q) 64 ||| 2 ^ r : Nat) : Int) else .int .u64 (word f (64 * j) 64)) = .int .u64 (word (upd f (64 * q + r)) (64 * j) 64) := by
  by_cases e : j = q
  · subst e; rw [if_pos rfl, word_upd f j r hr]
  · rw [if_neg e, word_upd_other f q r j hr e]
theorem or_bit (x r : Nat) (hx : x < 18446744073709551616) (hr : r < 64) : bits .or .u64 (x : Int) (IntKind.u64.wrap (2 ^ r : Int)) = ((x ||| 2 ^ r : Nat) : Int) := by
  have h1 : 2 ^ r < 2 ^ 64 := Nat.pow_lt_pow_right (by decide) hr
  have e : IntKind.u64.wrap (2 ^ r : Int) = ((2 ^ r : Nat) : Int) := by
    rw [IntKind.wrap_u64, show ((2 : Int) ^ r) = ((2 ^ r : Nat) : Int) by simp]
    generalize 2 ^ r = y at h1 ⊢
    omega
  rw [e]
  exact bits_or_u64_nat x (2 ^ r) hx h1
def emptyS : Nat → Bool := fun _ => false
theorem word_empty : ∀ n b, word emptyS b n = 0
  | 0, b => rfl
  | n + 1, b => by rw [word, word_empty n]; rfl
def setOf (l : List UInt8) : Nat → Bool := l.foldl (fun f c => upd f c.toNat) emptyS
theorem setOf_snoc (l : List UInt8) (c : UInt8) : setOf (l ++ [c]) = upd (setOf l) c.toNat := by simp [setOf]
theorem setOf_mem (l : List UInt8) (b : Nat) : setOf l b = l.any (fun c => b == c.toNat) := by
  have key : ∀ (l : List UInt8) (f : Nat → Bool), l.foldl (fun f c => upd f c.toNat) f b = (f b || l.any (fun c => b == c.toNat)) := by
    intro l
    induction l with
    | nil => intro f; simp
    | cons c l ih => intro f; rw [List.foldl_cons, ih]; simp [upd, Bool.or_assoc]
  rw [setOf, key]; simp [emptyS]
theorem take_next (t : ByteArray) (i : Nat) (h : i < t.size) : setOf (t.data.toList.take (i + 1)) = upd (setOf (t.data.toList.take i)) (t[i].toNat) := by
  have h' : i < t.data.toList.length := h
  rw [List.take_succ_eq_append_getElem h', setOf_snoc]
  rfl
theorem zeros_at (w : World) : ArrAt (w.alloc (.cells (wordsB fun _ => 0) 77)) w.heap.size 0 4 (fun j => .int .u64 (word emptyS (64 * j) 64)) :=
  (words_at w fun _ => 0).congr fun j hj => by rw [word_empty]
set_option maxHeartbeats 1000000 in
theorem Of_any (t : ByteArray) (w : World) (ht : t.size ≤ maxLen) : Calls Tryd.prog 58 #[.string t] w fun e w' => e = .returned (setV (setOf t.data.toList)) ∧ Grew w w' := by
  have HX : Hid (ArrAt (w.alloc (.cells (wordsB fun _ => 0) 77)) w.heap.size 0 4 (fun j => .int .u64 (word emptyS (64 * j) 64))) := zeros_at w
  have HG : Hid (Grew w (w.alloc (.cells (wordsB fun _ => 0) 77))) := (Grew.refl w).alloc _
  have HN : Hid (∀ i (h : i < t.size), setOf (t.data.toList.take (i + 1)) = upd (setOf (t.data.toList.take i)) (t[i].toNat)) := fun i h => take_next t i h
  have HE : Hid (setOf (t.data.toList.take t.size) = setOf t.data.toList) := by
    rw [Hid, List.take_of_length_le (show t.data.toList.length ≤ t.size from Nat.le_refl _)]
  unfold wordsB at HX HG
  have htt : t.size ≤ 9223372036854775807 := by unfold maxLen at ht; omega
  clear ht
  go_enter Tryd.func58, Tryd.ntmps58
  go_wp2_with fail
  go_loopw [3, 6] (fun u3 u6 wr => ∃ (i : Nat), u6 = .int .i64 i ∧ i ≤ t.size ∧ Hid (ArrAt wr w.heap.size 0 4 (fun j => .int .u64 (word (setOf (t.data.toList.take i)) (64 * j) 64))) ∧ Hid (Grew w wr)) (fun _ u6 _ => t.size - (intOf u6).toNat)
  case atStart => exact ⟨0, rfl, Nat.zero_le _, HX, HG⟩
  case round =>
    obtain ⟨i, rfl, hi, KX, KW⟩ := hrel
    clear HX HG
    by_cases h : i < t.size
    · obtain ⟨b, hb0⟩ : ∃ b, b = t[i].toNat := ⟨_, rfl⟩
      have hb := t[i].toNat_lt
      obtain ⟨q, hq0⟩ : ∃ q, q = b / 64 := ⟨_, rfl⟩
      obtain ⟨r, hr0⟩ : ∃ r, r = b % 64 := ⟨_, rfl⟩
      have hq : ((t[i].toNat : Int) / 64) = (q : Int) := by omega
      have hr : ((t[i].toNat : Int) % 64) = (r : Int) := by omega
      have hlt : q < 4 := by omega
      have hrl : r < 64 := by omega
      have HI : Hid (64 * q + r = t[i].toNat) := by rw [Hid]; omega
      have cw := KX.out.at0 q hlt
      have cf := KX.out.free0 q hlt
      have HL := hidd (word_lt64 (setOf (t.data.toList.take i)) (64 * q))
      clear hq0 hr0 hb0
      go_wp2_with fail
      go_region
      have ho := hidd (or_bit (word (setOf (t.data.toList.take i)) (64 * q) 64) r HL.out hrl)
      have KX' := hidd (((KX.out.set0 q hlt (.int .u64 (bits .or .u64 (word (setOf (t.data.toList.take i)) (64 * q) 64 : Nat) (IntKind.u64.wrap (2 ^ r : Int))))).drew).congr fun j hj => by rw [ho.out, upd_row _ q r hrl j, HI.out, ← HN.out i h])
      have KW' := hidd ((KW.out.setCell (p := ⟨w.heap.size, q, none⟩) (by simp) (.int .u64 (bits .or .u64 (word (setOf (t.data.toList.take i)) (64 * q) 64 : Nat) (IntKind.u64.wrap (2 ^ r : Int))))).drew)
      go_wp2_with fail
      exact ⟨⟨i + 1, (by simp), (by omega), KX', KW'⟩, (by simp [intOf]; omega)⟩
    · obtain rfl : i = t.size := by omega
      go_wp2_with (first | (refine wpList_load_arr rfl rfl rfl KX.out Tryd.underlying77 rfl info_set ?_) | (refine wpList_store_arr rfl rfl rfl rfl KX.out info_set (fun j _ => rfl) ?_; intro w5 hS hb))
      refine bodyPost_arr rfl rfl hS Tryd.underlying77 rfl info_set rfl ⟨?_, KW.out.below hb (by omega)⟩
      rw [HE.out]
      rfl
end Go.Proofs.YtkkdpafkafjfgaaDoor
namespace Go.Proofs.YtkkdpafkafjfgaaDoor
open Go.RowKit
set_option linter.unusedVariables false
end Go.Proofs.YtkkdpafkafjfgaaDoor

namespace Go.Proofs.YtkkdpafkafjfgaaDoor
open Go.RowKit
set_option linter.unusedVariables false
def aggAu (d : TypeDesc) : Bool := match d with | .struct _ | .array _ _ => true | _ => false
theorem run_isAgg {t : TypeId} {d : TypeDesc} (h : Tryd.prog.underlying t = some d) (w : World) : (isAgg t).run Tryd.prog w = .ok (aggAu d) w := by
  unfold isAgg
  rw [Sem.run_bind, run_underlying h w]
  unfold aggAu
  cases d <;> rfl
theorem size_of {t : TypeId} {n : Nat} (h : (Tryd.prog.info? t).map (·.size) = some n) (w : World) : (sizeOf t).run Tryd.prog w = .ok n w := by
  cases hq : Tryd.prog.info? t with
  | none => rw [hq] at h; cases h
  | some i =>
    have hs : i.size = n := by simpa [hq] using h
    simp [sizeOf, typeInfo, hq, hs]
theorem run_index_arrA {t e : TypeId} {n : Nat} (hu : Tryd.prog.underlying t = some (.array n e)) (hs : (Tryd.prog.info? e).map (·.size) = some 1) {d : TypeDesc} (he : Tryd.prog.underlying e = some d) (hd : aggAu d = false)
    {cs : Array Value} {i : Nat} {v : Value} (hi : i < n) (hc : cs[i]? = some v) (w : World) : (Instr.index t (.agg cs) (.int .i64 i)).run Tryd.prog w = .ok v w := by
  have hagg := run_isAgg he w
  rw [hd] at hagg
  have h1 : (0 : Int) ≤ (i : Int) ∧ (i : Int) < (n : Int) := by omega
  simp [Instr.index, asIntOf, Sem.run_bind, run_underlying hu, h1, part, hagg, size_of hs, hc]
  exact fun h => absurd hi (by omega)
theorem info_int : (Tryd.prog.info? 3).map (·.size) = some 1 := by kernel_rfl
theorem info_cls : (Tryd.prog.info? 26).map (·.size) = some 256 := by kernel_rfl
theorem run_loadVar_arrA {w : World} {b n : Nat} {f : Nat → Value} (h : ArrAt w b 0 n f) {ty : TypeId} {d : TypeDesc} (hu : Tryd.prog.underlying ty = some d) (hd : aggAu d = true) (hi : (Tryd.prog.info? ty).map (·.size) = some n) :
    (loadVar ty ⟨b, 0, none⟩).run Tryd.prog w = .ok (.agg ((List.range n).map f).toArray) w := by
  have hl := run_loadCells (P := Tryd.prog) w ⟨b, 0, none⟩ n f (fun j hj => by rw [addr_addV]; exact h.at j hj)
  have hagg := run_isAgg hu w
  rw [hd] at hagg
  simp [loadVar, Sem.run_bind, hagg, size_of hi, hl]
section
variable {ops : Array Oper} {rest : List Oper} {o : Oper} {a : Act} {w : World} {Q : Exit → Act → World → Prop}
theorem wpList_load_cls (hgd : o.guard = none) {x : Operand} (ho : o.op = .load 26 x) {b : Nat} {l : List Int} (hx : a.eval x = .pointer (some ⟨b, 0, none⟩)) (hA : ArrAt w b 0 256 fun j => .int .i64 (l.getD j 0))
    (h : wpList Tryd.prog ops Q rest (a.put o.dst (.agg (clsB l))) w) : wpList Tryd.prog ops Q (o :: rest) a w := by
  refine wpList_plain hgd fun _ hK => ?_
  unfold Oper.wp execOp
  simp only [ho, hx, Instr.loadAt, Instr.sureAddr, Sem.run_bind, Sem.run_pure, Result.andThen_ok, run_loadVar_arrA hA Tryd.underlying26 rfl info_cls]
  exact hK _ _ h
end
structure Box (w : World) (b : Nat) (A : Aut) (na : Option Addr) (nc : Nat) (ea : Option Addr) (ec : Nat) : Prop where
  nx : w.cell? ⟨b, 256, none⟩ = some (.slice na A.next.length nc)
  en : w.cell? ⟨b, 257, none⟩ = some (.slice ea A.ends.length ec)
  cl : ArrAt w b 0 256 fun j => .int .i64 (A.cls.getD j 0)
theorem Box.kept {w w' : World} {b : Nat} {A : Aut} {na : Option Addr} {nc : Nat} {ea : Option Addr} {ec : Nat} (h : Box w b A na nc ea ec) (g : Grew w w') : Box w' b A na nc ea ec := ⟨g.keeps h.nx, g.keeps h.en, h.cl.kept g⟩
theorem box_new (w : World) (A : Aut) (na : Option Addr) (nc : Nat) (ea : Option Addr) (ec : Nat) (t : TypeId) : Box (w.alloc (.cells (autB A na nc ea ec) t)) w.heap.size A na nc ea ec := by
  have h := ArrAt.new w (autB A na nc ea ec) t 256 _ fun j hj => autB_cls A na nc ea ec hj
  have h2 := ArrAt.new w (autB A na nc ea ec) t 258 (fun j => (autB A na nc ea ec).getD j (.bool false)) fun j hj => by
    rw [Array.getD_eq_getD_getElem?, Array.getElem?_eq_getElem (by rw [autB_size]; exact hj)]; rfl
  refine ⟨?_, ?_, h⟩
  · have := h2.at0 256 (by omega)
    rw [this, Array.getD_eq_getD_getElem?, autB_next]; rfl
  · have := h2.at0 257 (by omega)
    rw [this, Array.getD_eq_getD_getElem?, autB_ends]; rfl
end Go.Proofs.YtkkdpafkafjfgaaDoor

namespace Go.Proofs.YtkkdpafkafjfgaaDoor
open Go.RowKit
set_option linter.unusedVariables false
def rowI (f : Nat → Int) : Array Value := ((List.range 256).map fun j => Value.int .i64 (f j)).toArray
theorem rowI_size (f : Nat → Int) : (rowI f).size = 256 := by simp [rowI]
theorem rowI_get (f : Nat → Int) {j : Nat} (h : j < 256) : (rowI f)[j]? = some (.int .i64 (f j)) := by simp [rowI, h]
theorem zero_rowI : (Tryd.prog.info? 26).map (·.zero) = some (some (.agg (rowI fun _ => 0))) := by kernel_rfl
theorem run_zero_rowI (w : World) : (zeroValue 26).run Tryd.prog w = .ok (.agg (rowI fun _ => 0)) w := by
  have h := zero_rowI
  cases hq : Tryd.prog.info? 26 with
  | none => rw [hq] at h; cases h
  | some i =>
    have hs : i.zero = some (.agg (rowI fun _ => 0)) := by simpa [hq] using h
    simp [zeroValue, typeInfo, hq, hs]
theorem rowI_at (w : World) (f : Nat → Int) (t : TypeId) : ArrAt (w.alloc (.cells (rowI f) t)) w.heap.size 0 256 fun j => .int .i64 (f j) := ArrAt.new w _ _ 256 _ fun j hj => rowI_get f hj
section
variable {ops : Array Oper} {rest : List Oper} {o : Oper} {a : Act} {w : World} {Q : Exit → Act → World → Prop}
theorem wpList_load_row (hgd : o.guard = none) {x : Operand} (ho : o.op = .load 26 x) {b : Nat} {f : Nat → Int} (hx : a.eval x = .pointer (some ⟨b, 0, none⟩)) (hA : ArrAt w b 0 256 fun j => .int .i64 (f j))
    (h : wpList Tryd.prog ops Q rest (a.put o.dst (.agg (rowI f))) w) : wpList Tryd.prog ops Q (o :: rest) a w := by
  refine wpList_plain hgd fun _ hK => ?_
  unfold Oper.wp execOp
  simp only [ho, hx, Instr.loadAt, Instr.sureAddr, Sem.run_bind, Sem.run_pure, Result.andThen_ok, run_loadVar_arrA hA Tryd.underlying26 rfl info_cls]
  exact hK _ _ h
end
theorem info_tab : (Tryd.prog.info? 92).map (·.size) = some 2 := by kernel_rfl
theorem info_rows : (Tryd.prog.info? 26).map (fun i => (i.zero, i.size, i.bytes)) = some (some (.agg (rowI fun _ => 0)), 256, 2048) := by kernel_rfl
theorem agg_rows : Tryd.prog.underlying 90 = some (.slice 26) := Tryd.underlying90
theorem build_row (f : Nat → Int) (w : World) : (Instr.buildSlice 90 1 #[(0, .agg (rowI f))]).run Tryd.prog w = .ok (.slice (some ⟨w.heap.size, 0, none⟩) 1 1) (w.alloc (.cells (rowI f) 26)) := by kernel_rfl
theorem rowI_list (f : Nat → Int) : (rowI f).toList.length = 256 := by rw [Array.length_toList, rowI_size]
theorem heap_kept {w w' : World} {b : Nat} {x : Obj} (g : Grew w w') (h : w.heap[b]? = some x) : w'.heap[b]? = some x := by
  rw [g.block b (Array.getElem?_eq_some_iff.1 h).1]; exact h
theorem two_cells {w : World} {b : Nat} {x y : Value} {t : TypeId} (h : w.heap[b]? = some (.cells #[x, y] t (0, 0))) : (w.cell? ⟨b, 0, none⟩ = some x ∧ w.cell? ⟨b, 1, none⟩ = some y) ∧ ∀ o, w.frozen? ⟨b, o, none⟩ = false := by
  refine ⟨⟨?_, ?_⟩, fun o => ?_⟩
  · unfold World.cell?; dsimp only; rw [h]; rfl
  · unfold World.cell?; dsimp only; rw [h]; rfl
  · unfold World.frozen?; dsimp only; rw [h]; simp
theorem Box.same {w w' : World} {b : Nat} {A : Aut} {na : Option Addr} {nc : Nat} {ea : Option Addr} {ec : Nat} (h : Box w b A na nc ea ec) (g : w'.heap[b]? = w.heap[b]?) : Box w' b A na nc ea ec :=
  ⟨by rw [World.cell?_of_block g]; exact h.nx, by rw [World.cell?_of_block g]; exact h.en, fun j hj => by rw [World.cell?_of_block (a := ⟨b, 0 + j, none⟩) g, World.frozen?_of_block (a := ⟨b, 0 + j, none⟩) g]; exact h.cl j hj⟩
theorem grew_grown {a w w' : World} {own : Option Nat} (h : Grew a w) (g : w.grownBy w' own) (ho : ∀ b, own = some b → a.heap.size ≤ b) : Grew a w' :=
  ⟨g.os.trans h.os, g.tape.trans h.tape, g.output.trans h.output, Nat.le_trans h.size g.size, fun k hk => (g.block k (Nat.lt_of_lt_of_le hk h.size) fun e => by have := ho k e.symm; omega).trans (h.block k hk)⟩
end Go.Proofs.YtkkdpafkafjfgaaDoor

namespace Go.Proofs.YtkkdpafkafjfgaaDoor
open Go.RowKit
set_option linter.unusedVariables false
set_option maxRecDepth 100000 in
set_option maxHeartbeats 4000000 in
theorem wrong_set_more {w : World} {b o : Nat} {k : Int} {t : ByteArray} {n : Int} {m : ByteArray} {L : Nat} (h : Seen w b o k t n m L) (hk : k = 3 ∨ k = 4 ∨ k = 5 ∨ k = 6 ∨ k = 7) (hs : t.size ≤ 65536) (hs0 : 0 < t.size) (hl : 0 < L) : Told w b o 5 := by
  obtain ⟨c0, c1, c2, c3, ⟨a, c, c4⟩, hL, hk2, hn2, ht, hm⟩ := h
  have e1 : decide (65536 < (t.size : Int)) = false := decide_eq_false (by omega)
  have e2 : t.toList.isEmpty = false := by
    rw [Lib.toList_data, ← Bool.not_eq_true, List.isEmpty_iff]
    intro e; have := size_data t; rw [e, List.length_nil] at this; omega
  clear hs hs0
  have e8 : decide ((L : Int) < 0) = false := decide_eq_false (by omega)
  have e9 : decide ((0 : Int) < (L : Int)) = true := decide_eq_true (by omega)
  have e7 : decide (0 < L) = true := decide_eq_true hl
  rcases hk with rfl | rfl | rfl | rfl | rfl
  all_goals
    unfold Told
    go_enter Tryd.func56, Tryd.ntmps56
    go_wp2_with fail
    go_ret
    exact ⟨rfl, rfl⟩
set_option maxRecDepth 100000 in
set_option maxHeartbeats 4000000 in
theorem wrong_set_ok {w : World} {b o : Nat} {k : Int} {t : ByteArray} {n : Int} {m : ByteArray} {L : Nat} (h : Seen w b o k t n m L) (hk : k = 3 ∨ k = 4 ∨ k = 5 ∨ k = 6 ∨ k = 7) (hs : t.size ≤ 65536) (hs0 : 0 < t.size) (hl : 0 ≤ L) (hl2 : L ≤ 0) : Told w b o 0 := by
  obtain ⟨c0, c1, c2, c3, ⟨a, c, c4⟩, hL, hk2, hn2, ht, hm⟩ := h
  have e1 : decide (65536 < (t.size : Int)) = false := decide_eq_false (by omega)
  have e2 : t.toList.isEmpty = false := by
    rw [Lib.toList_data, ← Bool.not_eq_true, List.isEmpty_iff]
    intro e; have := size_data t; rw [e, List.length_nil] at this; omega
  clear hs hs0
  obtain rfl : L = 0 := by omega
  clear hl hl2 hL
  rcases hk with rfl | rfl | rfl | rfl | rfl
  all_goals
    unfold Told
    go_enter Tryd.func56, Tryd.ntmps56
    go_wp2_with fail
    go_ret
    exact ⟨rfl, rfl⟩
end Go.Proofs.YtkkdpafkafjfgaaDoor
namespace Go.Proofs.YtkkdpafkafjfgaaDoor
open Go.RowKit
set_option linter.unusedVariables false
set_option maxRecDepth 100000 in
set_option maxHeartbeats 4000000 in
theorem wrong_name {w : World} {b o : Nat} {k : Int} {t : ByteArray} {n : Int} {m : ByteArray} {L : Nat} (h : Seen w b o k t n m L) (hk : k = 21 ∨ k = 22 ∨ k = 23 ∨ k = 24) (hs : named m = false) : Told w b o 7 := by
  obtain ⟨c0, c1, c2, c3, ⟨a, c, c4⟩, hL, hk2, hn2, ht, hm⟩ := h
  have HN := hidd hs
  clear hs
  rcases hk with rfl | rfl | rfl | rfl
  all_goals
    unfold Told
    go_enter Tryd.func56, Tryd.ntmps56
    go_wp2_with fail
    refine (Named_any m w hm).mono ?_; rintro e w2 ⟨rfl, rfl⟩
    rw [HN.out]
    go_wp2_with fail
    go_ret
    exact ⟨rfl, rfl⟩
set_option maxRecDepth 100000 in
set_option maxHeartbeats 4000000 in
theorem wrong_give_few {w : World} {b o : Nat} {k : Int} {t : ByteArray} {n : Int} {m : ByteArray} {L : Nat} (h : Seen w b o k t n m L) (hk : k = 21 ∨ k = 22) (hs : named m = true) (hl : L < 1) : Told w b o 5 := by
  obtain ⟨c0, c1, c2, c3, ⟨a, c, c4⟩, hL, hk2, hn2, ht, hm⟩ := h
  have HN := hidd hs
  clear hs
  have e8 : decide ((L : Int) < 1) = true := decide_eq_true (by omega)
  clear hl
  rcases hk with rfl | rfl
  all_goals
    unfold Told
    go_enter Tryd.func56, Tryd.ntmps56
    go_wp2_with fail
    refine (Named_any m w hm).mono ?_; rintro e w2 ⟨rfl, rfl⟩
    rw [HN.out]
    go_wp2_with fail
    go_ret
    exact ⟨rfl, rfl⟩
set_option maxRecDepth 100000 in
set_option maxHeartbeats 4000000 in
theorem wrong_give_more {w : World} {b o : Nat} {k : Int} {t : ByteArray} {n : Int} {m : ByteArray} {L : Nat} (h : Seen w b o k t n m L) (hk : k = 21 ∨ k = 22) (hs : named m = true) (hl : 1 < L) : Told w b o 5 := by
  obtain ⟨c0, c1, c2, c3, ⟨a, c, c4⟩, hL, hk2, hn2, ht, hm⟩ := h
  have HN := hidd hs
  clear hs
  have e8 : decide ((L : Int) < 1) = false := decide_eq_false (by omega)
  have e9 : decide ((1 : Int) < (L : Int)) = true := decide_eq_true (by omega)
  clear hl
  rcases hk with rfl | rfl
  all_goals
    unfold Told
    go_enter Tryd.func56, Tryd.ntmps56
    go_wp2_with fail
    refine (Named_any m w hm).mono ?_; rintro e w2 ⟨rfl, rfl⟩
    rw [HN.out]
    go_wp2_with fail
    go_ret
    exact ⟨rfl, rfl⟩
set_option maxRecDepth 100000 in
set_option maxHeartbeats 4000000 in
theorem wrong_give_ok {w : World} {b o : Nat} {k : Int} {t : ByteArray} {n : Int} {m : ByteArray} {L : Nat} (h : Seen w b o k t n m L) (hk : k = 21 ∨ k = 22) (hs : named m = true) (hl : 1 ≤ L) (hl2 : L ≤ 1) : Told w b o 0 := by
  obtain ⟨c0, c1, c2, c3, ⟨a, c, c4⟩, hL, hk2, hn2, ht, hm⟩ := h
  have HN := hidd hs
  clear hs
  have e8 : decide ((L : Int) < 1) = false := decide_eq_false (by omega)
  have e9 : decide ((1 : Int) < (L : Int)) = false := decide_eq_false (by omega)
  clear hl hl2
  rcases hk with rfl | rfl
  all_goals
    unfold Told
    go_enter Tryd.func56, Tryd.ntmps56
    go_wp2_with fail
    refine (Named_any m w hm).mono ?_; rintro e w2 ⟨rfl, rfl⟩
    rw [HN.out]
    go_wp2_with fail
    go_ret
    exact ⟨rfl, rfl⟩
set_option maxRecDepth 100000 in
set_option maxHeartbeats 4000000 in
theorem wrong_call_more {w : World} {b o : Nat} {k : Int} {t : ByteArray} {n : Int} {m : ByteArray} {L : Nat} (h : Seen w b o k t n m L) (hk : k = 23 ∨ k = 24) (hs : named m = true) (hl : 0 < L) : Told w b o 5 := by
  obtain ⟨c0, c1, c2, c3, ⟨a, c, c4⟩, hL, hk2, hn2, ht, hm⟩ := h
  have HN := hidd hs
  clear hs
  have e8 : decide ((L : Int) < 0) = false := decide_eq_false (by omega)
  have e9 : decide ((0 : Int) < (L : Int)) = true := decide_eq_true (by omega)
  have e7 : decide (0 < L) = true := decide_eq_true hl
  rcases hk with rfl | rfl
  all_goals
    unfold Told
    go_enter Tryd.func56, Tryd.ntmps56
    go_wp2_with fail
    refine (Named_any m w hm).mono ?_; rintro e w2 ⟨rfl, rfl⟩
    rw [HN.out]
    go_wp2_with fail
    go_ret
    exact ⟨rfl, rfl⟩
set_option maxRecDepth 100000 in
set_option maxHeartbeats 4000000 in
theorem wrong_call_ok {w : World} {b o : Nat} {k : Int} {t : ByteArray} {n : Int} {m : ByteArray} {L : Nat} (h : Seen w b o k t n m L) (hk : k = 23 ∨ k = 24) (hs : named m = true) (hl : 0 ≤ L) (hl2 : L ≤ 0) : Told w b o 0 := by
  obtain ⟨c0, c1, c2, c3, ⟨a, c, c4⟩, hL, hk2, hn2, ht, hm⟩ := h
  have HN := hidd hs
  clear hs
  obtain rfl : L = 0 := by omega
  clear hl hl2 hL
  rcases hk with rfl | rfl
  all_goals
    unfold Told
    go_enter Tryd.func56, Tryd.ntmps56
    go_wp2_with fail
    refine (Named_any m w hm).mono ?_; rintro e w2 ⟨rfl, rfl⟩
    rw [HN.out]
    go_wp2_with fail
    go_ret
    exact ⟨rfl, rfl⟩
set_option maxRecDepth 100000 in
set_option maxHeartbeats 4000000 in
theorem wrong_plain_more {w : World} {b o : Nat} {k : Int} {t : ByteArray} {n : Int} {m : ByteArray} {L : Nat} (h : Seen w b o k t n m L) (hk : k = 12 ∨ k = 13 ∨ k = 14 ∨ k = 15 ∨ k = 16 ∨ k = 17) (hl : 0 < L) : Told w b o 5 := by
  obtain ⟨c0, c1, c2, c3, ⟨a, c, c4⟩, hL, hk2, hn2, ht, hm⟩ := h
  have e8 : decide ((L : Int) < 0) = false := decide_eq_false (by omega)
  have e9 : decide ((0 : Int) < (L : Int)) = true := decide_eq_true (by omega)
  have e7 : decide (0 < L) = true := decide_eq_true hl
  rcases hk with rfl | rfl | rfl | rfl | rfl | rfl
  all_goals
    unfold Told
    go_enter Tryd.func56, Tryd.ntmps56
    go_wp2_with fail
    go_ret
    exact ⟨rfl, rfl⟩
set_option maxRecDepth 100000 in
set_option maxHeartbeats 4000000 in
theorem wrong_plain_ok {w : World} {b o : Nat} {k : Int} {t : ByteArray} {n : Int} {m : ByteArray} {L : Nat} (h : Seen w b o k t n m L) (hk : k = 12 ∨ k = 13 ∨ k = 14 ∨ k = 15 ∨ k = 16 ∨ k = 17) (hl : 0 ≤ L) (hl2 : L ≤ 0) : Told w b o 0 := by
  obtain ⟨c0, c1, c2, c3, ⟨a, c, c4⟩, hL, hk2, hn2, ht, hm⟩ := h
  obtain rfl : L = 0 := by omega
  clear hl hl2 hL
  rcases hk with rfl | rfl | rfl | rfl | rfl | rfl
  all_goals
    unfold Told
    go_enter Tryd.func56, Tryd.ntmps56
    go_wp2_with fail
    go_ret
    exact ⟨rfl, rfl⟩
end Go.Proofs.YtkkdpafkafjfgaaDoor

namespace Go.Proofs.YtkkdpafkafjfgaaDoor
set_option linter.unusedVariables false
structure InG (g : Gl) (o : Part) : Prop where
  first : o.first < 2 ^ g.sets.length
  last : o.last < 2 ^ g.sets.length
theorem pow_le12 {n : Nat} (h : n ≤ 12) : 2 ^ n ≤ 4096 := Nat.pow_le_pow_right (n := 2) (by decide) h
theorem InG.small {g : Gl} {o : Part} (h : InG g o) (hf : Fits g) : SmallG o := ⟨Nat.lt_of_lt_of_le h.first (pow_le12 hf.le), Nat.lt_of_lt_of_le h.last (pow_le12 hf.le)⟩
theorem InG.mono {g g' : Gl} {o : Part} (h : InG g o) (hl : g.sets.length ≤ g'.sets.length) : InG g' o :=
  ⟨Nat.lt_of_lt_of_le h.first (Nat.pow_le_pow_right (n := 2) (by decide) hl), Nat.lt_of_lt_of_le h.last (Nat.pow_le_pow_right (n := 2) (by decide) hl)⟩
theorem in0 (g : Gl) (z : Bool) : InG g ⟨0, 0, z⟩ := ⟨Nat.two_pow_pos _, Nat.two_pow_pos _⟩
theorem one_in (g : Gl) (s : Nat → Bool) : g.sets.length ≤ (g.one s).2.sets.length ∧ InG (g.one s).2 (g.one s).1 := by
  unfold Gl.one
  split
  · exact ⟨Nat.le_refl _, in0 _ _⟩
  · refine ⟨by simp, ?_, ?_⟩ <;> simp <;> exact Nat.pow_lt_pow_right (a := 2) (by decide) (by omega)
theorem op2_in {c : Bool} {o k : Part} {g : Gl} (h : InG g o) (h2 : InG g k) : InG (op2 c o k g).2 (op2 c o k g).1 := by
  cases c
  · exact ⟨Nat.or_lt_two_pow h.first h2.first, Nat.or_lt_two_pow h.last h2.last⟩
  · refine ⟨?_, ?_⟩
    · show (thenP o k).first < 2 ^ g.sets.length
      unfold thenP; dsimp only; split
      · exact Nat.or_lt_two_pow h.first h2.first
      · exact h.first
    · show (thenP o k).last < 2 ^ g.sets.length
      unfold thenP; dsimp only; split
      · exact Nat.or_lt_two_pow h2.last h.last
      · exact h2.last
def InB (b : Builder) : Prop := ∀ g, Fits g → Fits (b g).2 ∧ g.sets.length ≤ (b g).2.sets.length ∧ ∀ o, (b g).1 = some o → InG (b g).2 o
theorem lit_in : ∀ (l : List (Nat → Bool)) (o : Part) (g : Gl), Fits g → InG g o → Fits (litG l o g).2 ∧ g.sets.length ≤ (litG l o g).2.sets.length ∧ InG (litG l o g).2 (litG l o g).1
  | [], o, g, hf, ho => ⟨hf, Nat.le_refl _, ho⟩
  | s :: l, o, g, hf, ho => by
    rw [litG]
    split
    · exact ⟨hf, Nat.le_refl _, ho⟩
    · have h1 := one_in g s
      have h2 := one_fits hf s
      have h3 := op2_fits (c := true) h2.1 (ho.small hf) h2.2
      have h4 := op2_in (c := true) (ho.mono h1.1) h1.2
      obtain ⟨k1, k2, k3⟩ := lit_in l _ _ h3.1 h4
      rw [op2_sets] at k2
      exact ⟨k1, Nat.le_trans h1.1 k2, k3⟩
theorem kids_in (c : Bool) : ∀ (l : List Builder), (∀ b ∈ l, InB b) → ∀ (o : Part) (g : Gl), Fits g → InG g o → Fits (kidsG c l o g).2 ∧ g.sets.length ≤ (kidsG c l o g).2.sets.length ∧ ∀ o', (kidsG c l o g).1 = some o' → InG (kidsG c l o g).2 o'
  | [], _, o, g, hf, ho => ⟨hf, Nat.le_refl _, fun o' h => by cases h; exact ho⟩
  | b :: l, hb, o, g, hf, ho => by
    obtain ⟨h1, h2, h3⟩ := hb b (by simp) g hf
    rw [kidsG]
    cases e : (b g).1 with
    | none => exact ⟨h1, h2, fun o' h => by cases h⟩
    | some k =>
      have hk := h3 k e
      have h4 := op2_fits (c := c) h1 (ho.small hf) (hk.small h1)
      have h5 := op2_in (c := c) (ho.mono h2) hk
      obtain ⟨k1, k2, k3⟩ := kids_in c l (fun b hb' => hb b (by simp [hb'])) _ _ h4.1 h5
      rw [op2_sets] at k2
      exact ⟨k1, Nat.le_trans h2 k2, k3⟩
theorem head_in (c : Bool) {l : List Builder} (h : ∀ b ∈ l, InB b) : InB (headG c l) := fun g hf => by
  cases l with
  | nil => exact ⟨hf, Nat.le_refl _, fun o h => by cases h; exact in0 _ _⟩
  | cons b l =>
    obtain ⟨h1, h2, h3⟩ := h b (by simp) g hf
    rw [headG]
    cases e : (b g).1 with
    | none => exact ⟨h1, h2, fun o' h => by cases h⟩
    | some k =>
      obtain ⟨k1, k2, k3⟩ := kids_in c l (fun b hb' => h b (by simp [hb'])) k _ h1 (h3 k e)
      exact ⟨k1, Nat.le_trans h2 k2, k3⟩
theorem star_in {b : Builder} (h : InB b) : InB (fun g => starG (b g)) := fun g hf => by
  obtain ⟨h1, h2, h3⟩ := h g hf
  cases e : (b g).1 with
  | none =>
    have : starG (b g) = (none, (b g).2) := by unfold starG; rw [e]
    dsimp only; rw [this]; exact ⟨h1, h2, fun o' h => by cases h⟩
  | some k =>
    have : starG (b g) = (some (againP k), (b g).2.join k.last k.first) := by unfold starG; rw [e]
    dsimp only; rw [this]
    have hk := h3 k e
    exact ⟨h1.join (hk.small h1).first, h2, fun o' h => by cases h; exact ⟨hk.first, hk.last⟩⟩
theorem buildK_in {k : Int} {t : ByteArray} {n : Int} {bs : List Builder} (h : ∀ b ∈ bs, InB b) : InB (buildK k t n bs) := fun g hf => by
  unfold buildK
  split
  · exact ⟨(lit_in _ _ g hf (in0 g true)).1, (lit_in _ _ g hf (in0 g true)).2.1, fun o e => by cases e; exact (lit_in _ _ g hf (in0 g true)).2.2⟩
  split
  · exact ⟨(one_fits hf _).1, (one_in g _).1, fun o e => by cases e; exact (one_in g _).2⟩
  split
  · exact ⟨(one_fits hf _).1, (one_in g _).1, fun o e => by cases e; exact (one_in g _).2⟩
  split
  · exact star_in (b := fun g => someG (g.one allB)) (fun g hf => ⟨(one_fits hf _).1, (one_in g _).1, fun o e => by cases e; exact (one_in g _).2⟩) g hf
  split
  · exact ⟨hf, Nat.le_refl _, fun o e => by cases e; exact in0 _ _⟩
  split
  · exact head_in true h g hf
  split
  · exact head_in false h g hf
  split
  · exact star_in (head_in false h) g hf
  · exact ⟨hf, Nat.le_refl _, fun o e => by cases e⟩
mutual
theorem build_in : ∀ p : Pat, InB (buildP p)
  | .mk k t n m l => by rw [buildP]; exact buildK_in (buildL_in l)
theorem buildL_in : ∀ (l : List Pat), ∀ b ∈ buildL l, InB b
  | [], b, h => by rw [buildL] at h; cases h
  | p :: l, b, h => by
    rw [buildL] at h
    cases h with
    | head => exact build_in p
    | tail _ h => exact buildL_in l b h
end
mutual
def fitP : Pat → Prop
  | .mk k t n m l => (k = 1 → t.size ≤ 65536) ∧ (k = 2 → 0 ≤ n ∧ n ≤ 65536) ∧ ((k = 18 ∨ k = 19 ∨ k = 20) → 0 < l.length) ∧ l.length ≤ 4096 ∧ fitL l
def fitL : List Pat → Prop
  | [] => True
  | p :: l => fitP p ∧ fitL l
end
theorem fitL_get : ∀ {l : List Pat}, fitL l → ∀ {i : Nat}, i < l.length → fitP (l.getD i Pat.zero)
  | [], _, i, h => absurd h (Nat.not_lt_zero i)
  | p :: l, h, 0, _ => by rw [fitL] at h; exact h.1
  | p :: l, h, i + 1, hi => by rw [fitL] at h; exact fitL_get h.2 (by simpa using hi)
mutual
theorem fit_full : ∀ p : Pat, fitP p → fullP p
  | .mk k t n m l, h => by rw [fitP] at h; rw [fullP]; exact ⟨h.2.2.1, fitL_full l h.2.2.2.2⟩
theorem fitL_full : ∀ l : List Pat, fitL l → fullL l
  | [], _ => by rw [fullL]; trivial
  | p :: l, h => by rw [fitL] at h; rw [fullL]; exact ⟨fit_full p h.1, fitL_full l h.2⟩
end
end Go.Proofs.YtkkdpafkafjfgaaDoor
