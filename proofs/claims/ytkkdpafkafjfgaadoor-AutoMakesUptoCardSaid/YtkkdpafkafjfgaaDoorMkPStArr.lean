/- Sets of bytes in plain words: words of 64 bits as functions of the place. No program. No condition. -/
import Derived.Test.YtkkdpafkafjfgaaDoorMkPBase
import Derived.Lib.TrailingZeros
import Derived.Test.YtkkdpafkafjfgaaDoorMkPArr
import Derived.Laws.Rows
import Derived.Deep.LoopGhost
import Derived.StillTailTactics
import Derived.Deep.RegionWith
import Derived.Laws.Bits64b
import Derived.Deep.AppendSrc
import Derived.Laws.AppendOwn
namespace Go.Proofs.YtkkdpafkafjfgaaDoor
open Go.RowKit
set_option linter.unusedVariables false
def word (f : Nat → Bool) : Nat → Nat → Nat
  | _, 0 => 0
  | b, n + 1 => (f b).toNat + 2 * word f (b + 1) n
theorem testBit_word (f : Nat → Bool) : ∀ (n b j : Nat), (word f b n).testBit j = (decide (j < n) && f (b + j))
  | 0, b, j => by simp [word]
  | n + 1, b, 0 => by
    simp only [word, Nat.testBit_zero, Nat.add_zero]
    cases f b <;> simp [Bool.toNat] <;> omega
  | n + 1, b, j + 1 => by
    have e : ((f b).toNat + 2 * word f (b + 1) n) / 2 = word f (b + 1) n := by cases f b <;> simp only [Bool.toNat, cond_false, cond_true] <;> omega
    rw [word, Nat.testBit_succ, e, testBit_word f n (b + 1) j, show b + 1 + j = b + (j + 1) by omega]
    congr 1
    simp
theorem word_lt (f : Nat → Bool) : ∀ (n b : Nat), word f b n < 2 ^ n
  | 0, b => by simp [word]
  | n + 1, b => by
    have := word_lt f n (b + 1)
    rw [word, Nat.pow_succ]
    cases f b <;> simp only [Bool.toNat, cond_false, cond_true] <;> omega
theorem word_lt64 (f : Nat → Bool) (b : Nat) : word f b 64 < 18446744073709551616 := word_lt f 64 b
theorem word_eq {f : Nat → Bool} {b n a : Nat} (ha : a < 2 ^ n) (h : ∀ j, j < n → a.testBit j = f (b + j)) : a = word f b n := by
  apply Nat.eq_of_testBit_eq
  intro j
  rw [testBit_word]
  by_cases hj : j < n
  · simp [hj, h j hj]
  · have := Nat.testBit_lt_two_pow (Nat.lt_of_lt_of_le ha (Nat.pow_le_pow_right (by decide) (by omega : n ≤ j)))
    simp [hj, this]
theorem word_congr {f g : Nat → Bool} {b n : Nat} (h : ∀ j, j < n → f (b + j) = g (b + j)) : word f b n = word g b n :=
  word_eq (word_lt f n b) (fun j hj => by rw [testBit_word, h j hj]; simp [hj])
def setV (f : Nat → Bool) : Value := .agg #[.int .u64 (word f 0 64), .int .u64 (word f 64 64), .int .u64 (word f 128 64), .int .u64 (word f 192 64)]
theorem setV_congr {f g : Nat → Bool} (h : ∀ b, b < 256 → f b = g b) : setV f = setV g := by
  unfold setV
  rw [word_congr (fun j hj => h (0 + j) (by omega)), word_congr (fun j hj => h (64 + j) (by omega)), word_congr (fun j hj => h (128 + j) (by omega)), word_congr (fun j hj => h (192 + j) (by omega))]
def bl (f : Nat → Bool) : Nat → Nat → List Nat
  | _, 0 => []
  | k, n + 1 => if f k then k :: bl f (k + 1) n else bl f (k + 1) n
theorem has_word (f : Nat → Bool) (b j : Nat) (hj : j < 64) : (((word f b 64) / 2 ^ j) % 2 == 1) = f (b + j) := by
  have h := testBit_word f 64 b j
  rw [Nat.testBit_eq_decide_div_mod_eq] at h
  simp only [hj, decide_true, Bool.true_and] at h
  rw [← h]
  rfl
end Go.Proofs.YtkkdpafkafjfgaaDoor
namespace Go.Proofs.YtkkdpafkafjfgaaDoor
open Go.RowKit
set_option linter.unusedVariables false
def rep (c : Nat) : Nat → Nat
  | 0 => 0
  | n + 1 => c + 256 * rep c n
def f1 (a : Nat) : Nat := ((a / 2) &&& 85) + (a &&& 85)
def f2 (a : Nat) : Nat := ((a / 4) &&& 51) + (a &&& 51)
def f3 (a : Nat) : Nat := (a / 16 + a) &&& 15
def q1 (n x : Nat) : Nat := ((x / 2) &&& rep 85 n) + (x &&& rep 85 n)
def q2 (n x : Nat) : Nat := ((x / 4) &&& rep 51 n) + (x &&& rep 51 n)
def q3 (n x : Nat) : Nat := (x / 16 + x) &&& rep 15 n
end Go.Proofs.YtkkdpafkafjfgaaDoor
namespace Go.Proofs.YtkkdpafkafjfgaaDoor
open Go.RowKit
set_option linter.unusedVariables false
theorem plain_addr_add (b o i : Nat) : (⟨b, o, none⟩ : Addr).add i = ⟨b, o + i, none⟩ := by
  unfold Addr.add; split
  · next h0 => subst h0; rfl
  · rfl
def rowB (n : Nat) (f : Nat → Value) : Array Value := ((List.range n).map f).toArray
theorem rowB_congr {n : Nat} {f g : Nat → Value} (h : ∀ j, j < n → f j = g j) : rowB n f = rowB n g := by
  unfold rowB; congr 1; exact List.map_congr_left fun j hj => h j (List.mem_range.1 hj)
def aggB (d : TypeDesc) : Bool := match d with | .struct _ | .array _ _ => true | _ => false
theorem run_loadVar_arr {w : World} {b n : Nat} {f : Nat → Value} (h : ArrAt w b 0 n f) {ty : TypeId} {d : TypeDesc} (hu : Tryd.prog.underlying ty = some d) (hd : aggB d = true) (hi : (Tryd.prog.info? ty).map (·.size) = some n) :
    (loadVar ty ⟨b, 0, none⟩).run Tryd.prog w = .ok (.agg (rowB n f)) w := by
  have hl := run_loadCells (P := Tryd.prog) w ⟨b, 0, none⟩ n f (fun j hj => by rw [plain_addr_add]; exact h.at j hj)
  cases hq : Tryd.prog.info? ty with
  | none => rw [hq] at hi; cases hi
  | some i =>
    have hs : i.size = n := by simpa [hq] using hi
    have hagg : (isAgg ty).run Tryd.prog w = .ok true w := by
      unfold isAgg
      rw [Sem.run_bind, run_underlying hu w]
      unfold aggB at hd
      cases d <;> simp_all
    simp [loadVar, Sem.run_bind, hagg, sizeOf, typeInfo, hq, hs, hl, rowB]
theorem run_storeCells_arr (b : Nat) : ∀ (l : List Value) (i : Nat) (w : World), (∀ j, j < l.length → (w.cell? ⟨b, i + j, none⟩).isSome ∧ w.frozen? ⟨b, i + j, none⟩ = false) → (∀ v ∈ l, v.oneCell' = true) →
    ∃ w', (storeCells ⟨b, 0, none⟩ l i).run Tryd.prog w = .ok () w' ∧ (∀ j, j < l.length → w'.cell? ⟨b, i + j, none⟩ = l[j]?) ∧ (∀ q, w'.frozen? q = w.frozen? q) ∧ (∀ o, o < i → w'.cell? ⟨b, o, none⟩ = w.cell? ⟨b, o, none⟩) ∧ Below b w w'
  | [], i, w, _, _ => ⟨w, rfl, fun j hj => by simp at hj, fun _ => rfl, fun _ _ => rfl, Below.refl _ _⟩
  | v :: l, i, w, h, hv => by
    obtain ⟨h0, h1⟩ := h 0 (by simp)
    rw [Nat.add_zero] at h0 h1
    obtain ⟨u, hu⟩ := Option.isSome_iff_exists.1 h0
    obtain ⟨w', k1, k2, k3, k4, k5⟩ := run_storeCells_arr b l (i + 1) (w.setCell ⟨b, i, none⟩ v) (fun j hj => by
      obtain ⟨c1, c2⟩ := h (j + 1) (by simpa using hj)
      rw [show i + (j + 1) = i + 1 + j by omega] at c1 c2
      refine ⟨by rw [setCell_cell_other _ _ _ _ (.inr (by simp; omega))]; exact c1, by rw [setCell_frozen]; exact c2⟩) (fun x hx => hv x (by simp [hx]))
    refine ⟨w', ?_, fun j hj => ?_, fun q => by rw [k3, setCell_frozen], fun o ho => by rw [k4 o (by omega), setCell_cell_other _ _ _ _ (.inr (by simp; omega))], Below.trans (Below.setCell' (by simp) v) k5⟩
    · unfold storeCells
      rw [plain_addr_add, Nat.zero_add, Sem.run_bind, run_store _ _ _ _ _ (hv v (by simp)), hu]
      simp only [h1, Bool.false_eq_true, if_false, Result.andThen]
      exact k1
    · cases j with
      | zero => rw [Nat.add_zero, k4 i (by omega), setCell_cell_same rfl hu]; rfl
      | succ j => rw [show i + (j + 1) = i + 1 + j by omega, k2 j (by simpa using hj)]; rfl
theorem run_storeVar_arr {w : World} {b n : Nat} {f0 f : Nat → Value} (h : ArrAt w b 0 n f0) {ty : TypeId} (hi : (Tryd.prog.info? ty).map (·.size) = some n) (h1 : ∀ j, j < n → (f j).oneCell' = true) :
    ∃ w', (storeVar ty ⟨b, 0, none⟩ (.agg (rowB n f))).run Tryd.prog w = .ok () w' ∧ ArrAt w' b 0 n f ∧ Below b w w' := by
  obtain ⟨w', k1, k2, k3, _, k5⟩ := run_storeCells_arr b ((List.range n).map f) 0 w (fun j hj => by
    have := h j (by simpa using hj)
    rw [this.1]; exact ⟨rfl, this.2⟩) (fun v hv => by
    obtain ⟨j, hj, rfl⟩ := List.mem_map.1 hv
    exact h1 j (List.mem_range.1 hj))
  refine ⟨w', ?_, fun j hj => ⟨?_, by rw [k3]; exact (h j hj).2⟩, k5⟩
  · cases hq : Tryd.prog.info? ty with
    | none => rw [hq] at hi; cases hi
    | some i =>
      have hs : i.size = n := by simpa [hq] using hi
      simp [storeVar, Sem.run_bind, sizeOf, typeInfo, hq, hs, Value.cells, rowB, k1]
  · rw [k2 j (by simpa using hj)]; simp [hj]
section
variable {ops : Array Oper} {rest : List Oper} {o : Oper} {a : Act} {w : World} {Q : Exit → Act → World → Prop}
theorem wpList_load_arr (hgd : o.guard = none) {ty : TypeId} {x : Operand} (ho : o.op = .load ty x) {b n : Nat} {f : Nat → Value} (hx : a.eval x = .pointer (some ⟨b, 0, none⟩)) (hA : ArrAt w b 0 n f) {d : TypeDesc} (hu : Tryd.prog.underlying ty = some d) (hd : aggB d = true)
    (hi : (Tryd.prog.info? ty).map (·.size) = some n) (h : wpList Tryd.prog ops Q rest (a.put o.dst (.agg (rowB n f))) w) : wpList Tryd.prog ops Q (o :: rest) a w := by
  refine wpList_plain hgd fun _ hK => ?_
  unfold Oper.wp execOp
  simp only [ho, hx, Instr.loadAt, Instr.sureAddr, Sem.run_bind, Sem.run_pure, Result.andThen_ok, run_loadVar_arr hA hu hd hi]
  exact hK _ _ h
theorem wpList_store_arr (hgd : o.guard = none) {ty : TypeId} {x y : Operand} (ho : o.op = .store ty x y) {b n : Nat} {f0 f : Nat → Value} (hx : a.eval x = .pointer (some ⟨b, 0, none⟩)) (hy : a.eval y = .agg (rowB n f)) (hA : ArrAt w b 0 n f0)
    (hi : (Tryd.prog.info? ty).map (·.size) = some n) (h1 : ∀ j, j < n → (f j).oneCell' = true) (h : ∀ w', ArrAt w' b 0 n f → Below b w w' → wpList Tryd.prog ops Q rest (a.put o.dst undef) w') : wpList Tryd.prog ops Q (o :: rest) a w := by
  refine wpList_plain hgd fun _ hK => ?_
  obtain ⟨w', k1, k2, k3⟩ := run_storeVar_arr (f := f) hA hi h1
  unfold Oper.wp execOp
  simp only [ho, hx, hy, Instr.storeAt, Instr.sureAddr, Sem.run_bind, Sem.run_pure, Result.andThen_ok, k1]
  exact hK _ _ (h w' k2 k3)
theorem bodyPost_arr {fn : Func} {R : Ending → World → Prop} {p : Tmp} {ty : TypeId} (h : fn.results = #[.cell p ty]) {b n : Nat} {f : Nat → Value} (hp : a.tmps.getD p undef = .pointer (some ⟨b, 0, none⟩)) (hA : ArrAt w b 0 n f) {d : TypeDesc} (hu : Tryd.prog.underlying ty = some d) (hd : aggB d = true)
    (hi : (Tryd.prog.info? ty).map (·.size) = some n) (hdf : a.defers = []) (hR : R (.returned (.agg (rowB n f))) w) : bodyPost Tryd.prog fn R .ret a w := by
  refine bodyPost_ret ?_ hdf hR
  have hp' : a.tmps[p]?.getD undef = .pointer (some ⟨b, 0, none⟩) := by simpa using hp
  simp [results, h, hp', asAddr, run_loadVar_arr hA hu hd hi]
end
theorem info_set : (Tryd.prog.info? 77).map (·.size) = some 4 := by kernel_rfl
def setW (A : Nat → Nat) : Value := .agg #[.int .u64 (A 0), .int .u64 (A 1), .int .u64 (A 2), .int .u64 (A 3)]
def W64 (A : Nat → Nat) : Prop := ∀ j, A j < 18446744073709551616
def wordsB (A : Nat → Nat) : Array Value := #[.int .u64 (A 0), .int .u64 (A 1), .int .u64 (A 2), .int .u64 (A 3)]
theorem words_at (w : World) (A : Nat → Nat) : ArrAt (w.alloc (.cells (wordsB A) 77)) w.heap.size 0 4 (fun j => .int .u64 (A j)) :=
  ArrAt.new w _ _ 4 _ (fun j hj => by
    match j, hj with
    | 0, _ => rfl
    | 1, _ => rfl
    | 2, _ => rfl
    | 3, _ => rfl)
end Go.Proofs.YtkkdpafkafjfgaaDoor

namespace Go.Proofs.YtkkdpafkafjfgaaDoor
open Go.RowKit
set_option linter.unusedVariables false
def QRow (w : World) (base : Nat) (e : TypeId) (size : Nat) (v : Value) (n : Nat) (xs : List Value) : Prop :=
  xs.length = n * size ∧ ∃ a cap, v = .slice a n cap ∧ n ≤ cap ∧ cap ≤ maxLen ∧
    (0 < cap → ∃ b off cur, a = some ⟨b, off, none⟩ ∧ base ≤ b ∧ w.heap[b]? = some (.cells cur e (0, 0)) ∧ off + cap * size ≤ cur.size ∧ ∀ j, j < n * size → cur[off + j]? = xs[j]?)
theorem q_set_same {w : World} {b : Nat} {cs : Array Value} {t : TypeId} (h : w.heap[b]? = some (.cells cs t (0, 0))) (i : Nat) (u : Value) : (w.setCell ⟨b, i, none⟩ u).heap[b]? = some (.cells (cs.setIfInBounds i u) t (0, 0)) := by
  simp [World.setCell, Array.getElem?_modify, h]
theorem q_set_other {w : World} {b b' : Nat} (o : Nat) (u : Value) (h : b ≠ b') : (w.setCell ⟨b, o, none⟩ u).heap[b']? = w.heap[b']? := by
  simp [World.setCell, Array.getElem?_modify, h]
section
variable {P : Program} {w w' : World} {base : Nat} {e : TypeId} {size : Nat} {v : Value} {n : Nat} {xs : List Value}
theorem QRow.made (w : World) (cur : Array Value) (n : Nat) (hb : base ≤ w.heap.size) (hm : n ≤ maxLen) (hs : cur.size = n * size) : QRow (w.alloc (.cells cur e)) base e size (.slice (some ⟨w.heap.size, 0, none⟩) n n) n cur.toList :=
  ⟨by rw [Array.length_toList, hs], _, n, rfl, Nat.le_refl _, hm, fun _ => ⟨w.heap.size, 0, cur, rfl, hb, heap_alloc_new w _, by omega, fun j hj => by rw [Nat.zero_add, Array.getElem?_toList]⟩⟩
theorem QRow.kept (h : QRow w base e size v n xs) (hg : ∀ b, v.ownBlock = some b → b < w.heap.size → w'.heap[b]? = w.heap[b]?) : QRow w' base e size v n xs := by
  obtain ⟨h0, a, cap, rfl, h1, h2, h3⟩ := h
  refine ⟨h0, a, cap, rfl, h1, h2, fun hc => ?_⟩
  obtain ⟨b, off, cur, rfl, k1, k2, k3, k4⟩ := h3 hc
  exact ⟨b, off, cur, rfl, k1, (hg b rfl (Array.getElem?_eq_some_iff.1 k2).1).trans k2, k3, k4⟩
theorem QRow.grew (h : QRow w base e size v n xs) (hg : Grew w w') : QRow w' base e size v n xs := h.kept fun b _ hb => hg.block b hb
theorem QRow.at (h : QRow w base e size v n xs) (hn : 0 < n) : ∃ b off cap, v = .slice (some ⟨b, off, none⟩) n cap ∧ base ≤ b ∧ b < w.heap.size ∧ n ≤ cap ∧ cap ≤ maxLen ∧ ∀ j u, j < n * size → xs[j]? = some u → w.cell? ⟨b, off + j, none⟩ = some u := by
  obtain ⟨h0, a, cap, rfl, h1, h2, h3⟩ := h
  obtain ⟨b, off, cur, rfl, k1, k2, k3, k4⟩ := h3 (by omega)
  refine ⟨b, off, cap, rfl, k1, (Array.getElem?_eq_some_iff.1 k2).1, h1, h2, fun j u hj hu => ?_⟩
  unfold World.cell?
  dsimp only
  rw [k2]
  exact (k4 j hj).trans hu
theorem QRow.tail {t : TypeId} (ht : P.underlying t = some (.slice (P.elem t))) (hs : ∀ w, (sizeOf (P.elem t)).run P w = .ok size w) (h : QRow w base e size v (n + 1) xs) :
    ∃ a c, (∀ w1, (Instr.slice t v (some (.int .i64 1)) none none).run P w1 = .ok (.slice a n c) w1) ∧ QRow w base e size (.slice a n c) n (xs.drop size) ∧ (Value.slice a n c).ownBlock = v.ownBlock := by
  obtain ⟨h0, a, cap, rfl, h1, h2, h3⟩ := h
  obtain ⟨b, off, cur, rfl, k1, k2, k3, k4⟩ := h3 (by omega)
  have hr : ∀ w1, (Instr.slice t (.slice (some ⟨b, off, none⟩) (n + 1) cap) (some (.int .i64 1)) none none).run P w1 = .ok (sliced (some ⟨b, off, none⟩) (1 : Int).toNat (n + 1) cap size) w1 := fun w1 => by
    rw [run_slice_l w1 t _ (n + 1) cap ht .i64 1 (by omega) (by omega), hs]; rfl
  have hl : (xs.drop size).length = n * size := by rw [List.length_drop, h0, Nat.add_mul]; omega
  by_cases hc : cap = 1
  · obtain rfl : n = 0 := by omega
    refine ⟨some ⟨b, off, none⟩, 0, fun w1 => by rw [hr w1]; simp [sliced, hc], ⟨hl, _, 0, rfl, Nat.le_refl _, by omega, fun h => absurd h (by omega)⟩, rfl⟩
  · refine ⟨some ⟨b, off + size, none⟩, cap - 1, fun w1 => by rw [hr w1]; simp [sliced, hc, Addr.add], ⟨hl, _, cap - 1, rfl, by omega, by omega, fun _ => ⟨b, off + size, cur, rfl, k1, k2, ?_, fun j hj => ?_⟩⟩, rfl⟩
    · have : cap * size = (cap - 1) * size + size := by
        conv => lhs; rw [show cap = (cap - 1) + 1 by omega, Nat.add_mul, Nat.one_mul]
      omega
    · rw [List.getElem?_drop, Nat.add_assoc]
      exact k4 (size + j) (by rw [Nat.add_mul]; omega)
theorem QRow.append {t : TypeId} {i : TypeInfo} {z : Value} {bytes : Nat} (ht : P.underlying t = some (.slice e)) (hi : P.info? e = some i) (hz : i.zero = some z) (hsize : i.size = size) (hby : i.bytes = bytes) (hzs : z.cells.size = size)
    (h : QRow w base e size v n xs) (hbase : base ≤ w.heap.size) (g c : Nat) (news : List Value) (hl : news.length = size) (hnews : ∀ j u, news[j]? = some u → w.cell? ⟨g, j, none⟩ = some u) (h1 : ∀ u ∈ news, u.oneCell' = true)
    (h63 : n + 1 ≤ maxLen) (hbytes : (n + 1) * bytes ≤ 140737488355328) (ty : TypeId) :
    ∃ v' w', (Builtin.append_ #[t, t] ty #[v, .slice (some ⟨g, 0, none⟩) 1 c]).run P w = .ok v' w' ∧ QRow w' base e size v' (n + 1) (xs ++ news) ∧ w.grownBy w' v.ownBlock ∧ (v'.ownBlock = v.ownBlock ∨ v'.ownBlock = some w.heap.size) := by
  subst hsize
  subst hby
  obtain ⟨h0, a, cap, rfl, k1, k2, k3⟩ := h
  have hsrc : Src P i.size t (.slice (some ⟨g, 0, none⟩) 1 c) 1 news w := Src.ofSlice w ht ⟨g, 0, none⟩ 1 c news (by rw [hl, Nat.one_mul]) (fun j u hu => by rw [Addr.add_lit, Nat.zero_add]; exact hnews j u hu) h1
  have hlen : (xs ++ news).length = (n + 1) * i.size := by rw [List.length_append, h0, hl, Nat.add_mul, Nat.one_mul]
  by_cases hroom : n + 1 ≤ cap
  · obtain ⟨b, off, cur, rfl, q1, q2, q3, q4⟩ := k3 (by omega)
    have hfit : off + n * i.size + news.length ≤ cur.size := by
      have : (n + 1) * i.size ≤ cap * i.size := Nat.mul_le_mul_right _ hroom
      rw [Nat.add_mul, Nat.one_mul] at this
      omega
    have hrun := run_append_room_src (P := P) w t t ty e i ht hi b off n cap _ 1 news hsrc hroom (fun j hj => by
      unfold World.cell?
      dsimp only
      rw [q2]
      show (cur[off + n * i.size + j]?).isSome = true
      rw [Array.getElem?_eq_getElem (by omega)]; rfl) (fun j hj => by unfold World.frozen?; dsimp only; rw [q2]; simp)
    refine ⟨_, _, hrun, ⟨hlen, _, cap, rfl, hroom, k2, fun _ => ?_⟩, ?_, Or.inl rfl⟩
    · obtain ⟨cur', c1, c2, c3⟩ : ∃ cur', (w.setCells b (off + n * i.size) news).heap[b]? = some (.cells cur' e (0, 0)) ∧ cur'.size = cur.size ∧ ∀ j, cur'[j]? = if off + n * i.size ≤ j ∧ j < off + n * i.size + news.length then news[j - (off + n * i.size)]? else cur[j]? := by
        clear hrun hsrc h1 hnews hl hlen
        suffices H : ∀ (l : List Value) (o : Nat) (w : World) (cur : Array Value), w.heap[b]? = some (.cells cur e (0, 0)) → o + l.length ≤ cur.size → ∃ cur', (w.setCells b o l).heap[b]? = some (.cells cur' e (0, 0)) ∧ cur'.size = cur.size ∧ ∀ j, cur'[j]? = if o ≤ j ∧ j < o + l.length then l[j - o]? else cur[j]? from H news _ w cur q2 hfit
        intro l
        induction l with
        | nil => intro o w cur hq _; exact ⟨cur, hq, rfl, fun j => by rw [if_neg (by intro h; simp at h; omega)]⟩
        | cons x l ih =>
          intro o w cur hq hf
          have hset : (w.setCell ⟨b, o, none⟩ x).heap[b]? = some (.cells (cur.setIfInBounds o x) e (0, 0)) := q_set_same hq o x
          obtain ⟨cur', d1, d2, d3⟩ := ih (o + 1) _ _ hset (by simp at hf ⊢; omega)
          refine ⟨cur', d1, by rw [d2]; simp, fun j => ?_⟩
          rw [d3]
          by_cases hj : j = o
          · subst hj
            rw [if_neg (by omega), if_pos ⟨Nat.le_refl _, by simp⟩, Nat.sub_self]
            simp at hf
            simp [show j < cur.size by omega]
          · by_cases hin : o + 1 ≤ j ∧ j < o + 1 + l.length
            · rw [if_pos hin, if_pos ⟨by omega, by simp; omega⟩, show j - o = (j - (o + 1)) + 1 by omega, List.getElem?_cons_succ]
            · rw [if_neg hin, if_neg (by simp; omega), Array.getElem?_setIfInBounds_ne (Ne.symm hj)]
      refine ⟨b, off, cur', rfl, q1, c1, by rw [c2]; exact q3, fun j hj => ?_⟩
      rw [c3]
      by_cases hjn : j < n * i.size
      · rw [if_neg (by omega), List.getElem?_append_left (by rw [h0]; exact hjn)]
        exact q4 j hjn
      · rw [Nat.add_mul, Nat.one_mul] at hj
        rw [if_pos ⟨by omega, by omega⟩, List.getElem?_append_right (by omega), h0, show off + j - (off + n * i.size) = j - n * i.size by omega]
    · suffices H : ∀ (l : List Value) (o : Nat) (w : World), w.grownBy (w.setCells b o l) (some b) from H news _ w
      intro l
      induction l with
      | nil => intro o w; exact ⟨rfl, rfl, rfl, Nat.le_refl _, fun _ _ _ => rfl⟩
      | cons x l ih =>
        intro o w
        have := ih (o + 1) (w.setCell ⟨b, o, none⟩ x)
        exact ⟨this.os.trans (by simp [World.setCell]), this.tape.trans (by simp [World.setCell]), this.output.trans (by simp [World.setCell]), Nat.le_trans (by simp [World.setCell]) this.size, fun k hk hne => (this.block k (by simpa [World.setCell] using hk) hne).trans (by
          exact q_set_other o x (fun e => hne (by rw [e])))⟩
  · have hcap : cap = n := by omega
    subst hcap
    have hold : (Builtin.firstCells i.size cap (.slice a cap cap)).run P w.drew = .ok xs.toArray w.drew := by
      rcases Nat.eq_zero_or_pos cap with hz0 | hp
      · subst hz0
        have hx : xs = [] := List.eq_nil_of_length_eq_zero (by simpa using h0)
        subst hx
        cases a with
        | none => exact run_firstCells_none _ _ _ _ _
        | some b => exact run_firstCells_some _ _ _ _ _ _ _ (by simp) (fun j v hv => by simp at hv)
      · obtain ⟨b, off, cur, rfl, q1, q2, q3, q4⟩ := k3 hp
        refine run_firstCells_some _ _ _ _ _ _ _ h0 (fun j u hu => ?_)
        have hj : j < xs.length := (List.getElem?_eq_some_iff.1 hu).1
        show w.cell? _ = _
        rw [Addr.add_lit]
        unfold World.cell?
        dsimp only
        rw [q2]
        exact (q4 j (by omega)).trans hu
    have hge := grownCap_ge w (cap + 1) cap e
    have hcm := grownCap_le_maxLen w (cap + 1) cap e h63
    have hrun := run_append_grow_src (P := P) w t t ty e i z ht hi hz a cap cap xs hold _ 1 news hsrc (by omega) (by unfold maxLen at h63; omega) (growslice_fits (by omega) hbytes)
    refine ⟨_, _, hrun, ⟨hlen, _, _, rfl, hge, hcm, fun _ => ⟨w.heap.size, 0, _, rfl, hbase, heap_alloc_new w.drew _, ?_, fun j hj => ?_⟩⟩, ⟨rfl, rfl, rfl, by simp, fun k hk _ => Below.heap_alloc w.drew _ k hk⟩, Or.inr rfl⟩
    · rw [Nat.zero_add, Array.size_append, List.size_toArray, hlen, size_zeroCells, hzs, ← Nat.add_mul]
      exact Nat.mul_le_mul_right _ (by omega)
    · rw [Nat.zero_add, Array.getElem?_append_left (by rw [List.size_toArray, hlen]; exact hj), List.getElem?_toArray]
end
end Go.Proofs.YtkkdpafkafjfgaaDoor
