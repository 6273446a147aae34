/- What 'explore' comes to: things in the order of coming, each once, and where each leads. Plain. -/
import Derived.Test.YtkkdpafkafjfgaaDoorMkPBase
import Derived.Test.YtkkdpafkafjfgaaDoorMkPGlZ
import Derived.Test.YtkkdpafkafjfgaaDoorMkScPat
namespace Go.Proofs.YtkkdpafkafjfgaaDoor
set_option linter.unusedVariables false
set_option linter.unusedSectionVars false
section
variable {α : Type} [DecidableEq α]
structure Exp (first : α) (st : α → Nat → α) (D : α → Prop) (ks : List α) (rows : List (Nat → Nat)) (i c : Nat) (row : Nat → Nat) : Prop where
  head : ks.getD 0 first = first ∧ 0 < ks.length
  dis : ks.Nodup
  dom : ∀ x ∈ ks, D x
  len : rows.length = i
  old : ∀ s, s < i → ∀ d, d < 256 → st (ks.getD s first) d ∈ ks ∧ (rows.getD s fun _ => 0) d = ks.idxOf (st (ks.getD s first) d)
  new : ∀ d, d < c → st (ks.getD i first) d ∈ ks ∧ row d = ks.idxOf (st (ks.getD i first) d)
  le : i ≤ ks.length
variable {first : α} {st : α → Nat → α} {D : α → Prop} {ks : List α} {rows : List (Nat → Nat)} {i c : Nat} {row : Nat → Nat}
theorem Exp.start (h : D first) : Exp first st D [first] [] 0 0 (fun _ => 0) :=
  ⟨⟨rfl, by simp⟩, by simp, fun x hx => by rw [List.mem_singleton] at hx; rw [hx]; exact h, rfl, fun s hs => by omega, fun d hd => by omega, by simp⟩
theorem getD_lt_mem {l : List α} {k : Nat} {d : α} (h : k < l.length) : l.getD k d ∈ l := by
  rw [List.getD_eq_getElem?_getD, List.getElem?_eq_getElem h]; exact List.getElem_mem h
theorem getD_app_lt {l r : List α} {k : Nat} {d : α} (h : k < l.length) : (l ++ r).getD k d = l.getD k d := by
  rw [List.getD_eq_getElem?_getD, List.getD_eq_getElem?_getD, List.getElem?_append_left h]
theorem Exp.seen (h : Exp first st D ks rows i c row) (hm : st (ks.getD i first) c ∈ ks) : Exp first st D ks rows i (c + 1) (fun d => if d = c then ks.idxOf (st (ks.getD i first) c) else row d) := by
  refine ⟨h.head, h.dis, h.dom, h.len, h.old, fun d hd => ?_, h.le⟩
  by_cases e : d = c
  · subst e; rw [if_pos rfl]; exact ⟨hm, rfl⟩
  · rw [if_neg e]; exact h.new d (by omega)
theorem Exp.fresh (h : Exp first st D ks rows i c row) (hi : i < ks.length) (hd : D (st (ks.getD i first) c)) (hm : st (ks.getD i first) c ∉ ks) :
    Exp first st D (ks ++ [st (ks.getD i first) c]) rows i (c + 1) (fun d => if d = c then ks.length else row d) := by
  have hl : ∀ {y : α}, y ∈ ks → y ∈ ks ++ [st (ks.getD i first) c] := fun hy => List.mem_append_left _ hy
  refine ⟨⟨by rw [getD_app_lt h.head.2]; exact h.head.1, by rw [List.length_append]; have := h.head.2; omega⟩, nodup_snoc h.dis hm, fun x hx => ?_, h.len, fun s hs d hd2 => ?_, fun d hd2 => ?_, by rw [List.length_append]; have := h.le; omega⟩
  · rcases List.mem_append.1 hx with hx | hx
    · exact h.dom x hx
    · rw [List.mem_singleton] at hx; rw [hx]; exact hd
  · have := h.old s hs d hd2
    rw [getD_app_lt (by omega), idx_pre this.1]
    exact ⟨hl this.1, this.2⟩
  · rw [getD_app_lt hi]
    by_cases e : d = c
    · subst e; rw [if_pos rfl, idx_new hm]; exact ⟨by simp, rfl⟩
    · have := h.new d (by omega)
      rw [if_neg e, idx_pre this.1]
      exact ⟨hl this.1, this.2⟩
theorem Exp.rowed (h : Exp first st D ks rows i 256 row) (hi : i < ks.length) : Exp first st D ks (rows ++ [row]) (i + 1) 0 (fun _ => 0) := by
  refine ⟨h.head, h.dis, h.dom, by rw [List.length_append, h.len]; rfl, fun s hs d hd => ?_, fun d hd => by omega, by omega⟩
  by_cases e : s < i
  · rw [List.getD_eq_getElem?_getD (l := rows ++ [row]), List.getElem?_append_left (by rw [h.len]; exact e), ← List.getD_eq_getElem?_getD]
    exact h.old s e d hd
  · have : s = i := by omega
    subst this
    rw [List.getD_eq_getElem?_getD (l := rows ++ [row]), List.getElem?_append_right (by rw [h.len]; exact Nat.le_refl _), h.len, Nat.sub_self]
    exact h.new d hd
theorem Exp.congr (h : Exp first st D ks rows i c row) {r : Nat → Nat} (e : ∀ d, d < c → r d = row d) : Exp first st D ks rows i c r := ⟨h.head, h.dis, h.dom, h.len, h.old, fun d hd => by rw [e d hd]; exact h.new d hd, h.le⟩
def expA (en : α → Bool) (first : α) (ks : List α) (rows : List (Nat → Nat)) : RA := ⟨ks.length, fun s c => (rows.getD s fun _ => 0) c, fun s => en (ks.getD s first)⟩
theorem Exp.ok (h : Exp first st D ks rows ks.length c row) (en : α → Bool) : (expA en first ks rows).Ok :=
  ⟨h.head.2, fun s d hs hd => by obtain ⟨h1, h2⟩ := h.old s hs d hd; show (rows.getD s fun _ => 0) d < ks.length; rw [h2]; exact idx_lt h1⟩
def goS (st : α → Nat → α) (x : α) : List UInt8 → α
  | [] => x
  | c :: l => goS st (st x c.toNat) l
theorem Exp.tak (h : Exp first st D ks rows ks.length c row) (en : α → Bool) : ∀ (l : List UInt8) (s : Nat), s < ks.length → (expA en first ks rows).tak s l = en (goS st (ks.getD s first) l)
  | [], s, hs => rfl
  | d :: l, s, hs => by
    obtain ⟨h1, h2⟩ := h.old s hs d.toNat (u8_lt d)
    have h3 := idx_lt h1
    have := h.tak en l ((expA en first ks rows).nx s d.toNat) (by show (rows.getD s fun _ => 0) _ < _; rw [h2]; exact h3)
    unfold RA.tak at this ⊢
    rw [RA.go, this, goS]
    congr 2
    show ks.getD ((rows.getD s fun _ => 0) d.toNat) first = _
    rw [h2, List.getD_eq_getElem?_getD, idx_get h1]
    rfl
theorem Exp.lang (h : Exp first st D ks rows ks.length c row) (en : α → Bool) (l : List UInt8) : (expA en first ks rows).tak 0 l = en (goS st first l) := by rw [h.tak en l 0 h.head.2, h.head.1]
end
end Go.Proofs.YtkkdpafkafjfgaaDoor

namespace Go.Proofs.YtkkdpafkafjfgaaDoor
open Go.RowKit
set_option linter.unusedVariables false
theorem run_loadVar_off {w : World} {b o n : Nat} {f : Nat → Value} (h : ∀ j, j < n → w.cell? ⟨b, o + j, none⟩ = some (f j)) {ty : TypeId} {d : TypeDesc} (hu : Tryd.prog.underlying ty = some d) (hd : aggAu d = true) (hi : (Tryd.prog.info? ty).map (·.size) = some n) :
    (loadVar ty ⟨b, o, none⟩).run Tryd.prog w = .ok (.agg ((List.range n).map f).toArray) w := by
  have hl := run_loadCells (P := Tryd.prog) w ⟨b, o, none⟩ n f (fun j hj => by rw [addr_addV]; exact h j hj)
  have hagg := run_isAgg hu w
  rw [hd] at hagg
  simp [loadVar, Sem.run_bind, hagg, size_of hi, hl]
theorem run_storeCells_arrA (b : Nat) : ∀ (l : List Value) (i : Nat) (w : World), (∀ j, j < l.length → (w.cell? ⟨b, i + j, none⟩).isSome ∧ w.frozen? ⟨b, i + j, none⟩ = false) → (∀ v ∈ l, v.oneCell' = true) →
    ∃ w', (storeCells ⟨b, 0, none⟩ l i).run Tryd.prog w = .ok () w' ∧ (∀ j, j < l.length → w'.cell? ⟨b, i + j, none⟩ = l[j]?) ∧ (∀ q, w'.frozen? q = w.frozen? q) ∧ (∀ o, o < i → w'.cell? ⟨b, o, none⟩ = w.cell? ⟨b, o, none⟩) ∧ Below b w w'
  | [], i, w, _, _ => ⟨w, rfl, fun j hj => by simp at hj, fun _ => rfl, fun _ _ => rfl, Below.refl _ _⟩
  | v :: l, i, w, h, hv => by
    obtain ⟨h0, h1⟩ := h 0 (by simp)
    rw [Nat.add_zero] at h0 h1
    obtain ⟨u, hu⟩ := Option.isSome_iff_exists.1 h0
    obtain ⟨w', k1, k2, k3, k4, k5⟩ := run_storeCells_arrA b l (i + 1) (w.setCell ⟨b, i, none⟩ v) (fun j hj => by
      obtain ⟨c1, c2⟩ := h (j + 1) (by simpa using hj)
      rw [show i + (j + 1) = i + 1 + j by omega] at c1 c2
      refine ⟨by rw [setCell_cell_other _ _ _ _ (.inr (by simp; omega))]; exact c1, by rw [setCell_frozen]; exact c2⟩) (fun x hx => hv x (by simp [hx]))
    refine ⟨w', ?_, fun j hj => ?_, fun q => by rw [k3, setCell_frozen], fun o ho => by rw [k4 o (by omega), setCell_cell_other _ _ _ _ (.inr (by simp; omega))], Below.trans (Below.setCell' (by simp) v) k5⟩
    · unfold storeCells
      rw [addr_addV, Nat.zero_add, Sem.run_bind, run_store _ _ _ _ _ (hv v (by simp)), hu]
      simp only [h1, Bool.false_eq_true, if_false, Result.andThen]
      exact k1
    · cases j with
      | zero => rw [Nat.add_zero, k4 i (by omega), setCell_cell_same rfl hu]; rfl
      | succ j => rw [show i + (j + 1) = i + 1 + j by omega, k2 j (by simpa using hj)]; rfl
theorem run_storeVar_arrA {w : World} {b n : Nat} {f0 f : Nat → Value} (h : ArrAt w b 0 n f0) {ty : TypeId} (hi : (Tryd.prog.info? ty).map (·.size) = some n) (h1 : ∀ j, j < n → (f j).oneCell' = true) :
    ∃ w', (storeVar ty ⟨b, 0, none⟩ (.agg (((List.range n).map f).toArray))).run Tryd.prog w = .ok () w' ∧ ArrAt w' b 0 n f ∧ Below b w w' := by
  obtain ⟨w', k1, k2, k3, _, k5⟩ := run_storeCells_arrA b ((List.range n).map f) 0 w (fun j hj => by
    have := h j (by simpa using hj)
    rw [this.1]; exact ⟨rfl, this.2⟩) (fun v hv => by
    obtain ⟨j, hj, rfl⟩ := List.mem_map.1 hv
    exact h1 j (List.mem_range.1 hj))
  refine ⟨w', ?_, fun j hj => ⟨?_, by rw [k3]; exact (h j hj).2⟩, k5⟩
  · cases hq : Tryd.prog.info? ty with
    | none => rw [hq] at hi; cases hi
    | some i =>
      have hs : i.size = n := by simpa [hq] using hi
      simp [storeVar, Sem.run_bind, sizeOf, typeInfo, hq, hs, Value.cells, k1]
  · rw [k2 j (by simpa using hj)]; simp [hj]
section
variable {ops : Array Oper} {rest : List Oper} {o : Oper} {a : Act} {w : World} {Q : Exit → Act → World → Prop}
theorem wpList_load_off (hgd : o.guard = none) {x : Operand} (ho : o.op = .load 26 x) {b k : Nat} {f : Nat → Int} (hx : a.eval x = .pointer (some ⟨b, k, none⟩)) (hA : ∀ j, j < 256 → w.cell? ⟨b, k + j, none⟩ = some (.int .i64 (f j)))
    (h : wpList Tryd.prog ops Q rest (a.put o.dst (.agg (rowI f))) w) : wpList Tryd.prog ops Q (o :: rest) a w := by
  refine wpList_plain hgd fun _ hK => ?_
  have hl := run_loadVar_off (f := fun j => .int .i64 (f j)) hA Tryd.underlying26 rfl info_cls
  unfold Oper.wp execOp
  simp only [ho, hx, Instr.loadAt, Instr.sureAddr, Sem.run_bind, Sem.run_pure, Result.andThen_ok, hl]
  exact hK _ _ h
theorem wpList_store_row (hgd : o.guard = none) {x y : Operand} (ho : o.op = .store 26 x y) {b : Nat} {f0 f : Nat → Int} (hx : a.eval x = .pointer (some ⟨b, 0, none⟩)) (hy : a.eval y = .agg (rowI f)) (hA : ArrAt w b 0 256 fun j => .int .i64 (f0 j))
    (h : ∀ w', (ArrAt w' b 0 256 fun j => .int .i64 (f j)) → Below b w w' → wpList Tryd.prog ops Q rest (a.put o.dst undef) w') : wpList Tryd.prog ops Q (o :: rest) a w := by
  refine wpList_plain hgd fun _ hK => ?_
  obtain ⟨w', k1, k2, k3⟩ := run_storeVar_arrA (f := fun j => .int .i64 (f j)) hA info_cls (fun j _ => rfl)
  have k1' : (storeVar 26 ⟨b, 0, none⟩ (.agg (rowI f))).run Tryd.prog w = .ok () w' := k1
  unfold Oper.wp execOp
  simp only [ho, hx, hy, Instr.storeAt, Instr.sureAddr, Sem.run_bind, Sem.run_pure, Result.andThen_ok, k1']
  exact hK _ _ (h w' k2 k3)
end
end Go.Proofs.YtkkdpafkafjfgaaDoor

namespace Go.Proofs.YtkkdpafkafjfgaaDoor
open Go.RowKit
set_option linter.unusedVariables false
def intCells (l : List Int) : Array Value := (l.map fun n => Value.int .i64 n).toArray
set_option maxRecDepth 100000 in
set_option maxHeartbeats 1000000 in
theorem In_any (k : Int) (l : List Int) (b : Nat) (w : World) (hb : w.heap[b]? = some (.cells (intCells l) 3 (0, 0))) (hl : l.length ≤ 100) :
    Calls Tryd.prog 104 #[.int .i64 k, .slice (some ⟨b, 0, none⟩) l.length l.length] w fun e w' => e = .returned (.bool (l.contains k)) ∧ w' = w := by
  have HB : Hid (∀ i (h : i < l.length), w.cell? ⟨b, i, none⟩ = some (.int .i64 (l[i]'h))) := fun i h => by
    unfold World.cell?
    dsimp only
    rw [hb]
    simp [intCells, h]
  clear hb
  obtain ⟨n, hn⟩ : ∃ n, l.length = n := ⟨_, rfl⟩
  rw [hn] at hl ⊢
  have HN := hidd hn
  clear hn
  go_enter Tryd.func104, Tryd.ntmps104
  go_wp2_with fail
  go_loopw [6, 9] (fun u6 u9 wr => ∃ i : Nat, u9 = .int .i64 i ∧ i ≤ n ∧ Hid (∀ j (h : j < l.length), j < i → l[j]'h ≠ k) ∧ wr = w) (fun _ u9 _ => n - (intOf u9).toNat)
  case atStart => exact ⟨0, rfl, Nat.zero_le _, fun j h hj => by omega, rfl⟩
  case round =>
    obtain ⟨i, rfl, hi, HJ, rfl⟩ := hrel
    by_cases hlt : i < n
    · have d1 : decide ((i : Int) < (n : Int)) = true := decide_eq_true (by omega)
      have d2 : decide (i < n) = true := decide_eq_true hlt
      have hil : i < l.length := by rw [HN.out]; exact hlt
      have c0 := HB.out i hil
      by_cases hc : l[i]'hil = k
      · rw [hc] at c0
        have e0 : (k == k) = true := by simp
        have HF : Hid (l.contains k = true) := by
          have : k ∈ l := by rw [← hc]; exact List.getElem_mem hil
          rw [Hid]; simpa using this
        clear hc
        go_wp2_with fail
        go_ret
        rw [HF.out]
        exact ⟨rfl, rfl⟩
      · have e0 : (l[i]'hil == k) = false := by rw [beq_eq_false_iff_ne]; exact hc
        have HJ2 : Hid (∀ j (h : j < l.length), j < i + 1 → l[j]'h ≠ k) := fun j h hj => by
          by_cases e : j = i
          · subst e; exact hc
          · exact HJ.out j h (by omega)
        clear hc
        obtain ⟨x, hx⟩ : ∃ x, l[i]'hil = x := ⟨_, rfl⟩
        rw [hx] at c0 e0
        clear hx
        go_wp2_with fail
        go_roundw
        case rel => exact ⟨i + 1, by go_num, by omega, HJ2, trivial⟩
        case measure => simp [intOf]; omega
    · have d1 : decide ((i : Int) < (n : Int)) = false := decide_eq_false (by omega)
      have d2 : decide (i < n) = false := decide_eq_false hlt
      have HF : Hid (l.contains k = false) := by
        rw [Hid, ← Bool.not_eq_true]
        intro h
        have h : k ∈ l := by simpa using h
        obtain ⟨j, hj, e⟩ := List.getElem_of_mem h
        exact HJ.out j hj (by have := HN.out; omega) e
      go_wp2_with fail
      go_ret
      rw [HF.out]
      exact ⟨rfl, rfl⟩
def isTx (k : Int) : Bool := [(3 : Int), 4, 5, 6, 7].contains k
def isNb (k : Int) : Bool := [(2 : Int), 8, 9, 10, 11].contains k
set_option maxRecDepth 100000 in
theorem texts_any (k : Int) (w : World) : Calls Tryd.prog 102 #[.int .i64 k] w fun e w' => e = .returned (.bool (isTx k)) ∧ Grew w w' := by
  have HI := hidd (In_any k [3, 4, 5, 6, 7] w.heap.size (w.alloc (.cells (intCells [3, 4, 5, 6, 7]) 3)) (heap_alloc_new w _) (by decide))
  have HR : Hid (isTx k = [(3 : Int), 4, 5, 6, 7].contains k) := rfl
  obtain ⟨r, hr⟩ : ∃ r, [(3 : Int), 4, 5, 6, 7].contains k = r := ⟨_, rfl⟩
  rw [hr] at HI HR
  clear hr
  go_enter Tryd.func102, Tryd.ntmps102
  go_wp2_with (go_at_call 104; refine HI.out.mono ?_; rintro e w' ⟨rfl, rfl⟩)
  go_ret
  exact ⟨by rw [HR.out]; rfl, (Grew.refl _).alloc _⟩
set_option maxRecDepth 100000 in
theorem numbers_any (k : Int) (w : World) : Calls Tryd.prog 103 #[.int .i64 k] w fun e w' => e = .returned (.bool (isNb k)) ∧ Grew w w' := by
  have HI := hidd (In_any k [2, 8, 9, 10, 11] w.heap.size (w.alloc (.cells (intCells [2, 8, 9, 10, 11]) 3)) (heap_alloc_new w _) (by decide))
  have HR : Hid (isNb k = [(2 : Int), 8, 9, 10, 11].contains k) := rfl
  obtain ⟨r, hr⟩ : ∃ r, [(2 : Int), 8, 9, 10, 11].contains k = r := ⟨_, rfl⟩
  rw [hr] at HI HR
  clear hr
  go_enter Tryd.func103, Tryd.ntmps103
  go_wp2_with (go_at_call 104; refine HI.out.mono ?_; rintro e w' ⟨rfl, rfl⟩)
  go_ret
  exact ⟨by rw [HR.out]; rfl, (Grew.refl _).alloc _⟩
end Go.Proofs.YtkkdpafkafjfgaaDoor
namespace Go.Proofs.YtkkdpafkafjfgaaDoor
open Go.RowKit
set_option linter.unusedVariables false
theorem named_loop (l : List UInt8) (k : Nat) (h : k < l.length) : nameFrom l (k + 1) = (nameFrom l k && nameByte k (l[k]'h)) := by
  rw [nameFrom_succ, List.getD_eq_getElem?_getD, List.getElem?_eq_getElem h]; rfl
set_option maxRecDepth 100000 in
set_option maxHeartbeats 4000000 in
theorem NamedR_any (t : ByteArray) (w : World) (ht : t.size ≤ maxLen) :
    Calls Tryd.prog 105 #[.string t] w fun e w' => e = .returned (.bool (named t)) ∧ Grew w w' := by
  unfold maxLen at ht
  have hconv := bytesOf w t
  have hb := bytesAt_row w.drew t (grownCap w t.size 0 5) 5
  obtain ⟨w1, hw1⟩ : ∃ w1, w.drew.alloc (.cells (bytesRow t (grownCap w t.size 0 5)) 5 ((bytesRow t (grownCap w t.size 0 5)).size, (bytesRow t (grownCap w t.size 0 5)).size + 1)) = w1 := ⟨_, rfl⟩
  have HG : Hid (Grew w w1) := hw1 ▸ ((Grew.refl w).drew.alloc _)
  rw [hw1] at hconv hb
  generalize grownCap w t.size 0 5 = cap at hconv
  have HB : Hid (∀ j (hj : j < t.size), w1.cell? ⟨w.heap.size, j, none⟩ = some (.int .u8 (t.data.toList[j]'hj).toNat)) := fun j hj => by
    have := (hb j (by simpa using hj)).1
    rw [Nat.zero_add] at this
    show w1.cell? ⟨w.drew.heap.size, j, none⟩ = _
    rw [this]; simp [encB]
    rw [getElem!_pos t.data j hj]
  clear hb hw1
  have HN : Hid (named t = (decide (1 ≤ t.size) && (decide (t.size ≤ 16) && nameFrom t.data.toList t.size))) := rfl
  go_enter Tryd.func105, Tryd.ntmps105
  go_wp2_with fail
  go_loop [3, 4, 5, 6, 10] (fun _ _ _ _ u => ∃ k : Nat, k ≤ t.size ∧ u = .int .i64 k ∧ Hid (nameFrom t.data.toList k = true)) (fun _ _ _ _ u => t.size - (intOf u).toNat)
  case atStart => exact ⟨0, Nat.zero_le _, rfl, rfl⟩
  case round =>
    obtain ⟨k, hk, rfl, HA⟩ := hrel
    by_cases hlt : k < t.size
    · have hc0 := HB.out k hlt
      have hl : k < t.data.toList.length := hlt
      have HS := hidd (named_loop t.data.toList k hl)
      have HX : Hid (nameByte k (t.data.toList[k]'hl) = false → nameFrom t.data.toList t.size = false) := fun h => nameFrom_false (k := k) (by rw [List.getD_eq_getElem?_getD, List.getElem?_eq_getElem hl]; exact h) hlt
      have HBy : Hid (nameByte k (t.data.toList[k]'hl) = ((decide (65 ≤ (t.data.toList[k]'hl).toNat) && decide ((t.data.toList[k]'hl).toNat ≤ 90)) || (decide (0 < k) && (decide (48 ≤ (t.data.toList[k]'hl).toNat) && decide ((t.data.toList[k]'hl).toNat ≤ 57))))) := rfl
      have hmb := (t.data.toList[k]'hl).toNat_lt
      generalize t.data.toList[k] = c at hc0 HS HX HBy hmb
      obtain ⟨m, hm⟩ : ∃ m, c.toNat = m := ⟨_, rfl⟩
      rw [hm] at hc0 HBy hmb
      clear hm HB
      have hc : ((m < 48 ∨ (48 ≤ m ∧ m ≤ 57)) ∨ ((57 < m ∧ m < 65) ∨ (65 ≤ m ∧ m ≤ 90)) ∨ 90 < m) := by omega
      have hz : k = 0 ∨ 0 < k := by omega
      rcases hz with hz | hz
      all_goals
        rcases hc with (hc | ⟨hc, hc'⟩) | (⟨hc, hc'⟩ | ⟨hc, hc'⟩) | hc
        all_goals
          have g1 : decide ((65 : Int) ≤ (m : Int)) = decide (65 ≤ m) := by rw [decide_eq_decide]; omega
          have g2 : decide ((m : Int) ≤ 90) = decide (m ≤ 90) := by rw [decide_eq_decide]; omega
          have g3 : decide ((48 : Int) ≤ (m : Int)) = decide (48 ≤ m) := by rw [decide_eq_decide]; omega
          have g4 : decide ((m : Int) ≤ 57) = decide (m ≤ 57) := by rw [decide_eq_decide]; omega
          have g5 : decide ((0 : Int) < (k : Int)) = decide (0 < k) := by rw [decide_eq_decide]; omega
          have HH := hidd HBy.out
          have HHH : Hid (nameByte k c = false ∨ nameByte k c = true) := by rw [Hid]; cases nameByte k c <;> simp
          first | rw [decide_eq_true (show 65 ≤ m by omega)] at g1 | rw [decide_eq_false (show ¬ (65 ≤ m) by omega)] at g1
          first | rw [decide_eq_true (show m ≤ 90 by omega)] at g2 | rw [decide_eq_false (show ¬ (m ≤ 90) by omega)] at g2
          first | rw [decide_eq_true (show 48 ≤ m by omega)] at g3 | rw [decide_eq_false (show ¬ (48 ≤ m) by omega)] at g3
          first | rw [decide_eq_true (show m ≤ 57 by omega)] at g4 | rw [decide_eq_false (show ¬ (m ≤ 57) by omega)] at g4
          first | rw [decide_eq_true (show 0 < k by omega)] at g5 | rw [decide_eq_false (show ¬ (0 < k) by omega)] at g5
          have g6 : decide (0 < k) = decide ((0 : Int) < (k : Int)) := by rw [decide_eq_decide]; omega
          rw [g5] at g6
          have HZ := hidd hz
          clear hz
          go_wp2_with fail
          first
          | (go_ret; refine ⟨ret_bool ?_, HG.out⟩; rw [HN.out, HX.out (by rw [HH.out]; have := HZ.out; simp; omega)]; simp)
          | (go_round
             case rel => exact ⟨k + 1, by omega, by go_num, by rw [Hid, HS.out, HA.out, HH.out]; have := HZ.out; simp; omega⟩
             case measure => simp [intOf]; omega)
    · obtain rfl : k = t.size := by omega
      have k1 : decide ((1 : Int) ≤ (t.size : Int)) = decide (1 ≤ t.size) := by rw [decide_eq_decide]; omega
      have k2 : decide ((t.size : Int) ≤ 16) = decide (t.size ≤ 16) := by rw [decide_eq_decide]; omega
      have HH := HA
      by_cases h1 : 1 ≤ t.size
      · rw [decide_eq_true h1] at k1
        have k3 : decide (1 ≤ t.size) = true := decide_eq_true h1
        by_cases h2 : t.size ≤ 16
        · rw [decide_eq_true h2] at k2
          have k4 : decide (t.size ≤ 16) = true := decide_eq_true h2
          go_wp2_with fail
          go_ret
          exact ⟨ret_bool (by rw [HN.out, HH.out, k3, k4]; rfl), HG.out⟩
        · rw [decide_eq_false h2] at k2
          have k4 : decide (t.size ≤ 16) = false := decide_eq_false h2
          go_wp2_with fail
          go_ret
          exact ⟨ret_bool (by rw [HN.out, k4]; simp), HG.out⟩
      · rw [decide_eq_false h1] at k1
        have k3 : decide (1 ≤ t.size) = false := decide_eq_false h1
        go_wp2_with fail
        go_ret
        exact ⟨ret_bool (by rw [HN.out, k3]; rfl), HG.out⟩
end Go.Proofs.YtkkdpafkafjfgaaDoor
