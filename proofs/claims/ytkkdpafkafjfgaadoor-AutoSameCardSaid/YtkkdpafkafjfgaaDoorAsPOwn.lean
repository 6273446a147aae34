/- Slices that a call itself has made by append, elements of one cell: what an append leaves of them. No condition but the append's own bound on bytes. -/
import Derived.Test.YtkkdpafkafjfgaaDoorAsPArr
import Derived.Deep.DeepAppendWide
import Derived.Test.YtkkdpafkafjfgaaDoorAsPBase
namespace Go.Proofs.YtkkdpafkafjfgaaDoor
open Go.RowKit
set_option linter.unusedVariables false
def Own (e : TypeId) (w : World) (B : Nat) (v : Value) (xs : List Value) : Prop := w.ownsRow B e 1 v xs.length xs
theorem Own.nil (e : TypeId) (w : World) (B : Nat) : Own e w B (.slice none 0 0) [] := World.ownsRow_nil w B e 1
theorem Own.alloc {e : TypeId} {w : World} {B : Nat} {v : Value} {xs : List Value} (h : Own e w B v xs) (o : Obj) : Own e (w.alloc o) B v xs := World.ownsRow.alloc h o
theorem Own.drew {e : TypeId} {w : World} {B : Nat} {v : Value} {xs : List Value} (h : Own e w B v xs) : Own e w.drew B v xs := h
theorem Own.kept {e : TypeId} {w w' : World} {B : Nat} {v : Value} {xs : List Value} (h : Own e w B v xs) (g : Grew w w') : Own e w' B v xs :=
  World.ownsRow.kept h ⟨g.os, g.tape, g.output, g.size, fun k hk _ => g.block k hk⟩ (row := none) (by cases v.ownBlock <;> simp)
theorem Own.mono {e : TypeId} {w : World} {B B' : Nat} {v : Value} {xs : List Value} (h : Own e w B v xs) (hB : B' ≤ B) : Own e w B' v xs := by
  refine ⟨h.1, ?_⟩
  rcases h.2 with h | ⟨g, cap, cur, h1, h2, h3⟩
  · exact .inl h
  · exact .inr ⟨g, cap, cur, h1, by omega, h3⟩
theorem Own.shape {e : TypeId} {w : World} {B : Nat} {v : Value} {xs : List Value} (h : Own e w B v xs) :
    (v = .slice none 0 0 ∧ xs = []) ∨ ∃ g cap, v = .slice (some ⟨g, 0, none⟩) xs.length cap ∧ B ≤ g ∧ g < w.heap.size ∧ xs.length ≤ cap ∧ cap ≤ maxLen ∧ ArrAt w g 0 xs.length (fun j => xs.getD j undef) := by
  have h0 := h
  rcases h.2 with ⟨h1, h2⟩ | ⟨g, cap, cur, h1, h2, h3, h4, h5, h6, h7⟩
  · exact .inl ⟨h1, List.eq_nil_of_length_eq_zero h2⟩
  · subst h1
    refine .inr ⟨g, cap, rfl, h2, (Array.getElem?_eq_some_iff.1 h3).1, h4, h5, fun j hj => ⟨?_, ?_⟩⟩
    · rw [Nat.zero_add, World.ownsRow.cellAt h0 j (by omega)]
      simp [List.getD_eq_getElem?_getD, List.getElem?_eq_getElem hj]
    · rw [World.ownsRow.frozenAt h0]
theorem Own.len {e : TypeId} {w : World} {B : Nat} {v : Value} {xs : List Value} (h : Own e w B v xs) : ∃ ad cap, v = .slice ad xs.length cap := by
  rcases h.shape with ⟨h1, h2⟩ | ⟨g, cap, h1, _⟩
  · exact ⟨none, 0, by rw [h1, h2]; rfl⟩
  · exact ⟨_, _, h1⟩
theorem Own.append {t e : TypeId} {i : TypeInfo} {z : Value} {bytes : Nat} (ht : Tryd.prog.underlying t = some (.slice e)) (hi : Tryd.prog.info? e = some i) (hz : i.zero = some z) (hs : i.size = 1) (hb : i.bytes = bytes) (hc : z.cells.size = 1)
    {w : World} {B : Nat} {v : Value} {xs : List Value} (h : Own e w B v xs) (hB : B ≤ w.heap.size) (x : Value) (hx : x.oneCell' = true) (hl : (xs.length + 1) * bytes ≤ 140737488355328) (hm : xs.length + 1 ≤ maxLen) (ty t' : TypeId) :
    ∃ v' w', (Builtin.append_ #[t, t] ty #[v, .slice (some ⟨w.heap.size, 0, none⟩) 1 1]).run Tryd.prog (w.alloc (.cells #[x] t')) = .ok v' w' ∧ Own e w' B v' (xs ++ [x]) ∧ Below B w w' := by
  obtain ⟨v', w', h1, h2, h3, _⟩ := run_append_own (P := Tryd.prog) (w.alloc (.cells #[x] t')) B t ty e i z 1 bytes ht hi hz hs hb hc (by decide) v xs.length xs (World.ownsRow.alloc h _) ⟨w.heap.size, 0, none⟩ 1 1 [x] rfl
    (by
      intro j u hj
      match j, hj with
      | 0, hj =>
        simp at hj; subst hj
        have e0 : (⟨w.heap.size, 0, none⟩ : Addr).add 0 = ⟨w.heap.size, 0, none⟩ := rfl
        rw [e0, World.cell?_alloc_mark]; rfl)
    (by intro u hu; simp at hu; subst hu; exact hx) hm hl (by simp; omega)
  refine ⟨v', w', h1, ?_, ?_⟩
  · unfold Own; rw [List.length_append]; exact h2
  · exact ((Below.refl B w).alloc hB _).grown h3 (by simp; omega) (fun k hk => (World.ownsRow.lt h k hk).1)
section
variable {P : Program} (w : World)
end
theorem wpList_append_eq {ops : Array Oper} {rest : List Oper} {o : Oper} {a : Act} {Q : Exit → Act → World → Prop} {w w' : World} (hgd : o.guard = none) {s x : Operand} {t t2 : TypeId}
    (ho : o.op = .call { callee := .builtin .append, args := #[s, x], argTypes := #[t, t2] }) {v u v' : Value} (hs : a.eval s = v) (hx : a.eval x = u)
    (hr : (Builtin.append_ #[t, t2] o.type #[v, u]).run Tryd.prog w = .ok v' w') (h : wpList Tryd.prog ops Q rest (a.put o.dst v') w') : wpList Tryd.prog ops Q (o :: rest) a w := by
  refine wpList_plain hgd fun _ hK => ?_
  unfold Oper.wp execOp
  simp only [ho, resolve, invoke, builtin, Sem.run_bind, Sem.run_pure, Result.andThen_ok, List.map_toArray, List.map_cons, List.map_nil, hs, hx, hr]
  exact hK _ _ h
theorem own_byte {w : World} {B : Nat} {v : Value} {xs : List Value} (h : Own 5 w B v xs) (hB : B ≤ w.heap.size) (b : Int) (hl : xs.length + 1 ≤ 140737488355328) (ty t' : TypeId) :
    ∃ v' w', (Builtin.append_ #[109, 109] ty #[v, .slice (some ⟨w.heap.size, 0, none⟩) 1 1]).run Tryd.prog (w.alloc (.cells #[.int .u8 b] t')) = .ok v' w' ∧ Own 5 w' B v' (xs ++ [.int .u8 b]) ∧ Below B w w' := by
  obtain ⟨i0, hi, hz0, hz1, hz2⟩ := info_parts info_u8
  exact h.append Tryd.underlying109 hi hz0 hz1 hz2 rfl hB (.int .u8 b) rfl (by omega) (by unfold maxLen; omega) ty t'
theorem own_string {w : World} {B : Nat} {v : Value} (l : List UInt8) (h : Own 5 w B v (l.map fun b => .int .u8 b.toNat)) :
    (convert 109 9 v).run Tryd.prog w = .ok (.string ⟨l.toArray⟩) w := by
  rcases h.shape with ⟨rfl, h2⟩ | ⟨g, cap, rfl, _, _, _, _, hA⟩
  · have : l = [] := by simpa using h2
    subst this
    rw [run_convert_bytes_string (P := Tryd.prog) w 109 9 5 none 0 0 Tryd.underlying109 Tryd.underlying5 Tryd.underlying9]
    rfl
  · rw [List.length_map] at hA ⊢
    exact string_arr l rfl _ hA (fun j hj => by simp [List.getD_eq_getElem?_getD, List.getElem?_eq_getElem hj]) cap
end Go.Proofs.YtkkdpafkafjfgaaDoor

namespace Go.Proofs.YtkkdpafkafjfgaaDoor
set_option linter.unusedVariables false
section
variable {α : Type} [DecidableEq α]
theorem fsts_congr {f g : Nat → α} : ∀ n, (∀ i, i < n → f i = g i) → fsts f n = fsts g n
  | 0, _ => rfl
  | n + 1, h => by
    have e : (List.range n).map f = (List.range n).map g := List.map_congr_left fun i hi => h i (by have := List.mem_range.1 hi; omega)
    rw [fsts, fsts, fsts_congr n (fun i hi => h i (by omega)), e, h n (by omega)]
theorem numb_congr {f g : Nat → α} {n i : Nat} (hi : i < n) (h : ∀ i, i < n → f i = g i) : numb f n i = numb g n i := by
  have e : (List.range n).map f = (List.range n).map g := List.map_congr_left fun i hi => h i (by have := List.mem_range.1 hi; omega)
  unfold numb; rw [e, h i hi]
theorem numb_fsts (f : Nat → α) (n i : Nat) : numb f n i = ((fsts f n).map f).idxOf (f i) := by unfold numb; rw [uniq_fsts]
theorem fsts_numb (f : Nat → α) {n i : Nat} (hi : i < n) : numb f n i < (fsts f n).length ∧ f ((fsts f n).getD (numb f n i) 0) = f i := by
  have h1 := idx_get (mem_of_lt f hi)
  rw [uniq_fsts] at h1
  have hl : numb f n i < (fsts f n).length := by have := numb_lt f hi; rwa [uniq_fsts, List.length_map] at this
  refine ⟨hl, ?_⟩
  rw [numb_fsts] at hl ⊢
  rw [List.getElem?_map, List.getElem?_eq_getElem hl] at h1
  rw [List.getD_eq_getElem?_getD, List.getElem?_eq_getElem hl]
  exact Option.some.inj h1
end
def colA (C : RA) (c : Nat) : List Nat := (List.range C.n).map fun s => C.nx s c
def autOf (C : RA) : Aut := ⟨(List.range 256).map fun c => (numb (colA C) 256 c : Int), (List.range C.n).map fun s => (fsts (colA C) 256).map fun c => (C.nx s c : Int), (List.range C.n).map C.en⟩
theorem colA_congr {A B : RA} (h : RaEq A B) {c : Nat} (hc : c < 256) : colA A c = colA B c := by
  unfold colA; rw [← h.n]
  exact List.map_congr_left fun s hs => h.nx s c (List.mem_range.1 hs) hc
theorem autOf_congr {A B : RA} (h : RaEq A B) : autOf A = autOf B := by
  have hf : fsts (colA A) 256 = fsts (colA B) 256 := fsts_congr 256 fun c hc => colA_congr h hc
  have e1 : (List.range 256).map (fun c => (numb (colA A) 256 c : Int)) = (List.range 256).map fun c => (numb (colA B) 256 c : Int) := List.map_congr_left fun c hc => by rw [numb_congr (List.mem_range.1 hc) fun c hc => colA_congr h hc]
  have e2 : ((List.range A.n).map fun s => (fsts (colA A) 256).map fun c => (A.nx s c : Int)) = (List.range B.n).map fun s => (fsts (colA B) 256).map fun c => (B.nx s c : Int) := by
    rw [← h.n, ← hf]
    exact List.map_congr_left fun s hs => List.map_congr_left fun c hc => by rw [h.nx s c (List.mem_range.1 hs) (fsts_lt _ _ _ hc)]
  have e3 : (List.range A.n).map A.en = (List.range B.n).map B.en := by
    rw [← h.n]
    exact List.map_congr_left fun s hs => h.en s (List.mem_range.1 hs)
  unfold autOf
  rw [e1, e2, e3]
theorem getD_map_range {α : Type} (f : Nat → α) {n i : Nat} (hi : i < n) (d : α) : ((List.range n).map f).getD i d = f i := by
  rw [List.getD_eq_getElem?_getD, List.getElem?_map, List.getElem?_range hi]; rfl
theorem getD_map_lt {α β : Type} (f : α → β) {l : List α} {i : Nat} (hi : i < l.length) (a : α) (d : β) : (l.map f).getD i d = f (l.getD i a) := by
  rw [List.getD_eq_getElem?_getD, List.getElem?_map, List.getElem?_eq_getElem hi, List.getD_eq_getElem?_getD, List.getElem?_eq_getElem hi]; rfl
theorem colA_nx {C : RA} {c d : Nat} (e : colA C c = colA C d) {s : Nat} (hs : s < C.n) : C.nx s c = C.nx s d := by
  have := congrArg (fun l : List Nat => l.getD s 0) e
  unfold colA at this
  rwa [getD_map_range _ hs, getD_map_range _ hs] at this
theorem autOf_step {C : RA} {s c : Nat} (hs : s < C.n) (hc : c < 256) : stepA (autOf C) s c = C.nx s c := by
  unfold stepA autOf
  dsimp only
  rw [getD_map_range _ hs, getD_map_range _ hc, Int.toNat_natCast]
  obtain ⟨h1, h2⟩ := fsts_numb (colA C) hc
  rw [getD_map_lt _ h1 0, Int.toNat_natCast]
  exact colA_nx h2 hs
theorem autOf_n (C : RA) : (autOf C).next.length = C.n := by simp [autOf]
theorem autOf_ne (C : RA) : (autOf C).ends.length = C.n := by simp [autOf]
theorem autOf_c (C : RA) : (autOf C).cls.length = 256 := by simp [autOf]
theorem autOf_row {C : RA} {s : Nat} (hs : s < C.n) : (autOf C).next.getD s [] = (fsts (colA C) 256).map fun c => (C.nx s c : Int) := by
  unfold autOf; dsimp only; rw [getD_map_range _ hs]
theorem autOf_right {C : RA} (ok : C.Ok) (h : C.n ≤ 8192) : RightA (autOf C) := by
  refine ⟨by rw [autOf_n]; exact ok.pos, by rw [autOf_n]; exact h, by rw [autOf_ne, autOf_n], fun r hr => ?_, fun c hc => ?_⟩
  · rw [autOf_row ok.pos, List.length_map]
    obtain ⟨s, hs, rfl⟩ := List.mem_map.1 hr
    refine ⟨List.length_map _, fun t ht => ?_⟩
    obtain ⟨c, hc, rfl⟩ := List.mem_map.1 ht
    have := ok.nx s c (List.mem_range.1 hs) (fsts_lt _ _ _ hc)
    rw [autOf_n]; omega
  · rw [autOf_row ok.pos, List.length_map]
    obtain ⟨d, hd, rfl⟩ := List.mem_map.1 hc
    have := (fsts_numb (colA C) (List.mem_range.1 hd)).1
    omega
theorem autOf_ra {C : RA} (ok : C.Ok) : RaEq (raA (autOf C)) C := by
  refine ⟨autOf_n C, fun s c hs hc => autOf_step (by rw [← autOf_n C]; exact hs) hc, fun s hs => ?_⟩
  have hs : s < C.n := by rw [← autOf_n C]; exact hs
  show (autOf C).ends.getD s false = C.en s
  unfold autOf; dsimp only; rw [getD_map_range _ hs]
theorem RaEq.eqv {A B : RA} (h : RaEq A B) (ok : A.Ok) : ∀ (l : List UInt8) (s : Nat), s < A.n → A.tak s l = B.tak s l
  | [], s, hs => h.en s hs
  | c :: l, s, hs => by
    have h1 := h.nx s c.toNat hs (u8_lt c)
    have := h.eqv ok l (A.nx s c.toNat) (ok.nx s _ hs (u8_lt c))
    unfold RA.tak at this ⊢
    rw [RA.go, RA.go, this, h1]
theorem RaEq.symm {A B : RA} (h : RaEq A B) : RaEq B A := ⟨h.n.symm, fun s c hs hc => (h.nx s c (by rw [h.n]; exact hs) hc).symm, fun s hs => (h.en s (by rw [h.n]; exact hs)).symm⟩
theorem nodup_of_map {α β : Type} (f : α → β) : ∀ {l : List α}, (l.map f).Nodup → l.Nodup
  | [], _ => List.nodup_nil
  | x :: l, h => by
    rw [List.map_cons, List.nodup_cons] at h
    exact List.nodup_cons.2 ⟨fun k => h.1 (List.mem_map.2 ⟨x, k, rfl⟩), nodup_of_map f h.2⟩
def LeastOf (R : RA) (A : Aut) : Prop := ∃ C, Can C ∧ Eqv C R 0 0 ∧ A = autOf C ∧ C.n ≤ R.n
theorem LeastOf.one {R S : RA} {A B : Aut} (h : LeastOf R A) (k : LeastOf S B) (e : Eqv R S 0 0) : A = B := by
  obtain ⟨C, c1, c2, rfl, _⟩ := h
  obtain ⟨D, d1, d2, rfl, _⟩ := k
  exact autOf_congr (can_one c1 d1 (c2.trans (e.trans d2.symm)))
theorem Made.least {R : RA} {g : Nat → Nat} {ord : List Nat} {C : RA} (ok : R.Ok) (hg : Groups R g) (h : Made R g ord C) : LeastOf R (autOf C) := by
  have hc := h.can ok hg
  refine ⟨C, hc.1, hc.2, rfl, ?_⟩
  rw [h.n]
  have h1 : ord.Nodup := nodup_of_map g h.dis
  exact nodup_lt R.n h1 h.lt
end Go.Proofs.YtkkdpafkafjfgaaDoor
