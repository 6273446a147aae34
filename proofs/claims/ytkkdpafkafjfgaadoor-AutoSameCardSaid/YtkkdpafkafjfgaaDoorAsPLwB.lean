/- Automata as values: what Make, Not, Both, Either, Same do with them; patterns made of patterns. -/
import Derived.Test.YtkkdpafkafjfgaaDoorAsLwA
import Derived.Test.YtkkdpafkafjfgaaDoorAsPLwDoor
import Derived.Test.YtkkdpafkafjfgaaDoorAsAuSm
import Derived.Test.YtkkdpafkafjfgaaDoorAsLwT
namespace Go.Proofs.YtkkdpafkafjfgaaDoor
open Go.RowKit RR
set_option linter.unusedVariables false
set_option linter.unusedSimpArgs false
set_option maxRecDepth 100000
def AutVal (w : World) (v : Array Value) (L : List UInt8 → Bool) (n : Nat) : Prop := ∃ B na nc ea ec, v = autB B na nc ea ec ∧ AutAt w B na ea ∧ IsAut B L ∧ B.next.length = n
section
variable {w w' : World} {b : Nat} {v v2 : Array Value} {L M : List UInt8 → Bool} {n m : Nat}
theorem AutVal.kept (h : AutVal w v L n) (g : Grew w w') : AutVal w' v L n := by
  obtain ⟨B, na, nc, ea, ec, h1, h2, h3⟩ := h; exact ⟨B, na, nc, ea, ec, h1, h2.kept g, h3⟩
theorem AutVal.size (h : AutVal w v L n) : v.size = 258 := by obtain ⟨B, na, nc, ea, ec, rfl, _⟩ := h; exact autB_size B na nc ea ec
theorem AutVal.pos (h : AutVal w v L n) : 0 < n ∧ n ≤ 8192 := by obtain ⟨B, na, nc, ea, ec, rfl, _, h3, rfl⟩ := h; exact ⟨h3.right.n0, h3.right.n1⟩
theorem AutVal.as (h : AutVal w v L n) (e : ∀ l, L l = M l) : AutVal w v M n := by
  have : L = M := funext e
  rw [← this]; exact h
theorem TwoEnd.val {L : List UInt8 → Bool} {e : Ending} (h : TwoEnd w 0 L e w') : ∃ v n, e = .returned (.tuple #[.agg v, .int .i64 0]) ∧ Grew w w' ∧ AutVal w' v L n := by
  obtain ⟨B, na, nc, ea, ec, he, h1, h2, h3⟩ := h.is
  exact ⟨_, _, he, h2, B, na, nc, ea, ec, rfl, h1.at, h3, rfl⟩
end
theorem build_pat2 (k n k' n' : Int) (t m t' m' : ByteArray) (v v' : Value) (w : World) : (Instr.buildSlice 22 2 #[(0, .agg #[.int .i64 k, .string t, .int .i64 n, .string m, v]), (1, .agg #[.int .i64 k', .string t', .int .i64 n', .string m', v'])]).run Tryd.prog w = .ok (.slice (some ⟨w.heap.size, 0, none⟩) 2 2) (w.alloc (.cells #[.int .i64 k, .string t, .int .i64 n, .string m, v, .int .i64 k', .string t', .int .i64 n', .string m', v'] 24)) := by kernel_rfl
theorem build_pat1' (k n : Int) (t m : ByteArray) (v : Value) (w : World) : (Instr.buildSlice 22 1 #[(0, .agg #[.int .i64 k, .string t, .int .i64 n, .string m, v])]).run Tryd.prog w = .ok (.slice (some ⟨w.heap.size, 0, none⟩) 1 1) (w.alloc (.cells #[.int .i64 k, .string t, .int .i64 n, .string m, v] 24)) := by kernel_rfl
section
variable {ops : Array Oper} {rest : List Oper} {o : Oper} {a : Act} {w : World} {Q : Exit → Act → World → Prop}
theorem wpList_build_p2 (hgd : o.guard = none) {x y : Operand} (ho : o.op = .buildSlice 22 2 #[(0, x), (1, y)]) {k n k' n' : Int} {t m t' m' : ByteArray} {v v' : Value} (hx : a.eval x = .agg #[.int .i64 k, .string t, .int .i64 n, .string m, v]) (hy : a.eval y = .agg #[.int .i64 k', .string t', .int .i64 n', .string m', v'])
    (h : wpList Tryd.prog ops Q rest (a.put o.dst (.slice (some ⟨w.heap.size, 0, none⟩) 2 2)) (w.alloc (.cells #[.int .i64 k, .string t, .int .i64 n, .string m, v, .int .i64 k', .string t', .int .i64 n', .string m', v'] 24))) : wpList Tryd.prog ops Q (o :: rest) a w := by
  refine wpList_plain hgd fun _ hK => ?_
  unfold Oper.wp execOp
  simp only [ho, List.map_toArray, List.map_cons, List.map_nil, hx, hy, Sem.run_bind, build_pat2, Result.andThen_ok]
  exact hK _ _ h
theorem wpList_build_p1 (hgd : o.guard = none) {x : Operand} (ho : o.op = .buildSlice 22 1 #[(0, x)]) {k n : Int} {t m : ByteArray} {v : Value} (hx : a.eval x = .agg #[.int .i64 k, .string t, .int .i64 n, .string m, v])
    (h : wpList Tryd.prog ops Q rest (a.put o.dst (.slice (some ⟨w.heap.size, 0, none⟩) 1 1)) (w.alloc (.cells #[.int .i64 k, .string t, .int .i64 n, .string m, v] 24))) : wpList Tryd.prog ops Q (o :: rest) a w := by
  refine wpList_plain hgd fun _ hK => ?_
  unfold Oper.wp execOp
  simp only [ho, List.map_toArray, List.map_cons, List.map_nil, hx, Sem.run_bind, build_pat1', Result.andThen_ok]
  exact hK _ _ h
end
theorem kids_two {w : World} {p q : Pat} {kv kv' : Value} (hp : PatV w kv p) (hq : PatV w kv' q) : KidsAt (w.alloc (.cells #[.int .i64 p.kind, .string p.text, .int .i64 p.n, .string p.name, kv, .int .i64 q.kind, .string q.text, .int .i64 q.n, .string q.name, kv'] 24)) (.slice (some ⟨w.heap.size, 0, none⟩) 2 2) [p, q] := by
  have g := (Grew.refl w).alloc (.cells #[.int .i64 p.kind, .string p.text, .int .i64 p.n, .string p.name, kv, .int .i64 q.kind, .string q.text, .int .i64 q.n, .string q.name, kv'] 24)
  have hb := heap_alloc_new w (.cells #[.int .i64 p.kind, .string p.text, .int .i64 p.n, .string p.name, kv, .int .i64 q.kind, .string q.text, .int .i64 q.n, .string q.name, kv'] 24)
  refine Or.inr ⟨w.heap.size, 0, 2, rfl, by simp, Nat.le_refl _, by decide, fun i hi => ?_⟩
  rcases (by simp at hi; omega : i = 0 ∨ i = 1) with rfl | rfl
  · exact .shut (v := kv) ⟨cell_of hb 0, cell_of hb 1, cell_of hb 2, cell_of hb 3, cell_of hb 4, hp.hk, hp.hn, hp.ht, hp.hm⟩ (hp.kids.kept g)
  · exact .shut (v := kv') ⟨cell_of hb 5, cell_of hb 6, cell_of hb 7, cell_of hb 8, cell_of hb 9, hq.hk, hq.hn, hq.ht, hq.hm⟩ (hq.kids.kept g)
def altOf (p q : Pat) : Pat := .mk 19 ⟨#[]⟩ 0 ⟨#[]⟩ [p, q]
def starOf (p : Pat) : Pat := .mk 20 ⟨#[]⟩ 0 ⟨#[]⟩ [p]
theorem pat_of_kids {w : World} {k : Int} {v : Value} {l : List Pat} (h : KidsAt w v l) (hk : -9223372036854775808 ≤ k ∧ k ≤ 9223372036854775807) : PatV w v (.mk k ⟨#[]⟩ 0 ⟨#[]⟩ l) := ⟨h, hk, by show (-9223372036854775808 : Int) ≤ 0 ∧ (0 : Int) ≤ 9223372036854775807; omega, Nat.zero_le _, Nat.zero_le _⟩
theorem lang_alt (p q : Pat) (l : List UInt8) : langP (altOf p q) l ↔ langP p l ∨ langP q l := by
  rw [langP_eq]
  show opsL false [langP p, langP q] l ↔ _
  simp [opsL, opL]
theorem lang_star (p : Pat) (l : List UInt8) : langP (starOf p) l ↔ StarL (langP p) l := by
  rw [langP_eq]
  show StarL (opsL false [langP p]) l ↔ _
  have : opsL false [langP p] = langP p := unitL false _
  rw [this]
end Go.Proofs.YtkkdpafkafjfgaaDoor

namespace Go.Proofs.YtkkdpafkafjfgaaDoor
open Go.RowKit RR
set_option linter.unusedVariables false
set_option linter.unusedSimpArgs false
set_option maxRecDepth 100000
def Mk (w : World) (v : Array Value) (p : Pat) : Prop := v.size = 258 ∧ v.all (·.oneCell') = true ∧ ∃ B na nc ea ec, v = autB B na nc ea ec ∧ AutAt w B na ea ∧ (makeErr p ≠ 0 → B = zeroA) ∧ (makeErr p = 0 → IsAut B (autL p))
def MkN (N : Nat) (w : World) (v : Array Value) (p : Pat) : Prop := ∀ w'', w.heap.size ≤ w''.heap.size → (∀ k, N ≤ k → k < w.heap.size → w''.heap[k]? = w.heap[k]?) → Mk w'' v p
theorem MkN.at {N : Nat} {w : World} {v : Array Value} {p : Pat} (h : MkN N w v p) : Mk w v p := h w (Nat.le_refl _) fun _ _ _ => rfl
theorem Mk.kept {w w' : World} {v : Array Value} {p : Pat} (h : Mk w v p) (g : Grew w w') : Mk w' v p := by
  obtain ⟨h1, h2, B, na, nc, ea, ec, h3, h4, h5⟩ := h
  exact ⟨h1, h2, B, na, nc, ea, ec, h3, h4.kept g, h5⟩
theorem make_mk {w : World} {p : Pat} {kv : Value} (hp : PatV w kv p) (hT : TabZ32 w) : Calls Tryd.prog 10 #[.agg #[.int .i64 p.kind, .string p.text, .int .i64 p.n, .string p.name, kv]] w fun e w' => ∃ v, e = .returned (.tuple #[.agg v, .int .i64 (makeErr p)]) ∧ Grew w w' ∧ v.size = 258 ∧ v.all (·.oneCell') = true ∧ MkN w.heap.size w' v p := by
  refine (Make_any p kv w hp hT).mono fun e w' h => ?_
  by_cases h0 : makeErr p = 0
  · rw [h0] at h ⊢
    obtain ⟨B, na, nc, ea, ec, he, h1, h2, h3⟩ := h.is
    exact ⟨_, he, h2, autB_size B na nc ea ec, autB_one B na nc ea ec, fun w'' hs hk => ⟨autB_size B na nc ea ec, autB_one B na nc ea ec, B, na, nc, ea, ec, rfl, h1 w'' hs hk, fun h => absurd h0 h, fun _ => h3⟩⟩
  · obtain ⟨B, na, nc, ea, ec, he, h1, h2, h3, _⟩ := h
    exact ⟨_, he, h2, autB_size B na nc ea ec, autB_one B na nc ea ec, fun w'' hs hk => ⟨autB_size B na nc ea ec, autB_one B na nc ea ec, B, na, nc, ea, ec, rfl, h1 w'' hs hk, h3, fun h => absurd h h0⟩⟩
theorem mk_same {w : World} {v v2 : Array Value} {p q : Pat} (h : Mk w v p) (k : Mk w v2 q) (he : makeErr p = makeErr q) (hl : makeErr p = 0 → ∀ l, autL p l = autL q l) :
    Calls Tryd.prog 12 #[.agg v, .agg v2] w fun e w' => e = .returned (.bool true) ∧ Grew w w' := by
  obtain ⟨_, _, B, na, nc, ea, ec, rfl, h1, h2, h3⟩ := h
  obtain ⟨_, _, D, na', nc', ea', ec', rfl, k1, k2, k3⟩ := k
  by_cases h0 : makeErr p = 0
  · have a := h3 h0
    have b := k3 (he.symm.trans h0)
    obtain rfl := a.one b (hl h0)
    exact Same_eq B na ea na' ea' nc ec nc' ec' w h1 k1 a.right.ne
  · obtain rfl := h2 h0
    obtain rfl := k2 (fun h => h0 (he.trans h))
    exact Same_eq zeroA na ea na' ea' nc ec nc' ec' w h1 k1 rfl
theorem makeErr_simple {p : Pat} (h : makeErr p = 0) : makeErr (simple p) = 0 := by
  obtain ⟨h1, n, h2, h3⟩ := makeErr_zero h
  obtain ⟨e1, e2, _⟩ := (patErr_iff p).1 h1
  obtain ⟨_, m, hm, k⟩ := simple_sub p e1 e2 n h2
  unfold makeErr
  rw [if_pos (patErr_simple h1), k]
  dsimp only
  rw [if_neg (by omega)]
theorem autL_simple {p : Pat} (h : makeErr p = 0) (l : List UInt8) : autL p l = autL (simple p) l := by
  obtain ⟨h1, n, h2, h3⟩ := makeErr_zero h
  obtain ⟨e1, e2, _⟩ := (patErr_iff p).1 h1
  obtain ⟨e, _⟩ := simple_sub p e1 e2 n h2
  rw [Bool.eq_iff_iff, autL_lang h, autL_lang (makeErr_simple h), e]
theorem StarL.append {A : Lang} {a b : List UInt8} (h : StarL A a) (k : StarL A b) : StarL A (a ++ b) := by
  induction h with
  | nil => exact k
  | cons x y ih => rw [List.append_assoc]; exact .cons x ih
theorem star_star (A : Lang) (l : List UInt8) : StarL A l ↔ StarL (StarL A) l := by
  constructor
  · intro h
    have := StarL.cons (A := StarL A) h .nil
    rwa [List.append_nil] at this
  · intro h
    induction h with
    | nil => exact .nil
    | cons x _ ih => exact x.append ih
theorem autL_star2 {p : Pat} (h : makeErr (starOf p) = 0) (k : makeErr (starOf (starOf p)) = 0) (l : List UInt8) : autL (starOf p) l = autL (starOf (starOf p)) l := by
  rw [Bool.eq_iff_iff, autL_lang h, autL_lang k, lang_star, lang_star, show langP (starOf p) = StarL (langP p) from funext fun x => propext (lang_star p x)]
  exact star_star _ l
theorem patErr_swap {p q : Pat} (hp : patErr p = 0) : patErr (altOf p q) = patErr (altOf q p) := by
  have h1 := ((patErr_iff p).1 hp).1
  have hs : (sizeW (altOf p q) 1 0 0).1 = true ↔ (sizeW (altOf q p) 1 0 0).1 = true := by
    rw [size_iff, size_iff]
    unfold altOf
    rw [nodesP, nodesP, depthP, depthP, nodesL, nodesL, nodesL, nodesL, nodesL, nodesL, depthL, depthL, depthL, depthL, depthL, depthL]
    omega
  have he : errW (altOf p q) = errW (altOf q p) := by
    unfold altOf
    rw [errW, errW, if_pos (show nodeErr (Pat.mk 19 ⟨#[]⟩ 0 ⟨#[]⟩ [p, q]) = 0 from rfl), if_pos (show nodeErr (Pat.mk 19 ⟨#[]⟩ 0 ⟨#[]⟩ [q, p]) = 0 from rfl)]
    simp only [errL, h1, if_true]
  unfold patErr
  by_cases h : (sizeW (altOf p q) 1 0 0).1 = true
  · rw [if_pos h, if_pos (hs.1 h), he]
  · rw [if_neg h, if_neg (fun k => h (hs.2 k))]
theorem places_alt (p q : Pat) : placesP (altOf p q) = sumK [placesP p, placesP q] := by rw [placesP_eq]; rfl
theorem makeErr_swap {p q : Pat} (hp : makeErr p = 0) : makeErr (altOf p q) = makeErr (altOf q p) := by
  obtain ⟨h1, n, h2, h3⟩ := makeErr_zero hp
  have e : placesP (altOf p q) = placesP (altOf q p) := by
    rw [places_alt, places_alt, h2]
    cases placesP q with
    | none => rfl
    | some m => show some (n + (m + 0)) = some (m + (n + 0)); congr 1; omega
  unfold makeErr
  rw [patErr_swap h1, e]
theorem autL_swap {p q : Pat} (h : makeErr (altOf p q) = 0) (k : makeErr (altOf q p) = 0) (l : List UInt8) : autL (altOf p q) l = autL (altOf q p) l := by
  rw [Bool.eq_iff_iff, autL_lang h, autL_lang k, lang_alt, lang_alt, or_comm]
end Go.Proofs.YtkkdpafkafjfgaaDoor
