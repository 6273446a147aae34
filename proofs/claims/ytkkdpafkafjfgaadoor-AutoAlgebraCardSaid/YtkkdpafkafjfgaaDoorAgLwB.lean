/- Automata as values: what Make, Not, Both, Either, Same do with them; patterns made of patterns. -/
import Derived.Test.YtkkdpafkafjfgaaDoorAgLwA
import Derived.Test.YtkkdpafkafjfgaaDoorAgAuCc
import Derived.Test.YtkkdpafkafjfgaaDoorAgAuSm
namespace Go.Proofs.YtkkdpafkafjfgaaDoor
open Go.RowKit RR
set_option linter.unusedVariables false
set_option linter.unusedSimpArgs false
set_option maxRecDepth 100000
def AutVal (w : World) (v : Array Value) (L : List UInt8 → Bool) (n : Nat) : Prop := ∃ B na nc ea ec, v = autB B na nc ea ec ∧ AutAt w B na ea ∧ IsAut B L ∧ B.next.length = n
def AutIn (w : World) (b : Nat) (v : Array Value) (L : List UInt8 → Bool) (n : Nat) : Prop := w.heap[b]? = some (.cells v 30 (0, 0)) ∧ AutVal w v L n
section
variable {w w' : World} {b : Nat} {v v2 : Array Value} {L M : List UInt8 → Bool} {n m : Nat}
theorem AutVal.kept (h : AutVal w v L n) (g : Grew w w') : AutVal w' v L n := by
  obtain ⟨B, na, nc, ea, ec, h1, h2, h3⟩ := h; exact ⟨B, na, nc, ea, ec, h1, h2.kept g, h3⟩
theorem AutIn.kept (h : AutIn w b v L n) (g : Grew w w') : AutIn w' b v L n := ⟨heap_kept g h.1, h.2.kept g⟩
theorem AutVal.size (h : AutVal w v L n) : v.size = 258 := by obtain ⟨B, na, nc, ea, ec, rfl, _⟩ := h; exact autB_size B na nc ea ec
theorem AutVal.ones (h : AutVal w v L n) : v.all (·.oneCell') = true := by obtain ⟨B, na, nc, ea, ec, rfl, _⟩ := h; exact autB_one B na nc ea ec
theorem AutVal.pos (h : AutVal w v L n) : 0 < n ∧ n ≤ 8192 := by obtain ⟨B, na, nc, ea, ec, rfl, _, h3, rfl⟩ := h; exact ⟨h3.right.n0, h3.right.n1⟩
theorem AutVal.as (h : AutVal w v L n) (e : ∀ l, L l = M l) : AutVal w v M n := by
  have : L = M := funext e
  rw [← this]; exact h
theorem AutIn.next (h : AutIn w b v L n) : ∃ na nc, w.cell? ⟨b, 256, none⟩ = some (.slice na n nc) := by
  obtain ⟨h1, B, na, nc, ea, ec, rfl, _, _, rfl⟩ := h
  exact ⟨na, nc, by rw [cell_of h1]; exact len_next B na nc ea ec⟩
theorem put_aut (h : AutVal w v L n) : AutIn ((w.alloc (.cells zAut 30)).setRow w.heap.size v) w.heap.size v L n ∧ Grew w ((w.alloc (.cells zAut 30)).setRow w.heap.size v) := by
  have ga := (Grew.refl w).alloc (.cells zAut 30)
  have gw := setRow_grew ga (Nat.le_refl _) v
  exact ⟨⟨setRow_heap _ _ _ v _ _ (heap_alloc_new w _), h.kept gw⟩, gw⟩
theorem TwoEnd.val {L : List UInt8 → Bool} {e : Ending} (h : TwoEnd w 0 L e w') : ∃ v n, e = .returned (.tuple #[.agg v, .int .i64 0]) ∧ Grew w w' ∧ AutVal w' v L n := by
  obtain ⟨B, na, nc, ea, ec, he, h1, h2, h3⟩ := h.is
  exact ⟨_, _, he, h2, B, na, nc, ea, ec, rfl, h1.at, h3, rfl⟩
theorem TwoEnd.err {err : Int} {L : List UInt8 → Bool} {e : Ending} (h : TwoEnd w err L e w') : ∃ v, e = .returned (.tuple #[.agg v, .int .i64 err]) ∧ Grew w w' ∧ v.size = 258 ∧ v.all (·.oneCell') = true := by
  obtain ⟨B, na, nc, ea, ec, he, h1, h2, h3⟩ := h
  exact ⟨_, he, h2, autB_size B na nc ea ec, autB_one B na nc ea ec⟩
def flipA (C : RA) : RA := ⟨C.n, C.nx, fun s => !C.en s⟩
theorem flip_go (C : RA) : ∀ (l : List UInt8) (s : Nat), (flipA C).go s l = C.go s l
  | [], s => rfl
  | c :: l, s => flip_go C l _
theorem flip_tak (C : RA) (l : List UInt8) (s : Nat) : (flipA C).tak s l = !C.tak s l := by
  unfold RA.tak; rw [flip_go]; rfl
theorem flip_top (C : RA) : ∀ p, (flipA C).top p = C.top p
  | 0 => rfl
  | p + 1 => by rw [RA.top, RA.top, flip_top C p]; rfl
theorem flip_can {C : RA} (h : Can C) : Can (flipA C) :=
  ⟨⟨h.ok.pos, h.ok.nx⟩, fun s t hs ht e => h.apart s t hs ht fun l => by
    have := e l
    rw [flip_tak, flip_tak] at this
    exact Bool.not_inj this, fun p hp => by rw [flip_top]; exact h.next p hp, fun s hs => by rw [flip_top]; exact h.come s hs⟩
theorem IsAut.canN {B : Aut} (h : IsAut B L) {D : RA} (hD : Can D) (e : ∀ l, D.tak 0 l = L l) : B.next.length = D.n := by
  obtain ⟨C, hC, rfl⟩ := h.can
  rw [autOf_n]
  refine (can_one hC hD fun l => ?_).n
  rw [← ((autOf_ra hC.ok).eqv (h.right.ok h.cls)) l 0 h.right.n0, h.lang, e]
theorem IsAut.ra {B : Aut} (h : IsAut B L) : ∃ C, Can C ∧ B = autOf C ∧ B.next.length = C.n ∧ ∀ l, C.tak 0 l = L l := by
  obtain ⟨C, hC, rfl⟩ := h.can
  exact ⟨C, hC, rfl, autOf_n C, fun l => by rw [← ((autOf_ra hC.ok).eqv (h.right.ok h.cls)) l 0 h.right.n0, h.lang]⟩
theorem IsAut.not_n {A B : Aut} (h : IsAut A L) (k : IsAut B fun l => !L l) : B.next.length = A.next.length := by
  obtain ⟨C, hC, _, hn, hl⟩ := h.ra
  rw [hn]
  show _ = (flipA C).n
  exact k.canN (flip_can hC) fun l => by rw [flip_tak, hl]
theorem make_val {p : Pat} {kv : Value} (hp : PatV w kv p) (hT : TabZ32 w) (h0 : makeErr p = 0) : Calls Tryd.prog 10 #[.agg (p.cells kv)] w fun e w' => ∃ v n, e = .returned (.tuple #[.agg v, .int .i64 0]) ∧ Grew w w' ∧ AutVal w' v (autL p) n := by
  have := Make_any p kv w hp hT
  rw [h0] at this
  exact this.mono fun e w' h => h.val
theorem make_err {p : Pat} {kv : Value} (hp : PatV w kv p) (hT : TabZ32 w) : Calls Tryd.prog 10 #[.agg (p.cells kv)] w fun e w' => ∃ v, e = .returned (.tuple #[.agg v, .int .i64 (makeErr p)]) ∧ Grew w w' ∧ v.size = 258 ∧ v.all (·.oneCell') = true :=
  (Make_any p kv w hp hT).mono fun e w' h => h.err
theorem not_val (h : AutVal w v L n) : Calls Tryd.prog 16 #[.agg v] w fun e w' => ∃ v', e = .returned (.tuple #[.agg v', .int .i64 0]) ∧ Grew w w' ∧ AutVal w' v' (fun l => !L l) n := by
  obtain ⟨B, na, nc, ea, ec, rfl, h1, h2, rfl⟩ := h
  have := ANot_any B na ea nc ec w h1
  rw [wrongA_zero.2 h2.right, show (fun l => !(raA B).tak 0 l) = fun l => !L l from funext fun l => by rw [h2.lang]] at this
  refine this.mono fun e w' h => ?_
  obtain ⟨B', na', nc', ea', ec', he, k1, k2, k3⟩ := h.is
  exact ⟨_, he, k2, B', na', nc', ea', ec', rfl, k1.at, k3, h2.not_n k3⟩
theorem both_val (h : AutVal w v L n) (k : AutVal w v2 M m) (hnm : n * m ≤ 8192) : Calls Tryd.prog 17 #[.agg v, .agg v2] w fun e w' => ∃ v' n', e = .returned (.tuple #[.agg v', .int .i64 0]) ∧ Grew w w' ∧ AutVal w' v' (fun l => L l && M l) n' := by
  obtain ⟨B, na, nc, ea, ec, rfl, h1, h2, rfl⟩ := h
  obtain ⟨D, na', nc', ea', ec', rfl, k1, k2, rfl⟩ := k
  have := Both_any B D na ea na' ea' nc ec nc' ec' w h1 k1
  have e0 : twoErr B D = 0 := by
    unfold twoErr
    rw [if_neg (fun h => h (wrongA_zero.2 h2.right)), if_neg (fun h => h (wrongA_zero.2 k2.right)), if_neg (by omega)]
  rw [e0, show (fun l => (raA B).tak 0 l && (raA D).tak 0 l) = fun l => L l && M l from funext fun l => by rw [h2.lang, k2.lang]] at this
  exact this.mono fun e w' h => h.val
theorem either_val (h : AutVal w v L n) (k : AutVal w v2 M m) (hnm : n * m ≤ 8192) : Calls Tryd.prog 18 #[.agg v, .agg v2] w fun e w' => ∃ v' n', e = .returned (.tuple #[.agg v', .int .i64 0]) ∧ Grew w w' ∧ AutVal w' v' (fun l => L l || M l) n' := by
  obtain ⟨B, na, nc, ea, ec, rfl, h1, h2, rfl⟩ := h
  obtain ⟨D, na', nc', ea', ec', rfl, k1, k2, rfl⟩ := k
  have := Either_any B D na ea na' ea' nc ec nc' ec' w h1 k1
  have e0 : twoErr B D = 0 := by
    unfold twoErr
    rw [if_neg (fun h => h (wrongA_zero.2 h2.right)), if_neg (fun h => h (wrongA_zero.2 k2.right)), if_neg (by omega)]
  rw [e0, show (fun l => (raA B).tak 0 l || (raA D).tak 0 l) = fun l => L l || M l from funext fun l => by rw [h2.lang, k2.lang]] at this
  exact this.mono fun e w' h => h.val
theorem same_val (h : AutVal w v L n) (k : AutVal w v2 M m) (e : ∀ l, L l = M l) : Calls Tryd.prog 12 #[.agg v, .agg v2] w fun e w' => e = .returned (.bool true) ∧ Grew w w' := by
  obtain ⟨B, na, nc, ea, ec, rfl, h1, h2, rfl⟩ := h
  obtain ⟨D, na', nc', ea', ec', rfl, k1, k2, rfl⟩ := k
  obtain rfl := h2.one k2 e
  exact Same_eq B na ea na' ea' nc ec nc' ec' w h1 k1 h2.right.ne
end
theorem build_pat2 (k n k' n' : Int) (t m t' m' : ByteArray) (v v' : Value) (w : World) : (Instr.buildSlice 22 2 #[(0, .agg #[.int .i64 k, .string t, .int .i64 n, .string m, v]), (1, .agg #[.int .i64 k', .string t', .int .i64 n', .string m', v'])]).run Tryd.prog w = .ok (.slice (some ⟨w.heap.size, 0, none⟩) 2 2) (w.alloc (.cells #[.int .i64 k, .string t, .int .i64 n, .string m, v, .int .i64 k', .string t', .int .i64 n', .string m', v'] 24)) := by kernel_rfl
section
variable {ops : Array Oper} {rest : List Oper} {o : Oper} {a : Act} {w : World} {Q : Exit → Act → World → Prop}
theorem wpList_build_p2 (hgd : o.guard = none) {x y : Operand} (ho : o.op = .buildSlice 22 2 #[(0, x), (1, y)]) {k n k' n' : Int} {t m t' m' : ByteArray} {v v' : Value} (hx : a.eval x = .agg #[.int .i64 k, .string t, .int .i64 n, .string m, v]) (hy : a.eval y = .agg #[.int .i64 k', .string t', .int .i64 n', .string m', v'])
    (h : wpList Tryd.prog ops Q rest (a.put o.dst (.slice (some ⟨w.heap.size, 0, none⟩) 2 2)) (w.alloc (.cells #[.int .i64 k, .string t, .int .i64 n, .string m, v, .int .i64 k', .string t', .int .i64 n', .string m', v'] 24))) : wpList Tryd.prog ops Q (o :: rest) a w := by
  refine wpList_plain hgd fun _ hK => ?_
  unfold Oper.wp execOp
  simp only [ho, List.map_toArray, List.map_cons, List.map_nil, hx, hy, Sem.run_bind, build_pat2, Result.andThen_ok]
  exact hK _ _ h
end
theorem kids_two {w : World} {p q : Pat} {kv kv' : Value} (hp : PatV w kv p) (hq : PatV w kv' q) : KidsAt (w.alloc (.cells #[.int .i64 p.kind, .string p.text, .int .i64 p.n, .string p.name, kv, .int .i64 q.kind, .string q.text, .int .i64 q.n, .string q.name, kv'] 24)) (.slice (some ⟨w.heap.size, 0, none⟩) 2 2) [p, q] := by
  have g := (Grew.refl w).alloc (.cells #[.int .i64 p.kind, .string p.text, .int .i64 p.n, .string p.name, kv, .int .i64 q.kind, .string q.text, .int .i64 q.n, .string q.name, kv'] 24)
  have hb := heap_alloc_new w (.cells #[.int .i64 p.kind, .string p.text, .int .i64 p.n, .string p.name, kv, .int .i64 q.kind, .string q.text, .int .i64 q.n, .string q.name, kv'] 24)
  refine Or.inr ⟨w.heap.size, 0, 2, rfl, by simp, Nat.le_refl _, by decide, fun i hi => ?_⟩
  rcases (by simp at hi; omega : i = 0 ∨ i = 1) with rfl | rfl
  · exact .shut (v := kv) ⟨cell_of hb 0, cell_of hb 1, cell_of hb 2, cell_of hb 3, cell_of hb 4, hp.hk, hp.hn, hp.ht, hp.hm⟩ (hp.kids.kept g)
  · exact .shut (v := kv') ⟨cell_of hb 5, cell_of hb 6, cell_of hb 7, cell_of hb 8, cell_of hb 9, hq.hk, hq.hn, hq.ht, hq.hm⟩ (hq.kids.kept g)
def altOf (p q : Pat) : Pat := .mk 19 ⟨#[]⟩ 0 ⟨#[]⟩ [p, q]
theorem pat_of_kids {w : World} {k : Int} {v : Value} {l : List Pat} (h : KidsAt w v l) (hk : -9223372036854775808 ≤ k ∧ k ≤ 9223372036854775807) : PatV w v (.mk k ⟨#[]⟩ 0 ⟨#[]⟩ l) := ⟨h, hk, by show (-9223372036854775808 : Int) ≤ 0 ∧ (0 : Int) ≤ 9223372036854775807; omega, Nat.zero_le _, Nat.zero_le _⟩
theorem lang_alt (p q : Pat) (l : List UInt8) : langP (altOf p q) l ↔ langP p l ∨ langP q l := by
  rw [langP_eq]
  show opsL false [langP p, langP q] l ↔ _
  simp [opsL, opL]
theorem patErr_alt {p q : Pat} (hp : patErr p = 0) (hq : patErr q = 0) : patErr (altOf p q) = 0 ∨ patErr (altOf p q) = 4 := by
  unfold patErr at hp hq ⊢
  split
  · rename_i h
    left
    unfold altOf
    rw [errW, if_pos (show nodeErr (Pat.mk 19 ⟨#[]⟩ 0 ⟨#[]⟩ [p, q]) = 0 from rfl)]
    split at hp
    · split at hq
      · rw [errL, if_pos hp, errL, if_pos hq, errL]
      · exact absurd hq (by decide)
    · exact absurd hp (by decide)
  · right; rfl
theorem make_all {w : World} {p : Pat} {kv : Value} (hp : PatV w kv p) (hT : TabZ32 w) : Calls Tryd.prog 10 #[.agg #[.int .i64 p.kind, .string p.text, .int .i64 p.n, .string p.name, kv]] w fun e w' => ∃ v, e = .returned (.tuple #[.agg v, .int .i64 (makeErr p)]) ∧ Grew w w' ∧ v.size = 258 ∧ v.all (·.oneCell') = true ∧ (makeErr p = 0 → ∃ n, AutVal w' v (autL p) n) := by
  by_cases h0 : makeErr p = 0
  · refine (make_val hp hT h0).mono ?_
    rintro e w' ⟨v, n, he, hg, hv⟩
    exact ⟨v, by rw [h0]; exact he, hg, hv.size, hv.ones, fun _ => ⟨n, hv⟩⟩
  · refine (make_err hp hT).mono ?_
    rintro e w' ⟨v, he, hg, h1, h2⟩
    exact ⟨v, he, hg, h1, h2, fun h => absurd h h0⟩
theorem makeErr_alt {p q : Pat} (hp : makeErr p = 0) (hq : makeErr q = 0) : makeErr (altOf p q) = 0 ∨ makeErr (altOf p q) = 4 := by
  obtain ⟨p1, n1, p2, _⟩ := makeErr_zero hp
  obtain ⟨q1, n2, q2, _⟩ := makeErr_zero hq
  unfold makeErr
  rcases patErr_alt p1 q1 with h | h
  · rw [if_pos h]
    have e : placesP (altOf p q) = some (n1 + (n2 + 0)) := by
      rw [placesP_eq]
      show sumK [placesP p, placesP q] = _
      rw [p2, q2]; rfl
    rw [e]
    dsimp only
    split
    · exact Or.inr rfl
    · exact Or.inl rfl
  · right; rw [if_neg (by rw [h]; decide), h]
theorem autL_alt {p q : Pat} (hp : makeErr p = 0) (hq : makeErr q = 0) (h : makeErr (altOf p q) = 0) (l : List UInt8) : (autL p l || autL q l) = autL (altOf p q) l := by
  rw [Bool.eq_iff_iff, Bool.or_eq_true, autL_lang hp, autL_lang hq, autL_lang h, lang_alt]
end Go.Proofs.YtkkdpafkafjfgaaDoor
