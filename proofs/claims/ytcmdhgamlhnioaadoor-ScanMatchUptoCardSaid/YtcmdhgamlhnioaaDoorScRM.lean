/- The document's Look as it lies in memory, and what may turn of it. -/
import Derived.Test.YtcmdhgamlhnioaaDoorScRK
import Derived.Test.YtcmdhgamlhnioaaDoorScMac
import Derived.Test.YtcmdhgamlhnioaaDoorScMore
namespace Go.Proofs.YtcmdhgamlhnioaaDoor
open Go.RowKit
set_option linter.unusedVariables false
def giftU : Gift := (ByteArray.empty, ByteArray.empty)
/-- The slice v holds these gifts. -/
def GiftsU (w : World) (v : Value) (l : List Gift) : Prop :=
  (∃ a c, v = .slice a 0 c ∧ l = []) ∨ ∃ b o c : Nat, v = .slice (some ⟨b, o, none⟩) l.length c ∧ 0 < l.length ∧ l.length ≤ c ∧ c ≤ maxLen ∧
    ∀ i, i < l.length → w.cell? ⟨b, o + i * 2, none⟩ = some (.string (l.getD i giftU).1) ∧ w.cell? ⟨b, o + i * 2 + 1, none⟩ = some (.string (l.getD i giftU).2)
theorem GiftsU.kept {w w' : World} (g : Grew w w') {v : Value} {l : List Gift} (h : GiftsU w v l) : GiftsU w' v l := by
  rcases h with h | ⟨b, o, c, h1, h2, h3, h4, h5⟩
  · exact Or.inl h
  · exact Or.inr ⟨b, o, c, h1, h2, h3, h4, fun i hi => ⟨g.keeps (h5 i hi).1, g.keeps (h5 i hi).2⟩⟩
theorem GiftsU.len {w : World} {v : Value} {l : List Gift} (h : GiftsU w v l) : ∃ a c, v = .slice a l.length c ∧ l.length ≤ c ∧ l.length ≤ 9223372036854775807 := by
  rcases h with ⟨a, c, h, e⟩ | ⟨b, o, c, h, h0, h1, h2, _⟩
  · exact ⟨a, c, by rw [e]; exact h, by rw [e]; simp, by rw [e]; simp⟩
  · exact ⟨_, c, h, h1, by unfold maxLen at h2; omega⟩
theorem giftsU_nil (w : World) : GiftsU w (.slice none 0 0) [] := Or.inl ⟨_, _, rfl, rfl⟩
theorem GiftsU.of_own {w : World} {B : Nat} {v : Value} {l : List Gift} (h : w.ownsRow B 57 2 v l.length (saidCells l)) : GiftsU w v l := by
  have h0 := h
  rcases h.2 with ⟨h1, h2⟩ | ⟨g, cap, cur, h1, h2, h3, h4, h5, h6, h7⟩
  · exact Or.inl ⟨_, _, h1, List.eq_nil_of_length_eq_zero h2⟩
  · subst h1
    rcases Nat.eq_zero_or_pos l.length with hz | hz
    · exact Or.inl ⟨_, _, by rw [hz], List.eq_nil_of_length_eq_zero hz⟩
    · refine Or.inr ⟨g, 0, cap, rfl, hz, h4, h5, fun i hi => ?_⟩
      obtain ⟨e1, e2⟩ := cells_gift l i (l.getD i giftU) (by rw [List.getD_eq_getElem?_getD, List.getElem?_eq_getElem hi]; rfl)
      have k1 := World.ownsRow.cellAt h0 (i * 2) (by omega)
      have k2 := World.ownsRow.cellAt h0 (i * 2 + 1) (by omega)
      rw [Nat.zero_add, k1, k2]
      rw [List.getD_eq_getElem?_getD, e1, List.getD_eq_getElem?_getD, e2]
      exact ⟨rfl, rfl⟩
/-- Only what may turn has turned. -/
structure Turn (M M' : Nat → Prop) (w w' : World) : Prop where
  size : w.heap.size ≤ w'.heap.size
  block : ∀ k, k < w.heap.size → ¬ M k → w'.heap[k]? = w.heap[k]?
  may : ∀ k, M' k → M k ∨ w.heap.size ≤ k
theorem Turn.refl (M : Nat → Prop) (w : World) : Turn M M w w := ⟨Nat.le_refl _, fun _ _ _ => rfl, fun _ h => Or.inl h⟩
theorem Turn.of_grew {M : Nat → Prop} {w w' : World} (g : Grew w w') : Turn M M w w' := ⟨g.size, fun k h _ => g.block k h, fun _ h => Or.inl h⟩
theorem Turn.trans {A B C : Nat → Prop} {u v w : World} (h : Turn A B u v) (k : Turn B C v w) : Turn A C u w :=
  ⟨Nat.le_trans h.size k.size, fun i hi hn => (k.block i (Nat.lt_of_lt_of_le hi h.size) (fun hb => by rcases h.may i hb with h1 | h1; exact hn h1; omega)).trans (h.block i hi hn),
    fun i hi => by
      rcases k.may i hi with h1 | h1
      · exact h.may i h1
      · exact Or.inr (Nat.le_trans h.size h1)⟩
theorem Turn.cell {A B : Nat → Prop} {u v : World} (h : Turn A B u v) {p : Addr} {x : Value} (hp : u.cell? p = some x) (hn : ¬ A p.block) : v.cell? p = some x := by
  rw [World.cell?_of_block (h.block _ (lt_of_cell hp) hn)]; exact hp
theorem Turn.heap {A B : Nat → Prop} {u v : World} (h : Turn A B u v) {b : Nat} {o : Obj} (hp : u.heap[b]? = some o) (hn : ¬ A b) : v.heap[b]? = some o := by
  rw [h.block b (Array.getElem?_eq_some_iff.1 hp).1 hn]; exact hp
/-- A block that never turns again. -/
def Safe (M : Nat → Prop) (w : World) (b : Nat) : Prop := b < w.heap.size ∧ ¬ M b
theorem Safe.kept {A B : Nat → Prop} {u v : World} (h : Turn A B u v) {b : Nat} (hs : Safe A u b) : Safe B v b := ⟨Nat.lt_of_lt_of_le hs.1 h.size, fun hb => by rcases h.may b hb with h1 | h1; exact hs.2 h1; have := hs.1; omega⟩
/-- Gifts that never turn. -/
def GV (w : World) (M : Nat → Prop) (v : Value) (l : List Gift) : Prop := GiftsU w v l ∧ ∀ b, v.ownBlock = some b → Safe M w b
theorem GV.kept {A B : Nat → Prop} {u v : World} (h : Turn A B u v) {x : Value} {l : List Gift} (hg : GV u A x l) : GV v B x l := by
  refine ⟨?_, fun b hb => (hg.2 b hb).kept h⟩
  rcases hg.1 with h1 | ⟨b, o, c, h1, h2, h3, h4, h5⟩
  · exact Or.inl h1
  · have hs := hg.2 b (by rw [h1]; rfl)
    exact Or.inr ⟨b, o, c, h1, h2, h3, h4, fun i hi => ⟨h.cell (h5 i hi).1 hs.2, h.cell (h5 i hi).2 hs.2⟩⟩
theorem gv_nil (w : World) (M : Nat → Prop) : GV w M (.slice none 0 0) [] := ⟨giftsU_nil w, fun b hb => by cases hb⟩
def lookCells (rv : Value) (S : ByteArray) (fuel ticks : Nat) (sv : Value) (err : Int) : Array Value := #[rv, .string S, .int .i64 fuel, .int .i64 ticks, sv, .int .i64 err]
structure Env where
  w0 : World
  lb : Nat
  ob : Nat
  rv : Value
  S : ByteArray
  fuel : Nat
  V : Nat
abbrev OutP (γ : Type) := World → (Nat → Prop) → Value → γ × Nat → Prop
/-- The Look at E.lb, its said gifts in the row sv, the gathered things of the one who asks in the row ov. -/
structure LkSt {γ : Type} (E : Env) (O : OutP γ) (w : World) (M : Nat → Prop) (s : LS γ) (sv ov : Value) : Prop where
  look : w.heap[E.lb]? = some (.cells (lookCells E.rv E.S E.fuel s.ticks sv s.err) 53 (0, 0))
  said : w.ownsRow E.w0.heap.size 57 2 sv s.said.length (saidCells s.said)
  out : O w M ov (s.out, s.ways)
  grew : Grew E.w0 w
  may : ∀ k, M k ↔ (k = E.lb ∨ k = E.ob ∨ sv.ownBlock = some k ∨ ov.ownBlock = some k)
  low : ∀ k, M k → E.w0.heap.size ≤ k
  lt : ∀ k, M k → k < w.heap.size
  ne1 : E.lb ≠ E.ob
  ne2 : ov.ownBlock ≠ some E.lb
  ne3 : sv.ownBlock ≠ some E.ob
  ne4 : ∀ b, sv.ownBlock = some b → ov.ownBlock ≠ some b
/-- What has turned is none of the asker's. -/
structure OutOk {γ : Type} (E : Env) (O : OutP γ) : Prop where
  stable : ∀ {w w' : World} {M M' C : Nat → Prop} {ov : Value} {x : γ × Nat}, O w M ov x → w.heap.size ≤ w'.heap.size → (∀ k, C k → M k ∧ k ≠ E.ob ∧ ov.ownBlock ≠ some k) → (∀ k, k < w.heap.size → ¬ C k → w'.heap[k]? = w.heap[k]?) → (∀ k, M' k → M k ∨ w.heap.size ≤ k) → O w' M' ov x
def St {γ : Type} (E : Env) (O : OutP γ) (w : World) (M : Nat → Prop) (s : LS γ) : Prop := ∃ sv ov, LkSt E O w M s sv ov
section
variable {γ : Type} {E : Env} {O : OutP γ} {w w' : World} {M : Nat → Prop} {s : LS γ} {sv ov : Value}
theorem LkSt.cell (h : LkSt E O w M s sv ov) {i : Nat} {v : Value} (e : (lookCells E.rv E.S E.fuel s.ticks sv s.err)[i]? = some v) : w.cell? ⟨E.lb, i, none⟩ = some v := by simp [World.cell?, h.look, e]
theorem LkSt.free (h : LkSt E O w M s sv ov) (i : Nat) : w.frozen? ⟨E.lb, i, none⟩ = false := by simp [World.frozen?, h.look]
theorem LkSt.hlt (h : LkSt E O w M s sv ov) : E.lb < w.heap.size := lt_of_block h.look
theorem LkSt.ne_said (h : LkSt E O w M s sv ov) : sv.ownBlock ≠ some E.lb := ownBlock_ne h.said h.look (by decide)
theorem LkSt.grown (hO : OutOk E O) (h : LkSt E O w M s sv ov) (g : Grew w w') : LkSt E O w' M s sv ov :=
  have gb : w.grownBy w' none := ⟨g.os, g.tape, g.output, g.size, fun x hx _ => g.block x hx⟩
  ⟨by rw [g.block _ h.hlt]; exact h.look, World.ownsRow.kept h.said gb (by cases sv.ownBlock <;> simp),
    hO.stable (C := fun _ => False) h.out g.size (fun k hk => hk.elim) (fun k hk _ => g.block k hk) (fun k hk => Or.inl hk), h.grew.trans g, h.may, h.low, fun k hk => Nat.lt_of_lt_of_le (h.lt k hk) g.size, h.ne1, h.ne2, h.ne3, h.ne4⟩
/-- A store of nodes come to, or of what is wrong. -/
theorem LkSt.put (hO : OutOk E O) (h : LkSt E O w M s sv ov) (s' : LS γ) (i : Nat) (v : Value) (hs : s'.said = s.said) (ho : (s'.out, s'.ways) = (s.out, s.ways))
    (hc : (lookCells E.rv E.S E.fuel s.ticks sv s.err).setIfInBounds i v = lookCells E.rv E.S E.fuel s'.ticks sv s'.err) :
    LkSt E O (w.setCell ⟨E.lb, i, none⟩ v) M s' sv ov ∧ Turn M M w (w.setCell ⟨E.lb, i, none⟩ v) := by
  have hm : M E.lb := (h.may _).2 (Or.inl rfl)
  have hsz : (w.setCell ⟨E.lb, i, none⟩ v).heap.size = w.heap.size := by simp [World.setCell]
  have hb : ∀ k, k ≠ E.lb → (w.setCell ⟨E.lb, i, none⟩ v).heap[k]? = w.heap[k]? := fun k hk => setCell_heap_other _ _ _ (Ne.symm hk)
  refine ⟨⟨?_, ?_, ?_, h.grew.setCell (h.low _ hm) _, h.may, h.low, fun k hk => by rw [hsz]; exact h.lt k hk, h.ne1, h.ne2, h.ne3, h.ne4⟩, ⟨Nat.le_of_eq hsz.symm, fun k _ hn => hb k (fun e => hn (e ▸ hm)), fun k hk => Or.inl hk⟩⟩
  · rw [setCell_heap_same h.look, hc]
  · rw [hs]; exact ownsRow_setCell_other h.said h.ne_said _
  · rw [ho]; exact hO.stable (C := fun k => k = E.lb) h.out (Nat.le_of_eq hsz.symm) (fun k hk => by subst hk; exact ⟨hm, h.ne1, h.ne2⟩) (fun k _ hn => hb k hn) (fun k hk => Or.inl hk)
/-- Something is said. -/
theorem LkSt.say {w1 : World} (hO : OutOk E O) (h : LkSt E O w M s sv ov) {x : Gift} {gg c : Nat} (hg : w.grownBy w1 sv.ownBlock) (hown : w1.ownsRow E.w0.heap.size 57 2 (.slice (some ⟨gg, 0, none⟩) (s.said.length + 1) c) (s.said.length + 1) (saidCells s.said ++ [.string x.1, .string x.2]))
    (hat : sv.ownBlock = some gg ∨ w.heap.size ≤ gg) (hlt : gg < w1.heap.size) :
    ∃ M', LkSt E O (w1.setCell ⟨E.lb, 4, none⟩ (.slice (some ⟨gg, 0, none⟩) (s.said.length + 1) c)) M' { s with said := s.said ++ [x] } (.slice (some ⟨gg, 0, none⟩) (s.said.length + 1) c) ov ∧ Turn M M' w (w1.setCell ⟨E.lb, 4, none⟩ (.slice (some ⟨gg, 0, none⟩) (s.said.length + 1) c)) := by
  have hm : M E.lb := (h.may _).2 (Or.inl rfl)
  have hmo : M E.ob := (h.may _).2 (Or.inr (Or.inl rfl))
  have hsz : (w1.setCell ⟨E.lb, 4, none⟩ (.slice (some ⟨gg, 0, none⟩) (s.said.length + 1) c)).heap.size = w1.heap.size := by simp [World.setCell]
  have hb1 : w1.heap[E.lb]? = some (.cells (lookCells E.rv E.S E.fuel s.ticks sv s.err) 53 (0, 0)) := by
    rw [hg.block _ h.hlt (Ne.symm h.ne_said)]; exact h.look
  have hbk : ∀ k, k < w.heap.size → k ≠ E.lb → sv.ownBlock ≠ some k → (w1.setCell ⟨E.lb, 4, none⟩ (.slice (some ⟨gg, 0, none⟩) (s.said.length + 1) c)).heap[k]? = w.heap[k]? := fun k hk h1 h2 => by
    rw [setCell_heap_other _ _ _ (Ne.symm h1)]; exact hg.block k hk (Ne.symm h2)
  have hng : ∀ k, M k → sv.ownBlock ≠ some k → gg ≠ k := fun k hk hs e => by
    subst e
    rcases hat with h1 | h1
    · exact hs h1
    · have := h.lt _ hk; omega
  have hgl : E.w0.heap.size ≤ gg := by
    rcases hat with h1 | h1
    · exact h.low _ ((h.may _).2 (Or.inr (Or.inr (Or.inl h1))))
    · exact Nat.le_trans h.grew.size h1
  have hmut : ∀ k, (k = E.lb ∨ k = E.ob ∨ gg = k ∨ ov.ownBlock = some k) → M k ∨ w.heap.size ≤ k := fun k hk => by
    rcases hk with rfl | rfl | rfl | hk
    · exact Or.inl hm
    · exact Or.inl hmo
    · rcases hat with h1 | h1
      · exact Or.inl ((h.may _).2 (Or.inr (Or.inr (Or.inl h1))))
      · exact Or.inr h1
    · exact Or.inl ((h.may _).2 (Or.inr (Or.inr (Or.inr hk))))
  refine ⟨fun k => k = E.lb ∨ k = E.ob ∨ gg = k ∨ ov.ownBlock = some k, ⟨?_, ?_, ?_, (h.grew.grown hg (fun b hb => (World.ownsRow.lt h.said b hb).1)).setCell (h.low _ hm) _, fun k => ?_, fun k hk => ?_, fun k hk => ?_, h.ne1, h.ne2, ?_, ?_⟩, ⟨by rw [hsz]; exact hg.size, fun k hk hn => hbk k hk (fun e => hn (e ▸ hm)) (fun e => hn ((h.may _).2 (Or.inr (Or.inr (Or.inl e))))), hmut⟩⟩
  · rw [setCell_heap_same hb1]; rfl
  · rw [saidCells_snoc]
    show (w1.setCell _ _).ownsRow _ _ _ _ (s.said ++ [x]).length _
    rw [List.length_append]
    exact ownsRow_setCell_other hown (ownBlock_ne hown hb1 (by decide)) _
  · refine hO.stable (C := fun k => k = E.lb ∨ sv.ownBlock = some k) h.out (by rw [hsz]; exact hg.size) (fun k hk => ?_) (fun k hk hn => hbk k hk (fun e => hn (Or.inl e)) (fun e => hn (Or.inr e))) hmut
    rcases hk with rfl | hk
    · exact ⟨hm, h.ne1, h.ne2⟩
    · exact ⟨(h.may _).2 (Or.inr (Or.inr (Or.inl hk))), fun e => h.ne3 (e ▸ hk), h.ne4 _ hk⟩
  · show _ ↔ _
    simp [Value.ownBlock]
  · rcases hmut k hk with h1 | h1
    · exact h.low k h1
    · exact Nat.le_trans h.grew.size h1
  · rw [hsz]
    rcases hk with rfl | rfl | rfl | hk
    · exact Nat.lt_of_lt_of_le h.hlt hg.size
    · exact Nat.lt_of_lt_of_le (h.lt _ hmo) hg.size
    · exact hlt
    · exact Nat.lt_of_lt_of_le (h.lt _ ((h.may _).2 (Or.inr (Or.inr (Or.inr hk))))) hg.size
  · intro e
    simp only [Value.ownBlock, Option.some.injEq] at e
    exact hng _ hmo h.ne3 e
  · intro b hb e
    simp only [Value.ownBlock, Option.some.injEq] at hb
    exact hng _ ((h.may _).2 (Or.inr (Or.inr (Or.inr e)))) (fun k => h.ne4 _ k e) hb
end
/-- What is done behind a piece, as a function in memory: g with what it has caught. It does what K says, from lo nodes on, where the gifts, and what is to be said, are paid for. -/
structure ThenOk {γ : Type} (E : Env) (O : OutP γ) (M0 : Nat → Prop) (w0 : World) (lo d a0 : Nat) (g : FuncId) (lb : Array Value) (K : Cont γ) : Prop where
  enters : ∀ args w, (callFunc g args).run Tryd.prog w = .ok (.enter g args) w
  okay : KOk E.S.size E.fuel E.V lo d a0 K
  calls : ∀ (w : World) (M : Nat → Prop) (e : Nat) (gv : Value) (h : List Gift) (s : LS γ), Turn M0 M w0 w → St E O w M s → GV w M gv h → e ≤ E.S.size → a0 ≤ e → lo ≤ s.ticks → s.ticks ≤ E.fuel → s.ways ≤ E.V → h.length + d ≤ s.ticks → s.said.length + d ≤ 300000 * (s.ticks + s.ways) →
    Calls Tryd.prog g (#[.int .i64 e, gv] ++ lb) w fun r w' => r = .returned (.int .i64 ((K e h s).1 : Nat)) ∧ ∃ M', Turn M M' w w' ∧ St E O w' M' (K e h s).2
theorem ThenOk.later {γ : Type} {E : Env} {O : OutP γ} {M0 M1 : Nat → Prop} {w0 w1 : World} {lo lo' d a0 a1 : Nat} {g : FuncId} {lb : Array Value} {K : Cont γ} (h : ThenOk E O M0 w0 lo d a0 g lb K) (t : Turn M0 M1 w0 w1) (hl : lo ≤ lo') (ha : a0 ≤ a1) : ThenOk E O M1 w1 lo' d a1 g lb K :=
  ⟨h.enters, h.okay.mono hl ha, fun w M e gv l s t1 hs hg he h0 h1 => h.calls w M e gv l s (t.trans t1) hs hg he (Nat.le_trans ha h0) (Nat.le_trans hl h1)⟩
/-- What Try of a piece of depth n is to do. -/
def TrySpec {γ : Type} (E : Env) (O : OutP γ) (R : List Rule) (n : Nat) : Prop :=
  ∀ (w : World) (M : Nat → Prop) (s : LS γ) (p : Pat) (kv : Value) (a : Nat) (gv : Value) (h : List Gift) (d : Nat) (g : FuncId) (lb : Array Value) (K : Cont γ),
    St E O w M s → PatV E.w0 kv p → errW p = 0 → GV w M gv h → a ≤ E.S.size → s.ticks ≤ E.fuel → E.fuel ≤ s.ticks + n → s.ways ≤ E.V → h.length + d ≤ s.ticks → s.said.length ≤ 300000 * (s.ticks + s.ways) → ThenOk E O M w (s.ticks + 1) d a g lb K →
    Calls Tryd.prog 18 #[.pointer (some ⟨E.lb, 0, none⟩), .agg (p.cells kv), .int .i64 a, gv, .func (.func g) #[] lb] w fun r w' => r = .returned (.int .i64 ((runK E.fuel (den R E.S (n + 1) p a h) K s).1 : Nat)) ∧ ∃ M', Turn M M' w w' ∧ St E O w' M' (runK E.fuel (den R E.S (n + 1) p a h) K s).2
end Go.Proofs.YtcmdhgamlhnioaaDoor
