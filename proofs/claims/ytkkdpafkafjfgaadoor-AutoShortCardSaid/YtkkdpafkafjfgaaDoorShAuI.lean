/- The shortest text: how the program remembers where it came from. -/
import Derived.Test.YtkkdpafkafjfgaaDoorShPAuC
import Derived.Test.YtkkdpafkafjfgaaDoorShAuM
import Derived.Test.YtkkdpafkafjfgaaDoorShPAuT
import Derived.Test.YtkkdpafkafjfgaaDoorShPGlZ
namespace Go.Proofs.YtkkdpafkafjfgaaDoor
open Go.RowKit
set_option linter.unusedVariables false
set_option maxRecDepth 100000
def fromV (p : Int) (c : Nat) : Value := .agg #[.int .i64 p, .int .u8 c]
structure Cam (L : List (Nat × List UInt8)) (l : List (Nat × Value)) : Prop where
  keys : l.map (·.1) = L.map (·.1)
  come : ∀ s t, (s, t) ∈ L → (t = [] ∧ (s, fromV (-1) 0) ∈ l) ∨ ∃ p t' c, t = t' ++ [c] ∧ (p, t') ∈ L ∧ (s, fromV (p : Nat) c.toNat) ∈ l
theorem Cam.start : Cam [(0, [])] [(0, fromV (-1) 0)] := ⟨rfl, fun s t h => by rw [List.mem_singleton] at h; cases h; exact Or.inl ⟨rfl, by simp⟩⟩
theorem Cam.add {L : List (Nat × List UInt8)} {l : List (Nat × Value)} (h : Cam L l) {s : Nat} {t : List UInt8} (hs : (s, t) ∈ L) (q : Nat) (c : UInt8) : Cam (L ++ [(q, t ++ [c])]) (l ++ [(q, fromV (s : Nat) c.toNat)]) := by
  refine ⟨by rw [List.map_append, List.map_append, h.keys]; rfl, fun s' t' h' => ?_⟩
  rcases List.mem_append.1 h' with h' | h'
  · rcases h.come s' t' h' with ⟨a, b⟩ | ⟨p, t2, c2, a, b, d⟩
    · exact Or.inl ⟨a, List.mem_append_left _ b⟩
    · exact Or.inr ⟨p, t2, c2, a, List.mem_append_left _ b, List.mem_append_left _ d⟩
  · rw [List.mem_singleton] at h'
    cases h'
    exact Or.inr ⟨s, t, c, rfl, List.mem_append_left _ hs, by simp⟩
theorem run_zero {t : TypeId} {z : Value} (h : (Tryd.prog.info? t).map (·.zero) = some (some z)) (w : World) : (zeroValue t).run Tryd.prog w = .ok z w := by
  cases hq : Tryd.prog.info? t with
  | none => rw [hq] at h; cases h
  | some i =>
    have hs : i.zero = some z := by simpa [hq] using h
    simp [zeroValue, typeInfo, hq, hs]
theorem zero_from (w : World) : (zeroValue 106).run Tryd.prog w = .ok (fromV 0 0) w := run_zero (by kernel_rfl) w
def encI : Enc Tryd.prog 3 Nat := encNat Tryd.underlying3
theorem keyI : Maps.Keyed Tryd.prog 3 := Maps.int_keyed Tryd.underlying3
def qC (L : List (Nat × List UInt8)) (i : Nat) : List Value := (L.drop i).map fun x => Value.int .i64 (x.1 : Nat)
theorem qC_snoc {L : List (Nat × List UInt8)} {i : Nat} (h : i ≤ L.length) (x : Nat × List UInt8) : qC (L ++ [x]) i = qC L i ++ [.int .i64 (x.1 : Nat)] := by
  unfold qC; rw [List.drop_append_of_le_length h, List.map_append]; rfl
theorem qC_succ (L : List (Nat × List UInt8)) (i : Nat) : qC L (i + 1) = (qC L i).drop 1 := by
  unfold qC; rw [← List.map_drop, List.drop_drop]
theorem qC_head {L : List (Nat × List UInt8)} {i : Nat} (h : i < L.length) : (qC L i)[0]? = some (.int .i64 ((L[i]'h).1 : Nat)) := by
  unfold qC; rw [List.drop_eq_getElem_cons h]; rfl
def mapN (w : World) (b : Nat) : Nat := match w.heap[b]? with | some (.map es _) => es.size | _ => 0
theorem KMap.mapN {P : Program} {k : TypeId} {α : Type} {E : Enc P k α} {w : World} {b : Nat} {l : List (α × Value)} (h : KMap E w b l) : mapN w b = l.length := by
  obtain ⟨es, clock, hb, hl, _⟩ := h.rep
  have := congrArg List.length hl
  unfold Go.Proofs.YtkkdpafkafjfgaaDoor.mapN
  rw [hb]
  simpa using this
def lenV : Value → Nat | .slice _ n _ => n | _ => 0
theorem intsI : ∃ i0, Tryd.prog.info? 3 = some i0 ∧ i0.zero = some (.int .i64 0) ∧ i0.size = 1 ∧ i0.bytes = 8 := info_parts (show (Tryd.prog.info? 3).map (fun i => (i.zero, i.size, i.bytes)) = some (some (.int .i64 0), 1, 8) by kernel_rfl)
structure Sho (w wr : World) (A : Aut) (na : Option Addr) (nc : Nat) (ea : Option Addr) (ec : Nat) (mb : Nat) (L : List (Nat × List UInt8)) (i : Nat) (qv : Value) (k : Nat) : Prop where
  grew : Grew w wr
  box : Box wr w.heap.size A na nc ea ec
  aut : AutAt w A na ea
  map : ∃ l, KMap encI wr mb l ∧ Cam L l
  row : QRow wr (mb + 1) 3 1 qv k (qC L i)
  own : ∀ b, qv.ownBlock = some b → mb + 1 ≤ b ∧ b < wr.heap.size
  len : k + i = L.length
  big : w.heap.size < mb
section
variable {w wr w' : World} {A : Aut} {na : Option Addr} {nc : Nat} {ea : Option Addr} {ec mb : Nat} {L : List (Nat × List UInt8)} {i k : Nat} {qv qv' : Value}
theorem Sho.held (h : Sho w wr A na nc ea ec mb L i qv k) : Held wr w.heap.size A na nc ea ec := ⟨h.box, h.aut.kept h.grew⟩
theorem Sho.mlt (h : Sho w wr A na nc ea ec mb L i qv k) : mb < wr.heap.size := by obtain ⟨l, h1, _⟩ := h.map; exact h1.lt
theorem Sho.kept (h : Sho w wr A na nc ea ec mb L i qv k) (g : Grew wr w') : Sho w w' A na nc ea ec mb L i qv k :=
  ⟨h.grew.trans g, h.box.kept g, h.aut, by obtain ⟨l, h1, h2⟩ := h.map; exact ⟨l, h1.kept g, h2⟩, h.row.grew g, fun b hb => ⟨(h.own b hb).1, Nat.lt_of_lt_of_le (h.own b hb).2 g.size⟩, h.len, h.big⟩
theorem Sho.cut (h : Sho w wr A na nc ea ec mb L i qv (k + 1)) : ∃ a c, (∀ w1, (Instr.slice 37 qv (some (.int .i64 1)) none none).run Tryd.prog w1 = .ok (.slice a k c) w1) ∧ Sho w wr A na nc ea ec mb L (i + 1) (.slice a k c) k := by
  obtain ⟨a, c, h1, h2, h3⟩ := h.row.tail (P := Tryd.prog) (t := 37) Tryd.underlying37 (fun w => size_of info_int w)
  refine ⟨a, c, h1, h.grew, h.box, h.aut, h.map, ?_, fun b hb => h.own b (h3 ▸ hb), by have := h.len; omega, h.big⟩
  rw [qC_succ]; exact h2
theorem Sho.add (h : Sho w wr A na nc ea ec mb L i qv k) {s c q : Nat} {t : List UInt8} (hs : (s, t) ∈ L) (hc : c < 256) (hq : q ∉ L.map (·.1)) (hq2 : q ≤ 9223372036854775807) (hk : k + 1 ≤ 10000) (ty : TypeId) :
    ∃ w1, (Instr.mapUpdate 107 (.map (some mb)) (.int .i64 (q : Nat)) (fromV (s : Nat) c)).run Tryd.prog wr = .ok () w1 ∧ w1.heap.size = wr.heap.size ∧
      ∃ v' w2, (Builtin.append_ #[37, 37] ty #[qv, .slice (some ⟨wr.heap.size, 0, none⟩) 1 1]).run Tryd.prog (w1.alloc (.cells #[.int .i64 (q : Nat)] 3)) = .ok v' w2 ∧ (∃ a cp, v' = .slice a (k + 1) cp) ∧ Sho w w2 A na nc ea ec mb (L ++ [(q, t ++ [UInt8.ofNat c])]) i v' (k + 1) := by
  obtain ⟨l, hm, hcam⟩ := h.map
  have hml := h.mlt
  have hbig := h.big
  obtain ⟨w1, p1, p2, p3, p4⟩ := hm.put keyI (t := 107) Tryd.underlying107 (x := q) hq2 (by rw [hcam.keys]; exact hq) (fromV (s : Nat) c)
  refine ⟨w1, p1, p4, ?_⟩
  obtain ⟨i0, hi0, hz0, hz1, hz2⟩ := intsI
  have hrow1 : QRow w1 (mb + 1) 3 1 qv k (qC L i) := h.row.kept fun b hb hlt => p3.block b hlt (fun e => by have := (h.own b hb).1; injection e with e; omega)
  have hrow2 : QRow (w1.alloc (.cells #[.int .i64 (q : Nat)] 3)) (mb + 1) 3 1 qv k (qC L i) := hrow1.grew ((Grew.refl w1).alloc _)
  obtain ⟨v', w2, a1, a2, a3, a4⟩ := QRow.append (P := Tryd.prog) (t := 37) Tryd.underlying37 hi0 hz0 hz1 hz2 rfl hrow2 (by rw [World.size_alloc]; omega) wr.heap.size 1 [.int .i64 (q : Nat)] rfl (fun j u hu => by
    unfold World.cell?
    dsimp only
    rw [← p4, heap_alloc_new w1 _]
    cases j with
    | zero => simpa using hu
    | succ j => simp at hu) (fun u hu => by rw [List.mem_singleton] at hu; rw [hu]; rfl) (by unfold maxLen; omega) (by omega) ty
  have hbx : w1.heap[w.heap.size]? = wr.heap[w.heap.size]? := p3.block _ (by omega) (fun e => by injection e with e; omega)
  have hown : ∀ b, qv.ownBlock = some b → mb + 1 ≤ b := fun b hb => (h.own b hb).1
  have g2 : (w1.alloc (.cells #[.int .i64 (q : Nat)] 3)).grownBy w2 qv.ownBlock := a3
  have hbx2 : w2.heap[w.heap.size]? = wr.heap[w.heap.size]? := by
    rw [g2.block _ (by rw [World.size_alloc]; omega) (fun e => by have := hown _ e.symm; omega), heap_alloc_old _ _ (by omega), hbx]
  have hgr1 : Grew w w1 := grew_grown h.grew p3 fun b e => by injection e with e; omega
  have hgr2 : Grew w w2 := grew_grown (hgr1.alloc _) g2 fun b e => by have := hown b e; omega
  refine ⟨v', w2, a1, ?_, hgr2, h.box.same hbx2, h.aut, ⟨l ++ [(q, fromV (s : Nat) c)], (p2.kept ((Grew.refl w1).alloc _)).grown g2 (fun e => by have := hown _ e.symm; omega), ?_⟩, ?_, fun b hb => ?_, by rw [List.length_append]; have := h.len; simp; omega, hbig⟩
  · obtain ⟨_, a, cp, e, _⟩ := a2; exact ⟨a, cp, e⟩
  · have := hcam.add hs q (UInt8.ofNat c)
    rwa [UInt8.toNat_ofNat_of_lt' (by exact hc)] at this
  · rw [qC_snoc (by have := h.len; omega)]; exact a2
  · have hs2 := g2.size
    rw [World.size_alloc] at hs2
    rcases a4 with e | e
    · rw [e] at hb
      have := h.own b hb
      omega
    · rw [e] at hb; cases hb
      obtain ⟨b', _, _, e2, _, hlt, _⟩ := a2.at (by omega)
      rw [e2] at e; cases e
      exact ⟨by rw [World.size_alloc]; omega, hlt⟩
end
end Go.Proofs.YtkkdpafkafjfgaaDoor
