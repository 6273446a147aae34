/- An automaton as it stands in memory: a row of 256 classes, rows of states, ends. -/
import Derived.Test.YtkkdpafkafjfgaaTwBase
import Derived.Test.YtkkdpafkafjfgaaTwAuS
import Derived.Deep.Matrix
import Derived.Deep.Grids
import Derived.WideShapes
import Derived.Carry
import Derived.OpenShut
namespace Go.Proofs.Ytkkdpafkafjfgaa
open Go.RowKit Go.ChangeShapes
set_option linter.unusedVariables false
theorem addr_plain {w : World} {a : Addr} {v : Value} (h : w.cell? a = some v) : a = ⟨a.block, a.off, none⟩ := by
  obtain ⟨b, o, sp⟩ := a
  cases sp with
  | none => rfl
  | some x =>
    unfold World.cell? at h
    split at h
    · simp at h
    · cases h
theorem addr_addV (b o i : Nat) : (⟨b, o, none⟩ : Addr).add i = ⟨b, o + i, none⟩ := by
  unfold Addr.add; split
  · next h0 => subst h0; rfl
  · rfl
def SlAt (w : World) (a : Option Addr) (n : Nat) (f : Nat → Value) : Prop := n = 0 ∨ ∃ b o, a = some ⟨b, o, none⟩ ∧ ∀ i, i < n → w.cell? ⟨b, o + i, none⟩ = some (f i)
theorem SlAt.kept {w w' : World} {a : Option Addr} {n : Nat} {f : Nat → Value} (h : SlAt w a n f) (g : Grew w w') : SlAt w' a n f := by
  rcases h with h | ⟨b, o, h1, h2⟩
  · exact Or.inl h
  · exact Or.inr ⟨b, o, h1, fun i hi => g.keeps (h2 i hi)⟩
theorem SlAt.get {w : World} {a : Option Addr} {n : Nat} {f : Nat → Value} (h : SlAt w a n f) (hn : 0 < n) : ∃ b o, a = some ⟨b, o, none⟩ ∧ ∀ i, i < n → w.cell? ⟨b, o + i, none⟩ = some (f i) := by
  rcases h with h | h
  · omega
  · exact h
theorem SlAt.of {w : World} {a : Addr} {n : Nat} {f : Nat → Value} (h : ∀ i, i < n → w.cell? (a.add i) = some (f i)) : SlAt w (some a) n f := by
  rcases Nat.eq_zero_or_pos n with h0 | h0
  · exact Or.inl h0
  · have e := addr_plain (show w.cell? a = some (f 0) from h 0 h0)
    exact Or.inr ⟨a.block, a.off, by rw [← e], fun i hi => by rw [← addr_addV, ← e]; exact h i hi⟩
theorem SlAt.congr {w : World} {a : Option Addr} {n : Nat} {f g : Nat → Value} (h : SlAt w a n f) (hf : ∀ i, i < n → f i = g i) : SlAt w a n g := by
  rcases h with h | ⟨b, o, h1, h2⟩
  · exact Or.inl h
  · exact Or.inr ⟨b, o, h1, fun i hi => by rw [h2 i hi, hf i hi]⟩
def RowsAt (w : World) (a : Option Addr) (R : List (List Int)) : Prop := ∃ (ra : Nat → Option Addr) (rc : Nat → Nat), SlAt w a R.length (fun i => .slice (ra i) (R.getD i []).length (rc i)) ∧
  ∀ i, i < R.length → SlAt w (ra i) (R.getD i []).length fun j => .int .i64 ((R.getD i []).getD j 0)
theorem RowsAt.kept {w w' : World} {a : Option Addr} {R : List (List Int)} (h : RowsAt w a R) (g : Grew w w') : RowsAt w' a R := by
  obtain ⟨ra, rc, h1, h2⟩ := h
  exact ⟨ra, rc, h1.kept g, fun i hi => (h2 i hi).kept g⟩
def clsB (l : List Int) : Array Value := ((List.range 256).map fun j => Value.int .i64 (l.getD j 0)).toArray
def autB (A : Aut) (na : Option Addr) (nc : Nat) (ea : Option Addr) (ec : Nat) : Array Value := clsB A.cls ++ #[.slice na A.next.length nc, .slice ea A.ends.length ec]
theorem clsB_size (l : List Int) : (clsB l).size = 256 := by simp [clsB]
theorem clsB_get (l : List Int) {j : Nat} (h : j < 256) : (clsB l)[j]? = some (.int .i64 (l.getD j 0)) := by simp [clsB, h]
def bdI (x : Int) : Prop := -9223372036854775808 ≤ x ∧ x ≤ 9223372036854775807
structure AutAt (w : World) (A : Aut) (na ea : Option Addr) : Prop where
  c256 : A.cls.length = 256
  cbd : ∀ j, j < 256 → bdI (A.cls.getD j 0)
  next : RowsAt w na A.next
  ends : SlAt w ea A.ends.length fun i => .bool (A.ends.getD i false)
  nlen : A.next.length ≤ maxLen
  elen : A.ends.length ≤ maxLen
  rlen : ∀ i, i < A.next.length → (A.next.getD i []).length ≤ maxLen
  rbd : ∀ i, i < A.next.length → ∀ j, j < (A.next.getD i []).length → bdI ((A.next.getD i []).getD j 0)
theorem AutAt.kept {w w' : World} {A : Aut} {na ea : Option Addr} (h : AutAt w A na ea) (g : Grew w w') : AutAt w' A na ea :=
  ⟨h.c256, h.cbd, h.next.kept g, h.ends.kept g, h.nlen, h.elen, h.rlen, h.rbd⟩
theorem cells_aut : Try.prog.cellsOf 26 = 258 := by kernel_rfl
theorem cells_cls : Try.prog.cellsOf 22 = 256 := by kernel_rfl
theorem cells_intA : Try.prog.cellsOf 3 = 1 := by kernel_rfl
theorem cells_bool : Try.prog.cellsOf 4 = 1 := by kernel_rfl
theorem cells_ints : Try.prog.cellsOf 41 = 1 := by kernel_rfl
theorem cells_rows : Try.prog.cellsOf 23 = 1 := by kernel_rfl
theorem cells_bools : Try.prog.cellsOf 24 = 1 := by kernel_rfl
theorem autB_next (A : Aut) (na : Option Addr) (nc : Nat) (ea : Option Addr) (ec : Nat) : (autB A na nc ea ec)[256]? = some (.slice na A.next.length nc) := by
  unfold autB; rw [Array.getElem?_append_right (by rw [clsB_size]; exact Nat.le_refl _), clsB_size]; rfl
theorem autB_ends (A : Aut) (na : Option Addr) (nc : Nat) (ea : Option Addr) (ec : Nat) : (autB A na nc ea ec)[257]? = some (.slice ea A.ends.length ec) := by
  unfold autB; rw [Array.getElem?_append_right (by rw [clsB_size]; omega), clsB_size]; rfl
theorem autB_cls (A : Aut) (na : Option Addr) (nc : Nat) (ea : Option Addr) (ec : Nat) {j : Nat} (h : j < 256) : (autB A na nc ea ec)[j]? = some (.int .i64 (A.cls.getD j 0)) := by
  unfold autB; rw [Array.getElem?_append_left (by rw [clsB_size]; exact h), clsB_get _ h]
theorem autB_size (A : Aut) (na : Option Addr) (nc : Nat) (ea : Option Addr) (ec : Nat) : (autB A na nc ea ec).size = 258 := by
  unfold autB; rw [Array.size_append, clsB_size]; rfl
section
variable {H : Type} {enc : TypeId × Value → H} {w : World} {base : Nat} {hd : Bool}
set_option maxRecDepth 100000 in
theorem open_aut {base' : Nat} {r : Reach} {v : Value} {d : DataW H} {ps : List MemPlace} (hval : Value.okWide Try.prog w r base' 26 v) (h : DataW.Trod enc Try.prog w base (fun _ => true) hd 26 v d ps) :
    ∃ A na nc ea ec, v = .agg (autB A na nc ea ec) ∧ AutAt w A na ea := by
  obtain ⟨cs, rfl, hsz⟩ := Go.WideShapes.okWide_struct Try.underlying26 hval
  rw [cells_aut] at hsz
  obtain ⟨fuel, h⟩ := h
  obtain ⟨xs, n, _, _, hl, hlen, hf⟩ := DataW.trod_struct Try.underlying26 h
  have f0 : DataW.trod enc Try.prog w base (fun _ => true) hd n 22 (List.take (Try.prog.cellsOf 22) (List.drop 0 cs.toList)) = xs[0]? := hf 0 _ rfl
  have f1 : DataW.trod enc Try.prog w base (fun _ => true) hd n 23 (List.take (Try.prog.cellsOf 23) (List.drop 256 cs.toList)) = xs[1]? := hf 1 _ rfl
  have f2 : DataW.trod enc Try.prog w base (fun _ => true) hd n 24 (List.take (Try.prog.cellsOf 24) (List.drop 257 cs.toList)) = xs[2]? := hf 2 _ rfl
  simp only [cells_cls, cells_rows, cells_bools, List.drop_zero] at f0 f1 f2
  match xs, hlen with
  | [y0, y1, y2], _ =>
  obtain ⟨zs, m, _, _, hz1, hz2, hz3⟩ := DataW.trod_array Try.underlying22 f0
  have each : ∀ i, i < 256 → ∃ z : Int, cs.toList[i]? = some (.int .i64 z) ∧ bdI z := by
    intro i hi
    have h1 := hz3 i hi
    rw [List.getElem?_eq_getElem (by omega), cells_intA, Nat.mul_one] at h1
    obtain ⟨z, e, _, hb⟩ := DataW.trod_int Try.underlying3 h1
    refine ⟨z, ?_, bd_i64 hb⟩
    have h2 : (List.drop i (List.take 256 cs.toList))[0]? = some (.int .i64 z) := by
      have h3 := congrArg (fun l : List Value => l[0]?) e
      simp only [List.getElem?_take, Nat.lt_one_iff, if_true, List.getElem?_cons_zero] at h3
      exact h3
    rw [List.getElem?_drop, Nat.add_zero, List.getElem?_take, if_pos hi] at h2
    exact h2
  obtain ⟨z, hz⟩ := Go.Deep.choose_lt each
  have hbool := Go.Deep.open_bools Try.underlying24 Try.underlying4 cells_bool f2
  have hrows := Go.Deep.open_int_rows Try.underlying23 Try.underlying41 Try.underlying3 cells_ints cells_intA f1
  have hE : ∃ (ends : List Bool) (ea : Option Addr) (ec : Nat), cs.toList[257]? = some (.slice ea ends.length ec) ∧ ends.length ≤ maxLen ∧ SlAt w ea ends.length fun i => .bool (ends.getD i false) := by
    have e0 : ∀ v, List.take 1 (List.drop 257 cs.toList) = [v] → cs.toList[257]? = some v := fun v e => by
      have h3 := congrArg (fun l : List Value => l[0]?) e
      simp only [List.getElem?_take, List.getElem?_drop, Nat.add_zero] at h3
      simpa using h3
    rcases hbool with ⟨e, _⟩ | ⟨a, len, cap, B, e, _, hlc, hcm, _, hx⟩
    · exact ⟨[], none, 0, e0 _ e, Nat.zero_le _, Or.inl rfl⟩
    · refine ⟨(List.range len).map B, some a, cap, by rw [List.length_map, List.length_range]; exact e0 _ e, by rw [List.length_map, List.length_range]; omega, ?_⟩
      rw [List.length_map, List.length_range]
      exact SlAt.of fun i hi => by rw [hx i (by omega)]; simp [List.getD_eq_getElem?_getD, hi]
  have hN : ∃ (R : List (List Int)) (na : Option Addr) (nc : Nat), cs.toList[256]? = some (.slice na R.length nc) ∧ R.length ≤ maxLen ∧ RowsAt w na R ∧ (∀ i, i < R.length → (R.getD i []).length ≤ maxLen) ∧ ∀ i, i < R.length → ∀ j, j < (R.getD i []).length → bdI ((R.getD i []).getD j 0) := by
    have e0 : ∀ v, List.take 1 (List.drop 256 cs.toList) = [v] → cs.toList[256]? = some v := fun v e => by
      have h3 := congrArg (fun l : List Value => l[0]?) e
      simp only [List.getElem?_take, List.getElem?_drop, Nat.add_zero] at h3
      simpa using h3
    rcases hrows with ⟨e, _⟩ | ⟨a, len, cap, Ra, L, C, Z, e, _, hlc, hcm, _, hx⟩
    · exact ⟨[], none, 0, e0 _ e, Nat.zero_le _, ⟨fun _ => none, fun _ => 0, Or.inl rfl, fun i hi => by simp at hi⟩, fun i hi => by simp at hi, fun i hi => by simp at hi⟩
    · have hg : ∀ i, i < len → ((List.range len).map fun i => (Z i).take (L i)).getD i [] = (Z i).take (L i) := fun i hi => by simp [List.getD_eq_getElem?_getD, hi]
      have hgl : ∀ i, i < len → ((Z i).take (L i)).length = L i := fun i hi => by
        obtain ⟨_, h1, _, h2, _⟩ := hx i (by omega)
        rw [List.length_take]; omega
      have hgt : ∀ i, i < len → ∀ j, j < L i → ((Z i).take (L i)).getD j 0 = (Z i).getD j 0 := fun i hi j hj => by
        rw [List.getD_eq_getElem?_getD, List.getD_eq_getElem?_getD, List.getElem?_take, if_pos hj]
      refine ⟨(List.range len).map fun i => (Z i).take (L i), some a, cap, by rw [List.length_map, List.length_range]; exact e0 _ e, by rw [List.length_map, List.length_range]; omega, ⟨Ra, C, ?_, ?_⟩, ?_, ?_⟩
      · rw [List.length_map, List.length_range]
        exact SlAt.of fun i hi => by rw [(hx i (by omega)).1, hg i hi, hgl i hi]
      · rw [List.length_map, List.length_range]
        intro i hi
        rw [hg i hi, hgl i hi]
        obtain ⟨_, h1, _, h2, _, h4, h5⟩ := hx i (by omega)
        cases hR : Ra i with
        | none => exact Or.inl (by have := h4 hR; omega)
        | some a' => exact SlAt.of fun j hj => by rw [(h5 a' hR).2 j (by omega), hgt i hi j hj]
      · rw [List.length_map, List.length_range]
        intro i hi
        obtain ⟨_, h1, h3, _⟩ := hx i (by omega)
        rw [hg i hi, hgl i hi]; omega
      · rw [List.length_map, List.length_range]
        intro i hi j hj
        rw [hg i hi, hgl i hi] at hj
        rw [hg i hi, hgt i hi j hj]
        obtain ⟨_, h1, _, h2, h3, _⟩ := hx i (by omega)
        exact bd_i64 (h3 _ (getD_memL (by omega)))
  obtain ⟨ends, ea, ec, g2, k2, k3⟩ := hE
  obtain ⟨R, na, nc, g1, m2, m3, m4, m5⟩ := hN
  have hcl : ∀ j, j < 256 → ((List.range 256).map z).getD j 0 = z j := fun j hj => by simp [List.getD_eq_getElem?_getD, hj]
  refine ⟨⟨(List.range 256).map z, R, ends⟩, na, nc, ea, ec, ?_, ⟨by simp, fun j hj => by rw [hcl j hj]; exact (hz j hj).2, m3, k3, m2, k2, m4, m5⟩⟩
  congr 1
  apply Array.ext_getElem?
  intro j
  by_cases h1 : j < 256
  · rw [autB_cls _ _ _ _ _ h1, ← Array.getElem?_toList, (hz j h1).1]
    show _ = some (Value.int .i64 (((List.range 256).map z).getD j 0))
    rw [hcl j h1]
  · by_cases h2 : j = 256
    · subst h2; rw [autB_next, ← Array.getElem?_toList, g1]
    · by_cases h3 : j = 257
      · subst h3; rw [autB_ends, ← Array.getElem?_toList, g2]
      · rw [Array.getElem?_eq_none (by omega), Array.getElem?_eq_none (by rw [autB_size]; omega)]
end
end Go.Proofs.Ytkkdpafkafjfgaa
