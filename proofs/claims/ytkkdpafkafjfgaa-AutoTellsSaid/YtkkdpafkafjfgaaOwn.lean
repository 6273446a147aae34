/- Slices that a call itself has made by append, elements of one cell: what an append leaves of them. No condition but the append's own bound on bytes. -/
import Derived.Test.YtkkdpafkafjfgaaArr
import Derived.Deep.DeepAppendWide
namespace Go.Proofs.Ytkkdpafkafjfgaa
open Go.RowKit
set_option linter.unusedVariables false

/-- Slice value v is the call's own (its block is B or a later one), its elements are xs. -/
def Own (e : TypeId) (w : World) (B : Nat) (v : Value) (xs : List Value) : Prop := w.ownsRow B e 1 v xs.length xs
theorem Own.nil (e : TypeId) (w : World) (B : Nat) : Own e w B (.slice none 0 0) [] := World.ownsRow_nil w B e 1
theorem Own.alloc {e : TypeId} {w : World} {B : Nat} {v : Value} {xs : List Value} (h : Own e w B v xs) (o : Obj) : Own e (w.alloc o) B v xs := World.ownsRow.alloc h o
theorem Own.drew {e : TypeId} {w : World} {B : Nat} {v : Value} {xs : List Value} (h : Own e w B v xs) : Own e w.drew B v xs := h
theorem Own.drewN {e : TypeId} {w : World} {B : Nat} {v : Value} {xs : List Value} (h : Own e w B v xs) (n : Nat) : Own e (w.drewN n) B v xs := h
theorem Own.kept {e : TypeId} {w w' : World} {B : Nat} {v : Value} {xs : List Value} (h : Own e w B v xs) (g : Grew w w') : Own e w' B v xs :=
  World.ownsRow.kept h ⟨g.os, g.tape, g.output, g.size, fun k hk _ => g.block k hk⟩ (row := none) (by cases v.ownBlock <;> simp)
theorem Own.mono {e : TypeId} {w : World} {B B' : Nat} {v : Value} {xs : List Value} (h : Own e w B v xs) (hB : B' ≤ B) : Own e w B' v xs := by
  refine ⟨h.1, ?_⟩
  rcases h.2 with h | ⟨g, cap, cur, h1, h2, h3⟩
  · exact .inl h
  · exact .inr ⟨g, cap, cur, h1, by omega, h3⟩
/-- A store into a block ahead of it. -/
theorem Own.setBelow {e : TypeId} {w : World} {B : Nat} {v : Value} {xs : List Value} (h : Own e w B v xs) {a : Addr} (ha : a.block < B) (u : Value) : Own e (w.setCell a u) B v xs := ownsRow_setCell_below h ha u
/-- Its shape. -/
theorem Own.shape {e : TypeId} {w : World} {B : Nat} {v : Value} {xs : List Value} (h : Own e w B v xs) :
    (v = .slice none 0 0 ∧ xs = []) ∨ ∃ g cap, v = .slice (some ⟨g, 0, none⟩) xs.length cap ∧ B ≤ g ∧ g < w.heap.size ∧ xs.length ≤ cap ∧ cap ≤ maxLen ∧ ArrAt w g 0 xs.length (fun j => xs.getD j undef) := by
  have h0 := h
  rcases h.2 with ⟨h1, h2⟩ | ⟨g, cap, cur, h1, h2, h3, h4, h5, h6, h7⟩
  · exact .inl ⟨h1, List.eq_nil_of_length_eq_zero h2⟩
  · subst h1
    refine .inr ⟨g, cap, rfl, h2, (Array.getElem?_eq_some_iff.1 h3).1, h4, h5, fun j hj => ⟨?_, ?_⟩⟩
    · rw [Nat.zero_add, World.ownsRow.cellAt h0 j (by omega)]
      simp [List.getD_eq_getElem?_getD, List.getElem?_eq_getElem hj]
    · rw [World.ownsRow.frozenAt h0]

/-- It is a slice of that length. -/
theorem Own.len {e : TypeId} {w : World} {B : Nat} {v : Value} {xs : List Value} (h : Own e w B v xs) : ∃ ad cap, v = .slice ad xs.length cap := by
  rcases h.shape with ⟨h1, h2⟩ | ⟨g, cap, h1, _⟩
  · exact ⟨none, 0, by rw [h1, h2]; rfl⟩
  · exact ⟨_, _, h1⟩

/-- 'append(v, x)', x of one cell: it lies in a new block of its own first. -/
theorem Own.append {t e : TypeId} {i : TypeInfo} {z : Value} {bytes : Nat} (ht : Try.prog.underlying t = some (.slice e)) (hi : Try.prog.info? e = some i) (hz : i.zero = some z) (hs : i.size = 1) (hb : i.bytes = bytes) (hc : z.cells.size = 1)
    {w : World} {B : Nat} {v : Value} {xs : List Value} (h : Own e w B v xs) (hB : B ≤ w.heap.size) (x : Value) (hx : x.oneCell' = true) (hl : (xs.length + 1) * bytes ≤ 140737488355328) (hm : xs.length + 1 ≤ maxLen) (ty t' : TypeId) :
    ∃ v' w', (Builtin.append_ #[t, t] ty #[v, .slice (some ⟨w.heap.size, 0, none⟩) 1 1]).run Try.prog (w.alloc (.cells #[x] t')) = .ok v' w' ∧ Own e w' B v' (xs ++ [x]) ∧ Below B w w' := by
  obtain ⟨v', w', h1, h2, h3, _⟩ := run_append_own (P := Try.prog) (w.alloc (.cells #[x] t')) B t ty e i z 1 bytes ht hi hz hs hb hc (by decide) v xs.length xs (World.ownsRow.alloc h _) ⟨w.heap.size, 0, none⟩ 1 1 [x] rfl
    (by
      intro j u hj
      match j, hj with
      | 0, hj =>
        simp at hj; subst hj
        have e0 : (⟨w.heap.size, 0, none⟩ : Addr).add 0 = ⟨w.heap.size, 0, none⟩ := rfl
        rw [e0, World.cell?_alloc_mark]; rfl)
    (by intro u hu; simp at hu; subst hu; exact hx) hm hl (by simp; omega)
  refine ⟨v', w', h1, ?_, ?_⟩
  · unfold Own; rw [List.length_append]; exact h2
  · exact ((Below.refl B w).alloc hB _).grown h3 (by simp; omega) (fun k hk => (World.ownsRow.lt h k hk).1)

section
variable {P : Program} (w : World)
/-- A text's bytes, as cells. -/
def strCells (s : ByteArray) : List Value := s.data.toList.map fun b => .int .u8 b.toNat
theorem strCells_arr (s : ByteArray) : Array.map (fun b : UInt8 => Value.int IntKind.u8 (b.toNat : Int)) s.data = (strCells s).toArray := by
  apply Array.toList_inj.1
  rw [Array.toList_map]; rfl
theorem strCells_length (s : ByteArray) : (strCells s).length = s.size := by unfold strCells; rw [List.length_map]; rfl
theorem first_str (s : ByteArray) (size : Nat) (w : World) : (Builtin.firstCells size s.size (.string s)).run P w = .ok (strCells s).toArray w := by
  have : (s.extract 0 s.size).data.toList = s.data.toList := by rw [Lib.extract_data, List.drop_zero, Nat.sub_zero, List.take_of_length_le (by rw [← size_data]; exact Nat.le_refl _)]
  have h2 : (s.extract 0 s.size) = s := str_ext this
  simp only [Builtin.firstCells, h2, strCells_arr]
  rfl
theorem strCells_one (s : ByteArray) : ∀ u ∈ strCells s, u.oneCell' = true := by
  intro u hu
  obtain ⟨b, _, rfl⟩ := List.mem_map.1 hu
  rfl
theorem len_str (s : ByteArray) (w : World) : (Builtin.lenOf (.string s)).run P w = .ok s.size w := rfl

/-- 'append(v, s...)', s a text, within the capacity. -/
theorem run_append_room_str (t u ty e : TypeId) (i : TypeInfo) (ht : P.underlying t = some (.slice e)) (hu : P.underlying u = some .string) (hi : P.info? e = some i) (hs1 : i.size = 1)
    (g sLen sCap : Nat) (cur : Array Value) (hg : w.heap[g]? = some (.cells cur e (0, 0))) (s : ByteArray) (hroom : sLen + s.size ≤ sCap) (hfit : sLen + s.size ≤ cur.size) :
    (Builtin.append_ #[t, u] ty #[.slice (some ⟨g, 0, none⟩) sLen sCap, .string s]).run P w =
      .ok (.slice (some ⟨g, 0, none⟩) (sLen + s.size) sCap) (w.setRow g (cur.toList.take sLen ++ strCells s ++ cur.toList.drop (sLen + s.size)).toArray) := by
  have hst := run_storeCells_at P g sLen e (strCells s) 0 cur w hg (by rw [strCells_length]; omega) (strCells_one s)
  have hf := first_str (P := P) s 1 w
  simp only [Nat.add_zero, strCells_length] at hst
  simp [Builtin.append_, run_underlying ht, run_underlying hu, sizeOf, typeInfo, hi, len_str, hroom, hf, Addr.add_lit, hs1, hst]
/-- The same beyond it. -/
theorem run_append_grow_str (t u ty e : TypeId) (i : TypeInfo) (z : Value) (ht : P.underlying t = some (.slice e)) (hu : P.underlying u = some .string) (hi : P.info? e = some i) (hz : i.zero = some z) (hs1 : i.size = 1)
    (b : Addr) (sLen sCap : Nat) (olds : List Value) (hlo : olds.length = sLen) (holds : ∀ j v, olds[j]? = some v → w.cell? (b.add j) = some v) (s : ByteArray)
    (hg : sCap < sLen + s.size) (h63 : ((sLen + s.size : Nat) : Int) ≤ 9223372036854775807) (hfit : Builtin.nextslicecap (sLen + s.size) sCap * i.bytes ≤ 281474976710656) :
    (Builtin.append_ #[t, u] ty #[.slice (some b) sLen sCap, .string s]).run P w =
      .ok (.slice (some ⟨w.heap.size, 0, none⟩) (sLen + s.size) (grownCap w (sLen + s.size) sCap e))
        (w.drew.alloc (.cells (olds.toArray ++ (strCells s).toArray ++ Builtin.zeroCells z.cells (grownCap w (sLen + s.size) sCap e - (sLen + s.size))) e)) := by
  have hn : ¬ (sLen + s.size ≤ sCap) := by omega
  have h63' : ¬ (9223372036854775807 < ((sLen : Int) + (s.size : Int))) := by omega
  have h48' : ¬ (281474976710656 < Builtin.nextslicecap (sLen + s.size) sCap * i.bytes) := by omega
  have hf := first_str (P := P) s 1 w.drew
  have hfo := run_firstCells_some (P := P) w.drew i.size sLen b sLen sCap olds (by rw [hs1]; omega) (by simpa using holds)
  rw [hs1] at hfo
  simp [Builtin.append_, run_underlying ht, run_underlying hu, sizeOf, typeInfo, zeroValue, hi, hz, len_str, hn, h63', h48', Question.forced, hf, hfo, newRow, grownCap, hs1]
  congr 2
  apply Array.ext'
  simp [List.append_assoc]
end

/-- An append whose run is known: ONE ARM OF THE WALK: 'go_wp2_with (at_builtin; refine wpList_append_eq rfl rfl rfl rfl hap ?_)'. -/
theorem wpList_append_eq {ops : Array Oper} {rest : List Oper} {o : Oper} {a : Act} {Q : Exit → Act → World → Prop} {w w' : World} (hgd : o.guard = none) {s x : Operand} {t t2 : TypeId}
    (ho : o.op = .call { callee := .builtin .append, args := #[s, x], argTypes := #[t, t2] }) {v u v' : Value} (hs : a.eval s = v) (hx : a.eval x = u)
    (hr : (Builtin.append_ #[t, t2] o.type #[v, u]).run Try.prog w = .ok v' w') (h : wpList Try.prog ops Q rest (a.put o.dst v') w') : wpList Try.prog ops Q (o :: rest) a w := by
  refine wpList_plain hgd fun _ hK => ?_
  unfold Oper.wp execOp
  simp only [ho, resolve, invoke, builtin, Sem.run_bind, Sem.run_pure, Result.andThen_ok, List.map_toArray, List.map_cons, List.map_nil, hs, hx, hr]
  exact hK _ _ h

/-- 'append(v, s...)', s a text. -/
theorem Own.append_str {t u e : TypeId} {i : TypeInfo} {z : Value} (ht : Try.prog.underlying t = some (.slice e)) (hu : Try.prog.underlying u = some .string) (hi : Try.prog.info? e = some i) (hz : i.zero = some z) (hs : i.size = 1) (hb : i.bytes = 1) (hc : z.cells.size = 1)
    {w : World} {B : Nat} {v : Value} {xs : List Value} (h : Own e w B v xs) (hB : B ≤ w.heap.size) (s : ByteArray) (h0 : 0 < s.size) (hl : xs.length + s.size ≤ 200000000000000) (ty : TypeId) :
    ∃ v' w', (Builtin.append_ #[t, u] ty #[v, .string s]).run Try.prog w = .ok v' w' ∧ Own e w' B v' (xs ++ strCells s) ∧ Below B w w' := by
  have grown : ∀ old, old < xs.length + s.size → Own e (w.drew.alloc (.cells (xs.toArray ++ (strCells s).toArray ++ Builtin.zeroCells z.cells (grownCap w (xs.length + s.size) old e - (xs.length + s.size))) e)) B
      (.slice (some ⟨w.heap.size, 0, none⟩) (xs.length + s.size) (grownCap w (xs.length + s.size) old e)) (xs ++ strCells s) := by
    intro old ho
    have hge := grownCap_ge w (xs.length + s.size) old e
    have hcm : grownCap w (xs.length + s.size) old e ≤ maxLen := grownCap_le_maxLen w _ old e (by unfold maxLen; omega)
    have e1 : (xs ++ strCells s).length = xs.length + s.size := by rw [List.length_append, strCells_length]
    refine ⟨by rw [Nat.mul_one], .inr ⟨w.heap.size, grownCap w (xs.length + s.size) old e, (xs.toArray ++ (strCells s).toArray ++ Builtin.zeroCells z.cells (grownCap w (xs.length + s.size) old e - (xs.length + s.size))), by rw [e1], hB, heap_alloc_new w.drew _, by omega, hcm, ?_, ?_⟩⟩
    · simp only [Array.size_append, List.size_toArray, size_zeroCells, hc, strCells_length, Nat.mul_one]; omega
    · simp only [Array.toList_append, List.append_assoc, Nat.mul_one]
      rw [← List.append_assoc]
      exact List.take_left
  rcases h.2 with ⟨rfl, h2⟩ | ⟨g, cap, cur, rfl, hbg, hg, hnc, hcm, hcs, htake⟩
  · have hx : xs = [] := List.eq_nil_of_length_eq_zero h2
    subst hx
    have hr := run_append_nil_string (P := Try.prog) w t u ty e i z ht hu hi hz s h0 (by simp at hl; omega) (by rw [hb]; simp at hl; omega)
    have hgr := grown 0 (by simp; omega)
    rw [strCells_arr] at hr
    simp only [List.length_nil, Nat.zero_add, List.nil_append, Array.empty_append] at hgr ⊢
    exact ⟨_, _, hr, hgr, ((Below.refl B w).drew).alloc hB _⟩
  · simp only [Nat.mul_one] at hcs htake
    by_cases hroom : xs.length + s.size ≤ cap
    · have hr := run_append_room_str (P := Try.prog) w t u ty e i ht hu hi hs g xs.length cap cur hg s hroom (by omega)
      have e1 : (xs ++ strCells s).length = xs.length + s.size := by rw [List.length_append, strCells_length]
      refine ⟨_, _, hr, ⟨by rw [Nat.mul_one], .inr ⟨g, cap, _, by rw [e1], hbg, setRow_heap w g cur _ e _ hg, by omega, hcm, ?_, ?_⟩⟩, ⟨rfl, rfl, rfl, by simp, fun k hk => setRow_other w g k _ (by omega)⟩⟩
      · simp only [List.size_toArray, List.length_append, List.length_take, List.length_drop, Array.length_toList, strCells_length]
        omega
      · rw [htake, Nat.mul_one]
        exact List.take_left
    · have holds : ∀ j u, xs[j]? = some u → w.cell? ((⟨g, 0, none⟩ : Addr).add j) = some u := World.ownsRow.cells h (g := g) rfl
      have hr := run_append_grow_str (P := Try.prog) w t u ty e i z ht hu hi hz hs ⟨g, 0, none⟩ xs.length cap xs rfl holds s (by omega) (by omega) (growslice_fits_wide (by omega) (by rw [hb]; omega))
      exact ⟨_, _, hr, grown cap (by omega), ((Below.refl B w).drew).alloc hB _⟩
/-- 'append(v, b)' and 'append(v, s...)' of bytes. -/
theorem own_byte {w : World} {B : Nat} {v : Value} {xs : List Value} (h : Own 5 w B v xs) (hB : B ≤ w.heap.size) (b : Int) (hl : xs.length + 1 ≤ 140737488355328) (ty t' : TypeId) :
    ∃ v' w', (Builtin.append_ #[46, 46] ty #[v, .slice (some ⟨w.heap.size, 0, none⟩) 1 1]).run Try.prog (w.alloc (.cells #[.int .u8 b] t')) = .ok v' w' ∧ Own 5 w' B v' (xs ++ [.int .u8 b]) ∧ Below B w w' := by
  obtain ⟨i0, hi, hz0, hz1, hz2⟩ := info_parts info_u8
  exact h.append Try.underlying46 hi hz0 hz1 hz2 rfl hB (.int .u8 b) rfl (by omega) (by unfold maxLen; omega) ty t'
theorem own_str {w : World} {B : Nat} {v : Value} {xs : List Value} (h : Own 5 w B v xs) (hB : B ≤ w.heap.size) (s : ByteArray) (h0 : 0 < s.size) (hl : xs.length + s.size ≤ 200000000000000) (ty : TypeId) :
    ∃ v' w', (Builtin.append_ #[46, 9] ty #[v, .string s]).run Try.prog w = .ok v' w' ∧ Own 5 w' B v' (xs ++ strCells s) ∧ Below B w w' := by
  obtain ⟨i0, hi, hz0, hz1, hz2⟩ := info_parts info_u8
  exact h.append_str Try.underlying46 Try.underlying9 hi hz0 hz1 hz2 rfl hB s h0 hl ty
/-- 'string(v)'. -/
theorem own_string {w : World} {B : Nat} {v : Value} (l : List UInt8) (h : Own 5 w B v (l.map fun b => .int .u8 b.toNat)) :
    (convert 46 9 v).run Try.prog w = .ok (.string ⟨l.toArray⟩) w := by
  rcases h.shape with ⟨rfl, h2⟩ | ⟨g, cap, rfl, _, _, _, _, hA⟩
  · have : l = [] := by simpa using h2
    subst this
    rw [run_convert_bytes_string (P := Try.prog) w 46 9 5 none 0 0 Try.underlying46 Try.underlying5 Try.underlying9]
    rfl
  · rw [List.length_map] at hA ⊢
    exact string_arr l rfl _ hA (fun j hj => by simp [List.getD_eq_getElem?_getD, List.getElem?_eq_getElem hj]) cap
end Go.Proofs.Ytkkdpafkafjfgaa
