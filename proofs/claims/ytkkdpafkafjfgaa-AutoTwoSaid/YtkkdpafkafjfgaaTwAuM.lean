/- Maps as lists of what has been laid into them, in the order of laying. Over any program. -/
import Derived.Test.YtkkdpafkafjfgaaTwBase
import Derived.Maps.OwnOps
namespace Go.Proofs.Ytkkdpafkafjfgaa
open Go.RowKit Go.Maps
open Go.ChangeMaps (setBlock heap_setBlock_same heap_setBlock_other modify_eq_set)
set_option linter.unusedVariables false
def MapL (P : Program) (k : TypeId) (w : World) (b : Nat) (l : List (Value × Value)) : Prop :=
  ∃ es clock, w.heap[b]? = some (.map es clock) ∧ es.toList.map (fun e => (e.key, e.val)) = l ∧ (∀ x ∈ l, ∃ y, keyOf P k x.1 = some y) ∧ (l.map (·.1)).Nodup
structure Enc (P : Program) (k : TypeId) (α : Type) where
  enc : α → Value
  D : α → Prop
  key : ∀ x, D x → ∃ y, keyOf P k (enc x) = some y
  inj : ∀ x y, D x → D y → enc x = enc y → x = y
section
variable {P : Program} {k e t : TypeId} {w w' : World} {b : Nat} {l : List (Value × Value)}
theorem MapL.lt (h : MapL P k w b l) : b < w.heap.size := by
  obtain ⟨es, clock, hb, _⟩ := h
  exact (Array.getElem?_eq_some_iff.1 hb).1
theorem MapL.made (w : World) (P : Program) (k : TypeId) : MapL P k (w.alloc (.map #[] 0)) w.heap.size [] := ⟨#[], 0, (MapKept.heap_alloc w _).1, rfl, fun x hx => by simp at hx, by simp⟩
theorem MapL.block (h : MapL P k w b l) (hg : w'.heap[b]? = w.heap[b]?) : MapL P k w' b l := by
  obtain ⟨es, clock, hb, r⟩ := h
  exact ⟨es, clock, hg.trans hb, r⟩
theorem MapL.kept (h : MapL P k w b l) (g : Grew w w') : MapL P k w' b l := h.block (g.block b h.lt)
theorem MapL.grown {row : Option Nat} (h : MapL P k w b l) (g : w.grownBy w' row) (hne : some b ≠ row) : MapL P k w' b l := h.block (g.block b h.lt hne)
theorem MapL.other (h : MapL P k w b l) (p : Addr) (hp : p.block ≠ b) (v : Value) : MapL P k (w.setCell p v) b l := h.block (by simp [World.setCell, Array.getElem?_modify, hp])
theorem MapL.lookN (h : MapL P k w b l) (K : Keyed P k) (ht : P.underlying t = some (.map k e)) {z : Value} (hz : (zeroValue e).run P w = .ok z w) {key : Value} (hkey : ∃ y, keyOf P k key = some y) (hn : ∀ x ∈ l, x.1 ≠ key) (c : Bool) :
    (Instr.lookup t (.map (some b)) key c).run P w = .ok (if c then .tuple #[z, .bool false] else z) w := by
  obtain ⟨es, clock, hb, rfl, hk, _⟩ := h
  obtain ⟨kl, hkl⟩ := hkey
  rcases K.find w hkl es.toList (fun x hx => hk _ (List.mem_map.2 ⟨x, hx, rfl⟩)) with ⟨h1, h2⟩ | ⟨j, e0, h1, h2, h3⟩
  · simp [Instr.lookup, run_underlying ht, MapKept.run_getObj_map hb, K.check w _ hkl, h1, hz, Result.andThen]
  · exact absurd h3 (hn (e0.key, e0.val) (List.mem_map.2 ⟨e0, List.mem_of_getElem? h2, rfl⟩))
theorem nodup_one {α β : Type} {l : List (α × β)} (h : (l.map (·.1)).Nodup) {x : α} {u v : β} (hu : (x, u) ∈ l) (hv : (x, v) ∈ l) : u = v := by
  induction l with
  | nil => simp at hu
  | cons y l ih =>
    rw [List.map_cons, List.nodup_cons] at h
    rcases List.mem_cons.1 hu with e1 | e1 <;> rcases List.mem_cons.1 hv with e2 | e2
    · rw [← e1] at e2; exact (Prod.mk.inj e2).2.symm
    · exact absurd (List.mem_map.2 ⟨_, e2, by rw [← e1]⟩) h.1
    · exact absurd (List.mem_map.2 ⟨_, e1, by rw [← e2]⟩) h.1
    · exact ih h.2 e1 e2
theorem MapL.lookS (h : MapL P k w b l) (K : Keyed P k) (ht : P.underlying t = some (.map k e)) {key v : Value} (hv : (key, v) ∈ l) (c : Bool) :
    (Instr.lookup t (.map (some b)) key c).run P w = .ok (if c then .tuple #[v, .bool true] else v) w := by
  obtain ⟨es, clock, hb, rfl, hk, hn⟩ := h
  obtain ⟨kl, hkl⟩ := hk _ hv
  rcases K.find w hkl es.toList (fun x hx => hk _ (List.mem_map.2 ⟨x, hx, rfl⟩)) with ⟨h1, h2⟩ | ⟨j, e0, h1, h2, h3⟩
  · obtain ⟨x, hx, hxe⟩ := List.mem_map.1 hv
    exact absurd (congrArg (·.1) hxe) (h2 x hx)
  · have he : (key, e0.val) ∈ es.toList.map (fun e => (e.key, e.val)) := List.mem_map.2 ⟨e0, List.mem_of_getElem? h2, by rw [h3]⟩
    have : e0.val = v := nodup_one hn he hv
    simp [Instr.lookup, run_underlying ht, MapKept.run_getObj_map hb, K.check w _ hkl, h1, this, Result.andThen]
theorem MapL.put (h : MapL P k w b l) (K : Keyed P k) (ht : P.underlying t = some (.map k e)) {key : Value} (hkey : ∃ y, keyOf P k key = some y) (hn : ∀ x ∈ l, x.1 ≠ key) (val : Value) :
    ∃ w', (Instr.mapUpdate t (.map (some b)) key val).run P w = .ok () w' ∧ MapL P k w' b (l ++ [(key, val)]) ∧ w.grownBy w' (some b) ∧ w'.heap.size = w.heap.size := by
  obtain ⟨es, clock, hb, rfl, hk, hd⟩ := h
  obtain ⟨kl, hkl⟩ := hkey
  rcases K.find w hkl es.toList (fun x hx => hk _ (List.mem_map.2 ⟨x, hx, rfl⟩)) with ⟨h1, h2⟩ | ⟨j, e0, h1, h2, h3⟩
  · refine ⟨setBlock w b (.map (es.push ⟨key, val, clock⟩) (clock + 1)), by simp [Instr.mapUpdate, run_underlying ht, MapKept.run_getObj_map hb, K.check w false hkl, h1, MapKept.run_setObj_map _ hb, Result.andThen, setBlock],
      ⟨_, _, heap_setBlock_same hb _, by simp, fun x hx => ?_, ?_⟩, ⟨rfl, rfl, rfl, by simp [setBlock], fun i _ hi => heap_setBlock_other hb _ (fun e => hi (by rw [e]))⟩, by simp [setBlock]⟩
    · rcases List.mem_append.1 hx with hx | hx
      · exact hk x hx
      · rw [List.mem_singleton] at hx; rw [hx]; exact ⟨kl, hkl⟩
    · rw [List.map_append, List.nodup_append]
      refine ⟨hd, by simp, fun a ha c hc => ?_⟩
      obtain ⟨x, hx, rfl⟩ := List.mem_map.1 ha
      simp only [List.map_cons, List.map_nil, List.mem_singleton] at hc
      rw [hc]; exact hn x hx
  · exact absurd h3 (hn (e0.key, e0.val) (List.mem_map.2 ⟨e0, List.mem_of_getElem? h2, rfl⟩))
theorem MapL.again (h : MapL P k w b l) (K : Keyed P k) (ht : P.underlying t = some (.map k e)) {key val : Value} (hv : (key, val) ∈ l) :
    ∃ w', (Instr.mapUpdate t (.map (some b)) key val).run P w = .ok () w' ∧ MapL P k w' b l ∧ w.grownBy w' (some b) ∧ w'.heap.size = w.heap.size := by
  obtain ⟨es, clock, hb, rfl, hk, hd⟩ := h
  obtain ⟨kl, hkl⟩ := hk _ hv
  rcases K.find w hkl es.toList (fun x hx => hk _ (List.mem_map.2 ⟨x, hx, rfl⟩)) with ⟨h1, h2⟩ | ⟨j, e0, h1, h2, h3⟩
  · obtain ⟨x, hx, hxe⟩ := List.mem_map.1 hv
    exact absurd (congrArg (·.1) hxe) (h2 x hx)
  · have hj : es[j]? = some e0 := by simpa using h2
    have he : (key, e0.val) ∈ es.toList.map (fun e => (e.key, e.val)) := List.mem_map.2 ⟨e0, List.mem_of_getElem? h2, by rw [h3]⟩
    have h4 : e0.val = val := nodup_one hd he hv
    have hm : (es.modify j (fun e' => { e' with key := key, val := val })).toList.map (fun e => (e.key, e.val)) = es.toList.map (fun e => (e.key, e.val)) := by
      rw [Array.toList_modify, modify_eq_set _ _ _ _ h2, List.map_set]
      refine List.ext_getElem? fun i => ?_
      by_cases e : i = j
      · subst e
        rw [List.getElem?_set_self (by rw [List.length_map]; exact (List.getElem?_eq_some_iff.1 h2).1), List.getElem?_map, h2, ← h4]
        exact congrArg (fun x => some (x, e0.val)) h3.symm
      · rw [List.getElem?_set_ne (fun h => e h.symm)]
    refine ⟨setBlock w b (.map (es.modify j (fun e' => { e' with key := key, val := val })) clock), by simp [Instr.mapUpdate, run_underlying ht, MapKept.run_getObj_map hb, K.check w false hkl, h1, hj, h3, K.stays w hkl, MapKept.run_setObj_map _ hb, Result.andThen, setBlock],
      ⟨_, _, heap_setBlock_same hb _, hm, hk, hd⟩, ⟨rfl, rfl, rfl, by simp [setBlock], fun i _ hi => heap_setBlock_other hb _ (fun e => hi (by rw [e]))⟩, by simp [setBlock]⟩
theorem MapL.len (h : MapL P k w b l) (ht : P.underlying t = some (.map (P.mapKeyOf t) (P.mapElemOf t))) (ty : TypeId) : (Builtin.len_ #[t] ty #[.map (some b)]).run P w = .ok (goInt l.length) w := by
  obtain ⟨es, clock, hb, rfl, _⟩ := h
  rw [run_len_map w t ty b es clock ht hb]
  simp
end
section
variable {P : Program} {k e t : TypeId} {w w' : World} {b : Nat} {α : Type} {E : Enc P k α}
structure KMap (E : Enc P k α) (w : World) (b : Nat) (l : List (α × Value)) : Prop where
  rep : MapL P k w b (l.map fun x => (E.enc x.1, x.2))
  dom : ∀ x ∈ l, E.D x.1
variable {l : List (α × Value)}
theorem KMap.made (E : Enc P k α) (w : World) : KMap E (w.alloc (.map #[] 0)) w.heap.size [] := ⟨MapL.made w P k, fun x hx => by simp at hx⟩
theorem KMap.kept (h : KMap E w b l) (g : Grew w w') : KMap E w' b l := ⟨h.rep.kept g, h.dom⟩
theorem KMap.block (h : KMap E w b l) (g : w'.heap[b]? = w.heap[b]?) : KMap E w' b l := ⟨h.rep.block g, h.dom⟩
theorem KMap.grown {row : Option Nat} (h : KMap E w b l) (g : w.grownBy w' row) (hne : some b ≠ row) : KMap E w' b l := ⟨h.rep.grown g hne, h.dom⟩
theorem KMap.other (h : KMap E w b l) (p : Addr) (hp : p.block ≠ b) (v : Value) : KMap E (w.setCell p v) b l := ⟨h.rep.other p hp v, h.dom⟩
theorem KMap.lt (h : KMap E w b l) : b < w.heap.size := h.rep.lt
theorem KMap.apart (h : KMap E w b l) {x : α} (hx : E.D x) (hn : x ∉ l.map (·.1)) : ∀ y ∈ l.map (fun x => (E.enc x.1, x.2)), y.1 ≠ E.enc x := by
  intro y hy e
  obtain ⟨z, hz, rfl⟩ := List.mem_map.1 hy
  exact hn (List.mem_map.2 ⟨z, hz, E.inj _ _ (h.dom z hz) hx e⟩)
theorem KMap.lookN (h : KMap E w b l) (K : Keyed P k) (ht : P.underlying t = some (.map k e)) {z : Value} (hz : (zeroValue e).run P w = .ok z w) {x : α} (hx : E.D x) (hn : x ∉ l.map (·.1)) (c : Bool) :
    (Instr.lookup t (.map (some b)) (E.enc x) c).run P w = .ok (if c then .tuple #[z, .bool false] else z) w := h.rep.lookN K ht hz (E.key x hx) (h.apart hx hn) c
theorem KMap.lookS (h : KMap E w b l) (K : Keyed P k) (ht : P.underlying t = some (.map k e)) {x : α} {v : Value} (hv : (x, v) ∈ l) (c : Bool) :
    (Instr.lookup t (.map (some b)) (E.enc x) c).run P w = .ok (if c then .tuple #[v, .bool true] else v) w := h.rep.lookS K ht (List.mem_map.2 ⟨(x, v), hv, rfl⟩) c
theorem KMap.put (h : KMap E w b l) (K : Keyed P k) (ht : P.underlying t = some (.map k e)) {x : α} (hx : E.D x) (hn : x ∉ l.map (·.1)) (v : Value) :
    ∃ w', (Instr.mapUpdate t (.map (some b)) (E.enc x) v).run P w = .ok () w' ∧ KMap E w' b (l ++ [(x, v)]) ∧ w.grownBy w' (some b) ∧ w'.heap.size = w.heap.size := by
  obtain ⟨w', h1, h2, h3⟩ := h.rep.put K ht (E.key x hx) (h.apart hx hn) v
  refine ⟨w', h1, ⟨by rw [List.map_append]; exact h2, fun y hy => ?_⟩, h3⟩
  rcases List.mem_append.1 hy with hy | hy
  · exact h.dom y hy
  · rw [List.mem_singleton] at hy; rw [hy]; exact hx
theorem KMap.again (h : KMap E w b l) (K : Keyed P k) (ht : P.underlying t = some (.map k e)) {x : α} {v : Value} (hv : (x, v) ∈ l) :
    ∃ w', (Instr.mapUpdate t (.map (some b)) (E.enc x) v).run P w = .ok () w' ∧ KMap E w' b l ∧ w.grownBy w' (some b) ∧ w'.heap.size = w.heap.size := by
  obtain ⟨w', h1, h2, h3⟩ := h.rep.again K ht (List.mem_map.2 ⟨(x, v), hv, rfl⟩)
  exact ⟨w', h1, ⟨h2, h.dom⟩, h3⟩
theorem KMap.len (h : KMap E w b l) (ht : P.underlying t = some (.map (P.mapKeyOf t) (P.mapElemOf t))) (ty : TypeId) : (Builtin.len_ #[t] ty #[.map (some b)]).run P w = .ok (goInt l.length) w := by
  have := h.rep.len ht ty
  rwa [List.length_map] at this
def numL (ks : List α) : List (α × Value) := ks.zipIdx.map fun x => (x.1, .int .i64 (x.2 : Nat))
theorem numL_fst (ks : List α) : (numL ks).map (·.1) = ks := by
  unfold numL; rw [List.map_map]; exact List.zipIdx_map_fst 0 ks
theorem numL_snoc (ks : List α) (x : α) : numL (ks ++ [x]) = numL ks ++ [(x, .int .i64 (ks.length : Nat))] := by
  unfold numL; rw [List.zipIdx_append, List.map_append]; simp
theorem numL_length (ks : List α) : (numL ks).length = ks.length := by unfold numL; simp
theorem numL_mem [DecidableEq α] {ks : List α} {x : α} (h : x ∈ ks) : (x, Value.int .i64 (ks.idxOf x : Nat)) ∈ numL ks := by
  unfold numL
  refine List.mem_map.2 ⟨(x, ks.idxOf x), ?_, rfl⟩
  rw [List.mem_zipIdx_iff_getElem?]
  have hl := List.idxOf_lt_length_iff.2 h
  rw [List.getElem?_eq_getElem hl]
  congr 1
  exact List.getElem_idxOf hl
end
section
variable {P : Program} {w w' : World} {ops : Array Oper} {rest : List Oper} {o : Oper} {a : Act} {Q : Exit → Act → World → Prop}
end
theorem wf_i64 {n : Nat} (h : n ≤ 9223372036854775807) : (Lit.int .i64 (n : Int)).wf = true := by
  simp [Lit.wf, IntKind.min, IntKind.max, IntKind.signed, IntKind.bits]; omega
def encNat {P : Program} {k : TypeId} (hk : P.underlying k = some (.int .i64)) : Enc P k Nat where
  enc n := .int .i64 n
  D n := n ≤ 9223372036854775807
  key n h := ⟨_, keyOf_int_mk hk (wf_i64 h)⟩
  inj x y _ _ h := by cases h; rfl
end Go.Proofs.Ytkkdpafkafjfgaa
