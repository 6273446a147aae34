/- The document's net in memory: a place more, an arrow more, a set of bytes. -/
import Derived.Test.YtkkdpafkafjfgaaDoorMkPNtQ
import Derived.Test.YtkkdpafkafjfgaaDoorMkPGlS
import Derived.Test.YtkkdpafkafjfgaaDoorMkPScNodeA
namespace Go.Proofs.YtkkdpafkafjfgaaDoor
open Go.RowKit RR
set_option linter.unusedVariables false
set_option linter.unusedSimpArgs false
set_option maxRecDepth 100000
def byV : Option Nat → Value
  | none => .pointer none
  | some b => .pointer (some ⟨b, 0, none⟩)
def arrC (y : NArr × Option Nat) : List Value := [.int .i64 (y.1.fr : Nat), .int .i64 (y.1.to : Nat), byV y.2]
def ByAt (w wr : World) (F : Nat → Prop) (s : Option (Nat → Bool)) (ob : Option Nat) : Prop := match s, ob with
  | none, none => True
  | some s, some b => w.heap.size ≤ b ∧ ¬ F b ∧ b < wr.heap.size ∧ ArrAt wr b 0 256 (fun j => .bool (s j))
  | _, _ => False
def NtFoot (nb : Nat) (av : Value) (k : Nat) : Prop := k = nb ∨ av.ownBlock = some k
structure NtSo (w wr : World) (nb : Nat) (N : NetP) (ys : List (NArr × Option Nat)) (av : Value) : Prop where
  grew : Grew w wr
  blk : wr.heap[nb]? = some (.cells #[.int .i64 (N.places : Nat), av] 87 (0, 0))
  row : QRow wr w.heap.size 170 3 av ys.length (ys.flatMap arrC)
  lo : w.heap.size ≤ nb
  own : ∀ k, av.ownBlock = some k → k ≠ nb ∧ w.heap.size ≤ k ∧ k < wr.heap.size
  arr : ys.map (·.1) = N.arrows
  bys : ∀ y ∈ ys, ByAt w wr (NtFoot nb av) y.1.bs y.2
def NtAt (w wr : World) (nb : Nat) (N : NetP) (F : Nat → Prop) : Prop := ∃ ys av, NtSo w wr nb N ys av ∧ ∀ k, NtFoot nb av k ↔ F k
theorem ByAt.to {w wr w' : World} {F G : Nat → Prop} {s : Option (Nat → Bool)} {ob : Option Nat} (h : ByAt w wr F s ob) (hs : wr.heap.size ≤ w'.heap.size) (hk : ∀ k, k < wr.heap.size → ¬ F k → w'.heap[k]? = wr.heap[k]?) (hG : ∀ k, k < wr.heap.size → G k → F k) : ByAt w w' G s ob := by
  cases s with
  | none => cases ob with
    | none => trivial
    | some b => exact h.elim
  | some s => cases ob with
    | none => exact h.elim
    | some b => obtain ⟨h1, h2, h3, h4⟩ := h; exact ⟨h1, fun hg => h2 (hG b h3 hg), Nat.lt_of_lt_of_le h3 hs, arr_block h4 (hk b h3 h2)⟩
section
variable {w wr w' : World} {nb : Nat} {N : NetP} {ys : List (NArr × Option Nat)} {av : Value} {F : Nat → Prop}
theorem NtSo.foot_lt (h : NtSo w wr nb N ys av) {k : Nat} (hk : NtFoot nb av k) : w.heap.size ≤ k ∧ k < wr.heap.size := by
  rcases hk with rfl | e
  · exact ⟨h.lo, (Array.getElem?_eq_some_iff.1 h.blk).1⟩
  · exact (h.own k e).2
theorem NtSo.kept (h : NtSo w wr nb N ys av) (k : Grew wr w') : NtSo w w' nb N ys av :=
  ⟨h.grew.trans k, heap_kept k h.blk, h.row.grew k, h.lo, fun i hi => by obtain ⟨a, b, c⟩ := h.own i hi; exact ⟨a, b, Nat.lt_of_lt_of_le c k.size⟩, h.arr, fun y hy => (h.bys y hy).to k.size (fun i hi _ => k.block i hi) fun _ _ h => h⟩
theorem NtAt.kept (h : NtAt w wr nb N F) (k : Grew wr w') : NtAt w w' nb N F := by
  obtain ⟨ys, av, h1, h2⟩ := h; exact ⟨ys, av, h1.kept k, h2⟩
theorem NtAt.grew (h : NtAt w wr nb N F) : Grew w wr := by obtain ⟨ys, av, h1, h2⟩ := h; exact h1.grew
theorem NtAt.lt (h : NtAt w wr nb N F) {k : Nat} (hk : F k) : w.heap.size ≤ k ∧ k < wr.heap.size := by
  obtain ⟨ys, av, h1, h2⟩ := h; exact h1.foot_lt ((h2 k).2 hk)
theorem NtAt.foot (h : NtAt w wr nb N F) : F nb := by obtain ⟨ys, av, h1, h2⟩ := h; exact (h2 nb).1 (Or.inl rfl)
theorem NtSo.place (h : NtSo w wr nb N ys av) : NtSo w (wr.setCell ⟨nb, 0, none⟩ (.int .i64 (N.places + 1 : Nat))) nb N.one ys av := by
  have hs : ∀ v, (wr.setCell ⟨nb, 0, none⟩ v).heap.size = wr.heap.size := fun v => by simp [World.setCell]
  have hk : ∀ k v, k ≠ nb → (wr.setCell ⟨nb, 0, none⟩ v).heap[k]? = wr.heap[k]? := fun k v hk => q_set_other _ _ (Ne.symm hk)
  exact ⟨h.grew.setCell (p := ⟨nb, 0, none⟩) h.lo _, by rw [q_set_same h.blk]; rfl, h.row.kept fun k hk2 _ => hk k _ (h.own k hk2).1, h.lo, fun k hk2 => by rw [hs]; exact h.own k hk2, h.arr, fun y hy => (h.bys y hy).to (Nat.le_of_eq (hs _).symm) (fun k _ hf => hk k _ fun e => hf (Or.inl e)) fun _ _ h => h⟩
theorem NtAt.place (h : NtAt w wr nb N F) : NtAt w (wr.setCell ⟨nb, 0, none⟩ (.int .i64 (N.places + 1 : Nat))) nb N.one F ∧ GlTo wr (wr.setCell ⟨nb, 0, none⟩ (.int .i64 (N.places + 1 : Nat))) F F := by
  have hnb := h.foot
  obtain ⟨ys, av, h1, h2⟩ := h
  exact ⟨⟨ys, av, h1.place, h2⟩, by simp [World.setCell], fun k _ hf => q_set_other _ _ (fun e => hf (e ▸ hnb)), fun _ h => Or.inl h⟩
end
theorem Place_any {w w0 : World} {nb : Nat} {N : NetP} {F : Nat → Prop} (h : NtAt w w0 nb N F) (hN : N.places ≤ 100000) :
    Calls Tryd.prog 66 #[.pointer (some ⟨nb, 0, none⟩)] w0 fun e w' => e = .returned (.int .i64 (N.places : Nat)) ∧ NtAt w w' nb N.one F ∧ GlTo w0 w' F F := by
  have HP := hidd h.place
  have HB : Hid (∃ av, w0.heap[nb]? = some (.cells #[.int .i64 (N.places : Nat), av] 87 (0, 0))) := by
    obtain ⟨ys, av, h1, _⟩ := h; exact ⟨av, h1.blk⟩
  obtain ⟨av, hb⟩ := HB.out
  have c0 : w0.cell? ⟨nb, 0, none⟩ = some (.int .i64 (N.places : Nat)) := by rw [cell_of hb]; rfl
  have f0 : w0.frozen? ⟨nb, 0, none⟩ = false := by unfold World.frozen?; dsimp only; rw [hb]; simp
  have hl : nb < w0.heap.size := (Array.getElem?_eq_some_iff.1 hb).1
  clear h hb HB
  go_enter Tryd.func66, Tryd.ntmps66
  go_wp2_with fail
  go_ret
  exact ⟨rfl, HP.out⟩
theorem info_arrx : ∃ i0, Tryd.prog.info? 170 = some i0 ∧ i0.zero = some (.agg #[.int .i64 0, .int .i64 0, .pointer none]) ∧ i0.size = 3 ∧ i0.bytes = 24 := info_parts (show (Tryd.prog.info? 170).map (fun i => (i.zero, i.size, i.bytes)) = some (some (.agg #[.int .i64 0, .int .i64 0, .pointer none]), 3, 24) by kernel_rfl)
theorem byV_one (o : Option Nat) : (byV o).oneCell' = true := by cases o <;> rfl
theorem arrC_one {y : NArr × Option Nat} {u : Value} (h : u ∈ arrC y) : u.oneCell' = true := by
  unfold arrC at h
  simp only [List.mem_cons, List.not_mem_nil, or_false] at h
  rcases h with rfl | rfl | rfl
  · rfl
  · rfl
  · exact byV_one _
theorem build_arr (y : NArr × Option Nat) (w : World) : (Instr.buildSlice 85 1 #[(0, .agg (arrC y).toArray)]).run Tryd.prog w = .ok (.slice (some ⟨w.heap.size, 0, none⟩) 1 1) (w.alloc (.cells (arrC y).toArray 170)) := by
  obtain ⟨a, ob⟩ := y
  cases ob <;> kernel_rfl
theorem NtSo.push {w wr : World} {nb : Nat} {N : NetP} {ys : List (NArr × Option Nat)} {av : Value} (h : NtSo w wr nb N ys av) (hn : ys.length ≤ 100000) (y : NArr × Option Nat) (hy : ByAt w wr (NtFoot nb av) y.1.bs y.2) (ty : TypeId) :
    ∃ v' w2, (Builtin.append_ #[85, 85] ty #[av, .slice (some ⟨wr.heap.size, 0, none⟩) 1 1]).run Tryd.prog (wr.alloc (.cells (arrC y).toArray 170)) = .ok v' w2 ∧
      w2.cell? ⟨nb, 1, none⟩ = some av ∧ w2.frozen? ⟨nb, 1, none⟩ = false ∧ nb < w2.heap.size ∧
      NtSo w (w2.setCell ⟨nb, 1, none⟩ v') nb (N.more y.1.fr y.1.to y.1.bs) (ys ++ [y]) v' ∧ (∀ k, NtFoot nb v' k → NtFoot nb av k ∨ wr.heap.size ≤ k) ∧ (∀ k, k < wr.heap.size → ¬ NtFoot nb av k → (w2.setCell ⟨nb, 1, none⟩ v').heap[k]? = wr.heap[k]?) ∧ wr.heap.size ≤ w2.heap.size := by
  obtain ⟨i0, hi0, z0, z1, z2⟩ := info_arrx
  have g := (Grew.refl wr).alloc (.cells (arrC y).toArray 170)
  have hlo : w.heap.size ≤ wr.heap.size := h.grew.size
  obtain ⟨v', w2, a1, a2, a3, a4⟩ := QRow.append (P := Tryd.prog) (t := 85) Tryd.underlying85 hi0 z0 z1 z2 rfl (h.row.grew g) (Nat.le_trans hlo g.size) wr.heap.size 1 (arrC y) rfl (fun i u hu => by
    unfold World.cell?
    dsimp only
    rw [heap_alloc_new wr _]
    simpa using hu) (fun u hu => arrC_one hu) (by unfold maxLen; omega) (by omega) ty
  have hgr2 : Grew w w2 := grew_grown (h.grew.trans g) a3 fun k hk => (h.own k hk).2.1
  have hs2 := a3.size
  rw [World.size_alloc] at hs2
  have hnb := (Array.getElem?_eq_some_iff.1 h.blk).1
  have hall : ∀ k, k < wr.heap.size → av.ownBlock ≠ some k → w2.heap[k]? = wr.heap[k]? := fun k hk hq => by
    rw [a3.block k (by rw [World.size_alloc]; omega) (fun e => hq e.symm), heap_alloc_old _ _ hk]
  have hb2 : w2.heap[nb]? = some (.cells #[.int .i64 (N.places : Nat), av] 87 (0, 0)) := (hall nb hnb fun e => (h.own nb e).1 rfl).trans h.blk
  have hv : ∀ k, v'.ownBlock = some k → av.ownBlock = some k ∨ (wr.heap.size ≤ k ∧ k < w2.heap.size) := fun k hk => by
    rcases a4 with e | e
    · exact Or.inl (by rw [← e]; exact hk)
    · rw [e] at hk; cases hk
      obtain ⟨b', _, _, e2, _, hlt2, _⟩ := a2.at (by omega)
      rw [e2] at e; cases e
      exact Or.inr ⟨by rw [World.size_alloc]; omega, hlt2⟩
  have hne : ∀ k, v'.ownBlock = some k → k ≠ nb := fun k hk => by
    rcases hv k hk with e | e
    · exact (h.own k e).1
    · omega
  have hset : ∀ k, k ≠ nb → (w2.setCell ⟨nb, 1, none⟩ v').heap[k]? = w2.heap[k]? := fun k hk => q_set_other _ _ (Ne.symm hk)
  have hsz : (w2.setCell ⟨nb, 1, none⟩ v').heap.size = w2.heap.size := by simp [World.setCell]
  have hout : ∀ k, k < wr.heap.size → ¬ NtFoot nb av k → (w2.setCell ⟨nb, 1, none⟩ v').heap[k]? = wr.heap[k]? := fun k hk hf => (hset k fun e => hf (Or.inl e)).trans (hall k hk fun e => hf (Or.inr e))
  have hfoot : ∀ k, NtFoot nb v' k → NtFoot nb av k ∨ wr.heap.size ≤ k := fun k hk => by
    rcases hk with e | e
    · exact Or.inl (Or.inl e)
    · exact (hv k e).imp Or.inr (·.1)
  refine ⟨v', w2, a1, by rw [cell_of hb2]; rfl, by unfold World.frozen?; dsimp only; rw [hb2]; simp, by omega, ⟨hgr2.setCell (p := ⟨nb, 1, none⟩) h.lo _, by rw [q_set_same hb2]; rfl, ?_, h.lo, fun k hk => ?_, by rw [List.map_append, h.arr]; rfl, fun z hz => ?_⟩, hfoot, hout, by omega⟩
  · rw [List.length_append, List.flatMap_append]
    have := a2.kept (w' := w2.setCell ⟨nb, 1, none⟩ v') fun k hk _ => hset k (hne k hk)
    simpa using this
  · rw [hsz]
    rcases hv k hk with e | ⟨e1, e2⟩
    · obtain ⟨a, b, c⟩ := h.own k e; exact ⟨a, b, by omega⟩
    · exact ⟨by omega, by omega, e2⟩
  · have hz' : ByAt w wr (NtFoot nb av) z.1.bs z.2 := by
      rcases List.mem_append.1 hz with hz | hz
      · exact h.bys z hz
      · rw [List.mem_singleton] at hz; rw [hz]; exact hy
    exact hz'.to (by rw [hsz]; omega) hout fun k hk hf => (hfoot k hf).elim id (by omega)
theorem Arrow_any {w w0 : World} {nb : Nat} {N : NetP} {F : Nat → Prop} (h : NtAt w w0 nb N F) (hN : N.arrows.length ≤ 100000) (f t : Nat) (s : Option (Nat → Bool)) (ob : Option Nat) (hs : ByAt w w0 F s ob) :
    Calls Tryd.prog 67 #[.pointer (some ⟨nb, 0, none⟩), .int .i64 (f : Nat), .int .i64 (t : Nat), byV ob] w0 fun e w' => e = .returned (.tuple #[]) ∧ ∃ G, NtAt w w' nb (N.more f t s) G ∧ GlTo w0 w' F G := by
  obtain ⟨ys, av, h1, h2⟩ := h
  have hl : ys.length = N.arrows.length := by rw [← h1.arr, List.length_map]
  have hbb := h1.blk
  have c1 : w0.cell? ⟨nb, 1, none⟩ = some av := by rw [cell_of hbb]; rfl
  have hlb : nb < w0.heap.size := (Array.getElem?_eq_some_iff.1 hbb).1
  obtain ⟨v', w2, hap, c2, f2, hl2, hN2, hf2, hout, hsz⟩ := h1.push (by omega) (⟨f, t, s⟩, ob) (hs.to (Nat.le_refl _) (fun _ _ _ => rfl) fun k _ hk => (h2 k).1 hk) 85
  have hbu := build_arr (⟨f, t, s⟩, ob) w0
  have hsl : (∃ a c, av = .slice a ys.length c) ∧ ∃ a c, v' = .slice a (ys.length + 1) c := by
    obtain ⟨_, a, c, e, _⟩ := h1.row
    obtain ⟨_, a2, c2, e2, _⟩ := hN2.row
    rw [List.length_append] at e2
    exact ⟨⟨a, c, e⟩, a2, c2, e2⟩
  have HE : Hid (∃ G, NtAt w (w2.setCell ⟨nb, 1, none⟩ v') nb (N.more f t s) G ∧ GlTo w0 (w2.setCell ⟨nb, 1, none⟩ v') F G) :=
    ⟨NtFoot nb v', ⟨_, _, hN2, fun _ => Iff.rfl⟩, by simpa [World.setCell] using hsz, fun k hk hF => hout k hk fun hf => hF ((h2 k).1 hf), fun k hk => (hf2 k hk).imp (h2 k).1 id⟩
  clear hN2 hf2 hout h1 h2 hs hl hbb hN
  unfold arrC at hap hbu
  obtain ⟨p, hp⟩ : ∃ p, byV ob = .pointer p := by cases ob <;> exact ⟨_, rfl⟩
  dsimp only at hap hbu
  rw [hp] at hap hbu ⊢
  clear hp
  obtain ⟨⟨aa, ac, rfl⟩, ⟨va, vc, rfl⟩⟩ := hsl
  go_enter Tryd.func67, Tryd.ntmps67
  go_wp2_with (first | (at_builtin; refine wpList_append_eq rfl rfl rfl rfl hap ?_))
  go_end0
  exact ⟨rfl, HE.out⟩
def somB (t : ByteArray) (inn : Bool) (k : Nat) (j : Nat) : Bool := if (t.data.toList.take k).any (fun c => j == c.toNat) then inn else !inn
theorem somB_done (t : ByteArray) (inn : Bool) : somB t inn t.size = if inn then someB t else notB (someB t) := by
  have : t.data.toList.take t.size = t.data.toList := List.take_of_length_le (by rw [Array.length_toList]; exact Nat.le_refl _)
  funext j
  unfold somB
  rw [this]
  cases inn <;> simp [someB, notB]
theorem somB_next (t : ByteArray) (inn : Bool) {k : Nat} (hk : k < t.size) {c : UInt8} (hc : t.data.toList[k]? = some c) (j : Nat) : somB t inn (k + 1) j = if j = c.toNat then inn else somB t inn k j := by
  unfold somB
  rw [List.take_add_one, hc, List.any_append]
  simp only [Option.toList, List.any_cons, List.any_nil, Bool.or_false]
  by_cases h : j = c.toNat
  · rw [if_pos h, h]; simp
  · rw [if_neg h]; simp [h]
def rowBo (f : Nat → Bool) : Array Value := ((List.range 256).map fun j => Value.bool (f j)).toArray
theorem rowBo_get (f : Nat → Bool) {j : Nat} (h : j < 256) : (rowBo f)[j]? = some (.bool (f j)) := by simp [rowBo, h]
theorem zero_rowBo : (Tryd.prog.info? 207).map (·.zero) = some (some (.agg (rowBo fun _ => false))) := by kernel_rfl
theorem run_zero_rowBo (w : World) : (zeroValue 207).run Tryd.prog w = .ok (.agg (rowBo fun _ => false)) w := by
  have h := zero_rowBo
  cases hq : Tryd.prog.info? 207 with
  | none => rw [hq] at h; cases h
  | some i =>
    have hs : i.zero = some (.agg (rowBo fun _ => false)) := by simpa [hq] using h
    simp [zeroValue, typeInfo, hq, hs]
theorem rowBo_at (w : World) (f : Nat → Bool) (t : TypeId) : ArrAt (w.alloc (.cells (rowBo f) t)) w.heap.size 0 256 fun j => .bool (f j) := ArrAt.new w _ _ 256 _ fun j hj => rowBo_get f hj
theorem Some_any (t : ByteArray) (inn : Bool) (w : World) (ht : t.size ≤ maxLen) :
    Calls Tryd.prog 68 #[.string t, .bool inn] w fun e w' => ∃ b, e = .returned (.pointer (some ⟨b, 0, none⟩)) ∧ Grew w w' ∧ w.heap.size ≤ b ∧ b < w'.heap.size ∧ ArrAt w' b 0 256 (fun j => .bool ((if inn then someB t else notB (someB t)) j)) := by
  have hz := run_zero_rowBo
  have hb1 := fun w0 : World => bytesOf w0 t
  unfold maxLen at ht
  have HA := hidd ((rowBo_at w (fun _ => false) 207))
  have HG := hidd ((Grew.refl w).alloc (.cells (rowBo fun _ => false) 207))
  have HD := hidd (somB_done t inn)
  generalize (if inn then someB t else notB (someB t)) = f at HD ⊢
  have HN : Hid (∀ (k : Nat), k < t.size → ∀ c : UInt8, t.data.toList[k]? = some c → ∀ j, somB t inn (k + 1) j = if j = c.toNat then inn else somB t inn k j) := fun k hk c hc j => somB_next t inn hk hc j
  obtain ⟨b, hb⟩ : ∃ b, w.heap.size = b := ⟨_, rfl⟩
  rw [hb] at HA
  obtain ⟨W, hW⟩ : ∃ W, w.alloc (.cells (rowBo fun _ => false) 207) = W := ⟨_, rfl⟩
  rw [hW] at HA HG
  go_enter Tryd.func68, Tryd.ntmps68
  go_wp2_with fail
  clear hz hW
  go_loopw [9] (fun s9 wr => ∃ k : Nat, s9 = .int .i64 (k : Nat) ∧ k ≤ 256 ∧ Hid (Grew w wr ∧ ArrAt wr b 0 256 (fun j => .bool (if j < k then !inn else false)))) (fun s9 _ => 256 - (intOf s9).toNat)
  case atStart => exact ⟨0, rfl, by omega, HG.out, HA.out.congr fun j _ => by rw [if_neg (Nat.not_lt_zero j)]⟩
  case round =>
    obtain ⟨k, rfl, hk, KG⟩ := hrel
    by_cases hlt : k < 256
    · have kl : decide ((k : Int) < 256) = true := decide_eq_true (by omega)
      have c0 := KG.out.2.at0 k hlt
      rw [if_neg (Nat.lt_irrefl k)] at c0
      have f0 := KG.out.2.free0 k hlt
      have hbl : b < wr.heap.size := KG.out.2.lt (by omega)
      have HX : Hid (Grew w (wr.setCell ⟨b, k, none⟩ (.bool (!inn))) ∧ ArrAt (wr.setCell ⟨b, k, none⟩ (.bool (!inn))) b 0 256 (fun j => .bool (if j < k + 1 then !inn else false))) :=
        ⟨KG.out.1.setCell (p := ⟨b, k, none⟩) (by rw [hb]; exact Nat.le_refl _) _, (KG.out.2.set0 k hlt _).congr fun j _ => by
          by_cases e : j = k
          · rw [if_pos e, if_pos (by omega)]
          · rw [if_neg e]
            by_cases e2 : j < k
            · rw [if_pos e2, if_pos (by omega)]
            · rw [if_neg e2, if_neg (by omega)]⟩
      clear KG
      go_wp2_with fail
      exact ⟨⟨k + 1, by simp, by omega, HX.out⟩, by simp [intOf]; omega⟩
    · have kl : decide ((k : Int) < 256) = false := decide_eq_false (by omega)
      have HB : Hid (Grew w wr ∧ ArrAt wr b 0 256 (fun j => .bool (somB t inn 0 j))) := ⟨KG.out.1, KG.out.2.congr fun j hj => by rw [if_pos (by omega)]; unfold somB; simp⟩
      clear KG HA HG
      go_wp2_with fail
      generalize grownCap wr t.size 0 5 = cap
      have HP : Hid (Grew wr (wr.alloc (.cells (bytesRow t cap) 5 ((bytesRow t cap).size, (bytesRow t cap).size + 1))).drew ∧ BytesAt (wr.alloc (.cells (bytesRow t cap) 5 ((bytesRow t cap).size, (bytesRow t cap).size + 1))).drew wr.heap.size 0 t.data.toList) :=
        ⟨((Grew.refl wr).alloc _).drew, (bytesAt_row wr t cap 5).drew⟩
      generalize (wr.alloc (.cells (bytesRow t cap) 5 ((bytesRow t cap).size, (bytesRow t cap).size + 1))).drew = X at HP ⊢
      obtain ⟨q, hq⟩ : ∃ q, wr.heap.size = q := ⟨_, rfl⟩
      have hbq : b < q := by rw [← hq]; exact HB.out.2.lt (by omega)
      have HX0 : Hid (Grew w X ∧ BytesAt X q 0 t.data.toList ∧ ArrAt X b 0 256 (fun j => .bool (somB t inn 0 j))) := ⟨HB.out.1.trans HP.out.1, by rw [← hq]; exact HP.out.2, HB.out.2.kept HP.out.1⟩
      rw [hq]
      clear HP HB hq kl hlt hk
      go_loopw [20] (fun s20 wr => ∃ k : Nat, s20 = .int .i64 (k : Nat) ∧ k ≤ t.size ∧ Hid (Grew w wr ∧ BytesAt wr q 0 t.data.toList ∧ ArrAt wr b 0 256 (fun j => .bool (somB t inn k j)))) (fun s20 _ => t.size - (intOf s20).toNat)
      case atStart => exact ⟨0, rfl, by omega, HX0.out⟩
      case round =>
        obtain ⟨k, rfl, hk, KG⟩ := hrel
        clear HX0
        by_cases hlt : k < t.size
        · have kl : decide ((k : Int) < (t.size : Int)) = true := decide_eq_true (by omega)
          obtain ⟨x, hx⟩ : ∃ x, t.data.toList[k]'hlt = x := ⟨_, rfl⟩
          have hNx := HN.out k hlt x (by rw [← hx]; exact List.getElem?_eq_getElem hlt)
          have cb := KG.out.2.1.at0 k hlt
          rw [hx] at cb
          have hxl : x.toNat < 256 := x.toNat_lt
          obtain ⟨r, hr⟩ : ∃ r, x.toNat = r := ⟨_, rfl⟩
          rw [hr] at cb hxl hNx
          have c0 := KG.out.2.2.at0 r hxl
          have f0 := KG.out.2.2.free0 r hxl
          have hbl : b < wr.heap.size := KG.out.2.2.lt (by omega)
          have HX : Hid (Grew w (wr.setCell ⟨b, r, none⟩ (.bool inn)) ∧ BytesAt (wr.setCell ⟨b, r, none⟩ (.bool inn)) q 0 t.data.toList ∧ ArrAt (wr.setCell ⟨b, r, none⟩ (.bool inn)) b 0 256 (fun j => .bool (somB t inn (k + 1) j))) :=
            ⟨KG.out.1.setCell (p := ⟨b, r, none⟩) (by rw [hb]; exact Nat.le_refl _) _, ArrAt.other KG.out.2.1 ⟨b, r, none⟩ (by show b ≠ q; omega) _, (KG.out.2.2.set0 r hxl _).congr fun j _ => by
              rw [hNx]
              by_cases e : j = r
              · rw [if_pos e, if_pos e]
              · rw [if_neg e, if_neg e]⟩
          clear KG hNx hx hr
          go_wp2_with fail
          exact ⟨⟨k + 1, by simp, by omega, HX.out⟩, by simp [intOf]; omega⟩
        · have hie : k = t.size := by omega
          have kl : decide ((k : Int) < (t.size : Int)) = false := decide_eq_false (by omega)
          have HE : Hid (Grew w wr ∧ ArrAt wr b 0 256 (fun j => .bool (f j))) := ⟨KG.out.1, by rw [← HD.out, ← hie]; exact KG.out.2.2⟩
          clear KG
          go_wp2_with fail
          go_ret
          exact ⟨b, rfl, HE.out.1, Nat.le_of_eq (by first | rfl | exact hb), HE.out.2.lt (by omega), HE.out.2⟩
end Go.Proofs.YtkkdpafkafjfgaaDoor
