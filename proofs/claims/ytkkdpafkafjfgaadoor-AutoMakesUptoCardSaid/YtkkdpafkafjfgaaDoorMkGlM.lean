/- The places of a pattern in memory; (*places).join. -/
import Derived.Test.YtkkdpafkafjfgaaDoorMkPBase
import Derived.Test.YtkkdpafkafjfgaaDoorMkPGlZ
import Derived.Test.YtkkdpafkafjfgaaDoorMkAuLc
import Derived.Test.YtkkdpafkafjfgaaDoorMkRegC
namespace Go.Proofs.YtkkdpafkafjfgaaDoor
open Go.RowKit RR
set_option linter.unusedVariables false
set_option linter.unusedSimpArgs false
def setC (f : Nat → Bool) : List Value := [.int .u64 (word f 0 64), .int .u64 (word f 64 64), .int .u64 (word f 128 64), .int .u64 (word f 192 64)]
def maskV (m : Nat) : Value := .int .u32 (m : Nat)
def partC (o : Part) : Array Value := #[maskV o.first, maskV o.last, .bool o.null]
def partV (o : Part) : Value := .agg (partC o)
structure GlSo (w wr : World) (ob : Nat) (g : Gl) (bv fv : Value) : Prop where
  grew : Grew w wr
  blk : wr.heap[ob]? = some (.cells #[bv, fv, .bool g.much] 66 (0, 0))
  sets : QRow wr w.heap.size 77 4 bv g.sets.length (g.sets.flatMap setC)
  fo : QRow wr w.heap.size 67 1 fv g.fo.length (g.fo.map maskV)
  lo : w.heap.size ≤ ob
  ownb : ∀ k, bv.ownBlock = some k → k ≠ ob ∧ w.heap.size ≤ k ∧ k < wr.heap.size
  ownf : ∀ k, fv.ownBlock = some k → k ≠ ob ∧ w.heap.size ≤ k ∧ k < wr.heap.size
  sep : ∀ k, bv.ownBlock = some k → fv.ownBlock ≠ some k
  fits : Fits g
def GlFoot (ob : Nat) (bv fv : Value) (k : Nat) : Prop := k = ob ∨ bv.ownBlock = some k ∨ fv.ownBlock = some k
def GlAt (w wr : World) (ob : Nat) (g : Gl) (F : Nat → Prop) : Prop := ∃ bv fv, GlSo w wr ob g bv fv ∧ ∀ k, GlFoot ob bv fv k ↔ F k
structure GlTo (wr w' : World) (F F' : Nat → Prop) : Prop where
  size : wr.heap.size ≤ w'.heap.size
  out : ∀ k, k < wr.heap.size → ¬ F k → w'.heap[k]? = wr.heap[k]?
  new : ∀ k, F' k → F k ∨ wr.heap.size ≤ k
theorem GlTo.refl (w : World) (F : Nat → Prop) : GlTo w w F F := ⟨Nat.le_refl _, fun _ _ _ => rfl, fun _ h => Or.inl h⟩
theorem GlTo.trans {a b c : World} {F G H : Nat → Prop} (h : GlTo a b F G) (k : GlTo b c G H) : GlTo a c F H :=
  ⟨Nat.le_trans h.size k.size, fun i h1 h2 => (k.out i (Nat.lt_of_lt_of_le h1 h.size) (fun hG => (h.new i hG).elim h2 (by omega))).trans (h.out i h1 h2), fun i hi => (k.new i hi).elim (fun hG => h.new i hG) (fun hl => Or.inr (Nat.le_trans h.size hl))⟩
theorem GlTo.grew {a b : World} (g : Grew a b) (F : Nat → Prop) : GlTo a b F F := ⟨g.size, fun k hk _ => g.block k hk, fun _ h => Or.inl h⟩
theorem GlTo.not {a b : World} {F G : Nat → Prop} (h : GlTo a b F G) {k : Nat} (hk : k < a.heap.size) (hF : ¬ F k) : ¬ G k := fun hG => (h.new k hG).elim hF (by omega)
section
variable {w wr w' : World} {ob : Nat} {g : Gl} {bv fv : Value} {F : Nat → Prop}
theorem GlSo.kept (h : GlSo w wr ob g bv fv) (k : Grew wr w') : GlSo w w' ob g bv fv :=
  ⟨h.grew.trans k, heap_kept k h.blk, h.sets.grew k, h.fo.grew k, h.lo, fun i hi => by obtain ⟨a, b, c⟩ := h.ownb i hi; exact ⟨a, b, Nat.lt_of_lt_of_le c k.size⟩, fun i hi => by obtain ⟨a, b, c⟩ := h.ownf i hi; exact ⟨a, b, Nat.lt_of_lt_of_le c k.size⟩, h.sep, h.fits⟩
theorem GlAt.kept (h : GlAt w wr ob g F) (k : Grew wr w') : GlAt w w' ob g F := by
  obtain ⟨bv, fv, h1, h2⟩ := h; exact ⟨bv, fv, h1.kept k, h2⟩
theorem GlAt.fits (h : GlAt w wr ob g F) : Fits g := by obtain ⟨bv, fv, h1, h2⟩ := h; exact h1.fits
theorem GlAt.grew (h : GlAt w wr ob g F) : Grew w wr := by obtain ⟨bv, fv, h1, h2⟩ := h; exact h1.grew
theorem GlSo.foot_lt (h : GlSo w wr ob g bv fv) {k : Nat} (hk : GlFoot ob bv fv k) : w.heap.size ≤ k ∧ k < wr.heap.size := by
  rcases hk with rfl | e | e
  · exact ⟨h.lo, (Array.getElem?_eq_some_iff.1 h.blk).1⟩
  · exact (h.ownb k e).2
  · exact (h.ownf k e).2
theorem GlSo.setOther (h : GlSo w wr ob g bv fv) {b o : Nat} (hb : ¬ GlFoot ob bv fv b) (hlo : w.heap.size ≤ b) (v : Value) : GlSo w (wr.setCell ⟨b, o, none⟩ v) ob g bv fv := by
  have hs : (wr.setCell ⟨b, o, none⟩ v).heap.size = wr.heap.size := by simp [World.setCell]
  have hk : ∀ k, GlFoot ob bv fv k → (wr.setCell ⟨b, o, none⟩ v).heap[k]? = wr.heap[k]? := fun k hk => q_set_other o v (fun e => hb (e ▸ hk))
  exact ⟨h.grew.setCell (p := ⟨b, o, none⟩) hlo v, (hk ob (Or.inl rfl)).trans h.blk, h.sets.kept fun i hi _ => hk i (Or.inr (Or.inl hi)), h.fo.kept fun i hi _ => hk i (Or.inr (Or.inr hi)), h.lo, fun i hi => by rw [hs]; exact h.ownb i hi, fun i hi => by rw [hs]; exact h.ownf i hi, h.sep, h.fits⟩
theorem GlAt.setOther (h : GlAt w wr ob g F) {b o : Nat} (hb : ¬ F b) (hlo : w.heap.size ≤ b) (v : Value) : GlAt w (wr.setCell ⟨b, o, none⟩ v) ob g F := by
  obtain ⟨bv, fv, h1, h2⟩ := h; exact ⟨bv, fv, h1.setOther (fun k => hb ((h2 b).1 k)) hlo v, h2⟩
theorem GlAt.lt (h : GlAt w wr ob g F) {k : Nat} (hk : F k) : w.heap.size ≤ k ∧ k < wr.heap.size := by
  obtain ⟨bv, fv, h1, h2⟩ := h; exact h1.foot_lt ((h2 k).2 hk)
theorem QRow.setAt {e : TypeId} {base n : Nat} {v : Value} {xs : List Value} {P : World} (h : QRow wr base e 1 v n xs) {i : Nat} (hi : i < n) (u : Value) : ∃ b off cap, v = .slice (some ⟨b, off, none⟩) n cap ∧ base ≤ b ∧ b < wr.heap.size ∧ (∀ x, xs[i]? = some x → wr.cell? ⟨b, off + i, none⟩ = some x) ∧ wr.frozen? ⟨b, off + i, none⟩ = false ∧ QRow (wr.setCell ⟨b, off + i, none⟩ u) base e 1 v n (xs.set i u) := by
  obtain ⟨h0, a, cap, rfl, h1, h2, h3⟩ := h
  obtain ⟨b, off, cur, rfl, k1, k2, k3, k4⟩ := h3 (by omega)
  refine ⟨b, off, cap, rfl, k1, (Array.getElem?_eq_some_iff.1 k2).1, fun x hx => ?_, ?_, by rw [List.length_set, h0], _, cap, rfl, h1, h2, fun _ => ⟨b, off, cur.setIfInBounds (off + i) u, rfl, k1, q_set_same k2 _ _, by simpa using k3, fun j hj => ?_⟩⟩
  · unfold World.cell?; dsimp only; rw [k2]; exact (k4 i (by omega)).trans hx
  · unfold World.frozen?; dsimp only; rw [k2]; simp
  · by_cases e : j = i
    · subst e
      rw [List.getElem?_set_self (by omega)]
      simp [show off + j < cur.size by omega]
    · rw [List.getElem?_set_ne (Ne.symm e), Array.getElem?_setIfInBounds_ne (by omega)]
      exact k4 j hj
end
def joinTo (g : Gl) (last r first : Nat) : Gl := ⟨g.sets, g.fo.mapIdx fun i f => if last.testBit i && !r.testBit i then f ||| first else f, g.much⟩
theorem joinTo_start (g : Gl) (last first : Nat) : joinTo g last last first = g := by
  unfold joinTo
  have : (g.fo.mapIdx fun i f => if last.testBit i && !last.testBit i then f ||| first else f) = g.fo := by
    refine List.ext_getElem? fun i => ?_
    rw [List.getElem?_mapIdx]
    cases last.testBit i <;> simp
  rw [this]
theorem joinTo_done (g : Gl) (last first : Nat) : joinTo g last 0 first = g.join last first := by
  unfold joinTo Gl.join
  simp [Nat.zero_testBit]
theorem joinTo_len (g : Gl) (last r first : Nat) : (joinTo g last r first).fo.length = g.fo.length := by simp [joinTo]
theorem joinTo_fits {g : Gl} (h : Fits g) {last r first : Nat} (hf : first < 4096) : Fits (joinTo g last r first) := ⟨by rw [joinTo_len]; exact h.len, h.le, fun q => by
  have hq := h.fo q
  unfold joinTo
  dsimp only
  rw [List.getD_eq_getElem?_getD] at hq ⊢
  rw [List.getElem?_mapIdx]
  cases e : g.fo[q]? with
  | none => simp
  | some x =>
    rw [e] at hq
    simp only [Option.map_some, Option.getD_some] at hq ⊢
    split
    · exact or_lt hq hf
    · exact hq⟩
theorem joinTo_step {g : Gl} {last r first k : Nat} (hr : r < 4294967296) (h0 : r ≠ 0) (hk : Lib.ctz 32 r = k) (hsub : ∀ i, r.testBit i = true → last.testBit i = true) (hkl : k < g.fo.length) :
    (joinTo g last (r &&& (r - 1)) first).fo.map maskV = ((joinTo g last r first).fo.map maskV).set k (maskV ((joinTo g last r first).fo.getD k 0 ||| first)) := by
  obtain ⟨h1, h2⟩ := low32 hr h0
  rw [hk] at h1 h2
  refine List.ext_getElem? fun i => ?_
  by_cases e : i = k
  · subst e
    rw [List.getElem?_set_self (by rw [List.length_map, joinTo_len]; exact hkl)]
    unfold joinTo
    simp only [List.getElem?_map, List.getElem?_mapIdx, List.getD_eq_getElem?_getD, List.getElem?_eq_getElem hkl, Option.map_some, Option.getD_some, h1, h2, hsub i h1]
    simp
  · rw [List.getElem?_set_ne (Ne.symm e)]
    unfold joinTo
    simp only [List.getElem?_map, List.getElem?_mapIdx, h2]
    simp [e]
theorem GlSo.turn {w wr : World} {ob : Nat} {g g' : Gl} {bv fv : Value} (h : GlSo w wr ob g bv fv) (hf : Fits g') (hs : g'.sets = g.sets) (hm : g'.much = g.much) {i : Nat} (hi : i < g.fo.length) (hl : g'.fo.length = g.fo.length) (u : Value) (he : g'.fo.map maskV = (g.fo.map maskV).set i u) :
    ∃ b off cap, fv = .slice (some ⟨b, off, none⟩) g.fo.length cap ∧ (∀ x, (g.fo.map maskV)[i]? = some x → wr.cell? ⟨b, off + i, none⟩ = some x) ∧ wr.frozen? ⟨b, off + i, none⟩ = false ∧ b ≠ ob ∧ GlSo w (wr.setCell ⟨b, off + i, none⟩ u) ob g' bv fv := by
  obtain ⟨b, off, cap, e, h1, h2, h3, h4, h5⟩ := h.fo.setAt (P := wr) hi u
  have hfb : fv.ownBlock = some b := by rw [e]; rfl
  have hs2 : (wr.setCell ⟨b, off + i, none⟩ u).heap.size = wr.heap.size := by simp [World.setCell]
  have hbo := (h.ownf b hfb).1
  refine ⟨b, off, cap, e, h3, h4, hbo, h.grew.setCell (p := ⟨b, off + i, none⟩) h1 u, ?_, ?_, ?_, h.lo, fun k hk => by rw [hs2]; exact h.ownb k hk, fun k hk => by rw [hs2]; exact h.ownf k hk, h.sep, hf⟩
  · rw [q_set_other _ _ hbo, hm]; exact h.blk
  · rw [hs]; exact h.sets.kept fun k hk _ => q_set_other _ _ (fun e2 => h.sep k hk (by rw [← e2]; exact hfb))
  · rw [hl, he]; exact h5
theorem field_pl0 (b : Nat) (w : World) : (Instr.fieldAt 66 (.pointer (some ⟨b, 0, none⟩)) 0).run Tryd.prog w = .ok (.pointer (some ⟨b, 0, none⟩)) w := by kernel_rfl
theorem field_pl1 (b : Nat) (w : World) : (Instr.fieldAt 66 (.pointer (some ⟨b, 0, none⟩)) 1).run Tryd.prog w = .ok (.pointer (some ⟨b, 1, none⟩)) w := by kernel_rfl
theorem agg_u32 (w : World) : (isAgg 67).run Tryd.prog w = .ok false w := run_isAgg Tryd.underlying67 w
theorem agg_u32s (w : World) : (isAgg 64).run Tryd.prog w = .ok false w := run_isAgg Tryd.underlying64 w
theorem agg_setsl (w : World) : (isAgg 63).run Tryd.prog w = .ok false w := run_isAgg Tryd.underlying63 w
theorem cell_of {w : World} {b : Nat} {cs : Array Value} {t : TypeId} (h : w.heap[b]? = some (.cells cs t (0, 0))) (i : Nat) : w.cell? ⟨b, i, none⟩ = cs[i]? := by
  unfold World.cell?; dsimp only; rw [h]; simp
section
variable {P : Program} {wb w0 : World} {g : Nat} {Fin : World → Prop} {mk : List Nat} {is : Nat} {ops : Array Oper} {Q : Exit → Act → World → Prop} {shs : List Sh} {a0 : Act} {A : Array Edge} {i : Nat} {d : Option Tmp} {op : Op} {ty : TypeId} {pos : String} {G : Option (Nat × Bool)}
theorem hj_nilc {p : Addr} (hi : i ∈ mk) (his : i ≠ is) {x : Operand} (hg : guardIs ops shs A G = some true) (hx : opSh ops shs A a0 x = .val (.pointer (some p))) (hs : shs.getD i (.fact fun _ _ => True) = .val (.pointer (some p))) :
    StepJ (StJ wb Fin mk is) (NoRl g) P ops Q (shF shs) a0 w0 i ⟨d, .nilCheck x, ty, pos, A, G⟩ :=
  hj_pure hi his (fun a w _ E => by
    have hv : a.eval x = .pointer (some p) := E.opv hx
    unfold execOp
    simp [hv]) hg hs
theorem hj_bin {x y : Operand} {u v z : Value} {op : BinOp} {xt t2 : TypeId} (hb : ∀ w, (do eqGuard op xt x y u v; binOp op xt u v : Sem Value).run P w = .ok z w) (hi : i ∈ mk) (his : i ≠ is) (hg : guardIs ops shs A G = some true) (hx : opSh ops shs A a0 x = .val u) (hy : opSh ops shs A a0 y = .val v) (hs : shs.getD i (.fact fun _ _ => True) = .val z) :
    StepJ (StJ wb Fin mk is) (NoRl g) P ops Q (shF shs) a0 w0 i ⟨d, .binOp op xt x y t2, ty, pos, A, G⟩ :=
  hj_pure hi his (fun a w _ E => by
    have hv : a.eval x = u := E.opv hx
    have hw : a.eval y = v := E.opv hy
    have h := hb w
    unfold execOp
    simp only [hv, hw, Sem.run_bind] at h ⊢
    simp [h]) hg hs
end
theorem run_or32 {a b : Nat} (ha : a < 4294967296) (hb : b < 4294967296) {x y : Operand} (w : World) : (do eqGuard .or 67 x y (maskV a) (maskV b); binOp .or 67 (maskV a) (maskV b) : Sem Value).run Tryd.prog w = .ok (maskV (a ||| b)) w := by
  have e1 : a % 2 ^ IntKind.u32.bits = a := Nat.mod_eq_of_lt ha
  have e2 : b % 2 ^ IntKind.u32.bits = b := Nat.mod_eq_of_lt hb
  have h := Nat.or_lt_two_pow (n := 32) ha hb
  unfold maskV
  simp [eqGuard, binOp, Op.intBits]
  rw [e1, e2, wrap32]
  omega
theorem testBit_le {r last : Nat} (h : ∀ i, r.testBit i = true → last.testBit i = true) {n : Nat} (hl : last < 2 ^ n) : r < 2 ^ n := by
  refine Nat.lt_pow_two_of_testBit r fun i hi => ?_
  cases e : r.testBit i with
  | false => rfl
  | true =>
    have := h i e
    rw [Nat.testBit_lt_two_pow (Nat.lt_of_lt_of_le hl (Nat.pow_le_pow_right (n := 2) (by decide) hi))] at this
    cases this
theorem two_pow_12 {n m : Nat} (h : m < 2 ^ n) (hn : n ≤ 12) : m < 4096 := Nat.lt_of_lt_of_le h (Nat.pow_le_pow_right (n := 2) (by decide) hn)
theorem pred_and {r : Nat} (hr : r < 4294967296) (h0 : r ≠ 0) : bits .and .u32 (r : Int) ((r : Int) - 1) = ((r &&& (r - 1) : Nat) : Int) := by
  rw [show (r : Int) - 1 = ((r - 1 : Nat) : Int) by omega]
  exact and32 r (r - 1) hr (by omega)
theorem and_pred_lt' (x : Nat) (h : x ≠ 0) : x &&& (x - 1) < x := by
  have : x &&& (x - 1) ≤ x - 1 := Nat.and_le_right
  omega
set_option maxRecDepth 100000 in
set_option maxHeartbeats 4000000 in
theorem Join_any {w w00 : World} {ob : Nat} {g : Gl} {F : Nat → Prop} (h : GlAt w w00 ob g F) {last first : Nat} (hl : last < 2 ^ g.fo.length) (hf : first < 4096) (hT : TabZ32 w) :
    Calls Tryd.prog 100 #[.pointer (some ⟨ob, 0, none⟩), .int .u32 (last : Nat), .int .u32 (first : Nat)] w00 fun e w' => e = .returned (.tuple #[]) ∧ GlAt w w' ob (g.join last first) F ∧ GlTo w00 w' F F := by
  have h12 : g.fo.length ≤ 12 := by rw [h.fits.len]; exact h.fits.le
  have hl12 := two_pow_12 hl h12
  have HT := hidd hT
  have HL := hidd hl
  have H0 : Hid (GlAt w w00 ob (joinTo g last last first) F ∧ GlTo w00 w00 F F) := ⟨by rw [joinTo_start]; exact h, GlTo.refl _ _⟩
  have HF := hidd h.fits
  have HS0 : Hid (∀ i, last.testBit i = true → last.testBit i = true) := fun i h => h
  clear h hT hl
  go_enter Tryd.func100, Tryd.ntmps100
  go_wp2_with fail
  go_loopw [1] (fun s1 wr => ∃ r, s1 = .int .u32 (r : Nat) ∧ r ≤ 4096 ∧ Hid ((∀ i, r.testBit i = true → last.testBit i = true) ∧ GlAt w wr ob (joinTo g last r first) F ∧ GlTo w00 wr F F)) (fun s1 _ => (intOf s1).toNat)
  case atStart => exact ⟨last, rfl, by omega, HS0.out, H0.out⟩
  case round =>
    obtain ⟨r, rfl, hr, HR⟩ := hrel
    clear H0 HS0
    by_cases hr0 : r = 0
    · subst hr0
      have k0 : ((0 : Int) != 0) = false := rfl
      go_wp2_with fail
      go_end0
      obtain ⟨_, h1, h2⟩ := HR.out
      rw [joinTo_done] at h1
      exact ⟨rfl, h1, h2⟩
    · have k0 : ((r : Int) != 0) = true := by simpa using hr0
      obtain ⟨hsub, ⟨bv, fv, hG, hFoot⟩, hTo⟩ := HR.out
      have hr32 : r < 4294967296 := by omega
      obtain ⟨k, hk⟩ : ∃ k, Lib.ctz 32 r = k := ⟨_, rfl⟩
      have hkl : k < g.fo.length := by rw [← hk]; exact low32_lt (testBit_le hsub HL.out) (by omega) hr0
      obtain ⟨old, hold⟩ : ∃ old, (joinTo g last r first).fo.getD k 0 = old := ⟨_, rfl⟩
      have holdlt : old < 4096 := by rw [← hold]; exact (joinTo_fits HF.out hf).fo k
      obtain ⟨new, hnew⟩ : ∃ new, old ||| first = new := ⟨_, rfl⟩
      have hstep := joinTo_step (g := g) (first := first) hr32 hr0 hk hsub hkl
      rw [hold, hnew] at hstep
      have hjl : k < (joinTo g last r first).fo.length := by rw [joinTo_len]; exact hkl
      have hold2 : ((joinTo g last r first).fo.map maskV)[k]? = some (maskV old) := by
        rw [List.getElem?_map, List.getElem?_eq_getElem hjl, ← hold, List.getD_eq_getElem?_getD, List.getElem?_eq_getElem hjl]; rfl
      have hZ : ∀ w1, Grew wr w1 → Calls Tryd.prog 28 #[.int .u32 (r : Nat)] w1 fun e w' => e = .returned (.int .i64 (k : Nat)) ∧ w' = w1 := fun w1 g1 => by
        have := zeros32 r w1 hr32 hr0 (HT.out.kept (hG.grew.trans g1))
        rw [hk] at this; exact this
      obtain ⟨fb, off, cap, rfl, hc, hfz, hne, hG2⟩ := hG.turn (g' := joinTo g last (r &&& (r - 1)) first) (joinTo_fits HF.out hf) rfl rfl hjl (by rw [joinTo_len, joinTo_len]) (maskV new) hstep
      have hcell := hc _ hold2
      have hb1 : wr.cell? ⟨ob, 1, none⟩ = some (.slice (some ⟨fb, off, none⟩) (joinTo g last r first).fo.length cap) := by rw [cell_of hG.blk]; rfl
      have hidx : ∀ w1, (Instr.indexAt 64 (.slice (some ⟨fb, off, none⟩) (joinTo g last r first).fo.length cap) (.int .i64 (k : Nat))).run Tryd.prog w1 = .ok (.pointer (some ⟨fb, off + k, none⟩)) w1 := fun w1 => by
        have := index_sl (sz := 1) Tryd.underlying64 (by kernel_rfl) (fun w => size_of (by kernel_rfl) w) (b := fb) (o := off) (c := cap) hjl w1
        rwa [Nat.mul_one] at this
      have hfbF : F fb := (hFoot fb).1 (Or.inr (Or.inr rfl))
      have hfblo : w.heap.size ≤ fb := (hG.ownf fb rfl).2.1
      go_wp2_with fail
      refine RR.region_frame (J := StJ wr.drew (fun w' => ∃ w1, Grew wr.drew w1 ∧ w' = w1.setCell ⟨fb, off + k, none⟩ (maskV new)) [0, 1, 2, 3, 4, 5, 6, 7, 8, 9, 10] 11) (Rl := NoRl fb) [12, 13, 14, 15, 16, 17, 18, 19, 20, 21, 22] mixed (NoRl.drew _) NoRl.trans
        [.val (.pointer (some ⟨ob, 0, none⟩)), .val (.pointer (some ⟨ob, 0, none⟩)), .val (.pointer (some ⟨ob, 1, none⟩)), .val (.slice (some ⟨fb, off, none⟩) (joinTo g last r first).fo.length cap), .val (.int .u32 (r : Nat)), .val (.int .i64 (k : Nat)), .val (.pointer (some ⟨fb, off + k, none⟩)), .val (maskV old), .val (maskV first), .val (maskV new), .val (.pointer (some ⟨fb, off + k, none⟩)), .fact fun _ _ => True]
        (st_start _ _) (no_mono ?_) (by kernel_rfl) (by kernel_rfl)
        ⟨hj_move (by decide) (by decide) (by kernel_rfl) rfl rfl, hj_nilc (by decide) (by decide) (by kernel_rfl) rfl rfl, hj_field (field_pl1 ob) (by decide) (by decide) (by kernel_rfl) rfl rfl,
         hj_load1 (wb := wr.drew) (p := ⟨ob, 1, none⟩) agg_u32s hb1 (by decide) (by decide) (by kernel_rfl) rfl rfl,
         hj_move (by decide) (by decide) (by kernel_rfl) rfl rfl,
         hj_call1 (by kernel_rfl) (by decide) (by decide) ?call (by kernel_rfl),
         hj_index hidx (by decide) (by decide) (by kernel_rfl) rfl rfl rfl,
         hj_load1 (wb := wr.drew) (p := ⟨fb, off + k, none⟩) agg_u32 hcell (by decide) (by decide) (by kernel_rfl) rfl rfl,
         hj_move (by decide) (by decide) (by kernel_rfl) rfl rfl,
         hj_bin ?or (by decide) (by decide) (by kernel_rfl) rfl rfl rfl,
         hj_index hidx (by decide) (by decide) (by kernel_rfl) rfl rfl rfl,
         hj_store (by decide) (by exact (show (11 : Nat) < 12 by decide)) ?st (by decide) (by kernel_rfl) rfl, trivial⟩ ?_
      case call =>
        intro a1 wx hg E
        have h1 : a1.eval (.tmp 16) = .int .u32 (r : Nat) := E.opv rfl
        rw [h1]
        refine (hZ wx ((drew_grew wr).trans hg)).mono fun e w' ⟨he, hw⟩ => ?_
        subst hw
        exact ⟨_, he, Grew.refl _, rfl⟩
      case or =>
        intro w1
        rw [← hnew]
        exact run_or32 (by omega) (by omega) w1
      case st =>
        intro a1 wx hg E
        have h1 : a1.eval (.tmp 22) = .pointer (some ⟨fb, off + k, none⟩) := E.opv rfl
        have h2 : a1.eval (.tmp 21) = maskV new := E.opv rfl
        rw [h1, h2]
        have hcx := hg.keeps (p := ⟨fb, off + k, none⟩) hcell
        have hfx : wx.frozen? ⟨fb, off + k, none⟩ = false := by rw [hg.frozen (p := ⟨fb, off + k, none⟩) (lt_of_cell hcell)]; exact hfz
        exact ⟨_, store_one (fun w => size_of (by kernel_rfl) w) hcx hfx rfl rfl, NoRl.set _ _ _ _, wx, hg, rfl⟩
      · intro sx hs
        simp only [List.mem_cons, List.not_mem_nil, or_false] at hs
        rcases hs with rfl | rfl | rfl | rfl | rfl | rfl | rfl | rfl | rfl | rfl | rfl | rfl <;> first | exact Or.inl ⟨_, rfl⟩ | exact Or.inr ⟨_, rfl, fun _ _ _ _ _ => trivial⟩
      · intro xs listed a1 wy hall hxs hJ hR _
        obtain ⟨w9, hg9, rfl⟩ := hJ.p1 (hall 11 (by exact (show (11 : Nat) < 12 by decide)))
        have hk9 := (drew_grew wr).trans hg9
        have HN : Hid ((∀ i, (r &&& (r - 1)).testBit i = true → last.testBit i = true) ∧ GlAt w (w9.setCell ⟨fb, off + k, none⟩ (maskV new)) ob (joinTo g last (r &&& (r - 1)) first) F ∧ GlTo w00 (w9.setCell ⟨fb, off + k, none⟩ (maskV new)) F F) := by
          refine ⟨fun i hi => hsub i (by rw [Nat.testBit_and, Bool.and_eq_true] at hi; exact hi.1), ?_, hTo.trans ?_⟩
          · obtain ⟨fb', off', cap', e, _, _, _, hG9⟩ := (hG.kept hk9).turn (g' := joinTo g last (r &&& (r - 1)) first) (joinTo_fits HF.out hf) rfl rfl hjl (by rw [joinTo_len, joinTo_len]) (maskV new) hstep
            cases e
            exact ⟨_, _, hG9, hFoot⟩
          · exact ⟨by rw [show (w9.setCell ⟨fb, off + k, none⟩ (maskV new)).heap.size = w9.heap.size by simp [World.setCell]]; exact hk9.size, fun j h1 h2 => (q_set_other _ _ (fun e => h2 (by rw [← e]; exact hfbF))).trans (hk9.block j h1), fun _ h => Or.inl h⟩
        have HLt := and_pred_lt' r hr0
        have HA := hidd (pred_and hr32 hr0)
        obtain ⟨r2, hr2⟩ : ∃ r2, r &&& (r - 1) = r2 := ⟨_, rfl⟩
        rw [hr2] at HN HLt HA
        have ha := HA.out
        simp only [List.foldl_cons, List.foldl_nil, List.setIfInBounds_toArray, List.set_cons_succ, List.set_cons_zero]
        clear hall hxs hJ hR hG hG2 hZ hidx hstep hTo hsub hFoot hold2 hcell hb1 hc hfz HR hg9 hk9 hr2 hold hnew holdlt hjl hkl hk hr0 hne
        go_wp2_with (simp only [ha])
        exact ⟨⟨r2, rfl, by omega, HN.out⟩, by simp [intOf]; omega⟩
end Go.Proofs.YtkkdpafkafjfgaaDoor
