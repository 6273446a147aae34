/- (*Net).Closed. -/
import Derived.Test.YtkkdpafkafjfgaaDoorMkPNtC
namespace Go.Proofs.YtkkdpafkafjfgaaDoor
open Go.RowKit RR
set_option linter.unusedVariables false
set_option linter.unusedSimpArgs false
set_option maxRecDepth 100000
structure NetIn (w : World) (nb : Nat) (N : NetP) (ys : List (NArr × Option Nat)) (a : Option Addr) (cap : Nat) : Prop where
  blk : w.heap[nb]? = some (.cells #[.int .i64 (N.places : Nat), .slice a ys.length cap] 87 (0, 0))
  arr : ys.map (·.1) = N.arrows
  cell : ∀ i, i < ys.length → ∃ b o y, a = some ⟨b, o, none⟩ ∧ ys[i]? = some y ∧ w.cell? ⟨b, o + i * 3, none⟩ = some (.int .i64 (y.1.fr : Nat)) ∧ w.cell? ⟨b, o + i * 3 + 1, none⟩ = some (.int .i64 (y.1.to : Nat)) ∧ w.cell? ⟨b, o + i * 3 + 2, none⟩ = some (byV y.2)
  bys : ∀ y ∈ ys, match y.1.bs, y.2 with | none, none => True | some s, some b => ArrAt w b 0 256 (fun j => .bool (s j)) | _, _ => False
theorem NetIn.kept {w w' : World} {nb : Nat} {N : NetP} {ys : List (NArr × Option Nat)} {a : Option Addr} {cap : Nat} (h : NetIn w nb N ys a cap) (g : Grew w w') : NetIn w' nb N ys a cap := by
  refine ⟨heap_kept g h.blk, h.arr, fun i hi => ?_, fun y hy => ?_⟩
  · obtain ⟨b, o, y, h1, h2, h3, h4, h5⟩ := h.cell i hi
    exact ⟨b, o, y, h1, h2, g.keeps h3, g.keeps h4, g.keeps h5⟩
  · have := h.bys y hy
    revert this
    cases y.1.bs <;> cases y.2 <;> intro h
    · trivial
    · exact h
    · exact h
    · exact ArrAt.kept h g
theorem flat_arr {ys : List (NArr × Option Nat)} {i : Nat} {y : NArr × Option Nat} (h : ys[i]? = some y) {j : Nat} (hj : j < 3) : (ys.flatMap arrC)[i * 3 + j]? = (arrC y)[j]? := by
  induction ys generalizing i with
  | nil => simp at h
  | cons z ys ih =>
    rw [List.flatMap_cons]
    have hz : (arrC z).length = 3 := rfl
    cases i with
    | zero =>
      simp at h; subst h
      rw [List.getElem?_append_left (by rw [hz]; omega), Nat.zero_mul, Nat.zero_add]
    | succ i =>
      rw [List.getElem?_append_right (by rw [hz]; omega), hz, show (i + 1) * 3 + j - 3 = i * 3 + j by omega]
      exact ih (by simpa using h)
theorem NtAt.read {w wr : World} {nb : Nat} {N : NetP} {F : Nat → Prop} (h : NtAt w wr nb N F) : ∃ ys a cap, NetIn wr nb N ys a cap := by
  obtain ⟨ys, av, h1, h2⟩ := h
  have hb := h1.blk
  obtain ⟨_, a, cap, e, _⟩ := h1.row
  subst e
  refine ⟨ys, a, cap, hb, h1.arr, fun i hi => ?_, fun y hy => ?_⟩
  · obtain ⟨b, o, c, e, _, _, _, _, hc⟩ := h1.row.at (by omega)
    cases e
    have hy : ys[i]? = some ys[i] := List.getElem?_eq_getElem hi
    refine ⟨b, o, ys[i], rfl, hy, ?_, ?_, ?_⟩
    · have := hc (i * 3 + 0) (.int .i64 (ys[i].1.fr : Nat)) (by omega) (by rw [flat_arr hy (by omega)]; rfl)
      rwa [Nat.add_zero] at this
    · have := hc (i * 3 + 1) (.int .i64 (ys[i].1.to : Nat)) (by omega) (by rw [flat_arr hy (by omega)]; rfl)
      rwa [← Nat.add_assoc] at this
    · have := hc (i * 3 + 2) (byV ys[i].2) (by omega) (by rw [flat_arr hy (by omega)]; rfl)
      rwa [← Nat.add_assoc] at this
  · have := h1.bys y hy
    revert this
    cases y.1.bs <;> cases y.2 <;> intro h
    · trivial
    · exact h
    · exact h
    · exact h.2.2.2
def ClI (N : NetP) (S T : List Bool) : Prop := T.length = N.places ∧ (∀ q, inB S q = true → inB T q = true) ∧ ∀ q, inB T q = true → ∃ p, inB S p = true ∧ Eps N.arrows p q
def ClD (N : NetP) (T : List Bool) (k : Nat) : Prop := ∀ j a, j < k → N.arrows[j]? = some a → a.bs = none → inB T a.fr = true → inB T a.to = true
theorem ClI.done {N : NetP} (ok : N.Ok) {S T : List Bool} (h : ClI N S T) (hd : ClD N T N.arrows.length) : T = closeB N S := by
  have hreach : ∀ p q, inB S p = true → Eps N.arrows p q → inB T q = true := fun p q hp he => by
    induction he with
    | refl => exact h.2.1 p hp
    | step _ h1 h2 ih =>
      obtain ⟨j, hj, e⟩ := List.getElem_of_mem h1
      exact hd j _ hj (by rw [List.getElem?_eq_getElem hj, e]) h2 ih
  have : T = onB N.places fun q => inB T q := onB_eq h.1 fun _ _ => rfl
  rw [this]
  refine (onB_eq (closeB_len N S) fun q hq => ?_).symm
  cases e : inB T q with
  | true =>
    obtain ⟨p, h1, h2⟩ := h.2.2 q e
    exact (closeB_in hq).2 ⟨p, h1, h2⟩
  | false =>
    cases e2 : inB (closeB N S) q with
    | false => rfl
    | true =>
      obtain ⟨p, h1, h2⟩ := (closeB_in hq).1 e2
      rw [hreach p q h1 h2] at e; cases e
def putB (T : List Bool) (q : Nat) : List Bool := onB T.length fun j => if j = q then true else inB T j
theorem putB_in {T : List Bool} {q j : Nat} (hq : q < T.length) : inB (putB T q) j = if j = q then true else inB T j := by
  unfold putB
  rcases Nat.lt_or_ge j T.length with h | h
  · rw [onB_in h]
  · have h1 : inB T j = false := by
      cases e : inB T j with
      | false => rfl
      | true => exact absurd (inB_lt e) (by omega)
    rw [if_neg (by omega), h1]
    cases e : inB (onB T.length fun j => if j = q then true else inB T j) j with
    | false => rfl
    | true => have := inB_lt e; rw [onB_len] at this; omega
theorem ClI.put {N : NetP} (ok : N.Ok) {S T : List Bool} (h : ClI N S T) {a : NArr} (ha : a ∈ N.arrows) (hb : a.bs = none) (hf : inB T a.fr = true) : ClI N S (putB T a.to) := by
  have hq : a.to < T.length := by rw [h.1]; exact (ok a ha).2
  refine ⟨(onB_len _ _).trans h.1, fun q hqS => ?_, fun q hqT => ?_⟩
  · rw [putB_in hq]; split
    · rfl
    · exact h.2.1 q hqS
  · rw [putB_in hq] at hqT
    split at hqT
    · rename_i e
      obtain ⟨p, h1, h2⟩ := h.2.2 _ hf
      rw [e]; exact ⟨p, h1, .step h2 ha hb⟩
    · exact h.2.2 q hqT
def outsB (f : Nat → Bool) (m : Nat) : Nat := ((List.range m).filter fun j => !f j).length
theorem outsB_put {T : List Bool} {q : Nat} (hq : q < T.length) (h : inB T q = false) : outsB (inB (putB T q)) T.length < outsB (inB T) T.length := by
  unfold outsB
  have key : ∀ l : List Nat, l.Nodup → q ∈ l → (l.filter fun j => !inB (putB T q) j).length < (l.filter fun j => !inB T j).length := by
    intro l
    induction l with
    | nil => intro _ h; cases h
    | cons x l ih =>
      intro hn hm
      rw [List.nodup_cons] at hn
      have hle : ∀ l : List Nat, (l.filter fun j => !inB (putB T q) j).length ≤ (l.filter fun j => !inB T j).length := by
        intro l
        induction l with
        | nil => exact Nat.le_refl _
        | cons y l ih2 =>
          rw [List.filter_cons, List.filter_cons, putB_in hq]
          by_cases e : y = q
          · subst e; rw [if_pos rfl, h]; simp; omega
          · rw [if_neg e]; cases inB T y <;> simp <;> exact ih2
      rw [List.filter_cons, List.filter_cons, putB_in hq]
      by_cases e : x = q
      · subst e; rw [if_pos rfl, h]; simp
        exact Nat.lt_succ_of_le (hle l)
      · rw [if_neg e]
        have := ih hn.2 ((List.mem_cons.1 hm).resolve_left (fun e2 => e e2.symm))
        cases inB T x <;> simp <;> omega
  exact key _ List.nodup_range (List.mem_range.2 hq)
def bOf (w : World) (b : Nat) (j : Nat) : Bool := match w.cell? ⟨b, j, none⟩ with | some (.bool true) => true | _ => false
theorem bOf_eq {w : World} {b : Nat} {T : List Bool} (h : BoolsAt w b T) {j : Nat} (hj : j < T.length) : bOf w b j = inB T j := by
  unfold bOf; rw [h.at0 j hj]; cases inB T j <;> rfl
theorem outsB_eq {w : World} {b : Nat} {T : List Bool} (h : BoolsAt w b T) : outsB (bOf w b) T.length = outsB (inB T) T.length := by
  unfold outsB
  congr 1
  exact List.filter_congr fun j hj => by rw [bOf_eq h (List.mem_range.1 hj)]
theorem BoolsAt.put {w : World} {b : Nat} {T : List Bool} (h : BoolsAt w b T) {q : Nat} (hq : q < T.length) : BoolsAt (w.setCell ⟨b, q, none⟩ (.bool true)) b (putB T q) := by
  have hl : (putB T q).length = T.length := onB_len _ _
  unfold BoolsAt at h ⊢
  rw [hl]
  exact (h.set0 q hq _).congr fun j _ => by
    rw [putB_in hq]
    by_cases e : j = q
    · rw [if_pos e, if_pos e]
    · rw [if_neg e, if_neg e]
theorem build_none (w : World) : (Instr.buildSlice 28 0 #[]).run Tryd.prog w = .ok (.slice (some ⟨w.heap.size, 0, none⟩) 0 0) (w.alloc (.cells #[] 4)) := by kernel_rfl
theorem twin_bools {w : World} {b c : Nat} {S : List Bool} (h : BoolsAt w b S) (h0 : 0 < S.length) (hm : S.length ≤ 100000) (ty : TypeId) :
    ∃ b' cap w', (Builtin.append_ #[28, 28] ty #[.slice (some ⟨w.heap.size, 0, none⟩) 0 0, .slice (some ⟨b, 0, none⟩) S.length c]).run Tryd.prog (w.alloc (.cells #[] 4)) = .ok (.slice (some ⟨b', 0, none⟩) S.length cap) w' ∧ Grew w w' ∧ w.heap.size ≤ b' ∧ BoolsAt w' b' S := by
  obtain ⟨i0, hi, z0, z1, z2⟩ := info_boolx
  have g := (Grew.refl w).alloc (.cells #[] 4)
  have hS : ∀ j, j < S.length → (S.map fun x => Value.bool x)[j]? = some (.bool (inB S j)) := fun j hj => by
    rw [List.getElem?_map, List.getElem?_eq_getElem hj]
    unfold inB
    rw [List.getD_eq_getElem?_getD, List.getElem?_eq_getElem hj]; rfl
  obtain ⟨v, w', h1, h2, h3, _⟩ := run_append_own (P := Tryd.prog) (w.alloc (.cells #[] 4)) w.heap.size 28 ty 4 i0 (.bool false) 1 1 Tryd.underlying28 hi z0 z1 z2 rfl (by decide) (.slice (some ⟨w.heap.size, 0, none⟩) 0 0) 0 []
    ⟨rfl, .inr ⟨w.heap.size, 0, #[], rfl, Nat.le_refl _, heap_alloc_new w _, Nat.le_refl _, Nat.zero_le _, rfl, rfl⟩⟩ ⟨b, 0, none⟩ S.length c (S.map fun x => Value.bool x) (by rw [List.length_map, Nat.mul_one])
    (fun j u hj => by
      have hlt : j < S.length := by have := (List.getElem?_eq_some_iff.1 hj).1; simpa using this
      rw [hS j hlt] at hj
      rw [Addr.add_lit, Nat.zero_add, (ArrAt.kept h g).at0 j hlt]; exact hj)
    (fun u hu => by obtain ⟨x, _, rfl⟩ := List.mem_map.1 hu; rfl) (by unfold maxLen; omega) (by omega) g.size
  have hg : Grew w w' := grew_grown g h3 fun k hk => by cases hk; exact Nat.le_refl _
  rw [Nat.zero_add, List.nil_append] at h2
  have hO : Own 4 w' w.heap.size v (S.map fun x => Value.bool x) := by unfold Own; rw [List.length_map]; exact h2
  rcases hO.shape with ⟨_, h5⟩ | ⟨g1, cap, h4, h5, h6, h7, h8, h9⟩
  · have := congrArg List.length h5
    rw [List.length_map] at this
    exact absurd h0 (by rw [this]; exact Nat.lt_irrefl 0)
  · rw [List.length_map] at h4 h9
    subst h4
    exact ⟨g1, cap, w', h1, hg, h5, h9.congr fun j hj => by rw [List.getD_eq_getElem?_getD, hS j hj]; rfl⟩
theorem bys_eps {w : World} {nb : Nat} {N : NetP} {ys : List (NArr × Option Nat)} {a : Option Addr} {cap : Nat} (h : NetIn w nb N ys a cap) {y : NArr × Option Nat} (hy : y ∈ ys) : (y.1.bs = none ∧ y.2 = none) ∨ ∃ s b, y.1.bs = some s ∧ y.2 = some b := by
  have := h.bys y hy
  revert this
  cases y.1.bs <;> cases y.2 <;> intro h
  · exact Or.inl ⟨rfl, rfl⟩
  · exact h.elim
  · exact h.elim
  · exact Or.inr ⟨_, _, rfl, rfl⟩
def agB : Value → Nat
  | .bool true => 1
  | _ => 0
structure ClsW (N : NetP) (S T0 : List Bool) (w wr : World) (q : Nat) (ag : Bool) (i : Nat) (T : List Bool) : Prop where
  grew : Grew w wr
  mem : BoolsAt wr q T
  inv : ClI N S T
  tell : if ag then outsB (inB T) T.length < outsB (inB T0) T0.length else T = T0 ∧ ClD N T i
set_option maxHeartbeats 4000000 in
theorem Closed_any {w0 w : World} {nb : Nat} {N : NetP} {F : Nat → Prop} (hN : NtAt w0 w nb N F) (ok : N.Ok) (hm : N.places ≤ 100000) (hna : N.arrows.length ≤ 100000) {S : List Bool} (hS : S.length = N.places) (h0 : 0 < N.places) {b c : Nat} (h : BoolsAt w b S) :
    Calls Tryd.prog 71 #[.pointer (some ⟨nb, 0, none⟩), .slice (some ⟨b, 0, none⟩) N.places c] w fun e w' => ∃ b' c', e = .returned (.slice (some ⟨b', 0, none⟩) N.places c') ∧ Grew w w' ∧ w.heap.size ≤ b' ∧ BoolsAt w' b' (closeB N S) := by
  obtain ⟨ys, a, cap, hR⟩ := hN.read
  have hbu := build_none w
  obtain ⟨q, qc, W, hap, hg, hq, hB⟩ := twin_bools (c := c) h (by omega) (by omega) 28
  have HN := hidd hR
  have HOk := hidd ok
  have HS := hidd hS
  have HQ := hidd hq
  have HLen : Hid (ys.length = N.arrows.length) := by unfold Hid; rw [← hR.arr, List.length_map]
  obtain ⟨n, hn⟩ : ∃ n, ys.length = n := ⟨_, rfl⟩
  have HYn := hidd hn
  have hn6 : n ≤ 100000 := by rw [← hn, HLen.out]; exact hna
  obtain ⟨m, hm2⟩ : ∃ m, N.places = m := ⟨_, rfl⟩
  have HM := hidd hm2
  have HI0 : Hid (Grew w W ∧ BoolsAt W q S ∧ ClI N S S) := ⟨hg, hB, hS, fun _ h => h, fun q h => ⟨q, h, .refl⟩⟩
  rw [hS] at hap
  rw [hm2] at hap hm h0 ⊢
  clear hN hR h hg hq hB ok hS hn hm2 hna
  go_enter Tryd.func71, Tryd.ntmps71
  go_wp2_with (first | (at_builtin; refine wpList_append_eq rfl rfl rfl rfl hap ?_))
  clear hap hbu
  go_loopw [6] (fun s6 wr => ∃ ag : Bool, s6 = .bool ag ∧ Hid (∃ T, Grew w wr ∧ BoolsAt wr q T ∧ ClI N S T ∧ (ag = false → ClD N T n))) (fun s6 wr => 2 * outsB (bOf wr q) m + agB s6)
  case atStart => exact ⟨true, rfl, S, HI0.out.1, HI0.out.2.1, HI0.out.2.2, fun h => by cases h⟩
  case round =>
    obtain ⟨ag, rfl, KG⟩ := hrel
    clear HI0
    obtain ⟨T0, hGr, hBo, hIn, hDo⟩ := KG.out
    cases ag with
    | true =>
      have hTl := hIn.1
      have HT0 := hidd (outsB_eq hBo)
      rw [hTl, HM.out] at HT0
      have HTl0 : Hid (T0.length = m) := hTl.trans HM.out
      have HI1 : Hid (ClsW N S T0 w wr q false 0 T0) := ⟨hGr, hBo, hIn, rfl, fun j a hj => absurd hj (Nat.not_lt_zero j)⟩
      have hbk := (HN.out.kept hGr).blk
      rw [HYn.out] at hbk
      have cn : wr.cell? ⟨nb, 1, none⟩ = some (.slice a n cap) := cell_of hbk 1
      have hnb := (Array.getElem?_eq_some_iff.1 hbk).1
      clear KG hGr hBo hIn hDo hbk hTl
      go_wp2_with fail
      clear cn hnb
      obtain ⟨z, hz⟩ : ∃ z, outsB (bOf wr q) m = z := ⟨_, rfl⟩
      rw [hz] at HT0
      have HZ := hidd hz
      clear hz
      go_loopw [6, 18] (fun s6 s18 wr => ∃ (ag : Bool) (i : Nat), s6 = .bool ag ∧ s18 = .int .i64 (i : Nat) ∧ i ≤ n ∧ Hid (∃ T, ClsW N S T0 w wr q ag i T)) (fun _ s18 _ => n - (intOf s18).toNat)
      case atStart => exact ⟨false, 0, rfl, rfl, by omega, T0, HI1.out⟩
      case round =>
        obtain ⟨ag, i, rfl, rfl, hi, KG⟩ := hrel
        clear HI1
        obtain ⟨T, hX⟩ := KG.out
        by_cases hlt : i < n
        · have kl : decide ((i : Int) < (n : Int)) = true := decide_eq_true (by omega)
          have kl2 : decide (i < n) = true := decide_eq_true hlt
          have hil : i < ys.length := by rw [HYn.out]; exact hlt
          have HNr := hidd (HN.out.kept hX.grew)
          obtain ⟨ab, ao, y, rfl, hy, k0, k1, k2⟩ := HNr.out.cell i hil
          have hym : y ∈ ys := List.mem_of_getElem? hy
          have hyA : y.1 ∈ N.arrows := by rw [← HNr.out.arr]; exact List.mem_map.2 ⟨y, hym, rfl⟩
          have hyG : N.arrows[i]? = some y.1 := by rw [← HNr.out.arr, List.getElem?_map, hy]; rfl
          have hfr : y.1.fr < m := by rw [← HM.out]; exact (HOk.out _ hyA).1
          have hto : y.1.to < m := by rw [← HM.out]; exact (HOk.out _ hyA).2
          have hTl : T.length = m := by rw [hX.inv.1, HM.out]
          have gx : Grew wr (wr.alloc (.cells #[.int .i64 (y.1.fr : Nat), .int .i64 (y.1.to : Nat), byV y.2] 170)) := (Grew.refl wr).alloc _
          have c5 := hX.mem.at0 y.1.fr (by omega)
          have c6 := hX.mem.at0 y.1.to (by omega)
          have f6 := hX.mem.free0 y.1.to (by omega)
          have hql : q < wr.heap.size := hX.mem.lt (by omega)
          have kf : decide (y.1.fr < m) = true := decide_eq_true hfr
          have kt : decide (y.1.to < m) = true := decide_eq_true hto
          have stay : (y.1.bs = none → inB T y.1.fr = true → inB T y.1.to = true) → ClsW N S T0 w (wr.alloc (.cells #[.int .i64 (y.1.fr : Nat), .int .i64 (y.1.to : Nat), byV y.2] 170)) q ag (i + 1) T := fun hc =>
            ⟨hX.grew.trans gx, hX.mem.kept gx, hX.inv, by
              have h1 := hX.tell
              cases ag with
              | true => exact h1
              | false =>
                rw [if_neg (by decide)] at h1 ⊢
                refine ⟨h1.1, fun j a hj ha hb hf => ?_⟩
                by_cases e : j = i
                · subst e
                  rw [hyG] at ha
                  cases ha
                  exact hc hb hf
                · exact h1.2 j a (by omega) ha hb hf⟩
          have put : y.1.bs = none → inB T y.1.fr = true → inB T y.1.to = false → ClsW N S T0 w ((wr.setCell ⟨q, y.1.to, none⟩ (.bool true)).alloc (.cells #[.int .i64 (y.1.fr : Nat), .int .i64 (y.1.to : Nat), byV y.2] 170)) q true (i + 1) (putB T y.1.to) := fun hb hf ht =>
            ⟨(hX.grew.setCell (p := ⟨q, y.1.to, none⟩) HQ.out _).alloc _, ArrAt.kept (hX.mem.put (q := y.1.to) (by omega)) ((Grew.refl _).alloc _), hX.inv.put HOk.out hyA hb hf, by
              rw [if_pos rfl]
              have h2 := outsB_put (T := T) (q := y.1.to) (by omega) ht
              have hpl : (putB T y.1.to).length = T.length := onB_len _ _
              rw [hpl]
              have h1 := hX.tell
              cases ag with
              | true => rw [if_pos rfl] at h1; omega
              | false => rw [if_neg (by decide)] at h1; rw [← h1.1]; exact h2⟩
          have HSt := hidd stay
          have HPu := hidd put
          have hcs := bys_eps HNr.out hym
          clear KG hX HNr hym hyA hyG hTl gx stay put hy
          generalize y.1.bs = bs at hcs HSt HPu
          generalize y.2 = ob at hcs HSt HPu k2
          generalize y.1.fr = fr at *
          generalize y.1.to = tt at *
          rcases hcs with ⟨rfl, rfl⟩ | ⟨s1, b1, rfl, rfl⟩
          · unfold byV at k2 HSt HPu
            dsimp only at k2 HSt HPu
            cases hx : inB T fr with
            | false =>
              rw [hx] at c5
              have HN1 := hidd (HSt.out fun _ h => by rw [hx] at h; cases h)
              clear HSt HPu hx c6 f6
              go_wp2_with fail
              exact ⟨⟨ag, i + 1, rfl, by simp, by omega, _, HN1.out⟩, by simp [intOf]; omega⟩
            | true =>
              rw [hx] at c5
              cases ht : inB T tt with
              | true =>
                rw [ht] at c6
                have HN1 := hidd (HSt.out fun _ _ => ht)
                clear HSt HPu hx ht f6
                go_wp2_with fail
                exact ⟨⟨ag, i + 1, rfl, by simp, by omega, _, HN1.out⟩, by simp [intOf]; omega⟩
              | false =>
                rw [ht] at c6
                have HN1 := hidd (HPu.out rfl hx ht)
                clear HSt HPu hx ht
                go_wp2_with fail
                exact ⟨⟨true, i + 1, rfl, by simp, by omega, _, HN1.out⟩, by simp [intOf]; omega⟩
          · unfold byV at k2 HSt HPu
            dsimp only at k2 HSt HPu
            have HN1 := hidd (HSt.out fun h => by cases h)
            clear HSt HPu c5 c6 f6
            go_wp2_with fail
            exact ⟨⟨ag, i + 1, rfl, by simp, by omega, _, HN1.out⟩, by simp [intOf]; omega⟩
        · have hie : i = n := by omega
          have kl : decide ((i : Int) < (n : Int)) = false := decide_eq_false (by omega)
          have hTl : T.length = m := by rw [hX.inv.1, HM.out]
          have HT1 := hidd (outsB_eq hX.mem)
          rw [hTl] at HT1
          have hms : 2 * outsB (bOf wr q) m + agB (.bool ag) < 2 * z + agB (.bool true) := by
            rw [HT0.out, HT1.out]
            have h1 := hX.tell
            cases ag with
            | true => rw [if_pos rfl, hTl, HTl0.out] at h1; simp [agB]; omega
            | false => rw [if_neg (by decide)] at h1; rw [h1.1]; simp [agB]
          have HMs := hidd hms
          have HX := hidd hX
          have HR : Hid (∃ T, Grew w wr ∧ BoolsAt wr q T ∧ ClI N S T ∧ (ag = false → ClD N T n)) :=
            ⟨T, hX.grew, hX.mem, hX.inv, fun e => by have h1 := hX.tell; rw [e, if_neg (by decide), hie] at h1; exact h1.2⟩
          clear hX KG hms hTl HX
          go_wp2_with fail
          refine ⟨⟨ag, rfl, HR.out⟩, ?_⟩
          rw [HZ.out]
          exact HMs.out
    | false =>
      have HT := hidd (hIn.done HOk.out (by rw [← HLen.out, HYn.out]; exact hDo rfl))
      have HB := hidd hBo
      have HGr := hidd hGr
      clear KG hGr hBo hIn hDo
      go_wp2_with fail
      go_ret
      exact ⟨q, qc, rfl, HGr.out, HQ.out, by rw [← HT.out]; exact HB.out⟩
end Go.Proofs.YtkkdpafkafjfgaaDoor
