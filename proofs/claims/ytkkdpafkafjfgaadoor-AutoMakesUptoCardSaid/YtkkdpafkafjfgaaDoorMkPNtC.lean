/- Sets of places in memory; the document's key. -/
import Derived.Test.YtkkdpafkafjfgaaDoorMkNtG
import Derived.Test.YtkkdpafkafjfgaaDoorMkPNtQ
import Derived.Test.YtkkdpafkafjfgaaDoorMkPScInv
import Derived.StringKeys
namespace Go.Proofs.YtkkdpafkafjfgaaDoor
open Go.RowKit RR
set_option linter.unusedVariables false
set_option linter.unusedSimpArgs false
set_option maxRecDepth 100000
def BoolsAt (w : World) (b : Nat) (S : List Bool) : Prop := ArrAt w b 0 S.length (fun j => .bool (inB S j))
def keyL (S : List Bool) : List UInt8 := S.map fun x => if x then 1 else 0
def keyB (S : List Bool) : ByteArray := ⟨(keyL S).toArray⟩
theorem keyL_len (S : List Bool) : (keyL S).length = S.length := by unfold keyL; rw [List.length_map]
theorem keyL_get {S : List Bool} {j : Nat} (h : j < (keyL S).length) : (keyL S)[j] = if S[j]'(by rw [← keyL_len]; exact h) then 1 else 0 := by simp [keyL]
theorem keyL_inj : ∀ {S T : List Bool}, keyL S = keyL T → S = T
  | [], [], _ => rfl
  | [], b :: T, h => by cases h
  | a :: S, [], h => by cases h
  | a :: S, b :: T, h => by
    unfold keyL at h
    rw [List.map_cons, List.map_cons] at h
    injection h with h1 h2
    rw [keyL_inj (S := S) (T := T) h2]
    cases a <;> cases b <;> first | rfl | (exact absurd h1 (by decide))
theorem keyB_inj {S T : List Bool} (h : keyB S = keyB T) : S = T := by
  unfold keyB at h
  have h2 : (keyL S).toArray = (keyL T).toArray := by injection h
  exact keyL_inj (by simpa using h2)
theorem Key_any (S : List Bool) (b c : Nat) (w : World) (h : BoolsAt w b S) (hm : S.length ≤ 100000) :
    Calls Tryd.prog 72 #[.slice (some ⟨b, 0, none⟩) S.length c] w fun e w' => e = .returned (.string (keyB S)) ∧ Grew w w' := by
  obtain ⟨W, hmk, hA, hg⟩ := make_bytes S.length (by omega) w
  obtain ⟨q, hq⟩ : ∃ q, w.heap.size = q := ⟨_, rfl⟩
  have HB : Hid (BoolsAt W b S) := h.kept hg
  have hbq : 0 < S.length → b < q := fun h0 => by rw [← hq]; exact ArrAt.lt h h0
  have HBq := hidd hbq
  have HG := hidd hg
  rw [hq] at hA hmk
  have HA0 : Hid (ArrAt W q 0 S.length (fun j => .int .u8 (if j < 0 ∧ inB S j = true then 1 else 0))) := hA.congr fun j _ => by rw [if_neg (by omega)]
  obtain ⟨m, hm2⟩ : ∃ m, S.length = m := ⟨_, rfl⟩
  have HM := hidd hm2
  have HQ := hidd hq
  rw [hm2] at hmk HA0 hm HBq ⊢
  clear hA hg h hbq hm2
  go_enter Tryd.func72, Tryd.ntmps72
  go_wp2_with fail
  clear hmk
  go_loopw [11] (fun s11 wr => ∃ k : Nat, s11 = .int .i64 (k : Nat) ∧ k ≤ m ∧ Hid (Grew w wr ∧ BoolsAt wr b S ∧ ArrAt wr q 0 m (fun j => .int .u8 (if j < k ∧ inB S j = true then 1 else 0)))) (fun s11 _ => m - (intOf s11).toNat)
  case atStart => exact ⟨0, rfl, by omega, HG.out, HB.out, HA0.out⟩
  case round =>
    obtain ⟨k, rfl, hk, KG⟩ := hrel
    clear HA0 HB HG
    by_cases hlt : k < m
    · have kl : decide ((k : Int) < (m : Int)) = true := decide_eq_true (by omega)
      have kl2 : decide (k < m) = true := decide_eq_true hlt
      have c0 := KG.out.2.1.at0 k (by rw [HM.out]; exact hlt)
      cases hx : inB S k with
      | true =>
        rw [hx] at c0
        have c1 := KG.out.2.2.at0 k hlt
        rw [if_neg (fun h => Nat.lt_irrefl k h.1)] at c1
        have f1 := KG.out.2.2.free0 k hlt
        have hql : q < wr.heap.size := KG.out.2.2.lt (by omega)
        have hbl : b < q := HBq.out (by omega)
        have HX : Hid (Grew w (wr.setCell ⟨q, k, none⟩ (.int .u8 1)) ∧ BoolsAt (wr.setCell ⟨q, k, none⟩ (.int .u8 1)) b S ∧ ArrAt (wr.setCell ⟨q, k, none⟩ (.int .u8 1)) q 0 m (fun j => .int .u8 (if j < k + 1 ∧ inB S j = true then 1 else 0))) :=
          ⟨KG.out.1.setCell (p := ⟨q, k, none⟩) (Nat.le_of_eq HQ.out) _, ArrAt.other KG.out.2.1 ⟨q, k, none⟩ (by show q ≠ b; omega) _, (KG.out.2.2.set0 k hlt _).congr fun j _ => by
            by_cases e : j = k
            · rw [if_pos e, if_pos ⟨by omega, by rw [e]; exact hx⟩]
            · rw [if_neg e]
              by_cases e2 : j < k ∧ inB S j = true
              · rw [if_pos e2, if_pos ⟨by omega, e2.2⟩]
              · rw [if_neg e2, if_neg (fun h => e2 ⟨by omega, h.2⟩)]⟩
        clear KG hx hbl
        go_wp2_with fail
        exact ⟨⟨k + 1, by simp, by omega, HX.out⟩, by simp [intOf]; omega⟩
      | false =>
        rw [hx] at c0
        have HX : Hid (Grew w wr ∧ BoolsAt wr b S ∧ ArrAt wr q 0 m (fun j => .int .u8 (if j < k + 1 ∧ inB S j = true then 1 else 0))) :=
          ⟨KG.out.1, KG.out.2.1, KG.out.2.2.congr fun j _ => by
            by_cases e2 : j < k ∧ inB S j = true
            · rw [if_pos e2, if_pos ⟨by omega, e2.2⟩]
            · rw [if_neg e2, if_neg (fun h => e2 ⟨by have : j ≠ k := (fun e => by rw [e, hx] at h; exact absurd h.2 (by decide)); omega, h.2⟩)]⟩
        clear KG hx
        go_wp2_with fail
        exact ⟨⟨k + 1, by simp, by omega, HX.out⟩, by simp [intOf]; omega⟩
    · have hie : k = m := by omega
      have kl : decide ((k : Int) < (m : Int)) = false := decide_eq_false (by omega)
      have hcv := string_arr (w := wr) (b := q) (off := 0) (keyL S) ((keyL_len S).trans HM.out) _ KG.out.2.2 (fun j hj => by
        have hj2 : j < S.length := by rw [← keyL_len]; exact hj
        have hj3 : j < k := by rw [hie, ← HM.out]; exact hj2
        have e : inB S j = S[j] := by unfold inB; rw [List.getD_eq_getElem?_getD, List.getElem?_eq_getElem hj2]; rfl
        rw [keyL_get, e]
        cases S[j] with
        | true => rw [if_pos ⟨hj3, rfl⟩]; rfl
        | false => rw [if_neg (fun h => by cases h.2)]; rfl) m
      have HGr := hidd KG.out.1
      have hks : (⟨(keyL S).toArray⟩ : ByteArray) = keyB S := rfl
      rw [hks] at hcv
      clear KG hks
      go_wp2_with fail
      go_ret
      exact ⟨rfl, HGr.out⟩
end Go.Proofs.YtkkdpafkafjfgaaDoor

namespace Go.Proofs.YtkkdpafkafjfgaaDoor
open Go.RowKit RR
set_option linter.unusedVariables false
set_option linter.unusedSimpArgs false
set_option maxRecDepth 100000
def txtC (l : List Nat) : ByteArray := ⟨((l.map numT).flatten).toArray⟩
theorem numT_len {x : Nat} (h : x ≤ 8192) : (numT x).length ≤ 8194 := by
  unfold numT
  rw [List.length_append]
  have := decDigits_le x
  simp; omega
theorem flat_len : ∀ {l : List Nat}, (∀ x ∈ l, x ≤ 8192) → ((l.map numT).flatten).length ≤ l.length * 8194
  | [], _ => Nat.le_refl _
  | x :: l, h => by
    rw [List.map_cons, List.flatten_cons, List.length_append, List.length_cons, Nat.add_mul]
    have h1 := numT_len (h x (List.mem_cons_self ..))
    have h2 := flat_len (l := l) fun y hy => h y (List.mem_cons_of_mem _ hy)
    omega
def encT (n : Nat) : Enc Tryd.prog 9 (List Nat) where
  enc l := .string (txtC l)
  D l := l.length = n ∧ (txtC l).size ≤ maxLen
  key l h := ⟨_, Go.WideMaps.keyOf_string_mk Tryd.underlying9 h.2⟩
  inj x y hx hy h := by
    injection h with h
    unfold txtC at h
    injection h with h
    have := congrArg Array.toList h
    exact nums_inj (hx.1.trans hy.1.symm) this
theorem keyT : Maps.Keyed Tryd.prog 9 := Maps.string_keyed Tryd.underlying9
theorem colA_dom {C : RA} (ok : C.Ok) (h8 : C.n ≤ 8192) {c : Nat} (hc : c < 256) : (encT C.n).D (colA C c) := by
  show (colA C c).length = C.n ∧ (txtC (colA C c)).size ≤ maxLen
  refine ⟨by unfold colA; simp, ?_⟩
  have h1 := flat_len (l := colA C c) fun x hx => by
    obtain ⟨s, hs, rfl⟩ := List.mem_map.1 hx
    have := ok.nx s c (List.mem_range.1 hs) hc
    omega
  have h2 : (txtC (colA C c)).size = ((colA C c).map numT).flatten.length := rfl
  have h3 : (colA C c).length = C.n := by unfold colA; simp
  rw [h3] at h1
  have h4 : C.n * 8194 ≤ 8192 * 8194 := Nat.mul_le_mul_right _ h8
  unfold maxLen
  omega
def clG (cls : Nat → Int) (nv ev : Value) (j : Nat) : Value := if j < 256 then .int .i64 (cls j) else if j = 256 then nv else ev
structure ColS (W w4 wr : World) (ab cm : Nat) (ev : Value) (C : RA) (c : Nat) (fv : Value) : Prop where
  grew : Grew W wr
  keep : ∀ k, k < w4.heap.size → k ≠ ab → wr.heap[k]? = w4.heap[k]?
  size : w4.heap.size ≤ wr.heap.size
  arr : ArrAt wr ab 0 258 (clG (fun j => if j < c then (numb (colA C) 256 j : Nat) else 0) (.slice none 0 0) ev)
  map : KMap (encT C.n) wr cm (numL (upN (colA C) c))
  row : QRow wr w4.heap.size 3 1 fv (fsts (colA C) c).length ((fsts (colA C) c).map fun x => .int .i64 (x : Nat))
  own : ∀ k, fv.ownBlock = some k → w4.heap.size ≤ k ∧ k < wr.heap.size ∧ k ≠ cm
  lo : W.heap.size ≤ ab ∧ ab < w4.heap.size ∧ w4.heap.size ≤ cm
  big : W.heap.size ≤ w4.heap.size
section
variable {W w4 wr w' : World} {ab cm : Nat} {ev : Value} {C : RA} {c : Nat} {fv : Value}
theorem ColS.kept (h : ColS W w4 wr ab cm ev C c fv) (g : Grew wr w') : ColS W w4 w' ab cm ev C c fv :=
  ⟨h.grew.trans g, fun k hk hne => (g.block k (Nat.lt_of_lt_of_le hk h.size)).trans (h.keep k hk hne), Nat.le_trans h.size g.size, h.arr.kept g, h.map.kept g, h.row.grew g, fun k hk => by obtain ⟨a, b, c⟩ := h.own k hk; exact ⟨a, Nat.lt_of_lt_of_le b g.size, c⟩, h.lo, h.big⟩
theorem clG_next {f : Nat → Nat} {c x : Nat} (hc : c < 256) (hx : f c = x) (nv ev : Value) (j : Nat) : (if j = c then Value.int .i64 (x : Nat) else clG (fun j => if j < c then (f j : Nat) else 0) nv ev j) = clG (fun j => if j < c + 1 then (f j : Nat) else 0) nv ev j := by
  unfold clG
  dsimp only
  by_cases e : j = c
  · subst e; rw [if_pos rfl, if_pos hc, if_pos (Nat.lt_succ_self j), hx]
  · rw [if_neg e]
    by_cases h1 : j < 256
    · rw [if_pos h1, if_pos h1]
      by_cases h2 : j < c
      · rw [if_pos h2, if_pos (by omega)]
      · rw [if_neg h2, if_neg (by omega)]
    · rw [if_neg h1, if_neg h1]
theorem fsts_mem_upN {f : Nat → List Nat} {c : Nat} : fsts f (c + 1) = if f c ∈ upN f c then fsts f c else fsts f c ++ [c] := by
  rw [fsts]
  by_cases h : f c ∈ (List.range c).map f
  · have h2 : f c ∈ upN f c := mem_uniq.2 h
    rw [if_pos h, if_pos h2]
  · have h2 : f c ∉ upN f c := fun k => h (mem_uniq.1 k)
    rw [if_neg h, if_neg h2]
theorem ColS.old (h : ColS W w4 wr ab cm ev C c fv) (hc : c < 256) (hq : colA C c ∈ upN (colA C) c) {x : Nat} (hx : numb (colA C) 256 c = x) : ColS W w4 (wr.setCell ⟨ab, c, none⟩ (.int .i64 (x : Nat))) ab cm ev C (c + 1) fv := by
  have hsz : (wr.setCell ⟨ab, c, none⟩ (.int .i64 (x : Nat))).heap.size = wr.heap.size := by simp [World.setCell]
  have hlo := h.lo
  refine ⟨h.grew.setCell (p := ⟨ab, c, none⟩) hlo.1 _, fun k hk hne => (q_set_other _ _ (Ne.symm hne)).trans (h.keep k hk hne), by rw [hsz]; exact h.size, (h.arr.set0 c (by omega) _).congr fun j _ => clG_next hc hx _ _ j, ?_, ?_, fun k hk => by rw [hsz]; exact h.own k hk, hlo, h.big⟩
  · rw [upN_old hq]; exact h.map.other ⟨ab, c, none⟩ (by show ab ≠ cm; omega) _
  · rw [fsts_mem_upN, if_pos hq]
    exact h.row.kept fun k hk _ => q_set_other _ _ (by have := (h.own k hk).1; omega)
theorem ColS.fresh (h : ColS W w4 wr ab cm ev C c fv) (ok : C.Ok) (h8 : C.n ≤ 8192) (hc : c < 256) (hq : colA C c ∉ upN (colA C) c) (ty : TypeId) :
    ∃ w6, (Instr.mapUpdate 164 (.map (some cm)) (.string (txtC (colA C c))) (.int .i64 ((upN (colA C) c).length : Nat))).run Tryd.prog wr = .ok () w6 ∧ w6.heap.size = wr.heap.size ∧
      ∃ v' w7, (Builtin.append_ #[37, 37] ty #[fv, .slice (some ⟨wr.heap.size, 0, none⟩) 1 1]).run Tryd.prog (w6.alloc (.cells #[.int .i64 (c : Nat)] 3)) = .ok v' w7 ∧ (∃ a cp, v' = .slice a ((fsts (colA C) c).length + 1) cp) ∧
        (Instr.lookup 164 (.map (some cm)) (.string (txtC (colA C c))) false).run Tryd.prog w7 = .ok (.int .i64 ((upN (colA C) c).length : Nat)) w7 ∧
        w7.cell? ⟨ab, c, none⟩ = some (.int .i64 0) ∧ w7.frozen? ⟨ab, c, none⟩ = false ∧
        ColS W w4 (w7.setCell ⟨ab, c, none⟩ (.int .i64 ((upN (colA C) c).length : Nat))) ab cm ev C (c + 1) v' := by
  have hD := colA_dom ok h8 hc
  obtain ⟨w6, hput, hK6, hg6, hs6⟩ := h.map.put keyT (t := 164) Tryd.underlying164 (x := colA C c) hD (by rw [numL_fst]; exact hq) (.int .i64 ((upN (colA C) c).length : Nat))
  rw [← numL_snoc, ← upN_new hq] at hK6
  have hlo := h.lo
  have hbig := h.big
  have hsz := h.size
  have hk6 : ∀ k, k < wr.heap.size → k ≠ cm → w6.heap[k]? = wr.heap[k]? := fun k h1 h2 => hg6.block k h1 (fun e => by injection e with e; omega)
  have hcm := h.map.lt
  obtain ⟨i0, hi0, hz0, hz1, hz2⟩ := intsI
  have hfl := fsts_le (colA C) c
  have hrow1 : QRow w6 w4.heap.size 3 1 fv (fsts (colA C) c).length ((fsts (colA C) c).map fun x => .int .i64 (x : Nat)) := h.row.kept fun k hk hlt => hk6 k hlt (h.own k hk).2.2
  have hrow2 := hrow1.grew ((Grew.refl w6).alloc (.cells #[.int .i64 (c : Nat)] 3))
  obtain ⟨v', w7, a1, a2, a3, a4⟩ := QRow.append (P := Tryd.prog) (t := 37) Tryd.underlying37 hi0 hz0 hz1 hz2 rfl hrow2 (by rw [World.size_alloc]; omega) wr.heap.size 1 [.int .i64 (c : Nat)] rfl (fun j u hu => by
    unfold World.cell?
    dsimp only
    rw [← hs6, heap_alloc_new w6 _]
    cases j with
    | zero => simpa using hu
    | succ j => simp at hu) (fun u hu => by rw [List.mem_singleton] at hu; rw [hu]; rfl) (by unfold maxLen; omega) (by omega) ty
  have hs7 := a3.size
  rw [World.size_alloc] at hs7
  have hk7 : ∀ k, k < wr.heap.size → k ≠ cm → fv.ownBlock ≠ some k → w7.heap[k]? = wr.heap[k]? := fun k h1 h2 h3 => by
    rw [a3.block k (by rw [World.size_alloc]; omega) (Ne.symm h3), heap_alloc_old _ _ (by omega)]
    exact hk6 k h1 h2
  have hfm : fv.ownBlock ≠ some cm := fun e => (h.own cm e).2.2 rfl
  have hm7 : w7.heap[cm]? = w6.heap[cm]? := by rw [a3.block cm (by rw [World.size_alloc]; omega) (Ne.symm hfm), heap_alloc_old _ _ (by omega)]
  have hK7 := hK6.block hm7
  have hfa : fv.ownBlock ≠ some ab := fun e => by have := (h.own ab e).1; omega
  have hab7 := hk7 ab (by omega) (by omega) hfa
  have hA7 := arr_block h.arr hab7
  have hnew : ∀ k, v'.ownBlock = some k → w4.heap.size ≤ k ∧ k < w7.heap.size ∧ k ≠ cm := fun k hk => by
    rcases a4 with e | e
    · rw [e] at hk
      obtain ⟨p1, p2, p3⟩ := h.own k hk
      exact ⟨p1, by omega, p3⟩
    · rw [e] at hk; cases hk
      obtain ⟨b', _, _, e2, _, hlt, _⟩ := a2.at (by omega)
      rw [e2] at e; cases e
      exact ⟨by rw [World.size_alloc]; omega, hlt, by rw [World.size_alloc]; omega⟩
  have hgW6 : Grew W w6 := grew_grown h.grew hg6 fun b e => by injection e with e; omega
  have hgW7 : Grew W w7 := grew_grown (hgW6.alloc _) a3 fun b e => by have := (h.own b e).1; omega
  have hmem : colA C c ∈ upN (colA C) (c + 1) := by rw [upN_new hq]; exact List.mem_append_right _ (List.mem_singleton.2 rfl)
  have hlF := hK7.lookS keyT (t := 164) Tryd.underlying164 (numL_mem hmem) false
  have hix : @List.idxOf (List Nat) instBEqOfDecidableEq (colA C c) (upN (colA C) (c + 1)) = (upN (colA C) c).length := by rw [upN_new hq]; exact idx_new hq
  rw [hix] at hlF
  have c0 := hA7.at0 c (by omega)
  have c1 : clG (fun j => if j < c then (numb (colA C) 256 j : Nat) else 0) (.slice none 0 0) ev c = .int .i64 0 := by unfold clG; dsimp only; rw [if_pos hc, if_neg (Nat.lt_irrefl c)]
  rw [c1] at c0
  have hszc : ∀ v, (w7.setCell ⟨ab, c, none⟩ v).heap.size = w7.heap.size := fun v => by simp [World.setCell]
  refine ⟨w6, hput, hs6, v', w7, a1, ?_, hlF, c0, hA7.free0 c (by omega), hgW7.setCell (p := ⟨ab, c, none⟩) hlo.1 _, fun k hk hne => ?_, by rw [hszc]; omega, (hA7.set0 c (by omega) _).congr fun j _ => clG_next hc (numb_new hc hq) _ _ j, hK7.other ⟨ab, c, none⟩ (by show ab ≠ cm; omega) _, ?_, fun k hk => by rw [hszc]; exact hnew k hk, hlo, hbig⟩
  · obtain ⟨_, a, cp, e, _⟩ := a2; exact ⟨a, cp, e⟩
  · rw [q_set_other _ _ (Ne.symm hne), hk7 k (by omega) (by omega) (fun e => by have := (h.own k e).1; omega)]
    exact h.keep k hk hne
  · rw [fsts_mem_upN, if_neg hq, List.length_append, List.map_append]
    exact a2.kept fun k hk _ => q_set_other _ _ (by have := (hnew k hk).1; omega)
end
end Go.Proofs.YtkkdpafkafjfgaaDoor
