/- Smallest: its closure: a state's number, given when it is come to. -/
import Derived.Test.YtkkdpafkafjfgaaDoorMkPScNo
import Derived.Test.YtkkdpafkafjfgaaDoorMkAuSm
import Derived.Test.YtkkdpafkafjfgaaDoorMkPScInv
import Derived.Deep.DeepCutAuto
namespace Go.Proofs.YtkkdpafkafjfgaaDoor
open Go.RowKit RR
set_option linter.unusedVariables false
set_option linter.unusedSimpArgs false
set_option maxRecDepth 100000
section
variable {P : Program} {ops : Array Oper} {Q : Exit → Act → World → Prop} {shs : List Sh} {a0 : Act} {w0 : World} {A : Array Edge} {i : Nat} {d : Option Tmp} {op : Op} {ty : TypeId} {pos : String} {G : Option (Nat × Bool)}
theorem sg_look {t : TypeId} {b : Nat} {key z : Value} {c : Bool} (hrun : ∀ w, Grew w0 w → (Instr.lookup t (.map (some b)) key c).run P w = .ok z w) {x y : Operand} (hg : guardIs ops shs A G = some true) (hx : opSh ops shs A a0 x = .val (.map (some b))) (hy : opSh ops shs A a0 y = .val key) (hs : shs.getD i (.fact fun _ _ => True) = .val z) :
    StepOk Grew P ops Q (shF shs) a0 w0 i ⟨d, .lookup t x y c, ty, pos, A, G⟩ :=
  sg_pure (fun a w E => by
    have hv : a.eval x = .map (some b) := E.opv hx
    have hw : a.eval y = key := E.opv hy
    unfold execOp
    simp [hv, hw, hrun w E.grew]) hg hs
theorem sg_ext {k : Nat} {cs : Array Value} {z : Value} (hk : ∀ w, (Instr.extract (.tuple cs) k).run P w = .ok z w) {x : Operand} (hg : guardIs ops shs A G = some true) (hx : opSh ops shs A a0 x = .val (.tuple cs)) (hs : shs.getD i (.fact fun _ _ => True) = .val z) :
    StepOk Grew P ops Q (shF shs) a0 w0 i ⟨d, .extract x k, ty, pos, A, G⟩ :=
  sg_pure (fun a w E => by
    have hv : a.eval x = .tuple cs := E.opv hx
    unfold execOp
    simp [hv, hk w]) hg hs
end
section
variable {P : Program} {wb w0 : World} {g : Nat} {Fin : World → Prop} {mk : List Nat} {is : Nat} {ops : Array Oper} {Q : Exit → Act → World → Prop} {shs : List Sh} {a0 : Act} {A : Array Edge} {i : Nat} {d : Option Tmp} {op : Op} {ty : TypeId} {pos : String} {G : Option (Nat × Bool)}
theorem hj_len {t : TypeId} {p : Option Addr} {n c : Nat} {x : Operand} (ht : P.underlying t = some (.slice (P.elem t))) (hi : i ∈ mk) (his : i ≠ is) (hg : guardIs ops shs A G = some true) (hx : opSh ops shs A a0 x = .val (.slice p n c)) (hs : shs.getD i (.fact fun _ _ => True) = .val (.int .i64 (n : Nat))) :
    StepJ (StJ wb Fin mk is) (NoRl g) P ops Q (shF shs) a0 w0 i ⟨d, .call { callee := .builtin .len, args := #[x], argTypes := #[t] }, ty, pos, A, G⟩ :=
  hj_pure hi his (fun a w h E => by
    have hv : a.eval x = .slice p n c := E.opv hx
    unfold execOp
    simp [resolve, invoke, builtin, hv, goInt, run_len_slice w t ty p n c ht]) hg hs
theorem hj_mapu {t : TypeId} {x y z : Operand} (hdm : ∀ j ∈ mk, onDep A j = true) (hisz : is < ops.size)
    (hr : ∀ a w, Grew wb w → RR.Env (NoRl g) ops shs a0 w0 A a w → ∃ w', (Instr.mapUpdate t (a.eval x) (a.eval y) (a.eval z)).run P w = .ok () w' ∧ NoRl g w w' ∧ Fin w')
    (hmk : is ∉ mk) (hg : guardIs ops shs A G = some true) (hs : shs.getD is (.fact fun _ _ => True) = .fact fun _ _ => True) :
    StepJ (StJ wb Fin mk is) (NoRl g) P ops Q (shF shs) a0 w0 is ⟨none, .mapUpdate t x y z, ty, pos, A, G⟩ := by
  intro listed a w hls hlf hdep hsz hJ hw hsm hdp K hK
  have E : RR.Env (NoRl g) ops shs a0 w0 A a w := ⟨hw, hsm, hdp⟩
  rw [if_pos (E.guard hg)]
  obtain ⟨w', hrun, hrl, hfin⟩ := hr a w (hJ.p0 hlf) E
  have es : (listed.setIfInBounds is true).getD is false = true := lset_here (by rw [hls]; exact hisz)
  have := hK undef w' hrl (by unfold shF; rw [hs]; trivial) ⟨fun _ j hj => lset_true (onDep_listed (hdm j hj) hdep), fun k => (by rw [es] at k; cases k), fun _ => hfin⟩
  unfold Oper.wp execOp
  simp only [hrun, Sem.run_bind, Sem.run_pure, Result.andThen_ok]
  exact this
end
structure See (W wr : World) (nb ob mb gb q n : Nat) (g : Nat → Nat) (ord : List Nat) (lv : Value) : Prop where
  spl : Spl W wr gb q n g
  num : wr.heap[nb]? = some (.cells #[.map (some mb)] 152 (0, 0))
  map : KMap encI wr mb (numL (ord.map g))
  ordb : wr.heap[ob]? = some (.cells #[lv] 37 (0, 0))
  row : QRow wr W.heap.size 3 1 lv ord.length (ord.map fun x => .int .i64 (x : Nat))
  lo : W.heap.size ≤ nb ∧ W.heap.size ≤ ob ∧ W.heap.size ≤ mb
  ne : ob ≠ nb ∧ ob ≠ gb ∧ ob ≠ q ∧ mb ≠ nb ∧ mb ≠ gb ∧ mb ≠ q ∧ mb ≠ ob
  own : ∀ k, lv.ownBlock = some k → W.heap.size ≤ k ∧ k < wr.heap.size ∧ k ≠ nb ∧ k ≠ ob ∧ k ≠ gb ∧ k ≠ q ∧ k ≠ mb
section
variable {W wr w' : World} {nb ob mb gb q n : Nat} {g : Nat → Nat} {ord : List Nat} {lv : Value}
theorem See.kept (h : See W wr nb ob mb gb q n g ord lv) (k : Grew wr w') : See W w' nb ob mb gb q n g ord lv :=
  ⟨h.spl.kept k, heap_kept k h.num, h.map.kept k, heap_kept k h.ordb, h.row.grew k, h.lo, h.ne, fun j hj => by obtain ⟨a, b, c⟩ := h.own j hj; exact ⟨a, Nat.lt_of_lt_of_le b k.size, c⟩⟩
end
theorem agg_mapii (w : World) : (isAgg 152).run Tryd.prog w = .ok false w := run_isAgg Tryd.underlying152 w
theorem c0_of {w : World} {b : Nat} {v : Value} {t : TypeId} (h : w.heap[b]? = some (.cells #[v] t (0, 0))) : w.cell? ⟨b, 0, none⟩ = some v := by unfold World.cell?; dsimp only; rw [h]; rfl
theorem f0_of {w : World} {b : Nat} {v : Value} {t : TypeId} (h : w.heap[b]? = some (.cells #[v] t (0, 0))) : w.frozen? ⟨b, 0, none⟩ = false := by unfold World.frozen?; dsimp only; rw [h]; simp
def Came (wr w' : World) (mb ob : Nat) (lv lv' : Value) : Prop := wr.heap.size ≤ w'.heap.size ∧ (∀ k, k < wr.heap.size → k ≠ mb → k ≠ ob → lv.ownBlock ≠ some k → w'.heap[k]? = wr.heap[k]?) ∧ ∀ k, lv'.ownBlock = some k → lv.ownBlock = some k ∨ wr.heap.size ≤ k
theorem See.push {W wr w5 : World} {nb ob mb gb q n : Nat} {g : Nat → Nat} {ord : List Nat} {lv : Value} (h : See W wr nb ob mb gb q n g ord lv) {s : Nat} (hp : 0 < n) (hl : ord.length ≤ 9000) (hG : Grew W w5) (hs5 : wr.heap.size ≤ w5.heap.size) (hk5 : ∀ k, k < wr.heap.size → k ≠ mb → w5.heap[k]? = wr.heap[k]?) (hm : KMap encI w5 mb (numL ((ord ++ [s]).map g))) (ty : TypeId) :
    ∃ v' w7, (Builtin.append_ #[37, 37] ty #[lv, .slice (some ⟨w5.heap.size, 0, none⟩) 1 1]).run Tryd.prog (w5.alloc (.cells #[.int .i64 (s : Nat)] 3)) = .ok v' w7 ∧ (∃ a cp, v' = .slice a (ord.length + 1) cp) ∧ w7.heap[ob]? = some (.cells #[lv] 37 (0, 0)) ∧
      See W (w7.setCell ⟨ob, 0, none⟩ v') nb ob mb gb q n g (ord ++ [s]) v' ∧ Came wr (w7.setCell ⟨ob, 0, none⟩ v') mb ob lv v' := by
  obtain ⟨n1, n2, n3, n4, n5, n6, n7⟩ := h.ne
  have hob := (Array.getElem?_eq_some_iff.1 h.ordb).1
  have hnb := (Array.getElem?_eq_some_iff.1 h.num).1
  have hgb := h.spl.blt
  obtain ⟨i0, hi0, hz0, hz1, hz2⟩ := intsI
  have hrow1 : QRow w5 W.heap.size 3 1 lv ord.length (ord.map fun x => .int .i64 (x : Nat)) := h.row.kept fun k hk hlt => hk5 k hlt (h.own k hk).2.2.2.2.2.2
  have hrow2 := hrow1.grew ((Grew.refl w5).alloc (.cells #[.int .i64 (s : Nat)] 3))
  obtain ⟨v', w7, a1, a2, a3, a4⟩ := QRow.append (P := Tryd.prog) (t := 37) Tryd.underlying37 hi0 hz0 hz1 hz2 rfl hrow2 (by rw [World.size_alloc]; have := hG.size; omega) w5.heap.size 1 [.int .i64 (s : Nat)] rfl (fun j u hu => by
    unfold World.cell?
    dsimp only
    rw [heap_alloc_new _ _]
    cases j with
    | zero => simpa using hu
    | succ j => simp at hu) (fun u hu => by rw [List.mem_singleton] at hu; rw [hu]; rfl) (by unfold maxLen; omega) (by omega) ty
  have hs7 := a3.size
  rw [World.size_alloc] at hs7
  have hk7 : ∀ k, k < w5.heap.size → lv.ownBlock ≠ some k → w7.heap[k]? = w5.heap[k]? := fun k h1 h2 => by
    rw [a3.block k (by rw [World.size_alloc]; omega) (Ne.symm h2), heap_alloc_old _ _ h1]
  have hsz : ∀ v, (w7.setCell ⟨ob, 0, none⟩ v).heap.size = w7.heap.size := fun v => by simp [World.setCell]
  have hkA : ∀ k v, k < w5.heap.size → lv.ownBlock ≠ some k → k ≠ ob → (w7.setCell ⟨ob, 0, none⟩ v).heap[k]? = w5.heap[k]? := fun k v h1 h2 h3 => by
    rw [q_set_other _ _ (Ne.symm h3)]; exact hk7 k h1 h2
  have hown : ∀ k, lv.ownBlock = some k → W.heap.size ≤ k := fun k hk => (h.own k hk).1
  have hnew : ∀ k, v'.ownBlock = some k → (lv.ownBlock = some k ∨ wr.heap.size ≤ k) ∧ W.heap.size ≤ k ∧ k < w7.heap.size ∧ k ≠ nb ∧ k ≠ ob ∧ k ≠ gb ∧ k ≠ q ∧ k ≠ mb := fun k hk => by
    have hml := h.map.lt
    have hql : 0 < n → q < wr.heap.size := fun hp => h.spl.arr.lt hp
    rcases a4 with e | e
    · rw [e] at hk
      obtain ⟨p1, p2, p3⟩ := h.own k hk
      exact ⟨Or.inl hk, p1, by omega, p3⟩
    · rw [e] at hk; cases hk
      obtain ⟨b', _, _, e2, hb1, hlt, _⟩ := a2.at (by omega)
      rw [e2] at e; cases e
      have hqs := h.spl.lo.2.1
      refine ⟨Or.inr (by rw [World.size_alloc]; omega), hb1, hlt, ?_, ?_, ?_, ?_, ?_⟩
      · rw [World.size_alloc]; omega
      · rw [World.size_alloc]; omega
      · rw [World.size_alloc]; omega
      · intro e3
        have := hql hp
        rw [World.size_alloc] at e3; omega
      · rw [World.size_alloc]; omega
  have hlob : lv.ownBlock ≠ some ob := fun e => (h.own ob e).2.2.2.1 rfl
  have hlnb : lv.ownBlock ≠ some nb := fun e => (h.own nb e).2.2.1 rfl
  have hlgb : lv.ownBlock ≠ some gb := fun e => (h.own gb e).2.2.2.2.1 rfl
  have hlq : lv.ownBlock ≠ some q := fun e => (h.own q e).2.2.2.2.2.1 rfl
  have hlm : lv.ownBlock ≠ some mb := fun e => (h.own mb e).2.2.2.2.2.2 rfl
  have ho7 : w7.heap[ob]? = some (.cells #[lv] 37 (0, 0)) := by rw [hk7 ob (by omega) hlob, hk5 ob hob (Ne.symm n7)]; exact h.ordb
  have hG7 : Grew W w7 := grew_grown (hG.alloc _) a3 fun b e => hown b e
  have hbw : ∀ k, k < wr.heap.size → k ≠ mb → k ≠ ob → lv.ownBlock ≠ some k → (w7.setCell ⟨ob, 0, none⟩ v').heap[k]? = wr.heap[k]? := fun k h1 h2 h3 h4 => (hkA k v' (by omega) h4 h3).trans (hk5 k h1 h2)
  have hW := h.spl.grew.size
  refine ⟨v', w7, a1, ?_, ho7, ⟨⟨hG7.setCell (p := ⟨ob, 0, none⟩) h.lo.2.1 _, ?_, ?_, h.spl.lo⟩, ?_, ?_, ?_, ?_, h.lo, h.ne, fun k hk => ?_⟩, by rw [hsz]; omega, hbw, fun k hk => (hnew k hk).1⟩
  · obtain ⟨_, a, cp, e, _⟩ := a2; exact ⟨a, cp, e⟩
  · rw [hbw gb hgb (Ne.symm n5) (Ne.symm n2) hlgb]; exact h.spl.box
  · intro j hj
    have hql := h.spl.arr.lt (show 0 < n by omega)
    exact arr_block h.spl.arr (hbw q hql (Ne.symm n6) (Ne.symm n3) hlq) j hj
  · rw [hbw nb hnb (Ne.symm n4) (Ne.symm n1) hlnb]; exact h.num
  · exact hm.block (hkA mb v' (hm.lt) hlm n7)
  · exact q_set_same ho7 0 v'
  · have e : (ord ++ [s]).length = ord.length + 1 := by simp
    rw [e, List.map_append]
    exact a2.kept fun k hk hlt => q_set_other _ _ (Ne.symm (hnew k hk).2.2.2.2.1)
  · obtain ⟨_, p1, p2, p3⟩ := hnew k hk
    exact ⟨p1, by rw [hsz]; exact p2, p3⟩
set_option maxHeartbeats 4000000 in
theorem See_any {W wr : World} {nb ob mb gb q n : Nat} {g : Nat → Nat} {ord : List Nat} {lv : Value} (h : See W wr nb ob mb gb q n g ord lv) {s : Nat} (hs : s < n) (h8 : n ≤ 8192) (hg9 : ∀ i, i < n → g i ≤ 8192) (hl : ord.length ≤ 8192) :
    Calls Tryd.prog 69 #[.int .i64 (s : Nat), .pointer (some ⟨nb, 0, none⟩), .pointer (some ⟨gb, 0, none⟩), .pointer (some ⟨ob, 0, none⟩)] wr fun e w' =>
      (g s ∈ ord.map g ∧ e = .returned (.int .i64 ((ord.map g).idxOf (g s) : Nat)) ∧ Grew wr w') ∨
      (g s ∉ ord.map g ∧ e = .returned (.int .i64 (ord.length : Nat)) ∧ ∃ lv', See W w' nb ob mb gb q n g (ord ++ [s]) lv' ∧ Came wr w' mb ob lv lv') := by
  have HS := hidd h
  have a1 := c0_of h.num
  have a2 := h.spl.cell
  have a3 := h.spl.arr.at s hs
  obtain ⟨x, hx⟩ : ∃ x, g s = x := ⟨_, rfl⟩
  have hx9 : x ≤ 8192 := by rw [← hx]; exact hg9 s hs
  rw [hx] at a3
  have HX := hidd hx
  have HG9 := hidd hg9
  have hD : encI.D x := by show x ≤ 9223372036854775807; omega
  rw [hx]
  clear h hx hg9
  go_enter Tryd.func69, Tryd.ntmps69
  go_upto_region 1 with fail
  by_cases hq : x ∈ ord.map g
  · obtain ⟨k, hk⟩ : ∃ k, (ord.map g).idxOf x = k := ⟨_, rfl⟩
    have hlk : ∀ c w, Grew wr w → (Instr.lookup 152 (.map (some mb)) (.int .i64 (x : Nat)) c).run Tryd.prog w = .ok (if c = true then .tuple #[.int .i64 (k : Nat), .bool true] else .int .i64 (k : Nat)) w := fun c w gw => by
      have := (HS.out.map.kept gw).lookS keyI (t := 152) Tryd.underlying152 (numL_mem hq) c
      have e : @List.idxOf Nat instBEqOfDecidableEq x (ord.map g) = k := hk
      rw [e] at this; exact this
    refine frameR [9, 10, 11, 12, 13, 14, 8, 15, 16, 6, 7] mixed drew_grew grew_tr
      [.val (.map (some mb)), .val (.slice (some ⟨q, 0, none⟩) n n), .val (.int .i64 (s : Nat)), .val (.pointer (some ⟨q, 0 + s, none⟩)), .val (.int .i64 (x : Nat)), .val (.tuple #[.int .i64 (k : Nat), .bool true]), .val (.tuple #[.int .i64 (k : Nat), .bool true]), .val (.int .i64 (k : Nat)), .val (.bool true), .val (.int .i64 (k : Nat)), .val (.bool true)]
      (vals_mono (by simp)) (by kernel_rfl) (by kernel_rfl)
      ⟨sg_load (p := ⟨nb, 0, none⟩) (fun wx g => load_one agg_mapii (g.keeps a1)) (by kernel_rfl) rfl rfl, sg_load (p := ⟨gb, 0, none⟩) (fun wx g => load_one agg_ints (g.keeps a2)) (by kernel_rfl) rfl rfl,
       st_move Grew.refl (by kernel_rfl) rfl, sg_index (idx_ints hs) (by kernel_rfl) rfl rfl rfl, sg_load (p := ⟨q, 0 + s, none⟩) (fun wx g => load_one agg_int (g.keeps a3)) (by kernel_rfl) rfl rfl,
       sg_look (fun wx g => hlk true wx g) (by kernel_rfl) rfl rfl rfl, st_move Grew.refl (by kernel_rfl) rfl, sg_ext (fun w => by kernel_rfl) (by kernel_rfl) rfl rfl, sg_ext (fun w => by kernel_rfl) (by kernel_rfl) rfl rfl,
       st_assign Grew.refl (by kernel_rfl) rfl, st_assign Grew.refl (by kernel_rfl) rfl, trivial⟩ ?_
    intro xs w5 g5 hts
    have e7 : xs 7 = .bool true := hts 10 _ 7 rfl rfl
    simp only [List.foldl_cons, List.foldl_nil, List.setIfInBounds_toArray, List.set_cons_succ, List.set_cons_zero, e7]
    have HG5 := hidd g5
    clear hts g5 e7
    go_upto_region 5 with fail
    have b1 := HG5.out.keeps a1
    have b2 := HG5.out.keeps a2
    have b3 := HG5.out.keeps a3
    refine frameR [30, 31, 32, 33, 34, 35, 5] mixed drew_grew grew_tr
      [.val (.map (some mb)), .val (.slice (some ⟨q, 0, none⟩) n n), .val (.int .i64 (s : Nat)), .val (.pointer (some ⟨q, 0 + s, none⟩)), .val (.int .i64 (x : Nat)), .val (.int .i64 (k : Nat)), .val (.int .i64 (k : Nat))]
      (vals_mono (by simp)) (by kernel_rfl) (by kernel_rfl)
      ⟨sg_load (p := ⟨nb, 0, none⟩) (fun wx g => load_one agg_mapii (g.keeps b1)) (by kernel_rfl) rfl rfl, sg_load (p := ⟨gb, 0, none⟩) (fun wx g => load_one agg_ints (g.keeps b2)) (by kernel_rfl) rfl rfl,
       st_move Grew.refl (by kernel_rfl) rfl, sg_index (idx_ints hs) (by kernel_rfl) rfl rfl rfl, sg_load (p := ⟨q, 0 + s, none⟩) (fun wx g => load_one agg_int (g.keeps b3)) (by kernel_rfl) rfl rfl,
       sg_look (fun wx g => hlk false wx (HG5.out.trans g)) (by kernel_rfl) rfl rfl rfl, st_assign Grew.refl (by kernel_rfl) rfl, trivial⟩ ?_
    intro xs2 w6 g6 hts
    have e5 : xs2 5 = .int .i64 (k : Nat) := hts 6 _ 5 rfl rfl
    simp only [List.foldl_cons, List.foldl_nil, List.setIfInBounds_toArray, List.set_cons_succ, List.set_cons_zero, e5]
    have HG6 := hidd (HG5.out.trans g6)
    clear hts g6 e5 b1 b2 b3 a1 a2 a3 hlk
    go_wp2_with fail
    go_ret
    exact Or.inl ⟨hq, by rw [hk]; rfl, HG6.out⟩
  · have hlk : ∀ w, Grew wr w → (Instr.lookup 152 (.map (some mb)) (.int .i64 (x : Nat)) true).run Tryd.prog w = .ok (.tuple #[.int .i64 0, .bool false]) w := fun w gw =>
      (HS.out.map.kept gw).lookN keyI (t := 152) Tryd.underlying152 (zero_int w) hD (by rw [numL_fst]; exact hq) true
    refine frameR [9, 10, 11, 12, 13, 14, 8, 15, 16, 6, 7] mixed drew_grew grew_tr
      [.val (.map (some mb)), .val (.slice (some ⟨q, 0, none⟩) n n), .val (.int .i64 (s : Nat)), .val (.pointer (some ⟨q, 0 + s, none⟩)), .val (.int .i64 (x : Nat)), .val (.tuple #[.int .i64 0, .bool false]), .val (.tuple #[.int .i64 0, .bool false]), .val (.int .i64 0), .val (.bool false), .val (.int .i64 0), .val (.bool false)]
      (vals_mono (by simp)) (by kernel_rfl) (by kernel_rfl)
      ⟨sg_load (p := ⟨nb, 0, none⟩) (fun wx g => load_one agg_mapii (g.keeps a1)) (by kernel_rfl) rfl rfl, sg_load (p := ⟨gb, 0, none⟩) (fun wx g => load_one agg_ints (g.keeps a2)) (by kernel_rfl) rfl rfl,
       st_move Grew.refl (by kernel_rfl) rfl, sg_index (idx_ints hs) (by kernel_rfl) rfl rfl rfl, sg_load (p := ⟨q, 0 + s, none⟩) (fun wx g => load_one agg_int (g.keeps a3)) (by kernel_rfl) rfl rfl,
       sg_look (fun wx g => hlk wx g) (by kernel_rfl) rfl rfl rfl, st_move Grew.refl (by kernel_rfl) rfl, sg_ext (fun w => by kernel_rfl) (by kernel_rfl) rfl rfl, sg_ext (fun w => by kernel_rfl) (by kernel_rfl) rfl rfl,
       st_assign Grew.refl (by kernel_rfl) rfl, st_assign Grew.refl (by kernel_rfl) rfl, trivial⟩ ?_
    intro xs w5 g5 hts
    have e7 : xs 7 = .bool false := hts 10 _ 7 rfl rfl
    simp only [List.foldl_cons, List.foldl_nil, List.setIfInBounds_toArray, List.set_cons_succ, List.set_cons_zero, e7]
    have HS5 := hidd (HS.out.kept g5)
    have HG5 := hidd g5
    clear hts g5 e7 hlk a1 a2 a3
    go_upto_region 3 with fail
    have gd := drew_grew w5
    have hS := HS5.out.kept gd
    have b1 := c0_of hS.num
    have b2 := hS.spl.cell
    have b3 := hS.spl.arr.at s hs
    rw [HX.out] at b3
    have b4 := c0_of hS.ordb
    obtain ⟨_, la, lc, hlv, _⟩ := hS.row
    obtain ⟨l, hle⟩ : ∃ l, ord.length = l := ⟨_, rfl⟩
    rw [hle] at hlv hl
    subst hlv
    refine RR.region_frame (J := StJ w5.drew (fun w' => ∃ w1, Grew w5.drew w1 ∧ KMap encI w' mb (numL ((ord.map g) ++ [x])) ∧ w1.grownBy w' (some mb) ∧ w'.heap.size = w1.heap.size) [0, 1, 2, 3, 4, 5, 6] 7) (Rl := NoRl mb) [19, 20, 21, 22, 23, 24, 25] mixed (NoRl.drew _) NoRl.trans
      [.val (.map (some mb)), .val (.slice (some ⟨q, 0, none⟩) n n), .val (.int .i64 (s : Nat)), .val (.pointer (some ⟨q, 0 + s, none⟩)), .val (.int .i64 (x : Nat)), .val (.slice la l lc), .val (.int .i64 (l : Nat)), .fact fun _ _ => True]
      (st_start _ _) (no_mono ?_) (by kernel_rfl) (by kernel_rfl)
      ⟨hj_load1 (wb := w5.drew) (p := ⟨nb, 0, none⟩) agg_mapii b1 (by decide) (by decide) (by kernel_rfl) rfl rfl, hj_load1 (wb := w5.drew) (p := ⟨gb, 0, none⟩) agg_ints b2 (by decide) (by decide) (by kernel_rfl) rfl rfl,
       hj_move (by decide) (by decide) (by kernel_rfl) rfl rfl, hj_index (idx_ints hs) (by decide) (by decide) (by kernel_rfl) rfl rfl rfl, hj_load1 (wb := w5.drew) (p := ⟨q, 0 + s, none⟩) agg_int b3 (by decide) (by decide) (by kernel_rfl) rfl rfl,
       hj_load1 (wb := w5.drew) (p := ⟨ob, 0, none⟩) agg_ints b4 (by decide) (by decide) (by kernel_rfl) rfl rfl, hj_len Tryd.underlying37 (by decide) (by decide) (by kernel_rfl) rfl rfl,
       hj_mapu (by decide) (by exact (show (7 : Nat) < 8 by decide)) ?mp (by decide) (by kernel_rfl) rfl, trivial⟩ ?_
    case mp =>
      intro a1 wx hgw E
      have h1 : a1.eval (.tmp 19) = .map (some mb) := E.opv rfl
      have h2 : a1.eval (.tmp 23) = .int .i64 (x : Nat) := E.opv rfl
      have h3 : a1.eval (.tmp 25) = .int .i64 (l : Nat) := E.opv rfl
      rw [h1, h2, h3]
      obtain ⟨w6, hput, hK6, hg6, hs6⟩ := (hS.map.kept hgw).put keyI (t := 152) Tryd.underlying152 (x := x) hD (by rw [numL_fst]; exact hq) (.int .i64 (l : Nat))
      refine ⟨w6, hput, ⟨hg6.size, fun p h1 h2 => World.cell?_of_block (hg6.block _ h1 (fun e => h2 (by injection e)))⟩, wx, hgw, ?_, hg6, hs6⟩
      have e : ((ord.map g).length : Nat) = l := by rw [List.length_map, hle]
      rw [numL_snoc, e]; exact hK6
    · intro sx hsx
      simp only [List.mem_cons, List.not_mem_nil, or_false] at hsx
      rcases hsx with rfl | rfl | rfl | rfl | rfl | rfl | rfl | rfl <;> first | exact Or.inl ⟨_, rfl⟩ | exact Or.inr ⟨_, rfl, fun _ _ _ _ _ => trivial⟩
    intro xs listed a1 w8 hall hxs hJ hR _
    obtain ⟨w7, hg7, hK8, hgB, hs8⟩ := hJ.p1 (hall 7 (by exact (show (7 : Nat) < 8 by decide)))
    simp only [List.foldl_cons, List.foldl_nil, List.setIfInBounds_toArray, List.set_cons_succ, List.set_cons_zero]
    have hG8 : Grew W w8 := grew_grown (hS.spl.grew.trans hg7) hgB fun b e => by injection e with e; have := hS.lo.2.2; omega
    have hk8 : ∀ k, k < wr.heap.size → k ≠ mb → w8.heap[k]? = wr.heap[k]? := fun k h1 h2 => by
      have h3 : k < w7.heap.size := Nat.lt_of_lt_of_le h1 (Nat.le_trans HG5.out.size (Nat.le_trans gd.size hg7.size))
      rw [hgB.block k h3 (fun e => h2 (by injection e))]
      exact ((HG5.out.trans gd).trans hg7).block k h1
    have hs8' : wr.heap.size ≤ w8.heap.size := by rw [hs8]; exact Nat.le_trans HG5.out.size (Nat.le_trans gd.size hg7.size)
    have hm8 : KMap encI w8 mb (numL ((ord ++ [s]).map g)) := by rw [List.map_append, List.map_singleton, HX.out]; exact hK8
    obtain ⟨v', w9, hap, ⟨va, vc, rfl⟩, ho9, hS9, hCm⟩ := HS.out.push (s := s) (by omega) (by omega) hG8 hs8' hk8 hm8 37
    rw [hle] at hap hS9 hCm
    obtain ⟨n1, n2, n3, n4, n5, n6, n7⟩ := HS.out.ne
    have d1 : w8.cell? ⟨ob, 0, none⟩ = some (.slice la l lc) := c0_of ((hk8 ob (Array.getElem?_eq_some_iff.1 HS.out.ordb).1 (Ne.symm n7)).trans HS.out.ordb)
    have d2 := c0_of ho9
    have d3 := f0_of ho9
    have HS9 := hidd hS9
    have HCm := hidd hCm
    clear hall hxs hJ hR b1 b2 b3 b4 hS hG8 hk8 hs8' hm8 hS9 hCm ho9 hg7 hK8 hgB hs8 gd
    go_upto_region 5 with (first | (at_builtin; refine wpList_append_eq rfl rfl rfl rfl hap ?_))
    have hS9 := HS9.out
    have f1 := c0_of hS9.num
    have f2 := hS9.spl.cell
    have f3 := hS9.spl.arr.at s hs
    rw [HX.out] at f3
    have hmem : x ∈ (ord ++ [s]).map g := by rw [List.map_append, List.map_singleton, HX.out]; exact List.mem_append_right _ (List.mem_singleton.2 rfl)
    have hix : @List.idxOf Nat instBEqOfDecidableEq x ((ord ++ [s]).map g) = l := by
      rw [List.map_append, List.map_singleton, HX.out]
      have := idx_new hq
      rw [List.length_map, hle] at this; exact this
    have hlF : ∀ wx, Grew (w9.setCell ⟨ob, 0, none⟩ (.slice va (l + 1) vc)) wx → (Instr.lookup 152 (.map (some mb)) (.int .i64 (x : Nat)) false).run Tryd.prog wx = .ok (.int .i64 (l : Nat)) wx := fun wx gw => by
      have := (hS9.map.kept gw).lookS keyI (t := 152) Tryd.underlying152 (numL_mem hmem) false
      rw [hix] at this; exact this
    clear hap d1 d2 d3 hmem hix
    generalize w9.setCell ⟨ob, 0, none⟩ (.slice va (l + 1) vc) = w10 at HS9 HCm hS9 f1 f2 f3 hlF ⊢
    refine frameR [30, 31, 32, 33, 34, 35, 5] mixed drew_grew grew_tr
      [.val (.map (some mb)), .val (.slice (some ⟨q, 0, none⟩) n n), .val (.int .i64 (s : Nat)), .val (.pointer (some ⟨q, 0 + s, none⟩)), .val (.int .i64 (x : Nat)), .val (.int .i64 (l : Nat)), .val (.int .i64 (l : Nat))]
      (vals_mono (by simp)) (by kernel_rfl) (by kernel_rfl)
      ⟨sg_load (p := ⟨nb, 0, none⟩) (fun wx g => load_one agg_mapii (g.keeps f1)) (by kernel_rfl) rfl rfl, sg_load (p := ⟨gb, 0, none⟩) (fun wx g => load_one agg_ints (g.keeps f2)) (by kernel_rfl) rfl rfl,
       st_move Grew.refl (by kernel_rfl) rfl, sg_index (idx_ints hs) (by kernel_rfl) rfl rfl rfl, sg_load (p := ⟨q, 0 + s, none⟩) (fun wx g => load_one agg_int (g.keeps f3)) (by kernel_rfl) rfl rfl,
       sg_look hlF (by kernel_rfl) rfl rfl rfl, st_assign Grew.refl (by kernel_rfl) rfl, trivial⟩ ?_
    intro xs2 w11 g6 hts
    have e5 : xs2 5 = .int .i64 (l : Nat) := hts 6 _ 5 rfl rfl
    simp only [List.foldl_cons, List.foldl_nil, List.setIfInBounds_toArray, List.set_cons_succ, List.set_cons_zero, e5]
    have HS11 := hidd (HS9.out.kept g6)
    have HC11 : Hid (Came wr w11 mb ob (.slice la l lc) (.slice va (l + 1) vc)) := ⟨Nat.le_trans HCm.out.1 g6.size, fun k h1 h2 h3 h4 => (g6.block k (Nat.lt_of_lt_of_le h1 HCm.out.1)).trans (HCm.out.2.1 k h1 h2 h3 h4), HCm.out.2.2⟩
    clear hts g6 e5 f1 f2 f3 hlF hS9 HS9 HCm
    go_wp2_with fail
    go_ret
    exact Or.inr ⟨hq, by rw [hle]; rfl, _, HS11.out, HC11.out⟩
end Go.Proofs.YtkkdpafkafjfgaaDoor
