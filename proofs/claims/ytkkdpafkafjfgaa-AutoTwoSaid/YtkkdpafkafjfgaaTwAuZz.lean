/- AutoTwo: the walk. Conditions: the two automata lie in memory. Printed by gen-auzz.py. -/
import Derived.Test.YtkkdpafkafjfgaaTwAuTv
import Derived.Test.YtkkdpafkafjfgaaTwSlM
import Derived.Test.YtkkdpafkafjfgaaTwAuCc
import Derived.Deep.DeepCutAuto
namespace Go.Proofs.Ytkkdpafkafjfgaa
open Go.RowKit RR
set_option linter.unusedVariables false
set_option linter.unusedSimpArgs false
set_option maxRecDepth 100000
theorem smallC : SmallC := fun R v w ok hn h => Smallest_any R v w ok hn h
theorem oper_load_autZ {o : Oper} {a : Act} {w : World} {K : Act → World → Prop} {Q : Exit → Act → World → Prop} {x : Operand} (ho : o.op = .load 26 x) {b : Nat} {av : Array Value} (hx : a.eval x = .pointer (some ⟨b, 0, none⟩)) (hA : w.heap[b]? = some (.cells av 26 (0, 0))) (hs : av.size = 258)
    (h : K (a.put o.dst (.agg av)) w) : Oper.wp Try.prog o a w K Q := by
  have hl := run_loadVar_row (P := Try.prog) w b 26 26 av (0, 0) _ hA Try.underlying26 rfl (by rw [hs]; exact info_aut)
  unfold Oper.wp execOp
  simp only [ho, hx, Instr.loadAt, Instr.sureAddr, Sem.run_bind, Sem.run_pure, Result.andThen_ok, hl]
  exact h
def TwN (N : Nat) (w : World) (v : Array Value) (B : Aut) : Prop := ∀ w'', w.heap.size ≤ w''.heap.size → (∀ k, N ≤ k → k < w.heap.size → w''.heap[k]? = w.heap[k]?) → ∃ na nc ea ec, v = autB B na nc ea ec ∧ AutAt w'' B na ea
def TwIs (err : Int) (L : List UInt8 → Bool) (B : Aut) : Prop := (err ≠ 0 → B = zeroA) ∧ (err = 0 → ∃ S : RA, S.n ≤ 8192 ∧ (∀ l, S.tak 0 l = L l) ∧ LeastOf S B)
abbrev TwoOut (w : World) (err : Int) (L : List UInt8 → Bool) : Ending → World → Prop := fun e w' => ∃ v B, e = .returned (.tuple #[.agg v, .int .i64 err]) ∧ Grew w w' ∧ v.size = 258 ∧ v.all (·.oneCell') = true ∧ TwN w.heap.size w' v B ∧ TwIs err L B
theorem TwoEnd.out {w w' : World} {err : Int} {L : List UInt8 → Bool} {e : Ending} (h : TwoEnd w err L e w') : TwoOut w err L e w' := by
  obtain ⟨B, na, nc, ea, ec, he, h1, h2, h3, h4⟩ := h
  exact ⟨_, B, he, h2, autB_size B na nc ea ec, autB_one B na nc ea ec, fun w'' hs hk => ⟨na, nc, ea, ec, rfl, h1 w'' hs hk⟩, h3, h4⟩
theorem TwIs.one {err : Int} {L M : List UInt8 → Bool} {B B' : Aut} (h : TwIs err L B) (k : TwIs err M B') (e : ∀ l, L l = M l) : B' = B := by
  by_cases h0 : err = 0
  · obtain ⟨S, _, h1, h2⟩ := h.2 h0
    obtain ⟨S', _, k1, k2⟩ := k.2 h0
    exact k2.one h2 fun l => by rw [h1, k1, e]
  · rw [h.1 h0, k.1 h0]
theorem TwIs.len {err : Int} {L : List UInt8 → Bool} {B : Aut} (h : TwIs err L B) : B.ends.length = B.next.length := by
  by_cases h0 : err = 0
  · obtain ⟨S, _, _, C, _, _, rfl, _⟩ := h.2 h0
    rw [autOf_n, autOf_ne]
  · rw [h.1 h0]; rfl
section
variable {N M : Nat} {w w' : World} {v v2 : Array Value} {B : Aut} {b : Nat}
theorem TwN.grow (h : TwN N w v B) (g : Grew w w') : TwN N w' v B := fun w'' hs hk =>
  h w'' (Nat.le_trans g.size hs) fun k h1 h2 => by
    rw [hk k h1 (Nat.lt_of_lt_of_le h2 g.size), Array.getElem?_eq_getElem h2]
    exact heap_kept g (Array.getElem?_eq_getElem h2)
theorem TwN.over (h : TwN N w v B) (hb : b < N) (cs : Array Value) : TwN N (w.setRow b cs) v B := fun w'' hs hk =>
  h w'' (by simpa [World.setRow] using hs) fun k h1 h2 => (hk k h1 (by simpa [World.setRow] using h2)).trans (setRow_other _ _ _ _ (by omega))
theorem two_same (h : TwN N w v B) (k : TwN M w v2 B) (hl : B.ends.length = B.next.length) : Calls Try.prog 15 #[.agg v, .agg v2] w fun e w' => e = .returned (.bool true) ∧ Grew w w' := by
  obtain ⟨na, nc, ea, ec, rfl, h1⟩ := h w (Nat.le_refl _) fun _ _ _ => rfl
  obtain ⟨na', nc', ea', ec', rfl, k1⟩ := k w (Nat.le_refl _) fun _ _ _ => rfl
  exact Same_eq B na ea na' ea' nc ec nc' ec' w h1 k1 hl
theorem keep_ne {c : Nat} {o : Obj} (h : w.heap[c]? = some o) (hne : c ≠ b) (cs : Array Value) : (w.setRow b cs).heap[c]? = some o := (setRow_other w b c cs hne).trans h
end
set_option maxHeartbeats 8000000 in
theorem AutoTwo_walk (A B : Aut) (na ea na' ea' : Option Addr) (nc ec nc' ec' : Nat) (w : World) (h : AutAt w A na ea) (h' : AutAt w B na' ea') :
    Calls Try.prog 4 #[.agg (autB A na nc ea ec), .agg (autB B na' nc' ea' ec')] w fun e w' => e = .returned (.bool true) ∧ Grew w w' := by
  have hz := zero_aut
  have hb1 := heap_kept ((Grew.refl _).alloc (.cells (autB B na' nc' ea' ec') 26)) (heap_alloc_new w (.cells (autB A na nc ea ec) 26))
  have hb2 := heap_alloc2_new w (.cells (autB A na nc ea ec) 26) (.cells (autB B na' nc' ea' ec') 26)
  have hg := ((Grew.refl w).alloc (.cells (autB A na nc ea ec) 26)).alloc (.cells (autB B na' nc' ea' ec') 26)
  have HSa := hidd (autB_size A na nc ea ec)
  have HSb := hidd (autB_size B na' nc' ea' ec')
  obtain ⟨E, hE⟩ : ∃ E, twoErr A B = E := ⟨_, rfl⟩
  obtain ⟨F, hF⟩ : ∃ F, wrongA A = F := ⟨_, rfl⟩
  have HBo : Hid (∀ w1, Grew w w1 → Calls Try.prog 13 #[.agg (autB A na nc ea ec), .agg (autB B na' nc' ea' ec')] w1 (TwoOut w1 E fun l => (raA A).tak 0 l && (raA B).tak 0 l)) := fun w1 g => by
    have := Both_any A B na ea na' ea' nc ec nc' ec' w1 (h.kept g) (h'.kept g)
    rw [hE] at this; exact this.mono fun e w' h => h.out
  have HEi : Hid (∀ w1, Grew w w1 → Calls Try.prog 16 #[.agg (autB A na nc ea ec), .agg (autB B na' nc' ea' ec')] w1 (TwoOut w1 E fun l => (raA A).tak 0 l || (raA B).tak 0 l)) := fun w1 g => by
    have := Either_any A B na ea na' ea' nc ec nc' ec' w1 (h.kept g) (h'.kept g)
    rw [hE] at this; exact this.mono fun e w' h => h.out
  have HTt : Hid (∀ w1, Grew w w1 → Calls Try.prog 14 #[.agg (autB A na nc ea ec), .agg (autB B na' nc' ea' ec'), .bool true] w1 (TwoOut w1 E fun l => (raA A).tak 0 l && (raA B).tak 0 l)) := fun w1 g => by
    have := TwoR_any smallC A B na ea na' ea' nc ec nc' ec' true w1 (h.kept g) (h'.kept g)
    rw [hE] at this
    simp only [if_true] at this
    exact this.mono fun e w' h => h.out
  have HTf : Hid (∀ w1, Grew w w1 → Calls Try.prog 14 #[.agg (autB A na nc ea ec), .agg (autB B na' nc' ea' ec'), .bool false] w1 (TwoOut w1 E fun l => (raA A).tak 0 l || (raA B).tak 0 l)) := fun w1 g => by
    have := TwoR_any smallC A B na ea na' ea' nc ec nc' ec' false w1 (h.kept g) (h'.kept g)
    rw [hE] at this
    simp only [Bool.false_eq_true, if_false] at this
    exact this.mono fun e w' h => h.out
  have HNo : Hid (∀ w1, Grew w w1 → Calls Try.prog 17 #[.agg (autB A na nc ea ec)] w1 (TwoOut w1 F fun l => !(raA A).tak 0 l)) := fun w1 g => by
    have := ANot_any A na ea nc ec w1 (h.kept g)
    rw [hF] at this; exact this.mono fun e w' h => h.out
  have HNr : Hid (∀ w1, Grew w w1 → Calls Try.prog 18 #[.agg (autB A na nc ea ec)] w1 (TwoOut w1 F fun l => !(raA A).tak 0 l)) := fun w1 g => by
    have := NotR_any smallC A na ea nc ec w1 (h.kept g)
    rw [hF] at this; exact this.mono fun e w' h => h.out
  have HNa := hidd (autB_next A na nc ea ec)
  have HNb := hidd (autB_next B na' nc' ea' ec')
  generalize autB A na nc ea ec = av at hb1 hb2 hg HSa HBo HEi HTt HTf HNo HNr HNa ⊢
  generalize autB B na' nc' ea' ec' = bv at hb1 hb2 hg HSb HBo HEi HTt HTf HNb ⊢
  obtain ⟨W, hW⟩ : ∃ W, (w.alloc (.cells av 26)).alloc (.cells bv 26) = W := ⟨_, rfl⟩
  have hWs : W.heap.size = w.heap.size + 2 := by rw [← hW, World.size_alloc, World.size_alloc]
  rw [hW] at hb1 hb2 hg
  obtain ⟨b2, hb2e⟩ : ∃ b, w.heap.size = b := ⟨_, rfl⟩
  rw [hb2e] at hb1 hb2 hWs
  have HB := hidd (And.intro hb1 (And.intro hb2 hg))
  have HWs : Hid (w.heap.size = b2 ∧ W.heap.size = b2 + 2) := ⟨hb2e, hWs⟩
  obtain ⟨la, hla⟩ : ∃ l, A.next.length = l := ⟨_, rfl⟩
  obtain ⟨lb, hlb⟩ : ∃ l, B.next.length = l := ⟨_, rfl⟩
  have hl1 := h.nlen
  have hl2 := h'.nlen
  rw [hla] at HNa hl1
  rw [hlb] at HNb hl2
  unfold maxLen at hl1 hl2
  have c0 : W.cell? ⟨b2, 256, none⟩ = some (.slice na la nc) := by rw [cell0_of hb1]; exact HNa.out
  have c1 : W.cell? ⟨b2 + 1, 256, none⟩ = some (.slice na' lb nc') := by rw [cell0_of hb2]; exact HNb.out
  clear h h' hE hF hb1 hb2 hg hWs hla hlb HNa HNb
  go_enter Try.func4, Try.ntmps4
  go_upto_region 2 with (rw [hW])
  clear hW
  obtain ⟨n, hnn⟩ : ∃ n, wrap64 ((la : Int) * (lb : Int)) = n := ⟨_, rfl⟩
  rw [hnn]
  clear hnn
  by_cases c3 : 2000 < la
  · have k3 : decide ((2000 : Int) < (la : Int)) = true := decide_eq_true (by omega)
    have k3' : decide (2000 < la) = true := decide_eq_true c3
    by_cases d1 : 2000 < n
    · have k1 : decide ((2000 : Int) < n) = true := decide_eq_true d1
      by_cases d2 : n ≤ 8192
      · have k2 : decide (n ≤ (8192 : Int)) = true := decide_eq_true d2
        go_wp2_with fail
        go_ret
        exact ⟨rfl, HB.out.2.2⟩
      · have k2 : decide (n ≤ (8192 : Int)) = false := decide_eq_false d2
        go_wp2_with fail
        go_ret
        exact ⟨rfl, HB.out.2.2⟩
    · have k1 : decide ((2000 : Int) < n) = false := decide_eq_false d1
      go_wp2_with fail
      go_ret
      exact ⟨rfl, HB.out.2.2⟩
  have k3 : decide ((2000 : Int) < (la : Int)) = false := decide_eq_false (by omega)
  have k3' : decide (2000 < la) = false := decide_eq_false c3
  by_cases d1 : 2000 < n
  · have k1 : decide ((2000 : Int) < n) = true := decide_eq_true d1
    by_cases d2 : n ≤ 8192
    · have k2 : decide (n ≤ (8192 : Int)) = true := decide_eq_true d2
      go_wp2_with fail
      go_ret
      exact ⟨rfl, HB.out.2.2⟩
    · have k2 : decide (n ≤ (8192 : Int)) = false := decide_eq_false d2
      go_upto_region 4 with fail
      clear c0 c1 hb2e
      go_wp2_with (first | (refine wpList_load_aut (b := b2) rfl rfl rfl HB.out.1 HSa.out ?_) | (refine wpList_load_aut (b := b2 + 1) rfl rfl rfl HB.out.2.1 HSb.out ?_))
      refine (HBo.out _ HB.out.2.2).mono ?_; rintro e w1 ⟨v6, C6, rfl, g1, z1, z2, m6, i6⟩
      obtain ⟨b6, hb6⟩ : ∃ b, w1.heap.size = b := ⟨_, rfl⟩
      have HZ6 : Hid ((w1.alloc (.cells zAut 26)).heap[b6]? = some (.cells zAut 26 (0, 0))) := by rw [← hb6]; exact heap_alloc_new w1 _
      obtain ⟨W1, hW1⟩ : ∃ W, (w1.alloc (.cells zAut 26)).setRow b6 v6 = W := ⟨_, rfl⟩
      have gw6 : Grew w1 W1 := by rw [← hW1]; exact setRow_grew ((Grew.refl w1).alloc _) (by omega) v6
      have hh6 := setRow_heap _ b6 _ v6 _ _ HZ6.out
      rw [hW1] at hh6
      have HY6 := hidd (And.intro z1 z2)
      have HX6 := hidd (And.intro hh6 (And.intro (m6.grow gw6) i6))
      have HA1 := hidd (And.intro (heap_kept (g1.trans gw6) HB.out.1) (And.intro (heap_kept (g1.trans gw6) HB.out.2.1) (HB.out.2.2.trans (g1.trans gw6))))
      have HN6 : Hid (b2 + 2 ≤ b6 ∧ b6 < W1.heap.size) := ⟨by rw [← hb6, ← HWs.out.2]; exact g1.size, (Array.getElem?_eq_some_iff.1 hh6).1⟩
      clear z1 z2 m6 i6 g1 gw6 hh6 HBo
      go_upto_region 5 with (refine wpList_store_aut (b := b6) rfl rfl rfl rfl HZ6.out zAut_size HY6.out.1 HY6.out.2 ?_)
      try rw [hW1]
      clear hb6 hW1 HZ6
      go_wp2_with (first | (refine wpList_load_aut (b := b2) rfl rfl rfl HA1.out.1 HSa.out ?_) | (refine wpList_load_aut (b := b2 + 1) rfl rfl rfl HA1.out.2.1 HSb.out ?_))
      refine (HTt.out _ HA1.out.2.2).mono ?_; rintro e w2 ⟨v8, C8, rfl, g2, z1, z2, m8, i8⟩
      obtain ⟨b8, hb8⟩ : ∃ b, w2.heap.size = b := ⟨_, rfl⟩
      have HZ8 : Hid ((w2.alloc (.cells zAut 26)).heap[b8]? = some (.cells zAut 26 (0, 0))) := by rw [← hb8]; exact heap_alloc_new w2 _
      obtain ⟨W2, hW2⟩ : ∃ W, (w2.alloc (.cells zAut 26)).setRow b8 v8 = W := ⟨_, rfl⟩
      have gw8 : Grew w2 W2 := by rw [← hW2]; exact setRow_grew ((Grew.refl w2).alloc _) (by omega) v8
      have hh8 := setRow_heap _ b8 _ v8 _ _ HZ8.out
      rw [hW2] at hh8
      have HY8 := hidd (And.intro z1 z2)
      obtain rfl := HX6.out.2.2.one i8 fun l => rfl
      have g12 := g2.trans gw8
      have HX8 := hidd hh8
      have HX62 := hidd (heap_kept g12 HX6.out.1)
      have HSm : Hid (Calls Try.prog 15 #[.agg v6, .agg v8] W2 fun e w' => e = .returned (.bool true) ∧ Grew W2 w') := two_same (HX6.out.2.1.grow g12) (m8.grow gw8) HX6.out.2.2.len
      have HA2 := hidd (And.intro (heap_kept g12 HA1.out.1) (And.intro (heap_kept g12 HA1.out.2.1) (HA1.out.2.2.trans g12)))
      have HN8 : Hid (b6 < b8 ∧ b8 < W2.heap.size) := ⟨by have := HN6.out.2; have := g2.size; omega, (Array.getElem?_eq_some_iff.1 hh8).1⟩
      clear z1 z2 m8 i8 g2 gw8 hh8 g12 HX6 HA1 HTt
      go_upto_region 6 with (refine wpList_store_aut (b := b8) rfl rfl rfl rfl HZ8.out zAut_size HY8.out.1 HY8.out.2 ?_)
      try rw [hW2]
      clear hb8 hW2 HZ8
      go_wp2_with fail
      refine oper_load_autZ (b := b6) rfl rfl HX62.out HY6.out.1 ?_
      go_wp2_with fail
      refine oper_load_autZ (b := b8) rfl rfl HX8.out HY8.out.1 ?_
      go_wp2_with fail
      refine HSm.out.mono ?_; rintro e w3 ⟨rfl, g3⟩
      have HA3 := hidd (And.intro (heap_kept g3 HA2.out.1) (And.intro (heap_kept g3 HA2.out.2.1) (HA2.out.2.2.trans g3)))
      have HX63 := hidd (heap_kept g3 HX62.out)
      have HX83 := hidd (heap_kept g3 HX8.out)
      have HN3 : Hid (b8 < w3.heap.size) := Nat.lt_of_lt_of_le HN8.out.2 g3.size
      clear g3 HA2 HX62 HX8 HSm
      go_upto_region 8 with fail
      go_wp2_with (first | (refine wpList_load_aut (b := b2) rfl rfl rfl HA3.out.1 HSa.out ?_) | (refine wpList_load_aut (b := b2 + 1) rfl rfl rfl HA3.out.2.1 HSb.out ?_))
      refine (HEi.out _ HA3.out.2.2).mono ?_; rintro e w4 ⟨u6, D6, rfl, g4, z1, z2, m6, i6⟩
      obtain ⟨W4, hW4⟩ : ∃ W, w4.setRow b6 u6 = W := ⟨_, rfl⟩
      have hn6 := HN6.out
      have hn8 := HN8.out
      have hn3 := HN3.out
      have HO6 := hidd (heap_kept g4 HX63.out)
      have gw : Grew w W4 := by rw [← hW4]; exact setRow_grew (HA3.out.2.2.trans g4) (by rw [HWs.out.1]; omega) u6
      have hh6 : W4.heap[b6]? = some (.cells u6 26 (0, 0)) := by rw [← hW4]; exact setRow_heap _ b6 _ u6 _ _ HO6.out
      have HA4 : Hid (W4.heap[b2]? = some (.cells av 26 (0, 0)) ∧ W4.heap[b2 + 1]? = some (.cells bv 26 (0, 0)) ∧ Grew w W4) := by
        refine ⟨?_, ?_, gw⟩
        · rw [← hW4]; exact keep_ne (heap_kept g4 HA3.out.1) (by omega) u6
        · rw [← hW4]; exact keep_ne (heap_kept g4 HA3.out.2.1) (by omega) u6
      have HX84 : Hid (W4.heap[b8]? = some (.cells v8 26 (0, 0))) := by rw [Hid, ← hW4]; exact keep_ne (heap_kept g4 HX83.out) (by omega) u6
      have HY6n := hidd (And.intro z1 z2)
      have HX6 : Hid (W4.heap[b6]? = some (.cells u6 26 (0, 0)) ∧ TwN w3.heap.size W4 u6 D6 ∧ TwIs E (fun l => (raA A).tak 0 l || (raA B).tak 0 l) D6) := ⟨hh6, by rw [← hW4]; exact m6.over (by omega) u6, i6⟩
      have HN4 : Hid (w3.heap.size ≤ W4.heap.size) := by rw [Hid, ← hW4]; simpa [World.setRow] using g4.size
      clear z1 z2 m6 i6 g4 gw hh6 HEi HX63 HX83 hn6 hn8 hn3
      go_upto_region 9 with (refine wpList_store_aut (b := b6) rfl rfl rfl rfl HO6.out HY6.out.1 HY6n.out.1 HY6n.out.2 ?_)
      try rw [hW4]
      clear hW4 HO6 HA3 HY6
      go_wp2_with (first | (refine wpList_load_aut (b := b2) rfl rfl rfl HA4.out.1 HSa.out ?_) | (refine wpList_load_aut (b := b2 + 1) rfl rfl rfl HA4.out.2.1 HSb.out ?_))
      refine (HTf.out _ HA4.out.2.2).mono ?_; rintro e w5 ⟨u8, D8, rfl, g5, z1, z2, m8, i8⟩
      obtain ⟨W5, hW5⟩ : ∃ W, w5.setRow b8 u8 = W := ⟨_, rfl⟩
      have hn6 := HN6.out
      have hn8 := HN8.out
      have hn3 := HN3.out
      have hn4 := HN4.out
      have HO8 := hidd (heap_kept g5 HX84.out)
      have gw : Grew w W5 := by rw [← hW5]; exact setRow_grew (HA4.out.2.2.trans g5) (by rw [HWs.out.1]; omega) u8
      have hh8 : W5.heap[b8]? = some (.cells u8 26 (0, 0)) := by rw [← hW5]; exact setRow_heap _ b8 _ u8 _ _ HO8.out
      have HA5 : Hid (W5.heap[b2]? = some (.cells av 26 (0, 0)) ∧ W5.heap[b2 + 1]? = some (.cells bv 26 (0, 0)) ∧ Grew w W5) := by
        refine ⟨?_, ?_, gw⟩
        · rw [← hW5]; exact keep_ne (heap_kept g5 HA4.out.1) (by omega) u8
        · rw [← hW5]; exact keep_ne (heap_kept g5 HA4.out.2.1) (by omega) u8
      have HX65 : Hid (W5.heap[b6]? = some (.cells u6 26 (0, 0))) := by rw [Hid, ← hW5]; exact keep_ne (heap_kept g5 HX6.out.1) (by omega) u8
      obtain rfl := HX6.out.2.2.one i8 fun l => rfl
      have HSm : Hid (Calls Try.prog 15 #[.agg u6, .agg u8] W5 fun e w' => e = .returned (.bool true) ∧ Grew W5 w') := by
        rw [Hid, ← hW5]
        exact two_same ((HX6.out.2.1.grow g5).over (by omega) u8) (m8.over (by omega) u8) HX6.out.2.2.len
      have HY8n := hidd (And.intro z1 z2)
      have HX85 := hidd hh8
      have HN5 : Hid (b8 < W5.heap.size) := (Array.getElem?_eq_some_iff.1 hh8).1
      clear z1 z2 m8 i8 g5 gw hh8 HTf HX6 HX84 HN3 HN4 hn6 hn8 hn3 hn4
      go_upto_region 10 with (refine wpList_store_aut (b := b8) rfl rfl rfl rfl HO8.out HY8.out.1 HY8n.out.1 HY8n.out.2 ?_)
      try rw [hW5]
      clear hW5 HO8 HA4 HY8
      go_wp2_with fail
      refine oper_load_autZ (b := b6) rfl rfl HX65.out HY6n.out.1 ?_
      go_wp2_with fail
      refine oper_load_autZ (b := b8) rfl rfl HX85.out HY8n.out.1 ?_
      go_wp2_with fail
      refine HSm.out.mono ?_; rintro e w6 ⟨rfl, g6⟩
      have HA6 := hidd (And.intro (heap_kept g6 HA5.out.1) (And.intro (heap_kept g6 HA5.out.2.1) (HA5.out.2.2.trans g6)))
      have HX66 := hidd (heap_kept g6 HX65.out)
      have HX86 := hidd (heap_kept g6 HX85.out)
      have HN6b : Hid (b8 < w6.heap.size) := Nat.lt_of_lt_of_le HN5.out g6.size
      clear g6 HA5 HX65 HX85 HSm HN5
      go_upto_region 12 with fail
      go_wp2_with (refine wpList_load_aut (b := b2) rfl rfl rfl HA6.out.1 HSa.out ?_)
      refine (HNo.out _ HA6.out.2.2).mono ?_; rintro e w7 ⟨t6, E6, rfl, g7, z1, z2, m6, i6⟩
      obtain ⟨W7, hW7⟩ : ∃ W, w7.setRow b6 t6 = W := ⟨_, rfl⟩
      have hn6 := HN6.out
      have hn8 := HN8.out
      have hn3 := HN6b.out
      have HO6 := hidd (heap_kept g7 HX66.out)
      have gw : Grew w W7 := by rw [← hW7]; exact setRow_grew (HA6.out.2.2.trans g7) (by rw [HWs.out.1]; omega) t6
      have hh6 : W7.heap[b6]? = some (.cells t6 26 (0, 0)) := by rw [← hW7]; exact setRow_heap _ b6 _ t6 _ _ HO6.out
      have HA7 : Hid (W7.heap[b2]? = some (.cells av 26 (0, 0)) ∧ Grew w W7) := by
        refine ⟨?_, gw⟩
        rw [← hW7]; exact keep_ne (heap_kept g7 HA6.out.1) (by omega) t6
      have HX87 : Hid (W7.heap[b8]? = some (.cells u8 26 (0, 0))) := by rw [Hid, ← hW7]; exact keep_ne (heap_kept g7 HX86.out) (by omega) t6
      have HY6z := hidd (And.intro z1 z2)
      have HX6 : Hid (W7.heap[b6]? = some (.cells t6 26 (0, 0)) ∧ TwN w6.heap.size W7 t6 E6 ∧ TwIs F (fun l => !(raA A).tak 0 l) E6) := ⟨hh6, by rw [← hW7]; exact m6.over (by omega) t6, i6⟩
      have HN7 : Hid (w6.heap.size ≤ W7.heap.size) := by rw [Hid, ← hW7]; simpa [World.setRow] using g7.size
      clear z1 z2 m6 i6 g7 gw hh6 HNo HX66 HX86 hn6 hn8 hn3
      go_upto_region 13 with (refine wpList_store_aut (b := b6) rfl rfl rfl rfl HO6.out HY6n.out.1 HY6z.out.1 HY6z.out.2 ?_)
      try rw [hW7]
      clear hW7 HO6 HA6 HY6n
      go_wp2_with (refine wpList_load_aut (b := b2) rfl rfl rfl HA7.out.1 HSa.out ?_)
      refine (HNr.out _ HA7.out.2).mono ?_; rintro e w8 ⟨t8, E8, rfl, g8, z1, z2, m8, i8⟩
      obtain ⟨W8, hW8⟩ : ∃ W, w8.setRow b8 t8 = W := ⟨_, rfl⟩
      have hn6 := HN6.out
      have hn8 := HN8.out
      have hn3 := HN6b.out
      have hn4 := HN7.out
      have HO8 := hidd (heap_kept g8 HX87.out)
      have HG8 : Hid (Grew w W8) := by rw [Hid, ← hW8]; exact setRow_grew (HA7.out.2.trans g8) (by rw [HWs.out.1]; omega) t8
      have hh8 : W8.heap[b8]? = some (.cells t8 26 (0, 0)) := by rw [← hW8]; exact setRow_heap _ b8 _ t8 _ _ HO8.out
      have HX68 : Hid (W8.heap[b6]? = some (.cells t6 26 (0, 0))) := by rw [Hid, ← hW8]; exact keep_ne (heap_kept g8 HX6.out.1) (by omega) t8
      obtain rfl := HX6.out.2.2.one i8 fun l => rfl
      have HSm : Hid (Calls Try.prog 15 #[.agg t6, .agg t8] W8 fun e w' => e = .returned (.bool true) ∧ Grew W8 w') := by
        rw [Hid, ← hW8]
        exact two_same ((HX6.out.2.1.grow g8).over (by omega) t8) (m8.over (by omega) t8) HX6.out.2.2.len
      have HY8z := hidd (And.intro z1 z2)
      have HX88 := hidd hh8
      clear z1 z2 m8 i8 g8 hh8 HNr HX6 HX87 HN7 HN6b hn6 hn8 hn3 hn4
      go_upto_region 14 with (refine wpList_store_aut (b := b8) rfl rfl rfl rfl HO8.out HY8n.out.1 HY8z.out.1 HY8z.out.2 ?_)
      try rw [hW8]
      clear hW8 HO8 HA7 HY8n
      go_wp2_with fail
      refine oper_load_autZ (b := b6) rfl rfl HX68.out HY6z.out.1 ?_
      go_wp2_with fail
      refine oper_load_autZ (b := b8) rfl rfl HX88.out HY8z.out.1 ?_
      go_wp2_with fail
      refine HSm.out.mono ?_; rintro e w9 ⟨rfl, g9⟩
      have HG9 := hidd (HG8.out.trans g9)
      clear g9
      go_wp2_with fail
      go_ret
      exact ⟨rfl, HG9.out⟩
  · have k1 : decide ((2000 : Int) < n) = false := decide_eq_false d1
    go_upto_region 4 with fail
    clear c0 c1 hb2e
    go_wp2_with (first | (refine wpList_load_aut (b := b2) rfl rfl rfl HB.out.1 HSa.out ?_) | (refine wpList_load_aut (b := b2 + 1) rfl rfl rfl HB.out.2.1 HSb.out ?_))
    refine (HBo.out _ HB.out.2.2).mono ?_; rintro e w1 ⟨v6, C6, rfl, g1, z1, z2, m6, i6⟩
    obtain ⟨b6, hb6⟩ : ∃ b, w1.heap.size = b := ⟨_, rfl⟩
    have HZ6 : Hid ((w1.alloc (.cells zAut 26)).heap[b6]? = some (.cells zAut 26 (0, 0))) := by rw [← hb6]; exact heap_alloc_new w1 _
    obtain ⟨W1, hW1⟩ : ∃ W, (w1.alloc (.cells zAut 26)).setRow b6 v6 = W := ⟨_, rfl⟩
    have gw6 : Grew w1 W1 := by rw [← hW1]; exact setRow_grew ((Grew.refl w1).alloc _) (by omega) v6
    have hh6 := setRow_heap _ b6 _ v6 _ _ HZ6.out
    rw [hW1] at hh6
    have HY6 := hidd (And.intro z1 z2)
    have HX6 := hidd (And.intro hh6 (And.intro (m6.grow gw6) i6))
    have HA1 := hidd (And.intro (heap_kept (g1.trans gw6) HB.out.1) (And.intro (heap_kept (g1.trans gw6) HB.out.2.1) (HB.out.2.2.trans (g1.trans gw6))))
    have HN6 : Hid (b2 + 2 ≤ b6 ∧ b6 < W1.heap.size) := ⟨by rw [← hb6, ← HWs.out.2]; exact g1.size, (Array.getElem?_eq_some_iff.1 hh6).1⟩
    clear z1 z2 m6 i6 g1 gw6 hh6 HBo
    go_upto_region 5 with (refine wpList_store_aut (b := b6) rfl rfl rfl rfl HZ6.out zAut_size HY6.out.1 HY6.out.2 ?_)
    try rw [hW1]
    clear hb6 hW1 HZ6
    go_wp2_with (first | (refine wpList_load_aut (b := b2) rfl rfl rfl HA1.out.1 HSa.out ?_) | (refine wpList_load_aut (b := b2 + 1) rfl rfl rfl HA1.out.2.1 HSb.out ?_))
    refine (HTt.out _ HA1.out.2.2).mono ?_; rintro e w2 ⟨v8, C8, rfl, g2, z1, z2, m8, i8⟩
    obtain ⟨b8, hb8⟩ : ∃ b, w2.heap.size = b := ⟨_, rfl⟩
    have HZ8 : Hid ((w2.alloc (.cells zAut 26)).heap[b8]? = some (.cells zAut 26 (0, 0))) := by rw [← hb8]; exact heap_alloc_new w2 _
    obtain ⟨W2, hW2⟩ : ∃ W, (w2.alloc (.cells zAut 26)).setRow b8 v8 = W := ⟨_, rfl⟩
    have gw8 : Grew w2 W2 := by rw [← hW2]; exact setRow_grew ((Grew.refl w2).alloc _) (by omega) v8
    have hh8 := setRow_heap _ b8 _ v8 _ _ HZ8.out
    rw [hW2] at hh8
    have HY8 := hidd (And.intro z1 z2)
    obtain rfl := HX6.out.2.2.one i8 fun l => rfl
    have g12 := g2.trans gw8
    have HX8 := hidd hh8
    have HX62 := hidd (heap_kept g12 HX6.out.1)
    have HSm : Hid (Calls Try.prog 15 #[.agg v6, .agg v8] W2 fun e w' => e = .returned (.bool true) ∧ Grew W2 w') := two_same (HX6.out.2.1.grow g12) (m8.grow gw8) HX6.out.2.2.len
    have HA2 := hidd (And.intro (heap_kept g12 HA1.out.1) (And.intro (heap_kept g12 HA1.out.2.1) (HA1.out.2.2.trans g12)))
    have HN8 : Hid (b6 < b8 ∧ b8 < W2.heap.size) := ⟨by have := HN6.out.2; have := g2.size; omega, (Array.getElem?_eq_some_iff.1 hh8).1⟩
    clear z1 z2 m8 i8 g2 gw8 hh8 g12 HX6 HA1 HTt
    go_upto_region 6 with (refine wpList_store_aut (b := b8) rfl rfl rfl rfl HZ8.out zAut_size HY8.out.1 HY8.out.2 ?_)
    try rw [hW2]
    clear hb8 hW2 HZ8
    go_wp2_with fail
    refine oper_load_autZ (b := b6) rfl rfl HX62.out HY6.out.1 ?_
    go_wp2_with fail
    refine oper_load_autZ (b := b8) rfl rfl HX8.out HY8.out.1 ?_
    go_wp2_with fail
    refine HSm.out.mono ?_; rintro e w3 ⟨rfl, g3⟩
    have HA3 := hidd (And.intro (heap_kept g3 HA2.out.1) (And.intro (heap_kept g3 HA2.out.2.1) (HA2.out.2.2.trans g3)))
    have HX63 := hidd (heap_kept g3 HX62.out)
    have HX83 := hidd (heap_kept g3 HX8.out)
    have HN3 : Hid (b8 < w3.heap.size) := Nat.lt_of_lt_of_le HN8.out.2 g3.size
    clear g3 HA2 HX62 HX8 HSm
    go_upto_region 8 with fail
    go_wp2_with (first | (refine wpList_load_aut (b := b2) rfl rfl rfl HA3.out.1 HSa.out ?_) | (refine wpList_load_aut (b := b2 + 1) rfl rfl rfl HA3.out.2.1 HSb.out ?_))
    refine (HEi.out _ HA3.out.2.2).mono ?_; rintro e w4 ⟨u6, D6, rfl, g4, z1, z2, m6, i6⟩
    obtain ⟨W4, hW4⟩ : ∃ W, w4.setRow b6 u6 = W := ⟨_, rfl⟩
    have hn6 := HN6.out
    have hn8 := HN8.out
    have hn3 := HN3.out
    have HO6 := hidd (heap_kept g4 HX63.out)
    have gw : Grew w W4 := by rw [← hW4]; exact setRow_grew (HA3.out.2.2.trans g4) (by rw [HWs.out.1]; omega) u6
    have hh6 : W4.heap[b6]? = some (.cells u6 26 (0, 0)) := by rw [← hW4]; exact setRow_heap _ b6 _ u6 _ _ HO6.out
    have HA4 : Hid (W4.heap[b2]? = some (.cells av 26 (0, 0)) ∧ W4.heap[b2 + 1]? = some (.cells bv 26 (0, 0)) ∧ Grew w W4) := by
      refine ⟨?_, ?_, gw⟩
      · rw [← hW4]; exact keep_ne (heap_kept g4 HA3.out.1) (by omega) u6
      · rw [← hW4]; exact keep_ne (heap_kept g4 HA3.out.2.1) (by omega) u6
    have HX84 : Hid (W4.heap[b8]? = some (.cells v8 26 (0, 0))) := by rw [Hid, ← hW4]; exact keep_ne (heap_kept g4 HX83.out) (by omega) u6
    have HY6n := hidd (And.intro z1 z2)
    have HX6 : Hid (W4.heap[b6]? = some (.cells u6 26 (0, 0)) ∧ TwN w3.heap.size W4 u6 D6 ∧ TwIs E (fun l => (raA A).tak 0 l || (raA B).tak 0 l) D6) := ⟨hh6, by rw [← hW4]; exact m6.over (by omega) u6, i6⟩
    have HN4 : Hid (w3.heap.size ≤ W4.heap.size) := by rw [Hid, ← hW4]; simpa [World.setRow] using g4.size
    clear z1 z2 m6 i6 g4 gw hh6 HEi HX63 HX83 hn6 hn8 hn3
    go_upto_region 9 with (refine wpList_store_aut (b := b6) rfl rfl rfl rfl HO6.out HY6.out.1 HY6n.out.1 HY6n.out.2 ?_)
    try rw [hW4]
    clear hW4 HO6 HA3 HY6
    go_wp2_with (first | (refine wpList_load_aut (b := b2) rfl rfl rfl HA4.out.1 HSa.out ?_) | (refine wpList_load_aut (b := b2 + 1) rfl rfl rfl HA4.out.2.1 HSb.out ?_))
    refine (HTf.out _ HA4.out.2.2).mono ?_; rintro e w5 ⟨u8, D8, rfl, g5, z1, z2, m8, i8⟩
    obtain ⟨W5, hW5⟩ : ∃ W, w5.setRow b8 u8 = W := ⟨_, rfl⟩
    have hn6 := HN6.out
    have hn8 := HN8.out
    have hn3 := HN3.out
    have hn4 := HN4.out
    have HO8 := hidd (heap_kept g5 HX84.out)
    have gw : Grew w W5 := by rw [← hW5]; exact setRow_grew (HA4.out.2.2.trans g5) (by rw [HWs.out.1]; omega) u8
    have hh8 : W5.heap[b8]? = some (.cells u8 26 (0, 0)) := by rw [← hW5]; exact setRow_heap _ b8 _ u8 _ _ HO8.out
    have HA5 : Hid (W5.heap[b2]? = some (.cells av 26 (0, 0)) ∧ W5.heap[b2 + 1]? = some (.cells bv 26 (0, 0)) ∧ Grew w W5) := by
      refine ⟨?_, ?_, gw⟩
      · rw [← hW5]; exact keep_ne (heap_kept g5 HA4.out.1) (by omega) u8
      · rw [← hW5]; exact keep_ne (heap_kept g5 HA4.out.2.1) (by omega) u8
    have HX65 : Hid (W5.heap[b6]? = some (.cells u6 26 (0, 0))) := by rw [Hid, ← hW5]; exact keep_ne (heap_kept g5 HX6.out.1) (by omega) u8
    obtain rfl := HX6.out.2.2.one i8 fun l => rfl
    have HSm : Hid (Calls Try.prog 15 #[.agg u6, .agg u8] W5 fun e w' => e = .returned (.bool true) ∧ Grew W5 w') := by
      rw [Hid, ← hW5]
      exact two_same ((HX6.out.2.1.grow g5).over (by omega) u8) (m8.over (by omega) u8) HX6.out.2.2.len
    have HY8n := hidd (And.intro z1 z2)
    have HX85 := hidd hh8
    have HN5 : Hid (b8 < W5.heap.size) := (Array.getElem?_eq_some_iff.1 hh8).1
    clear z1 z2 m8 i8 g5 gw hh8 HTf HX6 HX84 HN3 HN4 hn6 hn8 hn3 hn4
    go_upto_region 10 with (refine wpList_store_aut (b := b8) rfl rfl rfl rfl HO8.out HY8.out.1 HY8n.out.1 HY8n.out.2 ?_)
    try rw [hW5]
    clear hW5 HO8 HA4 HY8
    go_wp2_with fail
    refine oper_load_autZ (b := b6) rfl rfl HX65.out HY6n.out.1 ?_
    go_wp2_with fail
    refine oper_load_autZ (b := b8) rfl rfl HX85.out HY8n.out.1 ?_
    go_wp2_with fail
    refine HSm.out.mono ?_; rintro e w6 ⟨rfl, g6⟩
    have HA6 := hidd (And.intro (heap_kept g6 HA5.out.1) (And.intro (heap_kept g6 HA5.out.2.1) (HA5.out.2.2.trans g6)))
    have HX66 := hidd (heap_kept g6 HX65.out)
    have HX86 := hidd (heap_kept g6 HX85.out)
    have HN6b : Hid (b8 < w6.heap.size) := Nat.lt_of_lt_of_le HN5.out g6.size
    clear g6 HA5 HX65 HX85 HSm HN5
    go_upto_region 12 with fail
    go_wp2_with (refine wpList_load_aut (b := b2) rfl rfl rfl HA6.out.1 HSa.out ?_)
    refine (HNo.out _ HA6.out.2.2).mono ?_; rintro e w7 ⟨t6, E6, rfl, g7, z1, z2, m6, i6⟩
    obtain ⟨W7, hW7⟩ : ∃ W, w7.setRow b6 t6 = W := ⟨_, rfl⟩
    have hn6 := HN6.out
    have hn8 := HN8.out
    have hn3 := HN6b.out
    have HO6 := hidd (heap_kept g7 HX66.out)
    have gw : Grew w W7 := by rw [← hW7]; exact setRow_grew (HA6.out.2.2.trans g7) (by rw [HWs.out.1]; omega) t6
    have hh6 : W7.heap[b6]? = some (.cells t6 26 (0, 0)) := by rw [← hW7]; exact setRow_heap _ b6 _ t6 _ _ HO6.out
    have HA7 : Hid (W7.heap[b2]? = some (.cells av 26 (0, 0)) ∧ Grew w W7) := by
      refine ⟨?_, gw⟩
      rw [← hW7]; exact keep_ne (heap_kept g7 HA6.out.1) (by omega) t6
    have HX87 : Hid (W7.heap[b8]? = some (.cells u8 26 (0, 0))) := by rw [Hid, ← hW7]; exact keep_ne (heap_kept g7 HX86.out) (by omega) t6
    have HY6z := hidd (And.intro z1 z2)
    have HX6 : Hid (W7.heap[b6]? = some (.cells t6 26 (0, 0)) ∧ TwN w6.heap.size W7 t6 E6 ∧ TwIs F (fun l => !(raA A).tak 0 l) E6) := ⟨hh6, by rw [← hW7]; exact m6.over (by omega) t6, i6⟩
    have HN7 : Hid (w6.heap.size ≤ W7.heap.size) := by rw [Hid, ← hW7]; simpa [World.setRow] using g7.size
    clear z1 z2 m6 i6 g7 gw hh6 HNo HX66 HX86 hn6 hn8 hn3
    go_upto_region 13 with (refine wpList_store_aut (b := b6) rfl rfl rfl rfl HO6.out HY6n.out.1 HY6z.out.1 HY6z.out.2 ?_)
    try rw [hW7]
    clear hW7 HO6 HA6 HY6n
    go_wp2_with (refine wpList_load_aut (b := b2) rfl rfl rfl HA7.out.1 HSa.out ?_)
    refine (HNr.out _ HA7.out.2).mono ?_; rintro e w8 ⟨t8, E8, rfl, g8, z1, z2, m8, i8⟩
    obtain ⟨W8, hW8⟩ : ∃ W, w8.setRow b8 t8 = W := ⟨_, rfl⟩
    have hn6 := HN6.out
    have hn8 := HN8.out
    have hn3 := HN6b.out
    have hn4 := HN7.out
    have HO8 := hidd (heap_kept g8 HX87.out)
    have HG8 : Hid (Grew w W8) := by rw [Hid, ← hW8]; exact setRow_grew (HA7.out.2.trans g8) (by rw [HWs.out.1]; omega) t8
    have hh8 : W8.heap[b8]? = some (.cells t8 26 (0, 0)) := by rw [← hW8]; exact setRow_heap _ b8 _ t8 _ _ HO8.out
    have HX68 : Hid (W8.heap[b6]? = some (.cells t6 26 (0, 0))) := by rw [Hid, ← hW8]; exact keep_ne (heap_kept g8 HX6.out.1) (by omega) t8
    obtain rfl := HX6.out.2.2.one i8 fun l => rfl
    have HSm : Hid (Calls Try.prog 15 #[.agg t6, .agg t8] W8 fun e w' => e = .returned (.bool true) ∧ Grew W8 w') := by
      rw [Hid, ← hW8]
      exact two_same ((HX6.out.2.1.grow g8).over (by omega) t8) (m8.over (by omega) t8) HX6.out.2.2.len
    have HY8z := hidd (And.intro z1 z2)
    have HX88 := hidd hh8
    clear z1 z2 m8 i8 g8 hh8 HNr HX6 HX87 HN7 HN6b hn6 hn8 hn3 hn4
    go_upto_region 14 with (refine wpList_store_aut (b := b8) rfl rfl rfl rfl HO8.out HY8n.out.1 HY8z.out.1 HY8z.out.2 ?_)
    try rw [hW8]
    clear hW8 HO8 HA7 HY8n
    go_wp2_with fail
    refine oper_load_autZ (b := b6) rfl rfl HX68.out HY6z.out.1 ?_
    go_wp2_with fail
    refine oper_load_autZ (b := b8) rfl rfl HX88.out HY8z.out.1 ?_
    go_wp2_with fail
    refine HSm.out.mono ?_; rintro e w9 ⟨rfl, g9⟩
    have HG9 := hidd (HG8.out.trans g9)
    clear g9
    go_wp2_with fail
    go_ret
    exact ⟨rfl, HG9.out⟩
end Go.Proofs.Ytkkdpafkafjfgaa
