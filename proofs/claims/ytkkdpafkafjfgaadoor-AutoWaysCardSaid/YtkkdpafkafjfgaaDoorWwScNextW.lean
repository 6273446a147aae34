/- The machine's method next: the next way. -/
import Derived.Test.YtkkdpafkafjfgaaDoorWwScEnter
import Derived.Test.YtkkdpafkafjfgaaDoorWwScInv
import Derived.Deep.LoopGhost
namespace Go.Proofs.YtkkdpafkafjfgaaDoor
open Go.RowKit
set_option linter.unusedVariables false
section
variable {R : List Rule} {X : Far} {w0 w : World} {bm tb nb no : Nat} {q kp : Option Addr} {rv : Value} {s : ByteArray} {fuel ways : Nat} {m : MS} {p : Pat} {t : Todo} {k : List Todo} {a : Nat}
theorem resume_any (h : MacRep X w0 bm rv s fuel m w) (hh : Head w0 w tb nb no q t k) (hI : Inv s.size fuel ways (some (t :: k, a)) m) (h0 : t.op ≠ 0) (hs : s.size ≤ 65536) (hw : ways ≤ 100000) : ResumeCalls X w0 bm rv s fuel m w tb t k a := by
  obtain ⟨b1, b2, b3⟩ := hI.small hw
  obtain ⟨hT, hP⟩ := hI.st
  have hst := hT.start t (by simp)
  have hg := hT.good t (by simp)
  have ho := hg.op
  have ha := hT.at_
  have cases : t.op = 1 ∨ t.op = 2 ∨ t.op = 3 ∨ t.op = 4 ∨ t.op = 5 ∨ t.op = 6 ∨ t.op = 7 ∨ t.op = 8 := by omega
  rcases cases with e | e | e | e | e | e | e | e
  · exact resume_more h hh e hs ha (by omega)
  · exact resume_next h hh e hs ha (by omega)
  · exact resume_pairs h hh e hs ha (by omega)
  · exact resume_again h hh e (hg.kids (Or.inl e))
  · exact resume_loop h hh e hs ha (by omega) (by omega)
  · exact resume_give h hh e hs ha hst
  · exact resume_say h hh e hs ha hst (by omega)
  · exact resume_fence h hh e
theorem enter_any (h : MacRep X w0 bm rv s fuel m w) (hp : PatAt w0 nb no p) (hk : TodoAt w0 w kp k) (he : errW p = 0) (hc : m.choices.length ≤ 500000000) (hR : RulesAt w0 rv R) (hR2 : R.length ≤ 64) :
    EnterCalls R X w0 bm rv s fuel m w nb no p kp k a (if inner p = true then 7 else 0) := by
  obtain ⟨hn, _⟩ := errW_node he
  obtain ⟨k1, k2⟩ := node_kids hn
  cases hin : inner p with
  | false => exact enter_other h hp hin
  | true =>
    rw [if_pos rfl]
    have z7 : ∀ {r : Option (List Todo) × MS}, r.1 ≠ none → ∀ {z z' : Int} {e w'}, Enters X w0 bm rv s fuel w z r e w' → Enters X w0 bm rv s fuel w z' r e w' := by
      intro r hr z z' e w' hE
      unfold Enters at hE ⊢
      cases h1 : r.1 with
      | none => exact absurd h1 hr
      | some k => rw [h1] at hE; exact hE
    have cases : p.kind = 7 ∨ p.kind = 13 ∨ p.kind = 14 ∨ p.kind = 18 ∨ p.kind = 19 ∨ p.kind = 20 ∨ p.kind = 21 ∨ p.kind = 22 ∨ p.kind = 24 := by
      simp only [inner, Bool.or_eq_true, decide_eq_true_eq] at hin
      omega
    rcases cases with e | e | e | e | e | e | e | e | e
    · exact (enter_many (a := a) (R := R) h hp hk (by omega)).mono fun _ _ => z7 (by unfold enter; rw [if_pos e]; simp)
    · exact (enter_many (a := a) (R := R) h hp hk (by omega)).mono fun _ _ => z7 (by unfold enter; rw [if_neg (by omega), if_pos e]; simp)
    · exact (enter_many (a := a) (R := R) h hp hk (by omega)).mono fun _ _ => z7 (by unfold enter; rw [if_neg (by omega), if_neg (by omega), if_pos e]; simp)
    · exact (enter_cat (a := a) (R := R) h hp hk e (by have := k1 (Or.inl e); omega)).mono fun _ _ => z7 (by unfold enter; rw [if_neg (by omega), if_neg (by omega), if_neg (by omega), if_pos e]; simp)
    · exact (enter_alt (a := a) (R := R) h hp hk e (by have := k1 (Or.inr e); omega) (k1 (Or.inr e)).2 (by omega)).mono fun _ _ => z7 (by unfold enter; rw [if_neg (by omega), if_neg (by omega), if_neg (by omega), if_neg (by omega), if_pos e]; simp)
    · exact (enter_arbno (a := a) (R := R) h hp hk e (by omega)).mono fun _ _ => z7 (by unfold enter; rw [if_neg (by omega), if_neg (by omega), if_neg (by omega), if_neg (by omega), if_neg (by omega), if_pos e]; simp)
    · exact (enter_give (a := a) (R := R) h hp hk (by omega) (by have := k2 (by omega); omega)).mono fun _ _ => z7 (by unfold enter; rw [if_neg (by omega), if_neg (by omega), if_neg (by omega), if_neg (by omega), if_neg (by omega), if_neg (by omega), if_pos e]; simp)
    · exact (enter_give (a := a) (R := R) h hp hk (by omega) (by have := k2 (by omega); omega)).mono fun _ _ => z7 (by unfold enter; rw [if_neg (by omega), if_neg (by omega), if_neg (by omega), if_neg (by omega), if_neg (by omega), if_neg (by omega), if_neg (by omega), if_pos e]; simp)
    · exact enter_call h hp hk e hR hR2
theorem pop_end {x : Ch} {cs : List Ch} {sv : Value} {gp kq gq : Option Addr} {g cap : Nat} {us : List Value} (hm : m.choices = x :: cs)
    (h : MacSt X w0 bm rv s fuel m w sv (.slice (some ⟨g, 0, none⟩) (cs.length + 1) cap) gp (us ++ [.pointer kq, .int .i64 x.at_, .pointer gq])) (h1 : ChsAt w0 w cs us) (h2 : GiftsAt w gq x.given) :
    MacRep X w0 bm rv s fuel { m with choices := cs, given := x.given } ((w.setCell ⟨bm, 5, none⟩ (.slice (some ⟨g, 0, none⟩) cs.length cap)).setCell ⟨bm, 6, none⟩ (.pointer gq)) ∧
    Keep w ((w.setCell ⟨bm, 5, none⟩ (.slice (some ⟨g, 0, none⟩) cs.length cap)).setCell ⟨bm, 6, none⟩ (.pointer gq)) := by
  have hown : w.ownsRow w0.heap.size 190 3 (.slice (some ⟨g, 0, none⟩) cs.length cap) cs.length us := by
    have h3 := h.own
    rw [hm] at h3
    have hl : us.length = cs.length * 3 := by
      have := h3.1
      rw [List.length_append] at this
      simp at this; omega
    refine ⟨hl, .inr ?_⟩
    rcases h3.2 with ⟨e, _⟩ | ⟨g', cap', cur, e, a1, a2, a3, a4, a5, a6⟩
    · cases e
    · simp only [Value.slice.injEq, Option.some.injEq, Addr.mk.injEq] at e
      obtain ⟨⟨rfl, _⟩, _, rfl⟩ := e
      simp only [List.length_cons] at a3 a6
      refine ⟨g, cap, cur, rfl, a1, a2, by omega, a4, a5, ?_⟩
      have e5 := congrArg (List.take (cs.length * 3)) a6
      rw [List.take_take, Nat.min_eq_left (by omega), ← hl, List.take_left] at e5
      rw [← hl]; exact e5
  obtain ⟨h4, k4⟩ := choices_set (m' := { m with choices := cs }) h ⟨rfl, rfl, rfl, Nat.le_refl _, fun _ _ _ => rfl⟩ hown h1 rfl rfl rfl rfl
  obtain ⟨h5, k5⟩ := given_set (m' := { m with choices := cs, given := x.given }) (gp' := gq) h4 (h2.kept k4) rfl rfl rfl rfl
  exact ⟨⟨_, _, _, _, h5⟩, k4.trans k5⟩
end
end Go.Proofs.YtkkdpafkafjfgaaDoor
namespace Go.Proofs.YtkkdpafkafjfgaaDoor
open Go.RowKit
set_option linter.unusedVariables false
def Nexts (X : Far) (w0 : World) (bm : Nat) (rv : Value) (s : ByteArray) (fuel ways : Nat) (w : World) (out : Out) (e : Ending) (w' : World) : Prop :=
  match out with
  | .found a m' => e = .returned (.tuple #[.int .i64 a, .bool true, .int .i64 0]) ∧ MacRep X w0 bm rv s fuel m' w' ∧ Keep w w' ∧ Inv s.size fuel (ways + 1) none m' ∧ a ≤ s.size ∧ m'.given.length ≤ 100000
  | .over m' => e = .returned (.tuple #[.int .i64 0, .bool false, .int .i64 0]) ∧ MacRep X w0 bm rv s fuel m' w' ∧ Keep w w' ∧ Inv s.size fuel ways none m'
  | .fuel => e = .returned (.tuple #[.int .i64 0, .bool false, .int .i64 10]) ∧ Grew w0 w' ∧ Keep w w'
  | .name => e = .returned (.tuple #[.int .i64 0, .bool false, .int .i64 7]) ∧ Grew w0 w' ∧ Keep w w'
section
variable {R : List Rule} {X : Far} {w0 w : World} {bm tb nb no : Nat} {q kp : Option Addr} {rv : Value} {s : ByteArray} {fuel ways : Nat} {m : MS} {p : Pat} {t : Todo} {k : List Todo} {a : Nat}
def Free (n : Nat) (x : Value) (a : Act) : Prop := ∃ l : List Value, a = { tmps := (x :: l).toArray, defers := [] } ∧ l.length = n
def FreeN : Nat → (List Value → Prop) → Prop
  | 0, P => P []
  | n + 1, P => ∀ v, FreeN n fun l => P (v :: l)
theorem FreeN.at_ : ∀ {n : Nat} {P : List Value → Prop}, FreeN n P → ∀ l : List Value, l.length = n → P l
  | 0, P, h, [], _ => h
  | 0, P, h, _ :: _, e => by simp at e
  | n + 1, P, h, [], e => by simp at e
  | n + 1, P, h, v :: l, e => FreeN.at_ (h v) l (by simpa using e)
theorem Free.open {n : Nat} {x : Value} {a : Act} {P : Act → Prop} (h : Free n x a) (hP : FreeN n fun l => P { tmps := (x :: l).toArray, defers := [] }) : P a := by
  obtain ⟨l, rfl, e⟩ := h
  exact hP.at_ l e
def AtLabel (R : List Rule) (X : Far) (w0 : World) (bm : Nat) (rv : Value) (s : ByteArray) (fuel ways : Nat) (w : World) (out : Out) (n : Nat) (w' : World) : Prop :=
  ∃ m, MacRep X w0 bm rv s fuel m w' ∧ Keep w w' ∧ Inv s.size fuel ways none m ∧ runs R s fuel n none m = some out
def InRound (R : List Rule) (X : Far) (w0 : World) (bm : Nat) (rv : Value) (s : ByteArray) (fuel ways : Nat) (w : World) (out : Out) (n j : Nat) (K : List Todo) (a : Nat) (m1 : MS) (kp : Option Addr) (wr : World) : Prop :=
  TodoAt w0 wr kp K ∧ MacRep X w0 bm rv s fuel m1 wr ∧ Keep w wr ∧ Inv s.size fuel ways (some (K, a)) m1 ∧ runs R s fuel j (some (K, a)) m1 = some out ∧ j ≤ n
theorem enter_outer (hin : inner p = false) : enter R p a k m = (none, m) := by
  obtain ⟨i1, i2, i3, i4, i5, i6, i7, i8, i9⟩ := inner_false hin
  unfold enter; rw [if_neg i1, if_neg i2, if_neg i3, if_neg i4, if_neg i5, if_neg i6, if_neg i7, if_neg i8, if_neg i9]
theorem tick_set {sv cv : Value} {gp : Option Addr} {vs : List Value} (h : MacSt X w0 bm rv s fuel m w sv cv gp vs) :
    MacRep X w0 bm rv s fuel { m with ticks := m.ticks + 1 } (w.setCell ⟨bm, 3, none⟩ (.int .i64 ((m.ticks : Int) + 1))) ∧ Keep w (w.setCell ⟨bm, 3, none⟩ (.int .i64 ((m.ticks : Int) + 1))) := by
  have k2 : Keep w (w.setCell ⟨bm, 3, none⟩ (.int .i64 ((m.ticks : Int) + 1))) := (Keep.refl w).setCell h.mac (by decide) (by decide) _
  refine ⟨⟨sv, cv, gp, vs, ?_, h.given.kept k2, ?_, h.chs.kept k2, ?_, h.grew.setCell h.hbm _, h.hbm, h.far.setCell h.mac (by decide) _ _⟩, k2⟩
  · rw [setCell_heap_same h.mac]; rfl
  · exact ownsRow_setCell_other h.own (ownBlock_ne h.own h.mac (by decide)) _
  · exact ownsRow_setCell_other h.said (ownBlock_ne h.said h.mac (by decide)) _
theorem MacSt.chsV {sv cv : Value} {gp : Option Addr} {vs : List Value} (h : MacSt X w0 bm rv s fuel m w sv cv gp vs) : ∃ p c, cv = .slice p m.choices.length c := by
  rcases h.own.2 with ⟨e, h2⟩ | ⟨g, c, _, e, _⟩
  · exact ⟨none, 0, by rw [e, h2]⟩
  · exact ⟨_, _, e⟩
set_option maxRecDepth 100000 in
set_option maxHeartbeats 8000000 in
theorem next_any {n : Nat} {out : Out} (h : MacRep X w0 bm rv s fuel m w) (hI : Inv s.size fuel ways none m) (hr : runs R s fuel n none m = some out) (hs : s.size ≤ 65536) (hw : ways ≤ 100000) (hRA : RulesAt w0 rv R) (hR2 : R.length ≤ 64) (hRe : ∀ r ∈ R, errW r.2 = 0) (hT : TabP w0) :
    Calls Tryd.prog 51 #[.pointer (some ⟨bm, 0, none⟩)] w fun e w' => Nexts X w0 bm rv s fuel ways w out e w' := by
  have HA : AtLabel R X w0 bm rv s fuel ways w out n w := ⟨m, h, Keep.refl w, hI, hr⟩
  clear h hI hr
  go_enter Tryd.func51, Tryd.ntmps51
  go_wp2
  refine wp_scope_ghost_skip 0 (fun n a w' => AtLabel R X w0 bm rv s fuel ways w out n w' ∧ Free 123 (.pointer (some ⟨bm, 0, none⟩)) a) rfl ?_ ?_
  · intro Q' hQ
    go_wp2
    go_step3
    go_step
    rename_i K hK
    refine hK _ _ ?_
    refine hQ n _ _ ?_
    exact ⟨HA, _, rfl, rfl⟩
  · clear HA
    rintro n a w1 ⟨⟨m, h, hk, hI, hr⟩, hF⟩
    refine Free.open (P := fun a => Code.wp _ _ _ a _) hF ?_
    clear hF
    intro u1 u2 u3 u4 u5 u6 u7 u8 u9 u10 u11 u12 u13 u14 u15 u16 u17 u18 u19 u20 u21 u22 u23 u24 u25 u26 u27 u28 u29 u30 u31 u32 u33 u34 u35 u36 u37 u38 u39 u40 u41 u42 u43 u44 u45 u46 u47 u48 u49 u50 u51 u52 u53 u54 u55 u56 u57 u58 u59 u60 u61 u62 u63 u64 u65 u66 u67 u68 u69 u70 u71 u72 u73 u74 u75 u76 u77 u78 u79 u80 u81 u82 u83 u84 u85 u86 u87 u88 u89 u90 u91 u92 u93 u94 u95 u96 u97 u98 u99 u100 u101 u102 u103 u104 u105 u106 u107 u108 u109 u110 u111 u112 u113 u114 u115 u116 u117 u118 u119 u120 u121 u122 u123
    show Code.wp _ _ _ _ _
    obtain ⟨n, rfl⟩ : ∃ j, n = j + 1 := by
      cases n with
      | zero => rw [runs] at hr; cases hr
      | succ j => exact ⟨j, rfl⟩
    cases hc : m.choices with
    | nil =>
      have ho : out = .over m := by
        unfold runs at hr
        rw [hc] at hr
        dsimp only at hr
        cases hr; rfl
      subst ho
      have HE : Hid (MacRep X w0 bm rv s fuel m w1 ∧ Keep w w1 ∧ Inv s.size fuel ways none m) := ⟨h, hk, hI⟩
      obtain ⟨sv, cv, gp, vs, h⟩ := h
      obtain ⟨pv, cp, rfl⟩ := h.chsV
      have c5 := h.c5
      rw [hc, List.length_nil] at c5
      clear h hk hI hr hc hRA hRe hT
      go_wp2_with fail
      go_ret3
      exact ⟨rfl, HE.out⟩
    | cons x cs =>
      have hr1 : runs R s fuel n (some (x.k, x.at_)) { m with choices := cs, given := x.given } = some out := by
        unfold runs at hr
        rw [hc] at hr
        exact hr
      have hI1 := hI.pop hc
      obtain ⟨b1, b2, b3⟩ := hI.small hw
      rw [hc, List.length_cons] at b1
      obtain ⟨sv, cv, gp, vs, h⟩ := h
      have hch := h.chs
      rw [hc] at hch
      obtain ⟨us, kq, gq, rfl, hcs, hkq, hgq⟩ := hch
      have hown := h.own
      rw [hc, List.length_cons] at hown
      obtain ⟨g, cap, rfl, hg1, hg2⟩ := hown.form (by omega)
      have hul : us.length = cs.length * 3 := by
        have := hown.1
        rw [List.length_append] at this
        simp at this; omega
      have cA0 : w1.cell? ⟨g, cs.length * 3, none⟩ = some (.pointer kq) := by
        rw [hown.cellAt _ (by omega), ← hul]; simp
      have cA1 : w1.cell? ⟨g, cs.length * 3 + 1, none⟩ = some (.int .i64 x.at_) := by
        rw [hown.cellAt _ (by omega), ← hul, List.getElem?_append_right (by omega)]; simp
      have cA2 : w1.cell? ⟨g, cs.length * 3 + 2, none⟩ = some (.pointer gq) := by
        rw [hown.cellAt _ (by omega), ← hul, List.getElem?_append_right (by omega)]; simp
      have hcap : cs.length + 1 ≤ cap := by
        rcases hown.2 with ⟨e, _⟩ | ⟨g', cap', cur, e, _, _, a3, _⟩
        · cases e
        · cases e; exact a3
      have c5 := h.c5
      have f5 := h.free 5
      have f6 := h.free 6
      have c6 := h.c6
      have hlt := h.lt
      replace c5 : ∀ o, (w1.alloc o).cell? ⟨bm, 5, none⟩ = some (.slice (some ⟨g, 0, none⟩) (cs.length + 1) cap) := fun o => ((Grew.refl w1).alloc o).keeps c5
      have cA0' := cA0
      replace cA0 : ∀ o, (w1.alloc o).cell? ⟨g, cs.length * 3, none⟩ = some (.pointer kq) := fun o => ((Grew.refl w1).alloc o).keeps cA0
      have cA1' := cA1
      replace cA1 : ∀ o, (w1.alloc o).cell? ⟨g, cs.length * 3 + 1, none⟩ = some (.int .i64 x.at_) := fun o => ((Grew.refl w1).alloc o).keeps cA1
      have cA2' := cA2
      replace cA2 : ∀ o, (w1.alloc o).cell? ⟨g, cs.length * 3 + 2, none⟩ = some (.pointer gq) := fun o => ((Grew.refl w1).alloc o).keeps cA2
      have F5 : ∀ o, (w1.alloc o).frozen? ⟨bm, 5, none⟩ = false := fun o => by rw [((Grew.refl w1).alloc o).frozen hlt]; exact f5
      have F6 : ∀ o, (w1.alloc o).frozen? ⟨bm, 6, none⟩ = false := fun o => by rw [((Grew.refl w1).alloc o).frozen hlt]; exact f6
      have c50 := h.c5
      have HP := hidd (pop_end hc h hcs hgq)
      have HR := hidd hr1
      have HI := hidd hI1
      have HK := hidd hk
      have HQ := hidd hkq
      have HT := hidd hT
      have HRA := hidd hRA
      have HRE := hidd hRe
      clear hr hr1 hI hI1 hk h hcs hkq hgq hown hT hRA hRe b2 b3 hul hg1
      go_wp2_with fail
      go_region
      go_wp2_with fail
      go_region
      go_wp2_with fail
      go_region
      go_wp2_with fail
      go_loopg [5, 6] n (fun j k5 k6 wr => ∃ (K : List Todo) (a : Nat) (m1 : MS) (kp : Option Addr), k5 = .pointer kp ∧ k6 = .int .i64 a ∧ Hid (InRound R X w0 bm rv s fuel ways w out n j K a m1 kp wr))
      case atStart =>
        have g0 : Grew ((w1.setCell ⟨bm, 5, none⟩ (.slice (some ⟨g, 0, none⟩) cs.length cap)).setCell ⟨bm, 6, none⟩ (.pointer gq)) _ := ((((Grew.refl _).alloc (.cells #[.pointer kq, .int .i64 x.at_, .pointer gq] 190)).drew).drew).drew
        exact ⟨x.k, x.at_, _, kq, rfl, rfl, ⟨HQ.out.kept (HP.out.2.trans (Keep.of_grew g0)), HP.out.1.kept g0, HK.out.trans (HP.out.2.trans (Keep.of_grew g0)), HI.out, HR.out, Nat.le_refl _⟩⟩
      case round =>
        clear HP HR HI HK HQ hlt hg2 hcap hc b1 c5 cA0 cA1 cA2 cA0' cA1' cA2' f5 f6 c6 c50 F5 F6
        obtain ⟨K, a, m1, kp, rfl, rfl, HI⟩ := hrel
        obtain ⟨j, rfl⟩ : ∃ j, gk = j + 1 := by
          cases gk with
          | zero => have := HI.out.2.2.2.2.1; rw [runs] at this; cases this
          | succ j => exact ⟨j, rfl⟩
        cases K with
        | nil =>
          obtain ⟨h1, h2, h3, h4, h5, h6⟩ := HI.out
          have e : kp = none := h1
          subst e
          have ho : out = .found a m1 := by rw [runs] at h5; cases h5; rfl
          subst ho
          have HE : Hid (MacRep X w0 bm rv s fuel m1 wr ∧ Keep w wr ∧ Inv s.size fuel (ways + 1) none m1 ∧ a ≤ s.size ∧ m1.given.length ≤ 100000) := ⟨h2, h3, h4.found, h4.st.1.at_, (h4.small hw).2.2 _ _ rfl⟩
          clear HI h1 h2 h3 h4 h5 h6 HRE HRA HT
          go_wp2_with fail
          go_ret3
          exact ⟨rfl, HE.out⟩
        | cons t k =>
          obtain ⟨h1, h2, h3, h4, h5, h6⟩ := HI.out
          obtain ⟨tb, nb, no, q, rfl, hh⟩ := h1.head
          have t0 := hh.t0
          have t1 := hh.t1
          have t3 := hh.t3
          obtain ⟨s1, s2, s3⟩ := h4.small hw
          by_cases h0 : t.op = 0
          · obtain ⟨sv, cv, gp, vs, hM⟩ := id h2
            have c3 := hM.c3
            have c2 := hM.c2
            have f3 := hM.free 3
            rw [h0] at t0
            have htk := h4.ticks
            have hfl : fuel ≤ 100000 := h4.fuel
            have HK := hidd h3
            by_cases htf : m1.ticks = fuel
            · have ho : out = .fuel := by
                rw [runs, if_pos h0, if_pos htf] at h5; cases h5; rfl
              subst ho
              have HG := hidd h2.grew
              rw [htf] at c3
              clear HI h1 h2 h3 h4 h5 hh h0 hM htf htk
              go_wp2_with fail
              go_quiet (fail)
              go_wp2_with fail
              go_ret3
              exact ⟨rfl, HG.out.drewN _, HK.out.drewN _⟩
            · have hne : (m1.ticks == fuel) = false := beq_eq_false_iff_ne.2 htf
              have hC := h4.come h0 htf
              have hT2 : ∀ q : Nat, MacRep X w0 bm rv s fuel { m1 with ticks := m1.ticks + 1 } ((wr.drewN q).setCell ⟨bm, 3, none⟩ (.int .i64 ((m1.ticks : Int) + 1))) ∧ Keep wr ((wr.drewN q).setCell ⟨bm, 3, none⟩ (.int .i64 ((m1.ticks : Int) + 1))) := fun q => by
                have h1 := tick_set (hM.kept ((Grew.refl wr).drewN q))
                exact ⟨h1.1, (Keep.of_grew ((Grew.refl wr).drewN q)).trans h1.2⟩
              have HH := hidd hh
              have H2 := hidd hT2
              have HC := hidd hC
              have H0 := hidd h0
              have H5 := hidd h5
              have HTF := hidd htf
              have S1 := hidd s1
              have S2 := hidd s2
              have HJ := hidd h6
              clear HI h1 h2 h3 h4 h5 h6 hh h0 hM htf hC hT2 s1 s2 s3
              go_wp2_with fail
              go_quiet (fail)
              go_wp2_with fail
              obtain ⟨hm2, hk2⟩ := H2.out nq
              generalize World.setCell (wr.drewN nq) ⟨bm, 3, none⟩ (.int .i64 ((m1.ticks : Int) + 1)) = w2 at hm2 hk2 ⊢
              have hh := HH.out.kept hk2
              replace t1 := hh.t1
              replace t3 := hh.t3
              clear t0 c2 c3 f3 hne htk
              have hgood := HC.out.good
              have hEn : ∀ w3, Grew w2 w3 → EnterCalls R X w0 bm rv s fuel { m1 with ticks := m1.ticks + 1 } w3 nb no t.node q k a (if inner t.node = true then 7 else 0) := fun w3 g =>
                enter_any (hm2.kept g) hh.p (hh.k.kept (Keep.of_grew g)) hgood S1.out HRA.out hR2
              have HM2 := hidd hm2
              have HK2 := hidd (HK.out.trans hk2)
              have HHd := hidd hh
              clear hm2 hk2 hh H2 HH HK
              have h5 := H5.out
              rw [runs, if_pos H0.out, if_neg HTF.out] at h5
              dsimp only at h5
              cases hin : inner t.node with
              | true =>
                rw [if_pos hin] at h5
                cases hx : enter R t.node a k { m1 with ticks := m1.ticks + 1 } with
                | mk kk m2 =>
                  rw [hx] at h5
                  cases kk with
                  | none =>
                    have ho : out = .name := by cases h5; rfl
                    subst ho
                    have HEn : Hid (∀ w3, Grew w2 w3 → Calls Tryd.prog 93 #[.pointer (some ⟨bm, 0, none⟩), .pointer (some ⟨nb, no, none⟩), .int .i64 a, .pointer q] w3 fun e w' => e = .returned (.tuple #[.pointer none, .bool false, .int .i64 7]) ∧ Grew w0 w' ∧ Keep w3 w') := fun w3 g => (hEn w3 g).mono fun e w' hr => by
                      unfold Enters at hr; rw [hx, hin] at hr; exact ⟨hr.1, hr.2.1.grew, hr.2.2⟩
                    clear hEn h5 hx hin H5 HRE HRA HT
                    go_region_held3 (fun w' => w'.cell? ⟨tb, 1, none⟩ = some (.pointer (some ⟨nb, no, none⟩)) ∧ w'.cell? ⟨tb, 3, none⟩ = some (.pointer q)) (first | go_keep | exact hnm)
                      (first
                       | (go_at_call 93; refine (HEn.out _ (by first | exact (Grew.refl _).drew | exact (Grew.refl _).drewN _)).mono ?_; rintro e w3 ⟨rfl, g3, k3⟩; have hnm : w3.cell? ⟨tb, 1, none⟩ = some (.pointer (some ⟨nb, no, none⟩)) ∧ w3.cell? ⟨tb, 3, none⟩ = some (.pointer q) := ⟨(HHd.out.kept ((Keep.of_grew (Grew.refl w2).drew).trans k3)).t1, (HHd.out.kept ((Keep.of_grew (Grew.refl w2).drew).trans k3)).t3⟩; have H3 : Hid (Grew w0 w3 ∧ Keep w w3) := ⟨g3, HK2.out.trans ((Keep.of_grew (Grew.refl w2).drew).trans k3)⟩; clear g3 k3))
                    all_goals
                      go_wp2_with fail
                      go_ret3
                      exact ⟨rfl, H3.out⟩
                  | some k' =>
                    have HEn : Hid (∀ w3, Grew w2 w3 → Calls Tryd.prog 93 #[.pointer (some ⟨bm, 0, none⟩), .pointer (some ⟨nb, no, none⟩), .int .i64 a, .pointer q] w3 fun e w' => (∃ kp, e = .returned (.tuple #[.pointer kp, .bool true, .int .i64 0]) ∧ TodoAt w0 w' kp k') ∧ MacRep X w0 bm rv s fuel m2 w' ∧ Keep w3 w') := fun w3 g => (hEn w3 g).mono fun e w' hr => by
                      unfold Enters at hr; rw [hx] at hr; exact hr
                    have H5' := hidd h5
                    have HI' := hidd (HC.out.enter HRE.out hin hx)
                    clear hEn h5 hx hin H5 HT
                    go_region_held3 (fun w' => w'.cell? ⟨tb, 1, none⟩ = some (.pointer (some ⟨nb, no, none⟩)) ∧ w'.cell? ⟨tb, 3, none⟩ = some (.pointer q)) (first | go_keep | exact hnm)
                      (first
                       | (go_at_call 93; refine (HEn.out _ (by first | exact (Grew.refl _).drew | exact (Grew.refl _).drewN _)).mono ?_; rintro e w3 ⟨⟨kp', rfl, hk'⟩, g3, k3⟩; have hnm : w3.cell? ⟨tb, 1, none⟩ = some (.pointer (some ⟨nb, no, none⟩)) ∧ w3.cell? ⟨tb, 3, none⟩ = some (.pointer q) := ⟨(HHd.out.kept ((Keep.of_grew (Grew.refl w2).drew).trans k3)).t1, (HHd.out.kept ((Keep.of_grew (Grew.refl w2).drew).trans k3)).t3⟩; have H3 : Hid (TodoAt w0 w3 kp' k' ∧ MacRep X w0 bm rv s fuel m2 w3 ∧ Keep w w3) := ⟨hk', g3, HK2.out.trans ((Keep.of_grew (Grew.refl w2).drew).trans k3)⟩; clear g3 k3 hk'))
                    all_goals
                      go_wp2_with fail
                      go_roundg j
                      case rel => exact ⟨k', a, m2, kp', rfl, rfl, ⟨H3.out.1, H3.out.2.1, H3.out.2.2, HI'.out, H5'.out, by have := HJ.out; omega⟩⟩
                      case measure => omega
              | false =>
                have hfin : inner t.node ≠ true := by rw [hin]; decide
                rw [if_neg hfin] at h5
                have he1 : enter R t.node a k { m1 with ticks := m1.ticks + 1 } = (none, { m1 with ticks := m1.ticks + 1 }) := enter_outer hin
                have HEn : Hid (∀ w3, Grew w2 w3 → Calls Tryd.prog 93 #[.pointer (some ⟨bm, 0, none⟩), .pointer (some ⟨nb, no, none⟩), .int .i64 a, .pointer q] w3 fun e w' => e = .returned (.tuple #[.pointer none, .bool false, .int .i64 0]) ∧ MacRep X w0 bm rv s fuel { m1 with ticks := m1.ticks + 1 } w' ∧ Keep w3 w') := fun w3 g => (hEn w3 g).mono fun e w' hr => by
                  unfold Enters at hr; rw [he1, if_neg hfin] at hr; exact hr
                have hEnd : ∀ w3, MacRep X w0 bm rv s fuel { m1 with ticks := m1.ticks + 1 } w3 → EndCalls X w0 bm rv s fuel { m1 with ticks := m1.ticks + 1 } w3 nb no t.node a := fun w3 h3 =>
                  end_any h3 HHd.out.p hin (errW_node hgood).1 hs HC.out.thr.at_ (by have := S1.out; show m1.choices.length ≤ _; omega) (by have := S2.out; show m1.said.length ≤ _; omega) HT.out
                have hI' := HC.out.leave (s := s) rfl
                cases hl : leave s t.node a { m1 with ticks := m1.ticks + 1 } with
                | mk x m2 =>
                  rw [hl] at h5 hI'
                  cases x with
                  | none =>
                    have HEd : Hid (∀ w3, MacRep X w0 bm rv s fuel { m1 with ticks := m1.ticks + 1 } w3 → Calls Tryd.prog 94 #[.pointer (some ⟨bm, 0, none⟩), .pointer (some ⟨nb, no, none⟩), .int .i64 a] w3 fun e w' => e = .returned (.int .i64 (-1)) ∧ MacRep X w0 bm rv s fuel m2 w' ∧ Keep w3 w') := fun w3 h3 => (hEnd w3 h3).mono fun e w' hr => by
                      unfold Ends at hr; rw [hl] at hr; exact hr
                    have H5' := hidd h5
                    have HI' := hidd hI'
                    clear hEn hEnd h5 hl hI' hin hfin he1 H5 HT
                    go_region_held3 (fun w' => w'.cell? ⟨tb, 1, none⟩ = some (.pointer (some ⟨nb, no, none⟩)) ∧ w'.cell? ⟨tb, 3, none⟩ = some (.pointer q)) (first | go_keep | exact hnm)
                      (first
                       | (go_at_call 93; refine (HEn.out _ (by first | exact (Grew.refl _).drew | exact (Grew.refl _).drewN _)).mono ?_; rintro e w3 ⟨rfl, g3, k3⟩; have hnm : w3.cell? ⟨tb, 1, none⟩ = some (.pointer (some ⟨nb, no, none⟩)) ∧ w3.cell? ⟨tb, 3, none⟩ = some (.pointer q) := ⟨(HHd.out.kept ((Keep.of_grew (Grew.refl w2).drew).trans k3)).t1, (HHd.out.kept ((Keep.of_grew (Grew.refl w2).drew).trans k3)).t3⟩; have H3 : Hid (MacRep X w0 bm rv s fuel { m1 with ticks := m1.ticks + 1 } w3 ∧ Keep w w3) := ⟨g3, HK2.out.trans ((Keep.of_grew (Grew.refl w2).drew).trans k3)⟩; clear g3 k3))
                    all_goals
                      obtain ⟨n1, n3⟩ := hnm
                      go_wp2_with fail
                      refine (HEd.out _ H3.out.1).mono ?_; rintro e w4 ⟨rfl, g4, k4⟩
                      have H4 := hidd (And.intro g4 (H3.out.2.trans k4))
                      clear g4 k4 n1 n3
                      go_wp2_with fail
                      go_step3
                      exact ⟨rfl, j, by have := HJ.out; omega, ⟨_, H4.out.1, H4.out.2, HI'.out, H5'.out⟩, _, rfl, rfl⟩
                  | some b =>
                    have HEd : Hid (∀ w3, MacRep X w0 bm rv s fuel { m1 with ticks := m1.ticks + 1 } w3 → Calls Tryd.prog 94 #[.pointer (some ⟨bm, 0, none⟩), .pointer (some ⟨nb, no, none⟩), .int .i64 a] w3 fun e w' => e = .returned (.int .i64 b) ∧ MacRep X w0 bm rv s fuel m2 w' ∧ Keep w3 w') := fun w3 h3 => (hEnd w3 h3).mono fun e w' hr => by
                      unfold Ends at hr; rw [hl] at hr; exact hr
                    have H5' := hidd h5
                    have HI' := hidd hI'
                    clear hEn hEnd h5 hl hI' hin hfin he1 H5 HT
                    go_region_held3 (fun w' => w'.cell? ⟨tb, 1, none⟩ = some (.pointer (some ⟨nb, no, none⟩)) ∧ w'.cell? ⟨tb, 3, none⟩ = some (.pointer q)) (first | go_keep | exact hnm)
                      (first
                       | (go_at_call 93; refine (HEn.out _ (by first | exact (Grew.refl _).drew | exact (Grew.refl _).drewN _)).mono ?_; rintro e w3 ⟨rfl, g3, k3⟩; have hnm : w3.cell? ⟨tb, 1, none⟩ = some (.pointer (some ⟨nb, no, none⟩)) ∧ w3.cell? ⟨tb, 3, none⟩ = some (.pointer q) := ⟨(HHd.out.kept ((Keep.of_grew (Grew.refl w2).drew).trans k3)).t1, (HHd.out.kept ((Keep.of_grew (Grew.refl w2).drew).trans k3)).t3⟩; have H3 : Hid (MacRep X w0 bm rv s fuel { m1 with ticks := m1.ticks + 1 } w3 ∧ Keep w w3 ∧ Keep w2 w3) := ⟨g3, HK2.out.trans ((Keep.of_grew (Grew.refl w2).drew).trans k3), (Keep.of_grew (Grew.refl w2).drew).trans k3⟩; clear g3 k3))
                    all_goals
                      obtain ⟨n1, n3⟩ := hnm
                      go_wp2_with fail
                      refine (HEd.out _ H3.out.1).mono ?_; rintro e w4 ⟨rfl, g4, k4⟩
                      have hd4 := HHd.out.kept (H3.out.2.2.trans k4)
                      have H4 := hidd (And.intro g4 (And.intro (H3.out.2.1.trans k4) hd4.k))
                      replace n3 := hd4.t3
                      have nlt : ¬ ((b : Int) < 0) := by omega
                      clear g4 k4 n1 hd4
                      go_wp2_with fail
                      go_roundg j
                      case rel => exact ⟨k, b, m2, q, rfl, rfl, ⟨H4.out.2.2, H4.out.1, H4.out.2.1, HI'.out, H5'.out, by have := HJ.out; omega⟩⟩
                      case measure => omega
          · have h5' : runs R s fuel j (resume s t k a m1).1 (resume s t k a m1).2 = some out := by
              rw [runs, if_neg h0] at h5
              exact h5
            have hI' := h4.resume rfl h0
            have hC := resume_any h2 hh h4 h0 hs hw
            have H5 := hidd h5'
            have HI' := hidd hI'
            have HK := hidd h3
            have hne : (t.op == 0) = false := beq_eq_false_iff_ne.2 h0
            cases hx : (resume s t k a m1).1 with
            | none =>
              have HC : Hid (Calls Tryd.prog 92 #[.pointer (some ⟨bm, 0, none⟩), .pointer (some ⟨tb, 0, none⟩), .int .i64 a] wr fun e w' => e = .returned (.tuple #[.pointer none, .int .i64 0, .bool false]) ∧ MacRep X w0 bm rv s fuel (resume s t k a m1).2 w' ∧ Keep wr w') := hC.mono fun e w' hr => by
                unfold Resumes at hr; rw [hx] at hr; exact hr
              have HX := hidd hx
              clear HI h1 h2 h3 h4 h5 h5' hI' hC hh hx h0
              go_wp2_with fail
              refine HC.out.mono ?_; rintro e w2 ⟨rfl, h2, h3⟩
              have HE := hidd (And.intro h2 h3)
              clear h2 h3
              go_wp2_with fail
              go_step3
              have h5 := H5.out
              have hI' := HI'.out
              rw [HX.out] at h5 hI'
              exact ⟨rfl, j, by omega, ⟨_, HE.out.1, HK.out.trans HE.out.2, hI', h5⟩, _, rfl, rfl⟩
            | some x =>
              obtain ⟨K', a'⟩ := x
              have HC : Hid (Calls Tryd.prog 92 #[.pointer (some ⟨bm, 0, none⟩), .pointer (some ⟨tb, 0, none⟩), .int .i64 a] wr fun e w' => (∃ kp, e = .returned (.tuple #[.pointer kp, .int .i64 a', .bool true]) ∧ TodoAt w0 w' kp K') ∧ MacRep X w0 bm rv s fuel (resume s t k a m1).2 w' ∧ Keep wr w') := hC.mono fun e w' hr => by
                unfold Resumes at hr; rw [hx] at hr; exact hr
              have HX := hidd hx
              clear HI h1 h2 h3 h4 h5 h5' hI' hC hh hx h0
              go_wp2_with fail
              refine HC.out.mono ?_; rintro e w2 ⟨⟨kp', rfl, hk2⟩, h2, h3⟩
              have HE := hidd (And.intro hk2 (And.intro h2 h3))
              clear h2 h3 hk2
              go_wp2_with fail
              have h5 := H5.out
              have hI' := HI'.out
              rw [HX.out] at h5 hI'
              go_roundg j
              case rel => exact ⟨K', a', _, kp', rfl, rfl, ⟨HE.out.1, HE.out.2.1, HK.out.trans HE.out.2.2, hI', h5, by omega⟩⟩
              case measure => omega
end
end Go.Proofs.YtkkdpafkafjfgaaDoor
