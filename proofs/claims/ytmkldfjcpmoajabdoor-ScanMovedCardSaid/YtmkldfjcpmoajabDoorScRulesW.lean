/- scan.Rules and scan.wrong: at every list of rules. -/
import Derived.Test.YtmkldfjcpmoajabDoorScRules
namespace Go.Proofs.YtmkldfjcpmoajabDoor
open Go.RowKit
set_option linter.unusedVariables false

def rulesL : List Rule → List Rule → Int
  | pre, [] => 0
  | pre, r :: l => if named r.1 = false ∨ (pre.any fun o => sameText o.1 r.1) = true then 7 else if patErr r.2 = 0 then rulesL (pre ++ [r]) l else patErr r.2
/-- What is wrong with rules. -/
def rulesErr (l : List Rule) : Int := if 64 < l.length then 5 else rulesL [] l
theorem rulesL_step (l : List Rule) (k : Nat) (h : k < l.length) : rulesL (l.take k) (l.drop k) =
    if named (l.getD k Rule.zero).1 = false ∨ ((l.take k).any fun o => sameText o.1 (l.getD k Rule.zero).1) = true then 7 else if patErr (l.getD k Rule.zero).2 = 0 then rulesL (l.take (k + 1)) (l.drop (k + 1)) else patErr (l.getD k Rule.zero).2 := by
  have e : l.getD k Rule.zero = l[k] := by rw [List.getD_eq_getElem?_getD, List.getElem?_eq_getElem h]; rfl
  rw [List.drop_eq_getElem_cons h, rulesL, e, List.take_add_one, List.getElem?_eq_getElem h]
  rfl
theorem RulesAt.take {w : World} {b o c : Nat} {l : List Rule} (k : Nat) (hk : k ≤ l.length) (hc : l.length ≤ c) (hc' : c ≤ maxLen)
    (h : ∀ i, i < l.length → w.cell? ⟨b, o + i * 6, none⟩ = some (.string (l.getD i Rule.zero).1) ∧ (l.getD i Rule.zero).1.size ≤ maxLen ∧ PatAt w b (o + i * 6 + 1) (l.getD i Rule.zero).2) :
    RulesAt w (.slice (some ⟨b, o, none⟩) k c) (l.take k) := by
  have hl : (l.take k).length = k := by rw [List.length_take]; omega
  rcases Nat.eq_zero_or_pos k with h0 | h0
  · subst h0; exact Or.inl ⟨_, _, rfl, rfl⟩
  · refine Or.inr ⟨b, o, c, by rw [hl], by omega, by omega, hc', fun i hi => ?_⟩
    have e : (l.take k).getD i Rule.zero = l.getD i Rule.zero := by
      rw [List.getD_eq_getElem?_getD, List.getD_eq_getElem?_getD, List.getElem?_take, if_pos (by omega)]
    rw [e]; exact h i (by omega)

set_option maxRecDepth 100000 in
set_option maxHeartbeats 1000000 in
theorem Rules_some (l : List Rule) (b o c : Nat) (w : World) (h0 : 0 < l.length) (hl : l.length ≤ 64) (hc : l.length ≤ c) (hc' : c ≤ maxLen)
    (hr : ∀ i, i < l.length → w.cell? ⟨b, o + i * 6, none⟩ = some (.string (l.getD i Rule.zero).1) ∧ (l.getD i Rule.zero).1.size ≤ maxLen ∧ PatAt w b (o + i * 6 + 1) (l.getD i Rule.zero).2) :
    Calls Tryd.prog 26 #[.slice (some ⟨b, o, none⟩) l.length c] w fun e w' => e = .returned (.int .i64 (rulesL [] l)) ∧ Grew w w' := by
  have HR := hidd hr
  have HC := hidd hc'
  unfold maxLen at hc'
  clear hr
  have e0 : decide ((64 : Int) < (l.length : Int)) = false := decide_eq_false (by omega)
  go_enter Tryd.func26, Tryd.ntmps26
  go_wp2_with fail
  clear e0
  go_loopw [3, 4, 5, 11] (fun _ _ _ u wr => ∃ k : Nat, k ≤ l.length ∧ u = .int .i64 k ∧ Hid (rulesL [] l = rulesL (l.take k) (l.drop k)) ∧ Hid (Grew w wr)) (fun _ _ _ u _ => l.length - (intOf u).toNat)
  case atStart => exact ⟨0, by omega, rfl, rfl, Grew.refl _⟩
  case round =>
    obtain ⟨k, hk, rfl, HS, HG⟩ := hrel
    by_cases hlt : k < l.length
    · obtain ⟨kv, h⟩ := rule_open (r := l.getD k Rule.zero) ⟨HG.out.keeps (HR.out k hlt).1, (HR.out k hlt).2.1, (HR.out k hlt).2.2.kept HG.out⟩
      have hs := rulesL_step l k hlt
      obtain ⟨r, hr⟩ : ∃ r, l.getD k Rule.zero = r := ⟨_, rfl⟩
      rw [hr] at h hs
      have HSS := hidd (HS.out.trans hs)
      obtain ⟨ka, kc, rfl, hkl⟩ := h.pat.kids.len
      have HV : Hid (∀ w1, Grew wr w1 → Calls Tryd.prog 25 #[.agg (r.2.cells (.slice ka r.2.kids.length kc))] w1 fun e w' => e = .returned (.int .i64 (patErr r.2)) ∧ Grew w1 w') := fun w1 g => Wrong_any _ r.2 w1 (h.pat.kept g)
      have HF : Hid (∀ w1, Grew wr w1 → ∀ x, w1.cell? ⟨x, 0, none⟩ = some (.string r.1) → Calls Tryd.prog 36 #[.slice (some ⟨b, o, none⟩) k c, .func (.func 37) #[] #[.pointer (some ⟨x, 0, none⟩)]] w1 fun e w' => e = .returned (.bool ((l.take k).any fun o => sameText o.1 r.1)) ∧ Grew w1 w') :=
        fun w1 g x hx => ContainsFunc_rules 37 (.pointer (some ⟨x, 0, none⟩)) (Or.inl rfl) (fun o => sameText o.1 r.1) _ (l.take k) w1 (RulesAt.take k hk hc HC.out fun i hi => ⟨(HG.out.trans g).keeps (HR.out i hi).1, (HR.out i hi).2.1, (HR.out i hi).2.2.kept (HG.out.trans g)⟩) (by rw [List.length_take]; omega)
          (fun q _ kv w2 g2 _ => same_name q r kv x w2 (g2.keeps hx))
      have HN : Hid (∀ w1, Calls Tryd.prog 35 #[.string r.1] w1 fun e w' => e = .returned (.bool (named r.1)) ∧ w1 = w') := fun w1 => Named_any r.1 w1 h.hs
      obtain ⟨c0, hsz, ⟨c1, c2, c3, c4, c5, _, _, _, _⟩, _⟩ := h
      unfold Pat.cells at HV
      clear hr hs
      have hcut : (((some ⟨b, o, none⟩ : Option Addr))) = some ⟨b, o, none⟩ := rfl
      cases hn : named r.1 with
      | false =>
        rw [hn] at HN HSS
        clear hn hcut
        go_wp2_with fail
        refine (HN.out _).mono ?_; rintro e w2 ⟨rfl, rfl⟩
        have G3 := hidd (HG.out.alloc (.cells #[.string r.1, .int .i64 r.2.kind, .string r.2.text, .int .i64 r.2.n, .string r.2.name, .slice ka r.2.kids.length kc] 44))
        go_wp2_with fail
        go_ret
        rw [HSS.out, if_pos (by first | exact Or.inl rfl | exact Or.inl trivial | simp)]
        exact ⟨rfl, G3.out⟩
      | true =>
        rw [hn] at HN HSS
        clear hn hcut
        go_wp2_with fail
        refine (HN.out _).mono ?_; rintro e w2 ⟨rfl, rfl⟩
        have G2 := hidd ((Grew.refl wr).alloc (.cells #[.string r.1, .int .i64 r.2.kind, .string r.2.text, .int .i64 r.2.n, .string r.2.name, .slice ka r.2.kids.length kc] 44))
        have cb : (wr.alloc (.cells #[.string r.1, .int .i64 r.2.kind, .string r.2.text, .int .i64 r.2.n, .string r.2.name, .slice ka r.2.kids.length kc] 44)).cell? ⟨wr.heap.size, 0, none⟩ = some (.string r.1) := by rw [World.cell?_alloc_mark]; rfl
        go_wp2_with fail
        refine (HF.out _ G2.out _ cb).mono ?_; rintro e w3 ⟨rfl, G3⟩
        have d1 : w3.cell? ⟨wr.heap.size, 1, none⟩ = some (.int .i64 r.2.kind) := G3.keeps (by rw [World.cell?_alloc_mark]; rfl)
        have d2 : w3.cell? ⟨wr.heap.size, 2, none⟩ = some (.string r.2.text) := G3.keeps (by rw [World.cell?_alloc_mark]; rfl)
        have d3 : w3.cell? ⟨wr.heap.size, 3, none⟩ = some (.int .i64 r.2.n) := G3.keeps (by rw [World.cell?_alloc_mark]; rfl)
        have d4 : w3.cell? ⟨wr.heap.size, 4, none⟩ = some (.string r.2.name) := G3.keeps (by rw [World.cell?_alloc_mark]; rfl)
        have d5 : w3.cell? ⟨wr.heap.size, 5, none⟩ = some (.slice ka r.2.kids.length kc) := G3.keeps (by rw [World.cell?_alloc_mark]; rfl)
        have G4 := hidd (G2.out.trans G3)
        clear G2 G3 cb
        cases ha : (l.take k).any fun o => sameText o.1 r.1 with
        | true =>
          rw [ha] at HSS
          clear ha HF
          go_wp2_with fail
          go_ret
          rw [HSS.out, if_pos (by simp)]
          exact ⟨rfl, HG.out.trans G4.out⟩
        | false =>
          rw [ha] at HSS
          clear ha HF
          go_wp2_with fail
          refine (HV.out _ G4.out).mono ?_; rintro e w4 ⟨rfl, G5⟩
          have G6 := hidd (HG.out.trans (G4.out.trans G5))
          clear d1 d2 d3 d4 d5 G4 G5 HV
          have HSS2 : Hid (rulesL [] l = if patErr r.2 = 0 then rulesL (l.take (k + 1)) (l.drop (k + 1)) else patErr r.2) := by
            rw [Hid, HSS.out, if_neg (by simp)]
          by_cases he : patErr r.2 = 0
          · have he' : (patErr r.2 != 0) = false := by rw [he]; rfl
            have HE := hidd he
            clear he
            go_wp2_with fail
            go_roundw
            case rel => exact ⟨k + 1, by omega, by go_num, by rw [Hid, HSS2.out, if_pos HE.out], G6⟩
            case measure => simp [intOf]; omega
          · have he' : (patErr r.2 != 0) = true := by simpa using he
            have HE := hidd he
            clear he
            go_wp2_with fail
            go_ret
            rw [HSS2.out, if_neg HE.out]
            exact ⟨rfl, G6.out⟩
    · obtain rfl : k = l.length := by omega
      have HE := hidd (HS.out.trans (show rulesL (l.take l.length) (l.drop l.length) = 0 by rw [List.drop_length]; rfl))
      go_wp2_with fail
      go_ret
      rw [HE.out]
      exact ⟨rfl, HG.out⟩

set_option maxRecDepth 100000 in
theorem Rules_any (v : Value) (l : List Rule) (w : World) (h : RulesAt w v l) :
    Calls Tryd.prog 26 #[v] w fun e w' => e = .returned (.int .i64 (rulesErr l)) ∧ Grew w w' := by
  by_cases h64 : 64 < l.length
  · obtain ⟨a, c, rfl, hl⟩ := h.len
    have e0 : decide ((64 : Int) < (l.length : Int)) = true := decide_eq_true (by omega)
    have HE : Hid (rulesErr l = 5) := by rw [Hid, rulesErr, if_pos h64]
    clear h h64
    go_enter Tryd.func26, Tryd.ntmps26
    go_wp2_with fail
    go_ret
    rw [HE.out]
    exact ⟨rfl, Grew.refl _⟩
  · have HE : rulesErr l = rulesL [] l := by rw [rulesErr, if_neg h64]
    rw [HE]
    rcases h with ⟨a, c, rfl, rfl⟩ | ⟨b, o, c, rfl, h0, h1, h2, h3⟩
    · clear HE h64
      go_enter Tryd.func26, Tryd.ntmps26
      go_wp2_with fail
      go_loop [3, 4, 5, 11] (fun _ _ _ u => u = .int .i64 0) (fun _ _ _ _ => 0)
      case atStart => rfl
      case round =>
        obtain rfl := hrel
        go_wp2_with fail
        go_ret
        exact ⟨rfl, Grew.refl _⟩
    · exact Rules_some l b o c w h0 (by omega) h1 h2 h3

/-- What is wrong with what is asked. -/
def askErr (R : List Rule) (p : Pat) (s : ByteArray) (fuel : Int) : Int :=
  if patErr p = 0 then (if rulesErr R = 0 then (if 65536 < s.size then 4 else if fuel < 0 ∨ 100000 < fuel then 3 else 0) else rulesErr R) else patErr p

set_option maxRecDepth 100000 in
theorem ask_any (v : Value) (R : List Rule) (kv : Value) (p : Pat) (s : ByteArray) (fuel : Int) (w : World) (hR : RulesAt w v R) (hp : PatV w kv p) (hs : s.size ≤ maxLen) (hf : -9223372036854775808 ≤ fuel ∧ fuel ≤ 9223372036854775807) :
    Calls Tryd.prog 21 #[v, .agg (p.cells kv), .string s, .int .i64 fuel] w fun e w' => e = .returned (.int .i64 (askErr R p s fuel)) ∧ Grew w w' := by
  unfold maxLen at hs
  obtain ⟨ka, kc, rfl, hkl⟩ := hp.kids.len
  have HR : Hid (∀ w1, Grew w w1 → Calls Tryd.prog 26 #[v] w1 fun e w' => e = .returned (.int .i64 (rulesErr R)) ∧ Grew w1 w') := fun w1 g => Rules_any v R w1 (hR.kept g)
  have HP : Hid (∀ w1, Grew w w1 → Calls Tryd.prog 25 #[.agg (p.cells (.slice ka p.kids.length kc))] w1 fun e w' => e = .returned (.int .i64 (patErr p)) ∧ Grew w1 w') := fun w1 g => Wrong_any _ p w1 (hp.kept g)
  unfold Pat.cells at HP ⊢
  clear hR hp
  by_cases h1 : patErr p = 0
  · have h1' : (patErr p != 0) = false := by rw [h1]; rfl
    by_cases h2 : rulesErr R = 0
    · have h2' : (rulesErr R != 0) = false := by rw [h2]; rfl
      have HE : Hid (askErr R p s fuel = if 65536 < s.size then 4 else if fuel < 0 ∨ 100000 < fuel then 3 else 0) := by rw [Hid, askErr, if_pos h1, if_pos h2]
      clear h1 h2
      have k3 : 65536 < s.size ∨ (s.size ≤ 65536 ∧ fuel < 0) ∨ (s.size ≤ 65536 ∧ 100000 < fuel) ∨ (s.size ≤ 65536 ∧ 0 ≤ fuel ∧ fuel ≤ 100000) := by omega
      rcases k3 with k | k | k | k
      · have e1 : decide ((65536 : Int) < (s.size : Int)) = true := decide_eq_true (by omega)
        have HX : Hid (askErr R p s fuel = 4) := by rw [Hid, HE.out, if_pos k]
        clear k HE
        go_enter Tryd.func21, Tryd.ntmps21
        go_wp2_with fail
        refine (HP.out _ ((Grew.refl w).alloc _)).mono ?_; rintro e w2 ⟨rfl, G2⟩
        have G3 := hidd (((Grew.refl w).alloc _).trans G2)
        clear G2
        go_wp2_with fail
        refine (HR.out _ G3.out).mono ?_; rintro e w3 ⟨rfl, G4⟩
        have G5 := hidd (G3.out.trans G4)
        clear G4
        go_wp2_with fail
        go_ret
        rw [HX.out]; exact ⟨rfl, G5.out⟩
      all_goals
        have e1 : decide ((65536 : Int) < (s.size : Int)) = false := decide_eq_false (by omega)
        obtain ⟨X, hX⟩ : ∃ X, askErr R p s fuel = X := ⟨_, rfl⟩
        have HX := HE.out
        rw [if_neg (by omega)] at HX
        have HX2 := hidd HX
        clear HX HE hX
        go_enter Tryd.func21, Tryd.ntmps21
        go_wp2_with fail
        refine (HP.out _ ((Grew.refl w).alloc _)).mono ?_; rintro e w2 ⟨rfl, G2⟩
        have G3 := hidd (((Grew.refl w).alloc _).trans G2)
        clear G2
        go_wp2_with fail
        refine (HR.out _ G3.out).mono ?_; rintro e w3 ⟨rfl, G4⟩
        have G5 := hidd (G3.out.trans G4)
        clear G4
        first
        | (have e2 : decide (fuel < 0) = true := decide_eq_true (by omega)
           go_wp2_with fail
           go_ret
           rw [HX2.out, if_pos (by omega)]; exact ⟨rfl, G5.out⟩)
        | (have e2 : decide (fuel < 0) = false := decide_eq_false (by omega)
           have e3 : decide (100000 < fuel) = true := decide_eq_true (by omega)
           go_wp2_with fail
           go_ret
           rw [HX2.out, if_pos (by omega)]; exact ⟨rfl, G5.out⟩)
        | (have e2 : decide (fuel < 0) = false := decide_eq_false (by omega)
           have e3 : decide (100000 < fuel) = false := decide_eq_false (by omega)
           go_wp2_with fail
           go_ret
           rw [HX2.out, if_neg (by omega)]; exact ⟨rfl, G5.out⟩)
    · have h2' : (rulesErr R != 0) = true := by simpa using h2
      have HE : Hid (askErr R p s fuel = rulesErr R) := by rw [Hid, askErr, if_pos h1, if_neg h2]
      clear h1 h2
      go_enter Tryd.func21, Tryd.ntmps21
      go_wp2_with fail
      refine (HP.out _ ((Grew.refl w).alloc _)).mono ?_; rintro e w2 ⟨rfl, G2⟩
      have G3 := hidd (((Grew.refl w).alloc _).trans G2)
      clear G2
      go_wp2_with fail
      refine (HR.out _ G3.out).mono ?_; rintro e w3 ⟨rfl, G4⟩
      have G5 := hidd (G3.out.trans G4)
      clear G4
      go_wp2_with fail
      go_ret
      rw [HE.out]; exact ⟨rfl, G5.out⟩
  · have h1' : (patErr p != 0) = true := by simpa using h1
    have HE : Hid (askErr R p s fuel = patErr p) := by rw [Hid, askErr, if_neg h1]
    clear h1
    go_enter Tryd.func21, Tryd.ntmps21
    go_wp2_with fail
    refine (HP.out _ ((Grew.refl w).alloc _)).mono ?_; rintro e w2 ⟨rfl, G2⟩
    have G3 := hidd (((Grew.refl w).alloc _).trans G2)
    clear G2
    go_wp2_with fail
    go_ret
    rw [HE.out]; exact ⟨rfl, G3.out⟩
end Go.Proofs.YtmkldfjcpmoajabDoor
