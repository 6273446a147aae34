/- The document's Try: breaks, brackets in pairs. Printed. -/
import Derived.Test.YtcmdhgamlhnioaaDoorScRN
import Derived.Test.YtcmdhgamlhnioaaDoorScRE
/-! The document's Try: breaks, brackets in pairs. Printed. -/
namespace Go.Proofs.YtcmdhgamlhnioaaDoor
open Go.RowKit
set_option linter.unusedVariables false
set_option maxRecDepth 100000 in
set_option maxHeartbeats 1000000 in
theorem in_any (c : UInt8) (t : ByteArray) (w : World) (ht : t.size ≤ maxLen) :
    Calls Tryd.prog 33 #[.int .u8 (c.toNat : Nat), .string t] w fun e w' => e = .returned (.bool (t.data.toList.contains c)) ∧ w' = w := by
  have ht9 : t.size ≤ 9223372036854775807 := by unfold maxLen at ht; omega
  clear ht
  go_enter Tryd.func33, Tryd.ntmps33
  go_wp2_with fail
  go_loopw [5] (fun u5 wr => ∃ i : Nat, u5 = .int .i64 i ∧ i ≤ t.size ∧ Hid (∀ j (h : j < t.size), j < i → t[j]'h ≠ c) ∧ wr = w) (fun u5 _ => t.size - (intOf u5).toNat)
  case atStart => exact ⟨0, rfl, Nat.zero_le _, fun j h hj => by omega, rfl⟩
  case round =>
    obtain ⟨i, rfl, hi, HJ, rfl⟩ := hrel
    by_cases hlt : i < t.size
    · have d1 : decide ((i : Int) < (t.size : Int)) = true := decide_eq_true (by omega)
      have d2 : decide (i < t.size) = true := decide_eq_true hlt
      by_cases hc : t[i]'hlt = c
      · have e0 : (((t[i]'hlt).toNat : Int) == (c.toNat : Int)) = true := by rw [hc]; simp
        have e1 : (t[i]'hlt).toNat = c.toNat := by rw [hc]
        have HF : Hid (t.data.toList.contains c = true) := by
          have : c ∈ t.data.toList := by
            rw [← hc]; exact List.getElem_mem (show i < t.data.toList.length from hlt)
          rw [Hid]; simpa using this
        clear hc
        go_wp2_with fail
        go_ret
        rw [HF.out]
        exact ⟨rfl, rfl⟩
      · have e0 : (((t[i]'hlt).toNat : Int) == (c.toNat : Int)) = false := by
          rw [beq_eq_false_iff_ne]; intro e; exact hc (UInt8.toNat_inj.1 (by omega))
        have hw1 : wrap64 ((i : Int) + 1) = ((i + 1 : Nat) : Int) := by unfold wrap64; omega
        have HJ2 : Hid (∀ j (h : j < t.size), j < i + 1 → t[j]'h ≠ c) := fun j h hj => by
          by_cases e : j = i
          · subst e; exact hc
          · exact HJ.out j h (by omega)
        clear hc
        go_wp2_with fail
        go_roundw
        case rel => exact ⟨i + 1, by go_num, by omega, HJ2, trivial⟩
        case measure => simp [intOf]; omega
    · have d1 : decide ((i : Int) < (t.size : Int)) = false := decide_eq_false (by omega)
      have d2 : decide (i < t.size) = false := decide_eq_false hlt
      have HF : Hid (t.data.toList.contains c = false) := by
        rw [Hid, ← Bool.not_eq_true]
        intro h
        have h : c ∈ t.data.toList := by simpa using h
        obtain ⟨j, hj, e⟩ := List.getElem_of_mem h
        exact HJ.out j hj (by have : j < t.size := hj; omega) e
      go_wp2_with fail
      go_ret
      rw [HF.out]
      exact ⟨rfl, rfl⟩
section
variable {γ : Type} {E : Env} {O : OutP γ} {w : World} {M : Nat → Prop} {s : LS γ} {lo d a : Nat} {gv : Value} {gl : List Gift} {g : FuncId} {lb : Array Value} {K : Cont γ} {b : Nat} {p : Pat} {kv : Value} {kr : Nat × LS γ} {wr : World} {rem : List Nat}
set_option maxRecDepth 100000 in
set_option maxHeartbeats 2000000 in
theorem Try_breakx (hO : OutOk E O) (p : Pat) (kv : Value) (a : Nat) (gv : Value) (gl : List Gift) (d : Nat) (g : FuncId) (lb : Array Value) (K : Cont γ) (hst : St E O w M s) (hk : p.kind = 7) (ht : s.ticks < E.fuel) (hf : E.fuel ≤ 100000) (hL : E.S.size ≤ 65536) (hpt : p.text.size ≤ maxLen)
    (hg : GV w M gv gl) (ha : a ≤ E.S.size) (hw : s.ways ≤ E.V) (hd : gl.length + d ≤ s.ticks) (hsd : s.said.length ≤ 300000 * (s.ticks + s.ways)) (hK : ThenOk E O M w (s.ticks + 1) d a g lb K) :
    Calls Tryd.prog 18 #[.pointer (some ⟨E.lb, 0, none⟩), .agg (p.cells kv), .int .i64 a, gv, .func (.func g) #[] lb] w fun r w' => r = .returned (.int .i64 ((runK E.fuel (wayL gl (breaks p.bytes (E.S.data.toList.drop a) a)) K { s with ticks := s.ticks + 1 }).1 : Nat)) ∧ ∃ M', Turn M M' w w' ∧ St E O w' M' (runK E.fuel (wayL gl (breaks p.bytes (E.S.data.toList.drop a) a)) K { s with ticks := s.ticks + 1 }).2 := by
  have eg := hK.enters
  obtain ⟨gp, gc, rfl, _⟩ := hg.1.len
  obtain ⟨kr, hkr⟩ : ∃ kr, runK E.fuel (wayL gl (breaks p.bytes (E.S.data.toList.drop a) a)) K { s with ticks := s.ticks + 1 } = kr := ⟨_, rfl⟩
  rw [hkr]
  have hSl : E.S.data.toList.length = E.S.size := rfl
  have HL0 : Hid (∀ W1 b, Turn M M w W1 → St E O W1 M { s with ticks := s.ticks + 1 } → Boxed E.lb M W1 b p kv a (.func (.func g) #[] lb) → Lf E O M w (s.ticks + 1) d a (.slice gp gl.length gc) gl g lb K b p kv kr W1 (breaks p.bytes (E.S.data.toList.drop a) a)) := fun W1 b t1 h1 hB => ⟨M, _, t1, h1, hB, hkr, Nat.le_refl _, ht, hw, Or.inl ⟨breaks_up _ _ (by rw [List.length_drop, hSl]; omega), by simp only []; omega⟩⟩
  have HCall : Hid (∀ (wr : World) (b e : Nat) (rest : List Nat), Lf E O M w (s.ticks + 1) d a (.slice gp gl.length gc) gl g lb K b p kv kr wr (e :: rest) → Calls Tryd.prog g (#[.int .i64 e, .slice gp gl.length gc] ++ lb) wr fun r w' => ∃ k : Nat, r = .returned (.int .i64 k) ∧ ((k = 0 ∧ Lf E O M w (s.ticks + 1) d a (.slice gp gl.length gc) gl g lb K b p kv kr w' rest) ∨ (k ≠ 0 ∧ kr.1 = k ∧ ∃ M', Turn M M' w w' ∧ St E O w' M' kr.2))) := fun wr b e rest h => h.call hf hK hg (by omega)
  have HIn := hidd (fun (c : UInt8) w => in_any c p.text w hpt)
  have HGrw := hidd (fun (b : Nat) (wr : World) (n : Nat) (rem : List Nat) (h : Lf E O M w (s.ticks + 1) d a (.slice gp gl.length gc) gl g lb K b p kv kr wr rem) => h.grown hO ((Grew.refl wr).drewN n))
  have HA := hidd ha
  clear hkr hK hg hd hsd hw ha hpt hSl
  obtain ⟨sv, ov, h⟩ := hst
  have HBx := hidd (boxed (E := E) h.lt p (kv) a (.func (.func g) #[] lb))
  have HGr : Hid (Grew w ((((w.alloc (.cells #[.pointer (some ⟨E.lb, 0, none⟩)] 51)).alloc (.cells (p.cells (kv)) 25)).alloc (.cells #[.int .i64 a] 3)).alloc (.cells #[.func (.func g) #[] lb] 81))) := ((((Grew.refl w).alloc _).alloc _).alloc _).alloc _
  have H := hidd h
  have hb : decide ((E.fuel : Int) ≤ (s.ticks : Int)) = false := decide_eq_false (by omega)
  have hb2 : decide (E.fuel ≤ s.ticks) = false := decide_eq_false (by omega)
  clear h
  unfold Pat.cells at HBx HGr ⊢
  rw [hk] at HBx HGr ⊢
  go_enter Tryd.func18, Tryd.ntmps18
  go_wp2_with fail
  generalize ((((w.alloc (.cells #[.pointer (some ⟨E.lb, 0, none⟩)] 51)).alloc (.cells #[.int .i64 7, .string p.text, .int .i64 p.n, .string p.name, kv] 25)).alloc (.cells #[.int .i64 a] 3)).alloc (.cells #[.func (.func g) #[] lb] 81)) = W at HBx HGr ⊢
  have HW := hidd (H.out.grown hO HGr.out)
  have c5 := HBx.out.c5
  have c3 : W.cell? ⟨E.lb, 3, none⟩ = some (.int .i64 s.ticks) := HW.out.cell rfl
  have c2 : W.cell? ⟨E.lb, 2, none⟩ = some (.int .i64 E.fuel) := HW.out.cell rfl
  have f3 := HW.out.free 3
  obtain ⟨b, hbb⟩ : ∃ b, w.heap.size = b := ⟨_, rfl⟩
  rw [hbb] at HBx c5 ⊢
  go_quiet (fail)
  have HT1 := tick_st hO HW.out nq
  go_upto_region 5 with fail
  clear c5 c3 c2 f3 hb hb2
  generalize ((W.drewN nq).setCell ⟨E.lb, 3, none⟩ (.int .i64 ((s.ticks : Int) + 1))) = W1 at HT1 ⊢
  have HS1 := hidd HT1.1
  have HTu := hidd ((Turn.of_grew (M := M) HGr.out).trans HT1.2)
  have HB1 := hidd (HBx.out.kept HT1.2)
  clear HT1 HBx HW HGr
  have c5 := HB1.out.c5
  obtain ⟨q0, q1, q2, q3, q4⟩ := HB1.out.fields
  rw [hk] at q0
  have c7 := HB1.out.c7
  have c9 := HB1.out.c9
  have c1 : W1.cell? ⟨E.lb, 1, none⟩ = some (.string E.S) := HS1.out.cell rfl
  have HLf := hidd (HL0.out W1 b HTu.out ⟨_, _, HS1.out⟩ HB1.out)
  clear HL0
  go_wp2_with fail
  go_loopw [12, 13] (fun u12 u13 wr => ∃ e : Nat, u12 = .int .i64 e ∧ e ≤ E.S.size ∧ Hid (Lf E O M w (s.ticks + 1) d a (.slice gp gl.length gc) gl g lb K b p kv kr wr (breaks p.bytes (E.S.data.toList.drop e) e))) (fun u12 _ _ => E.S.size - (intOf u12).toNat)
  case atStart => exact ⟨a, rfl, HA.out, HLf.out⟩
  case round =>
    obtain ⟨e, rfl, he, HR⟩ := hrel
    clear HLf c5 c7 c9 c1 q0 q1 q2 q3 q4
    obtain ⟨c5, q1, c7, c9, c1⟩ := HR.out.boxes
    by_cases hlt : e < E.S.size
    · have d1 : decide ((e : Int) < (E.S.size : Int)) = true := decide_eq_true (by omega)
      have d2 : decide (e < E.S.size) = true := decide_eq_true hlt
      have hw1 : wrap64 ((e : Int) + 1) = ((e + 1 : Nat) : Int) := by unfold wrap64; omega
      have hdrop : E.S.data.toList.drop e = (E.S[e]'hlt) :: E.S.data.toList.drop (e + 1) := List.drop_eq_getElem_cons (show e < E.S.data.toList.length from hlt)
      have HI := hidd (fun w => HIn.out (E.S[e]'hlt) w)
      by_cases hc : p.text.data.toList.contains (E.S[e]'hlt) = true
      · rw [hc] at HI
        have HR2 := HR.out
        rw [hdrop, breaks, if_pos (show p.bytes.contains (E.S[e]'hlt) = true from hc)] at HR2
        have HC2 := hidd (fun n => HCall.out (wr.drewN n) b e _ (HGrw.out b wr n _ HR2))
        clear HR2 hdrop hc
        go_wp2_with fail
        go_quiet ((go_at_call 33; exact Calls.quiet_of_same (HI.out _)))
        go_wp2_with fail
        refine (HC2.out _).mono ?_; rintro r W2 ⟨k, rfl, ⟨rfl, hl⟩ | ⟨hk0, hke, hx⟩⟩
        · have HL2 := hidd hl
          clear hl
          go_wp2_with fail
          go_roundw
          case rel => exact ⟨e + 1, by go_num, by omega, HL2.out⟩
          case measure => simp [intOf]; omega
        · have e0 : ((k : Int) == 0) = false := by rw [beq_eq_false_iff_ne]; omega
          have HX := hidd (And.intro hke hx)
          clear hke hx hk0
          go_wp2_with fail
          go_ret
          exact ⟨by rw [HX.out.1]; rfl, HX.out.2⟩
      · rw [Bool.not_eq_true] at hc
        rw [hc] at HI
        have HR2 := HR.out
        rw [hdrop, breaks, if_neg (by rw [show p.bytes.contains (E.S[e]'hlt) = false from hc]; decide)] at HR2
        have HC2 := hidd (fun n => HGrw.out b wr n _ HR2)
        clear HR2 hdrop hc
        go_wp2_with fail
        go_quiet ((go_at_call 33; exact Calls.quiet_of_same (HI.out _)))
        go_wp2_with fail
        go_roundw
        case rel => exact ⟨e + 1, by go_num, by omega, HC2.out _⟩
        case measure => simp [intOf]; omega
    · have d1 : decide ((e : Int) < (E.S.size : Int)) = false := decide_eq_false (by omega)
      have d2 : decide (e < E.S.size) = false := decide_eq_false hlt
      obtain rfl : e = E.S.size := by omega
      have HR2 := HR.out
      rw [List.drop_of_length_le (show E.S.data.toList.length ≤ E.S.size from Nat.le_refl _), breaks] at HR2
      have HX := hidd HR2.done
      clear HR2
      go_wp2_with fail
      go_ret
      exact ⟨by rw [HX.out.1]; rfl, HX.out.2⟩
end
end Go.Proofs.YtcmdhgamlhnioaaDoor
/-! The document's Try: brackets in pairs; alternatives. Printed. -/
namespace Go.Proofs.YtcmdhgamlhnioaaDoor
open Go.RowKit
set_option linter.unusedVariables false
theorem pe_open {c : UInt8} {l : List UInt8} {d a : Nat} (h : c = 40) : pairEnds (c :: l) d a = pairEnds l (d + 1) (a + 1) := by subst h; rw [pairEnds.eq_def]; rfl
theorem pe_shut0 {c : UInt8} {l : List UInt8} {a : Nat} (h : c = 41) : pairEnds (c :: l) 0 a = [] := by subst h; rw [pairEnds.eq_def]; rfl
theorem pe_shut1 {c : UInt8} {l : List UInt8} {a : Nat} (h : c = 41) : pairEnds (c :: l) 1 a = (a + 1) :: pairEnds l 0 (a + 1) := by subst h; rw [pairEnds.eq_def]; rfl
theorem pe_shut2 {c : UInt8} {l : List UInt8} {k a : Nat} (h : c = 41) : pairEnds (c :: l) (k + 2) a = pairEnds l (k + 1) (a + 1) := by subst h; rw [pairEnds.eq_def]; rfl
theorem pe_else0 {c : UInt8} {l : List UInt8} {a : Nat} (h : c ≠ 40) (h2 : c ≠ 41) : pairEnds (c :: l) 0 a = (a + 1) :: pairEnds l 0 (a + 1) := by rw [pairEnds.eq_def]; dsimp only; rw [if_neg h, if_neg h2]; rfl
theorem pe_else1 {c : UInt8} {l : List UInt8} {k a : Nat} (h : c ≠ 40) (h2 : c ≠ 41) : pairEnds (c :: l) (k + 1) a = pairEnds l (k + 1) (a + 1) := by rw [pairEnds.eq_def]; dsimp only; rw [if_neg h, if_neg h2]; rfl
section
variable {γ : Type} {E : Env} {O : OutP γ} {w : World} {M : Nat → Prop} {s : LS γ}
set_option maxRecDepth 100000 in
set_option maxHeartbeats 4000000 in
theorem Try_bal (hO : OutOk E O) (p : Pat) (kv : Value) (a : Nat) (gv : Value) (gl : List Gift) (d : Nat) (g : FuncId) (lb : Array Value) (K : Cont γ) (hst : St E O w M s) (hk : p.kind = 14) (ht : s.ticks < E.fuel) (hf : E.fuel ≤ 100000) (hL : E.S.size ≤ 65536)
    (hg : GV w M gv gl) (ha : a ≤ E.S.size) (hw : s.ways ≤ E.V) (hd : gl.length + d ≤ s.ticks) (hsd : s.said.length ≤ 300000 * (s.ticks + s.ways)) (hK : ThenOk E O M w (s.ticks + 1) d a g lb K) :
    Calls Tryd.prog 18 #[.pointer (some ⟨E.lb, 0, none⟩), .agg (p.cells kv), .int .i64 a, gv, .func (.func g) #[] lb] w fun r w' => r = .returned (.int .i64 ((runK E.fuel (wayL gl (pairEnds (E.S.data.toList.drop a) 0 a)) K { s with ticks := s.ticks + 1 }).1 : Nat)) ∧ ∃ M', Turn M M' w w' ∧ St E O w' M' (runK E.fuel (wayL gl (pairEnds (E.S.data.toList.drop a) 0 a)) K { s with ticks := s.ticks + 1 }).2 := by
  have eg := hK.enters
  obtain ⟨gp, gc, rfl, _⟩ := hg.1.len
  obtain ⟨kr, hkr⟩ : ∃ kr, runK E.fuel (wayL gl (pairEnds (E.S.data.toList.drop a) 0 a)) K { s with ticks := s.ticks + 1 } = kr := ⟨_, rfl⟩
  rw [hkr]
  have hSl : E.S.data.toList.length = E.S.size := rfl
  have hup : Up E.S.size a (pairEnds (E.S.data.toList.drop a) 0 a) := .all fun x hx => by
    have k1 := (pairs_bd (E.S.data.toList.drop a) 0 a).2 x hx
    have k2 := pairs_ge _ _ _ x hx
    rw [List.length_drop, hSl] at k1
    omega
  have HL0 : Hid (∀ W1 b, Turn M M w W1 → St E O W1 M { s with ticks := s.ticks + 1 } → Boxed E.lb M W1 b p kv a (.func (.func g) #[] lb) → Lf E O M w (s.ticks + 1) d a (.slice gp gl.length gc) gl g lb K b p kv kr W1 (pairEnds (E.S.data.toList.drop a) 0 a)) := fun W1 b t1 h1 hB => ⟨M, _, t1, h1, hB, hkr, Nat.le_refl _, ht, hw, Or.inl ⟨hup, by simp only []; omega⟩⟩
  have HCall : Hid (∀ (wr : World) (b e : Nat) (rest : List Nat), Lf E O M w (s.ticks + 1) d a (.slice gp gl.length gc) gl g lb K b p kv kr wr (e :: rest) → Calls Tryd.prog g (#[.int .i64 e, .slice gp gl.length gc] ++ lb) wr fun r w' => ∃ k : Nat, r = .returned (.int .i64 k) ∧ ((k = 0 ∧ Lf E O M w (s.ticks + 1) d a (.slice gp gl.length gc) gl g lb K b p kv kr w' rest) ∨ (k ≠ 0 ∧ kr.1 = k ∧ ∃ M', Turn M M' w w' ∧ St E O w' M' kr.2))) := fun wr b e rest h => h.call hf hK hg (by omega)
  have HA := hidd ha
  have hal : a ≤ 65536 := by omega
  clear hkr hK hg hd hsd hw ha hSl hup
  obtain ⟨sv, ov, h⟩ := hst
  have HBx := hidd (boxed (E := E) h.lt p (kv) a (.func (.func g) #[] lb))
  have HGr : Hid (Grew w ((((w.alloc (.cells #[.pointer (some ⟨E.lb, 0, none⟩)] 51)).alloc (.cells (p.cells (kv)) 25)).alloc (.cells #[.int .i64 a] 3)).alloc (.cells #[.func (.func g) #[] lb] 81))) := ((((Grew.refl w).alloc _).alloc _).alloc _).alloc _
  have H := hidd h
  have hb : decide ((E.fuel : Int) ≤ (s.ticks : Int)) = false := decide_eq_false (by omega)
  have hb2 : decide (E.fuel ≤ s.ticks) = false := decide_eq_false (by omega)
  clear h
  unfold Pat.cells at HBx HGr ⊢
  rw [hk] at HBx HGr ⊢
  go_enter Tryd.func18, Tryd.ntmps18
  go_wp2_with fail
  generalize ((((w.alloc (.cells #[.pointer (some ⟨E.lb, 0, none⟩)] 51)).alloc (.cells #[.int .i64 14, .string p.text, .int .i64 p.n, .string p.name, kv] 25)).alloc (.cells #[.int .i64 a] 3)).alloc (.cells #[.func (.func g) #[] lb] 81)) = W at HBx HGr ⊢
  have HW := hidd (H.out.grown hO HGr.out)
  have c5 := HBx.out.c5
  have c3 : W.cell? ⟨E.lb, 3, none⟩ = some (.int .i64 s.ticks) := HW.out.cell rfl
  have c2 : W.cell? ⟨E.lb, 2, none⟩ = some (.int .i64 E.fuel) := HW.out.cell rfl
  have f3 := HW.out.free 3
  obtain ⟨b, hbb⟩ : ∃ b, w.heap.size = b := ⟨_, rfl⟩
  rw [hbb] at HBx c5 ⊢
  go_quiet (fail)
  have HT1 := tick_st hO HW.out nq
  go_upto_region 5 with fail
  clear c5 c3 c2 f3 hb hb2
  generalize ((W.drewN nq).setCell ⟨E.lb, 3, none⟩ (.int .i64 ((s.ticks : Int) + 1))) = W1 at HT1 ⊢
  have HS1 := hidd HT1.1
  have HTu := hidd ((Turn.of_grew (M := M) HGr.out).trans HT1.2)
  have HB1 := hidd (HBx.out.kept HT1.2)
  clear HT1 HBx HW HGr
  have c5 := HB1.out.c5
  obtain ⟨q0, q1, q2, q3, q4⟩ := HB1.out.fields
  rw [hk] at q0
  have c7 := HB1.out.c7
  have c9 := HB1.out.c9
  have c1 : W1.cell? ⟨E.lb, 1, none⟩ = some (.string E.S) := HS1.out.cell rfl
  have HLf := hidd (HL0.out W1 b HTu.out ⟨_, _, HS1.out⟩ HB1.out)
  clear HL0
  go_wp2_with fail
  go_loopw [16, 17, 18] (fun u16 u17 u18 wr => ∃ q dd : Nat, u16 = .int .i64 dd ∧ u17 = .int .i64 ((q : Int) + 1) ∧ q ≤ E.S.size ∧ dd ≤ q ∧ Hid (Lf E O M w (s.ticks + 1) d a (.slice gp gl.length gc) gl g lb K b p kv kr wr (pairEnds (E.S.data.toList.drop q) dd q))) (fun _ u17 _ _ => E.S.size + 1 - (intOf u17).toNat)
  case atStart => exact ⟨a, 0, rfl, rfl, HA.out, Nat.zero_le _, HLf.out⟩
  case round =>
    obtain ⟨q, dd, rfl, rfl, hq, hdq, HR⟩ := hrel
    clear HLf c5 c7 c9 c1 q0 q1 q2 q3 q4
    obtain ⟨c5, q1, c7, c9, c1⟩ := HR.out.boxes
    have hq1 : q ≤ 65536 := by omega
    have hd1 : dd ≤ 65536 := by omega
    by_cases hlt : q < E.S.size
    · have d1 : decide ((q : Int) + 1 ≤ (E.S.size : Int)) = true := decide_eq_true (by omega)
      have d2 : decide (q + 1 ≤ E.S.size) = true := decide_eq_true (by omega)
      have d3 : decide (q < E.S.size) = true := decide_eq_true hlt
      have d4 : decide ((q : Int) < (E.S.size : Int)) = true := decide_eq_true (by omega)
      have hdrop : E.S.data.toList.drop q = (E.S[q]'hlt) :: E.S.data.toList.drop (q + 1) := List.drop_eq_getElem_cons (show q < E.S.data.toList.length from hlt)
      have HQ := hidd hlt
      have HR2 := HR.out
      rw [hdrop] at HR2
      have hcs : ((E.S[q]'hlt).toNat = 40 ∧ (E.S[q]'hlt) = 40) ∨ ((((E.S[q]'hlt).toNat : Int) == 40) = false ∧ (E.S[q]'hlt).toNat = 41 ∧ (E.S[q]'hlt) = 41) ∨ ((((E.S[q]'hlt).toNat : Int) == 40) = false ∧ (((E.S[q]'hlt).toNat : Int) == 41) = false ∧ (E.S[q]'hlt) ≠ 40 ∧ (E.S[q]'hlt) ≠ 41) := by
        by_cases h40 : (E.S[q]'hlt).toNat = 40
        · exact Or.inl ⟨h40, UInt8.toNat_inj.1 h40⟩
        · have n40 : (((E.S[q]'hlt).toNat : Int) == 40) = false := by rw [beq_eq_false_iff_ne]; omega
          by_cases h41 : (E.S[q]'hlt).toNat = 41
          · exact Or.inr (Or.inl ⟨n40, h41, UInt8.toNat_inj.1 h41⟩)
          · exact Or.inr (Or.inr ⟨n40, by rw [beq_eq_false_iff_ne]; omega, fun e => h40 (by rw [e]; rfl), fun e => h41 (by rw [e]; rfl)⟩)
      rcases hcs with ⟨c40, e40⟩ | ⟨n40, c41, e41⟩ | ⟨n40, n41, e40, e41⟩
      · rw [pe_open e40] at HR2
        have z1 : decide (((dd + 1 : Nat) : Int) < 0) = false := decide_eq_false (by omega)
        have z2 : (((dd + 1 : Nat) : Int) == 0) = false := by rw [beq_eq_false_iff_ne]; omega
        have z3 : decide ((dd : Int) + 1 < 0) = false := decide_eq_false (by omega)
        have z4 : ((dd : Int) + 1 == 0) = false := by rw [beq_eq_false_iff_ne]; omega
        have HN := hidd HR2
        clear HR2 HR hdrop e40
        go_wp2_with fail
        go_roundw
        case rel => exact ⟨q + 1, dd + 1, by first | go_num | (simp only [Int.natCast_add, Int.natCast_one]), by go_num, by have := HQ.out; omega, by omega, HN.out⟩
        case measure => simp [intOf]; have := HQ.out; omega
      · rcases dd with _ | _ | d2
        · rw [pe_shut0 e41] at HR2
          have HX := hidd HR2.done
          clear HR2 HR hdrop e41
          go_wp2_with fail
          go_ret
          exact ⟨by rw [HX.out.1]; rfl, HX.out.2⟩
        · rw [pe_shut1 e41] at HR2
          have HC2 := hidd (HCall.out wr b (q + 1) _ HR2)
          clear HR2 HR hdrop e41
          go_wp2_with fail
          refine HC2.out.mono ?_; rintro r W2 ⟨k, rfl, ⟨rfl, hl⟩ | ⟨hk0, hke, hx⟩⟩
          · have HL2 := hidd hl
            clear hl
            go_wp2_with fail
            go_roundw
            case rel => exact ⟨q + 1, 0, by go_num, by go_num, by have := HQ.out; omega, by omega, HL2.out⟩
            case measure => simp [intOf]; have := HQ.out; omega
          · have e0 : ((k : Int) == 0) = false := by rw [beq_eq_false_iff_ne]; omega
            have HX := hidd (And.intro hke hx)
            clear hke hx hk0
            go_wp2_with fail
            go_ret
            exact ⟨by rw [HX.out.1]; rfl, HX.out.2⟩
        · rw [pe_shut2 e41] at HR2
          have z1 : decide ((d2 : Int) + 1 < 0) = false := decide_eq_false (by omega)
          have z2 : ((d2 : Int) + 1 == 0) = false := by rw [beq_eq_false_iff_ne]; omega
          have HN := hidd HR2
          clear HR2 HR hdrop e41
          go_wp2_with fail
          go_roundw
          case rel => exact ⟨q + 1, d2 + 1, by go_num, by go_num, by have := HQ.out; omega, by omega, HN.out⟩
          case measure => simp [intOf]; have := HQ.out; omega
      · rcases dd with _ | d2
        · rw [pe_else0 e40 e41] at HR2
          have HC2 := hidd (HCall.out wr b (q + 1) _ HR2)
          clear HR2 HR hdrop e40 e41
          go_wp2_with fail
          refine HC2.out.mono ?_; rintro r W2 ⟨k, rfl, ⟨rfl, hl⟩ | ⟨hk0, hke, hx⟩⟩
          · have HL2 := hidd hl
            clear hl
            go_wp2_with fail
            go_roundw
            case rel => exact ⟨q + 1, 0, by go_num, by go_num, by have := HQ.out; omega, by omega, HL2.out⟩
            case measure => simp [intOf]; have := HQ.out; omega
          · have e0 : ((k : Int) == 0) = false := by rw [beq_eq_false_iff_ne]; omega
            have HX := hidd (And.intro hke hx)
            clear hke hx hk0
            go_wp2_with fail
            go_ret
            exact ⟨by rw [HX.out.1]; rfl, HX.out.2⟩
        · rw [pe_else1 e40 e41] at HR2
          have z1 : decide ((d2 : Int) + 1 < 0) = false := decide_eq_false (by omega)
          have z2 : ((d2 : Int) + 1 == 0) = false := by rw [beq_eq_false_iff_ne]; omega
          have HN := hidd HR2
          clear HR2 HR hdrop e40 e41
          go_wp2_with fail
          go_roundw
          case rel => exact ⟨q + 1, d2 + 1, by go_num, by go_num, by have := HQ.out; omega, by omega, HN.out⟩
          case measure => simp [intOf]; have := HQ.out; omega
    · have d1 : decide ((q : Int) + 1 ≤ (E.S.size : Int)) = false := decide_eq_false (by omega)
      have d2 : decide (q + 1 ≤ E.S.size) = false := decide_eq_false (by omega)
      obtain rfl : q = E.S.size := by omega
      have HR2 := HR.out
      rw [List.drop_of_length_le (show E.S.data.toList.length ≤ E.S.size from Nat.le_refl _), pairEnds] at HR2
      have HX := hidd HR2.done
      clear HR2
      go_wp2_with fail
      go_ret
      exact ⟨by rw [HX.out.1]; rfl, HX.out.2⟩
end
end Go.Proofs.YtcmdhgamlhnioaaDoor
/-! The document's Try: alternatives. Printed. -/
namespace Go.Proofs.YtcmdhgamlhnioaaDoor
open Go.RowKit
set_option linter.unusedVariables false
/-- Some of the alternatives have been tried; these are left. -/
def Af {γ : Type} (E : Env) (O : OutP γ) (M : Nat → Prop) (w : World) (lo a : Nat) (gl : List Gift) (g : FuncId) (lb : Array Value) (K : Cont γ) (D : Pat → Nat → List Gift → Tr) (b : Nat) (p : Pat) (kv : Value) (kr : Nat × LS γ) (wr : World) (rem : List Pat) : Prop :=
  ∃ Mr sr, Turn M Mr w wr ∧ St E O wr Mr sr ∧ Boxed E.lb Mr wr b p kv a (.func (.func g) #[] lb) ∧ runK E.fuel (alts D rem a gl) K sr = kr ∧ lo ≤ sr.ticks ∧ sr.ticks ≤ E.fuel ∧ sr.ways ≤ E.V ∧ sr.said.length ≤ 300000 * (sr.ticks + sr.ways)
section
variable {γ : Type} {E : Env} {O : OutP γ} {w : World} {M : Nat → Prop} {s : LS γ} {lo d a : Nat} {gv : Value} {gl : List Gift} {g : FuncId} {lb : Array Value} {K : Cont γ} {D : Pat → Nat → List Gift → Tr} {b : Nat} {p : Pat} {kv : Value} {kr : Nat × LS γ} {wr : World} {rem : List Pat}
theorem Af.done (h : Af E O M w lo a gl g lb K D b p kv kr wr []) : kr.1 = 0 ∧ ∃ M', Turn M M' w wr ∧ St E O wr M' kr.2 := by
  obtain ⟨Mr, sr, t, hs, _, hr, _⟩ := h
  rw [← hr]
  exact ⟨rfl, Mr, t, hs⟩
theorem Af.boxes (h : Af E O M w lo a gl g lb K D b p kv kr wr rem) : wr.cell? ⟨b, 0, none⟩ = some (.pointer (some ⟨E.lb, 0, none⟩)) ∧ wr.cell? ⟨b + 1 + 1, 0, none⟩ = some (.int .i64 a) ∧ wr.cell? ⟨b + 1 + 1 + 1, 0, none⟩ = some (.func (.func g) #[] lb) ∧ Grew E.w0 wr := by
  obtain ⟨Mr, sr, t, ⟨sv, ov, hs⟩, hB, _⟩ := h
  exact ⟨hB.c5, hB.c7, hB.c9, hs.grew⟩
theorem Af.call (hO : OutOk E O) {R : List Rule} {n : Nat} (hT : TrySpec E O R n) (h5 : E.fuel ≤ 100000) (hK : ThenOk E O M w lo d a g lb K) (hg : GV w M gv gl) (hd : gl.length + d ≤ lo) (ha : a ≤ E.S.size) (hn : E.fuel ≤ lo + n) {q : Pat} {kq : Value} (hq : PatV E.w0 kq q) (he : errW q = 0) {rest : List Pat} (h : Af E O M w lo a gl g lb K (den R E.S (n + 1)) b p kv kr wr (q :: rest)) {w2 : World} (g2 : Grew wr w2) :
    Calls Tryd.prog 18 #[.pointer (some ⟨E.lb, 0, none⟩), .agg (q.cells kq), .int .i64 a, gv, .func (.func g) #[] lb] w2 fun r w' => ∃ k : Nat, r = .returned (.int .i64 k) ∧ ((k = 0 ∧ Af E O M w lo a gl g lb K (den R E.S (n + 1)) b p kv kr w' rest) ∨ (k ≠ 0 ∧ kr.1 = k ∧ ∃ M', Turn M M' w w' ∧ St E O w' M' kr.2)) := by
  obtain ⟨Mr, sr, t, hs, hB, hr, h1, h2, h3, hp⟩ := h
  have tg := Turn.of_grew (M := Mr) g2
  have hK2 := hK.later (t.trans tg) (Nat.le_succ_of_le h1) (Nat.le_refl _)
  refine (hT w2 Mr sr q kq a gv gl d g lb K (St.grown hO hs g2) hq he (hg.kept (t.trans tg)) ha h2 (by omega) h3 (by omega) hp hK2).mono ?_
  rintro r w' ⟨rfl, M2, t2, s2⟩
  refine ⟨_, rfl, ?_⟩
  rw [alts, runK_seq] at hr
  have ho := den_onw (R := R) (S := E.S) (L := E.S.size) (fuel := E.fuel) (V := E.V) rfl h5 (n + 1) γ q a gl K d sr hK2.okay (by omega) ha h2 h3 hp
  by_cases h0 : (runK E.fuel (den R E.S (n + 1) q a gl) K sr).1 = 0
  · rw [thenK_no h0] at hr
    refine Or.inl ⟨h0, M2, _, (t.trans tg).trans t2, s2, (hB.kept tg).kept t2, hr, Nat.le_trans h1 ho.ticks, ho.fuel, ho.stay h0, by have := ho.back rfl (by omega); omega⟩
  · rw [thenK_yes h0] at hr
    subst hr
    exact Or.inr ⟨h0, rfl, M2, (t.trans tg).trans t2, s2⟩
set_option maxRecDepth 100000 in
set_option maxHeartbeats 4000000 in
theorem Try_alt (hO : OutOk E O) (p : Pat) (kv : Value) (a : Nat) (gv : Value) (gl : List Gift) (d : Nat) (g : FuncId) (lb : Array Value) (K : Cont γ) (hst : St E O w M s) (hk : p.kind = 19) (ht : s.ticks < E.fuel) (hf : E.fuel ≤ 100000) {R : List Rule} {n : Nat} (hT : TrySpec E O R n) (hp : PatV E.w0 kv p) (he : ∀ q ∈ p.kids, errW q = 0) (h0 : 0 < p.kids.length) (hn : E.fuel ≤ s.ticks + 1 + n)
    (hg : GV w M gv gl) (ha : a ≤ E.S.size) (hw : s.ways ≤ E.V) (hd : gl.length + d ≤ s.ticks) (hsd : s.said.length ≤ 300000 * (s.ticks + s.ways)) (hK : ThenOk E O M w (s.ticks + 1) d a g lb K) :
    Calls Tryd.prog 18 #[.pointer (some ⟨E.lb, 0, none⟩), .agg (p.cells kv), .int .i64 a, gv, .func (.func g) #[] lb] w fun r w' => r = .returned (.int .i64 ((runK E.fuel (alts (den R E.S (n + 1)) p.kids a gl) K { s with ticks := s.ticks + 1 }).1 : Nat)) ∧ ∃ M', Turn M M' w w' ∧ St E O w' M' (runK E.fuel (alts (den R E.S (n + 1)) p.kids a gl) K { s with ticks := s.ticks + 1 }).2 := by
  obtain ⟨kb, ko, kc, rfl, hkc, hkm, hks⟩ : ∃ kb ko kc, kv = .slice (some ⟨kb, ko, none⟩) p.kids.length kc ∧ p.kids.length ≤ kc ∧ kc ≤ maxLen ∧ ∀ i, i < p.kids.length → PatAt E.w0 kb (ko + i * 5) (p.kids.getD i Pat.zero) := by
    rcases hp.kids with ⟨x, y, e, e2⟩ | ⟨b, o, c, e, h1, h2, h3, h4⟩
    · rw [e2] at h0; exact absurd h0 (by simp)
    · exact ⟨b, o, c, e, h2, h3, h4⟩
  obtain ⟨gp, gc, rfl, _⟩ := hg.1.len
  obtain ⟨kr, hkr⟩ : ∃ kr, runK E.fuel (alts (den R E.S (n + 1)) p.kids a gl) K { s with ticks := s.ticks + 1 } = kr := ⟨_, rfl⟩
  rw [hkr]
  have HL0 : Hid (∀ W1 b, Turn M M w W1 → St E O W1 M { s with ticks := s.ticks + 1 } → Boxed E.lb M W1 b p (.slice (some ⟨kb, ko, none⟩) p.kids.length kc) a (.func (.func g) #[] lb) → Af E O M w (s.ticks + 1) a gl g lb K (den R E.S (n + 1)) b p (.slice (some ⟨kb, ko, none⟩) p.kids.length kc) kr W1 (p.kids.drop 0)) := fun W1 b t1 h1 hB => ⟨M, _, t1, h1, hB, hkr, Nat.le_refl _, ht, hw, by simp only []; omega⟩
  have HCall : Hid (∀ (wr : World) (b : Nat) (q : Pat) (kq : Value) (rest : List Pat), PatV E.w0 kq q → q ∈ p.kids → Af E O M w (s.ticks + 1) a gl g lb K (den R E.S (n + 1)) b p (.slice (some ⟨kb, ko, none⟩) p.kids.length kc) kr wr (q :: rest) → ∀ w2, Grew wr w2 → Calls Tryd.prog 18 #[.pointer (some ⟨E.lb, 0, none⟩), .agg (q.cells kq), .int .i64 a, .slice gp gl.length gc, .func (.func g) #[] lb] w2 fun r w' => ∃ k : Nat, r = .returned (.int .i64 k) ∧ ((k = 0 ∧ Af E O M w (s.ticks + 1) a gl g lb K (den R E.S (n + 1)) b p (.slice (some ⟨kb, ko, none⟩) p.kids.length kc) kr w' rest) ∨ (k ≠ 0 ∧ kr.1 = k ∧ ∃ M', Turn M M' w w' ∧ St E O w' M' kr.2))) := fun wr b q kq rest hq hm h w2 g2 => h.call hO hT hf hK hg (by omega) ha hn hq (he q hm) g2
  have HKs := hidd hks
  have hkl : p.kids.length ≤ 9223372036854775807 := by unfold maxLen at hkm; omega
  have HKl : Hid (p.kids.length = p.kids.length) := rfl
  obtain ⟨len, hlen⟩ : ∃ len, p.kids.length = len := ⟨_, rfl⟩
  rw [hlen] at HL0 HCall hkl hkc h0 ⊢
  have HLen := hidd hlen
  clear hkr hK hg hd hsd hw hT hp he hn ha hks hlen hkm
  obtain ⟨sv, ov, h⟩ := hst
  have HBx := hidd (boxed (E := E) h.lt p (.slice (some ⟨kb, ko, none⟩) len kc) a (.func (.func g) #[] lb))
  have HGr : Hid (Grew w ((((w.alloc (.cells #[.pointer (some ⟨E.lb, 0, none⟩)] 51)).alloc (.cells (p.cells (.slice (some ⟨kb, ko, none⟩) len kc)) 25)).alloc (.cells #[.int .i64 a] 3)).alloc (.cells #[.func (.func g) #[] lb] 81))) := ((((Grew.refl w).alloc _).alloc _).alloc _).alloc _
  have H := hidd h
  have hb : decide ((E.fuel : Int) ≤ (s.ticks : Int)) = false := decide_eq_false (by omega)
  have hb2 : decide (E.fuel ≤ s.ticks) = false := decide_eq_false (by omega)
  clear h
  unfold Pat.cells at HBx HGr ⊢
  rw [hk] at HBx HGr ⊢
  go_enter Tryd.func18, Tryd.ntmps18
  go_wp2_with fail
  generalize ((((w.alloc (.cells #[.pointer (some ⟨E.lb, 0, none⟩)] 51)).alloc (.cells #[.int .i64 19, .string p.text, .int .i64 p.n, .string p.name, .slice (some ⟨kb, ko, none⟩) len kc] 25)).alloc (.cells #[.int .i64 a] 3)).alloc (.cells #[.func (.func g) #[] lb] 81)) = W at HBx HGr ⊢
  have HW := hidd (H.out.grown hO HGr.out)
  have c5 := HBx.out.c5
  have c3 : W.cell? ⟨E.lb, 3, none⟩ = some (.int .i64 s.ticks) := HW.out.cell rfl
  have c2 : W.cell? ⟨E.lb, 2, none⟩ = some (.int .i64 E.fuel) := HW.out.cell rfl
  have f3 := HW.out.free 3
  obtain ⟨b, hbb⟩ : ∃ b, w.heap.size = b := ⟨_, rfl⟩
  rw [hbb] at HBx c5 ⊢
  go_quiet (fail)
  have HT1 := tick_st hO HW.out nq
  go_upto_region 5 with fail
  clear c5 c3 c2 f3 hb hb2
  generalize ((W.drewN nq).setCell ⟨E.lb, 3, none⟩ (.int .i64 ((s.ticks : Int) + 1))) = W1 at HT1 ⊢
  have HS1 := hidd HT1.1
  have HTu := hidd ((Turn.of_grew (M := M) HGr.out).trans HT1.2)
  have HB1 := hidd (HBx.out.kept HT1.2)
  clear HT1 HBx HW HGr
  have c5 := HB1.out.c5
  obtain ⟨q0, q1, q2, q3, q4⟩ := HB1.out.fields
  rw [hk] at q0
  have c7 := HB1.out.c7
  have c9 := HB1.out.c9
  have c1 : W1.cell? ⟨E.lb, 1, none⟩ = some (.string E.S) := HS1.out.cell rfl
  have HLf := hidd (HL0.out W1 b HTu.out ⟨_, _, HS1.out⟩ HB1.out)
  clear HL0
  go_wp2_with fail
  go_loopw [20, 21, 186] (fun u20 u21 u186 wr => ∃ i : Nat, u186 = .int .i64 i ∧ i ≤ len ∧ Hid (Af E O M w (s.ticks + 1) a gl g lb K (den R E.S (n + 1)) b p (.slice (some ⟨kb, ko, none⟩) len kc) kr wr (p.kids.drop i))) (fun _ _ u186 _ => len - (intOf u186).toNat)
  case atStart => exact ⟨0, rfl, Nat.zero_le _, HLf.out⟩
  case round =>
    obtain ⟨i, rfl, hi, HR⟩ := hrel
    clear HLf c5 c7 c9 c1 q0 q1 q2 q3 q4
    obtain ⟨c5, c7, c9, gE⟩ := HR.out.boxes
    by_cases hlt : i < len
    · have d1 : decide ((i : Int) < (len : Int)) = true := decide_eq_true (by omega)
      have d2 : decide (i < len) = true := decide_eq_true hlt
      have hil : i < p.kids.length := by rw [HLen.out]; exact hlt
      obtain ⟨kq, hnq, hvq⟩ := (HKs.out i hil).value
      have hgd : p.kids.getD i Pat.zero = p.kids[i] := by rw [List.getD_eq_getElem?_getD, List.getElem?_eq_getElem hil]; rfl
      have hmem : p.kids.getD i Pat.zero ∈ p.kids := by rw [hgd]; exact List.getElem_mem hil
      have HR2 := HR.out
      rw [List.drop_eq_getElem_cons hil, ← hgd] at HR2
      have HC2 := hidd (HCall.out wr b _ kq _ hvq hmem HR2)
      obtain ⟨kqa, kqc, rfl, _⟩ := hvq.kids.len
      obtain ⟨k0, k1, k2, k3, k4, _, _, _, _⟩ := hnq.kept gE
      have hlt0 : b + 1 + 1 + 1 < wr.heap.size := lt_of_cell c9
      obtain ⟨q, hqq⟩ : ∃ q, p.kids.getD i Pat.zero = q := ⟨_, rfl⟩
      rw [hqq] at HC2 k0 k1 k2 k3 k4
      obtain ⟨kl, hkl0⟩ : ∃ kl, q.kids.length = kl := ⟨_, rfl⟩
      rw [hkl0] at HC2 k4
      unfold Pat.cells at HC2
      obtain ⟨N, hN⟩ : ∃ N, i * 5 = N := ⟨_, rfl⟩
      rw [hN] at k0 k1 k2 k3 k4
      have hN2 : (i : Int).toNat * 5 = N := by simpa using hN
      have A5 : ∀ o, (wr.alloc o).cell? ⟨b, 0, none⟩ = some (.pointer (some ⟨E.lb, 0, none⟩)) := fun o => ((Grew.refl wr).alloc o).keeps c5
      have A7 : ∀ o, (wr.alloc o).cell? ⟨b + 1 + 1, 0, none⟩ = some (.int .i64 a) := fun o => ((Grew.refl wr).alloc o).keeps c7
      have A9 : ∀ o, (wr.alloc o).cell? ⟨b + 1 + 1 + 1, 0, none⟩ = some (.func (.func g) #[] lb) := fun o => ((Grew.refl wr).alloc o).keeps c9
      clear HR2 hil hgd hmem hvq hnq hqq
      go_wp2_with fail
      refine (HC2.out _ ((Grew.refl wr).alloc _)).mono ?_; rintro r W2 ⟨k, rfl, ⟨rfl, hl⟩ | ⟨hk0, hke, hx⟩⟩
      · have HL2 := hidd hl
        clear hl
        go_wp2_with fail
        go_roundw
        case rel => exact ⟨i + 1, by go_num, by omega, HL2.out⟩
        case measure => simp [intOf]; omega
      · have e0 : ((k : Int) == 0) = false := by rw [beq_eq_false_iff_ne]; omega
        have HX := hidd (And.intro hke hx)
        clear hke hx hk0
        go_wp2_with fail
        go_ret
        exact ⟨by rw [HX.out.1]; rfl, HX.out.2⟩
    · have d1 : decide ((i : Int) < (len : Int)) = false := decide_eq_false (by omega)
      have d2 : decide (i < len) = false := decide_eq_false hlt
      have HR2 := HR.out
      rw [List.drop_of_length_le (by rw [HLen.out]; omega)] at HR2
      have HX := hidd HR2.done
      clear HR2
      go_wp2_with fail
      go_ret
      exact ⟨by rw [HX.out.1]; rfl, HX.out.2⟩
end
end Go.Proofs.YtcmdhgamlhnioaaDoor
/-! The document's Try: the pattern of a name. Printed. -/
namespace Go.Proofs.YtcmdhgamlhnioaaDoor
open Go.RowKit
set_option linter.unusedVariables false
theorem txt_eq {a b : ByteArray} (h : a = b) : (a.toList == b.toList) = true := by subst h; simp
theorem txt_ne {a b : ByteArray} (h : a ≠ b) : (a.toList == b.toList) = false := by
  rw [beq_eq_false_iff_ne]
  intro e
  rw [Lib.toList_data, Lib.toList_data] at e
  exact h (sameText_iff.1 (by unfold sameText; rw [e]; simp))
section
variable {γ : Type} {E : Env} {O : OutP γ} {w : World} {M : Nat → Prop} {s : LS γ}
set_option maxRecDepth 100000 in
set_option maxHeartbeats 4000000 in
theorem Try_call (hO : OutOk E O) (p : Pat) (kv : Value) (a : Nat) (gv : Value) (gl : List Gift) (d : Nat) (g : FuncId) (lb : Array Value) (K : Cont γ) (hst : St E O w M s) (hk : p.kind = 24) (ht : s.ticks < E.fuel) (hf : E.fuel ≤ 100000) {R : List Rule} {n : Nat} (hT : TrySpec E O R n) (hp : PatV E.w0 kv p) (hRA : RulesAt E.w0 E.rv R) (hRe : ∀ r ∈ R, errW r.2 = 0) (hn : E.fuel ≤ s.ticks + 1 + n)
    (hg : GV w M gv gl) (ha : a ≤ E.S.size) (hw : s.ways ≤ E.V) (hd : gl.length + d ≤ s.ticks) (hsd : s.said.length ≤ 300000 * (s.ticks + s.ways)) (hK : ThenOk E O M w (s.ticks + 1) d a g lb K) :
    Calls Tryd.prog 18 #[.pointer (some ⟨E.lb, 0, none⟩), .agg (p.cells kv), .int .i64 a, gv, .func (.func g) #[] lb] w fun r w' => r = .returned (.int .i64 ((runK E.fuel (match ruleOf R p.name with | some q => den R E.S (n + 1) q a gl | none => Tr.stop .name) K { s with ticks := s.ticks + 1 }).1 : Nat)) ∧ ∃ M', Turn M M' w w' ∧ St E O w' M' (runK E.fuel (match ruleOf R p.name with | some q => den R E.S (n + 1) q a gl | none => Tr.stop .name) K { s with ticks := s.ticks + 1 }).2 := by
  obtain ⟨ka, kc, rfl, _⟩ := hp.kids.len
  obtain ⟨gp, gc, rfl, _⟩ := hg.1.len
  obtain ⟨ra, rc, hrv, hR9⟩ := hRA.len
  have HRu : Hid (∀ i, i < R.length → ∃ rb ro kq, ra = some ⟨rb, ro, none⟩ ∧ RuleAt E.w0 rb (ro + i * 6) (R.getD i Rule.zero) kq ∧ R.length ≤ rc) := fun i hi => by
    rw [hrv] at hRA
    rcases hRA with ⟨_, _, _, e⟩ | ⟨b, o, c, e, h0, h1, h2, h3⟩
    · rw [e] at hi; exact absurd hi (by simp)
    · cases e
      obtain ⟨kq, h⟩ := rule_open (h3 i hi)
      exact ⟨b, o, kq, rfl, h, h1⟩
  obtain ⟨T, hTr⟩ : ∃ T, (match ruleOf R p.name with | some q => den R E.S (n + 1) q a gl | none => Tr.stop .name) = T := ⟨_, rfl⟩
  rw [hTr]
  have HNone : Hid (R.find? (fun r => sameText r.1 p.name) = none → T = Tr.stop .name) := fun h => by rw [← hTr]; unfold ruleOf; rw [h]; rfl
  have HSome : Hid (∀ r, R.find? (fun r => sameText r.1 p.name) = some r → T = den R E.S (n + 1) r.2 a gl) := fun r h => by rw [← hTr]; unfold ruleOf; rw [h]; rfl
  have HCall : Hid (∀ (W1 : World) (q : Pat) (kq : Value), Turn M M w W1 → St E O W1 M { s with ticks := s.ticks + 1 } → PatV E.w0 kq q → errW q = 0 → Calls Tryd.prog 18 #[.pointer (some ⟨E.lb, 0, none⟩), .agg (q.cells kq), .int .i64 a, .slice gp gl.length gc, .func (.func g) #[] lb] W1 fun r w' => r = .returned (.int .i64 ((runK E.fuel (den R E.S (n + 1) q a gl) K { s with ticks := s.ticks + 1 }).1 : Nat)) ∧ ∃ M', Turn M M' W1 w' ∧ St E O w' M' (runK E.fuel (den R E.S (n + 1) q a gl) K { s with ticks := s.ticks + 1 }).2) := fun W1 q kq t1 h1 hq he =>
    hT W1 M _ q kq a _ gl d g lb K h1 hq he (hg.kept t1) ha ht hn hw (by simp only []; omega) (by simp only []; omega) (hK.later t1 (Nat.le_succ _) (Nat.le_refl _))
  have HRe := hidd hRe
  obtain ⟨len, hlen⟩ : ∃ len, R.length = len := ⟨_, rfl⟩
  rw [hlen] at hrv hR9 HRu
  have HLen := hidd hlen
  clear hTr hK hg hd hsd hw hT hp hn ha hRA hRe hlen
  obtain ⟨sv, ov, h⟩ := hst
  have HBx := hidd (boxed (E := E) h.lt p (.slice ka p.kids.length kc) a (.func (.func g) #[] lb))
  have HGr : Hid (Grew w ((((w.alloc (.cells #[.pointer (some ⟨E.lb, 0, none⟩)] 51)).alloc (.cells (p.cells (.slice ka p.kids.length kc)) 25)).alloc (.cells #[.int .i64 a] 3)).alloc (.cells #[.func (.func g) #[] lb] 81))) := ((((Grew.refl w).alloc _).alloc _).alloc _).alloc _
  have H := hidd h
  have hb : decide ((E.fuel : Int) ≤ (s.ticks : Int)) = false := decide_eq_false (by omega)
  have hb2 : decide (E.fuel ≤ s.ticks) = false := decide_eq_false (by omega)
  clear h
  unfold Pat.cells at HBx HGr ⊢
  rw [hk] at HBx HGr ⊢
  go_enter Tryd.func18, Tryd.ntmps18
  go_wp2_with fail
  generalize ((((w.alloc (.cells #[.pointer (some ⟨E.lb, 0, none⟩)] 51)).alloc (.cells #[.int .i64 24, .string p.text, .int .i64 p.n, .string p.name, .slice ka p.kids.length kc] 25)).alloc (.cells #[.int .i64 a] 3)).alloc (.cells #[.func (.func g) #[] lb] 81)) = W at HBx HGr ⊢
  have HW := hidd (H.out.grown hO HGr.out)
  have c5 := HBx.out.c5
  have c3 : W.cell? ⟨E.lb, 3, none⟩ = some (.int .i64 s.ticks) := HW.out.cell rfl
  have c2 : W.cell? ⟨E.lb, 2, none⟩ = some (.int .i64 E.fuel) := HW.out.cell rfl
  have f3 := HW.out.free 3
  obtain ⟨b, hbb⟩ : ∃ b, w.heap.size = b := ⟨_, rfl⟩
  rw [hbb] at HBx c5 ⊢
  go_quiet (fail)
  have HT1 := tick_st hO HW.out nq
  go_upto_region 5 with fail
  clear c5 c3 c2 f3 hb hb2
  generalize ((W.drewN nq).setCell ⟨E.lb, 3, none⟩ (.int .i64 ((s.ticks : Int) + 1))) = W1 at HT1 ⊢
  have HS1 := hidd HT1.1
  have HTu := hidd ((Turn.of_grew (M := M) HGr.out).trans HT1.2)
  have HB1 := hidd (HBx.out.kept HT1.2)
  clear HT1 HBx HW HGr
  have c5 := HB1.out.c5
  obtain ⟨q0, q1, q2, q3, q4⟩ := HB1.out.fields
  rw [hk] at q0
  have c7 := HB1.out.c7
  have c9 := HB1.out.c9
  have c1 : W1.cell? ⟨E.lb, 1, none⟩ = some (.string E.S) := HS1.out.cell rfl
  have c0 : W1.cell? ⟨E.lb, 0, none⟩ = some (.slice ra len rc) := by rw [← hrv]; exact HS1.out.cell rfl
  go_wp2_with fail
  go_loopw [23, 240] (fun u23 u240 wr => ∃ i : Nat, u240 = .int .i64 i ∧ i ≤ len ∧ Hid (R.find? (fun r => sameText r.1 p.name) = (R.drop i).find? (fun r => sameText r.1 p.name)) ∧ Hid (Grew W1 wr)) (fun _ u240 _ => len - (intOf u240).toNat)
  case atStart => exact ⟨0, rfl, Nat.zero_le _, rfl, Grew.refl _⟩
  case round =>
    obtain ⟨i, rfl, hi, HF, HG⟩ := hrel
    have gE := hidd (HS1.out.grew.trans HG.out)
    have p5 := HG.out.keeps c5
    have p3 := HG.out.keeps q3
    have p7 := HG.out.keeps c7
    have p9 := HG.out.keeps c9
    by_cases hlt : i < len
    · have d1 : decide ((i : Int) < (len : Int)) = true := decide_eq_true (by omega)
      have d2 : decide (i < len) = true := decide_eq_true hlt
      have hil : i < R.length := by rw [HLen.out]; exact hlt
      obtain ⟨rb, ro, kq, rfl, hru, hrc⟩ := HRu.out i hlt
      have hgd : R.getD i Rule.zero = R[i] := by rw [List.getD_eq_getElem?_getD, List.getElem?_eq_getElem hil]; rfl
      have hmem : R.getD i Rule.zero ∈ R := by rw [hgd]; exact List.getElem_mem hil
      have HF2 := HF.out
      rw [List.drop_eq_getElem_cons hil, ← hgd, List.find?_cons] at HF2
      obtain ⟨r, hr⟩ : ∃ r, R.getD i Rule.zero = r := ⟨_, rfl⟩
      rw [hr] at hru hmem HF2
      obtain ⟨kqa, kqc, rfl, _⟩ := hru.pat.kids.len
      have k0 := gE.out.keeps hru.c
      obtain ⟨k1, k2, k3, k4, k5, _, _, _, _⟩ := hru.node.kept gE.out
      obtain ⟨kl, hkl⟩ : ∃ kl, r.2.kids.length = kl := ⟨_, rfl⟩
      have HPv := hidd hru.pat
      rw [hkl] at k5
      rw [hkl] at HPv
      have HEr := hidd (HRe.out r hmem)
      obtain ⟨N, hN⟩ : ∃ N, i * 6 = N := ⟨_, rfl⟩
      rw [hN] at k0 k1 k2 k3 k4 k5
      have hN2 : (i : Int).toNat * 6 = N := by simpa using hN
      have j2 : wr.cell? ⟨rb, ro + N + 2, none⟩ = _ := k2
      have j3 : wr.cell? ⟨rb, ro + N + 3, none⟩ = _ := k3
      have j4 : wr.cell? ⟨rb, ro + N + 4, none⟩ = _ := k4
      have j5 : wr.cell? ⟨rb, ro + N + 5, none⟩ = _ := k5
      have A5 : ∀ o, (wr.alloc o).cell? ⟨b, 0, none⟩ = some (.pointer (some ⟨E.lb, 0, none⟩)) := fun o => ((Grew.refl wr).alloc o).keeps p5
      have A3 : ∀ o, (wr.alloc o).cell? ⟨b + 1, 3, none⟩ = some (.string p.name) := fun o => ((Grew.refl wr).alloc o).keeps p3
      have A7 : ∀ o, (wr.alloc o).cell? ⟨b + 1 + 1, 0, none⟩ = some (.int .i64 a) := fun o => ((Grew.refl wr).alloc o).keeps p7
      have A9 : ∀ o, (wr.alloc o).cell? ⟨b + 1 + 1 + 1, 0, none⟩ = some (.func (.func g) #[] lb) := fun o => ((Grew.refl wr).alloc o).keeps p9
      by_cases hs : r.1 = p.name
      · have e1 := txt_eq hs
        rw [sameText_iff.2 hs] at HF2
        have hTT := HSome.out r HF2
        subst hTT
        have HC2 := hidd (fun o => HCall.out (wr.alloc o) r.2 _ (HTu.out.trans (Turn.of_grew (HG.out.alloc o))) ⟨_, _, HS1.out.grown hO (HG.out.alloc o)⟩ HPv.out HEr.out)
        have HTw := hidd (fun o => HTu.out.trans (Turn.of_grew (HG.out.alloc o)))
        obtain ⟨kr, hkr⟩ : ∃ kr, runK E.fuel (den R E.S (n + 1) r.2 a gl) K { s with ticks := s.ticks + 1 } = kr := ⟨_, rfl⟩
        rw [hkr] at HC2
        have HKr := hidd hkr
        unfold Pat.cells at HC2
        clear HF2 hil hgd hmem hru hkl hs hkr HCall k2 k3 k4 k5 hr
        go_wp2_with fail
        refine (HC2.out _).mono ?_; rintro r0 W2 ⟨rfl, hx⟩
        have HX := hidd hx
        clear hx
        go_wp2_with fail
        go_ret
        rw [HKr.out]
        obtain ⟨M2, t2, s2⟩ := HX.out
        exact ⟨rfl, M2, (HTw.out _).trans t2, s2⟩
      · have e1 := txt_ne hs
        have hsf : sameText r.1 p.name = false := by
          rw [← Bool.not_eq_true]; exact fun e => hs (sameText_iff.1 e)
        rw [hsf] at HF2
        have HF3 : Hid (R.find? (fun r => sameText r.1 p.name) = (R.drop (i + 1)).find? (fun r => sameText r.1 p.name)) := HF2
        clear HF2 hil hgd hmem hru hkl hs hsf HCall k2 k3 k4 k5 hr
        go_wp2_with fail
        go_roundw
        case rel => exact ⟨i + 1, by go_num, by omega, HF3, HG.out.alloc _⟩
        case measure => simp [intOf]; omega
    · have d1 : decide ((i : Int) < (len : Int)) = false := decide_eq_false (by omega)
      have d2 : decide (i < len) = false := decide_eq_false hlt
      have HF2 := HF.out
      rw [List.drop_of_length_le (by rw [HLen.out]; omega)] at HF2
      have hTT := HNone.out HF2
      subst hTT
      have HS2 := hidd (HS1.out.grown hO HG.out)
      have c5l : wr.cell? ⟨E.lb, 5, none⟩ = some (.int .i64 s.err) := HS2.out.cell rfl
      have f5 := HS2.out.free 5
      clear HF2 HCall
      go_wp2_with fail
      go_ret
      obtain ⟨h2, t2⟩ := HS2.out.put hO { s with ticks := s.ticks + 1, err := 7 } 5 (.int .i64 7) rfl rfl rfl
      exact ⟨rfl, M, (HTu.out.trans (Turn.of_grew HG.out)).trans t2, _, _, h2⟩
end
end Go.Proofs.YtcmdhgamlhnioaaDoor
