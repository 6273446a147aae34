/- Regions of open order that hold sets against each other: what each slot is to be. -/
import Derived.Test.YtolfdcbebjfjiaaDoorRegion
import Derived.Test.YtolfdcbebjfjiaaDoorStEq
import Derived.BigCall
namespace Go.Proofs.YtolfdcbebjfjiaaDoor
open Go.RowKit
set_option linter.unusedVariables false
inductive Sh where
  | val (v : Value)
  | fact (P : Value → World → Prop) (h : ∀ v w w', Grew w w' → P v w → P v w')
  | any
def Sh.At : Sh → Value → World → Prop
  | .val u, v, _ => v = u
  | .fact P _, v, w => P v w
  | .any, _, _ => True
theorem Sh.At.mono {s : Sh} {v : Value} {w w' : World} (g : Grew w w') (h : s.At v w) : s.At v w' := by
  cases s with
  | val u => exact h
  | fact P hm => exact hm v w w' g h
  | any => trivial
def shF (shs : List Sh) (i : Nat) (v : Value) (w : World) : Prop := (shs.getD i .any).At v w
theorem shF_mono (shs : List Sh) (i : Nat) (v : Value) (w w' : World) (g : Grew w w') (h : shF shs i v w) : shF shs i v w' := Sh.At.mono g h
section
variable {ops : Array Oper} {Q : Exit → Act → World → Prop} {shs : List Sh} {a0 : Act} {w0 : World} {A : Array Edge}
def edgeTo (ops : Array Oper) (A : Array Edge) (j : Nat) : Option Edge := A.toList.find? fun e => Region.binds .any e && ((ops[e.on]?).bind (·.dst) == some j)
def srcOf (ops : Array Oper) (shs : List Sh) (A : Array Edge) (a0 : Act) (j : Nat) : Sh :=
  match edgeTo ops A j with
  | some e => shs.getD e.on .any
  | none => if ops.toList.all (fun o => o.dst != some j) then .val (a0.tmps.getD j undef) else .any
def opSh (ops : Array Oper) (shs : List Sh) (A : Array Edge) (a0 : Act) : Operand → Sh
  | .tmp j => srcOf ops shs A a0 j
  | .const v => .val v
  | .global g => .val (.pointer (some ⟨g, 0, none⟩))
  | .func f => .val (.func (.func f) #[] #[])
def guardOk (ops : Array Oper) (shs : List Sh) (A : Array Edge) : Option (Nat × Bool) → Bool
  | none => true
  | some (g, b) => (A.toList.any fun e => Region.binds .any e && e.on == g) && ((ops[g]?).bind (·.dst)).isSome && (match shs.getD g .any with | .val (.bool b') => b' == b | _ => false)
/-- What an operation finds. -/
structure Env (ops : Array Oper) (shs : List Sh) (a0 : Act) (w0 : World) (A : Array Edge) (a : Act) (w : World) : Prop where
  grew : Grew w0 w
  same : ∀ d, (∀ (i : Nat) o, ops[i]? = some o → o.dst ≠ some d) → a.tmps.getD d undef = a0.tmps.getD d undef
  dep : ∀ e ∈ A, Region.binds .any e = true → ∀ oe d, ops[e.on]? = some oe → oe.dst = some d → shF shs e.on (a.tmps.getD d undef) w ∧ d < a.tmps.size
theorem Env.src {a : Act} {w : World} (h : Env ops shs a0 w0 A a w) (j : Nat) : (srcOf ops shs A a0 j).At (a.tmps.getD j undef) w := by
  unfold srcOf
  cases he : edgeTo ops A j with
  | some e =>
    have h1 := List.find?_some he
    have h2 := List.mem_of_find?_eq_some he
    rw [Bool.and_eq_true, beq_iff_eq] at h1
    obtain ⟨oe, ho, hd⟩ := Option.bind_eq_some_iff.1 h1.2
    exact (h.dep e (by simpa using h2) h1.1 oe j ho hd).1
  | none =>
    dsimp only
    split
    · rename_i hall
      rw [List.all_eq_true] at hall
      refine h.same j fun i o ho e => ?_
      have := hall o (by simpa using Array.mem_of_getElem? ho)
      rw [e] at this
      simp at this
    · trivial
theorem Env.op {a : Act} {w : World} (h : Env ops shs a0 w0 A a w) (x : Operand) : (opSh ops shs A a0 x).At (a.eval x) w := by
  cases x with
  | tmp j => exact h.src j
  | const v => rfl
  | global g => rfl
  | func f => rfl
theorem Env.guard {a : Act} {w : World} (h : Env ops shs a0 w0 A a w) {d : Option Tmp} {op : Op} {ty : TypeId} {pos : String} {G : Option (Nat × Bool)} (hg : guardOk ops shs A G = true) :
    Region.wanted ⟨d, op, ty, pos, A, G⟩ (yielded ops a.tmps) = true := by
  unfold Region.wanted
  cases G with
  | none => rfl
  | some gb =>
    obtain ⟨g, b⟩ := gb
    unfold guardOk at hg
    rw [Bool.and_eq_true, Bool.and_eq_true] at hg
    obtain ⟨⟨h1, h2⟩, h3⟩ := hg
    obtain ⟨e, he, hb⟩ := List.any_eq_true.1 h1
    rw [Bool.and_eq_true, beq_iff_eq] at hb
    obtain ⟨hb, rfl⟩ := hb
    obtain ⟨dd, hdd⟩ := Option.isSome_iff_exists.1 h2
    obtain ⟨oe, ho, hd⟩ := Option.bind_eq_some_iff.1 hdd
    obtain ⟨k1, k2⟩ := h.dep e (by simpa using he) hb oe dd ho hd
    unfold shF at k1
    dsimp only
    split at h3
    · rename_i b' hs
      rw [hs] at k1
      have k1 : a.tmps.getD dd undef = .bool b' := k1
      have k3 : a.tmps[dd]? = some (.bool b') := by
        rw [Array.getD_eq_getD_getElem?, Array.getElem?_eq_getElem k2, Option.getD_some] at k1
        rw [Array.getElem?_eq_getElem k2, k1]
      unfold yielded
      rw [hdd]
      simp only [Option.bind_some, k3]
      rw [eq_of_beq h3]
      simp
    · cases h3

variable {i : Nat} {d : Option Tmp} {op : Op} {ty : TypeId} {pos : String} {G : Option (Nat × Bool)}
/-- An operation whose run is told. -/
theorem st_run (hg : guardOk ops shs A G = true) (h : ∀ a w, Env ops shs a0 w0 A a w → ∀ K : Act → World → Prop, (∀ v w', Grew w w' → shF shs i v w' → K (a.put d v) w') → Oper.wp Tryd.prog ⟨d, op, ty, pos, A, G⟩ a w K Q) :
    StepOk Tryd.prog ops Q (shF shs) a0 w0 i ⟨d, op, ty, pos, A, G⟩ := by
  intro a w hw hs hd K hK
  have E : Env ops shs a0 w0 A a w := ⟨hw, hs, hd⟩
  rw [if_pos (E.guard hg)]
  exact h a w E K hK
theorem st_move {x : Operand} (hg : guardOk ops shs A G = true) (hx : opSh ops shs A a0 x = shs.getD i .any) : StepOk Tryd.prog ops Q (shF shs) a0 w0 i ⟨d, .move x, ty, pos, A, G⟩ :=
  st_run hg fun a w E K hK => hK _ _ (Grew.refl w) (by unfold shF; rw [← hx]; exact E.op x)
theorem st_assign {x : Operand} (hg : guardOk ops shs A G = true) (hx : opSh ops shs A a0 x = shs.getD i .any) : StepOk Tryd.prog ops Q (shF shs) a0 w0 i ⟨d, .assign x, ty, pos, A, G⟩ :=
  st_run hg fun a w E K hK => hK _ _ (Grew.refl w) (by unfold shF; rw [← hx]; exact E.op x)
theorem st_pick {c x y : Operand} (hg : guardOk ops shs A G = true) (hc : opSh ops shs A a0 c = .val (.bool true)) (hx : opSh ops shs A a0 x = shs.getD i .any) : StepOk Tryd.prog ops Q (shF shs) a0 w0 i ⟨d, .pick c x y, ty, pos, A, G⟩ :=
  st_run hg fun a w E K hK => by
    have hcv := E.op c
    rw [hc] at hcv
    have hcv : a.eval c = .bool true := hcv
    have := hK (a.eval x) w (Grew.refl w) (by unfold shF; rw [← hx]; exact E.op x)
    unfold Oper.wp execOp
    simpa [hcv, asBool, Oper.upon] using this
theorem st_pickF {c x y : Operand} (hg : guardOk ops shs A G = true) (hc : opSh ops shs A a0 c = .val (.bool false)) (hx : opSh ops shs A a0 y = shs.getD i .any) : StepOk Tryd.prog ops Q (shF shs) a0 w0 i ⟨d, .pick c x y, ty, pos, A, G⟩ :=
  st_run hg fun a w E K hK => by
    have hcv := E.op c
    rw [hc] at hcv
    have hcv : a.eval c = .bool false := hcv
    have := hK (a.eval y) w (Grew.refl w) (by unfold shF; rw [← hx]; exact E.op y)
    unfold Oper.wp execOp
    simpa [hcv, asBool, Oper.upon] using this
/-- A set out of its block. -/
theorem st_load {x : Operand} {b : Nat} {g : Nat → Bool} (hb : SetAt w0 b g) (hg : guardOk ops shs A G = true) (hx : opSh ops shs A a0 x = .val (.pointer (some ⟨b, 0, none⟩)))
    (hs : shs.getD i .any = .val (setV g)) : StepOk Tryd.prog ops Q (shF shs) a0 w0 i ⟨d, .load 24 x, ty, pos, A, G⟩ :=
  st_run hg fun a w E K hK => by
    have hv := E.op x
    rw [hx] at hv
    have hv : a.eval x = .pointer (some ⟨b, 0, none⟩) := hv
    have h := run_loadVar_arr (hb.kept E.grew) Tryd.underlying24 rfl info_set
    unfold Oper.wp execOp
    simp only [hv, Instr.loadAt, Instr.sureAddr, Sem.run_bind, Sem.run_pure, Result.andThen_ok, h]
    exact hK _ _ (Grew.refl w) (by unfold shF; rw [hs]; rfl)
/-- Two that are the same are held against each other. -/
theorem st_neq {x y : Operand} {f g : Nat → Bool} (hfg : setV f = setV g) (hg : guardOk ops shs A G = true) (hx : opSh ops shs A a0 x = .val (setV f)) (hy : opSh ops shs A a0 y = .val (setV g)) (hs : shs.getD i .any = .val (.bool false)) {t2 : TypeId} : StepOk Tryd.prog ops Q (shF shs) a0 w0 i ⟨d, .binOp .neq 24 x y t2, ty, pos, A, G⟩ :=
  st_run hg fun a w E K hK => by
    have hv := E.op x
    have hw := E.op y
    rw [hx] at hv
    rw [hy, ← hfg] at hw
    have hv : a.eval x = setV f := hv
    have hw : a.eval y = setV f := hw
    have := hK (.bool false) w (Grew.refl w) (by unfold shF; rw [hs]; rfl)
    unfold Oper.wp execOp
    unfold setV at hv hw
    simpa [hv, hw, run_eqGuard_agg _ _ _ _ _ _ _ set_guard, run_neq_struct, eq_setV, Oper.upon] using this
theorem st_eq {x y : Operand} {f g : Nat → Bool} (hfg : setV f = setV g) (hg : guardOk ops shs A G = true) (hx : opSh ops shs A a0 x = .val (setV f)) (hy : opSh ops shs A a0 y = .val (setV g)) (hs : shs.getD i .any = .val (.bool true)) {t2 : TypeId} : StepOk Tryd.prog ops Q (shF shs) a0 w0 i ⟨d, .binOp .eql 24 x y t2, ty, pos, A, G⟩ :=
  st_run hg fun a w E K hK => by
    have hv := E.op x
    have hw := E.op y
    rw [hx] at hv
    rw [hy, ← hfg] at hw
    have hv : a.eval x = setV f := hv
    have hw : a.eval y = setV f := hw
    have := hK (.bool true) w (Grew.refl w) (by unfold shF; rw [hs]; rfl)
    unfold Oper.wp execOp
    unfold setV at hv hw
    simpa [hv, hw, run_eqGuard_agg _ _ _ _ _ _ _ set_guard, run_eql_struct, eq_setV, Oper.upon] using this
/-- Numbers, and texts. -/
theorem st_num {x y : Operand} {u v : Value} {op : BinOp} {xt t2 : TypeId} {z : Value} (hr : ∀ (a : Act) w, (do eqGuard op xt x y u v; binOp op xt u v : Sem Value).run Tryd.prog w = .ok z w) (hg : guardOk ops shs A G = true) (hx : opSh ops shs A a0 x = .val u) (hy : opSh ops shs A a0 y = .val v) (hs : shs.getD i .any = .val z) : StepOk Tryd.prog ops Q (shF shs) a0 w0 i ⟨d, .binOp op xt x y t2, ty, pos, A, G⟩ :=
  st_run hg fun a w E K hK => by
    have hv := E.op x
    have hw := E.op y
    rw [hx] at hv
    rw [hy] at hw
    have hv : a.eval x = u := hv
    have hw : a.eval y = v := hw
    have := hK z w (Grew.refl w) (by unfold shF; rw [hs]; rfl)
    have h := hr a w
    unfold Oper.wp execOp
    simp only [hv, hw, Sem.run_bind] at h ⊢
    simpa [h, Oper.upon] using this
/-- Calls: by what they take and what comes. -/
def isGo (P : Program) (f : FuncId) : Bool := match P.funcs[f]? with | some fn => !(fn.name == "runtime.NumGoroutine") && !fn.body.isNone | none => false
theorem run_go {P : Program} {f : FuncId} (h : isGo P f = true) (args : Array Value) (w : World) : (callFunc f args).run P w = .ok (.enter f args) w := by
  unfold isGo at h
  cases hf : P.funcs[f]? with
  | none => rw [hf] at h; cases h
  | some fn =>
    rw [hf] at h
    dsimp only at h
    rw [Bool.and_eq_true] at h
    obtain ⟨h1, h2⟩ := h
    unfold callFunc
    simp only [Sem.run_bind, run_program, Result.andThen_ok, hf]
    rw [if_neg (by simpa using h1), if_neg (by intro e; rw [e] at h2; cases h2)]
    rfl
theorem st_call {f : FuncId} {xs : Array Operand} {ats : Array TypeId} (hf : isGo Tryd.prog f = true) (hg : guardOk ops shs A G = true)
    (hc : ∀ a w, Env ops shs a0 w0 A a w → Calls Tryd.prog f (xs.map a.eval) w fun e w' => ∃ v, e = .returned v ∧ Grew w w' ∧ shF shs i v w') :
    StepOk Tryd.prog ops Q (shF shs) a0 w0 i ⟨d, .call { callee := .value (.func f), args := xs, argTypes := ats }, ty, pos, A, G⟩ :=
  st_run hg fun a w E K hK => by
    unfold Oper.wp
    rw [execOp_call_go, run_go hf, Array.append_empty, Array.empty_append]
    show Calls _ _ _ _ _
    refine (hc a w E).mono fun e w' ⟨v, he, hg', hF⟩ => ?_
    subst he
    exact hK v w' hg' hF
theorem st_call1 {f : FuncId} {x : Operand} {u v : Value} {ats : Array TypeId} (hf : isGo Tryd.prog f = true) (hC : ∀ w1, Grew w0 w1 → Calls Tryd.prog f #[u] w1 fun e w' => e = .returned v ∧ Grew w1 w') (hg : guardOk ops shs A G = true)
    (hx : opSh ops shs A a0 x = .val u) (hs : shs.getD i .any = .val v) : StepOk Tryd.prog ops Q (shF shs) a0 w0 i ⟨d, .call { callee := .value (.func f), args := #[x], argTypes := ats }, ty, pos, A, G⟩ :=
  st_call hf hg fun a w E => by
    have h1 := E.op x
    rw [hx] at h1
    have h1 : a.eval x = u := h1
    simp only [List.map_toArray, List.map_cons, List.map_nil]
    rw [h1]
    exact (hC w E.grew).mono fun e w' ⟨he, hg⟩ => ⟨_, he, hg, by unfold shF; rw [hs]; rfl⟩
theorem st_call2 {f : FuncId} {x y : Operand} {u u2 v : Value} {ats : Array TypeId} (hf : isGo Tryd.prog f = true) (hC : ∀ w1, Grew w0 w1 → Calls Tryd.prog f #[u, u2] w1 fun e w' => e = .returned v ∧ Grew w1 w') (hg : guardOk ops shs A G = true)
    (hx : opSh ops shs A a0 x = .val u) (hy : opSh ops shs A a0 y = .val u2) (hs : shs.getD i .any = .val v) : StepOk Tryd.prog ops Q (shF shs) a0 w0 i ⟨d, .call { callee := .value (.func f), args := #[x, y], argTypes := ats }, ty, pos, A, G⟩ :=
  st_call hf hg fun a w E => by
    have h1 := E.op x
    have h2 := E.op y
    rw [hx] at h1
    rw [hy] at h2
    have h1 : a.eval x = u := h1
    have h2 : a.eval y = u2 := h2
    simp only [List.map_toArray, List.map_cons, List.map_nil]
    rw [h1, h2]
    exact (hC w E.grew).mono fun e w' ⟨he, hg⟩ => ⟨_, he, hg, by unfold shF; rw [hs]; rfl⟩
theorem go_union : isGo Tryd.prog 13 = true := by kernel_rfl
theorem go_meet : isGo Tryd.prog 16 = true := by kernel_rfl
theorem go_less : isGo Tryd.prog 18 = true := by kernel_rfl
theorem go_not : isGo Tryd.prog 20 = true := by kernel_rfl
theorem go_size : isGo Tryd.prog 11 = true := by kernel_rfl
theorem go_text : isGo Tryd.prog 9 = true := by kernel_rfl
theorem go_of : isGo Tryd.prog 7 = true := by kernel_rfl
end
def AllSteps (P : Program) (ops : Array Oper) (Q : Exit → Act → World → Prop) (F : Nat → Value → World → Prop) (a0 : Act) (w0 : World) : Nat → List Oper → Prop
  | _, [] => True
  | k, o :: l => StepOk P ops Q F a0 w0 k o ∧ AllSteps P ops Q F a0 w0 (k + 1) l
theorem AllSteps.at {P : Program} {ops : Array Oper} {Q : Exit → Act → World → Prop} {F : Nat → Value → World → Prop} {a0 : Act} {w0 : World} : ∀ {l : List Oper} {k : Nat}, AllSteps P ops Q F a0 w0 k l → ∀ (i : Nat) o, l[i]? = some o → StepOk P ops Q F a0 w0 (k + i) o
  | [], k, _, i, o, h => by simp at h
  | x :: l, k, ⟨h1, h2⟩, 0, o, h => by
    simp at h; subst h; exact h1
  | x :: l, k, ⟨h1, h2⟩, i + 1, o, h => by
    have := AllSteps.at h2 i o (by simpa using h)
    rwa [show k + 1 + i = k + (i + 1) by omega] at this
theorem mixed : Tryd.prog.follows .mixedOrders = true := by kernel_rfl
/-- A region of open order, by its shapes. -/
theorem region_shapes {ops : List Oper} {Q : Exit → Act → World → Prop} {a0 : Act} {w0 : World} {id : Nat} (shs : List Sh) (hok : regionOk ops.toArray a0.tmps.size = true)
    (hstep : AllSteps Tryd.prog ops.toArray Q (shF shs) a0 w0 0 ops)
    (hend : ∀ a w, Grew w0 w → a.defers = a0.defers → a.tmps.size = a0.tmps.size → (∀ d, (∀ (i : Nat) o, ops.toArray[i]? = some o → o.dst ≠ some d) → a.tmps.getD d undef = a0.tmps.getD d undef) →
      (∀ (i : Nat) o d, ops.toArray[i]? = some o → o.dst = some d → shF shs i (a.tmps.getD d undef) w) → Q .normal a w) :
    (Code.region id ops.toArray true).wp Tryd.prog Q a0 w0 :=
  wp_region_told mixed (shF shs) (shF_mono shs) hok (fun i o ho => by have := AllSteps.at hstep i o (by simpa using ho); rwa [Nat.zero_add] at this) hend
/-- A region of open order, by its shapes; what it leaves in the slots is named. -/
theorem frame_of {D : List Nat} {t0 t1 : Array Value} (hsz : t1.size = t0.size) (h : ∀ d, d ∉ D → t1.getD d undef = t0.getD d undef) : t1 = D.foldl (fun t d => t.setIfInBounds d (t1.getD d undef)) t0 := by
  have key : ∀ (D : List Nat) (t : Array Value), t1.size = t.size → (D.foldl (fun t d => t.setIfInBounds d (t1.getD d undef)) t).size = t.size ∧ ∀ j, (D.foldl (fun t d => t.setIfInBounds d (t1.getD d undef)) t).getD j undef = if j ∈ D ∧ j < t.size then t1.getD j undef else t.getD j undef := by
    intro D
    induction D with
    | nil => intro t _; exact ⟨rfl, fun j => by simp⟩
    | cons d D ih =>
      intro t ht
      obtain ⟨h1, h2⟩ := ih (t.setIfInBounds d (t1.getD d undef)) (by rw [Array.size_setIfInBounds]; exact ht)
      refine ⟨by rw [List.foldl_cons, h1, Array.size_setIfInBounds], fun j => ?_⟩
      rw [List.foldl_cons, h2, Array.size_setIfInBounds]
      by_cases hj : j ∈ D ∧ j < t.size
      · rw [if_pos hj, if_pos ⟨List.mem_cons_of_mem _ hj.1, hj.2⟩]
      · rw [if_neg hj]
        by_cases hjd : j = d
        · subst hjd
          by_cases hl : j < t.size
          · rw [if_pos ⟨List.mem_cons_self, hl⟩]
            simp [Array.getD_eq_getD_getElem?, hl]
          · rw [if_neg (by simp [hl])]
            simp [Array.getD_eq_getD_getElem?, hl]
        · rw [if_neg (by intro h; exact hj ⟨(List.mem_cons.1 h.1).resolve_left hjd, h.2⟩)]
          rw [Array.getD_eq_getD_getElem?, Array.getElem?_setIfInBounds_ne (Ne.symm hjd), Array.getD_eq_getD_getElem?]
  obtain ⟨k1, k2⟩ := key D t0 hsz
  refine Array.ext (by rw [k1, hsz]) fun j h1 h2 => ?_
  have := k2 j
  rw [Array.getD_eq_getD_getElem?, Array.getElem?_eq_getElem h2, Option.getD_some] at this
  rw [this]
  have h3 : t1.getD j undef = t1[j] := by rw [Array.getD_eq_getD_getElem?, Array.getElem?_eq_getElem h1, Option.getD_some]
  by_cases hj : j ∈ D
  · rw [if_pos ⟨hj, by omega⟩, h3]
  · rw [if_neg (fun x => hj x.1), ← h j hj, h3]
theorem region_frame {ops : List Oper} {Q : Exit → Act → World → Prop} {a0 : Act} {w0 : World} {id : Nat} (D : List Nat) (shs : List Sh) (hD : ops.filterMap (·.dst) = D) (hok : regionOk ops.toArray a0.tmps.size = true)
    (hstep : AllSteps Tryd.prog ops.toArray Q (shF shs) a0 w0 0 ops)
    (hend : ∀ (xs : Nat → Value) w, Grew w0 w → (∀ (i : Nat) o d, ops.toArray[i]? = some o → o.dst = some d → shF shs i (xs d) w) → Q .normal ⟨D.foldl (fun t d => t.setIfInBounds d (xs d)) a0.tmps, a0.defers⟩ w) :
    (Code.region id ops.toArray true).wp Tryd.prog Q a0 w0 :=
  region_shapes shs hok hstep fun a w g hdf hsz hsm ht => by
    have := hend (fun d => a.tmps.getD d undef) w g ht
    have hf := frame_of (D := D) hsz fun d hd => hsm d fun i o ho e => hd (by
      rw [← hD, List.mem_filterMap]
      exact ⟨o, by have := Array.mem_of_getElem? ho; simpa using this, e⟩)
    rw [← hf, ← hdf] at this
    exact this
end Go.Proofs.YtolfdcbebjfjiaaDoor
