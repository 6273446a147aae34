/- Regions of open order that make patterns and hold them against each other: what each slot is to be. -/
import Derived.Test.YtmkldfjcpmoajabDoorRegion
import Derived.Test.YtmkldfjcpmoajabDoorScHelp
import Derived.Great.BuildSlice
import Derived.BigCall
namespace Go.Proofs.YtmkldfjcpmoajabDoor
open Go.RowKit
set_option linter.unusedVariables false
inductive Sh where
  | val (v : Value)
  | pat (p : Pat)
  | kids (l : List Pat)
  | fact (P : Value → World → Prop) (h : ∀ v w w', Grew w w' → P v w → P v w')
  | any
def Sh.At : Sh → Value → World → Prop
  | .val u, v, _ => v = u
  | .pat p, v, w => ∃ kv, v = .agg (p.cells kv) ∧ PatV w kv p
  | .kids l, v, w => KidsAt w v l
  | .fact P _, v, w => P v w
  | .any, _, _ => True
theorem Sh.At.mono {s : Sh} {v : Value} {w w' : World} (g : Grew w w') (h : s.At v w) : s.At v w' := by
  cases s with
  | val u => exact h
  | pat p => obtain ⟨kv, h1, h2⟩ := h; exact ⟨kv, h1, h2.kept g⟩
  | kids l => exact KidsAt.kept g h
  | fact P hm => exact hm v w w' g h
  | any => trivial
def shF (shs : List Sh) (i : Nat) (v : Value) (w : World) : Prop := (shs.getD i .any).At v w
theorem shF_mono (shs : List Sh) (i : Nat) (v : Value) (w w' : World) (g : Grew w w') (h : shF shs i v w) : shF shs i v w' := Sh.At.mono g h
section
variable {ops : Array Oper} {Q : Exit → Act → World → Prop} {shs : List Sh} {a0 : Act} {w0 : World} {A : Array Edge}
def edgeTo (ops : Array Oper) (A : Array Edge) (j : Nat) : Option Edge := A.toList.find? fun e => Region.binds .any e && ((ops[e.on]?).bind (·.dst) == some j)
def srcOf (ops : Array Oper) (shs : List Sh) (A : Array Edge) (a0 : Act) (j : Nat) : Sh :=
  match edgeTo ops A j with
  | some e => shs.getD e.on .any
  | none => if ops.toList.all (fun o => o.dst != some j) then .val (a0.tmps.getD j undef) else .any
def opSh (ops : Array Oper) (shs : List Sh) (A : Array Edge) (a0 : Act) : Operand → Sh
  | .tmp j => srcOf ops shs A a0 j
  | .const v => .val v
  | .global g => .val (.pointer (some ⟨g, 0, none⟩))
  | .func f => .val (.func (.func f) #[] #[])
def guardOk (ops : Array Oper) (shs : List Sh) (A : Array Edge) : Option (Nat × Bool) → Bool
  | none => true
  | some (g, b) => (A.toList.any fun e => Region.binds .any e && e.on == g) && ((ops[g]?).bind (·.dst)).isSome && (match shs.getD g .any with | .val (.bool b') => b' == b | _ => false)
/-- What an operation finds. -/
structure Env (ops : Array Oper) (shs : List Sh) (a0 : Act) (w0 : World) (A : Array Edge) (a : Act) (w : World) : Prop where
  grew : Grew w0 w
  same : ∀ d, (∀ (i : Nat) o, ops[i]? = some o → o.dst ≠ some d) → a.tmps.getD d undef = a0.tmps.getD d undef
  dep : ∀ e ∈ A, Region.binds .any e = true → ∀ oe d, ops[e.on]? = some oe → oe.dst = some d → shF shs e.on (a.tmps.getD d undef) w ∧ d < a.tmps.size
theorem Env.src {a : Act} {w : World} (h : Env ops shs a0 w0 A a w) (j : Nat) : (srcOf ops shs A a0 j).At (a.tmps.getD j undef) w := by
  unfold srcOf
  cases he : edgeTo ops A j with
  | some e =>
    have h1 := List.find?_some he
    have h2 := List.mem_of_find?_eq_some he
    rw [Bool.and_eq_true, beq_iff_eq] at h1
    obtain ⟨oe, ho, hd⟩ := Option.bind_eq_some_iff.1 h1.2
    exact (h.dep e (by simpa using h2) h1.1 oe j ho hd).1
  | none =>
    dsimp only
    split
    · rename_i hall
      rw [List.all_eq_true] at hall
      refine h.same j fun i o ho e => ?_
      have := hall o (by simpa using Array.mem_of_getElem? ho)
      rw [e] at this
      simp at this
    · trivial
theorem Env.op {a : Act} {w : World} (h : Env ops shs a0 w0 A a w) (x : Operand) : (opSh ops shs A a0 x).At (a.eval x) w := by
  cases x with
  | tmp j => exact h.src j
  | const v => rfl
  | global g => rfl
  | func f => rfl
theorem Env.guard {a : Act} {w : World} (h : Env ops shs a0 w0 A a w) {d : Option Tmp} {op : Op} {ty : TypeId} {pos : String} {G : Option (Nat × Bool)} (hg : guardOk ops shs A G = true) :
    Region.wanted ⟨d, op, ty, pos, A, G⟩ (yielded ops a.tmps) = true := by
  unfold Region.wanted
  cases G with
  | none => rfl
  | some gb =>
    obtain ⟨g, b⟩ := gb
    unfold guardOk at hg
    rw [Bool.and_eq_true, Bool.and_eq_true] at hg
    obtain ⟨⟨h1, h2⟩, h3⟩ := hg
    obtain ⟨e, he, hb⟩ := List.any_eq_true.1 h1
    rw [Bool.and_eq_true, beq_iff_eq] at hb
    obtain ⟨hb, rfl⟩ := hb
    obtain ⟨dd, hdd⟩ := Option.isSome_iff_exists.1 h2
    obtain ⟨oe, ho, hd⟩ := Option.bind_eq_some_iff.1 hdd
    obtain ⟨k1, k2⟩ := h.dep e (by simpa using he) hb oe dd ho hd
    unfold shF at k1
    dsimp only
    split at h3
    · rename_i b' hs
      rw [hs] at k1
      have k1 : a.tmps.getD dd undef = .bool b' := k1
      have k3 : a.tmps[dd]? = some (.bool b') := by
        rw [Array.getD_eq_getD_getElem?, Array.getElem?_eq_getElem k2, Option.getD_some] at k1
        rw [Array.getElem?_eq_getElem k2, k1]
      unfold yielded
      rw [hdd]
      simp only [Option.bind_some, k3]
      rw [eq_of_beq h3]
      simp
    · cases h3

variable {i : Nat} {d : Option Tmp} {op : Op} {ty : TypeId} {pos : String} {G : Option (Nat × Bool)}
/-- An operation whose run is told. -/
theorem st_run (hg : guardOk ops shs A G = true) (h : ∀ a w, Env ops shs a0 w0 A a w → ∀ K : Act → World → Prop, (∀ v w', Grew w w' → shF shs i v w' → K (a.put d v) w') → Oper.wp Tryd.prog ⟨d, op, ty, pos, A, G⟩ a w K Q) :
    StepOk Tryd.prog ops Q (shF shs) a0 w0 i ⟨d, op, ty, pos, A, G⟩ := by
  intro a w hw hs hd K hK
  have E : Env ops shs a0 w0 A a w := ⟨hw, hs, hd⟩
  rw [if_pos (E.guard hg)]
  exact h a w E K hK
theorem st_move {x : Operand} (hg : guardOk ops shs A G = true) (hx : opSh ops shs A a0 x = shs.getD i .any) : StepOk Tryd.prog ops Q (shF shs) a0 w0 i ⟨d, .move x, ty, pos, A, G⟩ :=
  st_run hg fun a w E K hK => hK _ _ (Grew.refl w) (by unfold shF; rw [← hx]; exact E.op x)
theorem st_assign {x : Operand} (hg : guardOk ops shs A G = true) (hx : opSh ops shs A a0 x = shs.getD i .any) : StepOk Tryd.prog ops Q (shF shs) a0 w0 i ⟨d, .assign x, ty, pos, A, G⟩ :=
  st_run hg fun a w E K hK => hK _ _ (Grew.refl w) (by unfold shF; rw [← hx]; exact E.op x)
theorem st_pick {c x y : Operand} (hg : guardOk ops shs A G = true) (hc : opSh ops shs A a0 c = .val (.bool true)) (hx : opSh ops shs A a0 x = shs.getD i .any) : StepOk Tryd.prog ops Q (shF shs) a0 w0 i ⟨d, .pick c x y, ty, pos, A, G⟩ :=
  st_run hg fun a w E K hK => by
    have hcv := E.op c
    rw [hc] at hcv
    have hcv : a.eval c = .bool true := hcv
    have := hK (a.eval x) w (Grew.refl w) (by unfold shF; rw [← hx]; exact E.op x)
    unfold Oper.wp execOp
    simpa [hcv, asBool, Oper.upon] using this
/-- Of a box. -/
theorem st_load {x : Operand} {b : Nat} {p : Pat} {kv : Value} (hb : w0.heap[b]? = some (.cells (p.cells kv) 28 (0, 0))) (hp : PatV w0 kv p) (hg : guardOk ops shs A G = true) (hx : opSh ops shs A a0 x = .val (.pointer (some ⟨b, 0, none⟩)))
    (hs : shs.getD i .any = .pat p) : StepOk Tryd.prog ops Q (shF shs) a0 w0 i ⟨d, .load 28 x, ty, pos, A, G⟩ :=
  st_run hg fun a w E K hK => by
    have hv := E.op x
    rw [hx] at hv
    refine wp_load_row 28 x rfl b hv 28 (p.cells kv) (0, 0) _ (by rw [E.grew.block b (lt_of_block hb)]; exact hb) Tryd.underlying28 rfl info_pat ?_
    exact hK _ _ (Grew.refl w) (by unfold shF; rw [hs]; exact ⟨kv, rfl, hp.kept E.grew⟩)
/-- Calls: by what they take and what comes. -/
def isGo (P : Program) (f : FuncId) : Bool := match P.funcs[f]? with | some fn => !(fn.name == "runtime.NumGoroutine") && !fn.body.isNone | none => false
theorem run_go {P : Program} {f : FuncId} (h : isGo P f = true) (args : Array Value) (w : World) : (callFunc f args).run P w = .ok (.enter f args) w := by
  unfold isGo at h
  cases hf : P.funcs[f]? with
  | none => rw [hf] at h; cases h
  | some fn =>
    rw [hf] at h
    dsimp only at h
    rw [Bool.and_eq_true] at h
    obtain ⟨h1, h2⟩ := h
    unfold callFunc
    simp only [Sem.run_bind, run_program, Result.andThen_ok, hf]
    rw [if_neg (by simpa using h1), if_neg (by intro e; rw [e] at h2; cases h2)]
    rfl
theorem st_call {f : FuncId} {xs : Array Operand} {ats : Array TypeId} (hf : isGo Tryd.prog f = true) (hg : guardOk ops shs A G = true)
    (hc : ∀ a w, Env ops shs a0 w0 A a w → Calls Tryd.prog f (xs.map a.eval) w fun e w' => ∃ v, e = .returned v ∧ Grew w w' ∧ shF shs i v w') :
    StepOk Tryd.prog ops Q (shF shs) a0 w0 i ⟨d, .call { callee := .value (.func f), args := xs, argTypes := ats }, ty, pos, A, G⟩ :=
  st_run hg fun a w E K hK => by
    unfold Oper.wp
    rw [execOp_call_go, run_go hf, Array.append_empty, Array.empty_append]
    show Calls _ _ _ _ _
    refine (hc a w E).mono fun e w' ⟨v, he, hg', hF⟩ => ?_
    subst he
    exact hK v w' hg' hF
theorem go_cat : isGo Tryd.prog 13 = true := by kernel_rfl
theorem go_alt : isGo Tryd.prog 15 = true := by kernel_rfl
theorem go_some : isGo Tryd.prog 11 = true := by kernel_rfl
theorem go_alike : isGo Tryd.prog 17 = true := by kernel_rfl
theorem go_alive : isGo Tryd.prog 9 = true := by kernel_rfl
theorem st_cat {x : Operand} {l : List Pat} {ats : Array TypeId} (hg : guardOk ops shs A G = true) (hx : opSh ops shs A a0 x = .kids l) (hs : shs.getD i .any = .pat (catP l)) :
    StepOk Tryd.prog ops Q (shF shs) a0 w0 i ⟨d, .call { callee := .value (.func 13), args := #[x], argTypes := ats }, ty, pos, A, G⟩ :=
  st_call go_cat hg fun a w E => by
    have h := E.op x
    rw [hx] at h
    simp only [List.map_toArray, List.map_cons, List.map_nil]
    exact (cat_any _ l w h).mono fun e w' ⟨he, hg, hp⟩ => ⟨_, he, hg, by unfold shF; rw [hs]; exact ⟨_, rfl, hp⟩⟩
theorem st_alt {x : Operand} {l : List Pat} {ats : Array TypeId} (hg : guardOk ops shs A G = true) (hx : opSh ops shs A a0 x = .kids l) (hs : shs.getD i .any = .pat (altP l)) :
    StepOk Tryd.prog ops Q (shF shs) a0 w0 i ⟨d, .call { callee := .value (.func 15), args := #[x], argTypes := ats }, ty, pos, A, G⟩ :=
  st_call go_alt hg fun a w E => by
    have h := E.op x
    rw [hx] at h
    simp only [List.map_toArray, List.map_cons, List.map_nil]
    exact (alt_any _ l w h).mono fun e w' ⟨he, hg, hp⟩ => ⟨_, he, hg, by unfold shF; rw [hs]; exact ⟨_, rfl, hp⟩⟩
theorem st_some {x y z : Operand} {k n : Int} {t : ByteArray} {ats : Array TypeId} (hk : -9223372036854775808 ≤ k ∧ k ≤ 9223372036854775807) (hn : -9223372036854775808 ≤ n ∧ n ≤ 9223372036854775807) (ht : t.size ≤ maxLen) (hg : guardOk ops shs A G = true)
    (hx : opSh ops shs A a0 x = .val (.int .i64 k)) (hy : opSh ops shs A a0 y = .val (.int .i64 n)) (hz : opSh ops shs A a0 z = .val (.string t)) (hs : shs.getD i .any = .pat (someP k n t)) :
    StepOk Tryd.prog ops Q (shF shs) a0 w0 i ⟨d, .call { callee := .value (.func 11), args := #[x, y, z], argTypes := ats }, ty, pos, A, G⟩ :=
  st_call go_some hg fun a w E => by
    have h1 := E.op x
    have h2 := E.op y
    have h3 := E.op z
    rw [hx] at h1
    rw [hy] at h2
    rw [hz] at h3
    have h1 : a.eval x = .int .i64 k := h1
    have h2 : a.eval y = .int .i64 n := h2
    have h3 : a.eval z = .string t := h3
    simp only [List.map_toArray, List.map_cons, List.map_nil]
    rw [h1, h2, h3]
    exact (some_any k n t w hk hn ht).mono fun e w' ⟨he, hg, hp⟩ => ⟨_, he, hg, by unfold shF; rw [hs]; exact ⟨_, rfl, hp⟩⟩
theorem st_alive {ats : Array TypeId} (hT : TabP w0) (hg : guardOk ops shs A G = true) (hs : shs.getD i .any = .val (.bool true)) :
    StepOk Tryd.prog ops Q (shF shs) a0 w0 i ⟨d, .call { callee := .value (.func 9), args := #[], argTypes := ats }, ty, pos, A, G⟩ :=
  st_call go_alive hg fun a w E => by
    simp only [List.map_toArray, List.map_nil]
    exact (alive_any w (hT.kept E.grew)).mono fun e w' ⟨he, hg⟩ => ⟨_, he, hg, by unfold shF; rw [hs]; rfl⟩
/-- Two patterns held against each other, of which it is known that they are alike. -/
theorem st_alike {x y z u v : Operand} {R : List Rule} {rv : Value} {p q : Pat} {s : ByteArray} {at_ : Int} {ats : Array TypeId} (hT : TabP w0) (hR : RulesAt w0 rv R) (hsz : s.size ≤ maxLen) (ha : alikeB R s p q at_ = true) (hg : guardOk ops shs A G = true)
    (hx : opSh ops shs A a0 x = .val rv) (hy : opSh ops shs A a0 y = .pat p) (hz : opSh ops shs A a0 z = .pat q) (hu : opSh ops shs A a0 u = .val (.string s)) (hv : opSh ops shs A a0 v = .val (.int .i64 at_)) (hs : shs.getD i .any = .val (.bool true)) :
    StepOk Tryd.prog ops Q (shF shs) a0 w0 i ⟨d, .call { callee := .value (.func 17), args := #[x, y, z, u, v], argTypes := ats }, ty, pos, A, G⟩ :=
  st_call go_alike hg fun a w E => by
    have h1 := E.op x
    have h2 := E.op y
    have h3 := E.op z
    have h4 := E.op u
    have h5 := E.op v
    rw [hx] at h1
    rw [hy] at h2
    rw [hz] at h3
    rw [hu] at h4
    rw [hv] at h5
    have h1 : a.eval x = rv := h1
    have h4 : a.eval u = .string s := h4
    have h5 : a.eval v = .int .i64 at_ := h5
    obtain ⟨kv, h2, hp⟩ := h2
    obtain ⟨kv', h3, hq⟩ := h3
    simp only [List.map_toArray, List.map_cons, List.map_nil]
    rw [h1, h2, h3, h4, h5]
    exact (alike_any at_ (hR.kept E.grew) hp hq hsz (hT.kept E.grew)).mono fun e w' ⟨he, hg⟩ => ⟨_, he, hg, by unfold shF; rw [hs, ha]; rfl⟩
/-! Kids put together. -/
def zeroCells : Value := .agg #[.int .i64 0, .string ByteArray.empty, .int .i64 0, .string ByteArray.empty, .slice none 0 0]
theorem info_pat_z : (Tryd.prog.info? 28).map (fun i => (i.zero, i.size)) = some (some (.agg #[.int .i64 0, .string ByteArray.empty, .int .i64 0, .string ByteArray.empty, .slice none 0 0]), 5) := by kernel_rfl
theorem pat_info : ∃ ie, Tryd.prog.info? 28 = some ie ∧ ie.zero = some zeroCells ∧ ie.size = 5 := by
  have h := info_pat_z
  cases hi : Tryd.prog.info? 28 with
  | none => rw [hi] at h; cases h
  | some ie => rw [hi] at h; simp at h; exact ⟨ie, rfl, h.1, h.2⟩
theorem zero_two : (Array.range (2 * 5)).map (zeroCells.cells[· % zeroCells.cells.size]!) = #[.int .i64 0, .string ByteArray.empty, .int .i64 0, .string ByteArray.empty, .slice none 0 0, .int .i64 0, .string ByteArray.empty, .int .i64 0, .string ByteArray.empty, .slice none 0 0] := by kernel_rfl
theorem zero_three : (Array.range (3 * 5)).map (zeroCells.cells[· % zeroCells.cells.size]!) = #[.int .i64 0, .string ByteArray.empty, .int .i64 0, .string ByteArray.empty, .slice none 0 0, .int .i64 0, .string ByteArray.empty, .int .i64 0, .string ByteArray.empty, .slice none 0 0, .int .i64 0, .string ByteArray.empty, .int .i64 0, .string ByteArray.empty, .slice none 0 0] := by kernel_rfl
theorem pat_in {w : World} {b o : Nat} {p : Pat} {kv : Value} {w' : World} (hp : PatV w kv p) (g : Grew w w') (c0 : w'.cell? ⟨b, o, none⟩ = some (.int .i64 p.kind)) (c1 : w'.cell? ⟨b, o + 1, none⟩ = some (.string p.text)) (c2 : w'.cell? ⟨b, o + 2, none⟩ = some (.int .i64 p.n)) (c3 : w'.cell? ⟨b, o + 3, none⟩ = some (.string p.name)) (c4 : w'.cell? ⟨b, o + 4, none⟩ = some kv) : PatAt w' b o p :=
  .shut ⟨c0, c1, c2, c3, c4, hp.hk, hp.hn, hp.ht, hp.hm⟩ (hp.kids.kept g)
set_option maxRecDepth 100000 in
theorem st_two {x y : Operand} {p q : Pat} (hg : guardOk ops shs A G = true) (hx : opSh ops shs A a0 x = .pat p) (hy : opSh ops shs A a0 y = .pat q) (hs : shs.getD i .any = .kids [p, q]) :
    StepOk Tryd.prog ops Q (shF shs) a0 w0 i ⟨d, .buildSlice 26 2 #[(0, x), (1, y)], ty, pos, A, G⟩ :=
  st_run hg fun a w E K hK => by
    have h1 := E.op x
    have h2 := E.op y
    rw [hx] at h1
    rw [hy] at h2
    obtain ⟨kv, h1, hp⟩ := h1
    obtain ⟨kv', h2, hq⟩ := h2
    obtain ⟨ie, hie, hz, hsz⟩ := pat_info
    refine wp_buildSlice 26 28 2 _ rfl (#[.int .i64 p.kind, .string p.text, .int .i64 p.n, .string p.name, kv, .int .i64 q.kind, .string q.text, .int .i64 q.n, .string q.name, kv']) ie _ Tryd.underlying26 hie hz (by rw [hsz]; decide) (by rw [hsz]; decide) ?_ ?_
    · rw [hsz]
      simp only [List.map_toArray, List.map_cons, List.map_nil, h1, h2]
      rw [zero_two]
      simp [Instr.fill, Pat.cells, Value.cells]
    · refine hK _ _ ((Grew.refl w).alloc _) ?_
      unfold shF
      rw [hs]
      have g := (Grew.refl w).alloc (.cells #[.int .i64 p.kind, .string p.text, .int .i64 p.n, .string p.name, kv, .int .i64 q.kind, .string q.text, .int .i64 q.n, .string q.name, kv'] 28)
      refine Or.inr ⟨w.heap.size, 0, 2, rfl, by show 0 < 2; omega, Nat.le_refl _, by unfold maxLen; omega, fun k hk => ?_⟩
      match k, hk with
      | 0, _ => exact pat_in hp g (by rw [World.cell?_alloc_mark]; rfl) (by rw [World.cell?_alloc_mark]; rfl) (by rw [World.cell?_alloc_mark]; rfl) (by rw [World.cell?_alloc_mark]; rfl) (by rw [World.cell?_alloc_mark]; rfl)
      | 1, _ => exact pat_in hq g (by rw [World.cell?_alloc_mark]; rfl) (by rw [World.cell?_alloc_mark]; rfl) (by rw [World.cell?_alloc_mark]; rfl) (by rw [World.cell?_alloc_mark]; rfl) (by rw [World.cell?_alloc_mark]; rfl)
set_option maxRecDepth 100000 in
theorem st_three {x y z : Operand} {p q r : Pat} (hg : guardOk ops shs A G = true) (hx : opSh ops shs A a0 x = .pat p) (hy : opSh ops shs A a0 y = .pat q) (hz : opSh ops shs A a0 z = .pat r) (hs : shs.getD i .any = .kids [p, q, r]) :
    StepOk Tryd.prog ops Q (shF shs) a0 w0 i ⟨d, .buildSlice 26 3 #[(0, x), (1, y), (2, z)], ty, pos, A, G⟩ :=
  st_run hg fun a w E K hK => by
    have h1 := E.op x
    have h2 := E.op y
    have h3 := E.op z
    rw [hx] at h1
    rw [hy] at h2
    rw [hz] at h3
    obtain ⟨kv, h1, hp⟩ := h1
    obtain ⟨kv', h2, hq⟩ := h2
    obtain ⟨kw, h3, hr⟩ := h3
    obtain ⟨ie, hie, hz, hsz⟩ := pat_info
    refine wp_buildSlice 26 28 3 _ rfl (#[.int .i64 p.kind, .string p.text, .int .i64 p.n, .string p.name, kv, .int .i64 q.kind, .string q.text, .int .i64 q.n, .string q.name, kv', .int .i64 r.kind, .string r.text, .int .i64 r.n, .string r.name, kw]) ie _ Tryd.underlying26 hie hz (by rw [hsz]; decide) (by rw [hsz]; decide) ?_ ?_
    · rw [hsz]
      simp only [List.map_toArray, List.map_cons, List.map_nil, h1, h2, h3]
      rw [zero_three]
      simp [Instr.fill, Pat.cells, Value.cells]
    · refine hK _ _ ((Grew.refl w).alloc _) ?_
      unfold shF
      rw [hs]
      have g := (Grew.refl w).alloc (.cells #[.int .i64 p.kind, .string p.text, .int .i64 p.n, .string p.name, kv, .int .i64 q.kind, .string q.text, .int .i64 q.n, .string q.name, kv', .int .i64 r.kind, .string r.text, .int .i64 r.n, .string r.name, kw] 28)
      refine Or.inr ⟨w.heap.size, 0, 3, rfl, by show 0 < 3; omega, Nat.le_refl _, by unfold maxLen; omega, fun k hk => ?_⟩
      match k, hk with
      | 0, _ => exact pat_in hp g (by rw [World.cell?_alloc_mark]; rfl) (by rw [World.cell?_alloc_mark]; rfl) (by rw [World.cell?_alloc_mark]; rfl) (by rw [World.cell?_alloc_mark]; rfl) (by rw [World.cell?_alloc_mark]; rfl)
      | 1, _ => exact pat_in hq g (by rw [World.cell?_alloc_mark]; rfl) (by rw [World.cell?_alloc_mark]; rfl) (by rw [World.cell?_alloc_mark]; rfl) (by rw [World.cell?_alloc_mark]; rfl) (by rw [World.cell?_alloc_mark]; rfl)
      | 2, _ => exact pat_in hr g (by rw [World.cell?_alloc_mark]; rfl) (by rw [World.cell?_alloc_mark]; rfl) (by rw [World.cell?_alloc_mark]; rfl) (by rw [World.cell?_alloc_mark]; rfl) (by rw [World.cell?_alloc_mark]; rfl)
end
def AllSteps (P : Program) (ops : Array Oper) (Q : Exit → Act → World → Prop) (F : Nat → Value → World → Prop) (a0 : Act) (w0 : World) : Nat → List Oper → Prop
  | _, [] => True
  | k, o :: l => StepOk P ops Q F a0 w0 k o ∧ AllSteps P ops Q F a0 w0 (k + 1) l
theorem AllSteps.at {P : Program} {ops : Array Oper} {Q : Exit → Act → World → Prop} {F : Nat → Value → World → Prop} {a0 : Act} {w0 : World} : ∀ {l : List Oper} {k : Nat}, AllSteps P ops Q F a0 w0 k l → ∀ (i : Nat) o, l[i]? = some o → StepOk P ops Q F a0 w0 (k + i) o
  | [], k, _, i, o, h => by simp at h
  | x :: l, k, ⟨h1, h2⟩, 0, o, h => by
    simp at h; subst h; exact h1
  | x :: l, k, ⟨h1, h2⟩, i + 1, o, h => by
    have := AllSteps.at h2 i o (by simpa using h)
    rwa [show k + 1 + i = k + (i + 1) by omega] at this
theorem mixed : Tryd.prog.follows .mixedOrders = true := by kernel_rfl
/-- A region of open order, by its shapes. -/
theorem region_shapes {ops : List Oper} {Q : Exit → Act → World → Prop} {a0 : Act} {w0 : World} {id : Nat} (shs : List Sh) (hok : regionOk ops.toArray a0.tmps.size = true)
    (hstep : AllSteps Tryd.prog ops.toArray Q (shF shs) a0 w0 0 ops)
    (hend : ∀ a w, Grew w0 w → a.defers = a0.defers → a.tmps.size = a0.tmps.size → (∀ d, (∀ (i : Nat) o, ops.toArray[i]? = some o → o.dst ≠ some d) → a.tmps.getD d undef = a0.tmps.getD d undef) →
      (∀ (i : Nat) o d, ops.toArray[i]? = some o → o.dst = some d → shF shs i (a.tmps.getD d undef) w) → Q .normal a w) :
    (Code.region id ops.toArray true).wp Tryd.prog Q a0 w0 :=
  wp_region_told mixed (shF shs) (shF_mono shs) hok (fun i o ho => by have := AllSteps.at hstep i o (by simpa using ho); rwa [Nat.zero_add] at this) hend
theorem heap_one (w : World) (o : Obj) : (w.alloc o).heap[w.heap.size]? = some o := heap_alloc_new w o
theorem heap_three (w : World) (o1 o2 o3 : Obj) : (((w.alloc o1).alloc o2).alloc o3).heap[w.heap.size]? = some o1 ∧ (((w.alloc o1).alloc o2).alloc o3).heap[w.heap.size + 1]? = some o2 ∧ (((w.alloc o1).alloc o2).alloc o3).heap[w.heap.size + 2]? = some o3 := by
  refine ⟨?_, ?_, ?_⟩
  · rw [heap_alloc_old _ _ (by simp; omega), heap_alloc_old _ _ (by simp)]; exact heap_alloc_new w _
  · rw [heap_alloc_old _ _ (by simp)]; exact (heap_two w _ _).2
  · rw [show w.heap.size + 2 = ((w.alloc o1).alloc o2).heap.size by simp]; exact heap_alloc_new _ _
end Go.Proofs.YtmkldfjcpmoajabDoor
