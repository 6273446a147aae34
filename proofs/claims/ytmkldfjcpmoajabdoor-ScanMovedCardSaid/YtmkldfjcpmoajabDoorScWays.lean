/- scan.Ways: at every pattern. -/
import Derived.Test.YtmkldfjcpmoajabDoorScMore
import Derived.Test.YtmkldfjcpmoajabDoorScTell
import Derived.Test.YtmkldfjcpmoajabDoorScNextW
namespace Go.Proofs.YtmkldfjcpmoajabDoor
open Go.RowKit
set_option linter.unusedVariables false

def wayCells (l : List Way) (gs : List Value) : List Value := (l.zip gs).flatMap fun x => [.int .i64 x.1.1, x.2]
theorem wayCells_snoc {l : List Way} {gs : List Value} (h : gs.length = l.length) (x : Way) (gv : Value) : wayCells (l ++ [x]) (gs ++ [gv]) = wayCells l gs ++ [.int .i64 x.1, gv] := by
  unfold wayCells; rw [List.zip_append h.symm]; simp
/-- Ways in a slice of one's own. -/
def WaysAt (w : World) (B : Nat) (v : Value) (l : List Way) : Prop :=
  ∃ gs : List Value, gs.length = l.length ∧ w.ownsRow B 33 2 v l.length (wayCells l gs) ∧ ∀ x ∈ l.zip gs, w.ownsRow B 41 2 x.2 x.1.2.length (saidCells x.1.2)
theorem ownsRow_keep {w w' : World} {B : Nat} {e : TypeId} {sz : Nat} {v : Value} {n : Nat} {xs : List Value} (h : w.ownsRow B e sz v n xs) (k : Keep w w') (he : still e = true) : w'.ownsRow B e sz v n xs := by
  refine ⟨h.1, ?_⟩
  rcases h.2 with h | ⟨g, cap, cur, a1, a2, a3, a4⟩
  · exact .inl h
  · exact .inr ⟨g, cap, cur, a1, a2, k.block _ _ _ he a3, a4⟩
theorem ownsRow_form0 {w : World} {B : Nat} {e : TypeId} {sz : Nat} {v : Value} {n : Nat} {xs : List Value} (h : w.ownsRow B e sz v n xs) : ∃ p c, v = .slice p n c := by
  rcases h.2 with ⟨e, h2⟩ | ⟨g, c, _, e, _⟩
  · exact ⟨none, 0, by rw [e, h2]⟩
  · exact ⟨_, _, e⟩
section
variable {R : List Rule} {w : World} {v kv : Value} {p : Pat} {s : ByteArray}

/-- What is so at each round. -/
def AtRound (R : List Rule) (w0 : World) (bm : Nat) (v : Value) (s : ByteArray) (fuel most : Nat) (want : List Way × Bool × Int) (wr : World) (out : Value) (d : List Way) : Prop :=
  ∃ (X : Far) (gs : List Value) (m : MS) (T : Tr), MacRep X w0 bm v s fuel m wr ∧ wr.ownsRow w0.heap.size 33 2 out d.length (wayCells d gs) ∧ gs.length = d.length ∧ (∀ x ∈ d.zip gs, GiftsIn X w0.heap.size x.2 x.1.2) ∧ m.cut = false ∧
    Inv s.size fuel d.length none m ∧ MeansC R s (fuel - m.ticks) m.choices T ∧ want = after d (tell fuel (most - d.length) m.ticks T) ∧ d.length ≤ most
theorem AtRound.ways {w0 wr : World} {bm fuel most : Nat} {want : List Way × Bool × Int} {out : Value} {d : List Way} (h : AtRound R w0 bm v s fuel most want wr out d) : WaysAt wr w0.heap.size out d := by
  obtain ⟨X, gs, m, T, h1, h2, h3, h4, _⟩ := h
  exact ⟨gs, h3, h2, fun x hx => (h4 x hx).own h1⟩
theorem AtRound.full {w0 wr : World} {bm fuel most : Nat} {want : List Way × Bool × Int} {out : Value} {d : List Way} (h : AtRound R w0 bm v s fuel most want wr out d) (hd : most ≤ d.length) : want = (d, false, 0) := by
  obtain ⟨X, gs, m, T, h1, h2, h3, h4, _, _, _, h5, _⟩ := h
  rw [h5, show most - d.length = 0 by omega]
  simp [tell, after]
/-- What comes of the next call. -/
inductive Step (R : List Rule) (w0 : World) (bm : Nat) (v : Value) (s : ByteArray) (fuel most : Nat) (want : List Way × Bool × Int) (wr : World) (out : Value) (d : List Way) : Ending → World → Prop
  | found (X : Far) (gs : List Value) (m : MS) (T : Tr) (a : Nat) (g : List Gift) (w' : World) (h1 : MacRep X w0 bm v s fuel m w') (h2 : w'.ownsRow w0.heap.size 33 2 out d.length (wayCells d gs)) (h3 : gs.length = d.length) (h4 : ∀ x ∈ d.zip gs, GiftsIn X w0.heap.size x.2 x.1.2) (h5 : m.cut = false)
      (h6 : Inv s.size fuel (d.length + 1) none m) (h7 : MeansC R s (fuel - m.ticks) m.choices T) (h8 : want = after (d ++ [(a, g)]) (tell fuel (most - (d.length + 1)) m.ticks T)) (h9 : d.length + 1 ≤ most) (h10 : m.given = g) (h11 : g.length ≤ 100000) (h12 : a ≤ s.size) :
      Step R w0 bm v s fuel most want wr out d (.returned (.tuple #[.int .i64 a, .bool true, .int .i64 0])) w'
  | over (X : Far) (m : MS) (c : Bool) (w' : World) (h1 : MacRep X w0 bm v s fuel m w') (h2 : WaysAt w' w0.heap.size out d) (h3 : m.cut = c) (h4 : want = (d, c, 0)) :
      Step R w0 bm v s fuel most want wr out d (.returned (.tuple #[.int .i64 0, .bool false, .int .i64 0])) w'
  | bad (e : Int) (he : e = 10 ∨ e = 7) (w' : World) (h1 : Grew w0 w') (h2 : want = ([], false, e)) :
      Step R w0 bm v s fuel most want wr out d (.returned (.tuple #[.int .i64 0, .bool false, .int .i64 e])) w'
theorem AtRound.next {w0 wr : World} {bm fuel most : Nat} {want : List Way × Bool × Int} {out : Value} {d : List Way} (h : AtRound R w0 bm v s fuel most want wr out d) (hd : d.length < most) (hm : most ≤ 4096) (hs : s.size ≤ 65536)
    (hRA : RulesAt w0 v R) (hR2 : R.length ≤ 64) (hRe : ∀ r ∈ R, errW r.2 = 0) (hT : TabP w0) :
    Calls Tryd.prog 23 #[.pointer (some ⟨bm, 0, none⟩)] wr fun e w' => Step R w0 bm v s fuel most want wr out d e w' := by
  obtain ⟨X, gs, m, T, h1, h2, h3, h4, h5, h6, h7, h8, h9⟩ := h
  obtain ⟨c, o, hr, ha⟩ := next_goes h7 h5 h6.ticks
  refine (next_any h1 h6 hr hs (by omega) hRA hR2 hRe hT).mono fun e w' hn => ?_
  obtain ⟨k, hk⟩ : ∃ k, most - d.length = k + 1 := ⟨most - d.length - 1, by omega⟩
  rw [hk, tell_first k T m.ticks m.said] at h8
  cases hf : first fuel m.ticks m.said T with
  | found a g t sd T' =>
    rw [hf] at ha h8
    obtain ⟨m', rfl, e1, e2, e3, e4, e5, e6⟩ := ha
    obtain ⟨rfl, n1, n2, n3, n4, n5⟩ := hn
    rw [tellO, after_more] at h8
    refine .found X gs m' T' a g w' n1 (ownsRow_keep h2 n2 (by decide)) h3 h4 e4 n3 (by rw [e2]; exact e6) ?_ (by omega) e1 (by rw [← e1]; exact n5) n4
    rw [h8, e2, show most - (d.length + 1) = k by omega]
  | over b t sd =>
    rw [hf] at ha h8
    obtain ⟨m', rfl, e1, e2, e3⟩ := ha
    obtain ⟨rfl, n1, n2, n3⟩ := hn
    refine .over X m' b w' n1 ⟨gs, h3, ownsRow_keep h2 n2 (by decide), fun x hx => (h4 x hx).own n1⟩ e1 ?_
    rw [h8, tellO]; simp [after]
  | fuel =>
    rw [hf] at ha h8
    obtain rfl : o = .fuel := ha
    obtain ⟨rfl, n1, n2⟩ := hn
    exact .bad 10 (Or.inl rfl) w' n1 (by rw [h8, tellO]; simp [after])
  | name =>
    rw [hf] at ha h8
    obtain rfl : o = .name := ha
    obtain ⟨rfl, n1, n2⟩ := hn
    exact .bad 7 (Or.inr rfl) w' n1 (by rw [h8, tellO]; simp [after])
  | deep =>
    rw [hf] at ha
    exact absurd ha (by intro h; exact h)
end
end Go.Proofs.YtmkldfjcpmoajabDoor
