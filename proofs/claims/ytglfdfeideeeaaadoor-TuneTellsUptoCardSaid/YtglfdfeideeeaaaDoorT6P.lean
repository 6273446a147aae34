/- What the document says of a pattern's length and beginnings, rule by rule; it is what the program reckons. Plain. -/
import Derived.Test.YtglfdfeideeeaaaDoorPTnBnd
import Derived.Test.YtglfdfeideeeaaaDoorPT6Door
namespace Go.Proofs.YtglfdfeideeeaaaDoor
set_option linter.unusedVariables false
structure Rf where
  nv : Bool
  ls : Int
  ms : Int
  nl : Bool
def rf0 : Rf := ⟨false, 0, 0, true⟩
def bestR : Int → List Rf → Int
  | b, [] => b
  | b, r :: l => bestR (if r.nv = false ∧ (b < 0 ∨ r.ls < b) then r.ls else b) l
def sumR : List Rf → Int
  | [] => 0
  | r :: l => r.ls + sumR l
def mostR (alt : Bool) : Int → List Rf → Int
  | n, [] => n
  | n, r :: l =>
    if alt = true ∧ r.nv = true then mostR alt n l
    else if r.ms < 0 then -1
    else if 65536 < (if alt = true then (if n < r.ms then r.ms else n) else n + r.ms) then -1
    else mostR alt (if alt = true then (if n < r.ms then r.ms else n) else n + r.ms) l
theorem mostR_skip {n : Int} {r : Rf} {l : List Rf} (h : r.nv = true) : mostR true n (r :: l) = mostR true n l := by rw [mostR, if_pos ⟨rfl, h⟩]
theorem mostR_alt {n : Int} {r : Rf} {l : List Rf} (h : r.nv = false) : mostR true n (r :: l) = if r.ms < 0 then -1 else if 65536 < (if n < r.ms then r.ms else n) then -1 else mostR true (if n < r.ms then r.ms else n) l := by
  rw [mostR, if_neg (show ¬ (true = true ∧ r.nv = true) by rw [h]; simp)]
  simp only [if_true]
theorem mostR_cat {n : Int} {r : Rf} {l : List Rf} : mostR false n (r :: l) = if r.ms < 0 then -1 else if 65536 < n + r.ms then -1 else mostR false (n + r.ms) l := by
  rw [mostR, if_neg (show ¬ (false = true ∧ r.nv = true) by simp)]
  simp only [Bool.false_eq_true, if_false]
theorem bestR_skip {b : Int} {r : Rf} {l : List Rf} (h : r.nv = true) : bestR b (r :: l) = bestR b l := by rw [bestR, if_neg (by rw [h]; simp)]
theorem bestR_may {b : Int} {r : Rf} {l : List Rf} (h : r.nv = false) : bestR b (r :: l) = bestR (if b < 0 ∨ r.ls < b then r.ls else b) l := by
  rw [bestR]
  by_cases hc : b < 0 ∨ r.ls < b
  · rw [if_pos ⟨h, hc⟩, if_pos hc]
  · rw [if_neg (fun x => hc x.2), if_neg hc]
def refK (k : Int) (t : ByteArray) (n : Int) (rs : List Rf) : Rf :=
  { nv := if k = 15 ∨ k = 17 then true else if k = 18 then rs.any (·.nv) else if k = 19 then rs.all (·.nv) else if k = 21 ∨ k = 22 then (rs.getD 0 rf0).nv else false
    ls := if k = 1 then t.size else if k = 2 then n else if k = 3 ∨ k = 4 ∨ k = 5 ∨ k = 14 then 1 else if k = 21 ∨ k = 22 then (rs.getD 0 rf0).ls else if k = 18 then (if 65537 < sumR rs then 65537 else sumR rs) else if k = 19 then bestR (-1) rs else 0
    ms := if k = 1 then t.size else if k = 2 then n else if k = 3 ∨ k = 4 then 1 else if k = 10 ∨ k = 11 ∨ k = 16 ∨ k = 23 then 0 else if k = 21 ∨ k = 22 then (rs.getD 0 rf0).ms
      else if k = 20 then (if (rs.getD 0 rf0).nv = true ∨ (rs.getD 0 rf0).ms = 0 then 0 else -1) else if k = 18 then mostR false 0 rs else if k = 19 then mostR true 0 rs else -1
    nl := if k = 1 then t.size == 0 else if k = 2 then n == 0 else if k = 3 ∨ k = 4 ∨ k = 5 ∨ k = 14 ∨ k = 15 ∨ k = 17 then false else if k = 21 ∨ k = 22 then (rs.getD 0 rf0).nl else if k = 18 then rs.all (·.nl) else if k = 19 then rs.any (·.nl) else true }
mutual
def refP : Pat → Rf
  | .mk k t n m l => refK k t n (refL l)
def refL : List Pat → List Rf
  | [] => []
  | p :: l => refP p :: refL l
end
theorem refL_map : ∀ l : List Pat, refL l = l.map refP
  | [] => rfl
  | p :: l => by rw [refL, refL_map l]; rfl
theorem refL_length (l : List Pat) : (refL l).length = l.length := by rw [refL_map, List.length_map]
theorem refP_eq (p : Pat) : refP p = refK p.kind p.text p.n (refL p.kids) := by cases p; rfl
structure Like (b : Bd) (r : Rf) : Prop where
  nv : b.never = r.nv
  ls : r.nv = false → b.least = r.ls
  ms : r.nv = false → b.most = r.ms
def LikeL : List Bd → List Rf → Prop
  | [], [] => True
  | b :: bs, r :: rs => Like b r ∧ BdOk b ∧ LikeL bs rs
  | _, _ => False
theorem never_then : ∀ (bs : List Bd) (b : Bd), (bs.foldl thenB b).never = (b.never || bs.any (·.never))
  | [], b => by simp
  | c :: bs, b => by
    rw [List.foldl_cons, never_then bs]; simp [thenB, Bool.or_assoc]
theorem like_any : ∀ {bs : List Bd} {rs : List Rf}, LikeL bs rs → bs.any (·.never) = rs.any (·.nv)
  | [], [], _ => rfl
  | b :: bs, r :: rs, ⟨h, _, k⟩ => by rw [List.any_cons, List.any_cons, like_any k, h.nv]
  | [], _ :: _, h => h.elim
  | _ :: _, [], h => h.elim
theorem cat_like : ∀ {bs : List Bd} {rs : List Rf}, LikeL bs rs → rs.any (·.nv) = false → ∀ (b : Bd), BdOk b →
    (bs.foldl thenB b).least = (if 65537 < b.least + sumR rs then 65537 else b.least + sumR rs) ∧ 0 ≤ sumR rs ∧
    (bs.foldl thenB b).most = (if b.most < 0 then -1 else mostR false b.most rs)
  | [], [], _, _, b, hb => by
    have := hb.l1
    have := hb.m0
    refine ⟨?_, by simp [sumR], ?_⟩
    · show b.least = if 65537 < b.least + 0 then 65537 else b.least + 0
      rw [if_neg (by omega)]; omega
    · show b.most = if b.most < 0 then -1 else b.most
      by_cases hx : b.most < 0
      · rw [if_pos hx]; omega
      · rw [if_neg hx]
  | c :: bs, r :: rs, ⟨h, hc, k⟩, hn, b, hb => by
    rw [List.any_cons, Bool.or_eq_false_iff] at hn
    have hl := h.ls hn.1
    have hm := h.ms hn.1
    obtain ⟨i1, i2, i3⟩ := cat_like k hn.2 (thenB b c) (then_ok hb hc)
    have c0 := hc.l0
    have c1 := hc.l1
    have c2 := hc.m0
    have c3 := hc.m1
    have b0 := hb.l0
    have b2 := hb.m0
    have b3 := hb.m1
    refine ⟨?_, ?_, ?_⟩
    · rw [List.foldl_cons, i1, sumR, ← hl]
      show (if 65537 < min (b.least + c.least) 65537 + sumR rs then (65537 : Int) else min (b.least + c.least) 65537 + sumR rs) = _
      split <;> split <;> omega
    · rw [sumR, ← hl]; omega
    · rw [List.foldl_cons, i3, mostR_cat, ← hm]
      show (if (if 0 ≤ b.most ∧ 0 ≤ c.most ∧ b.most + c.most ≤ 65536 then b.most + c.most else -1) < 0 then (-1 : Int) else mostR false (if 0 ≤ b.most ∧ 0 ≤ c.most ∧ b.most + c.most ≤ 65536 then b.most + c.most else -1) rs) = _
      by_cases hbm : b.most < 0
      · rw [if_neg (show ¬ (0 ≤ b.most ∧ 0 ≤ c.most ∧ b.most + c.most ≤ 65536) by omega), if_pos (by omega), if_pos hbm]
      · rw [if_neg hbm]
        by_cases hcm : c.most < 0
        · rw [if_pos hcm, if_neg (show ¬ (0 ≤ b.most ∧ 0 ≤ c.most ∧ b.most + c.most ≤ 65536) by omega), if_pos (by omega)]
        · rw [if_neg hcm]
          by_cases ho : 65536 < b.most + c.most
          · rw [if_pos ho, if_neg (show ¬ (0 ≤ b.most ∧ 0 ≤ c.most ∧ b.most + c.most ≤ 65536) by omega), if_pos (by omega)]
          · rw [if_neg ho, if_pos (show 0 ≤ b.most ∧ 0 ≤ c.most ∧ b.most + c.most ≤ 65536 by omega), if_neg (by omega)]
  | [], _ :: _, h, _, _, _ => h.elim
  | _ :: _, [], h, _, _, _ => h.elim
theorem alt_like : ∀ {bs : List Bd} {rs : List Rf}, LikeL bs rs → ∀ (b : Bd), BdOk b → b.never = false →
    (bs.foldl orB b).never = false ∧ (bs.foldl orB b).least = bestR b.least rs ∧ (bs.foldl orB b).most = (if b.most < 0 then -1 else mostR true b.most rs)
  | [], [], _, b, hb, hn => by
    have := hb.m0
    refine ⟨hn, rfl, ?_⟩
    show b.most = if b.most < 0 then -1 else b.most
    by_cases hx : b.most < 0
    · rw [if_pos hx]; omega
    · rw [if_neg hx]
  | c :: bs, r :: rs, ⟨h, hc, k⟩, b, hb, hn => by
    have c0 := hc.l0
    have c2 := hc.m0
    have c3 := hc.m1
    have b0 := hb.l0
    have b2 := hb.m0
    have b3 := hb.m1
    rw [List.foldl_cons]
    by_cases hcn : c.never = true
    · have e : orB b c = b := by unfold orB; rw [if_neg (by rw [hn]; simp), if_pos hcn]
      have hr : r.nv = true := h.nv ▸ hcn
      obtain ⟨i1, i2, i3⟩ := alt_like k b hb hn
      rw [e]
      refine ⟨i1, ?_, ?_⟩
      · rw [i2, bestR_skip hr]
      · rw [i3, mostR_skip hr]
    · have hcn : c.never = false := by simpa using hcn
      have hr : r.nv = false := h.nv ▸ hcn
      have hl := h.ls hr
      have hm := h.ms hr
      have e : orB b c = ⟨min b.least c.least, if b.most < 0 ∨ c.most < 0 then -1 else max b.most c.most, false⟩ := by unfold orB; rw [if_neg (by rw [hn]; simp), if_neg (by rw [hcn]; simp)]
      obtain ⟨i1, i2, i3⟩ := alt_like k (orB b c) (or_ok hb hc) (by rw [e])
      refine ⟨i1, ?_, ?_⟩
      · rw [i2, bestR_may hr, e]
        show bestR (min b.least c.least) rs = _
        congr 1
        rw [← hl]
        split <;> omega
      · rw [i3, mostR_alt hr, e, ← hm]
        show (if (if b.most < 0 ∨ c.most < 0 then (-1 : Int) else max b.most c.most) < 0 then (-1 : Int) else mostR true (if b.most < 0 ∨ c.most < 0 then -1 else max b.most c.most) rs) = _
        by_cases hbm : b.most < 0
        · rw [if_pos hbm, if_pos (Or.inl hbm), if_pos (by omega)]
        · rw [if_neg hbm]
          by_cases hcm : c.most < 0
          · rw [if_pos hcm, if_pos (Or.inr hcm), if_pos (by omega)]
          · rw [if_neg hcm, if_neg (show ¬ (b.most < 0 ∨ c.most < 0) by omega), if_neg (by omega), if_neg (show ¬ 65536 < (if b.most < c.most then c.most else b.most) by split <;> omega)]
            congr 1
            split <;> omega
  | [], _ :: _, h, _, _, _ => h.elim
  | _ :: _, [], h, _, _, _ => h.elim
theorem alts_like : ∀ {bs : List Bd} {rs : List Rf}, LikeL bs rs → ∀ (b : Bd), BdOk b → b.never = true →
    (bs.foldl orB b).never = rs.all (·.nv) ∧ (rs.all (·.nv) = false → (bs.foldl orB b).least = bestR (-1) rs ∧ (bs.foldl orB b).most = mostR true 0 rs)
  | [], [], _, b, hb, hn => ⟨hn, fun h => by simp at h⟩
  | c :: bs, r :: rs, ⟨h, hc, k⟩, b, hb, hn => by
    have e : orB b c = c := by unfold orB; rw [if_pos hn]
    have c0 := hc.l0
    have c2 := hc.m0
    have c3 := hc.m1
    rw [List.foldl_cons, e, List.all_cons]
    by_cases hcn : c.never = true
    · have hr : r.nv = true := h.nv ▸ hcn
      obtain ⟨i1, i2⟩ := alts_like k c hc hcn
      rw [hr]
      refine ⟨by rw [i1]; rfl, fun hx => ?_⟩
      obtain ⟨j1, j2⟩ := i2 (by simpa using hx)
      exact ⟨by rw [j1, bestR_skip hr], by rw [j2, mostR_skip hr]⟩
    · have hcn : c.never = false := by simpa using hcn
      have hr : r.nv = false := h.nv ▸ hcn
      have hl := h.ls hr
      have hm := h.ms hr
      obtain ⟨i1, i2, i3⟩ := alt_like k c hc hcn
      rw [hr]
      refine ⟨by rw [i1]; rfl, fun _ => ⟨?_, ?_⟩⟩
      · rw [i2, bestR_may hr, if_pos (Or.inl (by omega)), hl]
      · rw [i3, mostR_alt hr, ← hm]
        by_cases hcm : c.most < 0
        · rw [if_pos hcm, if_pos hcm]
        · rw [if_neg hcm, if_neg hcm, if_neg (show ¬ 65536 < (if 0 < c.most then c.most else 0) by split <;> omega)]
          congr 1
          split <;> omega
  | [], _ :: _, h, _, _, _ => h.elim
  | _ :: _, [], h, _, _, _ => h.elim
end Go.Proofs.YtglfdfeideeeaaaDoor
