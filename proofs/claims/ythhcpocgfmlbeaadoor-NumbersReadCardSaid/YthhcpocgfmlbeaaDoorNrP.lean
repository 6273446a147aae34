/- Reading as the document does it: plain. -/
import Derived.Test.YthhcpocgfmlbeaaDoorFmN
import Derived.Test.YthhcpocgfmlbeaaDoorBgP
namespace Go.Proofs.YthhcpocgfmlbeaaDoor
open Go.RowKit
set_option linter.unusedVariables false
theorem nv_lt {b : Nat} : ∀ (l : List UInt8) (a V : Nat), l.foldl (nvF b) (some a) = some V → V < (a + 1) * b ^ l.length
  | [], a, V, h => by injection h with h; simp; omega
  | c :: l, a, V, h => by
    rw [List.foldl_cons] at h
    by_cases hc : digV c < b
    · have e : nvF b (some a) c = some (a * b + digV c) := by unfold nvF; rw [Option.bind_some, if_pos hc]
      rw [e] at h
      have h1 := nv_lt l _ V h
      have h2 : a * b + digV c + 1 ≤ (a + 1) * b := by rw [Nat.add_mul]; omega
      have h3 := Nat.mul_le_mul_right (b ^ l.length) h2
      rw [List.length_cons, Nat.pow_succ, Nat.mul_comm (b ^ l.length) b, ← Nat.mul_assoc]
      omega
    · have e : nvF b (some a) c = none := by unfold nvF; rw [Option.bind_some, if_neg hc]
      rw [e, nv_none] at h; cases h
theorem numV?_fits {b : Nat} (h36 : b ≤ 36) {l : List UInt8} {V : Nat} (h : numV? b l = some V) : nw V ≤ l.length := by
  have h1 := nv_lt l 0 V h
  rw [Nat.zero_add, Nat.one_mul] at h1
  exact nw_le (Nat.lt_of_lt_of_le h1 (Nat.pow_le_pow_left (by show b ≤ 4294967296; omega) _))
theorem dropWhile_nil {p : UInt8 → Bool} : ∀ {l : List UInt8}, l.dropWhile p = [] → ∀ c ∈ l, p c = true
  | [], _, c, hc => by cases hc
  | d :: r, h, c, hc => by
    rw [List.dropWhile_cons] at h
    split at h
    · next hd =>
      rcases List.mem_cons.1 hc with rfl | hc
      · exact hd
      · exact dropWhile_nil h c hc
    · cases h
theorem dropWhile_again {p : UInt8 → Bool} : ∀ {l : List UInt8}, (∀ c ∈ l.dropWhile p, p c = true) → l.dropWhile p = []
  | [], _ => rfl
  | d :: r, h => by
    rw [List.dropWhile_cons] at h ⊢
    split at h
    · next hd => rw [if_pos hd]; exact dropWhile_again h
    · next hd => exact absurd (h d (by simp)) hd
theorem trimS_nil {l cs : List UInt8} (h : Lib.trimS l cs = []) : ∀ c ∈ l, cs.contains c = true := by
  unfold Lib.trimS Lib.trimLeftS Lib.trimRightS at h
  have h1 := dropWhile_nil h
  have h2 : l.reverse.dropWhile (fun x => cs.contains x) = [] := dropWhile_again fun c hc => h1 c (by simpa using hc)
  intro c hc
  exact dropWhile_nil h2 c (by simpa using hc)
theorem trimR_cons (c : UInt8) (r cs : List UInt8) : Lib.trimRightS (c :: r) cs = if cs.contains c = true ∧ Lib.trimRightS r cs = [] then [] else c :: Lib.trimRightS r cs := by
  unfold Lib.trimRightS
  rw [List.reverse_cons, List.dropWhile_append]
  cases h : r.reverse.dropWhile (fun x => cs.contains x) with
  | nil =>
    rw [List.isEmpty_nil, if_pos rfl, List.dropWhile_cons]
    by_cases hc : cs.contains c = true
    · rw [if_pos hc, if_pos ⟨hc, rfl⟩]; rfl
    · rw [if_neg hc, if_neg (fun k => hc k.1)]; rfl
  | cons d l =>
    rw [List.isEmpty_cons, if_neg (by decide)]
    rw [List.reverse_append]; simp
theorem trim_comm (cs : List UInt8) : ∀ l : List UInt8, Lib.trimRightS (Lib.trimLeftS l cs) cs = Lib.trimS l cs
  | [] => rfl
  | c :: r => by
    have ih := trim_comm cs r
    unfold Lib.trimS at ih ⊢
    by_cases hc : cs.contains c = true
    · have h1 : Lib.trimLeftS (c :: r) cs = Lib.trimLeftS r cs := by unfold Lib.trimLeftS; rw [List.dropWhile_cons, if_pos hc]
      rw [h1, ih, trimR_cons]
      by_cases he : Lib.trimRightS r cs = []
      · rw [if_pos ⟨hc, he⟩, he]
      · rw [if_neg (fun h => he h.2)]
        show _ = (c :: Lib.trimRightS r cs).dropWhile _
        rw [List.dropWhile_cons, if_pos hc]; rfl
    · have h1 : ∀ x, Lib.trimLeftS (c :: x) cs = c :: x := fun x => by unfold Lib.trimLeftS; rw [List.dropWhile_cons, if_neg hc]
      rw [h1, trimR_cons, if_neg (fun h => hc h.1), h1]
/-- The document's reading of a text without blanks at its ends. -/
def docT (S : List UInt8) : Ending :=
  match numV? 10 (behind S) with
  | none => .returned (.tuple #[.int .i64 0, .int .i64 2])
  | some V => if behind S = [] then .returned (.tuple #[.int .i64 0, .int .i64 2]) else numR (sgn V (S.head? == some 45))
theorem docT_bad {S : List UInt8} (h : numV? 10 (behind S) = none) : docT S = .returned (.tuple #[.int .i64 0, .int .i64 2]) := by unfold docT; rw [h]
theorem docT_nil {S : List UInt8} (h : behind S = []) : docT S = .returned (.tuple #[.int .i64 0, .int .i64 2]) := by unfold docT; rw [h]; rfl
theorem docT_val {S : List UInt8} {V : Nat} (h0 : behind S ≠ []) (h : numV? 10 (behind S) = some V) : docT S = numR (sgn V (S.head? == some 45)) := by unfold docT; rw [h]; simp [h0]
theorem pu_range : ∀ (l : List UInt8) (a V : Nat), l.foldl (nvF 10) (some a) = some V → 18446744073709551616 ≤ V → a < 18446744073709551616 → Lib.parseUint10 a l = .range
  | [], a, V, h, hV, ha => by injection h with h; omega
  | c :: r, a, V, h, hV, ha => by
    rw [List.foldl_cons] at h
    by_cases hc : digV c < 10
    · have e : nvF 10 (some a) c = some (a * 10 + digV c) := by unfold nvF; rw [Option.bind_some, if_pos hc]
      rw [e] at h
      obtain ⟨h1, h2, h3⟩ := digV_ten hc
      rw [h3] at h
      unfold Lib.parseUint10
      rw [if_pos ⟨h1, h2⟩]
      split
      · rfl
      · split
        · rfl
        · exact pu_range r _ _ h hV (by omega)
    · have e : nvF 10 (some a) c = none := by unfold nvF; rw [Option.bind_some, if_neg hc]
      rw [e, nv_none] at h; cases h
theorem dig_of {c : UInt8} (h : ([48, 49, 50, 51, 52, 53, 54, 55, 56, 57] : List UInt8).contains c = true) : digV c < 10 := by
  have : ∀ c : Fin 256, ([48, 49, 50, 51, 52, 53, 54, 55, 56, 57] : List UInt8).contains (UInt8.ofNat c.val) = true → digV (UInt8.ofNat c.val) < 10 := by decide +kernel
  have h2 := this ⟨c.toNat, c.toNat_lt⟩
  simp only [UInt8.ofNat_toNat] at h2
  exact h2 h
theorem of_dig {c : UInt8} (h : digV c < 10) : ([48, 49, 50, 51, 52, 53, 54, 55, 56, 57] : List UInt8).contains c = true := by
  have : ∀ c : Fin 256, digV (UInt8.ofNat c.val) < 10 → ([48, 49, 50, 51, 52, 53, 54, 55, 56, 57] : List UInt8).contains (UInt8.ofNat c.val) = true := by decide +kernel
  have h2 := this ⟨c.toNat, c.toNat_lt⟩
  simp only [UInt8.ofNat_toNat] at h2
  exact h2 h
theorem nv_some {b : Nat} : ∀ {l : List UInt8}, (∀ c ∈ l, digV c < b) → ∀ a, ∃ V, l.foldl (nvF b) (some a) = some V
  | [], _, a => ⟨a, rfl⟩
  | c :: r, h, a => by
    rw [List.foldl_cons]
    have e : nvF b (some a) c = some (a * b + digV c) := by unfold nvF; rw [Option.bind_some, if_pos (h c (by simp))]
    rw [e]
    exact nv_some (fun x hx => h x (by simp [hx])) _
theorem nv_all {b : Nat} : ∀ {l : List UInt8} {a V : Nat}, l.foldl (nvF b) (some a) = some V → ∀ c ∈ l, digV c < b
  | [], _, _, _, c, hc => by cases hc
  | d :: r, a, V, h, c, hc => by
    rw [List.foldl_cons] at h
    by_cases hd : digV d < b
    · have e : nvF b (some a) d = some (a * b + digV d) := by unfold nvF; rw [Option.bind_some, if_pos hd]
      rw [e] at h
      rcases List.mem_cons.1 hc with rfl | hc
      · exact hd
      · exact nv_all h c hc
    · have e : nvF b (some a) d = none := by unfold nvF; rw [Option.bind_some, if_neg hd]
      rw [e, nv_none] at h; cases h
theorem mag_of {D : List UInt8} {V : Nat} (h0 : D ≠ []) (h : numV? 10 D = some V) : Lib.parseMag D = if V < 18446744073709551616 then .ok V else .range := by
  unfold Lib.parseMag
  rw [if_neg h0]
  split
  · next hv => exact pu_ok D 0 V h hv
  · next hv => exact pu_range D 0 V h (by omega) (by decide)
theorem pInt_minus {r : List UInt8} {V : Nat} (h0 : r ≠ []) (h : numV? 10 r = some V) : pIntR (45 :: r) = numR (sgn V true) := by
  unfold pIntR
  rw [Lib.parseIntB_64, Lib.atoiAll_minus, mag_of h0 h]
  have hs : sgn V true = -(V : Int) := rfl
  rw [hs]
  by_cases hv : V < 18446744073709551616
  · rw [if_pos hv]
    unfold Lib.signed
    simp only []
    by_cases h9 : 9223372036854775808 < V
    · rw [if_pos h9, numR, numV_out (by unfold In64; omega), numE_out (by unfold In64; omega)]
    · rw [if_neg h9, numR, numV_in (by unfold In64; omega), numE_in (by unfold In64; omega)]
  · rw [if_neg hv, numR, numV_out (by unfold In64; omega), numE_out (by unfold In64; omega)]; rfl
theorem signless_numR {V : Nat} {x : Lib.NumEnd Nat} (hx : x = if V < 18446744073709551616 then .ok V else .range) : (match Lib.signless x with
    | .ok v => Ending.returned (.tuple #[.int .i64 v, .int .i64 0])
    | _ => .returned (.tuple #[.int .i64 0, .int .i64 3])) = numR (sgn V false) := by
  subst hx
  have hs : sgn V false = (V : Int) := rfl
  rw [hs]
  by_cases hv : V < 18446744073709551616
  · rw [if_pos hv]
    unfold Lib.signless
    simp only []
    by_cases h9 : 9223372036854775808 ≤ V
    · rw [if_pos h9, numR, numV_out (by unfold In64; omega), numE_out (by unfold In64; omega)]
    · rw [if_neg h9, numR, numV_in (by unfold In64; omega), numE_in (by unfold In64; omega)]
  · rw [if_neg hv, numR, numV_out (by unfold In64; omega), numE_out (by unfold In64; omega)]; rfl
theorem tail_docT {S : List UInt8} (hS : S ≠ []) : tailR S (behind S) = docT S := by
  unfold tailR
  by_cases h0 : behind S = []
  · rw [if_pos (Or.inl h0), docT_nil h0]
  · by_cases hd : Lib.trimS (behind S) [48, 49, 50, 51, 52, 53, 54, 55, 56, 57] = []
    · rw [if_neg (by rintro (e | e); exact h0 e; exact e hd)]
      obtain ⟨V, hV⟩ := nv_some (b := 10) (fun c hc => dig_of (trimS_nil hd c hc)) 0
      have hV : numV? 10 (behind S) = some V := hV
      rw [docT_val h0 hV]
      cases S with
      | nil => exact absurd rfl hS
      | cons c r =>
        by_cases h45 : c.toNat = 45
        · obtain rfl : c = 45 := UInt8.toNat_inj.1 h45
          rw [behind_sign (Or.inr rfl)] at h0 hV
          exact pInt_minus h0 hV
        · have hh : ((c :: r).head? == some 45) = false := by
            rw [List.head?_cons, beq_eq_false_iff_ne]
            intro e; injection e with e; rw [e] at h45; exact h45 rfl
          rw [hh]
          by_cases h43 : c.toNat = 43
          · obtain rfl : c = 43 := UInt8.toNat_inj.1 h43
            rw [behind_sign (Or.inl rfl)] at h0 hV
            unfold pIntR
            rw [Lib.parseIntB_64, Lib.atoiAll_plus]
            exact signless_numR (mag_of h0 hV)
          · rw [behind_none (by rintro (e | e) <;> contradiction)] at h0 hV
            unfold pIntR
            rw [Lib.parseIntB_64, Lib.atoiAll_plain c r h43 h45]
            exact signless_numR (mag_of h0 hV)
    · rw [if_pos (Or.inr hd)]
      have hn : numV? 10 (behind S) = none := by
        cases h : numV? 10 (behind S) with
        | none => rfl
        | some V => exact absurd (trimS_all fun c hc => of_dig (nv_all h c hc)) hd
      rw [docT_bad hn]
/-- Read's answer is the document's. -/
theorem read_doc (l : List UInt8) : readR l = if Lib.trimRightS (Lib.trimLeftS l [32, 9]) [32, 9] = [] then .returned (.tuple #[.int .i64 0, .int .i64 0]) else docT (Lib.trimRightS (Lib.trimLeftS l [32, 9]) [32, 9]) := by
  rw [trim_comm]
  by_cases h : Lib.trimS l [32, 9] = []
  · rw [if_pos h]; unfold readR; rw [if_pos h]
  · rw [if_neg h, readR_tail rfl h, tail_docT h]
/-- A step of the reading. -/
theorem numV?_step {b i V : Nat} {d : List UInt8} (hi : i < d.length) (h : numV? b (d.take i) = some V) (hk : digV d[i] < b) : numV? b (d.take (i + 1)) = some (V * b + digV d[i]) := by
  rw [List.take_succ_eq_append_getElem hi, numV?_snoc, h, Option.bind_some, if_pos hk]
theorem w64 {n : Int} (h0 : -9223372036854775808 ≤ n) (h1 : n ≤ 9223372036854775807) : wrap64 n = n := by unfold wrap64; omega
theorem nw_64' {u : Nat} (h : u < 18446744073709551616) : nw ((u : Nat) : Int).natAbs ≤ 1099511627776 := by
  rw [Int.natAbs_natCast]
  exact Nat.le_trans (nw_le (n := 2) (by rw [show B32 ^ 2 = 18446744073709551616 by decide]; exact h)) (by omega)
theorem nw_64 {x : Int} (h : In64 x) : nw x.natAbs ≤ 1099511627776 := by
  have := nw_64' (u := x.natAbs) (by obtain ⟨h0, h1⟩ := h; omega)
  rwa [Int.natAbs_natCast] at this
end Go.Proofs.YthhcpocgfmlbeaaDoor
