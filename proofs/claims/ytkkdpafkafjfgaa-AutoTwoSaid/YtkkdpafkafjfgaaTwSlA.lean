/- Smallest: plain: what has come up so far; the splitting; columns as texts. -/
import Derived.Lib.ItoaNum
import Derived.Test.YtkkdpafkafjfgaaTwAuN
namespace Go.Proofs.Ytkkdpafkafjfgaa
set_option linter.unusedVariables false
section
variable {α : Type} [DecidableEq α]
def upN (f : Nat → α) (i : Nat) : List α := uniq ((List.range i).map f)
theorem upN_old {f : Nat → α} {i : Nat} (h : f i ∈ upN f i) : upN f (i + 1) = upN f i := by
  unfold upN at *; rw [List.range_succ, List.map_append, List.map_singleton, uniq_snoc, if_pos h]
theorem upN_new {f : Nat → α} {i : Nat} (h : f i ∉ upN f i) : upN f (i + 1) = upN f i ++ [f i] := by
  unfold upN at *; rw [List.range_succ, List.map_append, List.map_singleton, uniq_snoc, if_neg h]
theorem upN_le (f : Nat → α) (i : Nat) : (upN f i).length ≤ i := by
  have := uniq_le ((List.range i).map f); rwa [List.length_map, List.length_range] at this
theorem numb_old {f : Nat → α} {n i : Nat} (hi : i < n) (h : f i ∈ upN f i) : numb f n i = (upN f i).idxOf (f i) := (numb_at f hi).trans (if_pos h)
theorem numb_new {f : Nat → α} {n i : Nat} (hi : i < n) (h : f i ∉ upN f i) : numb f n i = (upN f i).length := (numb_at f hi).trans (if_neg h)
end
structure SplI (R : RA) (G : Nat) (ag : Bool) (g : Nat → Nat) (c : Nat) : Prop where
  coarse : Coarse R g
  stable : ag = false → StableTo R g c
  grown : G ≤ gcnt g R.n ∧ (ag = true → G < gcnt g R.n)
theorem gcnt_congr {g h : Nat → Nat} {n : Nat} (e : ∀ i, i < n → g i = h i) : gcnt g n = gcnt h n := by
  unfold gcnt
  rw [List.map_congr_left fun i hi => e i (List.mem_range.1 hi)]
theorem split_ge {R : RA} (ok : R.Ok) (g : Nat → Nat) (c : Nat) : gcnt g R.n ≤ (upN (pr R g c) R.n).length := finer_le (pr_finer R g c)
theorem gcnt_split (R : RA) (g : Nat → Nat) (c : Nat) : gcnt (numb (pr R g c) R.n) R.n = (upN (pr R g c) R.n).length := gcnt_numb _ _
theorem SplI.more {R : RA} (ok : R.Ok) {G : Nat} {g : Nat → Nat} {c : Nat} (h : SplI R G false g c) (hc : c < 256) (hm : gcnt g R.n < (upN (pr R g c) R.n).length) : SplI R G true (numb (pr R g c) R.n) (c + 1) :=
  ⟨h.coarse.byte ok hc, fun e => (by cases e), by rw [gcnt_split]; have := h.grown.1; exact ⟨by omega, fun _ => by omega⟩⟩
theorem SplI.same {R : RA} (ok : R.Ok) {G : Nat} {g : Nat → Nat} {c : Nat} (h : SplI R G false g c) (hc : c < 256) (hm : (upN (pr R g c) R.n).length ≤ gcnt g R.n) : SplI R G false (numb (pr R g c) R.n) (c + 1) :=
  ⟨h.coarse.byte ok hc, fun _ => (h.stable rfl).next ok hc hm, by rw [gcnt_split]; have := h.grown.1; have := split_ge ok g c; exact ⟨by omega, fun e => (by cases e)⟩⟩
theorem SplI.start {R : RA} {g : Nat → Nat} (h : Coarse R g) : SplI R (gcnt g R.n) false g 0 := ⟨h, fun _ c hc => absurd hc (Nat.not_lt_zero c), Nat.le_refl _, fun e => (by cases e)⟩
theorem SplI.groups {R : RA} (ok : R.Ok) {G : Nat} {g : Nat → Nat} {c : Nat} (h : SplI R G false g c) (hc : 256 ≤ c) : Groups R g :=
  StableTo.groups ok h.coarse fun d hd => h.stable rfl d (by omega)
def numT (n : Nat) : List UInt8 := Lib.decDigits n ++ [32]
def colT (C : RA) (c r : Nat) : List UInt8 := ((List.range r).map fun s => numT (C.nx s c)).flatten
theorem colT_succ (C : RA) (c r : Nat) : colT C c (r + 1) = colT C c r ++ numT (C.nx r c) := by unfold colT; rw [List.range_succ, List.map_append, List.flatten_append]; simp
theorem u8_inj {a b : Nat} (ha : a < 256) (hb : b < 256) (h : UInt8.ofNat a = UInt8.ofNat b) : a = b := by
  have := congrArg UInt8.toNat h
  rwa [UInt8.toNat_ofNat_of_lt' (by exact ha), UInt8.toNat_ofNat_of_lt' (by exact hb)] at this
theorem digits_blank (n : Nat) : (32 : UInt8) ∉ Lib.decDigits n := by
  induction n using Nat.strongRecOn with
  | _ n ih =>
    rw [Lib.decDigits]
    split
    · rename_i h
      rw [List.mem_singleton]
      intro e
      have := u8_inj (a := 32) (b := 48 + n) (by omega) (by omega) e
      omega
    · rename_i h
      rw [List.mem_append, List.mem_singleton]
      rintro (h1 | h1)
      · exact ih (n / 10) (by omega) h1
      · have := u8_inj (a := 32) (b := 48 + n % 10) (by omega) (by omega) h1
        omega
theorem digits_ne (n : Nat) : Lib.decDigits n ≠ [] := by
  rw [Lib.decDigits]
  split
  · exact fun h => by cases h
  · exact fun h => by simp at h
theorem dec_lt {n : Nat} (h : n < 10) : Lib.decDigits n = [UInt8.ofNat (48 + n)] := by rw [Lib.decDigits, dif_pos h]
theorem dec_ge {n : Nat} (h : ¬ n < 10) : Lib.decDigits n = Lib.decDigits (n / 10) ++ [UInt8.ofNat (48 + n % 10)] := by rw [Lib.decDigits, dif_neg h]
theorem digits_inj : ∀ {m n : Nat}, Lib.decDigits m = Lib.decDigits n → m = n := fun {m} => by
  induction m using Nat.strongRecOn with
  | _ m ih =>
    intro n h
    by_cases h1 : m < 10
    · rw [dec_lt h1] at h
      by_cases h2 : n < 10
      · rw [dec_lt h2] at h
        have := u8_inj (by omega) (by omega) (List.cons.inj h).1
        omega
      · rw [dec_ge h2] at h
        have h3 := congrArg List.length h
        have h4 := List.length_pos_iff.2 (digits_ne (n / 10))
        simp only [List.length_append, List.length_cons, List.length_nil] at h3
        omega
    · rw [dec_ge h1] at h
      by_cases h2 : n < 10
      · rw [dec_lt h2] at h
        have h3 := congrArg List.length h
        have h4 := List.length_pos_iff.2 (digits_ne (m / 10))
        simp only [List.length_append, List.length_cons, List.length_nil] at h3
        omega
      · rw [dec_ge h2] at h
        have h3 := List.append_inj' h rfl
        have h4 := ih (m / 10) (by omega) h3.1
        have h5 := u8_inj (by omega) (by omega) (List.cons.inj h3.2).1
        omega
theorem cut_blank : ∀ {a b x y : List UInt8}, (32 : UInt8) ∉ a → (32 : UInt8) ∉ b → a ++ (32 : UInt8) :: x = b ++ (32 : UInt8) :: y → a = b ∧ x = y
  | [], [], x, y, _, _, h => ⟨rfl, by simpa using h⟩
  | [], d :: b, x, y, _, hb, h => by
    simp only [List.nil_append, List.cons_append, List.cons.injEq] at h
    exact absurd (h.1 ▸ List.mem_cons_self ..) hb
  | d :: a, [], x, y, ha, _, h => by
    simp only [List.nil_append, List.cons_append, List.cons.injEq] at h
    exact absurd (h.1 ▸ List.mem_cons_self ..) ha
  | d :: a, e :: b, x, y, ha, hb, h => by
    simp only [List.cons_append, List.cons.injEq] at h
    obtain ⟨h1, h2⟩ := cut_blank (fun k => ha (List.mem_cons_of_mem _ k)) (fun k => hb (List.mem_cons_of_mem _ k)) h.2
    exact ⟨by rw [h.1, h1], h2⟩
theorem nums_inj : ∀ {a b : List Nat}, a.length = b.length → (a.map numT).flatten = (b.map numT).flatten → a = b
  | [], [], _, _ => rfl
  | x :: a, y :: b, hl, h => by
    simp only [List.map_cons, List.flatten_cons] at h
    unfold numT at h
    rw [List.append_assoc, List.append_assoc] at h
    obtain ⟨h1, h2⟩ := cut_blank (digits_blank x) (digits_blank y) h
    rw [digits_inj h1, nums_inj (by simpa using hl) h2]
end Go.Proofs.Ytkkdpafkafjfgaa
