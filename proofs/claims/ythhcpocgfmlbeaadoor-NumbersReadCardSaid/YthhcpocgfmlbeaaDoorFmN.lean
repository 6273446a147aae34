/- What Print writes, Read reads; what is read is written no longer: plain. -/
import Derived.Test.YthhcpocgfmlbeaaDoorFmM
namespace Go.Proofs.YthhcpocgfmlbeaaDoor
open Go.RowKit
set_option linter.unusedVariables false
theorem dropWhile_none {p : UInt8 → Bool} : ∀ {l : List UInt8}, (∀ c ∈ l, p c = false) → l.dropWhile p = l
  | [], _ => rfl
  | c :: r, h => by rw [List.dropWhile_cons, h c (by simp)]; rfl
theorem dropWhile_all {p : UInt8 → Bool} : ∀ {l : List UInt8}, (∀ c ∈ l, p c = true) → l.dropWhile p = []
  | [], _ => rfl
  | c :: r, h => by rw [List.dropWhile_cons, h c (by simp)]; exact dropWhile_all fun x hx => h x (by simp [hx])
theorem trimS_none {l cs : List UInt8} (h : ∀ c ∈ l, cs.contains c = false) : Lib.trimS l cs = l := by
  unfold Lib.trimS Lib.trimLeftS Lib.trimRightS
  rw [dropWhile_none (l := l.reverse) (fun c hc => h c (by simpa using hc)), List.reverse_reverse, dropWhile_none h]
theorem trimS_all {l cs : List UInt8} (h : ∀ c ∈ l, cs.contains c = true) : Lib.trimS l cs = [] := by
  unfold Lib.trimS Lib.trimLeftS Lib.trimRightS
  rw [dropWhile_all (l := l.reverse) (fun c hc => h c (by simpa using hc))]; rfl
theorem digB_ten : ∀ k : Nat, k < 10 → ([48, 49, 50, 51, 52, 53, 54, 55, 56, 57] : List UInt8).contains (digB k) = true ∧ ([32, 9] : List UInt8).contains (digB k) = false ∧ (digB k).toNat ≠ 43 ∧ (digB k).toNat ≠ 45 := by decide +kernel
theorem radix_digits (u : Nat) : ∀ c ∈ radix 10 u, ([48, 49, 50, 51, 52, 53, 54, 55, 56, 57] : List UInt8).contains c = true ∧ ([32, 9] : List UInt8).contains c = false ∧ c.toNat ≠ 43 ∧ c.toNat ≠ 45 := fun c hc => by
  obtain ⟨k, hk, rfl⟩ := radix_all (by omega) u c hc
  exact digB_ten k hk
theorem radix_cons (u : Nat) : ∃ c r, radix 10 u = c :: r ∧ c.toNat ≠ 43 ∧ c.toNat ≠ 45 := by
  cases h : radix 10 u with
  | nil => exact absurd h radix_ne
  | cons c r =>
    have := radix_digits u c (by rw [h]; simp)
    exact ⟨c, r, rfl, this.2.2.1, this.2.2.2⟩
theorem read_back (n : Int) (hn : In64 n) : readR (Lib.itoa n) = .returned (.tuple #[.int .i64 n, .int .i64 0]) := by
  rw [itoa_fmN]
  obtain ⟨h0, h1⟩ := hn
  have hd : Lib.trimS (radix 10 n.natAbs) [48, 49, 50, 51, 52, 53, 54, 55, 56, 57] = [] := trimS_all fun c hc => (radix_digits _ c hc).1
  have hb : ∀ c ∈ radix 10 n.natAbs, ([32, 9] : List UInt8).contains c = false := fun c hc => (radix_digits _ c hc).2.1
  unfold fmN
  by_cases h : n < 0
  · rw [if_pos h]
    have ht : Lib.trimS (45 :: radix 10 n.natAbs) [32, 9] = 45 :: radix 10 n.natAbs := trimS_none fun c hc => by
      rcases List.mem_cons.1 hc with rfl | hc
      · decide
      · exact hb c hc
    rw [readR_tail ht (by simp), behind_sign (Or.inr rfl), tailR, if_neg (by
      rintro (e | e)
      · exact radix_ne e
      · exact e hd)]
    unfold pIntR
    rw [Lib.parseIntB_64, Lib.atoiAll_minus, mag_radix (by omega)]
    unfold Lib.signed
    simp only []
    rw [if_neg (by omega)]
    simp only []
    rw [show -((n.natAbs : Nat) : Int) = n by omega]
  · rw [if_neg h]
    have ht : Lib.trimS (radix 10 n.natAbs) [32, 9] = radix 10 n.natAbs := trimS_none hb
    have hm := mag_radix (u := n.natAbs) (by omega)
    obtain ⟨c, r, hr, c1, c2⟩ := radix_cons n.natAbs
    rw [readR_tail ht radix_ne]
    rw [hr] at hd hm ⊢
    rw [behind_none (by rintro (e | e) <;> contradiction), tailR, if_neg (by
      rintro (e | e)
      · cases e
      · exact e hd)]
    unfold pIntR
    rw [Lib.parseIntB_64, Lib.atoiAll_plain c r c1 c2, hm]
    unfold Lib.signless
    simp only []
    rw [if_neg (by omega)]
    simp only []
    rw [show ((n.natAbs : Nat) : Int) = n by omega]
theorem mag_len {l : List UInt8} {u : Nat} (h : Lib.parseMag l = .ok u) (hu : u ≠ 0) : (radix 10 u).length ≤ l.length := by
  unfold Lib.parseMag at h
  split at h
  · cases h
  · have h1 := pu_lt l 0 u h
    rw [Nat.zero_add, Nat.one_mul] at h1
    cases hl : l.length with
    | zero => rw [hl] at h1; simp at h1; omega
    | succ k => rw [hl] at h1; exact radix_len k u h1
theorem atoi_len {S : List UInt8} {c : Int} (h : Lib.atoiAll S = .ok c) (hc : c ≠ 0) : (Lib.itoa c).length ≤ S.length := by
  rw [itoa_fmN]
  unfold fmN
  cases S with
  | nil => simp [Lib.atoiAll] at h
  | cons c0 r =>
    by_cases h45 : c0.toNat = 45
    · obtain rfl : c0 = 45 := UInt8.toNat_inj.1 h45
      rw [Lib.atoiAll_minus] at h
      cases hm : Lib.parseMag r with
      | ok u =>
        rw [hm] at h
        unfold Lib.signed at h
        simp only [] at h
        split at h
        · cases h
        · injection h with h
          subst h
          have := mag_len hm (by omega)
          rw [if_pos (by omega), Int.natAbs_neg, Int.natAbs_natCast]
          simp; exact this
      | range => rw [hm] at h; cases h
      | _ => rw [hm] at h; cases h
    · have key : ∀ l : List UInt8, Lib.signless (Lib.parseMag l) = .ok c → (if c < 0 then 45 :: radix 10 c.natAbs else radix 10 c.natAbs).length ≤ l.length := fun l h => by
        cases hm : Lib.parseMag l with
        | ok u =>
          rw [hm] at h
          unfold Lib.signless at h
          simp only [] at h
          split at h
          · cases h
          · injection h with h
            subst h
            have := mag_len hm (by omega)
            rw [if_neg (by omega), Int.natAbs_natCast]
            exact this
        | range => rw [hm] at h; cases h
        | _ => rw [hm] at h; cases h
      by_cases h43 : c0.toNat = 43
      · obtain rfl : c0 = 43 := UInt8.toNat_inj.1 h43
        rw [Lib.atoiAll_plus] at h
        have := key r h
        rw [List.length_cons]; omega
      · rw [Lib.atoiAll_plain c0 r h43 h45] at h
        exact key _ h
theorem read_len {l : List UInt8} {c : Int} (h : readR l = .returned (.tuple #[.int .i64 c, .int .i64 0])) (hc : c ≠ 0) : (Lib.itoa c).length ≤ l.length := by
  have hle := trimS_le l [32, 9]
  unfold readR at h
  split at h
  · injection h with h; injection h with h; simp at h; omega
  · split at h
    · injection h with h; injection h with h; simp at h
    · unfold pIntR at h
      cases hp : Lib.parseIntB 64 (Lib.trimS l [32, 9]) with
      | ok v =>
        rw [hp] at h
        simp only [] at h
        injection h with h; injection h with h; simp at h
        subst h
        rw [Lib.parseIntB_64] at hp
        exact Nat.le_trans (atoi_len hp hc) hle
      | range => rw [hp] at h; simp only [] at h; injection h with h; injection h with h; simp at h
      | _ => rw [hp] at h; simp only [] at h; injection h with h; injection h with h; simp at h
end Go.Proofs.YthhcpocgfmlbeaaDoor
