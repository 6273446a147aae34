/- Texts turned round, as lists. -/
namespace Go.Proofs.YtgkchdjogfdjaaaDoor
/-- The list from its place n modulo its length on, then what stood ahead. -/
def rotL (l : List UInt8) (n : Int) : List UInt8 := (List.range l.length).map fun (j : Nat) => l.getD (((j : Int) + n) % (l.length : Int)).toNat 0
theorem rotL_length (l : List UInt8) (n : Int) : (rotL l n).length = l.length := by simp [rotL]
theorem rotL_getD (l : List UInt8) (n : Int) (j : Nat) (h : j < l.length) : (rotL l n).getD j 0 = l.getD (((j : Int) + n) % (l.length : Int)).toNat 0 := by
  unfold rotL
  rw [List.getD_eq_getElem?_getD, List.getElem?_map, List.getElem?_range h]; rfl
theorem ext_getD {l m : List UInt8} (h : l.length = m.length) (k : ∀ j, j < l.length → l.getD j 0 = m.getD j 0) : l = m := by
  apply List.ext_getElem h
  intro j h1 h2
  have := k j h1
  simpa [List.getD_eq_getElem?_getD, List.getElem?_eq_getElem h1, List.getElem?_eq_getElem h2] using this
theorem rotL_rotL (l : List UInt8) (n m : Int) : rotL (rotL l n) m = rotL l (n + m) := by
  apply ext_getD (by simp [rotL_length])
  intro j hj
  rw [rotL_length, rotL_length] at hj
  have hp : (0 : Int) < (l.length : Int) := by omega
  have h0 := Int.emod_nonneg ((j : Int) + m) (b := (l.length : Int)) (by omega)
  have h1 := Int.emod_lt_of_pos ((j : Int) + m) hp
  rw [rotL_getD _ _ _ (by rw [rotL_length]; exact hj), rotL_length, rotL_getD _ _ _ (by omega), rotL_getD _ _ _ hj]
  congr 2
  rw [Int.toNat_of_nonneg h0, Int.emod_add_emod]
  congr 1
  omega
theorem rotL_zero (l : List UInt8) : rotL l 0 = l := by
  apply ext_getD (by simp [rotL_length])
  intro j hj
  rw [rotL_length] at hj
  rw [rotL_getD _ _ _ hj]
  congr 1
  rw [Int.add_zero, Int.emod_eq_of_lt (by omega) (by omega)]; simp
theorem rotL_length_self (l : List UInt8) : rotL l l.length = l := by
  apply ext_getD (by simp [rotL_length])
  intro j hj
  rw [rotL_length] at hj
  rw [rotL_getD _ _ _ hj]
  congr 1
  rw [Int.add_emod_right, Int.emod_eq_of_lt (by omega) (by omega)]; simp
theorem rotL_cut (l : List UInt8) (n : Int) (k : Nat) (hk : (k : Int) = n % (l.length : Int)) (h : k < l.length) : l.drop k ++ l.take k = rotL l n := by
  apply ext_getD (by simp [rotL_length]; omega)
  intro j hj
  have hj' : j < l.length := by simp at hj; omega
  rw [rotL_getD _ _ _ hj']
  have e : ((j : Int) + n) % (l.length : Int) = ((j : Int) + k) % (l.length : Int) := by rw [hk, Int.add_emod_emod]
  rw [e, List.getD_eq_getElem?_getD, List.getD_eq_getElem?_getD]
  by_cases hlt : j < l.length - k
  · rw [List.getElem?_append_left (by simpa using hlt), List.getElem?_drop, Int.emod_eq_of_lt (by omega) (by omega)]
    congr 2; omega
  · rw [List.getElem?_append_right (by simp; omega), List.getElem?_take, if_pos (by simp; omega)]
    congr 2
    simp
    have : ((j : Int) + k) % (l.length : Int) = (j : Int) + k - l.length := by
      rw [← Int.sub_emod_right, Int.emod_eq_of_lt (by omega) (by omega)]
    rw [this]; omega
/-- What the Go text reckons: the remainder, raised by the length, and its remainder. -/
theorem tmod_twice (n : Int) (k : Nat) (h : 0 < k) : (n.tmod (k : Int) + k).tmod (k : Int) = n % (k : Int) := by
  have hk : (0 : Int) < (k : Int) := by omega
  have h1 : -(k : Int) < n.tmod k := by have := Int.lt_tmod_of_pos n hk; omega
  rw [Int.tmod_eq_emod_of_nonneg (by omega), Int.add_emod_right]
  have e := Int.tmod_add_mul_tdiv n (k : Int)
  have : n.tmod k = n - k * n.tdiv k := by omega
  rw [this]
  exact Int.sub_mul_emod_self_left ..
end Go.Proofs.YtgkchdjogfdjaaaDoor
