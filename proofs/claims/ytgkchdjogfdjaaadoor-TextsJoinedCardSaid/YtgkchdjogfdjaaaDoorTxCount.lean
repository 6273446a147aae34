/- texts.Count: at every two texts, where the one variable of the library's that bytes.Count reads holds some number. -/
import Derived.Test.YtgkchdjogfdjaaaDoorTxLong
import Derived.Test.YtgkchdjogfdjaaaDoorTxEmpty
import Derived.Test.YtgkchdjogfdjaaaDoorBytes
import Derived.Test.YtgkchdjogfdjaaaDoorTxCountL
import Derived.Test.YtgkchdjogfdjaaaDoorShelfB
namespace Go.Proofs.YtgkchdjogfdjaaaDoor
open Go.RowKit
set_option linter.unusedVariables false

theorem Count_much (s p : ByteArray) (w : World) (hs : s.size ≤ maxLen) (hp : p.size ≤ maxLen) (h : 65536 < s.size ∨ 65536 < p.size) :
    Calls Tryd.prog 19 #[.string s, .string p] w fun e w' => e = .returned (.tuple #[.int .i64 0, .int .i64 4]) ∧ Grew w w' := by
  have hd : (decide (65536 < s.size) || decide (65536 < p.size)) = true := by simpa using h
  have HH := hidd h
  clear h
  go_enter Tryd.func19, Tryd.ntmps19
  go_wp2_with fail
  refine (long_2 s p w 9 hs hp).mono ?_; rintro e w1 ⟨rfl, rfl⟩
  rw [hd]
  go_wp2_with fail
  go_ret2
  exact ⟨rfl, (Grew.refl _).alloc _⟩
theorem Count_fit (s p : ByteArray) (w : World) (hs : s.size ≤ 65536) (hp : p.size = 0) :
    Calls Tryd.prog 19 #[.string s, .string p] w fun e w' => e = .returned (.tuple #[.int .i64 0, .int .i64 8]) ∧ Grew w w' := by
  have hd : (decide (65536 < s.size) || decide (65536 < p.size)) = false := by simp; omega
  have h6 := nil_of_size hp
  have hb : p.size ≤ 65536 := by omega
  have HH := hidd hp
  clear hp
  go_enter Tryd.func19, Tryd.ntmps19
  go_wp2_with fail
  refine (long_2 s p w 9 (by unfold maxLen; omega) (by unfold maxLen; omega)).mono ?_; rintro e w1 ⟨rfl, rfl⟩
  rw [hd]
  go_wp2_with fail
  go_ret2
  exact ⟨rfl, (Grew.refl _).alloc _⟩

def nums (l : List UInt8) : List Int := l.map fun b => (b.toNat : Int)
theorem nums_getD (l : List UInt8) (i : Nat) (h : i < l.length) : (nums l).getD i 0 = (l[i].toNat : Int) := by
  simp [nums, List.getD_eq_getElem?_getD, List.getElem?_eq_getElem h]
theorem bytesOf_nums (l : List UInt8) : Lib.bytesOf (nums l) = l := by
  simp [Lib.bytesOf, nums, Function.comp_def]
theorem nums_range (l : List UInt8) : ∀ x ∈ nums l, 0 ≤ x ∧ x < 256 := by
  intro x hx
  obtain ⟨b, _, rfl⟩ := List.mem_map.1 hx
  have := b.toNat_lt
  omega
theorem BytesAt.nums {w : World} {b off : Nat} {l : List UInt8} (h : BytesAt w b off l) (i : Nat) (hi : i < l.length) : w.cell? ((⟨b, off, none⟩ : Addr).add i) = some (.int .u8 ((nums l).getD i 0)) := by
  rw [addr_add, (h i (by simpa using hi)).1, nums_getD l i hi]
  simp [encB, hi]
theorem BytesAt.alloc {w : World} {b off : Nat} {l : List UInt8} (h : BytesAt w b off l) (o : Obj) : BytesAt (w.alloc o) b off l := by
  intro j hj
  have hb : b < w.heap.size := lt_of_cell (h j hj).1
  have g := (Grew.refl w).alloc o
  exact ⟨by rw [g.cell (p := ⟨b, off + j, none⟩) hb]; exact (h j hj).1, by rw [g.frozen (p := ⟨b, off + j, none⟩) hb]; exact (h j hj).2⟩
theorem le_grownCap (w : World) (n old : Nat) (e : TypeId) : n ≤ grownCap w n old e := by
  show n ≤ n + _
  exact Nat.le_add_right _ _

/-- bytes.Count over two rows of bytes. -/
theorem bytes_Count_any (s p : List UInt8) (b1 b2 c1 c2 : Nat) (m : Int) (w : World) (h1 : BytesAt w b1 0 s) (h2 : BytesAt w b2 0 p) (hs : s.length ≤ 65536) (hp : p.length ≤ 65536) (hp0 : 0 < p.length) (hc : s.length ≤ c1) (hm : w.cell? ⟨0, 0, none⟩ = some (.int .i64 m)) :
    Calls Tryd.prog 29 #[.slice (some ⟨b1, 0, none⟩) s.length c1, .slice (some ⟨b2, 0, none⟩) p.length c2] w fun e w' => e = .returned (.int .i64 (Lib.count s p)) ∧ Grew w w' := by
  by_cases h : p.length = 1
  · obtain ⟨c, rfl⟩ : ∃ c, p = [c] := by
      match p, h with
      | [c], _ => exact ⟨c, rfl⟩
    have hx := h2.nums 0 (by simp)
    rw [addr_add] at hx
    refine (Tryd.bytes_Count_one_at ⟨b1, 0, none⟩ s.length c1 b2 0 c2 (nums s) (c.toNat : Int) w (by simp [nums]) (fun i hi => h1.nums i hi) (by simpa [nums] using hx)).mono ?_
    rintro e w1 ⟨rfl, rfl⟩
    refine ⟨?_, Grew.refl _⟩
    rw [bytesOf_nums]
    simp [Lib.countByte, Lib.count_one]
  · refine (Tryd.bytes_Count_at ⟨b1, 0, none⟩ ⟨b2, 0, none⟩ s.length c1 p.length c2 (nums s) (nums p) m w (by simp [nums]) (by simp [nums]) (nums_range _) (nums_range _) (fun i hi => h1.nums i hi) (fun i hi => h2.nums i hi) hc (by omega) (by omega) (by omega) hm).mono ?_
    rintro e w1 ⟨rfl, q, rfl⟩
    refine ⟨?_, (Grew.refl _).drewN _⟩
    rw [bytesOf_nums, bytesOf_nums]

theorem Count_ok (s p : ByteArray) (m : Int) (w : World) (hs : s.size ≤ 65536) (hp : p.size ≤ 65536) (hp0 : 0 < p.size) (hm : w.cell? ⟨0, 0, none⟩ = some (.int .i64 m)) :
    Calls Tryd.prog 19 #[.string s, .string p] w fun e w' => e = .returned (.tuple #[.int .i64 (Lib.count s.data.toList p.data.toList), .int .i64 0]) ∧ Grew w w' := by
  have hd : (decide (65536 < s.size) || decide (65536 < p.size)) = false := by simp; omega
  have h6 := isEmpty_of_size hp0
  have hb1 := fun w : World => bytesOf w s
  have hb2 := fun w : World => bytesOf w p
  have ls : s.data.toList.length = s.size := rfl
  have lp : p.data.toList.length = p.size := rfl
  have LS := hidd ls
  have LP := hidd lp
  have HM := hidd hm
  clear ls lp hm
  go_enter Tryd.func19, Tryd.ntmps19
  go_wp2_with fail
  refine (long_2 s p w 9 (by unfold maxLen; omega) (by unfold maxLen; omega)).mono ?_; rintro e w1 ⟨rfl, rfl⟩
  rw [hd]
  have B1 : ∀ c d, Hid (BytesAt ((((w.alloc (.cells #[.string s, .string p] 9)).alloc (.cells (bytesRow s c) 5 ((bytesRow s c).size, (bytesRow s c).size + 1))).alloc (.cells (bytesRow p d) 5 ((bytesRow p d).size, (bytesRow p d).size + 1))).drew.drew) (w.heap.size + 1) 0 s.data.toList) := fun c d => by
    have := bytesAt_row (w.alloc (.cells #[.string s, .string p] 9)) s c 5
    rw [World.size_alloc] at this
    exact ((this.alloc _).drew).drew
  have B2 : ∀ c d, Hid (BytesAt ((((w.alloc (.cells #[.string s, .string p] 9)).alloc (.cells (bytesRow s c) 5 ((bytesRow s c).size, (bytesRow s c).size + 1))).alloc (.cells (bytesRow p d) 5 ((bytesRow p d).size, (bytesRow p d).size + 1))).drew.drew) (w.heap.size + 1 + 1) 0 p.data.toList) := fun c d => by
    have := bytesAt_row ((w.alloc (.cells #[.string s, .string p] 9)).alloc (.cells (bytesRow s c) 5 ((bytesRow s c).size, (bytesRow s c).size + 1))) p d 5
    rw [World.size_alloc, World.size_alloc] at this
    exact (this.drew).drew
  have B3 : ∀ c d, Hid (Grew w ((((w.alloc (.cells #[.string s, .string p] 9)).alloc (.cells (bytesRow s c) 5 ((bytesRow s c).size, (bytesRow s c).size + 1))).alloc (.cells (bytesRow p d) 5 ((bytesRow p d).size, (bytesRow p d).size + 1))).drew.drew)) := fun c d =>
    ((((Grew.refl w).alloc _).alloc _).alloc _).drew.drew
  go_wp2_with fail
  refine (bytes_Count_any s.data.toList p.data.toList (w.heap.size + 1) (w.heap.size + 1 + 1) _ _ m _ (B1 _ _).out (B2 _ _).out (by rw [LS.out]; exact hs) (by rw [LP.out]; exact hp) (by rw [LP.out]; exact hp0) (le_grownCap _ _ _ _) ((B3 _ _).out.keeps HM.out)).mono ?_
  rintro e w1 ⟨rfl, g⟩
  go_wp2_with fail
  go_ret2
  exact ⟨rfl, (B3 _ _).out.trans g⟩
end Go.Proofs.YtgkchdjogfdjaaaDoor
