/- Texts as bytes in memory: what a conversion lays, what slices.Reverse leaves of it. No condition but the forms' own bounds. -/
import Derived.Test.YtcmdhgamlhnioaaDoorBase
import Derived.Sort.Row
namespace Go.Proofs.YtcmdhgamlhnioaaDoor
open Go.RowKit
open Go.Sort (Holds mapBlock ahead putRow holds_putRow holds_ahead)
set_option linter.unusedVariables false

/-- '[]byte(s)', the byte type's numbers as this dump has them. -/
theorem bytesOf (w : World) (s : ByteArray) : (convert 9 94 (.string s)).run Tryd.prog w = .ok (.slice (some ⟨w.heap.size, 0, none⟩) s.size (grownCap w s.size 0 5))
      (w.drew.alloc (.cells (bytesRow s (grownCap w s.size 0 5)) 5 ((bytesRow s (grownCap w s.size 0 5)).size, (bytesRow s (grownCap w s.size 0 5)).size + 1))) :=
  run_bytes_of_string (P := Tryd.prog) w 9 94 5 s Tryd.underlying9 Tryd.underlying94 Tryd.underlying5

def encB (x : UInt8) : Value := .int .u8 x.toNat

/-- The l.length cells from there on hold the bytes l, and none is frozen. -/
def BytesAt (w : World) (b off : Nat) (l : List UInt8) : Prop := Holds encB w b off l.toArray

theorem below_mapBlock (w : World) (b : Nat) (f : Array Value → Array Value) : Below b w (mapBlock w b f) :=
  ⟨rfl, rfl, rfl, by simp [mapBlock], fun k hk => by simp only [mapBlock, Array.getElem?_modify]; rw [if_neg (by omega)]⟩
theorem below_ahead (w : World) (b n : Nat) : Below b w (Go.Sort.ahead w n) := ⟨rfl, rfl, rfl, Nat.le_refl _, fun _ _ => rfl⟩


theorem addr_add (b off j : Nat) : (⟨b, off, none⟩ : Addr).add j = ⟨b, off + j, none⟩ := by
  unfold Addr.add; split
  · next h0 => subst h0; rfl
  · rfl

/-- 'string(b)'. -/
theorem BytesAt.conv {w : World} {b off cap : Nat} {l : List UInt8} (h : BytesAt w b off l) :
    (convert 94 9 (.slice (some ⟨b, off, none⟩) l.length cap)).run Tryd.prog w = .ok (.string ⟨l.toArray⟩) w :=
  run_convert_bytes_back w 94 9 5 ⟨b, off, none⟩ cap l Tryd.underlying94 Tryd.underlying5 Tryd.underlying9 (fun j hj => by
    have := (h j (by simpa using hj)).1
    rw [addr_add, this]
    simp [encB, hj])

theorem size_bytesRow (s : ByteArray) (cap : Nat) : s.size ≤ (bytesRow s cap).size := by
  unfold bytesRow
  rw [Array.size_append, Array.size_map]
  exact Nat.le_add_right _ _

/-- What '[]byte(s)' has laid holds s's bytes. -/
theorem bytesAt_row (w : World) (s : ByteArray) (cap : Nat) (t : TypeId) : BytesAt (w.alloc (.cells (bytesRow s cap) t ((bytesRow s cap).size, (bytesRow s cap).size + 1))) w.heap.size 0 s.data.toList := by
  intro j hj
  have hj' : j < s.data.size := by simpa using hj
  refine ⟨?_, ?_⟩
  · rw [Nat.zero_add, World.cell?_alloc_mark, bytesRow_at s cap j hj']
    simp [encB]
    rw [getElem!_pos s.data j hj']
  · rw [Nat.zero_add, World.frozen?_alloc_mark]
    have h1 : s.data.size = s.size := rfl
    have h2 := size_bytesRow s cap
    simp; omega

theorem BytesAt.at0 {w : World} {b : Nat} {l : List UInt8} (h : BytesAt w b 0 l) (k : Nat) (hk : k < l.length) : w.cell? ⟨b, k, none⟩ = some (.int .u8 (l[k].toNat : Int)) := by
  have := (h k (by simpa using hk)).1
  rw [Nat.zero_add] at this
  rw [this]; simp [encB, hk]
theorem BytesAt.drew {w : World} {b off : Nat} {l : List UInt8} (h : BytesAt w b off l) : BytesAt w.drew b off l := h
end Go.Proofs.YtcmdhgamlhnioaaDoor
