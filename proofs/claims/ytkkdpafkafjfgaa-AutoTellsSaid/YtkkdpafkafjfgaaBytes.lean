/- Texts as bytes in memory: what a conversion lays, what slices.Reverse leaves of it. No condition but the forms' own bounds. -/
import Derived.Test.YtkkdpafkafjfgaaBase
import Derived.Test.YtkkdpafkafjfgaaShelf
import Derived.Sort.Row
namespace Go.Proofs.Ytkkdpafkafjfgaa
open Go.RowKit
open Go.Sort (Holds mapBlock ahead putRow holds_putRow holds_ahead)
set_option linter.unusedVariables false

/-- '[]byte(s)', the byte type's numbers as this dump has them. -/
theorem bytesOf (w : World) (s : ByteArray) : (convert 9 46 (.string s)).run Try.prog w = .ok (.slice (some ⟨w.heap.size, 0, none⟩) s.size (grownCap w s.size 0 5))
      (w.drew.alloc (.cells (bytesRow s (grownCap w s.size 0 5)) 5 ((bytesRow s (grownCap w s.size 0 5)).size, (bytesRow s (grownCap w s.size 0 5)).size + 1))) :=
  run_bytes_of_string (P := Try.prog) w 9 46 5 s Try.underlying9 Try.underlying46 Try.underlying5

def encB (x : UInt8) : Value := .int .u8 x.toNat

/-- The l.length cells from there on hold the bytes l, and none is frozen. -/
def BytesAt (w : World) (b off : Nat) (l : List UInt8) : Prop := Holds encB w b off l.toArray

theorem below_mapBlock (w : World) (b : Nat) (f : Array Value → Array Value) : Below b w (mapBlock w b f) :=
  ⟨rfl, rfl, rfl, by simp [mapBlock], fun k hk => by simp only [mapBlock, Array.getElem?_modify]; rw [if_neg (by omega)]⟩
theorem below_ahead (w : World) (b n : Nat) : Below b w (Go.Sort.ahead w n) := ⟨rfl, rfl, rfl, Nat.le_refl _, fun _ _ => rfl⟩

theorem rev_bytes (l : List UInt8) (b off cap : Nat) (w : World) (h : BytesAt w b off l) (hl : l.length ≤ 9223372036854775807) :
    Calls Try.prog 22 #[.slice (some ⟨b, off, none⟩) l.length cap] w fun e w' => e = .returned (.tuple #[]) ∧ BytesAt w' b off l.reverse ∧ Below b w w' := by
  refine (Try.slices_Reverse_bytes encB (fun _ => rfl) b off cap l w h hl).mono ?_
  rintro e w' ⟨rfl, n, rfl⟩
  exact ⟨rfl, holds_putRow encB _ b off l.toArray _ (holds_ahead encB w n b off _ h) (by simp), (below_ahead w b n).trans (below_mapBlock _ _ _)⟩

theorem addr_add (b off j : Nat) : (⟨b, off, none⟩ : Addr).add j = ⟨b, off + j, none⟩ := by
  unfold Addr.add; split
  · next h0 => subst h0; rfl
  · rfl

/-- 'string(b)'. -/
theorem BytesAt.conv {w : World} {b off cap : Nat} {l : List UInt8} (h : BytesAt w b off l) :
    (convert 46 9 (.slice (some ⟨b, off, none⟩) l.length cap)).run Try.prog w = .ok (.string ⟨l.toArray⟩) w :=
  run_convert_bytes_back w 46 9 5 ⟨b, off, none⟩ cap l Try.underlying46 Try.underlying5 Try.underlying9 (fun j hj => by
    have := (h j (by simpa using hj)).1
    rw [addr_add, this]
    simp [encB, hj])

theorem size_bytesRow (s : ByteArray) (cap : Nat) : s.size ≤ (bytesRow s cap).size := by
  unfold bytesRow
  rw [Array.size_append, Array.size_map]
  exact Nat.le_add_right _ _

/-- What '[]byte(s)' has laid holds s's bytes. -/
theorem bytesAt_row (w : World) (s : ByteArray) (cap : Nat) (t : TypeId) : BytesAt (w.alloc (.cells (bytesRow s cap) t ((bytesRow s cap).size, (bytesRow s cap).size + 1))) w.heap.size 0 s.data.toList := by
  intro j hj
  have hj' : j < s.data.size := by simpa using hj
  refine ⟨?_, ?_⟩
  · rw [Nat.zero_add, World.cell?_alloc_mark, bytesRow_at s cap j hj']
    simp [encB]
    rw [getElem!_pos s.data j hj']
  · rw [Nat.zero_add, World.frozen?_alloc_mark]
    have h1 : s.data.size = s.size := rfl
    have h2 := size_bytesRow s cap
    simp; omega

theorem BytesAt.at0 {w : World} {b : Nat} {l : List UInt8} (h : BytesAt w b 0 l) (k : Nat) (hk : k < l.length) : w.cell? ⟨b, k, none⟩ = some (.int .u8 (l[k].toNat : Int)) := by
  have := (h k (by simpa using hk)).1
  rw [Nat.zero_add] at this
  rw [this]; simp [encB, hk]
theorem BytesAt.drew {w : World} {b off : Nat} {l : List UInt8} (h : BytesAt w b off l) : BytesAt w.drew b off l := h
end Go.Proofs.Ytkkdpafkafjfgaa
