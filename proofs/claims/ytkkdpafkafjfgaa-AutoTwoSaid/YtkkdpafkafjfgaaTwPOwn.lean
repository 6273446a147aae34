/- Slices that a call itself has made by append, elements of one cell: what an append leaves of them. No condition but the append's own bound on bytes. -/
import Derived.Test.YtkkdpafkafjfgaaTwArr
import Derived.Deep.DeepAppendWide
import Derived.Test.YtkkdpafkafjfgaaTwAuK
namespace Go.Proofs.Ytkkdpafkafjfgaa
open Go.RowKit
set_option linter.unusedVariables false
section
variable {P : Program} (w : World)
end
theorem wpList_append_eq {ops : Array Oper} {rest : List Oper} {o : Oper} {a : Act} {Q : Exit → Act → World → Prop} {w w' : World} (hgd : o.guard = none) {s x : Operand} {t t2 : TypeId}
    (ho : o.op = .call { callee := .builtin .append, args := #[s, x], argTypes := #[t, t2] }) {v u v' : Value} (hs : a.eval s = v) (hx : a.eval x = u)
    (hr : (Builtin.append_ #[t, t2] o.type #[v, u]).run Try.prog w = .ok v' w') (h : wpList Try.prog ops Q rest (a.put o.dst v') w') : wpList Try.prog ops Q (o :: rest) a w := by
  refine wpList_plain hgd fun _ hK => ?_
  unfold Oper.wp execOp
  simp only [ho, resolve, invoke, builtin, Sem.run_bind, Sem.run_pure, Result.andThen_ok, List.map_toArray, List.map_cons, List.map_nil, hs, hx, hr]
  exact hK _ _ h
end Go.Proofs.Ytkkdpafkafjfgaa

namespace Go.Proofs.Ytkkdpafkafjfgaa
set_option linter.unusedVariables false
set_option linter.unusedSectionVars false
def st2 (A B : RA) (x : Nat × Nat) (c : Nat) : Nat × Nat := (A.nx x.1 c, B.nx x.2 c)
theorem goS_two (A B : RA) : ∀ (l : List UInt8) (x : Nat × Nat), goS (st2 A B) x l = (A.go x.1 l, B.go x.2 l)
  | [], _ => rfl
  | c :: l, x => by rw [goS, goS_two A B l, RA.go, RA.go]; rfl
theorem goS_one (A : RA) : ∀ (l : List UInt8) (x : Nat), goS A.nx x l = A.go x l
  | [], _ => rfl
  | c :: l, x => by rw [goS, goS_one A l, RA.go]
def pairA (A B : RA) (f : Bool → Bool → Bool) : RA := ⟨A.n * B.n, fun s c => A.nx (s / B.n) c * B.n + B.nx (s % B.n) c, fun s => f (A.en (s / B.n)) (B.en (s % B.n))⟩
theorem pair_at {m i k : Nat} (hk : k < m) : (i * m + k) / m = i ∧ (i * m + k) % m = k := by
  have hm : 0 < m := by omega
  constructor
  · rw [Nat.mul_comm, Nat.mul_add_div hm, Nat.div_eq_of_lt hk, Nat.add_zero]
  · rw [Nat.mul_comm, Nat.mul_add_mod, Nat.mod_eq_of_lt hk]
theorem pair_lt {n m i k : Nat} (hi : i < n) (hk : k < m) : i * m + k < n * m := by
  have : (i + 1) * m ≤ n * m := Nat.mul_le_mul_right _ hi
  rw [Nat.add_mul, Nat.one_mul] at this
  omega
theorem pair_div {n m s : Nat} (h : s < n * m) : s / m < n ∧ s % m < m := by
  have hm : 0 < m := by
    rcases Nat.eq_zero_or_pos m with e | e
    · rw [e, Nat.mul_zero] at h; omega
    · exact e
  exact ⟨Nat.div_lt_of_lt_mul (by rw [Nat.mul_comm]; exact h), Nat.mod_lt _ hm⟩
theorem pair_ok {A B : RA} (a : A.Ok) (b : B.Ok) (f : Bool → Bool → Bool) : (pairA A B f).Ok :=
  ⟨Nat.mul_pos a.pos b.pos, fun s c hs hc => by
    obtain ⟨h1, h2⟩ := pair_div hs
    exact pair_lt (a.nx _ _ h1 hc) (b.nx _ _ h2 hc)⟩
theorem pair_go {A B : RA} (a : A.Ok) (b : B.Ok) (f : Bool → Bool → Bool) : ∀ (l : List UInt8) (i k : Nat), i < A.n → k < B.n → (pairA A B f).go (i * B.n + k) l = A.go i l * B.n + B.go k l
  | [], i, k, _, _ => rfl
  | c :: l, i, k, hi, hk => by
    obtain ⟨h1, h2⟩ := pair_at (i := i) hk
    rw [RA.go, RA.go, RA.go]
    show (pairA A B f).go (A.nx ((i * B.n + k) / B.n) c.toNat * B.n + B.nx ((i * B.n + k) % B.n) c.toNat) l = _
    rw [h1, h2]
    exact pair_go a b f l _ _ (a.nx _ _ hi (u8_lt c)) (b.nx _ _ hk (u8_lt c))
theorem pair_tak {A B : RA} (a : A.Ok) (b : B.Ok) (f : Bool → Bool → Bool) (l : List UInt8) : (pairA A B f).tak 0 l = f (A.tak 0 l) (B.tak 0 l) := by
  have h := pair_go a b f l 0 0 a.pos b.pos
  rw [Nat.zero_mul] at h
  unfold RA.tak
  rw [h]
  obtain ⟨h1, h2⟩ := pair_at (i := A.go 0 l) (b.go l 0 b.pos)
  show f (A.en ((A.go 0 l * B.n + B.go 0 l) / B.n)) (B.en ((A.go 0 l * B.n + B.go 0 l) % B.n)) = _
  rw [h1, h2]
section
variable {α β : Type} [DecidableEq α] [DecidableEq β]
end
end Go.Proofs.Ytkkdpafkafjfgaa
