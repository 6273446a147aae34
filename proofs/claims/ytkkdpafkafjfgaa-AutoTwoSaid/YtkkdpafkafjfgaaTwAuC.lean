/- One step of an automaton; how many texts it takes: the program's Count. -/
import Derived.Test.YtkkdpafkafjfgaaTwPAuA
namespace Go.Proofs.Ytkkdpafkafjfgaa
open Go.RowKit
set_option linter.unusedVariables false
structure Held (w : World) (b : Nat) (A : Aut) (na : Option Addr) (nc : Nat) (ea : Option Addr) (ec : Nat) : Prop where
  box : Box w b A na nc ea ec
  rows : AutAt w A na ea
theorem Held.kept {w w' : World} {b : Nat} {A : Aut} {na : Option Addr} {nc : Nat} {ea : Option Addr} {ec : Nat} (h : Held w b A na nc ea ec) (g : Grew w w') : Held w' b A na nc ea ec := ⟨h.box.kept g, h.rows.kept g⟩
set_option maxRecDepth 100000 in
theorem Step_any (A : Aut) (na ea : Option Addr) (nc ec : Nat) (b s c : Nat) (w : World) (h : Held w b A na nc ea ec) (hr : RightA A) (hs : s < A.next.length) (hc : c < 256) : Calls Try.prog 23 #[.pointer (some ⟨b, 0, none⟩), .int .i64 s, .int .u8 c] w fun e w' => e = .returned (.int .i64 (stepA A s c)) ∧ Grew w w' := by
  obtain ⟨n, hn⟩ : ∃ n, A.next.length = n := ⟨_, rfl⟩
  obtain ⟨ra, rc, h1, h2⟩ := h.rows.next
  obtain ⟨nb, no, rfl, hcx⟩ := h1.get hr.n0
  have c0 := hcx s hs
  have hsr := h2 s hs
  have k1 := hr.cl h.rows.c256 hc
  have k2 := hr.to h.rows.c256 hs hc
  obtain ⟨kn, hk⟩ : ∃ kn : Nat, A.cls.getD c 0 = (kn : Int) := ⟨(A.cls.getD c 0).toNat, by omega⟩
  have cc := h.box.cl.at0 c hc
  have cx := h.box.nx
  rw [hk] at cc k2
  rw [Int.toNat_natCast] at k2
  obtain ⟨rb, ro, hra, hrc⟩ := hsr.get (by omega)
  rw [hra] at c0
  have ct := hrc kn k2.1
  obtain ⟨m, hm⟩ : ∃ m : Nat, (A.next.getD s []).getD kn 0 = (m : Int) := ⟨((A.next.getD s []).getD kn 0).toNat, by omega⟩
  rw [hm] at ct
  have HT2 : Hid (stepA A s c = m) := by unfold stepA; rw [hk, Int.toNat_natCast, hm, Int.toNat_natCast]; rfl
  have hkl := k2.1
  rw [hn] at cx hs
  have hcl : (c : Int) < 256 := by omega
  have h9 : n ≤ 8192 := by have := hr.n1; omega
  generalize A.next.getD s [] = r at c0 hkl
  clear hk hm hra hrc hsr h2 h1 hcx k1 k2 hr h hn
  go_enter Try.func23, Try.ntmps23
  go_wp2_with fail
  have hk0 : w.drew.cell? ⟨b, 256, none⟩ = some (.slice (some ⟨nb, no, none⟩) n nc) ∧ w.drew.cell? ⟨nb, no + s, none⟩ = some (.slice (some ⟨rb, ro, none⟩) r.length (rc s)) ∧ w.drew.cell? ⟨b, c, none⟩ = some (.int .i64 kn) ∧ w.drew.cell? ⟨rb, ro + kn, none⟩ = some (.int .i64 m) := ⟨cx, c0, cc, ct⟩
  clear cx c0 cc ct
  go_region_held3 (fun g => g.cell? ⟨b, 256, none⟩ = some (.slice (some ⟨nb, no, none⟩) n nc) ∧ g.cell? ⟨nb, no + s, none⟩ = some (.slice (some ⟨rb, ro, none⟩) r.length (rc s)) ∧ g.cell? ⟨b, c, none⟩ = some (.int .i64 kn) ∧ g.cell? ⟨rb, ro + kn, none⟩ = some (.int .i64 m)) (with_reducible exact hk0) (fail)
  go_wp2_with fail
  go_ret
  rw [HT2.out]
  exact ⟨rfl, (Grew.refl w).drew⟩
end Go.Proofs.Ytkkdpafkafjfgaa
