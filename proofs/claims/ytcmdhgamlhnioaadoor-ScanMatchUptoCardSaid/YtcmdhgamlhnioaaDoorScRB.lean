/- The document's Try, at every right pattern: it does what the form tells. -/
import Derived.Test.YtcmdhgamlhnioaaDoorScRC
import Derived.Test.YtcmdhgamlhnioaaDoorScRO
import Derived.Test.YtcmdhgamlhnioaaDoorScRU
import Derived.Test.YtcmdhgamlhnioaaDoorScRE
namespace Go.Proofs.YtcmdhgamlhnioaaDoor
open Go.RowKit Tr
set_option linter.unusedVariables false
theorem many_ok {n lo hi : Nat} (h : manyErr n lo hi = 0) : lo ≤ n ∧ n ≤ hi := by
  unfold manyErr at h
  split at h
  · exact absurd h (by decide)
  · omega
section
variable {γ : Type} {E : Go.Proofs.YtcmdhgamlhnioaaDoor.Env} {O : OutP γ}
theorem Try_any (hO : OutOk E O) {R : List Rule} (hf : E.fuel ≤ 100000) (hL : E.S.size ≤ 65536) (hV : E.V ≤ 5000) (hRA : RulesAt E.w0 E.rv R) (hRe : ∀ r ∈ R, errW r.2 = 0) : ∀ n, TrySpec E O R n
  | 0 => fun w M s p kv a gv h d g lb K hs hp he hg ha ht hn hw hd hsd hK => by
    have hnt : ¬ s.ticks < E.fuel := by omega
    rw [den, runK, if_neg hnt]
    exact Try_out hO p kv a gv g lb hs hp.hk hnt
  | n + 1 => fun w M s p kv a gv h d g lb K hs hp he hg ha ht hn hw hd hsd hK => by
    have hT := Try_any hO hf hL hV hRA hRe n
    by_cases hlt : s.ticks < E.fuel
    · rw [den, runK, if_pos hlt]
      obtain ⟨hne, hke⟩ := errW_node he
      have hn' : E.fuel ≤ s.ticks + 1 + n := by omega
      unfold node
      dsimp only
      by_cases k7 : p.kind = 7
      · rw [if_pos k7]
        exact Try_breakx hO p kv a gv h d g lb K hs k7 hlt hf hL hp.ht hg ha hw hd hsd hK
      rw [if_neg k7]
      by_cases k13 : p.kind = 13
      · rw [if_pos k13]
        exact Try_arb hO p kv a gv h d g lb K hs k13 hlt hf hL hg ha hw hd hsd hK
      rw [if_neg k13]
      by_cases k14 : p.kind = 14
      · rw [if_pos k14]
        exact Try_bal hO p kv a gv h d g lb K hs k14 hlt hf hL hg ha hw hd hsd hK
      rw [if_neg k14]
      by_cases k15 : p.kind = 15
      · rw [if_pos k15]
        exact Try_fail hO p kv a gv g lb hs k15 hlt hf
      rw [if_neg k15]
      by_cases k16 : p.kind = 16
      · rw [if_pos k16]
        exact Try_fence hO p kv a gv h d g lb K hs k16 hlt hf hg ha hw hd hsd hK
      rw [if_neg k16]
      by_cases k17 : p.kind = 17
      · rw [if_pos k17]
        exact Try_abort hO p kv a gv g lb hs k17 hlt hf
      rw [if_neg k17]
      by_cases k18 : p.kind = 18
      · rw [if_pos k18]
        exact Try_cat hO p kv a gv h d g lb K hs k18 hlt hf (each_any hO hT hf hL p.kids) hp hke hn' hg ha hw hd hsd hK
      rw [if_neg k18]
      by_cases k19 : p.kind = 19
      · rw [if_pos k19]
        have h2 : 2 ≤ p.kids.length := by
          have : manyErr p.kids.length 2 4096 = 0 := by
            unfold nodeErr at hne
            rwa [if_neg (by omega), if_neg (by omega), if_neg (by omega), if_neg (by omega), if_pos (by omega)] at hne
          exact (many_ok this).1
        have e : p.kid 0 :: p.kids.drop 1 = p.kids := by
          rw [Pat.kid_eq]
          cases hk : p.kids with
          | nil => rw [hk] at h2; simp at h2
          | cons x l => rfl
        rw [e]
        exact Try_alt hO p kv a gv h d g lb K hs k19 hlt hf hT hp hke (by omega) hn' hg ha hw hd hsd hK
      rw [if_neg k19]
      by_cases k20 : p.kind = 20
      · rw [if_pos k20]
        have h1 : p.kids.length = 1 := by
          have : manyErr p.kids.length 1 1 = 0 := by
            unfold nodeErr at hne
            rwa [if_neg (by omega), if_neg (by omega), if_neg (by omega), if_neg (by omega), if_neg (by omega), if_pos (by omega)] at hne
          have := many_ok this; omega
        exact Try_arbno hO p kv a gv h d g lb K hs k20 hlt hf (fun q => again_any hO hT hf hL q (n + 1)) hp (errW_kid he (by omega)) h1 hn' (by omega) hg ha hw hd hsd hK
      rw [if_neg k20]
      by_cases k21 : p.kind = 21
      · rw [if_pos k21]
        have h1 : p.kids.length = 1 := by
          unfold nodeErr at hne
          rw [if_neg (by omega), if_neg (by omega), if_neg (by omega), if_neg (by omega), if_neg (by omega), if_neg (by omega), if_pos (by omega)] at hne
          split at hne
          · exact absurd hne (by decide)
          · have := many_ok hne; omega
        rw [runK_bind]
        rw [show (fun e h => runK E.fuel (one e (h ++ [(p.name, E.S.extract a e)])) K) = fun e h s => K e (h ++ [(p.name, E.S.extract a e)]) s from by funext e h s; exact runK_one _ _ _ _]
        exact Try_cond hO p kv a gv h d g lb K hs k21 hlt hf hL hT hp (errW_kid he (by omega)) h1 hn' hg ha hw hd hsd hK
      rw [if_neg k21]
      by_cases k22 : p.kind = 22
      · rw [if_pos k22]
        have h1 : p.kids.length = 1 := by
          unfold nodeErr at hne
          rw [if_neg (by omega), if_neg (by omega), if_neg (by omega), if_neg (by omega), if_neg (by omega), if_neg (by omega), if_pos (by omega)] at hne
          split at hne
          · exact absurd hne (by decide)
          · have := many_ok hne; omega
        rw [runK_bind]
        rw [show (fun e h => runK E.fuel (say (p.name, E.S.extract a e) (one e h)) K) = fun e h s => K e h { s with said := s.said ++ [(p.name, E.S.extract a e)] } from by funext e h s; rw [runK, runK_one]]
        exact Try_imm hO p kv a gv h d g lb K hs k22 hlt hf hL hV hT hp (errW_kid he (by omega)) h1 hn' hg ha hw hd hsd hK
      rw [if_neg k22]
      by_cases k23 : p.kind = 23
      · rw [if_pos k23, runK, runK_one]
        exact Try_cursor hO p kv a gv h d g lb K hs k23 hlt hf hL hV hg ha hw hd hsd hK
      rw [if_neg k23]
      by_cases k24 : p.kind = 24
      · rw [if_pos k24]
        exact Try_call hO p kv a gv h d g lb K hs k24 hlt hf hT hp hRA hRe hn' hg ha hw hd hsd hK
      rw [if_neg k24]
      have hr : ¬ (p.kind < 1 ∨ 24 < p.kind) := fun hk => by
        unfold nodeErr at hne
        rw [if_pos hk] at hne
        exact absurd hne (by decide)
      refine Try_leaf hO p kv a gv h d g lb K hs ?_ hp.ht (fun hk => ?_) hlt hf hL hg ha hw hd hsd hK
      · simp only [List.mem_cons, List.not_mem_nil, or_false]
        omega
      · simp only [List.mem_cons, List.not_mem_nil, or_false] at hk
        unfold nodeErr at hne
        rw [if_neg hr, if_neg (by omega), if_neg (by omega), if_pos (by omega)] at hne
        split at hne
        · exact absurd hne (by decide)
        · omega
    · rw [den, runK, if_neg hlt]
      exact Try_out hO p kv a gv g lb hs hp.hk hlt
end
end Go.Proofs.YtcmdhgamlhnioaaDoor
