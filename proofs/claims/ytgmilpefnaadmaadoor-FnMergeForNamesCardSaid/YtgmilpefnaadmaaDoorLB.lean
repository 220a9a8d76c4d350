import Derived.Test.YtgmilpefnaadmaaDoorCL
import Derived.Test.YtgmilpefnaadmaaDoorCG
import Derived.Test.YtgmilpefnaadmaaDoorMB
import Derived.Test.YtgmilpefnaadmaaDoorDelB
set_option linter.all false
namespace Go.Rs
open Go.Proofs
set_option maxRecDepth 100000
set_option linter.unusedVariables false
set_option linter.unusedSimpArgs false
theorem eqD_refl {α : Type} (a : α) : eqD a a = true := eqD_iff.2 rfl
theorem stoAt_some {l : List Chg} {v : Int} (h : (stoAtM l v).isSome = true) : (logM l).isSome = true ∧ 0 ≤ v ∧ v ≤ l.length ∧ stoAtM l v = replayM (l.take v.toNat) := by
  unfold stoAtM at h ⊢
  split at h
  · rename_i h1; rw [if_pos h1]; exact ⟨h1.1, h1.2.1, h1.2.2, rfl⟩
  · cases h
theorem stoAt_all {l : List Chg} {v : Int} (h : (logM l).isSome = true) (h0 : 0 ≤ v) (h1 : v ≤ l.length) : stoAtM l v = replayM (l.take v.toNat) ∧ (replayM (l.take v.toNat)).isSome = true := by
  refine ⟨by unfold stoAtM; rw [if_pos ⟨h, h0, h1⟩], replay_take_isSome ?_⟩
  unfold logM at h
  split at h
  · exact h
  · cases h
theorem sto_at {l : List Chg} {v : Int} (h : (stoAtM l v).isSome = true) : ∃ s, stoAtM l v = some s ∧ storeM s = true ∧ s.clock = v := by
  obtain ⟨h1, h2, h3, h4⟩ := stoAt_some h
  obtain ⟨s, hs⟩ := Option.isSome_iff_exists.1 h
  have h5 := replayM_ok (h4.symm.trans hs)
  exact ⟨s, hs, h5.1, by rw [h5.2, List.length_take]; omega⟩
theorem sto_next {l : List Chg} {v : Int} {s : Sto} (h : stoAtM l v = some s) (hl : v < l.length) : applyCM s (l.getD v.toNat default) = stoAtM l (v + 1) ∧ (stoAtM l (v + 1)).isSome = true := by
  have hi : (stoAtM l v).isSome = true := by rw [h]; rfl
  obtain ⟨h1, h2, h3, h4⟩ := stoAt_some hi
  obtain ⟨s', e, hs, -⟩ := sto_at hi
  rw [h] at e
  cases e
  obtain ⟨h5, h6⟩ := stoAt_all (v := v + 1) h1 (by omega) (by omega)
  have e : (v + 1).toNat = v.toNat + 1 := by omega
  refine ⟨?_, by rw [h5]; exact h6⟩
  rw [h5, e, replayM_take (by omega), ← h4, h, applyCM_step hs]
theorem hist_facts {l : List Chg} {b : Bs} (hlog : (logM l).isSome = true) : (∀ i, i < (histV l b).length → 1 ≤ (histV l b).getD i 0 ∧ (histV l b).getD i 0 ≤ l.length ∧ (l.getD ((histV l b).getD i 0 - 1).toNat default).name = b) ∧
    (∀ i, 0 < i → i < (histV l b).length → (histV l b).getD (i - 1) 0 < (histV l b).getD i 0) ∧ (histV l b).length ≤ 20 := by
  have hV : histV l b = histM l b 0 := by simp [histV, hlog]
  rw [hV]
  refine ⟨fun i h => by have := histM_mem (getD_mem (d := 0) h); simpa using this, fun i h0 h => pair_lt (histM_asc l 0 (b := b)) h0 h, ?_⟩
  have := histM_len l b l.length
  rw [List.take_length] at this
  exact Nat.le_trans this (log_len hlog)
theorem hist_rng (l : List Chg) (b : Bs) (i : Nat) : 0 ≤ (histV l b).getD i 0 ∧ (histV l b).getD i 0 ≤ l.length := by
  by_cases h : i < (histV l b).length
  · have hlog : (logM l).isSome = true := by
      cases hh : (logM l).isSome with
      | true => rfl
      | false => simp [histV, hh] at h
    have := (hist_facts hlog).1 i h
    omega
  · rw [List.getD_eq_getElem?_getD, List.getElem?_eq_none (by omega)]; simp
end Go.Rs

