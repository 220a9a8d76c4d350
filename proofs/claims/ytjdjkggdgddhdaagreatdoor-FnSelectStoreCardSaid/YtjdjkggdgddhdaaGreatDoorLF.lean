import Derived.Test.YtjdjkggdgddhdaaGreatDoorCS
import Derived.Test.YtjdjkggdgddhdaaGreatDoorLE
set_option linter.all false
namespace Go.Rs
open Go.Proofs
set_option maxRecDepth 100000
set_option linter.unusedVariables false
set_option linter.unusedSimpArgs false
theorem selM_ok {s : Sto} {l : List Flt} (h : 0 < (namesI (selM s l).items).length) : selM s l = ⟨selL s l, s.clock⟩ := by
  unfold selM at h ⊢
  split
  · rfl
  · rename_i h1; rw [if_neg h1] at h; simp [namesI] at h
theorem sel_ten {s : Sto} {l : List Flt} (h : 0 < (namesI (selM s l).items).length) : s.items.length ≤ 10 := by
  unfold selM at h
  split at h
  · rename_i h1
    simp only [Bool.and_eq_true] at h1
    exact (storeM_clock h1.1).2.2
  · simp [namesI] at h
theorem sel_at {s : Sto} {l : List Flt} (h : 0 < (namesI (selM s l).items).length) {i : Nat} (hi : i < s.items.length) (hp : selP l (s.items.getD i default) = true) :
    ((s.items.take i).filter (selP l)).length < (namesI (selM s l).items).length ∧ (namesI (selM s l).items).getD ((s.items.take i).filter (selP l)).length [] = (s.items.getD i default).name := by
  rw [selM_ok h]
  obtain ⟨h1, h2⟩ := filter_at (selP l) default hi hp
  refine ⟨by simpa [namesI, selL] using h1, ?_⟩
  rw [namesI_get]; unfold selL; rw [h2]
theorem sel_all {s : Sto} {l : List Flt} (h : 0 < (namesI (selM s l).items).length) : ((s.items.take s.items.length).filter (selP l)).length = (namesI (selM s l).items).length := by
  rw [selM_ok h, List.take_length]; simp [namesI, selL]
theorem all_take {l : List Flt} (p : Flt → Bool) {k : Nat} (h : k < l.length) : (l.take (k + 1)).all p = ((l.take k).all p && p (l.getD k default)) := by
  rw [← take_snoc default h, List.all_append]; simp
end Go.Rs

