import Derived.Test.YtoailaifflbomaaMI
import Derived.Lib.SlicesCompact
import Derived.Lib.Bytealg
set_option linter.all false
section
/-! Sorted texts without repetitions; three nodes merged: the names' union. -/
namespace Go.Rs
open Go.Lib
theorem arr_get {l : List Bs} {j : Nat} (h : j < l.length) : l.toArray[j]! = l.getD j [] := by
  rw [getElem!_pos l.toArray j (by simpa using h)]
  simp [h]
theorem compact_mem {l : List Bs} {x : Bs} : x ∈ compact l ↔ x ∈ l := by
  unfold compact compactUpTo
  simp only [List.mem_map, List.mem_filter, List.mem_range]
  constructor
  · rintro ⟨j, ⟨hj, -⟩, rfl⟩
    rw [arr_get hj]; exact getD_mem hj
  · intro hx
    have key : ∀ j, j < l.length → l.getD j [] = x → ∃ i, (i < l.length ∧ keeps l.toArray i = true) ∧ l.toArray[i]! = x := by
      intro j
      induction j with
      | zero => intro hj e; exact ⟨0, ⟨hj, by simp [keeps]⟩, by rw [arr_get hj]; exact e⟩
      | succ j ih =>
        intro hj e
        by_cases h : l.getD j [] = x
        · exact ih (by omega) h
        · refine ⟨j + 1, ⟨hj, ?_⟩, by rw [arr_get hj]; exact e⟩
          unfold keeps
          refine decide_eq_true (.inr ?_)
          rw [arr_get hj, show j + 1 - 1 = j by omega, arr_get (show j < l.length by omega), e]
          exact fun h2 => h h2.symm
    obtain ⟨j, hj, rfl⟩ := List.getElem_of_mem hx
    exact key j hj (getD_get hj _)
theorem compact_asc {l : List Bs} (h : srt l l.length) : ascS (compact l) := by
  unfold compact compactUpTo ascS
  rw [List.pairwise_map]
  have h0 : (List.filter (keeps l.toArray) (List.range l.length)).Pairwise (· < ·) := List.Pairwise.filter _ List.pairwise_lt_range
  refine h0.imp_of_mem fun {i j} hi hj hij => ?_
  simp only [List.mem_filter, List.mem_range] at hi hj
  rw [arr_get hi.1, arr_get hj.1]
  have hk := hj.2
  unfold keeps at hk
  have hne := (of_decide_eq_true hk).resolve_left (by omega)
  rw [arr_get hj.1, arr_get (show j - 1 < l.length by omega)] at hne
  have h1 := h (j - 1) j (by omega) hj.1
  have h2 : ltS (l.getD (j - 1) []) (l.getD j []) = true := ltS_total h1 hne
  by_cases e : i = j - 1
  · rw [e]; exact h2
  · exact ltS_le_lt (h i (j - 1) (by omega) (by omega)) h2
theorem compact_len (l : List Bs) : (compact l).length ≤ l.length := by
  unfold compact compactUpTo
  rw [List.length_map]
  exact Nat.le_trans (List.length_filter_le _ _) (by simp)
theorem names_union {a b r x : List Bs} (ha : ascS a) (hb : ascS b) (hp : x.Perm (a ++ b)) (hr : ascS r) (hm : ∀ y, y ∈ r ↔ y ∈ x) : r = unionM a b :=
  ascS_ext hr (union_asc ha hb) fun y => by rw [hm, hp.mem_iff, List.mem_append, union_mem]
end Go.Rs
end
section
/-! Tags: sums of texts in hexadecimal digits; a valid node's text is short enough for the reader. -/
namespace Go.Rs
-- sums
end Go.Rs
end
