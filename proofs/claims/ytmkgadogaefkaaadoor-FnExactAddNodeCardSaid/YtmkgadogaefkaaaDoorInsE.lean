import Derived.Test.YtmkgadogaefkaaaDoorInsD
set_option linter.all false
set_option linter.unusedSimpArgs false
set_option linter.unusedVariables false
namespace Go.Rs
open Go.Proofs Go.RowKit Go.Lib
def insX (xs ys X : List Value) (i n : Nat) : Prop := ∀ k j, k < n + 1 → j < 7 → X[k * 7 + j]? = if k < i then xs[k * 7 + j]? else if k = i then ys[j]? else xs[(k - 1) * 7 + j]?
theorem insX.get {xs ys X : List Value} {i n : Nat} (h : insX xs ys X i n) : ∀ k j, k < n + 1 → j < 7 → X.getD (k * 7 + j) undef = if k < i then xs.getD (k * 7 + j) undef else if k = i then ys.getD j undef else xs.getD ((k - 1) * 7 + j) undef := by
  intro k j hk hj
  simp only [List.getD_eq_getElem?_getD]
  rw [h k j hk hj]
  split
  · rfl
  · split <;> rfl
theorem y7 {ys : List Value} (h : 7 ≤ ys.length) : (ys.take 7).length = 7 := by simp; omega
theorem splice7 {xs ys : List Value} {o : Nat} (hy : 7 ≤ ys.length) (h : o + 7 ≤ xs.length) (m : Nat) : (xs.take o ++ ys.take 7 ++ xs.drop (o + 7))[m]? = if o ≤ m ∧ m < o + 7 then ys[m - o]? else xs[m]? := by
  have := splice_get xs (ys.take 7) o (by rw [y7 hy]; exact h) m
  rw [y7 hy] at this
  rw [this]
  split
  · rw [List.getElem?_take_of_lt (by omega)]
  · rfl
theorem spliceRow {xs zs : List Value} {i n o : Nat} (hz : n * 7 ≤ zs.length) (hi : i ≤ n) (h : o + (n - i) * 7 ≤ xs.length) (m : Nat) :
    (xs.take o ++ (zs.drop (i * 7)).take ((n - i) * 7) ++ xs.drop (o + (n - i) * 7))[m]? = if o ≤ m ∧ m < o + (n - i) * 7 then zs[i * 7 + (m - o)]? else xs[m]? := by
  have hcl : ((zs.drop (i * 7)).take ((n - i) * 7)).length = (n - i) * 7 := by simp; omega
  have := splice_get xs ((zs.drop (i * 7)).take ((n - i) * 7)) o (by rw [hcl]; exact h) m
  rw [hcl] at this
  rw [this]
  split
  · rw [List.getElem?_take_of_lt (by omega), List.getElem?_drop]
  · rfl
theorem insX_shift {xs ys X1 X2 : List Value} {i n c : Nat} (hi : i < n) (hc : n + 1 ≤ c) (hx : xs.length = c * 7) (hy : 7 ≤ ys.length)
    (h1 : X1 = xs.take ((i + 1) * 7) ++ (xs.drop (i * 7)).take ((n - i) * 7) ++ xs.drop ((i + 1) * 7 + (n - i) * 7)) (h2 : X2 = X1.take (i * 7) ++ ys.take 7 ++ X1.drop (i * 7 + 7)) :
    X2.length = c * 7 ∧ insX xs ys X2 i n := by
  have hl1 : X1.length = c * 7 := by rw [h1]; simp only [List.length_append, List.length_take, List.length_drop]; omega
  refine ⟨by rw [h2]; simp only [List.length_append, List.length_take, List.length_drop]; omega, fun k j hk hj => ?_⟩
  rw [h2, splice7 hy (by omega)]
  by_cases e : k = i
  · subst e
    rw [if_pos (by omega), if_neg (by omega), if_pos rfl]
    congr 1; omega
  · rw [if_neg (by omega), h1, spliceRow (by omega) (by omega) (by omega)]
    by_cases hk2 : k < i
    · rw [if_neg (by omega), if_pos hk2]
    · rw [if_pos (by omega), if_neg hk2, if_neg e]
      congr 1; omega
theorem insX_grow {xs ys R X1 X2 Z : List Value} {i n c G : Nat} (hi : i < n) (hc : n ≤ c) (hG : n + 1 ≤ G) (hx : xs.length = c * 7) (hy : 7 ≤ ys.length) (hR : R = xs.take (i * 7) ++ Z) (hRl : R.length = G * 7)
    (h1 : X1 = R.take (i * 7) ++ ys.take 7 ++ R.drop (i * 7 + 7)) (h2 : X2 = X1.take ((i + 1) * 7) ++ (xs.drop (i * 7)).take ((n - i) * 7) ++ X1.drop ((i + 1) * 7 + (n - i) * 7)) :
    X2.length = G * 7 ∧ insX xs ys X2 i n := by
  have hl1 : X1.length = G * 7 := by rw [h1]; simp only [List.length_append, List.length_take, List.length_drop]; omega
  refine ⟨by rw [h2]; simp only [List.length_append, List.length_take, List.length_drop]; omega, fun k j hk hj => ?_⟩
  rw [h2, spliceRow (by omega) (by omega) (by omega)]
  by_cases hk2 : i < k
  · rw [if_pos (by omega), if_neg (by omega), if_neg (by omega)]
    congr 1; omega
  · rw [if_neg (by omega), h1, splice7 hy (by omega)]
    by_cases e : k = i
    · subst e
      rw [if_pos (by omega), if_neg (by omega), if_pos rfl]
      congr 1; omega
    · rw [if_neg (by omega), if_pos (by omega), hR, List.getElem?_append_left (by simp; omega), List.getElem?_take_of_lt (by omega)]
theorem insX_end {xs ys X : List Value} {n c : Nat} (hc : n + 1 ≤ c) (hx : xs.length = c * 7) (hy : 7 ≤ ys.length) (h : X = xs.take (n * 7) ++ ys.take 7 ++ xs.drop (n * 7 + 7)) : X.length = c * 7 ∧ insX xs ys X n n := by
  refine ⟨by rw [h]; simp only [List.length_append, List.length_take, List.length_drop]; omega, fun k j hk hj => ?_⟩
  rw [h, splice7 hy (by omega)]
  by_cases e : k = n
  · subst e
    rw [if_pos (by omega), if_neg (by omega), if_pos rfl]
    congr 1; omega
  · rw [if_neg (by omega), if_pos (by omega)]
theorem insX_more {xs ys olds X Z : List Value} {n : Nat} (ho : olds.length = n * 7) (hx : ∀ m, m < n * 7 → olds[m]? = xs[m]?) (hy : 7 ≤ ys.length) (h : X = olds ++ ys.take 7 ++ Z) : insX xs ys X n n := by
  intro k j hk hj
  rw [h, List.append_assoc]
  by_cases e : k = n
  · subst e
    rw [List.getElem?_append_right (by omega), ho, List.getElem?_append_left (by rw [y7 hy]; omega), List.getElem?_take_of_lt (by omega), if_neg (by omega), if_pos rfl]
    congr 1; omega
  · rw [List.getElem?_append_left (by omega), hx _ (by omega), if_pos (by omega)]
end Go.Rs

