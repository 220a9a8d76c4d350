import Derived.Test.YtfaaemggaliojaaDoorDelA
set_option linter.all false
set_option linter.unusedSimpArgs false
set_option linter.unusedVariables false
namespace Go.Rs
open Go.Proofs Go.RowKit Go.Lib
theorem delX {xs Z X1 X2 : List Value} {i n c : Nat} (hi : i < n) (hc : n ≤ c) (hx : xs.length = c * 7) (hZ : Z.length = 7)
    (h1 : X1 = xs.take (i * 7) ++ (xs.drop ((i + 1) * 7)).take ((n - (i + 1)) * 7) ++ xs.drop (i * 7 + (n - (i + 1)) * 7)) (h2 : X2 = X1.take ((n - 1) * 7) ++ Z ++ X1.drop ((n - 1) * 7 + 7)) :
    X2.length = c * 7 ∧ ∀ k j, k < n - 1 → j < 7 → X2[k * 7 + j]? = if k < i then xs[k * 7 + j]? else xs[(k + 1) * 7 + j]? := by
  have hl1 : X1.length = c * 7 := by rw [h1]; simp only [List.length_append, List.length_take, List.length_drop]; omega
  refine ⟨by rw [h2]; simp only [List.length_append, List.length_take, List.length_drop]; omega, fun k j hk hj => ?_⟩
  have hs := splice_get X1 Z ((n - 1) * 7) (by omega) (k * 7 + j)
  rw [hZ] at hs
  rw [h2, hs, if_neg (by omega), h1, spliceRow (by omega) (by omega) (by omega)]
  by_cases hk2 : k < i
  · rw [if_neg (by omega), if_pos hk2]
  · rw [if_pos (by omega), if_neg hk2]
    congr 1; omega
end Go.Rs

