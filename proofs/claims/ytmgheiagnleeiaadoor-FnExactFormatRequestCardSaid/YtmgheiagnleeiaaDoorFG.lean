/- A checked evaluator of the model's code, part G. -/
import Derived.Test.YtmgheiagnleeiaaDoorFE
import Derived.Lib.Bytealg
import Derived.Lib.Strings
import Derived.Lib.Walk
import Derived.Shelf.Strings.Search1
set_option linter.all false
section
/-! Contracts of the library's functions on two texts, out of a call's law. -/
namespace Go.Rs
variable {P : Program}
theorem fr_refl {γ : Nat → Nat} {w : World} (h : ∀ b, w.heap.size ≤ b → γ b = 0) : Fr [] γ w γ w := ⟨rfl, rfl, rfl, Nat.le_refl _, fun _ _ _ => ⟨rfl, rfl⟩, h, by simp⟩
theorem ia_str {γ : Nat → Nat} {w : World} {S x s} (h : IA γ w S x (.str s)) : S = [] ∧ x = .string ⟨s.toArray⟩ := by
  cases h with
  | val h => cases h with
    | cell h => cases h with
      | per h _ => cases h; exact ⟨rfl, rfl⟩
end Go.Rs
end
