/- A checked evaluator of the model's code, part G. -/
import Derived.Test.YtfaaemggaliojaaDoorFE
import Derived.Lib.Bytealg
import Derived.Lib.Strings
import Derived.Lib.Walk
import Derived.Shelf.Strings.Search1
set_option linter.all false
section
/-! Contracts of the library's functions on two texts, out of a call's law. -/
namespace Go.Rs
variable {P : Program}
theorem fr_refl {γ : Nat → Nat} {w : World} (h : ∀ b, w.heap.size ≤ b → γ b = 0) : Fr [] γ w γ w := ⟨rfl, rfl, rfl, Nat.le_refl _, fun _ _ _ => ⟨rfl, rfl⟩, h, by simp⟩
theorem ia_str {γ : Nat → Nat} {w : World} {S x s} (h : IA γ w S x (.str s)) : S = [] ∧ x = .string ⟨s.toArray⟩ := by
  cases h with
  | val h => cases h with
    | cell h => cases h with
      | per h _ => cases h; exact ⟨rfl, rfl⟩
def cmpF : List AV → QR
  | [.str a, .str b] => some (none, .int .i64 (Go.Lib.compareBytes a b))
  | _ => none
theorem snd_cmp {f : Nat} (h : ∀ a b w, Calls P f #[.string a, .string b] w fun e w' => e = .returned (.int .i64 (Go.Lib.compareBytes a.data.toList b.data.toList)) ∧ w' = w) : Snd P f (pureC cmpF) := by
  intro args K hK w γ S xs hi hn hf ht hs
  unfold pureC cmpF at hK
  split at hK
  case h_2 => exact hK.elim
  rename_i O v hq
  split at hq
  case h_2 => cases hq
  rename_i a b
  cases hq
  cases hi with
  | cons h1 h2 =>
    cases h2 with
    | cons h2 h3 =>
      cases h3
      obtain ⟨rfl, rfl⟩ := ia_str h1
      obtain ⟨rfl, rfl⟩ := ia_str h2
      refine Calls.mono (h _ _ _) ?_
      rintro e w' ⟨rfl, rfl⟩
      exact ⟨_, [], _, γ, [], [], hK.2, rfl, .one (.cell (.per (.int _ _) rfl)), .nil, by simp, fr_refl hf, by simp⟩
end Go.Rs
end
