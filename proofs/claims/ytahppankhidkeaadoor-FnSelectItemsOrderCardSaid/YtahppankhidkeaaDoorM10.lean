import Derived.Test.YtahppankhidkeaaDoorM9
set_option linter.all false
section
/-! Stores handed over. -/
namespace Go.Rs
def stO (s : Sto) : List AV := [.own .item s.items, .int .i64 s.clock]
def optSO (r : Option Sto) : AV := .tup [.st (stO (r.getD ⟨[], 0⟩)), .bool r.isSome]
theorem dropItemM_ok {s t : Sto} {b : Bs} (h : dropItemM s b = some t) : storeM t = true :=
  (applyM_ok (c := ⟨b, true, default⟩) (by unfold applyM; rw [if_pos rfl]; exact h)).2.1
theorem putItemM_ok {s t : Sto} {b : Bs} {n : Nd} (h : putItemM s b n = some t) : storeM t = true :=
  (applyM_ok (c := ⟨b, false, n⟩) (by unfold applyM; rw [if_neg (by simp)]; exact h)).2.1
theorem sto_small {r : Option Sto} (h : ∀ t, r = some t → storeM t = true) : (r.getD ⟨[], 0⟩).items.length ≤ 10 ∧ 0 ≤ (r.getD ⟨[], 0⟩).clock ∧ (r.getD ⟨[], 0⟩).clock ≤ 999 := by
  cases r with
  | none => simp
  | some t => have := storeM_clock (h t rfl); exact ⟨this.2.2, this.1, this.2.1⟩
end Go.Rs
end
