import Derived.Test.YtmgheiagnleeiaaMB
set_option linter.all false
section
/-! Plain models: news and feeds. -/
namespace Go.Rs
theorem ltS_total {a b : Bs} (h : ltS a b = false) (hne : a ≠ b) : ltS b a = true := by
  cases h2 : ltS b a with
  | true => rfl
  | false => exact absurd (ltS_tri h h2) hne
end Go.Rs
end
section
/-! Plain models: the order of nodes, names searched, nodes at pointers. -/
namespace Go.Rs
def pathM (p : List Bs) : Bool := decide (p.length ≤ 5) && p.all txtM
theorem allB_iff (l : List Bs) (p : Bs → Bool) : l.all p = true ↔ ∀ j, j < l.length → p (l.getD j []) = true := by
  rw [List.all_eq_true]
  exact ⟨fun h j hj => h _ (getD_mem hj), fun h x hx => by obtain ⟨j, hj, rfl⟩ := List.mem_iff_getElem.1 hx; rw [← getD_get hj []]; exact h j hj⟩
theorem allB_no {s : List Bs} {p : Bs → Bool} {j : Nat} (hj : j < s.length) (h : p (s.getD j []) = false) : s.all p = false := by
  rw [Bool.eq_false_iff]; intro e; rw [(allB_iff s p).1 e j hj] at h; cases h
end Go.Rs
end
section
/-! Plain models: parts of valid nodes are valid; filters and stores. -/
namespace Go.Rs
end Go.Rs
end
section
/-! Plain models: documents selected. -/
namespace Go.Rs
end Go.Rs
end
section
/-! Plain models: nodes with another node at a pointer, and without one. -/
namespace Go.Rs
end Go.Rs
end
