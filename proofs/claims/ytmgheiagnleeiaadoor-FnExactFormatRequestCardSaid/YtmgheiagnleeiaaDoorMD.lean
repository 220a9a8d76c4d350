import Derived.Test.YtmgheiagnleeiaaDoorMC
set_option linter.all false
section
/-! Plain models: how many operations lead from a node to another one. -/
namespace Go.Rs
end Go.Rs
end
section
/-! Plain laws: no operation leads from a node to an equal one; differences of maps are at least those of their names. -/
namespace Go.Rs
theorem okN_bare {n : Nd} (h : okN n) : (n.kind ≠ 1 → n.num = 0) ∧ (n.kind ≠ 2 → n.text = []) := by
  have := okN_parts h
  unfold partsM at this
  split at this
  · cases this
  · rename_i h1
    exact ⟨fun h => Classical.not_not.1 fun e => h1 (.inl ⟨h, e⟩), fun h => Classical.not_not.1 fun e => h1 (.inr (.inl ⟨h, e⟩))⟩
end Go.Rs
end
section
/-! Plain models: shapes. -/
namespace Go.Rs
end Go.Rs
end
section
/-! Plain models: maps as rows of documents; a name put in, a name taken out. -/
namespace Go.Rs
end Go.Rs
end
section
/-! Plain models: a node merged with a patch. -/
namespace Go.Rs
end Go.Rs
end
