import Derived.Test.YtmgheiagnleeiaaDoorMD
set_option linter.all false
section
/-! Plain models: maps as nodes; a name put in or taken out by the reference's steps; merged nodes' rows. -/
namespace Go.Rs
end Go.Rs
end
section
/-! Plain laws: merged nodes' names. -/
namespace Go.Rs
theorem okN_areNames {n : Nd} (h : okN n) (hk : n.kind = 4) : areNamesM n.names = true := by
  have := okN_parts h
  simp only [partsM] at this
  grind
theorem okN_txt {n : Nd} (h : okN n) (hk : n.kind = 4) {i : Nat} (hi : i < n.names.length) : txtM (n.names.getD i []) = true := by
  have h2 := okN_areNames h hk
  simp only [areNamesM, Bool.and_eq_true, decide_eq_true_eq] at h2
  have := (namesM_iff _).1 h2.2 i hi
  unfold nameOk at this
  simp only [Bool.and_eq_true] at this
  exact this.1
end Go.Rs
end
section
/-! Plain models: the patch that leads from a node to a plain one. -/
namespace Go.Rs
end Go.Rs
end
section
/-! Plain laws: patches lead from node to node. -/
namespace Go.Rs
end Go.Rs
end
section
/-! Plain models: the reference's steps towards the patch. -/
namespace Go.Rs
end Go.Rs
end
