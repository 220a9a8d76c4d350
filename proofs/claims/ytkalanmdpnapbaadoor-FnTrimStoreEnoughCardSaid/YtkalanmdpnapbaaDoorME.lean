import Derived.Test.YtkalanmdpnapbaaDoorMD
set_option linter.all false
section
/-! Plain models: maps as nodes; a name put in or taken out by the reference's steps; merged nodes' rows. -/
namespace Go.Rs
end Go.Rs
end
section
/-! Plain laws: merged nodes' names. -/
namespace Go.Rs
theorem okN_areNames {n : Nd} (h : okN n) (hk : n.kind = 4) : areNamesM n.names = true := by
  have := okN_parts h
  simp only [partsM] at this
  grind
theorem okN_txt {n : Nd} (h : okN n) (hk : n.kind = 4) {i : Nat} (hi : i < n.names.length) : txtM (n.names.getD i []) = true := by
  have h2 := okN_areNames h hk
  simp only [areNamesM, Bool.and_eq_true, decide_eq_true_eq] at h2
  have := (namesM_iff _).1 h2.2 i hi
  unfold nameOk at this
  simp only [Bool.and_eq_true] at this
  exact this.1
end Go.Rs
end
section
/-! Plain models: the patch that leads from a node to a plain one. -/
namespace Go.Rs
end Go.Rs
end
section
/-! Plain laws: patches lead from node to node. -/
namespace Go.Rs
theorem look_name {l : List It} {b : Bs} {x : It} (h : lookI l b = some x) : x.name = b ∧ x ∈ l := by
  unfold lookI at h
  have h1 := List.find?_some h
  have h2 := List.mem_of_find?_eq_some h
  exact ⟨of_decide_eq_true h1, h2⟩
theorem look_mem {l : List It} (h : ascI l) {x : It} (hx : x ∈ l) : lookI l x.name = some x := by
  induction l with
  | nil => simp at hx
  | cons y l ih =>
    have h' := List.pairwise_cons.1 h
    rw [lookI_cons]
    rcases List.mem_cons.1 hx with rfl | hx
    · rw [if_pos rfl]
    · rw [if_neg (ltS_ne (h'.1 x hx)), ih h'.2 hx]
end Go.Rs
end
section
/-! Plain models: the reference's steps towards the patch. -/
namespace Go.Rs
end Go.Rs
end
