import Derived.Test.YtcmdkiolbhccgaaMD
set_option linter.all false
section
/-! Plain models: maps as nodes; a name put in or taken out by the reference's steps; merged nodes' rows. -/
namespace Go.Rs
end Go.Rs
end
section
/-! Plain laws: merged nodes' names. -/
namespace Go.Rs
end Go.Rs
end
section
/-! Plain models: the patch that leads from a node to a plain one. -/
namespace Go.Rs
end Go.Rs
end
section
/-! Plain laws: patches lead from node to node. -/
namespace Go.Rs
theorem look_name {l : List It} {b : Bs} {x : It} (h : lookI l b = some x) : x.name = b ∧ x ∈ l := by
  unfold lookI at h
  have h1 := List.find?_some h
  have h2 := List.mem_of_find?_eq_some h
  exact ⟨of_decide_eq_true h1, h2⟩
theorem look_mem {l : List It} (h : ascI l) {x : It} (hx : x ∈ l) : lookI l x.name = some x := by
  induction l with
  | nil => simp at hx
  | cons y l ih =>
    have h' := List.pairwise_cons.1 h
    rw [lookI_cons]
    rcases List.mem_cons.1 hx with rfl | hx
    · rw [if_pos rfl]
    · rw [if_neg (ltS_ne (h'.1 x hx)), ih h'.2 hx]
theorem look_ext : ∀ {l m : List It}, ascI l → ascI m → (∀ b, lookI l b = lookI m b) → l = m := by
  have key : ∀ {l m : List It}, ascI l → ascI m → (∀ x, x ∈ l ↔ x ∈ m) → l = m := by
    intro l
    induction l with
    | nil =>
      intro m _ _ h
      cases m with
      | nil => rfl
      | cons y m => have := (h y).2 (by simp); simp at this
    | cons x l ih =>
      intro m hl hm h
      cases m with
      | nil => have := (h x).1 (by simp); simp at this
      | cons y m =>
        have hl' := List.pairwise_cons.1 hl
        have hm' := List.pairwise_cons.1 hm
        have e : x = y := by
          rcases List.mem_cons.1 ((h x).1 (by simp)) with h1 | h1
          · exact h1
          · rcases List.mem_cons.1 ((h y).2 (by simp)) with h2 | h2
            · exact h2.symm
            · have := ltS_trans (hm'.1 _ h1) (hl'.1 _ h2)
              rw [ltS_irrefl] at this; cases this
        subst e
        rw [ih hl'.2 hm'.2 fun z => ?_]
        constructor
        · intro hz
          rcases List.mem_cons.1 ((h z).1 (by simp [hz])) with rfl | h1
          · have := hl'.1 _ hz; rw [ltS_irrefl] at this; cases this
          · exact h1
        · intro hz
          rcases List.mem_cons.1 ((h z).2 (by simp [hz])) with rfl | h1
          · have := hm'.1 _ hz; rw [ltS_irrefl] at this; cases this
          · exact h1
  intro l m hl hm h
  refine key hl hm fun x => ⟨fun hx => ?_, fun hx => ?_⟩
  · have := look_mem hl hx; rw [h] at this; exact (look_name this).2
  · have := look_mem hm hx; rw [← h] at this; exact (look_name this).2
end Go.Rs
end
section
/-! Plain models: the reference's steps towards the patch. -/
namespace Go.Rs
end Go.Rs
end
