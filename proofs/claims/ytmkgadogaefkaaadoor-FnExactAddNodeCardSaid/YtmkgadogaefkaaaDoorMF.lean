import Derived.Test.YtmkgadogaefkaaaDoorME
set_option linter.all false
section
/-! Plain models: what a function makes of the node at a pointer. -/
namespace Go.Rs
def chgM (f : Nd → Option Nd) : Nd → List Bs → Option Nd
  | n, [] => f n
  | n, s :: p => if placeM n s < 0 then none else (chgM f (n.kids.getD (placeM n s).toNat default) p).map (withKidM n (placeM n s).toNat)
theorem chgM_eq (f : Nd → Option Nd) : ∀ (p : List Bs) (n : Nd), chgM f n p = match findM n p with
    | none => none
    | some m => match f m with
      | none => none
      | some x => setAtM n p x
  | [], n => by
    rw [chgM, findM]
    simp only
    cases f n <;> rfl
  | s :: p, n => by
    rw [chgM, findM]
    by_cases h : placeM n s < 0
    · rw [if_pos h, if_pos h]
    · rw [if_neg h, if_neg h, chgM_eq f p]
      cases h1 : findM (n.kids.getD (placeM n s).toNat default) p with
      | none => rfl
      | some m =>
        simp only
        cases h2 : f m with
        | none => rfl
        | some x => simp only [setAtM, if_neg h]
theorem chgM_at {f : Nd → Option Nd} {n : Nd} {p : List Bs} (h : 0 < p.length) : chgM f n p = if placeM n (p.getD 0 []) < 0 then none else (chgM f (n.kids.getD (placeM n (p.getD 0 [])).toNat default) (p.drop 1)).map (withKidM n (placeM n (p.getD 0 [])).toNat) := by
  cases p with
  | nil => simp at h
  | cons s p => rfl
theorem add_chg {n v : Nd} {p : List Bs} (h : p ≠ []) : addAtM n p v = chgM (fun m => addHereM m (lastD p) v) n (p.take (p.length - 1)) := by
  unfold addAtM
  rw [if_neg h, chgM_eq]
  cases findM n (p.take (p.length - 1)) with
  | none => rfl
  | some m => simp only; cases addHereM m (lastD p) v <;> rfl
theorem checked_if (r : Option Nd) : checkedM r = if r.isSome && validM (r.getD default) then some (r.getD default) else none := by
  cases r with
  | none => rfl
  | some m => cases h : validM m <;> simp [checkedM, h]
theorem add_map {n : Nd} (hn : okN n) (hk : n.kind = 4) (b : Bs) (x : Nd) : addHereM n b x = some (ndOf (putL (baseI n) ⟨b, 0, x⟩)) := by
  have hb := base_facts hn
  have := add_ndOf hb.1 hb.2.1 b x
  rwa [base_nd hn hk] at this
theorem add_list {n : Nd} (hk : n.kind = 3) (b : Bs) (x : Nd) : addHereM n b x = if 0 ≤ placeM n b then some ⟨3, 0, [], [], insM n.kids (placeM n b).toNat x⟩ else if b = [45] ∨ b = decM n.kids.length then some ⟨3, 0, [], [], insM n.kids n.kids.length x⟩ else none := by
  unfold addHereM slotM
  by_cases h : 0 ≤ placeM n b
  · simp only [if_pos h, hk]
    rw [if_neg (by omega)]
    simp
  · simp only [if_neg h, hk]
    by_cases h2 : b = [45] ∨ b = decM n.kids.length
    · simp only [h2, true_and, if_true]
      rw [if_neg (by omega)]
      simp
    · simp [h2]
theorem add_leaf {n : Nd} (h3 : n.kind ≠ 3) (h4 : n.kind ≠ 4) (b : Bs) (x : Nd) : addHereM n b x = none := by
  have h1 : placeM n b < 0 := by
    have := placeM_ge n b
    refine Int.not_le.1 fun h => ?_
    have := hitM_iff.1 (this.2.2 h)
    omega
  have e : slotM n b = (-1, false) := by
    unfold slotM
    rw [if_neg (by omega), if_neg fun h => h3 h.1, if_neg h4]
  unfold addHereM
  rw [e]; rfl
end Go.Rs
end
section
/-! Plain laws: nodes with another node at a pointer, nodes without one. -/
namespace Go.Rs
-- lists
-- valid nodes
-- the laws
end Go.Rs
end
section
/-! Plain models: the texts of nodes. -/
namespace Go.Rs
-- lengths
end Go.Rs
end
section
/-! Plain laws: a node's text tells the node; sizes of stores. -/
namespace Go.Rs
-- sizes
end Go.Rs
end
section
/-! Plain models: stores trimmed. -/
namespace Go.Rs
end Go.Rs
end
