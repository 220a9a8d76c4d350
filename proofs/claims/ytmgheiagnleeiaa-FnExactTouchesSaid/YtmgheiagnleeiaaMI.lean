import Derived.Test.YtmgheiagnleeiaaMH
import Derived.Lib.AtoiAllCases
set_option linter.all false
section
/-! The texts of nodes, read: texts and numbers. -/
namespace Go.Rs
-- numbers
end Go.Rs
end
section
/-! The texts of nodes, read: nodes. -/
namespace Go.Rs
-- the other way
-- by places
section
variable {f : Bs → Option (Nd × Bs)} {k : Int} {c : UInt8} {ns n : List Bs} {ks : List Nd} {x : Nd} {s s1 s2 s3 : Bs}
end
end Go.Rs
end
section
/-! The texts of nodes, read as the reference reads them. -/
namespace Go.Rs
-- numbers
def digC (c : UInt8) : Prop := 48 ≤ c.toNat ∧ c.toNat ≤ 57
instance (c : UInt8) : Decidable (digC c) := inferInstanceAs (Decidable (_ ∧ _))
-- nodes
-- both
-- by places
section
variable {f : Bs → Option (Nd × Bs)} {k : Int} {c : UInt8} {ns n : List Bs} {ks : List Nd} {x : Nd} {s s1 s2 s3 : Bs}
end
end Go.Rs
end
section
/-! Three nodes merged. -/
namespace Go.Rs
-- ascending lists of names
def ascS (l : List Bs) : Prop := l.Pairwise fun x y => ltS x y = true
theorem ascS_ext : ∀ {l m : List Bs}, ascS l → ascS m → (∀ x, x ∈ l ↔ x ∈ m) → l = m
  | [], [], _, _, _ => rfl
  | [], y :: m, _, _, h => by have := (h y).2 (by simp); simp at this
  | x :: l, [], _, _, h => by have := (h x).1 (by simp); simp at this
  | x :: l, y :: m, hl, hm, h => by
    obtain ⟨hl1, hl2⟩ := List.pairwise_cons.1 hl
    obtain ⟨hm1, hm2⟩ := List.pairwise_cons.1 hm
    have e : x = y := by
      rcases List.mem_cons.1 ((h x).1 (by simp)) with e | hx
      · exact e
      · rcases List.mem_cons.1 ((h y).2 (by simp)) with e | hy
        · exact e.symm
        · have h1 := hm1 x hx
          have h2 := hl1 y hy
          rw [ltS_asymm h1] at h2; cases h2
    subst e
    rw [ascS_ext hl2 hm2 fun z => ?_]
    have hz := h z
    simp only [List.mem_cons] at hz
    constructor
    · intro hzl
      rcases hz.1 (.inr hzl) with e | h2
      · subst e; have := hl1 z hzl; rw [ltS_irrefl] at this; cases this
      · exact h2
    · intro hzl
      rcases hz.2 (.inr hzl) with e | h2
      · subst e; have := hm1 z hzl; rw [ltS_irrefl] at this; cases this
      · exact h2
theorem union_mem : ∀ {a b : List Bs} {x : Bs}, x ∈ unionM a b ↔ x ∈ a ∨ x ∈ b := by
  intro a b x
  fun_induction unionM a b with
  | case1 b => simp
  | case2 y r => simp
  | case3 y r z s h ih => simp only [List.mem_cons, ih]; grind
  | case4 y r z s h h2 ih => simp only [List.mem_cons, ih]; grind
  | case5 y r z s h h2 ih =>
    have e : y = z := ltS_tri (by simpa using h) (by simpa using h2)
    simp only [List.mem_cons, ih]; grind
theorem union_asc : ∀ {a b : List Bs}, ascS a → ascS b → ascS (unionM a b) := by
  intro a b
  fun_induction unionM a b with
  | case1 b => exact fun _ h => h
  | case2 y r => exact fun h _ => h
  | case3 y r z s h ih =>
    intro ha hb
    obtain ⟨ha1, ha2⟩ := List.pairwise_cons.1 ha
    obtain ⟨hb1, hb2⟩ := List.pairwise_cons.1 hb
    refine List.pairwise_cons.2 ⟨fun w hw => ?_, ih ha2 hb⟩
    rcases union_mem.1 hw with hw | hw
    · exact ha1 w hw
    · rcases List.mem_cons.1 hw with rfl | hw
      · exact h
      · exact ltS_trans h (hb1 w hw)
  | case4 y r z s h h2 ih =>
    intro ha hb
    obtain ⟨ha1, ha2⟩ := List.pairwise_cons.1 ha
    obtain ⟨hb1, hb2⟩ := List.pairwise_cons.1 hb
    refine List.pairwise_cons.2 ⟨fun w hw => ?_, ih ha hb2⟩
    rcases union_mem.1 hw with hw | hw
    · rcases List.mem_cons.1 hw with rfl | hw
      · exact h2
      · exact ltS_trans h2 (ha1 w hw)
    · exact hb1 w hw
  | case5 y r z s h h2 ih =>
    intro ha hb
    obtain ⟨ha1, ha2⟩ := List.pairwise_cons.1 ha
    obtain ⟨hb1, hb2⟩ := List.pairwise_cons.1 hb
    have e : y = z := ltS_tri (by simpa using h) (by simpa using h2)
    refine List.pairwise_cons.2 ⟨fun w hw => ?_, ih ha2 hb2⟩
    rcases union_mem.1 hw with hw | hw
    · exact ha1 w hw
    · rw [e]; exact hb1 w hw
end Go.Rs
end
section
/-! Three nodes merged: facts. -/
namespace Go.Rs
end Go.Rs
end
