import Derived.Test.YtfaaemggaliojaaDoorBase
import Derived.WalkKit
import Derived.Lib.Walk
import Derived.Lib.SliceRun
import Derived.Lib.JoinLaws
import Derived.Lib.AppendZeros
import Derived.Lib.Overlaps
import Derived.Laws.Externs
import Derived.Laws.IdiomCopy
import Derived.Shelf.RegionOpenPlain
set_option linter.all false
set_option linter.unusedSimpArgs false
set_option linter.unusedVariables false
namespace Go.Rs
open Go.Proofs Go.RowKit Go.Lib
theorem row_cell {w : World} {b T : Nat} {xs : List Value} (hb : w.heap[b]? = some (.cells xs.toArray T (0, 0))) (o : Nat) : w.cell? ⟨b, o, none⟩ = xs[o]? := by
  simp [World.cell?, hb]
theorem row_at {w : World} {b T : Nat} {xs : List Value} (hb : w.heap[b]? = some (.cells xs.toArray T (0, 0))) (o j : Nat) : w.cell? ((⟨b, o, none⟩ : Addr).add j) = xs[o + j]? := by
  rw [Addr.add_mid]; exact row_cell hb _
def insX (xs ys X : List Value) (i n : Nat) : Prop := ∀ k j, k < n + 1 → j < 7 → X[k * 7 + j]? = if k < i then xs[k * 7 + j]? else if k = i then ys[j]? else xs[(k - 1) * 7 + j]?
theorem insX.get {xs ys X : List Value} {i n : Nat} (h : insX xs ys X i n) : ∀ k j, k < n + 1 → j < 7 → X.getD (k * 7 + j) undef = if k < i then xs.getD (k * 7 + j) undef else if k = i then ys.getD j undef else xs.getD ((k - 1) * 7 + j) undef := by
  intro k j hk hj
  simp only [List.getD_eq_getElem?_getD]
  rw [h k j hk hj]
  split
  · rfl
  · split <;> rfl
theorem spliceRow {xs zs : List Value} {i n o : Nat} (hz : n * 7 ≤ zs.length) (hi : i ≤ n) (h : o + (n - i) * 7 ≤ xs.length) (m : Nat) :
    (xs.take o ++ (zs.drop (i * 7)).take ((n - i) * 7) ++ xs.drop (o + (n - i) * 7))[m]? = if o ≤ m ∧ m < o + (n - i) * 7 then zs[i * 7 + (m - o)]? else xs[m]? := by
  have hcl : ((zs.drop (i * 7)).take ((n - i) * 7)).length = (n - i) * 7 := by simp; omega
  have := splice_get xs ((zs.drop (i * 7)).take ((n - i) * 7)) o (by rw [hcl]; exact h) m
  rw [hcl] at this
  rw [this]
  split
  · rw [List.getElem?_take_of_lt (by omega), List.getElem?_drop]
  · rfl
theorem keeps_of {w w' : World} {γ : Nat → Nat} {S : List Nat} (hb : ∀ b, b < w.heap.size → b ∉ S → w'.heap[b]? = w.heap[b]?) (hS : ∀ b ∈ S, γ b = 0) (hf : ∀ b, w.heap.size ≤ b → γ b = 0) : Keeps γ w γ w' := by
  refine ⟨fun _ => Nat.le_refl _, fun b o ho => ?_⟩
  have h1 : b ∉ S := fun h => by rw [hS b h] at ho; omega
  have h2 : b < w.heap.size := by
    rcases Nat.lt_or_ge b w.heap.size with h | h
    · exact h
    · rw [hf b h] at ho; omega
  unfold World.cell?
  rw [hb b h2 h1]
theorem one_app {a b c : List Value} (h1 : ∀ x ∈ a, x.oneCell' = true) (h2 : ∀ x ∈ b, x.oneCell' = true) (h3 : ∀ x ∈ c, x.oneCell' = true) : ∀ x ∈ a ++ b ++ c, x.oneCell' = true := by
  intro x hx
  simp only [List.mem_append] at hx
  rcases hx with (h | h) | h
  · exact h1 x h
  · exact h2 x h
  · exact h3 x h
theorem one_take {a : List Value} (h : ∀ x ∈ a, x.oneCell' = true) (n : Nat) : ∀ x ∈ a.take n, x.oneCell' = true := fun x hx => h x (List.mem_of_mem_take hx)
theorem one_drop {a : List Value} (h : ∀ x ∈ a, x.oneCell' = true) (n : Nat) : ∀ x ∈ a.drop n, x.oneCell' = true := fun x hx => h x (List.mem_of_mem_drop hx)
end Go.Rs

