import Derived.Test.YtmgheiagnleeiaaDoorMI
import Derived.Lib.SlicesCompact
import Derived.Lib.Bytealg
set_option linter.all false
section
/-! Sorted texts without repetitions; three nodes merged: the names' union. -/
namespace Go.Rs
open Go.Lib
end Go.Rs
end
section
/-! Tags: sums of texts in hexadecimal digits; a valid node's text is short enough for the reader. -/
namespace Go.Rs
theorem lead_len1 {n : Nd} (h : okN n) {i : Nat} (hi : i < n.kids.length) : (leadM n.kind n.names i).length + (if i = 0 then 1 else 0) ≤ 28 := by
  unfold leadM
  have h1 : (if 0 < i then ([44] : Bs) else []).length + (if i = 0 then 1 else 0) ≤ 1 := by
    by_cases h0 : i = 0
    · subst h0; simp
    · rw [if_neg h0]; split <;> simp
  have h2 : (if n.kind = 4 then quoteM (n.names.getD i []) ++ [58] else []).length ≤ 27 := by
    split
    · rename_i hk
      have h3 := okN_name_len h (j := i) (by rw [(okN_names h).2.1 hk]; exact hi)
      have := quote_len (n.names.getD i [])
      simp only [List.length_append, List.length_singleton]; omega
    · simp
  rw [List.length_append]; omega
theorem fmt_len2 : ∀ (d : Nat) {n : Nd}, d ≤ 5 → shapeM d n = true → 6 * (fmtM n).length + 143 ≤ 299 * countM n
  | 0, n, _, h => by cases h
  | d + 1, n, hd, h => by
    have hn : okN n := ⟨d + 1, hd, h⟩
    have h0 := okN_kind hn
    have h6 := okN_kids hn
    have hk : ∀ i, i ≤ n.kids.length → 6 * (joinM n i).length + (if i = 0 then 0 else 6) ≤ 299 * sumN countM (n.kids.take i) + 25 * i := by
      intro i
      induction i with
      | zero => intro _; rw [joinM_zero]; simp
      | succ i ih =>
        intro hi
        rw [joinM_succ (by omega), sumN_take (by omega), if_neg (by omega)]
        have h1 := ih (by omega)
        have h2 := lead_len1 hn (i := i) (by omega)
        have h3 := fmt_len2 d (by omega) (shape_kid h (getD_mem (d := default) (show i < n.kids.length by omega)))
        simp only [List.length_append]
        by_cases hi0 : i = 0
        · rw [if_pos hi0] at h1 h2; omega
        · rw [if_neg hi0] at h1 h2; omega
    have h1 := hk n.kids.length (Nat.le_refl _)
    rw [List.take_length] at h1
    rw [countM_eq]
    by_cases e0 : n.kind = 0
    · rw [fmt_none e0]; simp; omega
    by_cases e1 : n.kind = 1
    · rw [fmt_num e1]
      have := okN_num hn
      have := numM_len this.1 this.2
      omega
    by_cases e2 : n.kind = 2
    · rw [fmt_text e2]
      have := okN_text hn
      have := quote_len n.text
      omega
    have hj : 6 * (joinM n n.kids.length).length + 12 + 143 ≤ 299 * (1 + sumN countM n.kids) := by
      by_cases hk0 : n.kids.length = 0
      · rw [if_pos hk0] at h1; omega
      · rw [if_neg hk0] at h1; omega
    by_cases e3 : n.kind = 3
    · rw [fmt_list e3]; simp; omega
    · rw [fmt_map (by omega)]; simp; omega
theorem valid_fmt {n : Nd} (h : validM n = true) : (fmtM n).length ≤ 2000 := by
  obtain ⟨d, hd, hs⟩ := validM_ok h
  have h1 := fmt_len2 d hd hs
  have h2 := (validM_iff.1 h).2
  omega
-- sums
def hexDigits : Bs := [48, 49, 50, 51, 52, 53, 54, 55, 56, 57, 97, 98, 99, 100, 101, 102]
def isHex (c : UInt8) : Bool := decide (0 ≤ Go.Lib.indexByte hexDigits c)
def isSumM (b : Bs) : Bool := decide (b.length = 4) && b.all isHex
def tagOk (b : Bs) : Bool := decide (b = [42]) || isSumM b
def areTagsM (l : List Bs) : Bool := decide (l.length ≤ 4) && l.all tagOk
end Go.Rs
end
section
/-! Operations of patches and requests: sizes, marks. -/
namespace Go.Rs
def smO (x : Opn) : Prop := x.path.length ≤ 2097152 ∧ x.frm.length ≤ 2097152 ∧ smN x.value
def smOs (l : List Opn) : Prop := l.length ≤ 2097152 ∧ ∀ x ∈ l, smO x
def bdO (x : Opn) : Prop := (∀ s ∈ x.path, s.length ≤ 140737488355328) ∧ (∀ s ∈ x.frm, s.length ≤ 140737488355328) ∧ bdN x.value
def totO (x : Opn) : Nat := 1 + x.path.length + x.frm.length + totN x.value
def totOs (l : List Opn) : Nat := (l.map fun x => 1 + x.path.length + x.frm.length + totN x.value).sum
def smR (x : Req) : Prop := x.want.length ≤ 2097152 ∧ x.avoid.length ≤ 2097152 ∧ smN x.body ∧ smOs x.ops
def smRs (l : List Req) : Prop := l.length ≤ 2097152 ∧ ∀ x ∈ l, smR x
def bdR (x : Req) : Prop := (∀ s ∈ x.want, s.length ≤ 140737488355328) ∧ (∀ s ∈ x.avoid, s.length ≤ 140737488355328) ∧ bdN x.body ∧ ∀ o ∈ x.ops, bdO o
def totR (x : Req) : Nat := 2 + x.want.length + x.avoid.length + totN x.body + totOs x.ops
theorem totOs_take {l : List Opn} {i : Nat} (h : i < l.length) : totOs (l.take (i + 1)) = totOs (l.take i) + totO (l.getD i default) := by
  rw [take_at h default]; simp [totOs, totO]
theorem smOs_of {l : List Opn} (h1 : l.length ≤ 2097152) (h : ∀ j, j < l.length → smO (l.getD j default)) : smOs l := by
  refine ⟨h1, fun x hx => ?_⟩
  obtain ⟨j, hj, rfl⟩ := List.getElem_of_mem hx
  have := h j hj
  rwa [getD_get hj] at this
theorem smOs.kid {l : List Opn} (h : smOs l) {j : Nat} (hj : j < l.length) : smO (l.getD j default) := by
  rw [getD_get hj]; exact h.2 _ (List.getElem_mem hj)
theorem smRs.kid {l : List Req} (h : smRs l) {j : Nat} (hj : j < l.length) : smR (l.getD j default) := by
  rw [getD_get hj]; exact h.2 _ (List.getElem_mem hj)
theorem opn_ext {a b : Opn} (h1 : a.kind = b.kind) (h2 : a.path = b.path) (h3 : a.frm = b.frm) (h4 : a.value = b.value) : a = b := by
  cases a; cases b; simp at *; exact ⟨h1, h2, h3, h4⟩
theorem req_ext {a b : Req} (h1 : a.method = b.method) (h2 : a.name = b.name) (h3 : a.want = b.want) (h4 : a.avoid = b.avoid) (h5 : a.body = b.body) (h6 : a.ops = b.ops) : a = b := by
  cases a; cases b; simp at *; exact ⟨h1, h2, h3, h4, h5, h6⟩
-- validity
theorem isHex_iff (c : UInt8) : isHex c = true ↔ ((48 ≤ c.toNat ∧ c.toNat ≤ 57) ∨ (97 ≤ c.toNat ∧ c.toNat ≤ 102)) := by
  have h : ∀ n, n < 256 → isHex (UInt8.ofNat n) = (decide (48 ≤ n ∧ n ≤ 57) || decide (97 ≤ n ∧ n ≤ 102)) := by decide +kernel
  have h2 := h c.toNat (UInt8.toNat_lt c)
  rw [UInt8.ofNat_toNat] at h2
  rw [h2]; simp
theorem all_listD {α : Type} (l : List α) (d : α) (p : α → Bool) : l.all p = true ↔ ∀ j, j < l.length → p (l.getD j d) = true := by
  rw [List.all_eq_true]
  constructor
  · intro h j hj; exact h _ (getD_mem hj)
  · intro h x hx
    obtain ⟨j, hj, rfl⟩ := List.getElem_of_mem hx
    have := h j hj
    rwa [getD_get hj] at this
theorem all_noD {α : Type} {l : List α} {d : α} {p : α → Bool} {j : Nat} (hj : j < l.length) (h : p (l.getD j d) = false) : l.all p = false := by
  rw [Bool.eq_false_iff]; intro h2; rw [(all_listD l d p).1 h2 j hj] at h; cases h
end Go.Rs
end
section
/-! The names that requests touch. -/
namespace Go.Rs
def tN (l : List Req) : List Bs := (l.filter fun x => !decide (x.method = 1)).map (·.name)
end Go.Rs
end
section
/-! The texts of tags, methods and requests. -/
namespace Go.Rs
def methodB (k : Int) : Bs := if k = 1 then [103, 101, 116] else if k = 2 then [112, 117, 116] else if k = 3 then [100, 101, 108, 101, 116, 101] else if k = 4 then [112, 97, 116, 99, 104] else if k = 5 then [109, 101, 114, 103, 101] else []
theorem methodB_len (k : Int) : (methodB k).length ≤ 6 := by
  unfold methodB; repeat' split
  all_goals simp
theorem verbs_at {k : Int} (h1 : 1 ≤ k) (h2 : k ≤ 5) : ([[], [103, 101, 116], [112, 117, 116], [100, 101, 108, 101, 116, 101], [112, 97, 116, 99, 104], [109, 101, 114, 103, 101]] : List Bs).getD k.toNat [] = methodB k := by
  rcases (by omega : k = 1 ∨ k = 2 ∨ k = 3 ∨ k = 4 ∨ k = 5) with rfl | rfl | rfl | rfl | rfl <;> rfl
def tagW (b : Bs) : Bs := if b = [42] then [42] else 34 :: (b ++ [34])
def tagsTo (l : List Bs) : Nat → Bs
  | 0 => []
  | i + 1 => tagsTo l i ++ ((if 0 < i then [44] else []) ++ tagW (l.getD i []))
def tagsM (l : List Bs) : Bs := if areTagsM l then tagsTo l l.length else []
theorem sum_len {b : Bs} (h : isSumM b = true) : b.length = 4 := by
  unfold isSumM at h; rw [Bool.and_eq_true, decide_eq_true_eq] at h; exact h.1
theorem sum_esc {b : Bs} (h : isSumM b = true) : escsM b = b := by
  unfold isSumM at h; rw [Bool.and_eq_true] at h
  have h2 := h.2
  clear h
  induction b with
  | nil => rfl
  | cons c b ih =>
    rw [List.all_cons, Bool.and_eq_true] at h2
    have h3 := (isHex_iff c).1 h2.1
    have h4 := ih h2.2
    unfold escsM at h4 ⊢
    rw [List.flatMap_cons, h4, esc_no (by omega)]; rfl
theorem tag_two {l : List Bs} (h : areTagsM l = true) {i : Nat} (hi : i < l.length) : l.getD i [] = [42] ∨ (l.getD i [] ≠ [42] ∧ isSumM (l.getD i []) = true) := by
  unfold areTagsM at h
  rw [Bool.and_eq_true] at h
  have h2 := (all_listD l [] _).1 h.2 i hi
  unfold tagOk at h2
  by_cases e : l.getD i [] = [42]
  · exact .inl e
  · rw [decide_eq_false e, Bool.false_or] at h2
    exact .inr ⟨e, h2⟩
theorem tags_len {l : List Bs} (h : areTagsM l = true) : l.length ≤ 4 := by
  unfold areTagsM at h; rw [Bool.and_eq_true, decide_eq_true_eq] at h; exact h.1
theorem tagW_len {l : List Bs} (h : areTagsM l = true) {i : Nat} (hi : i < l.length) : (tagW (l.getD i [])).length ≤ 6 := by
  unfold tagW
  rcases tag_two h hi with h1 | ⟨h1, h2⟩
  · rw [if_pos h1]; simp
  · rw [if_neg h1]; have := sum_len h2; simp only [List.length_cons, List.length_append, List.length_nil]; omega
theorem tagsTo_len {l : List Bs} (h : areTagsM l = true) : ∀ i, i ≤ l.length → (tagsTo l i).length ≤ 7 * i
  | 0, _ => by simp [tagsTo]
  | i + 1, hi => by
    have h1 := tagsTo_len h i (by omega)
    have h2 := tagW_len h (i := i) (by omega)
    unfold tagsTo
    simp only [List.length_append]
    have : (if 0 < i then ([44] : Bs) else []).length ≤ 1 := by split <;> simp
    omega
theorem tagsM_len (l : List Bs) : (tagsM l).length ≤ 28 := by
  unfold tagsM
  split
  · rename_i h
    have h1 := tagsTo_len h l.length (Nat.le_refl _)
    have h2 := tags_len h
    omega
  · simp
theorem tagsTo_succ (l : List Bs) (i : Nat) : tagsTo l (i + 1) = tagsTo l i ++ ((if 0 < i then [44] else []) ++ tagW (l.getD i [])) := rfl
theorem tag_len {l : List Bs} (h : areTagsM l = true) {i : Nat} (hi : i < l.length) : (l.getD i []).length ≤ 4 := by
  rcases tag_two h hi with h1 | ⟨_, h2⟩
  · rw [h1]; simp
  · rw [sum_len h2]; omega
theorem tag_quote {l : List Bs} (h : areTagsM l = true) {i : Nat} (hi : i < l.length) (hne : l.getD i [] ≠ [42]) : quoteM (l.getD i []) = tagW (l.getD i []) := by
  rcases tag_two h hi with h1 | ⟨_, h2⟩
  · exact absurd h1 hne
  · unfold tagW quoteM; rw [if_neg hne, sum_esc h2]
end Go.Rs
end
