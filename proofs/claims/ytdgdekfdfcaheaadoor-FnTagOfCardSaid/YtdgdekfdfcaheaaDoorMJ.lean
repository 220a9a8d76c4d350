import Derived.Test.YtdgdekfdfcaheaaDoorMI
import Derived.Lib.SlicesCompact
import Derived.Lib.Bytealg
set_option linter.all false
section
/-! Sorted texts without repetitions; three nodes merged: the names' union. -/
namespace Go.Rs
open Go.Lib
end Go.Rs
end
section
/-! Tags: sums of texts in hexadecimal digits; a valid node's text is short enough for the reader. -/
namespace Go.Rs
theorem lead_len1 {n : Nd} (h : okN n) {i : Nat} (hi : i < n.kids.length) : (leadM n.kind n.names i).length + (if i = 0 then 1 else 0) ≤ 28 := by
  unfold leadM
  have h1 : (if 0 < i then ([44] : Bs) else []).length + (if i = 0 then 1 else 0) ≤ 1 := by
    by_cases h0 : i = 0
    · subst h0; simp
    · rw [if_neg h0]; split <;> simp
  have h2 : (if n.kind = 4 then quoteM (n.names.getD i []) ++ [58] else []).length ≤ 27 := by
    split
    · rename_i hk
      have h3 := okN_name_len h (j := i) (by rw [(okN_names h).2.1 hk]; exact hi)
      have := quote_len (n.names.getD i [])
      simp only [List.length_append, List.length_singleton]; omega
    · simp
  rw [List.length_append]; omega
theorem fmt_len2 : ∀ (d : Nat) {n : Nd}, d ≤ 5 → shapeM d n = true → 6 * (fmtM n).length + 143 ≤ 299 * countM n
  | 0, n, _, h => by cases h
  | d + 1, n, hd, h => by
    have hn : okN n := ⟨d + 1, hd, h⟩
    have h0 := okN_kind hn
    have h6 := okN_kids hn
    have hk : ∀ i, i ≤ n.kids.length → 6 * (joinM n i).length + (if i = 0 then 0 else 6) ≤ 299 * sumN countM (n.kids.take i) + 25 * i := by
      intro i
      induction i with
      | zero => intro _; rw [joinM_zero]; simp
      | succ i ih =>
        intro hi
        rw [joinM_succ (by omega), sumN_take (by omega), if_neg (by omega)]
        have h1 := ih (by omega)
        have h2 := lead_len1 hn (i := i) (by omega)
        have h3 := fmt_len2 d (by omega) (shape_kid h (getD_mem (d := default) (show i < n.kids.length by omega)))
        simp only [List.length_append]
        by_cases hi0 : i = 0
        · rw [if_pos hi0] at h1 h2; omega
        · rw [if_neg hi0] at h1 h2; omega
    have h1 := hk n.kids.length (Nat.le_refl _)
    rw [List.take_length] at h1
    rw [countM_eq]
    by_cases e0 : n.kind = 0
    · rw [fmt_none e0]; simp; omega
    by_cases e1 : n.kind = 1
    · rw [fmt_num e1]
      have := okN_num hn
      have := numM_len this.1 this.2
      omega
    by_cases e2 : n.kind = 2
    · rw [fmt_text e2]
      have := okN_text hn
      have := quote_len n.text
      omega
    have hj : 6 * (joinM n n.kids.length).length + 12 + 143 ≤ 299 * (1 + sumN countM n.kids) := by
      by_cases hk0 : n.kids.length = 0
      · rw [if_pos hk0] at h1; omega
      · rw [if_neg hk0] at h1; omega
    by_cases e3 : n.kind = 3
    · rw [fmt_list e3]; simp; omega
    · rw [fmt_map (by omega)]; simp; omega
theorem valid_fmt {n : Nd} (h : validM n = true) : (fmtM n).length ≤ 2000 := by
  obtain ⟨d, hd, hs⟩ := validM_ok h
  have h1 := fmt_len2 d hd hs
  have h2 := (validM_iff.1 h).2
  omega
-- sums
def sumStep (h : Int) (c : UInt8) : Int := (131 * h + (c.toNat : Int)) % 65521
def sumM (b : Bs) : Int := b.foldl sumStep 17
def sumTo (b : Bs) (i : Nat) : Int := (b.take i).foldl sumStep 17
theorem sumTo_zero (b : Bs) : sumTo b 0 = 17 := by unfold sumTo; rw [List.take_zero]; rfl
theorem sumTo_succ {b : Bs} {i : Nat} (h : i < b.length) : sumTo b (i + 1) = (131 * sumTo b i + ((b.getD i 0).toNat : Int)) % 65521 := by
  unfold sumTo
  rw [← take_snoc 0 h, List.foldl_append]; rfl
theorem sumTo_all (b : Bs) : sumTo b b.length = sumM b := by unfold sumTo sumM; rw [List.take_length]
theorem sumTo_bound (b : Bs) (i : Nat) (hi : i ≤ b.length) : 0 ≤ sumTo b i ∧ sumTo b i < 65521 := by
  cases i with
  | zero => rw [sumTo_zero]; omega
  | succ i => rw [sumTo_succ (by omega)]; omega
theorem sumM_bound (b : Bs) : 0 ≤ sumM b ∧ sumM b < 65521 := by rw [← sumTo_all]; exact sumTo_bound b _ (Nat.le_refl _)
def hexDigits : Bs := [48, 49, 50, 51, 52, 53, 54, 55, 56, 57, 97, 98, 99, 100, 101, 102]
def hexC (k : Int) : UInt8 := hexDigits.getD k.toNat 0
def hexM (n : Int) : Bs := [hexC (n / 4096), hexC (n / 256 % 16), hexC (n / 16 % 16), hexC (n % 16)]
def tagM (n : Nd) : Bs := if validM n then hexM (sumM (fmtM n)) else []
def isHex (c : UInt8) : Bool := decide (0 ≤ Go.Lib.indexByte hexDigits c)
theorem hexC_is {k : Int} (h0 : 0 ≤ k) (h : k < 16) : isHex (hexC k) = true := by
  have h2 : ∀ j : Nat, j < 16 → isHex (hexC (j : Int)) = true := by decide
  have := h2 k.toNat (by omega)
  rwa [show ((k.toNat : Nat) : Int) = k by omega] at this
def isSumM (b : Bs) : Bool := decide (b.length = 4) && b.all isHex
theorem hex_isSum {n : Int} (h0 : 0 ≤ n) (h : n < 65536) : isSumM (hexM n) = true := by
  unfold isSumM hexM
  simp only [List.length_cons, List.length_nil, List.all_cons, List.all_nil, Bool.and_true, Bool.and_eq_true, decide_eq_true_eq]
  exact ⟨trivial, hexC_is (by omega) (by omega), hexC_is (by omega) (by omega), hexC_is (by omega) (by omega), hexC_is (by omega) (by omega)⟩
def tagOk (b : Bs) : Bool := decide (b = [42]) || isSumM b
def areTagsM (l : List Bs) : Bool := decide (l.length ≤ 4) && l.all tagOk
def namesTagM (l : List Bs) (b : Bs) : Bool := decide (b ∈ l) || decide ([42] ∈ l)
theorem tag_sum {n : Nd} (h : validM n = true) : isSumM (tagM n) = true := by
  unfold tagM
  rw [if_pos h]
  have := sumM_bound (fmtM n)
  exact hex_isSum this.1 (by omega)
def idxM : List Bs → Bs → Int
  | [], _ => -1
  | x :: l, b => if x = b then 0 else if idxM l b < 0 then -1 else idxM l b + 1
theorem idxM_pos (l : List Bs) (b : Bs) : decide (0 ≤ idxM l b) = decide (b ∈ l) := by
  induction l with
  | nil => simp [idxM]
  | cons x l ih =>
    unfold idxM
    by_cases h : x = b
    · simp [h]
    · rw [if_neg h]
      have h2 : (b ∈ x :: l) ↔ b ∈ l := by simp [Ne.symm h]
      simp only [h2]
      rw [← ih]
      split
      · simp; omega
      · simp; omega
theorem idxM_at {b : Bs} : ∀ {l : List Bs} {k : Nat}, k < l.length → (∀ j, j < k → l.getD j [] ≠ b) → l.getD k [] = b → idxM l b = k
  | [], k, h, _, _ => by simp at h
  | x :: l, 0, _, _, h => by unfold idxM; rw [if_pos (by simpa using h)]; rfl
  | x :: l, k + 1, h, hj, hk => by
    have h0 : x ≠ b := by have := hj 0 (by omega); simpa using this
    have h1 := idxM_at (l := l) (k := k) (by simpa using h) (fun j h => by have := hj (j + 1) (by omega); simpa using this) (by simpa using hk)
    unfold idxM
    rw [if_neg h0, h1, if_neg (by omega)]; rfl
theorem idxM_none {b : Bs} : ∀ {l : List Bs}, (∀ j, j < l.length → l.getD j [] ≠ b) → idxM l b = -1
  | [], _ => rfl
  | x :: l, hj => by
    have h0 : x ≠ b := by have := hj 0 (by simp); simpa using this
    have h1 := idxM_none (l := l) (fun j h => by have := hj (j + 1) (by simp; omega); simpa using this)
    unfold idxM
    rw [if_neg h0, h1, if_pos (by omega)]
def checkTagsM (l m : List Bs) (t : Bs) (f : Bool) : Int :=
  if !areTagsM l || !areTagsM m || (decide (t ≠ []) && !isSumM t) then 400
  else if decide (0 < l.length) && (decide (t = []) || !namesTagM l t) then 412
  else if decide (0 < m.length) && decide (t ≠ []) && namesTagM m t then (if f then 304 else 412)
  else 200
theorem check_one {t : Bs} (h : isSumM t = true) : checkTagsM [t] [] t true = 200 := by
  have ht : t ≠ [] := by rintro rfl; simp [isSumM] at h
  simp [checkTagsM, areTagsM, tagOk, h, ht, namesTagM]
end Go.Rs
end
section
/-! Operations of patches and requests: sizes, marks. -/
namespace Go.Rs
def smO (x : Opn) : Prop := x.path.length ≤ 2097152 ∧ x.frm.length ≤ 2097152 ∧ smN x.value
def smOs (l : List Opn) : Prop := l.length ≤ 2097152 ∧ ∀ x ∈ l, smO x
def smR (x : Req) : Prop := x.want.length ≤ 2097152 ∧ x.avoid.length ≤ 2097152 ∧ smN x.body ∧ smOs x.ops
def smRs (l : List Req) : Prop := l.length ≤ 2097152 ∧ ∀ x ∈ l, smR x
theorem smOs.kid {l : List Opn} (h : smOs l) {j : Nat} (hj : j < l.length) : smO (l.getD j default) := by
  rw [getD_get hj]; exact h.2 _ (List.getElem_mem hj)
theorem smRs.kid {l : List Req} (h : smRs l) {j : Nat} (hj : j < l.length) : smR (l.getD j default) := by
  rw [getD_get hj]; exact h.2 _ (List.getElem_mem hj)
-- validity
end Go.Rs
end
section
/-! The names that requests touch. -/
namespace Go.Rs
end Go.Rs
end
section
/-! The texts of tags, methods and requests. -/
namespace Go.Rs
end Go.Rs
end
