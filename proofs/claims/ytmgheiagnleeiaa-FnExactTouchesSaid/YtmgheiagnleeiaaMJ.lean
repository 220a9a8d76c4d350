import Derived.Test.YtmgheiagnleeiaaMI
import Derived.Lib.SlicesCompact
import Derived.Lib.Bytealg
set_option linter.all false
section
/-! Sorted texts without repetitions; three nodes merged: the names' union. -/
namespace Go.Rs
open Go.Lib
theorem arr_get {l : List Bs} {j : Nat} (h : j < l.length) : l.toArray[j]! = l.getD j [] := by
  rw [getElem!_pos l.toArray j (by simpa using h)]
  simp [h]
theorem compact_mem {l : List Bs} {x : Bs} : x ∈ compact l ↔ x ∈ l := by
  unfold compact compactUpTo
  simp only [List.mem_map, List.mem_filter, List.mem_range]
  constructor
  · rintro ⟨j, ⟨hj, -⟩, rfl⟩
    rw [arr_get hj]; exact getD_mem hj
  · intro hx
    have key : ∀ j, j < l.length → l.getD j [] = x → ∃ i, (i < l.length ∧ keeps l.toArray i = true) ∧ l.toArray[i]! = x := by
      intro j
      induction j with
      | zero => intro hj e; exact ⟨0, ⟨hj, by simp [keeps]⟩, by rw [arr_get hj]; exact e⟩
      | succ j ih =>
        intro hj e
        by_cases h : l.getD j [] = x
        · exact ih (by omega) h
        · refine ⟨j + 1, ⟨hj, ?_⟩, by rw [arr_get hj]; exact e⟩
          unfold keeps
          refine decide_eq_true (.inr ?_)
          rw [arr_get hj, show j + 1 - 1 = j by omega, arr_get (show j < l.length by omega), e]
          exact fun h2 => h h2.symm
    obtain ⟨j, hj, rfl⟩ := List.getElem_of_mem hx
    exact key j hj (getD_get hj _)
theorem compact_asc {l : List Bs} (h : srt l l.length) : ascS (compact l) := by
  unfold compact compactUpTo ascS
  rw [List.pairwise_map]
  have h0 : (List.filter (keeps l.toArray) (List.range l.length)).Pairwise (· < ·) := List.Pairwise.filter _ List.pairwise_lt_range
  refine h0.imp_of_mem fun {i j} hi hj hij => ?_
  simp only [List.mem_filter, List.mem_range] at hi hj
  rw [arr_get hi.1, arr_get hj.1]
  have hk := hj.2
  unfold keeps at hk
  have hne := (of_decide_eq_true hk).resolve_left (by omega)
  rw [arr_get hj.1, arr_get (show j - 1 < l.length by omega)] at hne
  have h1 := h (j - 1) j (by omega) hj.1
  have h2 : ltS (l.getD (j - 1) []) (l.getD j []) = true := ltS_total h1 hne
  by_cases e : i = j - 1
  · rw [e]; exact h2
  · exact ltS_le_lt (h i (j - 1) (by omega) (by omega)) h2
theorem compact_len (l : List Bs) : (compact l).length ≤ l.length := by
  unfold compact compactUpTo
  rw [List.length_map]
  exact Nat.le_trans (List.length_filter_le _ _) (by simp)
end Go.Rs
end
section
/-! Tags: sums of texts in hexadecimal digits; a valid node's text is short enough for the reader. -/
namespace Go.Rs
-- sums
def hexDigits : Bs := [48, 49, 50, 51, 52, 53, 54, 55, 56, 57, 97, 98, 99, 100, 101, 102]
def isHex (c : UInt8) : Bool := decide (0 ≤ Go.Lib.indexByte hexDigits c)
def isSumM (b : Bs) : Bool := decide (b.length = 4) && b.all isHex
def tagOk (b : Bs) : Bool := decide (b = [42]) || isSumM b
def areTagsM (l : List Bs) : Bool := decide (l.length ≤ 4) && l.all tagOk
end Go.Rs
end
section
/-! Operations of patches and requests: sizes, marks. -/
namespace Go.Rs
def smO (x : Opn) : Prop := x.path.length ≤ 2097152 ∧ x.frm.length ≤ 2097152 ∧ smN x.value
def smOs (l : List Opn) : Prop := l.length ≤ 2097152 ∧ ∀ x ∈ l, smO x
def bdO (x : Opn) : Prop := (∀ s ∈ x.path, s.length ≤ 140737488355328) ∧ (∀ s ∈ x.frm, s.length ≤ 140737488355328) ∧ bdN x.value
def totO (x : Opn) : Nat := 1 + x.path.length + x.frm.length + totN x.value
def totOs (l : List Opn) : Nat := (l.map fun x => 1 + x.path.length + x.frm.length + totN x.value).sum
def mkOs : List Opn → Int → List Opn
  | [], _ => []
  | x :: r, k => ⟨k, mkS x.path (k + 1), mkS x.frm (k + 1 + x.path.length), mkN x.value (k + 1 + x.path.length + x.frm.length)⟩ :: mkOs r (k + 1 + x.path.length + x.frm.length + totN x.value)
def smR (x : Req) : Prop := x.want.length ≤ 2097152 ∧ x.avoid.length ≤ 2097152 ∧ smN x.body ∧ smOs x.ops
def smRs (l : List Req) : Prop := l.length ≤ 2097152 ∧ ∀ x ∈ l, smR x
def bdR (x : Req) : Prop := (∀ s ∈ x.want, s.length ≤ 140737488355328) ∧ (∀ s ∈ x.avoid, s.length ≤ 140737488355328) ∧ bdN x.body ∧ ∀ o ∈ x.ops, bdO o
def totR (x : Req) : Nat := 2 + x.want.length + x.avoid.length + totN x.body + totOs x.ops
def totRs (l : List Req) : Nat := (l.map fun x => 2 + x.want.length + x.avoid.length + totN x.body + totOs x.ops).sum
def mkRs : List Req → Int → List Req
  | [], _ => []
  | x :: r, k => ⟨k, mkT (k + 1), mkS x.want (k + 2), mkS x.avoid (k + 2 + x.want.length), mkN x.body (k + 2 + x.want.length + x.avoid.length), mkOs x.ops (k + 2 + x.want.length + x.avoid.length + totN x.body)⟩ :: mkRs r (k + 2 + x.want.length + x.avoid.length + totN x.body + totOs x.ops)
theorem totOs_take {l : List Opn} {i : Nat} (h : i < l.length) : totOs (l.take (i + 1)) = totOs (l.take i) + totO (l.getD i default) := by
  rw [take_at h default]; simp [totOs, totO]
theorem totRs_take {l : List Req} {i : Nat} (h : i < l.length) : totRs (l.take (i + 1)) = totRs (l.take i) + totR (l.getD i default) := by
  rw [take_at h default]; simp [totRs, totR]
theorem smOs_of {l : List Opn} (h1 : l.length ≤ 2097152) (h : ∀ j, j < l.length → smO (l.getD j default)) : smOs l := by
  refine ⟨h1, fun x hx => ?_⟩
  obtain ⟨j, hj, rfl⟩ := List.getElem_of_mem hx
  have := h j hj
  rwa [getD_get hj] at this
theorem smOs.kid {l : List Opn} (h : smOs l) {j : Nat} (hj : j < l.length) : smO (l.getD j default) := by
  rw [getD_get hj]; exact h.2 _ (List.getElem_mem hj)
theorem smRs_of {l : List Req} (h1 : l.length ≤ 2097152) (h : ∀ j, j < l.length → smR (l.getD j default)) : smRs l := by
  refine ⟨h1, fun x hx => ?_⟩
  obtain ⟨j, hj, rfl⟩ := List.getElem_of_mem hx
  have := h j hj
  rwa [getD_get hj] at this
theorem smRs.kid {l : List Req} (h : smRs l) {j : Nat} (hj : j < l.length) : smR (l.getD j default) := by
  rw [getD_get hj]; exact h.2 _ (List.getElem_mem hj)
theorem opn_ext {a b : Opn} (h1 : a.kind = b.kind) (h2 : a.path = b.path) (h3 : a.frm = b.frm) (h4 : a.value = b.value) : a = b := by
  cases a; cases b; simp at *; exact ⟨h1, h2, h3, h4⟩
theorem req_ext {a b : Req} (h1 : a.method = b.method) (h2 : a.name = b.name) (h3 : a.want = b.want) (h4 : a.avoid = b.avoid) (h5 : a.body = b.body) (h6 : a.ops = b.ops) : a = b := by
  cases a; cases b; simp at *; exact ⟨h1, h2, h3, h4, h5, h6⟩
-- validity
theorem isHex_iff (c : UInt8) : isHex c = true ↔ ((48 ≤ c.toNat ∧ c.toNat ≤ 57) ∨ (97 ≤ c.toNat ∧ c.toNat ≤ 102)) := by
  have h : ∀ n, n < 256 → isHex (UInt8.ofNat n) = (decide (48 ≤ n ∧ n ≤ 57) || decide (97 ≤ n ∧ n ≤ 102)) := by decide +kernel
  have h2 := h c.toNat (UInt8.toNat_lt c)
  rw [UInt8.ofNat_toNat] at h2
  rw [h2]; simp
theorem all_listD {α : Type} (l : List α) (d : α) (p : α → Bool) : l.all p = true ↔ ∀ j, j < l.length → p (l.getD j d) = true := by
  rw [List.all_eq_true]
  constructor
  · intro h j hj; exact h _ (getD_mem hj)
  · intro h x hx
    obtain ⟨j, hj, rfl⟩ := List.getElem_of_mem hx
    have := h j hj
    rwa [getD_get hj] at this
theorem all_noD {α : Type} {l : List α} {d : α} {p : α → Bool} {j : Nat} (hj : j < l.length) (h : p (l.getD j d) = false) : l.all p = false := by
  rw [Bool.eq_false_iff]; intro h2; rw [(all_listD l d p).1 h2 j hj] at h; cases h
end Go.Rs
end
section
/-! The names that requests touch. -/
namespace Go.Rs
def tN (l : List Req) : List Bs := (l.filter fun x => !decide (x.method = 1)).map (·.name)
def tU (l : List Req) : List Bs := (tN l).foldl (fun a n => unionM a [n]) []
theorem tN_take {l : List Req} {i : Nat} (h : i < l.length) : tN (l.take (i + 1)) = tN (l.take i) ++ (if (l.getD i default).method = 1 then [] else [(l.getD i default).name]) := by
  unfold tN
  rw [take_at h default, List.filter_append, List.map_append]
  congr 1
  by_cases e : (l.getD i default).method = 1
  · rw [if_pos e, List.filter_cons_of_neg (by rw [e]; decide)]; rfl
  · rw [if_neg e, List.filter_cons_of_pos (by rw [decide_eq_false e]; rfl)]; rfl
theorem tU_take {l : List Req} {i : Nat} (h : i < l.length) : tU (l.take (i + 1)) = if (l.getD i default).method = 1 then tU (l.take i) else unionM (tU (l.take i)) [(l.getD i default).name] := by
  unfold tU
  rw [tN_take h, List.foldl_append]
  split <;> rfl
theorem tN_len (l : List Req) : (tN l).length ≤ l.length := by
  unfold tN; rw [List.length_map]; exact List.length_filter_le _ _
theorem fold_asc : ∀ (l a : List Bs), ascS a → ascS (l.foldl (fun a n => unionM a [n]) a) ∧ ∀ y, y ∈ l.foldl (fun a n => unionM a [n]) a ↔ y ∈ a ∨ y ∈ l
  | [], a, h => ⟨h, fun y => by simp⟩
  | n :: l, a, h => by
    have h2 := fold_asc l (unionM a [n]) (union_asc h (List.pairwise_singleton _ _))
    refine ⟨h2.1, fun y => ?_⟩
    rw [List.foldl_cons, h2.2, union_mem]
    simp [or_assoc]
theorem fold_len : ∀ (l a : List Bs), (l.foldl (fun a n => unionM a [n]) a).length ≤ a.length + l.length
  | [], a => by simp
  | n :: l, a => by
    have h1 := fold_len l (unionM a [n])
    have h2 := unionM_len a [n]
    simp only [List.foldl_cons, List.length_cons, List.length_nil] at *
    omega
theorem tU_len (l : List Req) : (tU l).length ≤ l.length := by
  have h1 := fold_len (tN l) []
  have h2 := tN_len l
  unfold tU
  simp only [List.length_nil] at h1
  omega
theorem tU_eq {l : List Req} {x r : List Bs} (hp : x.Perm (tN l)) (hr : ascS r) (hm : ∀ y, y ∈ r ↔ y ∈ x) : r = tU l := by
  have h := fold_asc (tN l) [] List.Pairwise.nil
  refine ascS_ext hr h.1 fun y => ?_
  have h2 := h.2 y
  rw [hm, hp.mem_iff]
  simp only [List.not_mem_nil, false_or] at h2
  exact h2.symm
end Go.Rs
end
section
/-! The texts of tags, methods and requests. -/
namespace Go.Rs
end Go.Rs
end
