import Derived.Test.YtahppankhidkeaaDoorM4
import Derived.Test.YtahppankhidkeaaDoorFG
set_option linter.all false
section
/-! Plain models: putting, dropping, changes, logs. -/
namespace Go.Rs
def putStep (it : It) (acc : List It × Bool) (x : It) : List It × Bool :=
  let a1 : List It × Bool := if !acc.2 && !ltS x.name it.name then (acc.1 ++ [it], true) else acc
  if x.name = it.name then a1 else (a1.1 ++ [x], a1.2)
def putF (it : It) (l : List It) : List It × Bool := l.foldl (putStep it) ([], false)
theorem putF_take {it : It} {l : List It} {i : Nat} (h : i < l.length) : putF it (l.take (i + 1)) = putStep it (putF it (l.take i)) (l.getD i default) := by
  unfold putF
  rw [← take_snoc default h, List.foldl_append]; rfl
theorem putStep_len (it : It) (acc : List It × Bool) (x : It) : (putStep it acc x).1.length ≤ acc.1.length + 2 := by
  unfold putStep
  split <;> split <;> simp
theorem putF_len (it : It) (l : List It) : ∀ i, (putF it (l.take i)).1.length ≤ 2 * i
  | 0 => by simp [putF]
  | i + 1 => by
    have ih := putF_len it l i
    by_cases h : i < l.length
    · rw [putF_take h]
      have := putStep_len it (putF it (l.take i)) (l.getD i default)
      omega
    · rw [List.take_of_length_le (by omega)] at ih ⊢; omega
theorem ltS_cons (a b : UInt8) (x y : Bs) : ltS (a :: x) (b :: y) = (decide (a.toNat < b.toNat) || (decide (a.toNat = b.toNat) && ltS x y)) := by
  unfold ltS
  rw [Go.Op.bytesLess]
  have h1 : decide (a < b) = decide (a.toNat < b.toNat) := decide_eq_decide.2 UInt8.lt_iff_toNat_lt
  have h2 : (a == b) = decide (a.toNat = b.toNat) := by
    rw [Bool.eq_iff_iff, beq_iff_eq, decide_eq_true_eq]; exact ⟨fun h => by rw [h], fun h => UInt8.toNat_inj.1 h⟩
  rw [h1, h2]
theorem ltS_nil_cons (b : UInt8) (y : Bs) : ltS [] (b :: y) = true := rfl
theorem ltS_nil (x : Bs) : ltS x [] = false := by cases x <;> rfl
theorem ltS_irrefl : ∀ a : Bs, ltS a a = false
  | [] => rfl
  | a :: x => by rw [ltS_cons, ltS_irrefl x]; simp
theorem ltS_trans : ∀ {a b c : Bs}, ltS a b = true → ltS b c = true → ltS a c = true
  | a, [], c, h, _ => by rw [ltS_nil] at h; cases h
  | a, _ :: _, [], _, h => by rw [ltS_nil] at h; cases h
  | [], _ :: _, _ :: _, _, _ => rfl
  | a :: x, b :: y, c :: z, h1, h2 => by
    rw [ltS_cons] at h1 h2 ⊢
    simp only [Bool.or_eq_true, decide_eq_true_eq, Bool.and_eq_true] at h1 h2 ⊢
    rcases h1 with h1 | ⟨h1, h1'⟩ <;> rcases h2 with h2 | ⟨h2, h2'⟩
    · left; omega
    · left; omega
    · left; omega
    · exact .inr ⟨by omega, ltS_trans h1' h2'⟩
theorem ltS_asymm {a b : Bs} (h : ltS a b = true) : ltS b a = false := by
  cases h2 : ltS b a with
  | false => rfl
  | true => have := ltS_trans h h2; rw [ltS_irrefl] at this; cases this
theorem ltS_tri {a b : Bs} (h1 : ltS a b = false) (h2 : ltS b a = false) : a = b := by
  have := less_total a b
  unfold ltS at h1 h2
  rw [h1, h2] at this
  simpa using this
theorem ltS_ne {a b : Bs} (h : ltS a b = true) : a ≠ b := by
  intro e; subst e; rw [ltS_irrefl] at h; cases h
theorem ltS_le_lt {a b c : Bs} (h1 : ltS b a = false) (h2 : ltS b c = true) : ltS a c = true := by
  cases h : ltS a b with
  | true => exact ltS_trans h h2
  | false => rw [ltS_tri h h1]; exact h2
theorem ltS_lt_le {a b c : Bs} (h1 : ltS a b = true) (h2 : ltS c b = false) : ltS a c = true := by
  cases h : ltS b c with
  | true => exact ltS_trans h1 h
  | false => rw [← ltS_tri h h2]; exact h1
/-- -1, 0 or 1. -/
def cmpI (a b : Bs) : Int := if ltS a b then -1 else if ltS b a then 1 else 0
theorem cmp_ltS : ∀ a b : Bs, Go.Lib.compareBytes a b = cmpI a b
  | [], [] => rfl
  | [], _ :: _ => rfl
  | _ :: _, [] => rfl
  | a :: x, b :: y => by
    rw [Go.Lib.compareBytes, cmpI, ltS_cons, ltS_cons]
    have ih := cmp_ltS x y
    unfold cmpI at ih
    rcases Nat.lt_trichotomy a.toNat b.toNat with h | h | h
    · have h1 : a < b := UInt8.lt_iff_toNat_lt.2 h
      simp [h1, h]
    · have e : a = b := UInt8.toNat_inj.1 h
      subst e
      have h1 : ¬ a < a := fun h' => by have := UInt8.lt_iff_toNat_lt.1 h'; omega
      simp [h1, ih]
    · have h1 : ¬ a < b := fun h' => by have := UInt8.lt_iff_toNat_lt.1 h'; omega
      have h2 : b < a := UInt8.lt_iff_toNat_lt.2 h
      have h3 : ¬ a.toNat < b.toNat := by omega
      have h4 : ¬ a.toNat = b.toNat := by omega
      simp [h1, h2, h3, h4, h]
/-- The list and the flag, at the end. -/
theorem putF_end (it : It) (l : List It) : (if (putF it l).2 then (putF it l).1 else (putF it l).1 ++ [it]) = putL l it := by
  have done : ∀ (r : List It) (a : List It), r.foldl (putStep it) (a, true) = (a ++ dropL r it.name, true) := by
    intro r
    induction r with
    | nil => intro a; simp [dropL]
    | cons x r ih =>
      intro a
      rw [List.foldl_cons]
      by_cases e : x.name = it.name
      · have : putStep it (a, true) x = (a, true) := by simp [putStep, e]
        rw [this, ih]; simp [dropL, e]
      · have : putStep it (a, true) x = (a ++ [x], true) := by simp [putStep, e]
        rw [this, ih]; simp [dropL, e]
  have gen : ∀ (r : List It) (a : List It), (let p := r.foldl (putStep it) (a, false); if p.2 then p.1 else p.1 ++ [it]) = a ++ putL r it := by
    intro r
    induction r with
    | nil => intro a; rfl
    | cons x r ih =>
      intro a
      rw [List.foldl_cons]
      cases hl : ltS x.name it.name with
      | true =>
        have hne := ltS_ne hl
        have : putStep it (a, false) x = (a ++ [x], false) := by simp [putStep, hl, hne]
        rw [this, ih]; simp [putL, hl]
      | false =>
        by_cases e : x.name = it.name
        · have : putStep it (a, false) x = (a ++ [it], true) := by simp [putStep, e, ltS_irrefl]
          rw [this, done]; simp [putL, dropL, e, ltS_irrefl]
        · have : putStep it (a, false) x = (a ++ [it] ++ [x], true) := by simp [putStep, hl, e]
          rw [this, done]; simp [putL, hl, dropL, e]
  exact gen l []
theorem dropL_mem {l : List It} {b : Bs} {x : It} (h : x ∈ dropL l b) : x ∈ l := (List.mem_filter.1 h).1
theorem putL_mem {it : It} : ∀ {l : List It} {x : It}, x ∈ putL l it → x = it ∨ x ∈ l
  | [], x, h => by simp [putL] at h; exact .inl h
  | y :: r, x, h => by
    unfold putL at h
    split at h
    · simp at h
      rcases h with rfl | h
      · right; simp
      · exact (putL_mem h).imp (fun h => h) (fun h => by simp [h])
    · simp at h
      exact h.imp (fun h => h) dropL_mem
theorem putL_len (it : It) : ∀ l : List It, (putL l it).length ≤ l.length + 1
  | [] => by simp [putL]
  | x :: r => by
    unfold putL
    split
    · have := putL_len it r; simp; omega
    · have := dropL_len (x :: r) it.name; simp at this ⊢; omega
def putS (s : Sto) (b : Bs) (n : Nd) : Sto := ⟨putL s.items ⟨b, s.clock + 1, n⟩, s.clock + 1⟩
def dropS (s : Sto) (b : Bs) : Sto := ⟨dropL s.items b, s.clock + 1⟩
def putItemM (s : Sto) (b : Bs) (n : Nd) : Option Sto :=
  if storeM s && nameM b && validM n then (if storeM (putS s b n) then some (putS s b n) else none) else none
def dropItemM (s : Sto) (b : Bs) : Option Sto :=
  if storeM s && decide (0 ≤ findI s.items b) && !decide (s.clock = 999) then some (dropS s b) else none
def applyM (s : Sto) (c : Chg) : Option Sto := if c.gone then dropItemM s c.name else putItemM s c.name c.node
def applyCM (s : Sto) (c : Chg) : Option Sto := if storeM s && changeM c then applyM s c else none
def stepM (r : Option Sto) (c : Chg) : Option Sto := match r with
  | some s => if changeM c then applyM s c else none
  | none => none
def replayFrom (s : Sto) (l : List Chg) : Option Sto := l.foldl stepM (some s)
def replayM (l : List Chg) : Option Sto := replayFrom ⟨[], 0⟩ l
theorem stepM_none (l : List Chg) : l.foldl stepM none = none := by
  induction l with
  | nil => rfl
  | cons c l ih => exact ih
theorem replayM_take {l : List Chg} {i : Nat} (h : i < l.length) : replayM (l.take (i + 1)) = stepM (replayM (l.take i)) (l.getD i default) := by
  unfold replayM replayFrom
  rw [← take_snoc default h, List.foldl_append]; rfl
theorem replayM_none {l : List Chg} {i : Nat} (h : replayM (l.take i) = none) : replayM l = none := by
  unfold replayM replayFrom at h ⊢
  rw [← List.take_append_drop i l, List.foldl_append, h, stepM_none]
def logM (l : List Chg) : Option Sto := if l.length ≤ 20 then replayM l else none
def optS (r : Option Sto) : AV := .tup [.st (stC (r.getD ⟨[], 0⟩)), .bool r.isSome]
theorem findI_lt {l : List It} {b : Bs} : findI l b < l.length := by
  unfold findI; split <;> omega
theorem storeM_clock {s : Sto} (h : storeM s = true) : 0 ≤ s.clock ∧ s.clock ≤ 999 ∧ s.items.length ≤ 10 := by
  simp only [storeM, Bool.and_eq_true, decide_eq_true_eq] at h; omega
theorem applyM_store {s t : Sto} {c : Chg} (hs : storeM s = true) (h : applyM s c = some t) : t.clock = s.clock + 1 := by
  unfold applyM dropItemM putItemM at h
  split at h <;> (split at h <;> try cases h)
  · rfl
  · split at h <;> cases h
    rfl
def stoAtM (l : List Chg) (v : Int) : Option Sto := if (logM l).isSome ∧ 0 ≤ v ∧ v ≤ l.length then replayM (l.take v.toNat) else none
def histM (l : List Chg) (b : Bs) (k : Nat) : List Int := match l with
  | [] => []
  | c :: r => if c.name = b then ((k : Int) + 1) :: histM r b (k + 1) else histM r b (k + 1)
def lastM (l : List Chg) (k : Nat) : Bool := (l.drop (k + 1)).all fun c => !decide (c.name = (l.getD k default).name)
end Go.Rs
end
