import Derived.Test.YtmgheiagnleeiaaDoorME
set_option linter.all false
section
/-! Plain models: what a function makes of the node at a pointer. -/
namespace Go.Rs
end Go.Rs
end
section
/-! Plain laws: nodes with another node at a pointer, nodes without one. -/
namespace Go.Rs
-- lists
-- valid nodes
-- the laws
end Go.Rs
end
section
/-! Plain models: the texts of nodes. -/
namespace Go.Rs
def escM (c : UInt8) : Bs := if c = 34 ∨ c = 92 then [92, c] else [c]
def escsM (s : Bs) : Bs := s.flatMap escM
def quoteM (s : Bs) : Bs := 34 :: (escsM s ++ [34])
def numM (z : Int) : Bs := if z < 0 then 45 :: decM (-z).toNat else decM z.toNat
theorem u8_eq {c d : UInt8} : (c.toNat : Int) = (d.toNat : Int) ↔ c = d := ⟨fun h => UInt8.toNat_inj.1 (by omega), fun h => by rw [h]⟩
theorem esc_yes {c : UInt8} (h : (c.toNat : Int) = 34 ∨ (c.toNat : Int) = 92) : escM c = [92, c] := by
  unfold escM
  rw [if_pos (h.imp (u8_eq (d := 34)).1 (u8_eq (d := 92)).1)]
theorem esc_no {c : UInt8} (h : ¬ (c.toNat : Int) = 34 ∧ ¬ (c.toNat : Int) = 92) : escM c = [c] := by
  unfold escM
  rw [if_neg (fun e => e.elim (fun e => h.1 ((u8_eq (d := 34)).2 e)) (fun e => h.2 ((u8_eq (d := 92)).2 e)))]
theorem char_slice {s : Bs} {i : Nat} (h : i < s.length) : (s.take (i + 1)).drop i = [s.getD i 0] := by
  rw [← take_snoc 0 h, List.drop_append_of_le_length (by simp; omega), List.drop_of_length_le (by simp; omega), List.nil_append]
theorem escs_take {s : Bs} {i : Nat} (h : i < s.length) : escsM (s.take (i + 1)) = escsM (s.take i) ++ escM (s.getD i 0) := by
  unfold escsM
  rw [← take_snoc 0 h, List.flatMap_append]
  simp
theorem esc_len (c : UInt8) : (escM c).length ≤ 2 := by unfold escM; split <;> simp
theorem escs_len (s : Bs) : (escsM s).length ≤ 2 * s.length := by
  induction s with
  | nil => simp [escsM]
  | cons c s ih =>
    have e : escsM (c :: s) = escM c ++ escsM s := by simp [escsM]
    have := esc_len c
    rw [e, List.length_append, List.length_cons]
    omega
theorem escs_take_len (s : Bs) (i : Nat) : (escsM (s.take i)).length ≤ 2 * s.length := by
  have := escs_len (s.take i)
  simp only [List.length_take] at this
  omega
theorem quote_len (s : Bs) : (quoteM s).length ≤ 2 * s.length + 2 := by
  have := escs_len s
  simp [quoteM]; omega
def fmtM : Nd → Bs
  | ⟨k, m, t, ns, ks⟩ => if k = 0 then [110, 117, 108, 108] else if k = 1 then numM m else if k = 2 then quoteM t else if k = 4 then 123 :: (go 4 true ns ks ++ [125]) else 91 :: (go k true ns ks ++ [93])
where go (k : Int) (first : Bool) : List Bs → List Nd → Bs
  | ns, x :: xs => ((if first then [] else [44]) ++ (if k = 4 then quoteM (ns.headD []) ++ [58] else [])) ++ fmtM x ++ go k false ns.tail xs
  | _, [] => []
theorem fmtM_eq (n : Nd) : fmtM n = if n.kind = 0 then [110, 117, 108, 108] else if n.kind = 1 then numM n.num else if n.kind = 2 then quoteM n.text else if n.kind = 4 then 123 :: (fmtM.go 4 true n.names n.kids ++ [125]) else 91 :: (fmtM.go n.kind true n.names n.kids ++ [93]) := by
  cases n; rw [fmtM]
def leadM (k : Int) (ns : List Bs) (i : Nat) : Bs := (if 0 < i then [44] else []) ++ (if k = 4 then quoteM (ns.getD i []) ++ [58] else [])
theorem goF_snoc (k : Int) : ∀ (xs : List Nd) (ns : List Bs) (first : Bool) (i : Nat), i < xs.length →
    fmtM.go k first ns (xs.take (i + 1)) = fmtM.go k first ns (xs.take i) ++ ((if first ∧ i = 0 then [] else [44]) ++ (if k = 4 then quoteM (ns.getD i []) ++ [58] else [])) ++ fmtM (xs.getD i default)
  | x :: xs, ns, first, 0, _ => by
    have e : ns.headD [] = ns.getD 0 [] := by cases ns <;> rfl
    simp only [List.take_succ_cons, List.take_zero, fmtM.go, e, List.append_nil, List.nil_append, List.getD_cons_zero, and_true]
  | x :: xs, ns, first, i + 1, h => by
    have ih := goF_snoc k xs ns.tail false i (by simpa using h)
    have e : ns.tail.getD i [] = ns.getD (i + 1) [] := by cases ns <;> simp
    have e2 : (if False ∧ i = 0 then ([] : Bs) else [44]) = [44] := by simp
    simp only [List.take_succ_cons, fmtM.go, ih, List.getD_cons_succ, e, List.append_assoc]
    simp
  | [], _, _, _, h => by simp at h
def joinM (n : Nd) (i : Nat) : Bs := fmtM.go n.kind true n.names (n.kids.take i)
theorem joinM_zero (n : Nd) : joinM n 0 = [] := by unfold joinM; rw [List.take_zero, fmtM.go]
theorem joinM_succ {n : Nd} {i : Nat} (h : i < n.kids.length) : joinM n (i + 1) = joinM n i ++ leadM n.kind n.names i ++ fmtM (n.kids.getD i default) := by
  unfold joinM
  rw [goF_snoc _ _ _ _ _ h]
  unfold leadM
  congr 2
  by_cases h0 : i = 0
  · subst h0; simp
  · simp [h0, Nat.pos_of_ne_zero h0]
theorem joinM_all (n : Nd) {i : Nat} (h : n.kids.length ≤ i) : joinM n i = fmtM.go n.kind true n.names n.kids := by
  unfold joinM; rw [List.take_of_length_le h]
theorem fmt_map {n : Nd} (h : n.kind = 4) : fmtM n = 123 :: (joinM n n.kids.length ++ [125]) := by
  rw [fmtM_eq, joinM_all n (Nat.le_refl _), h]
  simp
theorem fmt_list {n : Nd} (h : n.kind = 3) : fmtM n = 91 :: (joinM n n.kids.length ++ [93]) := by
  rw [fmtM_eq, joinM_all n (Nat.le_refl _), h]
  simp
theorem fmt_none {n : Nd} (h : n.kind = 0) : fmtM n = [110, 117, 108, 108] := by rw [fmtM_eq, if_pos h]
theorem fmt_num {n : Nd} (h : n.kind = 1) : fmtM n = numM n.num := by rw [fmtM_eq, if_neg (by omega), if_pos h]
theorem fmt_text {n : Nd} (h : n.kind = 2) : fmtM n = quoteM n.text := by rw [fmtM_eq, if_neg (by omega), if_neg (by omega), if_pos h]
-- lengths
theorem decM_len_le : ∀ (k n : Nat), n < 10 ^ (k + 1) → (decM n).length ≤ k + 1
  | 0, n, h => by rw [decM_lt (by simpa using h)]; simp
  | k + 1, n, h => by
    by_cases h1 : n < 10
    · rw [decM_lt h1]; simp
    · rw [decM_ge h1, List.length_append]
      have := decM_len_le k (n / 10) (by rw [Nat.div_lt_iff_lt_mul (by omega)]; rw [Nat.pow_succ] at h; exact h)
      simp; omega
theorem numM_len {z : Int} (h1 : -999999 ≤ z) (h2 : z ≤ 999999) : (numM z).length ≤ 7 := by
  unfold numM
  split
  · have := decM_len_le 5 (-z).toNat (by have : (10 : Nat) ^ 6 = 1000000 := rfl; omega)
    simp; omega
  · have := decM_len_le 5 z.toNat (by have : (10 : Nat) ^ 6 = 1000000 := rfl; omega)
    omega
theorem okN_kind {n : Nd} (h : okN n) : 0 ≤ n.kind ∧ n.kind ≤ 4 := partsM_kind (okN_parts h)
theorem okN_num {n : Nd} (h : okN n) : -999999 ≤ n.num ∧ n.num ≤ 999999 := by
  by_cases h1 : n.kind = 1
  · have := okN_parts h
    simp only [partsM, h1] at this
    grind
  · have := (okN_bare h).1 h1
    omega
theorem okN_name_len {n : Nd} (h : okN n) {j : Nat} (hj : j < n.names.length) : (n.names.getD j []).length ≤ 12 := by
  by_cases hk : n.kind = 4
  · have := okN_txt h hk hj
    simp only [txtM, Bool.and_eq_true, decide_eq_true_eq] at this
    exact this.1
  · have := (okN_names h).2.2 hk
    rw [this] at hj; simp at hj
theorem lead_len {n : Nd} (h : okN n) {i : Nat} (hi : i < n.kids.length) : (leadM n.kind n.names i).length ≤ 28 := by
  unfold leadM
  have h1 : (if 0 < i then ([44] : Bs) else []).length ≤ 1 := by split <;> simp
  have h2 : (if n.kind = 4 then quoteM (n.names.getD i []) ++ [58] else []).length ≤ 27 := by
    split
    · rename_i hk
      have h3 := okN_name_len h (j := i) (by rw [(okN_names h).2.1 hk]; exact hi)
      have := quote_len (n.names.getD i [])
      simp only [List.length_append, List.length_singleton]; omega
    · simp
  rw [List.length_append]; omega
theorem fmt_len : ∀ (d : Nat) {n : Nd}, d ≤ 5 → shapeM d n = true → (fmtM n).length + 30 ≤ 64 * countM n
  | 0, n, _, h => by cases h
  | d + 1, n, hd, h => by
    have hn : okN n := ⟨d + 1, hd, h⟩
    have h0 := okN_kind hn
    have hk : ∀ i, i ≤ n.kids.length → (joinM n i).length ≤ 64 * sumN countM (n.kids.take i) := by
      intro i
      induction i with
      | zero => intro _; rw [joinM_zero]; simp
      | succ i ih =>
        intro hi
        rw [joinM_succ (by omega), sumN_take (by omega)]
        have h1 := ih (by omega)
        have h2 := lead_len hn (i := i) (by omega)
        have h3 := fmt_len d (by omega) (shape_kid h (getD_mem (d := default) (show i < n.kids.length by omega)))
        simp only [List.length_append]
        omega
    have h1 := hk n.kids.length (Nat.le_refl _)
    rw [List.take_length] at h1
    rw [countM_eq]
    by_cases e0 : n.kind = 0
    · rw [fmt_none e0]; simp; omega
    by_cases e1 : n.kind = 1
    · rw [fmt_num e1]
      have := okN_num hn
      have := numM_len this.1 this.2
      omega
    by_cases e2 : n.kind = 2
    · rw [fmt_text e2]
      have := okN_text hn
      have := quote_len n.text
      omega
    by_cases e3 : n.kind = 3
    · rw [fmt_list e3]; simp; omega
    · rw [fmt_map (by omega)]; simp; omega
theorem okN_fmt {n : Nd} (h : okN n) : (fmtM n).length + 30 ≤ 64 * countM n := by obtain ⟨d, hd, h⟩ := h; exact fmt_len d hd h
theorem join_len {n : Nd} (hn : okN n) : ∀ {i : Nat}, i ≤ n.kids.length → (joinM n i).length ≤ 64 * sumN countM (n.kids.take i)
  | 0, _ => by rw [joinM_zero]; simp
  | i + 1, hi => by
    rw [joinM_succ (by omega), sumN_take (by omega)]
    have h1 := join_len hn (i := i) (by omega)
    have h2 := lead_len hn (i := i) (by omega)
    have h3 := okN_fmt (okN_kid hn (j := i) (by omega))
    simp only [List.length_append]
    omega
theorem join_room {n : Nd} (hn : okN n) {i : Nat} (hi : i < n.kids.length) : (joinM n i).length + 64 * countM (n.kids.getD i default) + 64 ≤ 64 * countM n := by
  have h1 := join_len hn (i := i) (by omega)
  have h2 := sumN_take (f := countM) hi
  have h3 := sumN_take_le (f := countM) (l := n.kids) (k := i + 1)
  rw [countM_eq n]
  omega
theorem join_end {n : Nd} (hn : okN n) {i : Nat} (hi : i ≤ n.kids.length) : (joinM n i).length + 64 ≤ 64 * countM n := by
  have h1 := join_len hn (i := i) (by omega)
  have h3 := sumN_take_le (f := countM) (l := n.kids) (k := i)
  rw [countM_eq n]
  omega
def textM (n : Nd) : Bs := if validM n then fmtM n else []
theorem textM_len (n : Nd) : (textM n).length ≤ 2560 := by
  unfold textM
  split
  · rename_i h
    have := okN_fmt (validM_ok h)
    have := (validM_iff.1 h).2
    omega
  · simp
end Go.Rs
end
section
/-! Plain laws: a node's text tells the node; sizes of stores. -/
namespace Go.Rs
-- sizes
end Go.Rs
end
section
/-! Plain models: stores trimmed. -/
namespace Go.Rs
end Go.Rs
end
