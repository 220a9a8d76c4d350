import Derived.Test.YtdgdekfdfcaheaaDoorMH
import Derived.Lib.AtoiAllCases
set_option linter.all false
section
/-! The texts of nodes, read: texts and numbers. -/
namespace Go.Rs
def scanM : Bs → Bs → Option (Bs × Bs)
  | _, [] => none
  | acc, [c] => if c = 34 then some (acc, []) else none
  | acc, c :: d :: r => if c = 34 then some (acc, d :: r) else if c = 92 then (if d = 34 ∨ d = 92 then scanM (acc ++ [d]) r else none) else scanM (acc ++ [c]) (d :: r)
termination_by _ s => s.length
theorem u8n {c : UInt8} (n : UInt8) : (c.toNat : Int) = (n.toNat : Int) ↔ c = n := u8_eq
theorem scan_out {acc t : Bs} {p : Nat} (h : t.length ≤ p) : scanM acc (t.drop p) = none := by rw [List.drop_of_length_le h, scanM]
theorem scan_quote {acc t : Bs} {p : Nat} (hp : p < t.length) (h : ((t.getD p 0).toNat : Int) = 34) : scanM acc (t.drop p) = some (acc, t.drop (p + 1)) := by
  rw [drop_at hp 0, (u8n 34).1 h]
  cases t.drop (p + 1) <;> simp [scanM]
theorem scan_esc {acc t : Bs} {p : Nat} (hp : p + 1 < t.length) (h : ((t.getD p 0).toNat : Int) = 92) (h2 : ((t.getD (p + 1) 0).toNat : Int) = 34 ∨ ((t.getD (p + 1) 0).toNat : Int) = 92) :
    scanM acc (t.drop p) = scanM (acc ++ [t.getD (p + 1) 0]) (t.drop (p + 2)) := by
  rw [drop_at (by omega) 0, (u8n 92).1 h, drop_at hp 0, scanM, if_neg (by decide), if_pos rfl, if_pos (h2.imp (u8n 34).1 (u8n 92).1)]
theorem scan_bad {acc t : Bs} {p : Nat} (hp : p < t.length) (h : ((t.getD p 0).toNat : Int) = 92) (h2 : p + 1 = t.length ∨ (¬ ((t.getD (p + 1) 0).toNat : Int) = 34 ∧ ¬ ((t.getD (p + 1) 0).toNat : Int) = 92)) : scanM acc (t.drop p) = none := by
  rw [drop_at hp 0, (u8n 92).1 h]
  by_cases h3 : p + 1 < t.length
  · have h4 := h2.resolve_left (by omega)
    rw [drop_at h3 0, scanM, if_neg (by decide), if_pos rfl, if_neg (fun e => e.elim (fun e => h4.1 ((u8n 34).2 e)) (fun e => h4.2 ((u8n 92).2 e)))]
  · rw [List.drop_of_length_le (by omega), scanM, if_neg (by decide)]
theorem scan_chr {acc t : Bs} {p : Nat} (hp : p < t.length) (h : ¬ ((t.getD p 0).toNat : Int) = 34) (h2 : ¬ ((t.getD p 0).toNat : Int) = 92) : scanM acc (t.drop p) = scanM (acc ++ [t.getD p 0]) (t.drop (p + 1)) := by
  have h' : t.getD p 0 ≠ 34 := fun e => h ((u8n 34).2 e)
  have h2' : t.getD p 0 ≠ 92 := fun e => h2 ((u8n 92).2 e)
  rw [drop_at hp 0]
  cases t.drop (p + 1) with
  | nil => generalize t.getD p 0 = c at h'; simp [scanM, h']
  | cons d r => rw [scanM, if_neg h', if_neg h2']
theorem scan_escs : ∀ (s acc r : Bs), scanM acc (escsM s ++ 34 :: r) = some (acc ++ s, r)
  | [], acc, r => by
    rw [List.append_nil]
    show scanM acc (34 :: r) = _
    cases r <;> simp [scanM]
  | c :: s, acc, r => by
    have ih := scan_escs s (acc ++ [c]) r
    have e : acc ++ [c] ++ s = acc ++ c :: s := by simp
    rw [escs_cons, List.append_assoc]
    obtain ⟨d, y, hd⟩ : ∃ d y, escsM s ++ 34 :: r = d :: y := by
      cases escsM s <;> exact ⟨_, _, rfl⟩
    unfold escM
    by_cases h : c = 34 ∨ c = 92
    · rw [if_pos h]
      show scanM acc (92 :: c :: (escsM s ++ 34 :: r)) = _
      rw [scanM, if_neg (by decide), if_pos rfl, if_pos h, ih, e]
    · rw [if_neg h]
      show scanM acc (c :: (escsM s ++ 34 :: r)) = _
      rw [hd, scanM, if_neg (fun x => h (.inl x)), if_neg (fun x => h (.inr x)), ← hd, ih, e]
theorem scan_sound : ∀ {acc s x r : Bs}, scanM acc s = some (x, r) → ∃ y, x = acc ++ y ∧ s = escsM y ++ 34 :: r
  | acc, [], x, r, h => by rw [scanM] at h; cases h
  | acc, [c], x, r, h => by
    rw [scanM] at h
    split at h
    · rename_i e; cases h; exact ⟨[], by simp, by rw [e]; rfl⟩
    · cases h
  | acc, c :: d :: q, x, r, h => by
    rw [scanM] at h
    split at h
    · rename_i e; cases h; exact ⟨[], by simp, by rw [e]; rfl⟩
    · rename_i h34
      split at h
      · rename_i e
        split at h
        · rename_i h2
          obtain ⟨y, e1, e2⟩ := scan_sound h
          refine ⟨d :: y, by rw [e1]; simp, ?_⟩
          rw [escs_cons, e2, e]; unfold escM; rw [if_pos h2]; rfl
        · cases h
      · rename_i h92
        obtain ⟨y, e1, e2⟩ := scan_sound h
        refine ⟨c :: y, by rw [e1]; simp, ?_⟩
        rw [escs_cons, e2]; unfold escM; rw [if_neg (fun e => e.elim h34 h92)]; rfl
termination_by _ s => s.length
def preM (s t : Bs) : Bool := decide (s <+: t)
theorem pre_one {c : UInt8} {t : Bs} {p : Nat} (h : preM [c] (t.drop p) = true) : p < t.length ∧ t.drop p = c :: t.drop (p + 1) := by
  have h1 : [c] <+: t.drop p := by simpa [preM] using h
  obtain ⟨q, hq⟩ := h1
  have hp : p < t.length := by
    rcases Nat.lt_or_ge p t.length with h | h
    · exact h
    · rw [List.drop_of_length_le h] at hq; cases hq
  have e := drop_at hp (0 : UInt8)
  refine ⟨hp, ?_⟩
  rw [e] at hq ⊢
  have : c = t.getD p 0 := by have := congrArg List.head? hq; simpa using this
  rw [← this]
theorem pre_not {c : UInt8} {t : Bs} {p : Nat} (h : preM [c] (t.drop p) = false) : ∀ r, t.drop p ≠ c :: r := by
  intro r e
  rw [e] at h
  simp [preM] at h
theorem pre_len {s t : Bs} (h : preM s t = true) : s.length ≤ t.length := by
  have h1 : s <+: t := by simpa [preM] using h
  exact h1.length_le
theorem pre_drop {s t : Bs} (h : preM s t = true) : t = s ++ t.drop s.length := by
  have h1 : s <+: t := by simpa [preM] using h
  obtain ⟨q, rfl⟩ := h1
  simp
def rdText : Bs → Option (Bs × Bs)
  | [] => none
  | c :: r => if c = 34 then scanM [] r else none
theorem rdText_quote (s r : Bs) : rdText (quoteM s ++ r) = some (s, r) := by
  unfold quoteM rdText
  simp only [List.cons_append, List.append_assoc, if_pos]
  rw [scan_escs]; simp
theorem rdText_sound {s x r : Bs} (h : rdText s = some (x, r)) : s = quoteM x ++ r := by
  unfold rdText at h
  split at h
  · cases h
  · split at h
    · rename_i e
      obtain ⟨y, e1, e2⟩ := scan_sound h
      rw [List.nil_append] at e1
      rw [e, e2, e1]; simp [quoteM]
    · cases h
-- numbers
def numC (c : UInt8) : Bool := decide (c = 45) || (decide (48 ≤ c.toNat) && decide (c.toNat ≤ 57))
def in64 (v : Int) : Prop := -9223372036854775808 ≤ v ∧ v ≤ 9223372036854775807
theorem dig_toNat {k : Nat} (h : k < 10) : (UInt8.ofNat (48 + k)).toNat = 48 + k := by
  rw [UInt8.toNat_ofNat_of_lt']
  show 48 + k < 256
  omega
theorem parse_snoc : ∀ (l : Bs) (acc u : Nat) (c : UInt8), Lib.parseUint10 acc l = .ok u → Lib.parseUint10 acc (l ++ [c]) = Lib.parseUint10 u [c]
  | [], acc, u, c, h => by simp only [Lib.parseUint10] at h; injection h with h; rw [h]; rfl
  | b :: l, acc, u, c, h => by
    simp only [Lib.parseUint10] at h
    rw [List.cons_append]
    conv => lhs; unfold Lib.parseUint10
    split at h
    · rename_i hb
      rw [if_pos hb]
      split at h
      · cases h
      · rename_i h1
        rw [if_neg h1]
        split at h
        · cases h
        · rename_i h2
          rw [if_neg h2]; exact parse_snoc l _ u c h
    · cases h
theorem parse_dec (n : Nat) (h : n < 18446744073709551616) : Lib.parseUint10 0 (decM n) = .ok n := by
  induction n using Nat.strongRecOn with
  | _ n ih =>
    by_cases h1 : n < 10
    · rw [decM_lt h1]
      simp only [Lib.parseUint10, dig_toNat h1]
      rw [if_pos (by omega), if_neg (by omega), if_neg (by omega)]
      congr 1; omega
    · have h2 : n % 10 < 10 := by omega
      rw [decM_ge h1, parse_snoc _ _ _ _ (ih (n / 10) (by omega) (by omega))]
      simp only [Lib.parseUint10, dig_toNat h2]
      rw [if_pos (by omega), if_neg (by omega), if_neg (by omega)]
      congr 1; omega
theorem decM_numC : ∀ (n : Nat), ∀ c ∈ decM n, 48 ≤ c.toNat ∧ c.toNat ≤ 57 := by
  intro n
  induction n using Nat.strongRecOn with
  | _ n ih =>
    intro c hc
    by_cases h1 : n < 10
    · rw [decM_lt h1] at hc
      simp only [List.mem_singleton] at hc
      rw [hc, dig_toNat h1]; omega
    · rw [decM_ge h1, List.mem_append] at hc
      rcases hc with hc | hc
      · exact ih (n / 10) (by omega) c hc
      · simp only [List.mem_singleton] at hc
        rw [hc, dig_toNat (show n % 10 < 10 by omega)]; omega
theorem atoi_num {v : Int} (h : in64 v) : Lib.atoiAll (numM v) = .ok v := by
  obtain ⟨h0, h1⟩ := h
  unfold numM
  by_cases hn : v < 0
  · rw [if_pos hn, Lib.atoiAll_minus]
    unfold Lib.parseMag
    rw [if_neg (decM_ne _), parse_dec _ (by omega)]
    unfold Lib.signed
    simp only
    rw [if_neg (by omega)]
    congr 1; omega
  · rw [if_neg hn]
    obtain ⟨c, r, e⟩ : ∃ c r, decM v.toNat = c :: r := List.exists_cons_of_ne_nil (decM_ne _)
    have hc := decM_numC v.toNat c (by rw [e]; simp)
    rw [e, Lib.atoiAll_plain c r (by omega) (by omega), ← e]
    unfold Lib.parseMag
    rw [if_neg (decM_ne _), parse_dec _ (by omega)]
    unfold Lib.signless
    simp only
    rw [if_neg (by omega)]
    congr 1; omega
theorem num_inj {a b : Int} (ha : in64 a) (hb : in64 b) (h : numM a = numM b) : a = b := by
  have h1 := atoi_num ha
  rw [h, atoi_num hb] at h1
  injection h1 with h1
  exact h1.symm
open Classical in
noncomputable def numV (w : Bs) : Option Int := if h : ∃ v : Int, in64 v ∧ numM v = w then some h.choose else none
theorem numV_num {v : Int} (h : in64 v) : numV (numM v) = some v := by
  unfold numV
  have hx : ∃ z : Int, in64 z ∧ numM z = numM v := ⟨v, h, rfl⟩
  rw [dif_pos hx]
  congr 1
  exact num_inj hx.choose_spec.1 h hx.choose_spec.2
theorem numV_some {w : Bs} {v : Int} (h : numV w = some v) : in64 v ∧ numM v = w := by
  unfold numV at h
  split at h
  · rename_i hx; cases h; exact hx.choose_spec
  · cases h
theorem numV_eq {w : Bs} {v : Int} (h : in64 v) (hw : numM v = w) : numV w = some v := by rw [← hw, numV_num h]
theorem numV_no {w : Bs} (h : ∀ v, in64 v → numM v ≠ w) : numV w = none := by
  cases e : numV w with
  | none => rfl
  | some v => exact absurd (numV_some e).2 (h v (numV_some e).1)
theorem numM_chars (v : Int) : ∀ c ∈ numM v, numC c = true := by
  intro c hc
  unfold numM at hc
  have hd : ∀ n, c ∈ decM n → numC c = true := fun n h => by
    have := decM_numC n c h
    unfold numC; simp; right; exact this
  split at hc
  · rcases List.mem_cons.1 hc with rfl | hc
    · rfl
    · exact hd _ hc
  · exact hd _ hc
noncomputable def rdNum (s : Bs) : Option (Int × Bs) := (numV (s.takeWhile numC)).map fun v => (v, s.dropWhile numC)
def offN (r : Bs) : Prop := ∀ c q, r = c :: q → numC c = false
theorem span_num {v : Int} {r : Bs} (h : offN r) : (numM v ++ r).takeWhile numC = numM v ∧ (numM v ++ r).dropWhile numC = r := by
  have hc := numM_chars v
  have h0 : r.takeWhile numC = [] ∧ r.dropWhile numC = r := by
    cases r with
    | nil => exact ⟨rfl, rfl⟩
    | cons c q => have := h c q rfl; simp [this]
  generalize numM v = l at hc
  induction l with
  | nil => exact h0
  | cons c l ih =>
    have h1 := hc c (by simp)
    obtain ⟨i1, i2⟩ := ih fun x hx => hc x (by simp [hx])
    simp [h1, i1, i2]
theorem rdNum_num {v : Int} {r : Bs} (hv : in64 v) (h : offN r) : rdNum (numM v ++ r) = some (v, r) := by
  unfold rdNum
  rw [(span_num h).1, (span_num h).2, numV_num hv]; rfl
theorem rdNum_sound {s r : Bs} {v : Int} (h : rdNum s = some (v, r)) : s = numM v ++ r := by
  unfold rdNum at h
  cases e : numV (s.takeWhile numC) with
  | none => rw [e] at h; cases h
  | some z =>
    rw [e] at h
    cases h
    rw [(numV_some e).2, List.takeWhile_append_dropWhile]
theorem span_app {l r : Bs} (hc : ∀ c ∈ l, numC c = true) (h : offN r) : (l ++ r).takeWhile numC = l ∧ (l ++ r).dropWhile numC = r := by
  have h0 : r.takeWhile numC = [] ∧ r.dropWhile numC = r := by
    cases r with
    | nil => exact ⟨rfl, rfl⟩
    | cons c q => have := h c q rfl; simp [this]
  induction l with
  | nil => exact h0
  | cons c l ih =>
    have h1 := hc c (by simp)
    obtain ⟨i1, i2⟩ := ih fun x hx => hc x (by simp [hx])
    simp [h1, i1, i2]
theorem numC_int {c : UInt8} : numC c = true ↔ ((c.toNat : Int) = 45 ∨ (48 ≤ (c.toNat : Int) ∧ (c.toNat : Int) ≤ 57)) := by
  unfold numC
  simp only [Bool.or_eq_true, Bool.and_eq_true, decide_eq_true_eq]
  constructor
  · rintro (h | h)
    · exact .inl ((u8n 45).2 h)
    · exact .inr ⟨by omega, by omega⟩
  · rintro (h | h)
    · exact .inl ((u8n 45).1 h)
    · exact .inr ⟨by omega, by omega⟩
theorem span_at {t : Bs} {P Q : Nat} (hPQ : P ≤ Q) (hQ : Q ≤ t.length) (hc : ∀ j : Nat, P ≤ j → j < Q → numC (t.getD j 0) = true) (ho : Q < t.length → numC (t.getD Q 0) = false) :
    (t.drop P).takeWhile numC = (t.take Q).drop P ∧ (t.drop P).dropWhile numC = t.drop Q := by
  have e : t.drop P = (t.take Q).drop P ++ t.drop Q := by
    conv => lhs; rw [← List.take_append_drop Q t]
    rw [List.drop_append_of_le_length (by simp; omega)]
  rw [e]
  refine span_app (fun c hm => ?_) (fun c r e2 => ?_)
  · obtain ⟨j, hj, rfl⟩ := List.getElem_of_mem hm
    simp only [List.length_drop, List.length_take] at hj
    have := hc (P + j) (by omega) (by omega)
    rw [getD_get (by omega)] at this
    simpa using this
  · have hl : Q < t.length := by
      rcases Nat.lt_or_ge Q t.length with h | h
      · exact h
      · rw [List.drop_of_length_le h] at e2; cases e2
    rw [drop_at hl 0] at e2
    have := ho hl
    cases e2
    exact this
theorem rdNum_at {t : Bs} {P Q : Nat} (hPQ : P ≤ Q) (hQ : Q ≤ t.length) (hc : ∀ j : Nat, P ≤ j → j < Q → numC (t.getD j 0) = true) (ho : Q < t.length → numC (t.getD Q 0) = false) :
    rdNum (t.drop P) = (numV ((t.take Q).drop P)).map fun v => (v, t.drop Q) := by
  unfold rdNum
  rw [(span_at hPQ hQ hc ho).1, (span_at hPQ hQ hc ho).2]
theorem numV_not {w : Bs} {v : Int} (h : Lib.atoiAll w = .ok v) (h2 : numM v ≠ w) : numV w = none := numV_no fun z hz e => by
  have h3 := atoi_num hz
  rw [e, h] at h3
  injection h3 with h3
  exact h2 (by rw [h3]; exact e)
theorem numV_err {w : Bs} (h : ∀ v, Lib.atoiAll w ≠ .ok v) : numV w = none := numV_no fun z hz e => h z (by rw [← e]; exact atoi_num hz)
end Go.Rs
end
section
/-! The texts of nodes, read: nodes. -/
namespace Go.Rs
def rdKey (k : Int) (s : Bs) : Option (List Bs × Bs) :=
  if k = 4 then (match rdText s with
    | some (x, r) => (match r with | [] => none | c :: q => if c = 58 then some ([x], q) else none)
    | none => none) else some ([], s)
noncomputable def rdLoop (f : Bs → Option (Nd × Bs)) (k : Int) (c : UInt8) (ns : List Bs) (ks : List Nd) (s : Bs) : Option (Nd × Bs) :=
  match rdKey k s with
  | none => none
  | some (n, s1) => match f s1 with
    | none => none
    | some (x, s2) => match s2 with
      | [] => none
      | d :: s3 => if d = c then some (⟨k, 0, [], ns ++ n, ks ++ [x]⟩, s3)
        else if d = 44 then (if s3.length < s.length then rdLoop f k c (ns ++ n) (ks ++ [x]) s3 else none) else none
termination_by s.length
noncomputable def rdParts (f : Bs → Option (Nd × Bs)) (k : Int) (c : UInt8) (s : Bs) : Option (Nd × Bs) :=
  if preM [c] s then some (⟨k, 0, [], [], []⟩, s.drop 1) else rdLoop f k c [] [] s
noncomputable def rdN : Nat → Bs → Option (Nd × Bs)
  | 0, _ => none
  | _ + 1, [] => none
  | d + 1, c :: r =>
    if c = 110 then (if preM [110, 117, 108, 108] (c :: r) then some (default, (c :: r).drop 4) else none)
    else if c = 34 then (rdText (c :: r)).map fun q => (⟨2, 0, q.1, [], []⟩, q.2)
    else if c = 91 then rdParts (rdN d) 3 93 r
    else if c = 123 then rdParts (rdN d) 4 125 r
    else (rdNum (c :: r)).map fun q => (⟨1, q.1, [], [], []⟩, q.2)
theorem go_false (k : Int) (ns : List Bs) (x : Nd) (xs : List Nd) : fmtM.go k false ns (x :: xs) = 44 :: fmtM.go k true ns (x :: xs) := by simp [fmtM.go]
theorem go_true (k : Int) (ns : List Bs) (x : Nd) (xs : List Nd) : fmtM.go k true ns (x :: xs) = (if k = 4 then quoteM (ns.headD []) ++ [58] else []) ++ fmtM x ++ fmtM.go k false ns.tail xs := by simp [fmtM.go]
theorem fgo_nil (k : Int) (b : Bool) (ns : List Bs) : fmtM.go k b ns [] = [] := by rw [fmtM.go]
theorem key_sound {k : Int} {s r : Bs} {n : List Bs} (h : rdKey k s = some (n, r)) : (k = 4 → ∃ x, n = [x] ∧ s = quoteM x ++ 58 :: r) ∧ (k ≠ 4 → n = [] ∧ s = r) := by
  unfold rdKey at h
  by_cases hk : k = 4
  · rw [if_pos hk] at h
    refine ⟨fun _ => ?_, fun h => absurd hk h⟩
    cases e : rdText s with
    | none => rw [e] at h; cases h
    | some q =>
      obtain ⟨x, q⟩ := q
      rw [e] at h
      have h1 := rdText_sound e
      cases q with
      | nil => cases h
      | cons c q =>
        simp only at h
        split at h
        · rename_i hc; cases h; exact ⟨x, rfl, by rw [h1, hc]⟩
        · cases h
  · rw [if_neg hk] at h
    cases h
    exact ⟨fun h => absurd h hk, fun _ => ⟨rfl, rfl⟩⟩
theorem loop_sound {f : Bs → Option (Nd × Bs)} (hf : ∀ {s x r}, f s = some (x, r) → s = fmtM x ++ r) {k : Int} {c : UInt8} : ∀ (m : Nat) {ns : List Bs} {ks : List Nd} {s r : Bs} {n : Nd}, s.length ≤ m → rdLoop f k c ns ks s = some (n, r) →
    ∃ ns' x xs, n = ⟨k, 0, [], ns ++ ns', ks ++ x :: xs⟩ ∧ s = fmtM.go k true ns' (x :: xs) ++ c :: r ∧ (k = 4 → ns'.length = xs.length + 1) ∧ (k ≠ 4 → ns' = []) := by
  intro m
  induction m with
  | zero =>
    intro ns ks s r n hs h
    obtain rfl := List.length_eq_zero_iff.1 (Nat.le_zero.1 hs)
    exfalso
    rw [rdLoop] at h
    cases e : rdKey k [] with
    | none => rw [e] at h; cases h
    | some q =>
      obtain ⟨n1, s1⟩ := q
      rw [e] at h
      obtain ⟨k1, k2⟩ := key_sound e
      by_cases hk : k = 4
      · obtain ⟨x, -, h2⟩ := k1 hk
        simp [quoteM] at h2
      · obtain ⟨-, rfl⟩ := k2 hk
        simp only at h
        cases e2 : f [] with
        | none => rw [e2] at h; cases h
        | some q =>
          obtain ⟨x, s2⟩ := q
          rw [e2] at h
          have h3 := hf e2
          have : s2 = [] := by
            have := congrArg List.length h3
            simp at this
            exact List.length_eq_zero_iff.1 (by omega)
          subst this
          cases h
  | succ m ih =>
    intro ns ks s r n hs h
    rw [rdLoop] at h
    cases e : rdKey k s with
    | none => rw [e] at h; cases h
    | some q =>
      obtain ⟨n1, s1⟩ := q
      rw [e] at h
      obtain ⟨k1, k2⟩ := key_sound e
      have hkey : s = (if k = 4 then quoteM (n1.headD []) ++ [58] else []) ++ s1 ∧ (k = 4 → n1.length = 1) ∧ (k ≠ 4 → n1 = []) := by
        by_cases hk : k = 4
        · obtain ⟨x, rfl, h2⟩ := k1 hk
          exact ⟨by rw [if_pos hk, h2]; simp, fun _ => rfl, fun h => absurd hk h⟩
        · obtain ⟨rfl, rfl⟩ := k2 hk
          exact ⟨by rw [if_neg hk]; rfl, fun h => absurd h hk, fun _ => rfl⟩
      simp only at h
      cases e2 : f s1 with
      | none => rw [e2] at h; cases h
      | some q =>
        obtain ⟨x, s2⟩ := q
        rw [e2] at h
        have h3 := hf e2
        cases s2 with
        | nil => cases h
        | cons d s3 =>
          simp only at h
          split at h
          · rename_i hd
            cases h
            refine ⟨n1, x, [], rfl, ?_, fun hk => hkey.2.1 hk, hkey.2.2⟩
            rw [hkey.1, h3, go_true, fgo_nil, hd]
            simp
          · split at h
            · rename_i hd
              split at h
              · rename_i hlt
                obtain ⟨ns', y, ys, e3, e4, e5, e6⟩ := ih (by omega) h
                refine ⟨n1 ++ ns', x, y :: ys, by rw [e3]; simp, ?_, fun hk => by rw [List.length_append, hkey.2.1 hk, e5 hk]; simp; omega, fun hk => by rw [hkey.2.2 hk, e6 hk]; rfl⟩
                have et : (n1 ++ ns').tail = ns' ∧ (k = 4 → (n1 ++ ns').headD [] = n1.headD []) := by
                  by_cases hk : k = 4
                  · have := hkey.2.1 hk
                    obtain ⟨z, rfl⟩ := List.length_eq_one_iff.1 this
                    exact ⟨rfl, fun _ => rfl⟩
                  · rw [hkey.2.2 hk, e6 hk]; exact ⟨rfl, fun h => absurd h hk⟩
                rw [hkey.1, h3, go_true, et.1, go_false, hd, e4]
                by_cases hk : k = 4
                · rw [if_pos hk, if_pos hk, et.2 hk]; simp
                · rw [if_neg hk, if_neg hk]; simp
              · cases h
            · cases h
theorem parts_sound {f : Bs → Option (Nd × Bs)} (hf : ∀ {s x r}, f s = some (x, r) → s = fmtM x ++ r) {k : Int} {c o : UInt8} (hk : (k = 3 ∧ c = 93 ∧ o = 91) ∨ (k = 4 ∧ c = 125 ∧ o = 123)) {s r : Bs} {n : Nd} (h : rdParts f k c s = some (n, r)) : o :: s = fmtM n ++ r := by
  have key : ∀ (ns : List Bs) (ks : List Nd), fmtM ⟨k, 0, [], ns, ks⟩ = o :: (fmtM.go k true ns ks ++ [c]) := by
    intro ns ks
    rw [fmtM_eq]
    rcases hk with ⟨rfl, rfl, rfl⟩ | ⟨rfl, rfl, rfl⟩ <;> simp
  unfold rdParts at h
  split at h
  · rename_i hp
    cases h
    rw [key, fgo_nil]
    have := pre_drop hp
    rw [this]; simp
  · obtain ⟨ns', x, xs, e1, e2, -, -⟩ := loop_sound @hf s.length (Nat.le_refl _) h
    rw [e1, List.nil_append, List.nil_append, key, e2]
    simp
theorem rdN_sound : ∀ {d : Nat} {s r : Bs} {n : Nd}, rdN d s = some (n, r) → s = fmtM n ++ r
  | 0, s, r, n, h => by rw [rdN] at h; cases h
  | d + 1, [], r, n, h => by rw [rdN] at h; cases h
  | d + 1, c :: q, r, n, h => by
    have ih : ∀ {s x r}, rdN d s = some (x, r) → s = fmtM x ++ r := fun h => rdN_sound h
    rw [rdN] at h
    split at h
    · split at h
      · rename_i hp
        cases h
        have := pre_drop hp
        rw [show fmtM default = [110, 117, 108, 108] from rfl]
        exact this
      · cases h
    · split at h
      · cases e : rdText (c :: q) with
        | none => rw [e] at h; cases h
        | some y =>
          rw [e] at h; cases h
          have := rdText_sound (x := y.1) (r := y.2) e
          rw [this, fmt_text rfl]
      · split at h
        · rename_i hc
          have := parts_sound @ih (o := 91) (.inl ⟨rfl, rfl, rfl⟩) h
          rw [hc]; exact this
        · split at h
          · rename_i hc
            have := parts_sound @ih (o := 123) (.inr ⟨rfl, rfl, rfl⟩) h
            rw [hc]; exact this
          · cases e : rdNum (c :: q) with
            | none => rw [e] at h; cases h
            | some y =>
              rw [e] at h; cases h
              have := rdNum_sound (v := y.1) (r := y.2) e
              rw [this, fmt_num rfl]
-- the other way
theorem num_head (v : Int) : ∃ c r, numM v = c :: r ∧ numC c = true := by
  have hne : numM v ≠ [] := by
    unfold numM; split
    · simp
    · exact decM_ne _
  obtain ⟨c, r, e⟩ := List.exists_cons_of_ne_nil hne
  exact ⟨c, r, e, numM_chars v c (by rw [e]; simp)⟩
theorem numC_not {c : UInt8} (h : numC c = true) : c ≠ 110 ∧ c ≠ 34 ∧ c ≠ 91 ∧ c ≠ 123 ∧ c ≠ 93 ∧ c ≠ 125 ∧ c ≠ 44 ∧ c ≠ 32 ∧ c ≠ 0 := by
  refine ⟨?_, ?_, ?_, ?_, ?_, ?_, ?_, ?_, ?_⟩ <;> (rintro rfl; revert h; decide)
theorem fmt_hd (n : Nd) : ∃ c r, fmtM n = c :: r ∧ c ≠ 93 ∧ c ≠ 125 ∧ c ≠ 44 ∧ c ≠ 32 ∧ c ≠ 0 := by
  rw [fmtM_eq]
  split
  · exact ⟨110, _, rfl, by decide, by decide, by decide, by decide, by decide⟩
  · split
    · obtain ⟨c, r, e, h⟩ := num_head n.num
      have := numC_not h
      exact ⟨c, r, e, this.2.2.2.2.1, this.2.2.2.2.2.1, this.2.2.2.2.2.2.1, this.2.2.2.2.2.2.2.1, this.2.2.2.2.2.2.2.2⟩
    · split
      · exact ⟨34, _, rfl, by decide, by decide, by decide, by decide, by decide⟩
      · split
        · exact ⟨123, _, rfl, by decide, by decide, by decide, by decide, by decide⟩
        · exact ⟨91, _, rfl, by decide, by decide, by decide, by decide, by decide⟩
theorem offN_of {c : UInt8} {r : Bs} (h : numC c = false) : offN (c :: r) := fun _ _ e => by cases e; exact h
theorem rdKey_quote {x : Bs} {r : Bs} : rdKey 4 (quoteM x ++ 58 :: r) = some ([x], r) := by
  unfold rdKey
  rw [if_pos rfl, rdText_quote]
  simp
theorem loop_full {f : Bs → Option (Nd × Bs)} {k : Int} {c : UInt8} (hc : numC c = false) (hc2 : c ≠ 44) : ∀ (xs : List Nd) (x : Nd) (ns ns' : List Bs) (ks : List Nd) (r : Bs), (k = 4 → ns'.length = xs.length + 1) → (k ≠ 4 → ns' = []) →
    (∀ y ∈ x :: xs, ∀ r, offN r → f (fmtM y ++ r) = some (y, r)) → rdLoop f k c ns ks (fmtM.go k true ns' (x :: xs) ++ c :: r) = some (⟨k, 0, [], ns ++ ns', ks ++ x :: xs⟩, r)
  | xs, x, ns, ns', ks, r, h4, h3, hf => by
    obtain ⟨n1, n2, e1, e2, e3, e4⟩ : ∃ n1 n2 : List Bs, ns' = n1 ++ n2 ∧ ns'.tail = n2 ∧ (k = 4 → n1 = [ns'.headD []] ∧ n2.length = xs.length) ∧ (k ≠ 4 → n1 = [] ∧ n2 = []) := by
      by_cases hk : k = 4
      · have := h4 hk
        cases ns' with
        | nil => simp at this
        | cons y q => exact ⟨[y], q, rfl, rfl, fun _ => ⟨rfl, by simpa using this⟩, fun h => absurd hk h⟩
      · rw [h3 hk]; exact ⟨[], [], rfl, rfl, fun h => absurd h hk, fun _ => ⟨rfl, rfl⟩⟩
    have hkey : ∀ z, rdKey k ((if k = 4 then quoteM (ns'.headD []) ++ [58] else []) ++ z) = some (n1, z) := by
      intro z
      by_cases hk : k = 4
      · rw [if_pos hk, (e3 hk).1, hk, List.append_assoc]
        exact rdKey_quote
      · rw [if_neg hk, (e4 hk).1]; unfold rdKey; rw [if_neg hk]; rfl
    rw [rdLoop, go_true, List.append_assoc, List.append_assoc, hkey]
    simp only [e2]
    cases xs with
    | nil =>
      have en : n2 = [] := by
        by_cases hk : k = 4
        · exact List.length_eq_zero_iff.1 (e3 hk).2
        · exact (e4 hk).2
      rw [fgo_nil, List.nil_append, hf x (by simp) _ (offN_of hc)]
      simp only [if_pos]
      rw [e1, en, List.append_nil]
    | cons y ys =>
      have ih := loop_full (f := f) (k := k) hc hc2 ys y (ns ++ n1) n2 (ks ++ [x]) r (fun hk => by rw [(e3 hk).2]; rfl) (fun hk => (e4 hk).2) (fun z hz => hf z (by simp [List.mem_cons.1 hz]))
      rw [go_false, List.cons_append, hf x (by simp) _ (offN_of (by decide))]
      simp only
      rw [if_neg (fun e => hc2 e.symm), if_pos trivial, if_pos (by simp; omega), ih, e1]
      simp
theorem shape_kids {d : Nat} {n : Nd} (h : shapeM (d + 1) n = true) : partsM n = true ∧ ∀ x ∈ n.kids, shapeM d x = true := by
  simp only [shapeM, Bool.and_eq_true, List.all_eq_true] at h
  exact h
theorem parts_cases {n : Nd} (h : partsM n = true) : n = default ∨ (∃ v, n = ⟨1, v, [], [], []⟩ ∧ -999999 ≤ v ∧ v ≤ 999999) ∨ (∃ t, n = ⟨2, 0, t, [], []⟩ ∧ txtM t = true) ∨ (∃ ks, n = ⟨3, 0, [], [], ks⟩) ∨
    ∃ ns ks, n = ⟨4, 0, [], ns, ks⟩ ∧ areNamesM ns = true ∧ ks.length = ns.length := by
  obtain ⟨k, m, t, ns, ks⟩ := n
  unfold partsM at h
  simp only at h
  split at h
  · cases h
  · rename_i h0
    have h1 : k ≠ 1 → m = 0 := fun e => Classical.byContradiction fun e2 => h0 (.inl ⟨e, e2⟩)
    have h2 : k ≠ 2 → t = [] := fun e => Classical.byContradiction fun e2 => h0 (.inr (.inl ⟨e, e2⟩))
    have h3 : k ≠ 4 → ns = [] := fun e => Classical.byContradiction fun e2 => h0 (.inr (.inr ⟨e, List.length_pos_iff.2 e2⟩))
    have kl : ks.length = 0 → ks = [] := List.length_eq_zero_iff.1
    split at h
    · rename_i hk; subst hk
      left
      rw [h1 (by decide), h2 (by decide), h3 (by decide), kl (by simpa using h)]; rfl
    · split at h
      · rename_i hk; subst hk
        have h := of_decide_eq_true h
        right; left
        exact ⟨m, by rw [h2 (by decide), h3 (by decide), kl h.2.2], h.1, h.2.1⟩
      · split at h
        · rename_i hk; subst hk
          simp only [Bool.and_eq_true, decide_eq_true_eq] at h
          right; right; left
          exact ⟨t, by rw [h1 (by decide), h3 (by decide), kl h.2], h.1⟩
        · split at h
          · rename_i hk; subst hk
            right; right; right; left
            exact ⟨ks, by rw [h1 (by decide), h2 (by decide), h3 (by decide)]⟩
          · split at h
            · rename_i hk; subst hk
              simp only [Bool.and_eq_true, decide_eq_true_eq] at h
              right; right; right; right
              exact ⟨ns, ks, by rw [h1 (by decide), h2 (by decide)], h.1, h.2⟩
            · cases h
theorem in64_small {v : Int} (h1 : -999999 ≤ v) (h2 : v ≤ 999999) : in64 v := ⟨by omega, by omega⟩
theorem fmt_l (ks : List Nd) : fmtM ⟨3, 0, [], [], ks⟩ = 91 :: (fmtM.go 3 true [] ks ++ [93]) := by rw [fmtM_eq]; simp
theorem fmt_m (ns : List Bs) (ks : List Nd) : fmtM ⟨4, 0, [], ns, ks⟩ = 123 :: (fmtM.go 4 true ns ks ++ [125]) := by rw [fmtM_eq]; simp
theorem parts_full {f : Bs → Option (Nd × Bs)} {k : Int} {c : UInt8} (hk : (k = 3 ∧ c = 93) ∨ (k = 4 ∧ c = 125)) {ns : List Bs} {ks : List Nd} {r : Bs} (h4 : k = 4 → ns.length = ks.length) (h3 : k ≠ 4 → ns = [])
    (hf : ∀ y ∈ ks, ∀ r, offN r → f (fmtM y ++ r) = some (y, r)) : rdParts f k c (fmtM.go k true ns ks ++ c :: r) = some (⟨k, 0, [], ns, ks⟩, r) := by
  have hc : numC c = false ∧ c ≠ 44 ∧ c ≠ 34 := by rcases hk with ⟨-, rfl⟩ | ⟨-, rfl⟩ <;> decide
  unfold rdParts
  cases ks with
  | nil =>
    have en : ns = [] := by
      by_cases h : k = 4
      · exact List.length_eq_zero_iff.1 (h4 h)
      · exact h3 h
    rw [fgo_nil, List.nil_append, if_pos (by simp [preM]), en]; rfl
  | cons x xs =>
    have hn : preM [c] (fmtM.go k true ns (x :: xs) ++ c :: r) = false := by
      obtain ⟨a, q, e, ha⟩ : ∃ a q, fmtM.go k true ns (x :: xs) = a :: q ∧ a ≠ c := by
        rw [go_true]
        by_cases h : k = 4
        · rw [if_pos h]; exact ⟨34, _, rfl, fun e => hc.2.2 e.symm⟩
        · rw [if_neg h]
          obtain ⟨a, q, e, h5⟩ := fmt_hd x
          rw [e]
          refine ⟨a, _, rfl, ?_⟩
          rcases hk with ⟨-, rfl⟩ | ⟨-, rfl⟩
          · exact h5.1
          · exact h5.2.1
      rw [e]
      simp [preM, ha.symm]
    rw [hn]
    have := loop_full (f := f) (k := k) hc.1 hc.2.1 xs x [] ns [] r (fun h => by rw [h4 h]; rfl) h3 hf
    simpa using this
theorem rdN_full : ∀ {d : Nat} {n : Nd} {r : Bs}, shapeM d n = true → offN r → rdN d (fmtM n ++ r) = some (n, r)
  | 0, n, r, h, _ => by cases h
  | d + 1, n, r, h, hr => by
    obtain ⟨hp, hk⟩ := shape_kids h
    rcases parts_cases hp with rfl | ⟨v, rfl, h1, h2⟩ | ⟨t, rfl, h1⟩ | ⟨ks, rfl⟩ | ⟨ns, ks, rfl, h1, h2⟩
    · show rdN (d + 1) (110 :: ([117, 108, 108] ++ r)) = _
      rw [rdN, if_pos rfl, if_pos (by simp [preM])]; rfl
    · rw [fmt_num rfl]
      obtain ⟨c, q, e, hc⟩ := num_head v
      have hn := numC_not hc
      have h5 := rdNum_num (in64_small h1 h2) hr
      simp only at e ⊢
      rw [e] at h5 ⊢
      rw [List.cons_append] at h5 ⊢
      rw [rdN, if_neg hn.1, if_neg hn.2.1, if_neg hn.2.2.1, if_neg hn.2.2.2.1, h5]; rfl
    · rw [fmt_text rfl]
      have h5 := rdText_quote t r
      show rdN (d + 1) (34 :: (escsM t ++ [34] ++ r)) = _
      rw [rdN, if_neg (by decide), if_pos rfl]
      have e : (34 : UInt8) :: (escsM t ++ [34] ++ r) = quoteM t ++ r := rfl
      rw [e, h5]; rfl
    · rw [fmt_l]
      show rdN (d + 1) (91 :: (fmtM.go 3 true [] ks ++ [93] ++ r)) = _
      rw [rdN, if_neg (by decide), if_neg (by decide), if_pos rfl, List.append_assoc]
      exact parts_full (.inl ⟨rfl, rfl⟩) (fun h => by cases h) (fun _ => rfl) fun y hy r hr => rdN_full (hk y hy) hr
    · rw [fmt_m]
      show rdN (d + 1) (123 :: (fmtM.go 4 true ns ks ++ [125] ++ r)) = _
      rw [rdN, if_neg (by decide), if_neg (by decide), if_neg (by decide), if_pos rfl, List.append_assoc]
      exact parts_full (.inr ⟨rfl, rfl⟩) (fun _ => h2.symm) (fun h => absurd rfl h) fun y hy r hr => rdN_full (hk y hy) hr
-- by places
theorem rn_out {d : Nat} {t : Bs} {p : Nat} (h : d = 0 ∨ t.length ≤ p) : rdN d (t.drop p) = none := by
  rcases h with rfl | h
  · rw [rdN]
  · rw [List.drop_of_length_le h]; cases d <;> rw [rdN]
theorem rn_null {d : Nat} {t : Bs} {p : Nat} (hp : p < t.length) (h : ((t.getD p 0).toNat : Int) = 110) (h2 : preM [110, 117, 108, 108] (t.drop p) = true) : rdN (d + 1) (t.drop p) = some (⟨0, 0, [], [], []⟩, t.drop (p + 4)) := by
  have e : t.drop (p + 4) = (t.drop p).drop 4 := by rw [List.drop_drop]
  rw [e]
  rw [drop_at hp 0] at h2 ⊢
  rw [rdN, if_pos ((u8n 110).1 h), if_pos h2]; rfl
theorem rn_null0 {d : Nat} {t : Bs} {p : Nat} (hp : p < t.length) (h : ((t.getD p 0).toNat : Int) = 110) (h2 : preM [110, 117, 108, 108] (t.drop p) = false) : rdN (d + 1) (t.drop p) = none := by
  rw [drop_at hp 0] at h2 ⊢
  rw [rdN, if_pos ((u8n 110).1 h), if_neg (by rw [h2]; simp)]
theorem rn_text {d : Nat} {t : Bs} {p : Nat} (hp : p < t.length) (h : ((t.getD p 0).toNat : Int) = 34) : rdN (d + 1) (t.drop p) = (rdText (t.drop p)).map fun q => (⟨2, 0, q.1, [], []⟩, q.2) := by
  have e := (u8n 34).1 h
  rw [drop_at hp 0, rdN, e, if_neg (by decide), if_pos rfl]
theorem rn_list {d : Nat} {t : Bs} {p : Nat} (hp : p < t.length) (h : ((t.getD p 0).toNat : Int) = 91) : rdN (d + 1) (t.drop p) = rdParts (rdN d) 3 93 (t.drop (p + 1)) := by
  have e := (u8n 91).1 h
  rw [drop_at hp 0, rdN, e, if_neg (by decide), if_neg (by decide), if_pos rfl]
theorem rn_map {d : Nat} {t : Bs} {p : Nat} (hp : p < t.length) (h : ((t.getD p 0).toNat : Int) = 123) : rdN (d + 1) (t.drop p) = rdParts (rdN d) 4 125 (t.drop (p + 1)) := by
  have e := (u8n 123).1 h
  rw [drop_at hp 0, rdN, e, if_neg (by decide), if_neg (by decide), if_neg (by decide), if_pos rfl]
theorem rn_num {d : Nat} {t : Bs} {p : Nat} (hp : p < t.length) (h1 : ¬ ((t.getD p 0).toNat : Int) = 110) (h2 : ¬ ((t.getD p 0).toNat : Int) = 34) (h3 : ¬ ((t.getD p 0).toNat : Int) = 91) (h4 : ¬ ((t.getD p 0).toNat : Int) = 123) :
    rdN (d + 1) (t.drop p) = (rdNum (t.drop p)).map fun q => (⟨1, q.1, [], [], []⟩, q.2) := by
  rw [drop_at hp 0, rdN, if_neg (fun e => h1 ((u8n 110).2 e)), if_neg (fun e => h2 ((u8n 34).2 e)), if_neg (fun e => h3 ((u8n 91).2 e)), if_neg (fun e => h4 ((u8n 123).2 e))]
section
variable {f : Bs → Option (Nd × Bs)} {k : Int} {c : UInt8} {ns n : List Bs} {ks : List Nd} {x : Nd} {s s1 s2 s3 : Bs}
theorem rl_done (h1 : rdKey k s = some (n, s1)) (h2 : f s1 = some (x, s2)) (h3 : s2 = c :: s3) : rdLoop f k c ns ks s = some (⟨k, 0, [], ns ++ n, ks ++ [x]⟩, s3) := by
  rw [rdLoop, h1]; simp only [h2, h3, if_true]
theorem rl_next (h1 : rdKey k s = some (n, s1)) (h2 : f s1 = some (x, s2)) (h3 : s2 = 44 :: s3) (hc : c ≠ 44) (hl : s3.length < s.length) : rdLoop f k c ns ks s = rdLoop f k c (ns ++ n) (ks ++ [x]) s3 := by
  conv => lhs; rw [rdLoop, h1]
  simp only [h2, h3]
  rw [if_neg (fun e => hc e.symm), if_pos trivial, if_pos hl]
theorem rl_no1 (h1 : rdKey k s = none) : rdLoop f k c ns ks s = none := by rw [rdLoop, h1]
theorem rl_no2 (h1 : rdKey k s = some (n, s1)) (h2 : f s1 = none) : rdLoop f k c ns ks s = none := by rw [rdLoop, h1]; simp only [h2]
theorem rl_no3 (h1 : rdKey k s = some (n, s1)) (h2 : f s1 = some (x, s2)) (h3 : ∀ r, s2 ≠ c :: r) (h4 : ∀ r, s2 ≠ 44 :: r) : rdLoop f k c ns ks s = none := by
  rw [rdLoop, h1]; simp only [h2]
  cases s2 with
  | nil => rfl
  | cons d r => simp only; rw [if_neg (fun e => h3 r (by rw [e])), if_neg (fun e => h4 r (by rw [e]))]
end
theorem rk_yes {s r q : Bs} {x : Bs} (h : rdText s = some (x, r)) (h2 : r = 58 :: q) : rdKey 4 s = some ([x], q) := by
  unfold rdKey; rw [if_pos rfl, h, h2]; simp
theorem rk_no1 {s : Bs} (h : rdText s = none) : rdKey 4 s = none := by
  unfold rdKey; rw [if_pos rfl, h]
theorem rk_no2 {s r x : Bs} (h : rdText s = some (x, r)) (h2 : ∀ q, r ≠ 58 :: q) : rdKey 4 s = none := by
  unfold rdKey; rw [if_pos rfl, h]
  cases r with
  | nil => rfl
  | cons c q => simp only; rw [if_neg (fun e => h2 q (by rw [e]))]
theorem rk_list {s : Bs} : rdKey 3 s = some ([], s) := by unfold rdKey; rw [if_neg (by decide)]
theorem rp_yes {f : Bs → Option (Nd × Bs)} {k : Int} {c : UInt8} {t : Bs} {p : Nat} (h : preM [c] (t.drop p) = true) : rdParts f k c (t.drop p) = some (⟨k, 0, [], [], []⟩, t.drop (p + 1)) := by
  unfold rdParts; rw [if_pos h, List.drop_drop]
theorem rp_no {f : Bs → Option (Nd × Bs)} {k : Int} {c : UInt8} {s : Bs} (h : preM [c] s = false) : rdParts f k c s = rdLoop f k c [] [] s := by
  unfold rdParts; rw [if_neg (by rw [h]; simp)]
end Go.Rs
end
section
/-! The texts of nodes, read as the reference reads them. -/
namespace Go.Rs
-- numbers
def digC (c : UInt8) : Prop := 48 ≤ c.toNat ∧ c.toNat ≤ 57
instance (c : UInt8) : Decidable (digC c) := inferInstanceAs (Decidable (_ ∧ _))
-- nodes
-- both
theorem valid_shape {n : Nd} (h : validM n = true) : shapeM 5 n = true := by
  simp only [validM, Bool.and_eq_true] at h; exact h.1
theorem offN_nil : offN [] := fun _ _ e => by cases e
theorem rd_valid {n : Nd} (h : validM n = true) : rdN 5 (fmtM n) = some (n, []) := by
  have := rdN_full (r := []) (valid_shape h) offN_nil
  rwa [List.append_nil] at this
theorem fmt_one {n m : Nd} (hn : validM n = true) (hm : validM m = true) (h : fmtM n = fmtM m) : n = m := by
  have h1 := rd_valid hn
  rw [h, rd_valid hm] at h1
  cases h1; rfl
open Classical in
noncomputable def parseM (s : Bs) : Option Nd := if h : ∃ n, (validM n = true ∧ fmtM n = s) ∧ s.length ≤ 2000 then some h.choose else none
theorem parse_some {s : Bs} {n : Nd} (h : parseM s = some n) : (validM n = true ∧ fmtM n = s) ∧ s.length ≤ 2000 := by
  unfold parseM at h
  split at h
  · rename_i hx; cases h; exact hx.choose_spec
  · cases h
theorem parse_eq {s : Bs} {n : Nd} (hn : validM n = true) (h : fmtM n = s) (hl : s.length ≤ 2000) : parseM s = some n := by
  unfold parseM
  have hx : ∃ n, (validM n = true ∧ fmtM n = s) ∧ s.length ≤ 2000 := ⟨n, ⟨hn, h⟩, hl⟩
  rw [dif_pos hx]
  congr 1
  exact fmt_one hx.choose_spec.1.1 hn (hx.choose_spec.1.2.trans h.symm)
theorem parse_none {s : Bs} (h : ∀ n, validM n = true → fmtM n = s → s.length ≤ 2000 → False) : parseM s = none := by
  cases e : parseM s with
  | none => rfl
  | some n => exact (h n (parse_some e).1.1 (parse_some e).1.2 (parse_some e).2).elim
theorem parse_long {s : Bs} (h : 2000 < s.length) : parseM s = none := parse_none fun _ _ _ h1 => by omega
theorem rd_yes {s : Bs} {n : Nd} (h : rdN 5 s = some (n, [])) (hv : validM n = true) (hl : s.length ≤ 2000) : parseM s = some n := parse_eq hv (by rw [rdN_sound h, List.append_nil]) hl
theorem rd_no1 {s : Bs} (h : rdN 5 s = none) : parseM s = none := parse_none fun n hv he _ => by rw [← he, rd_valid hv] at h; cases h
theorem rd_no2 {s q : Bs} {n : Nd} (h : rdN 5 s = some (n, q)) (h2 : q ≠ [] ∨ validM n = false) : parseM s = none := parse_none fun m hv he _ => by
  rw [← he, rd_valid hv] at h
  cases h
  rcases h2 with h2 | h2
  · exact h2 rfl
  · rw [hv] at h2; cases h2
theorem parse_fmt {n : Nd} (hn : validM n = true) (hl : (fmtM n).length ≤ 2000) : parseM (fmtM n) = some n := parse_eq hn rfl hl
-- by places
section
variable {f : Bs → Option (Nd × Bs)} {k : Int} {c : UInt8} {ns n : List Bs} {ks : List Nd} {x : Nd} {s s1 s2 s3 : Bs}
end
end Go.Rs
end
section
/-! Three nodes merged. -/
namespace Go.Rs
-- ascending lists of names
end Go.Rs
end
section
/-! Three nodes merged: facts. -/
namespace Go.Rs
end Go.Rs
end
