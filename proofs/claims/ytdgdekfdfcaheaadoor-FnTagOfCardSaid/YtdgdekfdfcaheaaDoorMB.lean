import Derived.Test.YtdgdekfdfcaheaaDoorMA
set_option linter.all false
section
/-! Plain models: sorted items, places. -/
namespace Go.Rs
end Go.Rs
end
section
/-! Plain models: sorted stores, by pairs. -/
namespace Go.Rs
end Go.Rs
end
section
/-! Plain models: decimals, places, slots; nodes with a kid more. -/
namespace Go.Rs
def decM (n : Nat) : Bs := if h : n < 10 then [UInt8.ofNat (48 + n)] else decM (n / 10) ++ [UInt8.ofNat (48 + n % 10)]
termination_by n
theorem decM_lt {n : Nat} (h : n < 10) : decM n = [UInt8.ofNat (48 + n)] := by rw [decM, dif_pos h]
theorem decM_ge {n : Nat} (h : ¬ n < 10) : decM n = decM (n / 10) ++ [UInt8.ofNat (48 + n % 10)] := by rw [decM, dif_neg h]
theorem decM_len (n : Nat) : (decM n).length ≤ n + 1 := by
  induction n using Nat.strongRecOn with
  | _ n ih =>
    by_cases h : n < 10
    · rw [decM_lt h]; simp
    · rw [decM_ge h]
      have := ih (n / 10) (by omega)
      simp; omega
def hitM (n : Nd) (b : Bs) (i : Nat) : Bool := (decide (n.kind = 4) && decide (n.names.getD i [] = b)) || (decide (n.kind = 3) && decide (decM i = b))
theorem hitM_iff {n : Nd} {b : Bs} {i : Nat} : hitM n b i = true ↔ (n.kind = 4 ∧ n.names.getD i [] = b) ∨ (n.kind = 3 ∧ decM i = b) := by
  simp only [hitM, Bool.or_eq_true, Bool.and_eq_true, decide_eq_true_eq]
theorem hitM_no {n : Nd} {b : Bs} {i : Nat} (h : (n.kind = 4 → n.names.getD i [] ≠ b) ∧ (n.kind = 3 → decM i ≠ b)) : hitM n b i = false := by
  rw [Bool.eq_false_iff]; intro hh
  rcases hitM_iff.1 hh with ⟨h1, h2⟩ | ⟨h1, h2⟩
  · exact h.1 h1 h2
  · exact h.2 h1 h2
def placeM (n : Nd) (b : Bs) : Int := match (List.range n.kids.length).find? (hitM n b) with
  | some i => i
  | none => -1
theorem placeM_at {n : Nd} {b : Bs} {i : Nat} (hi : i < n.kids.length) (h : hitM n b i = true) (hn : ∀ j, j < i → hitM n b j = false) : placeM n b = i := by
  unfold placeM
  have e : (List.range n.kids.length).find? (hitM n b) = some i := by
    rw [List.find?_range_eq_some]
    refine ⟨h, by simpa using hi, fun j hj => by simp [hn j hj]⟩
  rw [e]
theorem placeM_none {n : Nd} {b : Bs} (hn : ∀ j, j < n.kids.length → hitM n b j = false) : placeM n b = -1 := by
  unfold placeM
  have e : (List.range n.kids.length).find? (hitM n b) = none := by
    rw [List.find?_eq_none]
    intro j hj
    simp at hj
    simp [hn j hj]
  rw [e]
theorem placeM_ge (n : Nd) (b : Bs) : -1 ≤ placeM n b ∧ placeM n b < n.kids.length ∧ (0 ≤ placeM n b → hitM n b (placeM n b).toNat = true) := by
  unfold placeM
  split
  · rename_i i h
    rw [List.find?_range_eq_some] at h
    obtain ⟨h1, h2, -⟩ := h
    simp at h2
    exact ⟨by omega, by omega, fun _ => by simpa using h1⟩
  · exact ⟨by omega, by omega, fun h => by omega⟩
def slotI (n : Nd) (b : Bs) : Nat := (List.range n.kids.length).findIdx fun i => ltS b (n.names.getD i [])
theorem slotI_le (n : Nd) (b : Bs) : slotI n b ≤ n.kids.length := by
  have := List.findIdx_le_length (p := fun i => ltS b (n.names.getD i [])) (xs := List.range n.kids.length)
  simpa [slotI] using this
theorem slotI_at {n : Nd} {b : Bs} {i : Nat} (hi : i ≤ n.kids.length) (h : i < n.kids.length → ltS b (n.names.getD i []) = true)
    (hn : ∀ j, j < i → ltS b (n.names.getD j []) = false) : slotI n b = i := by
  have hle := slotI_le n b
  unfold slotI at *
  by_cases hk : i < n.kids.length
  · rw [List.findIdx_eq (by simpa using hk)]
    refine ⟨by simpa using h hk, fun j hj => by simpa using hn j hj⟩
  · have e : i = n.kids.length := by omega
    subst e
    have := List.findIdx_eq_length (p := fun i => ltS b (n.names.getD i [])) (xs := List.range n.kids.length)
    simp only [List.length_range] at this
    rw [this]
    intro x hx
    simp at hx
    exact hn x hx
def slotM (n : Nd) (b : Bs) : Int × Bool :=
  if 0 ≤ placeM n b then (placeM n b, decide (n.kind = 4))
  else if n.kind = 3 ∧ (b = [45] ∨ b = decM n.kids.length) then (n.kids.length, false)
  else if n.kind = 4 then (slotI n b, false)
  else (-1, false)
theorem slotM_ge (n : Nd) (b : Bs) : -1 ≤ (slotM n b).1 ∧ (slotM n b).1 ≤ n.kids.length ∧ ((slotM n b).2 = true → (slotM n b).1 < n.kids.length) ∧ (0 ≤ (slotM n b).1 → n.kind = 3 ∨ n.kind = 4) := by
  have h1 := placeM_ge n b
  have h2 := slotI_le n b
  unfold slotM
  split
  · refine ⟨by omega, by simp only; omega, fun _ => h1.2.1, fun h => ?_⟩
    have := h1.2.2 (by assumption)
    simp only [hitM, Bool.or_eq_true, Bool.and_eq_true, decide_eq_true_eq] at this
    omega
  · split
    · exact ⟨by omega, by simp, fun h => (by cases h), fun _ => .inl (by rename_i h _; exact h.1)⟩
    · split
      · exact ⟨by omega, by simp only; omega, fun h => (by cases h), fun _ => .inr (by assumption)⟩
      · exact ⟨by omega, by simp only; omega, fun h => (by cases h), fun h => by simp at h⟩
theorem slotM_not {n : Nd} {b : Bs} (h : placeM n b < 0) : (slotM n b).2 = false := by
  unfold slotM; rw [if_neg (by omega)]; (repeat' split) <;> rfl
def withKidM (n : Nd) (i : Nat) (x : Nd) : Nd := ⟨n.kind, n.num, n.text, n.names, n.kids.set i x⟩
def insM {α : Type} (l : List α) (i : Nat) (x : α) : List α := l.take i ++ [x] ++ l.drop i
theorem insM_len {α : Type} (l : List α) (i : Nat) (x : α) : (insM l i x).length = l.length + 1 := by
  simp [insM]; omega
def addHereM (n : Nd) (b : Bs) (x : Nd) : Option Nd :=
  if (slotM n b).1 < 0 then none
  else if (slotM n b).2 then some (withKidM n (slotM n b).1.toNat x)
  else some ⟨n.kind, 0, [], if n.kind = 3 then [] else insM n.names (slotM n b).1.toNat b, insM n.kids (slotM n b).1.toNat x⟩
def optN (r : Option Nd) : AV := .tup [.st (ndC (r.getD default)), .bool r.isSome]
def optNO (r : Option Nd) : AV := .tup [.st [.int .i64 (r.getD default).kind, .int .i64 (r.getD default).num, .str (r.getD default).text, .own .str (r.getD default).names, .own .node (r.getD default).kids], .bool r.isSome]
def evenN (n : Nd) : Prop := n.kind = 4 → n.names.length = n.kids.length
theorem addHereM_even {n m : Nd} {b : Bs} {x : Nd} (hn : evenN n) (h : addHereM n b x = some m) : evenN m ∧ m.kind = n.kind ∧ m.kids.length ≤ n.kids.length + 1 ∧ m.names.length ≤ n.names.length + 1 ∧ m.text.length ≤ n.text.length := by
  unfold addHereM at h
  split at h
  · cases h
  · split at h
    · cases h
      exact ⟨fun hk => by simpa [withKidM] using hn hk, rfl, by simp [withKidM], by simp [withKidM], by simp [withKidM]⟩
    · cases h
      refine ⟨fun hk => ?_, rfl, by simp only; rw [insM_len]; omega, ?_, by simp⟩
      · have e3 : ¬ n.kind = 3 := by simp only at hk; omega
        simp only [e3, if_false, insM_len, hn hk]
      · simp only; split
        · simp
        · rw [insM_len]; omega
theorem addHereM_mem {n m : Nd} {b : Bs} {x : Nd} (h : addHereM n b x = some m) : ∀ y ∈ m.kids, y ∈ n.kids ∨ y = x := by
  unfold addHereM at h
  intro y hy
  split at h
  · cases h
  · split at h
    · cases h
      exact (List.mem_or_eq_of_mem_set hy)
    · cases h
      simp only [insM, List.mem_append, List.mem_singleton] at hy
      rcases hy with (hy | hy) | hy
      · exact .inl (List.mem_of_mem_take hy)
      · exact .inr hy
      · exact .inl (List.mem_of_mem_drop hy)
theorem addHereM_sm {n m : Nd} {b : Bs} {x : Nd} (hn : evenN n) (h : addHereM n b x = some m) (h1 : smN n) (h2 : smN x) (h3 : n.kids.length ≤ 1000) (h4 : n.names.length ≤ 1000) : smN m := by
  obtain ⟨-, -, k1, k2, k3⟩ := addHereM_even hn h
  exact .mk (by have := h1.text; omega) (by omega) (by omega) fun y hy => by
    rcases addHereM_mem h y hy with hy | rfl
    · exact h1.mem hy
    · exact h2
def costN (d : Int) : Int := if d ≤ 1 then 10 else if d ≤ 2 then 100 else 1000
def costR (d : Int) : Int := if d ≤ 1 then 60 else if d ≤ 2 then 90 else 900
theorem cost_facts (d : Int) : (1 ≤ d → d ≤ 3 → 5 + 4 * costN (d - 1) + 4 ≤ costR d) ∧ (2 ≤ d → d ≤ 3 → 6 + 3 * costN (d - 1) + 3 ≤ costN d ∧ 3 + costR d ≤ costN d) ∧ 10 ≤ costN d ∧ costN d ≤ 1000 ∧ costR d ≤ 900 ∧ 0 ≤ costR d := by
  unfold costN costR
  refine ⟨fun _ _ => ?_, fun _ _ => ?_, ?_, ?_, ?_, ?_⟩ <;> (repeat' split) <;> omega
def byOk (l : List Int) : Prop := ∀ x ∈ l, 0 ≤ x ∧ x ≤ 255
theorem byOk.get {l : List Int} (h : byOk l) (j : Nat) : 0 ≤ l.getD j 0 ∧ l.getD j 0 ≤ 255 := by
  by_cases hj : j < l.length
  · rw [getD_get hj]; exact h _ (List.getElem_mem hj)
  · simp [List.getD_eq_getElem?_getD, List.getElem?_eq_none (Nat.le_of_not_lt hj)]
theorem byOk.take {l : List Int} (h : byOk l) (n : Nat) : byOk (l.take n) := fun x hx => h x (List.mem_of_mem_take hx)
theorem emod_rng {m : Int} (h : 0 < m) (x : Int) : 0 ≤ x % m ∧ x % m < m := ⟨Int.emod_nonneg _ (by omega), Int.emod_lt_of_pos _ h⟩
theorem ediv_rng {m : Int} (h : 0 < m) (x : Int) (hx : 0 ≤ x) : 0 ≤ x / m ∧ x / m ≤ x := ⟨Int.ediv_nonneg hx (by omega), Int.ediv_le_self _ hx⟩
theorem getD_mem {α : Type} {l : List α} {d : α} {j : Nat} (h : j < l.length) : l.getD j d ∈ l := by rw [getD_get h]; exact List.getElem_mem h
theorem smN_mk {k m : Int} {t : Bs} {ns : List Bs} {l : List Nd} (h1 : t.length ≤ 2097152) (h2 : ns.length ≤ 2097152) (h3 : l.length ≤ 2097152) (h : ∀ x ∈ l, smN x) : smN ⟨k, m, t, ns, l⟩ := .mk h1 h2 h3 h
theorem smN_leaf {k m : Int} {t : Bs} (h1 : t.length ≤ 2097152) : smN ⟨k, m, t, [], []⟩ := .mk h1 (by simp) (by simp) (by simp)
theorem smN_one {k m : Int} {x : Nd} (h : smN x) : smN ⟨k, m, [], [], [x]⟩ := .mk (by simp) (by simp) (by simp) (by simpa using h)
theorem smN_eta {n : Nd} (h : smN n) : smN ⟨n.kind, n.num, n.text, n.names, n.kids⟩ := by cases n; exact h
def mapOk (m : Nd) (c : Int) : Prop := m.kind = 4 ∧ evenN m ∧ smN m ∧ m.kids.length + c ≤ 4 ∧ 0 ≤ c
theorem addHereM_some {m : Nd} {b : Bs} {x : Nd} (hk : m.kind = 4) (hp : placeM m b < 0) : ∃ r, addHereM m b x = some r := by
  have h1 : 0 ≤ (slotM m b).1 := by
    unfold slotM; rw [if_neg (by omega), if_neg (by omega), if_pos hk]; simp only; omega
  unfold addHereM
  rw [if_neg (by omega), slotM_not hp]
  exact ⟨_, rfl⟩
theorem mapOk.add {m : Nd} {c : Int} (h : mapOk m c) (hc : 0 < c) {b : Bs} {x : Nd} (hx : smN x) (hp : placeM m b < 0) : mapOk ((addHereM m b x).getD default) (c - 1) := by
  obtain ⟨hk, he, hs, hl, -⟩ := h
  obtain ⟨r, hr⟩ := addHereM_some (x := x) hk hp
  obtain ⟨k1, k2, k3, -, -⟩ := addHereM_even he hr
  have := addHereM_sm he hr hs hx (by omega) (by have := he hk; omega)
  rw [hr, Option.getD_some]
  exact ⟨k2.trans hk, k1, this, by omega, by omega⟩
theorem mapOk.stay {m : Nd} {c : Int} (h : mapOk m c) (hc : 0 < c) : mapOk m (c - 1) := by
  obtain ⟨hk, he, hs, hl, -⟩ := h
  exact ⟨hk, he, hs, by omega, by omega⟩
theorem mul_step (c T : Int) : c * T = (c - 1) * T + T := by rw [Int.sub_mul]; omega
theorem mul_le_c {c T : Int} {k : Int} (h0 : c ≤ k) (hT : 0 ≤ T) : c * T ≤ k * T := Int.mul_le_mul_of_nonneg_right h0 hT
theorem mul_nn {c T : Int} (h0 : 0 ≤ c) (hT : 0 ≤ T) : 0 ≤ c * T := Int.mul_nonneg h0 hT
theorem smN_ch {k k' m m' : Int} {t t' : Bs} {ns ns' : List Bs} {l : List Nd} (h : smN ⟨k, m, t, ns, l⟩) (h1 : t'.length ≤ 2097152) (h2 : ns'.length ≤ 2097152) : smN ⟨k', m', t', ns', l⟩ := .mk h1 h2 h.kids fun _ hx => h.mem hx
theorem smN_snoc {l : List Nd} {n : Nd} (h : ∀ x ∈ l, smN x) (hn : smN n) : ∀ x ∈ l ++ [n], smN x := by
  intro x hx
  simp at hx
  rcases hx with hx | rfl
  · exact h x hx
  · exact hn
end Go.Rs
end
section
/-! Plain models: finding documents, histories of names, lags. -/
namespace Go.Rs
def nlV (E : El) : List (ElT E) → AV
  | [] => .nils E
  | _ :: _ => .ls 900
def nlL (E : El) : List (ElT E) → List (Nat × LC)
  | [] => []
  | a :: l => [(900, .arr E (a :: l))]
end Go.Rs
end
section
/-! Stores handed over. -/
namespace Go.Rs
end Go.Rs
end
