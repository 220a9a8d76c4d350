import Derived.Test.YtmgheiagnleeiaaDoorMA
set_option linter.all false
section
/-! Plain models: sorted items, places. -/
namespace Go.Rs
end Go.Rs
end
section
/-! Plain models: sorted stores, by pairs. -/
namespace Go.Rs
end Go.Rs
end
section
/-! Plain models: decimals, places, slots; nodes with a kid more. -/
namespace Go.Rs
def decM (n : Nat) : Bs := if h : n < 10 then [UInt8.ofNat (48 + n)] else decM (n / 10) ++ [UInt8.ofNat (48 + n % 10)]
termination_by n
theorem decM_lt {n : Nat} (h : n < 10) : decM n = [UInt8.ofNat (48 + n)] := by rw [decM, dif_pos h]
theorem decM_ge {n : Nat} (h : ¬ n < 10) : decM n = decM (n / 10) ++ [UInt8.ofNat (48 + n % 10)] := by rw [decM, dif_neg h]
theorem decM_len (n : Nat) : (decM n).length ≤ n + 1 := by
  induction n using Nat.strongRecOn with
  | _ n ih =>
    by_cases h : n < 10
    · rw [decM_lt h]; simp
    · rw [decM_ge h]
      have := ih (n / 10) (by omega)
      simp; omega
def hitM (n : Nd) (b : Bs) (i : Nat) : Bool := (decide (n.kind = 4) && decide (n.names.getD i [] = b)) || (decide (n.kind = 3) && decide (decM i = b))
def placeM (n : Nd) (b : Bs) : Int := match (List.range n.kids.length).find? (hitM n b) with
  | some i => i
  | none => -1
def slotI (n : Nd) (b : Bs) : Nat := (List.range n.kids.length).findIdx fun i => ltS b (n.names.getD i [])
def slotM (n : Nd) (b : Bs) : Int × Bool :=
  if 0 ≤ placeM n b then (placeM n b, decide (n.kind = 4))
  else if n.kind = 3 ∧ (b = [45] ∨ b = decM n.kids.length) then (n.kids.length, false)
  else if n.kind = 4 then (slotI n b, false)
  else (-1, false)
theorem slotM_not {n : Nd} {b : Bs} (h : placeM n b < 0) : (slotM n b).2 = false := by
  unfold slotM; rw [if_neg (by omega)]; (repeat' split) <;> rfl
def withKidM (n : Nd) (i : Nat) (x : Nd) : Nd := ⟨n.kind, n.num, n.text, n.names, n.kids.set i x⟩
def insM {α : Type} (l : List α) (i : Nat) (x : α) : List α := l.take i ++ [x] ++ l.drop i
theorem insM_len {α : Type} (l : List α) (i : Nat) (x : α) : (insM l i x).length = l.length + 1 := by
  simp [insM]; omega
def addHereM (n : Nd) (b : Bs) (x : Nd) : Option Nd :=
  if (slotM n b).1 < 0 then none
  else if (slotM n b).2 then some (withKidM n (slotM n b).1.toNat x)
  else some ⟨n.kind, 0, [], if n.kind = 3 then [] else insM n.names (slotM n b).1.toNat b, insM n.kids (slotM n b).1.toNat x⟩
def optN (r : Option Nd) : AV := .tup [.st (ndC (r.getD default)), .bool r.isSome]
def evenN (n : Nd) : Prop := n.kind = 4 → n.names.length = n.kids.length
theorem addHereM_even {n m : Nd} {b : Bs} {x : Nd} (hn : evenN n) (h : addHereM n b x = some m) : evenN m ∧ m.kind = n.kind ∧ m.kids.length ≤ n.kids.length + 1 ∧ m.names.length ≤ n.names.length + 1 ∧ m.text.length ≤ n.text.length := by
  unfold addHereM at h
  split at h
  · cases h
  · split at h
    · cases h
      exact ⟨fun hk => by simpa [withKidM] using hn hk, rfl, by simp [withKidM], by simp [withKidM], by simp [withKidM]⟩
    · cases h
      refine ⟨fun hk => ?_, rfl, by simp only; rw [insM_len]; omega, ?_, by simp⟩
      · have e3 : ¬ n.kind = 3 := by simp only at hk; omega
        simp only [e3, if_false, insM_len, hn hk]
      · simp only; split
        · simp
        · rw [insM_len]; omega
theorem addHereM_mem {n m : Nd} {b : Bs} {x : Nd} (h : addHereM n b x = some m) : ∀ y ∈ m.kids, y ∈ n.kids ∨ y = x := by
  unfold addHereM at h
  intro y hy
  split at h
  · cases h
  · split at h
    · cases h
      exact (List.mem_or_eq_of_mem_set hy)
    · cases h
      simp only [insM, List.mem_append, List.mem_singleton] at hy
      rcases hy with (hy | hy) | hy
      · exact .inl (List.mem_of_mem_take hy)
      · exact .inr hy
      · exact .inl (List.mem_of_mem_drop hy)
theorem addHereM_sm {n m : Nd} {b : Bs} {x : Nd} (hn : evenN n) (h : addHereM n b x = some m) (h1 : smN n) (h2 : smN x) (h3 : n.kids.length ≤ 1000) (h4 : n.names.length ≤ 1000) : smN m := by
  obtain ⟨-, -, k1, k2, k3⟩ := addHereM_even hn h
  exact .mk (by have := h1.text; omega) (by omega) (by omega) fun y hy => by
    rcases addHereM_mem h y hy with hy | rfl
    · exact h1.mem hy
    · exact h2
def byOk (l : List Int) : Prop := ∀ x ∈ l, 0 ≤ x ∧ x ≤ 255
theorem byOk.get {l : List Int} (h : byOk l) (j : Nat) : 0 ≤ l.getD j 0 ∧ l.getD j 0 ≤ 255 := by
  by_cases hj : j < l.length
  · rw [getD_get hj]; exact h _ (List.getElem_mem hj)
  · simp [List.getD_eq_getElem?_getD, List.getElem?_eq_none (Nat.le_of_not_lt hj)]
theorem byOk.take {l : List Int} (h : byOk l) (n : Nat) : byOk (l.take n) := fun x hx => h x (List.mem_of_mem_take hx)
theorem getD_mem {α : Type} {l : List α} {d : α} {j : Nat} (h : j < l.length) : l.getD j d ∈ l := by rw [getD_get h]; exact List.getElem_mem h
def mapOk (m : Nd) (c : Int) : Prop := m.kind = 4 ∧ evenN m ∧ smN m ∧ m.kids.length + c ≤ 4 ∧ 0 ≤ c
theorem addHereM_some {m : Nd} {b : Bs} {x : Nd} (hk : m.kind = 4) (hp : placeM m b < 0) : ∃ r, addHereM m b x = some r := by
  have h1 : 0 ≤ (slotM m b).1 := by
    unfold slotM; rw [if_neg (by omega), if_neg (by omega), if_pos hk]; simp only; omega
  unfold addHereM
  rw [if_neg (by omega), slotM_not hp]
  exact ⟨_, rfl⟩
theorem mapOk.add {m : Nd} {c : Int} (h : mapOk m c) (hc : 0 < c) {b : Bs} {x : Nd} (hx : smN x) (hp : placeM m b < 0) : mapOk ((addHereM m b x).getD default) (c - 1) := by
  obtain ⟨hk, he, hs, hl, -⟩ := h
  obtain ⟨r, hr⟩ := addHereM_some (x := x) hk hp
  obtain ⟨k1, k2, k3, -, -⟩ := addHereM_even he hr
  have := addHereM_sm he hr hs hx (by omega) (by have := he hk; omega)
  rw [hr, Option.getD_some]
  exact ⟨k2.trans hk, k1, this, by omega, by omega⟩
theorem mapOk.stay {m : Nd} {c : Int} (h : mapOk m c) (hc : 0 < c) : mapOk m (c - 1) := by
  obtain ⟨hk, he, hs, hl, -⟩ := h
  exact ⟨hk, he, hs, by omega, by omega⟩
end Go.Rs
end
section
/-! Plain models: finding documents, histories of names, lags. -/
namespace Go.Rs
def nlV (E : El) : List (ElT E) → AV
  | [] => .nils E
  | _ :: _ => .ls 900
def nlL (E : El) : List (ElT E) → List (Nat × LC)
  | [] => []
  | a :: l => [(900, .arr E (a :: l))]
end Go.Rs
end
section
/-! Stores handed over. -/
namespace Go.Rs
end Go.Rs
end
