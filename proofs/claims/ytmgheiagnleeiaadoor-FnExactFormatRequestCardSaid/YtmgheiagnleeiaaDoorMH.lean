import Derived.Test.YtmgheiagnleeiaaDoorMG
set_option linter.all false
section
/-! Marks: what mark writes, what held finds. -/
namespace Go.Rs
def mkT (k : Int) : Bs := if k ≤ 0 then [109, 48] else 109 :: decM k.toNat
def mkS : List Bs → Int → List Bs
  | [], _ => []
  | _ :: r, k => mkT k :: mkS r (k + 1)
mutual
def totN : Nd → Nat
  | ⟨_, _, _, d, e⟩ => 3 + d.length + totNs e
def totNs : List Nd → Nat
  | [] => 0
  | n :: r => totN n + totNs r
end
mutual
def mkN : Nd → Int → Nd
  | ⟨_, _, _, d, e⟩, k => ⟨k, k + 1, mkT (k + 2), mkS d (k + 3), mkNs e (k + 3 + d.length)⟩
def mkNs : List Nd → Int → List Nd
  | [], _ => []
  | n :: r, k => mkN n k :: mkNs r (k + totN n)
end
def heS : List Bs → Int → Int
  | [], k => k
  | x :: r, k => if x = mkT k then heS r (k + 1) else -1
mutual
def heN : Nd → Int → Int
  | ⟨a, b, c, d, e⟩, k => if a = k then if b = k + 1 then if c = mkT (k + 2) then if heS d (k + 3) < 0 then -1 else heNs e (heS d (k + 3)) else -1 else -1 else -1
def heNs : List Nd → Int → Int
  | [], k => k
  | n :: r, k => if heN n k < 0 then -1 else heNs r (heN n k)
end
theorem heS_mk : ∀ (l : List Bs) (k : Int), heS (mkS l k) k = k + l.length
  | [], k => by simp [mkS, heS]
  | x :: r, k => by
    simp only [mkS, heS, if_true, heS_mk r (k + 1), List.length_cons]; omega
mutual
theorem heN_mk : ∀ (n : Nd) (k : Int), 0 ≤ k → heN (mkN n k) k = k + totN n
  | ⟨a, b, c, d, e⟩, k, hk => by
    have h2 := heNs_mk e (k + 3 + d.length) (by omega)
    simp only [mkN, heN, if_true, heS_mk, totN]
    rw [if_neg (by omega), h2]
    omega
theorem heNs_mk : ∀ (l : List Nd) (k : Int), 0 ≤ k → heNs (mkNs l k) k = k + totNs l
  | [], k, _ => by simp [mkNs, heNs, totNs]
  | n :: r, k, hk => by
    have h1 := heN_mk n k hk
    have h2 := heNs_mk r (k + totN n) (by omega)
    simp only [mkNs, heNs, h1, totNs]
    rw [if_neg (by omega), h2]
    omega
end
theorem totN_eq (n : Nd) : totN n = 3 + n.names.length + totNs n.kids := by cases n; rfl
theorem mkS_len : ∀ (l : List Bs) (k : Int), (mkS l k).length = l.length
  | [], _ => rfl
  | _ :: r, k => by simp [mkS, mkS_len r]
theorem heS_two : ∀ (l : List Bs) (k : Int), heS l k = -1 ∨ heS l k = k + l.length
  | [], k => by simp [heS]
  | x :: r, k => by
    simp only [heS, List.length_cons]
    split
    · rcases heS_two r (k + 1) with h | h <;> rw [h] <;> omega
    · exact .inl rfl
mutual
theorem heN_two : ∀ (n : Nd) (k : Int), heN n k = -1 ∨ heN n k = k + totN n
  | ⟨a, b, c, d, e⟩, k => by
    have h1 := heS_two d (k + 3)
    have h2 := heNs_two e (heS d (k + 3))
    simp only [heN, totN]
    split
    · split
      · split
        · split
          · exact .inl rfl
          · omega
        · exact .inl rfl
      · exact .inl rfl
    · exact .inl rfl
theorem heNs_two : ∀ (l : List Nd) (k : Int), heNs l k = -1 ∨ heNs l k = k + totNs l
  | [], k => by simp [heNs, totNs]
  | n :: r, k => by
    have h1 := heN_two n k
    have h2 := heNs_two r (heN n k)
    simp only [heNs, totNs]
    split
    · exact .inl rfl
    · omega
end
theorem take_at {β : Type} {l : List β} {i : Nat} (h : i < l.length) (d : β) : l.take (i + 1) = l.take i ++ [l.getD i d] := by
  rw [List.take_succ_eq_append_getElem h]
  simp [List.getD_eq_getElem?_getD, h]
theorem totNs_app : ∀ (a b : List Nd), totNs (a ++ b) = totNs a + totNs b
  | [], b => by simp [totNs]
  | n :: r, b => by simp only [List.cons_append, totNs, totNs_app r b]; omega
theorem totNs_take {l : List Nd} {i : Nat} (h : i < l.length) : totNs (l.take (i + 1)) = totNs (l.take i) + totN (l.getD i default) := by
  rw [take_at h default, totNs_app]; simp [totNs]
mutual
theorem totN_mk : ∀ (n : Nd) (k : Int), totN (mkN n k) = totN n
  | ⟨a, b, c, d, e⟩, k => by
    have h2 := totNs_mk e (k + 3 + d.length)
    simp only [mkN, totN, mkS_len, h2]
theorem totNs_mk : ∀ (l : List Nd) (k : Int), totNs (mkNs l k) = totNs l
  | [], k => by simp [mkNs]
  | n :: r, k => by
    have h1 := totN_mk n k
    have h2 := totNs_mk r (k + totN n)
    simp only [mkNs, totNs, h1, h2]
end
end Go.Rs
end
section
/-! How many marks a valid value bears. -/
namespace Go.Rs
def smWs (l : List Nws) : Prop := l.length ≤ 2097152 ∧ ∀ x ∈ l, smN x.node
def smF (x : Flt) : Prop := x.path.length ≤ 2097152 ∧ smN x.value
def smFs (l : List Flt) : Prop := l.length ≤ 2097152 ∧ ∀ x ∈ l, smF x
theorem smWs.kid {l : List Nws} (h : smWs l) {j : Nat} (hj : j < l.length) : smN (l.getD j default).node := by
  rw [getD_get hj]; exact h.2 _ (List.getElem_mem hj)
theorem smFs.kid {l : List Flt} (h : smFs l) {j : Nat} (hj : j < l.length) : smF (l.getD j default) := by
  rw [getD_get hj]; exact h.2 _ (List.getElem_mem hj)
end Go.Rs
end
section
/-! The union of two ascending lists of names. -/
namespace Go.Rs
end Go.Rs
end
