import Derived.Test.YtahppankhidkeaaDoorM2
set_option linter.all false
section
/-! Plain models: names of documents, stores. -/
namespace Go.Rs
def nameCh (c : UInt8) : Bool := (decide (97 ≤ c.toNat) && decide (c.toNat ≤ 122)) || (decide (48 ≤ c.toNat) && decide (c.toNat ≤ 57))
def nameM (b : Bs) : Bool := decide (1 ≤ b.length) && decide (b.length ≤ 8) && b.all nameCh
def itemOk (s : Sto) (j : Nat) : Bool :=
  nameM (s.items.getD j default).name && validM (s.items.getD j default).node && decide (1 ≤ (s.items.getD j default).version) && decide ((s.items.getD j default).version ≤ s.clock) &&
    (decide (j = 0) || ltS (s.items.getD (j - 1) default).name (s.items.getD j default).name)
def itemsM (s : Sto) : Bool := (List.range s.items.length).all (itemOk s)
theorem itemsM_iff (s : Sto) : itemsM s = true ↔ ∀ j, j < s.items.length → itemOk s j = true := by simp [itemsM]
theorem itemsM_no {s : Sto} {j : Nat} (h : j < s.items.length) (h' : itemOk s j = false) : itemsM s = false := by
  rw [Bool.eq_false_iff]; intro h2; rw [(itemsM_iff s).1 h2 j h] at h'; cases h'
def storeM (s : Sto) : Bool := itemsM s && decide (s.items.length ≤ 10) && decide (0 ≤ s.clock) && decide (s.clock ≤ 999)
def changeM (c : Chg) : Bool := nameM c.name && validM c.node && (!c.gone || decide (c.node.kind = 0))
theorem nat_byte_le (c : UInt8) : (c.toNat : Int) ≤ 255 := by have := c.toNat_lt; omega
end Go.Rs
end
