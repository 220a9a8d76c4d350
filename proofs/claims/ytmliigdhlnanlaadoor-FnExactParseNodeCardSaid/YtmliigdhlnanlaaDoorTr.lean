import Derived.Test.YtmliigdhlnanlaaDoorBr
import Derived.Test.YtmliigdhlnanlaaDoorMG
import Derived.SizedLaws
import Derived.ChangeArms
set_option linter.all false
section
/-! From a row's reading of its arguments to abstract values: trees of structs and slices. -/
namespace Go.Rs
open Go.RowKit
def topG (w : World) (b : Nat) : Nat := match w.heap[b]? with
  | some (.cells cs _ _) => cs.size
  | _ => 0
theorem topG_fresh {w : World} {b : Nat} (h : w.heap.size ≤ b) : topG w b = 0 := by
  unfold topG; rw [Array.getElem?_eq_none h]
def Pc (w : World) (cs : List Value) (off : Nat) (vs : List AV) : Prop := ∀ j, j < vs.length → Rep noU noν (topG w) w (cs.getD (off + j) undef) (vs.getD j .opq)
theorem Pc.nil {w : World} {cs : List Value} {off : Nat} : Pc w cs off [] := fun j h => by simp at h
theorem Pc.app {w : World} {cs : List Value} {off : Nat} {a b : List AV} (h1 : Pc w cs off a) (h2 : Pc w cs (off + a.length) b) : Pc w cs off (a ++ b) := by
  intro j hj
  rcases Nat.lt_or_ge j a.length with h | h
  · have e : (a ++ b).getD j AV.opq = a.getD j .opq := by simp only [List.getD_eq_getElem?_getD, List.getElem?_append_left h]
    rw [e]; exact h1 j h
  · have e : (a ++ b).getD j AV.opq = b.getD (j - a.length) .opq := by simp only [List.getD_eq_getElem?_getD, List.getElem?_append_right h]
    have := h2 (j - a.length) (by simp at hj; omega)
    rw [show off + a.length + (j - a.length) = off + j by omega] at this
    rw [e]; exact this
section
variable {H : Type} {enc' : TypeId × Value → H} {P : Program} {w : World}
def Rd (enc' : TypeId × Value → H) (P : Program) (w : World) (t n : Nat) (V : List AV → Prop) : Prop :=
  ∀ cs x, DataW.trod enc' P w 0 (fun _ => true) true n t cs = some x → (∀ m ∈ DataW.weights P t x.1, m ≤ reachBytes) → ∃ vs, V vs ∧ cs.length = vs.length ∧ Pc w cs 0 vs
def fI (vs : List AV) : Prop := ∃ k, vs = [.int .i64 k]
def fS (vs : List AV) : Prop := ∃ k : Bs, vs = [.str k]
def fL (E : El) (vs : List AV) : Prop := ∃ l : List (ElT E), vs = [.ps E l]
theorem Pc.one {x : Value} {v : AV} (h : Rep noU noν (topG w) w x v) : Pc w [x] 0 [v] := by
  intro j hj
  have : j = 0 := by simp at hj; omega
  subst this
  exact h
theorem reach_MX {n : Nat} (h : n ≤ reachBytes) : n ≤ MX := by
  have := reachBytes_lt
  unfold MX; omega
theorem rd_str {t n : Nat} (ht : P.underlying t = some .string) : Rd enc' P w t n fS := by
  intro cs x h hw
  obtain ⟨s, rfl, rfl, -⟩ := DataW.trod_string ht h
  have h1 : s.data.toList.length ≤ MX := reach_MX (hw _ (by simp [DataW.weights]))
  have h2 := Rep.str (U := noU) (ν := noν) (γ := topG w) (w := w) s.data.toList h1
  exact ⟨_, ⟨s.data.toList, rfl⟩, rfl, .one h2⟩
abbrev FL := List (Nat × (List AV → Prop) × Nat)
def offs : FL → Nat → List (Nat × Nat)
  | [], _ => []
  | x :: L, o => (o, x.1) :: offs L (o + x.2.2)
def cellsL : FL → Nat
  | [] => 0
  | x :: L => x.2.2 + cellsL L
def StT (P : Program) (t : Nat) (L : FL) : Prop := (∃ fs, P.underlying t = some (.struct fs) ∧ fs.toList.map (fun f => (f.offset, f.type)) = offs L 0) ∧ P.cellsOf t = cellsL L ∧ ∀ x ∈ L, P.cellsOf x.1 = x.2.2
theorem Rd.mono {t n : Nat} {V V' : List AV → Prop} (h : Rd enc' P w t n V) (hV : ∀ vs, V vs → V' vs) : Rd enc' P w t n V' := fun cs x hx hw => by
  obtain ⟨vs, h1, h2⟩ := h cs x hx hw
  exact ⟨vs, hV vs h1, h2⟩
end
structure TyN (P : Program) (tI tS tSs tN tNs : Nat) : Prop where
  i : P.underlying tI = some (.int .i64)
  s : P.underlying tS = some .string
  ss : P.underlying tSs = some (.slice tS)
  n : StT P tN [(tI, fI, 1), (tI, fI, 1), (tS, fS, 1), (tSs, fL .str, 1), (tNs, fL .node, 1)]
  ns : P.underlying tNs = some (.slice tN)
  cs : P.cellsOf tS = 1
  bs : 0 < P.bytesOf tS
  bn : 0 < P.bytesOf tN
section
variable {H : Type} {enc' : TypeId × Value → H} {P : Program} {w : World} {tI tB tS tSs tN tNs : Nat}
/-! Bounds of texts. -/
/-! Arguments. -/
theorem law_args {P : Program} {f : Nat} {C : List AV → (AV → List AV → Prop) → Prop} (hs : Snd P f C) {w : World} {xs : List Value} {args : List AV} (hi : IAs (topG w) w [] xs args)
    (hC : ∀ K : AV → List AV → Prop, K (.bool true) [] → C args K) (ht : Tabs w) : Calls P f xs.toArray w fun e w' => e = .returned (.bool true) ∧ Below w.heap.size w w' := by
  have := hs args (fun r rs => r = .bool true ∧ rs = []) (hC _ ⟨rfl, rfl⟩) w (topG w) _ _ hi (by simp) (fun b hb => topG_fresh hb) ht (by simp)
  refine this.mono fun e w' hh => ?_
  obtain ⟨r, rs, x, γ', Sr, Sq, ⟨rfl, rfl⟩, he, hir, -, -, hfr, -⟩ := hh
  have hx : Rep noU noν γ' w' x (.bool true) := scalar_rep (show Scalar (.bool true) from trivial) hir
  cases hx
  exact ⟨he, hfr.os, hfr.tape, hfr.output, hfr.size, fun k hk => (hfr.block k hk (by simp)).1⟩
end
end Go.Rs
end
