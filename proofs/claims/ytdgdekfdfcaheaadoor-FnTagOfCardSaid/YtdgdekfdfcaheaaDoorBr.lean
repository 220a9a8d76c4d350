import Derived.Test.YtdgdekfdfcaheaaDoorMB
import Derived.Test.YtdgdekfdfcaheaaDoorFE
import Derived.Below
import Derived.DataReads
set_option linter.all false
section
/-! From a contract to a law's row: a law of bytes. -/
namespace Go.Rs
open Go.RowKit
theorem cell_block {w : World} {a : Addr} {v : Value} (h : w.cell? a = some v) : a.block < w.heap.size := by
  unfold World.cell? at h
  by_cases hb : a.block < w.heap.size
  · exact hb
  · rw [Array.getElem?_eq_none (by omega)] at h
    simp at h
def isRow (w : World) (a : Option Addr) (len cap : Nat) (zs : List Int) : Prop :=
  (a = none ∧ len = 0 ∧ cap = 0 ∧ zs = []) ∨
  ∃ x, a = some x ∧ len ≤ cap ∧ cap ≤ MX ∧ zs.length = cap ∧ (∀ i, i < zs.length → w.cell? (x.add i) = some (.int .u8 (zs.getD i 0))) ∧ ∀ n ∈ zs, (Lit.int .u8 n).wf = true
theorem law_bytes {P : Program} {f : Nat} {C : List AV → (AV → List AV → Prop) → Prop} (hs : Snd P f C)
    (hC : ∀ (code : List Int) (K : AV → List AV → Prop), byOk code → K (.bool true) [] → C [.ps .u8 code] K)
    {w : World} {a : Option Addr} {len cap : Nat} {zs : List Int} (h : isRow w a len cap zs) (ht : Tabs w) :
    Calls P f #[.slice a len cap] w fun e w' => e = .returned (.bool true) ∧ Below w.heap.size w w' := by
  have key : ∃ γ : Nat → Nat, ∃ l : List Int, (∀ b, w.heap.size ≤ b → γ b = 0) ∧ byOk l ∧ Rep noU noν γ w (.slice a len cap) (.ps .u8 l) := by
    rcases h with ⟨rfl, rfl, rfl, rfl⟩ | ⟨x, rfl, hl, hM, hz, hcell, hwf⟩
    · exact ⟨fun _ => 0, [], fun _ _ => rfl, fun x hx => (by cases hx), .ps .u8 [] none 0 (fun _ => undef) (by simp) (by simp) (.inl rfl) (fun k hk => by simp at hk) (fun i hi => by simp at hi)⟩
    · have hlen : (zs.take len).length = len := by simp; omega
      refine ⟨fun b => if b < w.heap.size then x.off + len else 0, zs.take len, fun b hb => if_neg (by omega), ?_, ?_⟩
      · intro n hn
        have := hwf n (List.mem_of_mem_take hn)
        simp only [Lit.wf, Bool.and_eq_true, decide_eq_true_eq] at this
        have h0 : IntKind.u8.min = 0 := by decide
        have h1 : IntKind.u8.max = 255 := by decide
        omega
      · have := Rep.ps (U := noU) (ν := noν) (γ := fun b => if b < w.heap.size then x.off + len else 0) (w := w) .u8 (zs.take len) (some x) cap (fun k => .int .u8 (zs.getD k 0)) (by rw [hlen]; omega) (by rw [hlen]; exact hl) ?_ (fun k hk => rfl) ?_
        · rw [hlen] at this; exact this
        · by_cases h0 : len = 0
          · left; subst h0; rfl
          · right
            have hc := hcell 0 (by omega)
            have hb := cell_block hc
            obtain ⟨b, off, spot⟩ := x
            have hspot : spot = none := by simpa [Addr.add] using World.cell?_spot hc
            subst hspot
            refine ⟨b, off, rfl, ?_, fun k hk => ?_⟩
            · have hb' : b < w.heap.size := hb
              simp only [hb', if_true, esz, hlen]; omega
            · rw [hlen] at hk
              have := hcell k (by simp [esz] at hk; omega)
              have e : (⟨b, off, none⟩ : Addr).add k = ⟨b, off + k, none⟩ := by
                unfold Addr.add
                split
                · rename_i h; subst h; rfl
                · rfl
              rw [e] at this
              exact this
        · intro i hi j hj
          simp only [esz] at hj
          have hj0 : j = 0 := by omega
          subst hj0
          rw [hlen] at hi
          have e : (zs.take len).getD i 0 = zs.getD i 0 := by simp [List.getD_eq_getElem?_getD, List.getElem?_take, hi]
          simp only [esz, Nat.mul_one, Nat.add_zero, enc, elDef]
          have e2 : ([AV.int IntKind.u8 ((zs.take len).getD i 0)] : List AV).getD 0 .opq = .int .u8 (zs.getD i 0) := by rw [e]; rfl
          rw [e2]
          exact .int _ _
  obtain ⟨γ, l, hγ, hby, hrep⟩ := key
  have hia : IAs γ w ([] ++ []) [.slice a len cap] [.ps .u8 l] := .cons (.val (.cell (.per hrep rfl))) .nil
  have := hs [.ps .u8 l] (fun r rs => r = .bool true ∧ rs = []) (hC l _ hby ⟨rfl, rfl⟩) w γ _ _ hia (by simp) hγ ht (by simp)
  refine this.mono fun e w' hh => ?_
  obtain ⟨r, rs, x, γ', Sr, Sq, ⟨rfl, rfl⟩, he, hir, -, -, hfr, -⟩ := hh
  have hx : Rep noU noν γ' w' x (.bool true) := scalar_rep (show Scalar (.bool true) from trivial) hir
  cases hx
  exact ⟨he, hfr.os, hfr.tape, hfr.output, hfr.size, fun k hk => (hfr.block k hk (by simp)).1⟩
end Go.Rs
end
