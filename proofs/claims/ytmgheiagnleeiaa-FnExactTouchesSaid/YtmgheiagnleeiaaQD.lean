import Derived.Test.YtmgheiagnleeiaaCP
import Derived.Test.YtmgheiagnleeiaaCC
import Derived.Test.YtmgheiagnleeiaaMA
import Derived.Test.YtmgheiagnleeiaaFG
import Derived.Test.YtmgheiagnleeiaaFH
import Derived.Test.YtmgheiagnleeiaaEH
import Derived.Test.YtmgheiagnleeiaaIns
import Derived.Test.YtmgheiagnleeiaaMJ
import Derived.Shelf.Slices.CompactS
set_option linter.all false
set_option linter.unusedSimpArgs false
set_option linter.unusedVariables false
namespace Go.Proofs
open Go.Shelf
def Try.lays194_ren : Go.Shelf.Ren := ⟨fun | 194 => 20 | n => n, fun | 31 => 24 | 9 => 9 | 3 => 3 | 4 => 4 | 0 => 0 | n => n, fun | n => n⟩
theorem Try.lays194 : Go.Proofs.Lays.n194 Try.prog Try.lays194_ren := {
  mixed := by kernel_rfl
  f194 := Try.func20.trans (congrArg some (by kernel_rfl))
  t0 := Try.underlying0
  a0 := Try.isAgg0
  z0 := Try.sizeOf0
  v0 := Try.zeroValue0
  t3 := Try.underlying3
  a3 := Try.isAgg3
  z3 := Try.sizeOf3
  v3 := Try.zeroValue3
  t4 := Try.underlying4
  a4 := Try.isAgg4
  z4 := Try.sizeOf4
  v4 := Try.zeroValue4
  t9 := Try.underlying9
  a9 := Try.isAgg9
  z9 := Try.sizeOf9
  v9 := Try.zeroValue9
  t31 := Try.underlying24
  a31 := Try.isAgg24
  z31 := Try.sizeOf24
  v31 := Try.zeroValue24 }
end Go.Proofs
namespace Go.Rs
open Go.Proofs Go.RowKit Go.Sort
set_option maxRecDepth 100000
set_option maxHeartbeats 4000000
theorem put_heap {enc : Bs → Value} {w : World} {blk T : Nat} {xs : List Value} (hb : w.heap[blk]? = some (.cells xs.toArray T (0, 0))) (d : Array Bs) :
    (putRow enc w blk 0 d).heap[blk]? = some (.cells (putCells enc 0 d xs.toArray) T (0, 0)) ∧ (∀ k, k ≠ blk → (putRow enc w blk 0 d).heap[k]? = w.heap[k]?) := by
  unfold putRow mapBlock
  constructor
  · simp only [Array.getElem?_modify, hb, if_true, Option.map_some, onCells]
  · intro k hk
    simp [Array.getElem?_modify, Ne.symm hk]
theorem putC_len {enc : Bs → Value} {d : Array Bs} {xs : List Value} : (putCells enc 0 d xs.toArray).toList.length = xs.length := by simp [putCells]
theorem put_get {enc : Bs → Value} {d : Array Bs} {xs : List Value} {i : Nat} (h : i < d.size) (hx : i < xs.length) : (putCells enc 0 d xs.toArray).toList.getD i undef = enc d[i]! := by
  simp [putCells, List.getD_eq_getElem?_getD, hx, h]
theorem put_one {enc : Bs → Value} {d : Array Bs} {xs : List Value} (he : ∀ b, (enc b).oneCell' = true) (h : ∀ x ∈ xs, x.oneCell' = true) : ∀ x ∈ (putCells enc 0 d xs.toArray).toList, x.oneCell' = true := by
  intro x hx
  simp only [putCells, Array.toList_mapIdx, List.mem_mapIdx] at hx
  obtain ⟨i, hi, rfl⟩ := hx
  split
  · exact he _
  · exact h _ (List.getElem_mem hi)
theorem kcompact (l : List Bs) (hl : l.length ≤ 1000000) (w : World) (b cap T : Nat) (xs : List Value) (hc : l.length ≤ cap) (hb : w.heap[b]? = some (.cells xs.toArray T (0, 0))) (hx : xs.length = cap)
    (hr : ∀ i, i < l.length → xs.getD i undef = .string ⟨(l.getD i []).toArray⟩) :
    Calls Try.prog 20 #[.slice (some ⟨b, 0, none⟩) l.length cap] w fun e w' => e = .returned (.slice (some ⟨b, 0, none⟩) (Lib.compact l).length cap) ∧
      ∃ q d, d.size = l.length ∧ (∀ i, i < (Lib.compact l).length → d[i]! = (Lib.compact l).getD i []) ∧ w' = putRow encStr (Sort.ahead w q) b 0 d := by
  have hH : Holds encStr w b 0 l.toArray := by
    intro j hj
    simp only [List.size_toArray] at hj
    rw [arr_get hj, Nat.zero_add]
    refine ⟨?_, row_frozen hb _⟩
    rw [row_cell hb]
    have := hr j hj
    rw [List.getD_eq_getElem?_getD] at this
    rw [List.getElem?_eq_getElem (by omega)] at this ⊢
    exact congrArg some this
  refine (Any.slices_Compact_string Try.lays194 b 0 cap l w hH (by omega) hc).mono ?_
  rintro e w' ⟨rfl, q, rfl⟩
  have hcl := compact_len l
  refine ⟨rfl, q, _, by simp; omega, fun i hi => ?_, rfl⟩
  rw [arr_get (by simp; omega), List.getD_eq_getElem?_getD, List.getElem?_append_left hi, ← List.getD_eq_getElem?_getD]
noncomputable def c20 (l : List Bs) (K : AV → List AV → Prop) : Prop :=
    Obl (l.length ≤ 1000000 ∧ srt l l.length) (∀ r : List Bs, r.length ≤ l.length → ascS r → (∀ x, x ∈ r ↔ x ∈ l) → K (.own .str r) [])
noncomputable def C20 : List AV → (AV → List AV → Prop) → Prop
  | [.own .str l], K => c20 l K
  | _, _ => False
theorem s20 : CtrOK Try.prog 20 (.gen .ow C20) ∧ Callable Try.prog 20 := by
  refine ⟨fun args K h => ?_, callable Try.func20 rfl (by rfl)⟩
  unfold C20 at h
  split at h
  case h_2 => exact h.elim
  rename_i l
  unfold c20 at h
  obtain ⟨⟨hl, hs⟩, hK⟩ := h
  have hK := hK (Lib.compact l) (compact_len l) (compact_asc hs) fun x => compact_mem
  intro w γ S xs hi hn hf ht hsT
  cases hi with
  | cons h2 h3 =>
    cases h3
    cases h2 with
    | val h2 =>
      cases h2 with
      | cell h2 =>
        cases h2 with
        | per h2 _ => cases h2
        | own0 E a =>
          refine (Any.slices_Compact_string_empty Try.lays194 a 0 w).mono ?_
          rintro e w' ⟨rfl, rfl⟩
          exact ⟨_, [], _, γ, [], [], hK, rfl, .one (.cell (.own0 _ a)), .nil, by simp, ⟨rfl, rfl, rfl, Nat.le_refl _, fun _ _ _ => ⟨rfl, rfl⟩, hf, by simp⟩, by simp⟩
        | own E l b cap ys hM hc h0 hrow hyl hr =>
          obtain ⟨hg0, hone, T, hb⟩ := hrow
          have hrs : ∀ i, i < l.length → ys.getD i undef = .string ⟨(l.getD i []).toArray⟩ := fun i hi => by
            have := hr i hi 0 (by decide)
            simp only [esz, Nat.mul_one, Nat.add_zero] at this
            exact rep_str this
          refine (kcompact l hl w b cap T ys hc hb (by rw [hyl]; simp [esz]) hrs).mono ?_
          rintro e w' ⟨rfl, q, d, hd, hdg, rfl⟩
          have hcl := compact_len l
          obtain ⟨hp1, hp2⟩ := put_heap (enc := encStr) (w := Sort.ahead w q) hb d
          refine ⟨_, [], _, γ, [b], [], hK, rfl, .one (.cell (.own .str (Lib.compact l) b cap (putCells encStr 0 d ys.toArray).toList (by omega) (by omega) h0 ⟨hg0, put_one (fun _ => rfl) hone, T, ?_⟩ (by rw [putC_len, hyl]) fun i hi j hj => ?_)), .nil, by simp, ⟨rfl, rfl, rfl, by simp, fun k _ hk => ⟨?_, rfl⟩, fun k hk => hf k (by simpa using hk), fun k hk => ⟨Nat.le_refl _, fun o ho => ?_⟩⟩, by simp⟩
          · rw [hp1]
          · have ej : j = 0 := by simp only [esz] at hj; omega
            subst ej
            simp only [esz, Nat.mul_one, Nat.add_zero]
            have hM2 : ((Lib.compact l).getD i []).length ≤ MX := by
              have hmem := compact_mem.1 (getD_mem (d := ([] : Bs)) hi)
              obtain ⟨q', hq', hqe⟩ := List.getElem_of_mem hmem
              have hbd := (hr q' hq' 0 (by decide))
              simp only [esz, Nat.mul_one, Nat.add_zero] at hbd
              rw [hrs q' hq'] at hbd
              rw [← hqe, ← getD_get hq' []]
              have hbd2 : Rep noU noν γ w (.string ⟨(l.getD q' []).toArray⟩) (.str (l.getD q' [])) := hbd
              cases hbd2
              assumption
            rw [put_get (by omega) (by rw [hyl]; simp [esz]; omega), hdg i hi]
            exact .str _ hM2
          · exact hp2 k (by rintro rfl; exact hk (by simp))
          · have ek : k = b := by simpa using hk
            subst ek
            omega
end Go.Rs

