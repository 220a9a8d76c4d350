import Derived.Test.YtfaaemggaliojaaDoorFH
import Derived.Test.YtfaaemggaliojaaDoorIns
import Derived.Test.YtfaaemggaliojaaDoorCI
set_option linter.all false
set_option linter.unusedSimpArgs false
set_option linter.unusedVariables false
namespace Go.Rs
open Go.Rs Go.Proofs Go.RowKit Go.Lib
theorem delete_sndD {l : List It} {i j : Int} {K : AV → List AV → Prop} (h0 : 0 ≤ i) (hj : j = i + 1) (hi : j ≤ l.length) (hl : l.length ≤ 2097152) (hK : K (.dp .item (l.eraseIdx i.toNat)) []) :
    ∀ w γ S xs, IAs γ w S xs [.dp .item l, .int .i64 i, .int .i64 j] → S.Nodup → (∀ b, w.heap.size ≤ b → γ b = 0) →
    Calls Tryd.prog 43 xs.toArray w fun e w' => ∃ r rs x γ' Sr Sq, K r rs ∧ e = .returned x ∧ IR γ' w' Sr x r ∧ IAs γ' w' Sq (refVals [.dp .item l, .int .i64 i, .int .i64 j] xs) rs ∧ (Sr ++ Sq).Nodup ∧ Fr S γ w γ' w' ∧ ∀ b ∈ Sr ++ Sq, b ∈ S ∨ w.heap.size ≤ b := by
  intro w γ S xs hia hnd hf
  subst hj
  obtain ⟨k, rfl⟩ := Int.eq_ofNat_of_zero_le h0
  have hk : k < l.length := by omega
  rw [Int.toNat_natCast] at hK
  cases hia with
  | cons ha hia =>
  cases hia with
  | cons hb hia =>
  cases hia with
  | cons hc hia =>
  cases hia
  cases hb with
  | val hb => cases hb with
    | cell hb => cases hb with
      | per hb _ => cases hb with
        | int =>
  cases hc with
  | val hc => cases hc with
    | cell hc => cases hc with
      | per hc _ => cases hc with
        | int =>
  obtain ⟨zv, hv45, hzc, hzall⟩ : ∃ zv, (∀ w, (zeroValue 60).run Tryd.prog w = .ok zv w) ∧ zv.cells.size = 7 ∧ zv.cells.toList.all (fun x => x.oneCell') = true := by
    have h45 : ((Tryd.prog.info? 60).bind fun i => i.zero.map fun z => (z.cells.size, z.cells.toList.all (fun x => x.oneCell'))) = some (7, true) := by kernel_rfl
    obtain ⟨i0, h1, h2⟩ := Option.bind_eq_some_iff.1 h45
    obtain ⟨z, h3, h4⟩ := Option.map_eq_some_iff.1 h2
    simp only [Prod.mk.injEq] at h4
    exact ⟨z, fun w => by simp [zeroValue, typeInfo, h1, h3], h4.1, h4.2⟩
  have hzv1 : ∀ x ∈ zv.cells.toList, x.oneCell' = true := fun x hx => List.all_eq_true.1 hzall x hx
  have hZ1 : ∀ x ∈ (Builtin.zeroCells zv.cells 1).toList, x.oneCell' = true := zeroCells_one hzv1 (by omega) 1
  have hZl : (Builtin.zeroCells zv.cells 1).toList.length = 7 := by simp [Builtin.zeroCells, hzc]
  cases ha with
  | val ha => cases ha with
    | cell ha => cases ha with
      | per ha _ => cases ha
      | dp0 _ a => simp at hk
      | dp _ _ b c xs bs1 hM hlc hc0 hrow hxl hin1 =>
        obtain ⟨hbγ, hx1, T, hb⟩ := hrow
        have hxl' : xs.length = c * 7 := hxl
        refine (del_walk b l.length c k T xs w hk hlc hl hb hxl' hx1 hv45 (Z := (Builtin.zeroCells zv.cells 1).toList) rfl hZ1 hZl).mono fun e w' hh => ?_
        obtain ⟨he, X1, X2, h1, h2, hw⟩ := hh
        obtain ⟨hX2l, hX⟩ := delX hk hlc hxl' hZl h1 h2
        obtain ⟨f1, f2, f3⟩ := setRow_facts (w := w.drew) (ys := X1) hb
        have g0 := f2 T hb
        obtain ⟨g1, g2, g3⟩ := setRow_facts (ys := X2) g0
        have hX11 : ∀ x ∈ X1, x.oneCell' = true := by rw [h1]; exact one_app (one_take hx1 _) (one_take (one_drop hx1 _) _) (one_drop hx1 _)
        have hX21 : ∀ x ∈ X2, x.oneCell' = true := by rw [h2]; exact one_app (one_take hX11 _) hZ1 (one_drop hX11 _)
        have hheap : ∀ b', b' < w.heap.size → b' ∉ [b] → w'.heap[b']? = w.heap[b']? := fun b' _ h => by
          have h' : b' ≠ b := by simpa using h
          rw [hw, g1 b' h', f1 b' h']; rfl
        have hkeep : Keeps γ w γ w' := keeps_of hheap (by simp [hbγ]) hf
        have hlen : (l.eraseIdx k).length = l.length - 1 := by rw [List.length_eraseIdx]; simp [hk]
        have hX3 : ∀ m j, m < l.length - 1 → j < esz El.item → X2.getD (m * esz El.item + j) undef = if m < k then xs.getD (m * esz El.item + j) undef else xs.getD ((m + 1) * esz El.item + j) undef := fun m j hm hj => by
          show X2.getD (m * 7 + j) undef = if m < k then xs.getD (m * 7 + j) undef else xs.getD ((m + 1) * 7 + j) undef
          rw [List.getD_eq_getElem?_getD (l := X2), hX m j hm hj]
          split <;> rw [List.getD_eq_getElem?_getD]
        obtain ⟨hN, hmem⟩ := InnerI.erase hk hin1 hX3
        exact road_finN (S0 := [b]) (b' := b) (T := T) (Bag.lone hin1.pos) hlen (by omega) hN (fun c hc => .inl (hmem c hc)) (fun c hc => hin1.lt c (hmem c hc)) hX2l (by omega) hc0 hX21 (by rw [hw]; exact g2 T g0) hbγ (by rw [hw]; rfl) (by rw [hw]; rfl) (by rw [hw]; rfl) (by rw [hw, g3, f3]; exact Nat.le_refl _)
          hheap (by simp [hbγ]) hf (.inl (by simp)) he hK
end Go.Rs
namespace Go.Rs
open Go.Proofs
noncomputable def c43d (l : List It) (i : Int) (j : Int) (K : AV → List AV → Prop) : Prop :=
    Obl (0 ≤ i ∧ j = i + 1 ∧ j ≤ l.length ∧ l.length ≤ 2097152) (K (.dp .item (l.eraseIdx i.toNat)) [])
noncomputable def C43d : List AV → (AV → List AV → Prop) → Prop
  | [.dp .item l, .int .i64 i, .int .i64 j], K => c43d l i j K
  | _, _ => False
theorem s43d : CtrOK Tryd.prog 43 (.gen .ow C43d) ∧ Callable Tryd.prog 43 := by
  refine ⟨fun args K h => ?_, callable Tryd.func43 (by kernel_rfl) (by kernel_rfl)⟩
  unfold C43d at h
  split at h
  case h_2 => exact h.elim
  unfold c43d at h
  obtain ⟨h1, h2⟩ := h
  exact fun w γ S xs hi hn hf _ _ => delete_sndD h1.1 h1.2.1 h1.2.2.1 h1.2.2.2 h2 w γ S xs hi hn hf
end Go.Rs

