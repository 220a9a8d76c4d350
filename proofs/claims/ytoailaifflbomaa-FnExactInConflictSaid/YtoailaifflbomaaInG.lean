import Derived.Test.YtoailaifflbomaaFH
import Derived.Test.YtoailaifflbomaaInsF
set_option linter.all false
set_option linter.unusedSimpArgs false
set_option linter.unusedVariables false
namespace Go.Rs
open Go.Rs Go.Proofs Go.RowKit Go.Lib
theorem insert_sndD {l v : List It} {i : Int} {K : AV → List AV → Prop} (hi : 0 ≤ i ∧ i ≤ l.length) (hv1 : v.length = 1) (hl : l.length ≤ 2097152) (hK : K (.dp .item (l.take i.toNat ++ v ++ l.drop i.toNat)) []) :
    ∀ w γ S xs, IAs γ w S xs [.dp .item l, .int .i64 i, .dp .item v] → S.Nodup → (∀ b, w.heap.size ≤ b → γ b = 0) →
    Calls Try.prog 108 xs.toArray w fun e w' => ∃ r rs x γ' Sr Sq, K r rs ∧ e = .returned x ∧ IR γ' w' Sr x r ∧ IAs γ' w' Sq (refVals [.dp .item l, .int .i64 i, .dp .item v] xs) rs ∧ (Sr ++ Sq).Nodup ∧ Fr S γ w γ' w' ∧ ∀ b ∈ Sr ++ Sq, b ∈ S ∨ w.heap.size ≤ b := by
  intro w γ S xs hia hnd hf
  obtain ⟨k, rfl⟩ := Int.eq_ofNat_of_zero_le hi.1
  have hk : k ≤ l.length := by omega
  rw [Int.toNat_natCast] at hK
  cases hia with
  | cons ha hia =>
  cases hia with
  | cons hb hia =>
  cases hia with
  | cons hc hia =>
  cases hia
  cases hb with
  | val hb => cases hb with
    | cell hb => cases hb with
      | per hb _ => cases hb with
        | int =>
  cases hc with
  | val hc => cases hc with
    | cell hc => cases hc with
      | per hc _ => cases hc
      | dp0 => simp at hv1
      | dp _ _ vb vc ys bs2 hvM hvc hv0 hvrow hvl hvin =>
  obtain ⟨hvγ, hy1, Tv, hvb⟩ := hvrow
  have hyl : 7 ≤ ys.length := by rw [hvl]; simp only [esz]; omega
  obtain ⟨i0, zv, i45, hs45, hz45, hb45, hzc, hzall⟩ : ∃ i0 zv, Try.prog.info? 97 = some i0 ∧ i0.size = 7 ∧ i0.zero = some zv ∧ i0.bytes ≤ 256 ∧ zv.cells.size = 7 ∧ zv.cells.toList.all (fun x => x.oneCell') = true := by
    have h45 : ((Try.prog.info? 97).bind fun i => i.zero.map fun z => (i.size, i.bytes, z.cells.size, z.cells.toList.all (fun x => x.oneCell'))) = some (7, 104, 7, true) := by kernel_rfl
    obtain ⟨i0, h1, h2⟩ := Option.bind_eq_some_iff.1 h45
    obtain ⟨z, h3, h4⟩ := Option.map_eq_some_iff.1 h2
    simp only [Prod.mk.injEq] at h4
    exact ⟨i0, z, h1, h4.1, h3, by omega, h4.2.2.1, h4.2.2.2⟩
  have hzv1 : ∀ x ∈ zv.cells.toList, x.oneCell' = true := fun x hx => List.all_eq_true.1 hzall x hx
  rw [hv1]
  have hvlt : vb < w.heap.size := RowI.lt ⟨hvγ, hy1, Tv, hvb⟩
  cases ha with
  | val ha => cases ha with
    | cell ha => cases ha with
      | per ha _ => cases ha
      | dp0 _ a =>
        have hk0 : k = 0 := by simpa using hk
        subst hk0
        refine (ins_more a 0 0 vb vc Tv [] ys w (by omega) (by omega) (by omega) (fun w' hw' => by
          cases a with
          | none => exact run_firstCells_none w' 7 0 0 0
          | some a => exact run_firstCells_some w' 7 0 a 0 0 [] rfl (fun j v hj => by simp at hj)) hvb hyl i45 hs45 hz45 hb45 (zs := zv.cells) rfl (fun _ => rfl)).mono fun e w' hh => ?_
        obtain ⟨G, hG, he, hw⟩ := hh
        have hz0 : zv.cells.size ≠ 0 := by omega
        have hXl : (([] : List Value) ++ ys.take 7 ++ (Builtin.zeroCells zv.cells (G - (0 + 1))).toList).length = G * 7 := by
          have hzl : ∀ k, (Builtin.zeroCells zv.cells k).toList.length = k * 7 := fun k => by simp [Builtin.zeroCells, hzc]
          simp only [List.length_append, List.length_take, List.length_nil, hzl]; omega
        exact road_finD (E := .item) (S0 := [vb]) (xs := []) (bs1 := fun _ => []) (b' := w.heap.size) (T := 97) (k := 0) (l := []) (Nat.le_refl _) hv1 hl (⟨fun i hi => absurd hi (by simp), by simp [inn], by simp [inn]⟩) hvin (by simpa [inn, hv1] using Bag.one (w := w) hvin.pos) (insX_more (xs := []) (olds := []) (n := 0) rfl (fun m hm => rfl) hyl rfl).get hXl hG
          (one_app (by simp) (one_take hy1 _) (zeroCells_one hzv1 hz0 _)) (by rw [hw]; exact alloc_new) (hf _ (Nat.le_refl _)) (by rw [hw]; rfl) (by rw [hw]; rfl) (by rw [hw]; rfl) (by rw [hw]; show w.heap.size ≤ (w.heap.push _).size; simp)
          (fun b' h _ => by rw [hw]; exact alloc_old h) (by simp [hvγ]) hf (.inr (Nat.le_refl _)) he hK
      | dp _ _ b c xs bs1 hM hlc h0 hrow hxl hin1 =>
        obtain ⟨hbγ, hx1, T, hb⟩ := hrow
        have hBag := Bag.two (w := w) hnd hin1.pos hvin.pos
        have hne : vb ≠ b := by
          intro e; subst e; simp at hnd
        have hxl' : xs.length = c * 7 := hxl
        by_cases hkn : k < l.length
        · by_cases hroom : l.length + 1 ≤ c
          · refine (ins_shift b l.length c k vb vc T Tv xs ys w hkn hroom hl hne hb hvb hxl' hyl hx1 hy1).mono fun e w' hh => ?_
            obtain ⟨he, X1, X2, h1, h2, hw⟩ := hh
            obtain ⟨hX2l, hX⟩ := insX_shift hkn hroom hxl' hyl h1 h2
            obtain ⟨f1, f2, f3⟩ := setRow_facts (w := w.drew) (ys := X1) hb
            have g0 := f2 T hb
            obtain ⟨g1, g2, g3⟩ := setRow_facts (ys := X2) g0
            have hheap : ∀ b', b' ≠ b → w'.heap[b']? = w.heap[b']? := fun b' h => by rw [hw, g1 b' h, f1 b' h]; rfl
            have hsz : w'.heap.size = w.heap.size := by rw [hw, g3, f3]; rfl
            have hX11 : ∀ x ∈ X1, x.oneCell' = true := by rw [h1]; exact one_app (one_take hx1 _) (one_take (one_drop hx1 _) _) (one_drop hx1 _)
            have hX21 : ∀ x ∈ X2, x.oneCell' = true := by rw [h2]; exact one_app (one_take hX11 _) (one_take hy1 _) (one_drop hX11 _)
            exact road_finD (E := .item) (S0 := [b, vb]) (b' := b) (T := T) hk hv1 hl hin1 hvin (by simpa only [hv1] using hBag) hX.get hX2l hroom hX21 (by rw [hw]; exact g2 T g0) hbγ (by rw [hw]; rfl) (by rw [hw]; rfl) (by rw [hw]; rfl) (by omega)
              (fun b' _ h => hheap b' (by intro e; subst e; simp at h)) (by simp [hbγ, hvγ]) hf (.inl (by simp)) he hK
          · refine (ins_grow b l.length c k vb vc T Tv xs ys w hkn hlc (by omega) (by omega) hne hb hvb hxl' hyl hx1 hy1 i45 hs45 hz45 hb45 (zs := zv.cells) rfl hzc).mono fun e w' hh => ?_
            obtain ⟨G, hG, he, R, X1, X2, hR, h1, h2, hw⟩ := hh
            have hRl : R.length = G * 7 := by
              have hzl : ∀ k, (Builtin.zeroCells zv.cells k).toList.length = k * 7 := fun k => by simp [Builtin.zeroCells, hzc]
              rw [hR]; simp only [List.length_append, List.length_take, hzl]; omega
            obtain ⟨hX2l, hX⟩ := insX_grow (Z := (Builtin.zeroCells zv.cells (l.length + 1 - k)).toList ++ (Builtin.zeroCells zv.cells (G - (l.length + 1))).toList) hkn hlc hG hxl' hyl (by rw [hR, List.append_assoc]) hRl h1 h2
            have hz0 : zv.cells.size ≠ 0 := by omega
            have hR1 : ∀ x ∈ R, x.oneCell' = true := by rw [hR]; exact one_app (one_take hx1 _) (zeroCells_one hzv1 hz0 _) (zeroCells_one hzv1 hz0 _)
            have hX11 : ∀ x ∈ X1, x.oneCell' = true := by rw [h1]; exact one_app (one_take hR1 _) (one_take hy1 _) (one_drop hR1 _)
            have hX21 : ∀ x ∈ X2, x.oneCell' = true := by rw [h2]; exact one_app (one_take hX11 _) (one_take (one_drop hx1 _) _) (one_drop hX11 _)
            have a0 : ((w.alloc (.cells R.toArray 97)).drew).heap[w.heap.size]? = some (.cells R.toArray 97 (0, 0)) := alloc_new
            obtain ⟨f1, f2, f3⟩ := setRow_facts (w := (w.alloc (.cells R.toArray 97)).drew) (ys := X1) a0
            have g0 : (((w.alloc (.cells R.toArray 97)).drew.setRow w.heap.size X1.toArray).drew).heap[w.heap.size]? = some (.cells X1.toArray 97 (0, 0)) := f2 _ a0
            obtain ⟨g1, g2, g3⟩ := setRow_facts (w := ((w.alloc (.cells R.toArray 97)).drew.setRow w.heap.size X1.toArray).drew) (ys := X2) g0
            have hheap : ∀ b', b' < w.heap.size → w'.heap[b']? = w.heap[b']? := fun b' h => by
              rw [hw, g1 b' (by omega)]
              show ((w.alloc (.cells R.toArray 97)).drew.setRow w.heap.size X1.toArray).heap[b']? = _
              rw [f1 b' (by omega)]; exact alloc_old h
            have hsz : w.heap.size ≤ w'.heap.size := by
              rw [hw, g3]
              show w.heap.size ≤ ((w.alloc (.cells R.toArray 97)).drew.setRow w.heap.size X1.toArray).heap.size
              rw [f3]
              show w.heap.size ≤ (w.heap.push _).size
              simp
            exact road_finD (E := .item) (S0 := [b, vb]) (b' := w.heap.size) (T := 97) hk hv1 hl hin1 hvin (by simpa only [hv1] using hBag) hX.get hX2l hG hX21 (by rw [hw]; exact g2 _ g0) (hf _ (Nat.le_refl _)) (by rw [hw]; rfl) (by rw [hw]; rfl) (by rw [hw]; rfl) hsz
              (fun b' h _ => hheap b' h) (by simp [hbγ, hvγ]) hf (.inr (Nat.le_refl _)) he hK
        · have ekn : k = l.length := by omega
          subst ekn
          by_cases hroom : l.length + 1 ≤ c
          · refine (ins_end b l.length c vb vc T Tv xs ys w hroom hl hb hvb hxl' hyl hy1).mono fun e w' hh => ?_
            obtain ⟨he, hw⟩ := hh
            obtain ⟨hXl, hX⟩ := insX_end hroom hxl' hyl rfl
            obtain ⟨f1, f2, f3⟩ := setRow_facts (w := w) (ys := xs.take (l.length * 7) ++ ys.take 7 ++ xs.drop (l.length * 7 + 7)) hb
            exact road_finD (E := .item) (S0 := [b, vb]) (b' := b) (T := T) hk hv1 hl hin1 hvin (by simpa only [hv1] using hBag) hX.get hXl hroom (one_app (one_take hx1 _) (one_take hy1 _) (one_drop hx1 _)) (by rw [hw]; exact f2 T hb) hbγ (by rw [hw]; rfl) (by rw [hw]; rfl) (by rw [hw]; rfl) (by rw [hw, f3]; exact Nat.le_refl _)
              (fun b' _ h => by rw [hw, f1 b' (by intro e; subst e; simp at h)]) (by simp [hbγ, hvγ]) hf (.inl (by simp)) he hK
          · have ecn : c = l.length := by omega
            refine (ins_more (some ⟨b, 0, none⟩) l.length c vb vc Tv (xs.take (l.length * 7)) ys w (by omega) (by omega) (by omega) (fun w' hw' => run_firstCells_some w' 7 l.length ⟨b, 0, none⟩ l.length c _ (by simp only [List.length_take]; omega) (fun j v hj => by
              rw [row_at (by rw [hw']; exact hb), Nat.zero_add]
              rw [List.getElem?_take] at hj
              split at hj
              · exact hj
              · cases hj)) hvb hyl i45 hs45 hz45 hb45 (zs := zv.cells) rfl (fun h => by cases h)).mono fun e w' hh => ?_
            obtain ⟨G, hG, he, hw⟩ := hh
            have hz0 : zv.cells.size ≠ 0 := by omega
            have hXl : (xs.take (l.length * 7) ++ ys.take 7 ++ (Builtin.zeroCells zv.cells (G - (l.length + 1))).toList).length = G * 7 := by
              have hzl : ∀ k, (Builtin.zeroCells zv.cells k).toList.length = k * 7 := fun k => by simp [Builtin.zeroCells, hzc]
              simp only [List.length_append, List.length_take, List.length_nil, hzl]; omega
            exact road_finD (E := .item) (S0 := [b, vb]) (b' := w.heap.size) (T := 97) hk hv1 hl hin1 hvin (by simpa only [hv1] using hBag) (insX_more (by simp only [List.length_take]; omega) (fun m hm => List.getElem?_take_of_lt hm) hyl rfl).get hXl hG
              (one_app (one_take hx1 _) (one_take hy1 _) (zeroCells_one hzv1 hz0 _)) (by rw [hw]; exact alloc_new) (hf _ (Nat.le_refl _)) (by rw [hw]; rfl) (by rw [hw]; rfl) (by rw [hw]; rfl) (by rw [hw]; show w.heap.size ≤ (w.heap.push _).size; simp)
              (fun b' h _ => by rw [hw]; exact alloc_old h) (by simp [hbγ, hvγ]) hf (.inr (Nat.le_refl _)) he hK
end Go.Rs
namespace Go.Rs
open Go.Proofs
end Go.Rs

