import Derived.Test.YtgmilpefnaadmaaDoorIns
import Derived.Test.YtgmilpefnaadmaaDoorInS
set_option linter.all false

set_option linter.unusedVariables false
set_option linter.unusedSimpArgs false
namespace Go.Rs.DeS
open Go.Rs Go.Proofs Go.RowKit Go.Lib Go.Rs.InS
theorem clear_row {P : Program} {w : World} {tx e : Nat} (hu : P.underlying tx = some (.slice e)) {z : Value} (hv : ∀ w, (zeroValue e).run P w = .ok z w) {ty b o c T : Nat} {xs : List Value} (hb : w.heap[b]? = some (.cells xs.toArray T (0, 0)))
    {Z : List Value} (hZ : Hid (Z = (Builtin.zeroCells z.cells 1).toList)) (h1 : ∀ v ∈ Z, v.oneCell' = true) (hfit : o + Z.length ≤ xs.length) :
    (Builtin.clear_ #[tx] ty #[.slice (some ⟨b, o, none⟩) 1 c]).run P w = .ok (.tuple #[]) (w.setRow b (xs.take o ++ Z ++ xs.drop (o + Z.length)).toArray) := by
  have hsc := run_storeCells_at P b o T Z 0 xs.toArray w hb (by simp only [List.size_toArray]; omega) h1
  simp only [Nat.zero_add, Nat.add_zero] at hsc
  have hz := hZ.out
  rw [hz] at hsc ⊢
  simp [Builtin.clear_, run_underlying hu, hv] at hsc ⊢
  simp [hsc]
theorem step_appendI {P : Program} {ops : Array Oper} {o : Oper} {a : Act} {w : World} {K : Act → World → Prop} {Q : Exit → Act → World → Prop} {E : Prop}
    (hg : o.guard = none) (d x : Operand) (dT sT : TypeId) (hop : o.op = Op.call { callee := Callee.builtin Builtin.append, args := #[d, x], argTypes := #[dT, sT] })
    (v u : Value) (hd : a.eval d = v) (hx : a.eval x = u) {v' : Value} {w' : World} (hr : (Builtin.append_ #[dT, sT] o.type #[v, u]).run P w = .ok v' w') (hK : K (a.put o.dst v') w') :
    if Region.wanted o (yielded ops a.tmps) = true then Oper.wp P o a w K Q else E := by
  have hw : Region.wanted o (yielded ops a.tmps) = true := by simp [Region.wanted, hg]
  rw [if_pos hw]
  unfold Oper.wp
  simp [execOp, hop, resolve, invoke, builtin, hd, hx, hr, Result.andThen]
  exact hK
set_option maxHeartbeats 4000000 in
set_option maxRecDepth 100000 in
theorem del_walk (b n c i T : Nat) (xs : List Value) (w : World) (hi : i < n) (hnc : n ≤ c) (hn : n ≤ 2097152) (hb : w.heap[b]? = some (.cells xs.toArray T (0, 0))) (hxl : xs.length = c) (hx1 : ∀ v ∈ xs, v.oneCell' = true)
    {zv : Value} (hv45 : ∀ w, (zeroValue 9).run Tryd.prog w = .ok zv w) {Z : List Value} (hZ : Hid (Z = (Builtin.zeroCells zv.cells 1).toList)) (hZ1 : ∀ v ∈ Z, v.oneCell' = true) (hZl : Z.length = 1) :
    Calls Tryd.prog 29 #[.slice (some ⟨b, 0, none⟩) n c, .int .i64 i, .int .i64 ((i : Int) + 1)] w fun e w' =>
      e = .returned (.slice (some ⟨b, 0, none⟩) (n - 1) c) ∧ ∃ X1 X2 : List Value, X1 = xs.take (i) ++ (xs.drop ((i + 1))).take ((n - (i + 1))) ++ xs.drop (i + (n - (i + 1))) ∧ X2 = X1.take ((n - 1)) ++ Z ++ X1.drop ((n - 1) + 1) ∧
        w' = (w.drew.setRow b X1.toArray).setRow b X2.toArray := by
  have t25 : Tryd.prog.underlying 23 = some (.slice 9) := by kernel_rfl
  have t3 : Tryd.prog.underlying 3 = some (.int .i64) := by kernel_rfl
  have h45 : (Tryd.prog.info? 9).map (·.size) = some 1 := by kernel_rfl
  obtain ⟨i0, i45, hs45⟩ := Option.map_eq_some_iff.1 h45
  have mixed := mix
  have hne : ¬ ((i : Int) = (i : Int) + 1) := by omega
  have htn : ((i : Int) + 1).toNat = i + 1 := by omega
  have hb1' : (0 : Int) ≤ (i : Int) + 1 := by omega
  have hb5 : (i : Int) + 1 ≤ (n : Int) := by omega
  have hb6 : (i : Int) ≤ (i : Int) + 1 := by omega
  have hb7 : (i : Int) ≤ (c : Int) := by omega
  have hb8 : (n : Int) ≤ (c : Int) := by omega
  have hb9 : ¬ (c = i + 1) ∨ c = i + 1 := by omega
  have hin : i ≤ n := by omega
  have hcl : ((xs.drop ((i + 1))).take ((n - (i + 1)))).length = (n - (i + 1)) := by simp; omega
  obtain ⟨X1, hX1⟩ : ∃ X1 : List Value, X1 = xs.take (i) ++ (xs.drop ((i + 1))).take ((n - (i + 1))) ++ xs.drop (i + (n - (i + 1))) := ⟨_, rfl⟩
  have hX1l : X1.length = c := by rw [hX1]; simp only [List.length_append, List.length_take, List.length_drop]; omega
  have hin1 : i + (n - (i + 1)) = n - 1 := by omega
  have hap : ∀ s : Addr, (c = i + 1 ∨ s = ⟨b, (i + 1), none⟩) → ∀ ty sc, (Builtin.append_ #[23, 23] ty #[.slice (some ⟨b, 0, none⟩) i c, .slice (some s) (n - (i + 1)) sc]).run Tryd.prog w.drew =
      .ok (.slice (some ⟨b, 0, none⟩) (n - 1) c) (w.drew.setRow b X1.toArray) := fun s hs ty sc => by
    have := run_append_lie (P := Tryd.prog) (w := w.drew) (w' := w.drew.setRow b X1.toArray) (ty := ty) (sLen := i) (sCap := c) (base := some ⟨b, 0, none⟩) (y := .slice (some s) (n - (i + 1)) sc) t25 i45 (m := n - (i + 1)) (news := (xs.drop ((i + 1))).take ((n - (i + 1)))) (by simp [Builtin.lenOf])
      (by
        rw [hs45]
        exact run_firstCells_some w.drew 1 (n - (i + 1)) s (n - (i + 1)) sc _ (hcl.trans (Nat.mul_one _).symm) (fun j v hj => by
          rcases hs with hs | hs
          · have : n - (i + 1) = 0 := by omega
            rw [this] at hj; simp at hj
          · have hjl : j < (n - (i + 1)) := by
              rcases Nat.lt_or_ge j ((n - (i + 1))) with h | h
              · exact h
              · rw [List.getElem?_eq_none (by omega)] at hj; cases hj
            rw [hs, row_at (w := w.drew) hb]
            rw [List.getElem?_take_of_lt hjl, List.getElem?_drop] at hj
            exact hj))
      (by omega) (by
        intro a ha
        cases ha
        rw [hs45, Addr.add_mid]
        have hsc := run_storeCells_at Tryd.prog b (0 + i) T ((xs.drop ((i + 1))).take ((n - (i + 1)))) 0 xs.toArray w.drew hb (by simp only [List.size_toArray]; omega) (fun v hv => hx1 v (List.mem_of_mem_drop (List.mem_of_mem_take hv)))
        simp only [Nat.zero_add, Nat.add_zero, hcl] at hsc ⊢
        rw [hX1]
        simpa using hsc) (by intro h; cases h)
    rw [hin1] at this
    exact this
  have hb1 : (w.drew.setRow b X1.toArray).heap[b]? = some (.cells X1.toArray T (0, 0)) := (setRow_facts (w := w.drew) (ys := X1) hb).2.1 T hb
  have hcle : ∀ ty sc, (Builtin.clear_ #[23] ty #[.slice (some ⟨b, (n - 1), none⟩) 1 sc]).run Tryd.prog (w.drew.setRow b X1.toArray) =
      .ok (.tuple #[]) ((w.drew.setRow b X1.toArray).setRow b (X1.take ((n - 1)) ++ Z ++ X1.drop ((n - 1) + 1)).toArray) := fun ty sc => by
    have := clear_row (P := Tryd.prog) (w := w.drew.setRow b X1.toArray) t25 hv45 (ty := ty) (o := (n - 1)) (c := sc) hb1 hZ hZ1 (by omega)
    rw [hZl] at this
    exact this
  have HX : Hid (X1 = xs.take (i) ++ (xs.drop ((i + 1))).take ((n - (i + 1))) ++ xs.drop (i + (n - (i + 1)))) := hX1
  have hn1 : ¬ (c = n - 1) := by omega
  have hnn : n - (n - 1) = 1 := by omega
  have hnle : n - 1 ≤ n := by omega
  have hnc1 : ((n - 1 : Nat) : Int) ≤ (n : Int) := by omega
  clear hX1 hX1l hin1 hcl hb1 hZ
  by_cases hc1 : c = i + 1
  · have hap' := hap ⟨b, 0, none⟩ (.inl hc1)
    clear hap
    have en : n = i + 1 := by omega
    subst hc1
    subst en
    have hap2 : (Builtin.append_ #[23, 23] 23 #[.slice (some ⟨b, 0, none⟩) i (i + 1), .slice (some ⟨b, 0, none⟩) 0 0]).run Tryd.prog w.drew = .ok (.slice (some ⟨b, 0, none⟩) i (i + 1)) (w.drew.setRow b X1.toArray) := by
      have := hap' 23 0
      rwa [Nat.sub_self, Nat.add_sub_cancel] at this
    have hcle2 : ∀ ty sc, (Builtin.clear_ #[23] ty #[.slice (some ⟨b, i, none⟩) 1 sc]).run Tryd.prog (w.drew.setRow b X1.toArray) =
      .ok (.tuple #[]) ((w.drew.setRow b X1.toArray).setRow b (X1.take (i) ++ Z ++ X1.drop (i + 1)).toArray) := hcle
    have hic1 : ¬ (i + 1 = i) := by omega
    have hii : i + 1 - i = 1 := by omega
    have hi1 : (i : Int) ≤ (i : Int) + 1 := by omega
    clear hcle
    go_enter Tryd.func29, Tryd.ntmps29
    go_wp2_with fail
    go_region_law_o (refine step_appendI rfl (.tmp 22) (.tmp 25) 23 23 rfl (.slice (some ⟨b, 0, none⟩) i (i + 1)) (.slice (some ⟨b, 0, none⟩) 0 0) (by simp [Act.eval, Act.put]) (by simp [Act.eval, Act.put]) hap2 ?_)
    go_wp2
    go_ret
    exact ⟨by first | rfl | simp, X1, _, HX.out, rfl, by first | (rw [List.append_assoc]; done) | (rw [List.append_assoc]; rfl) | (simp [List.append_assoc]; done)⟩
  · have hap' := hap ⟨b, (i + 1), none⟩ (.inr rfl)
    clear hap
    go_enter Tryd.func29, Tryd.ntmps29
    go_wp2_with fail
    go_region_law_o (refine step_appendI rfl (.tmp 22) (.tmp 25) 23 23 rfl (.slice (some ⟨b, 0, none⟩) i c) (.slice (some ⟨b, (i + 1), none⟩) (n - (i + 1)) (c - (i + 1))) (by simp [Act.eval, Act.put]) (by simp [Act.eval, Act.put]) (hap' 23 (c - (i + 1))) ?_)
    go_wp2
    go_ret
    exact ⟨by first | rfl | simp, X1, _, HX.out, rfl, by first | (rw [List.append_assoc]; done) | (rw [List.append_assoc]; rfl) | (simp [List.append_assoc]; done)⟩
theorem delX {xs Z X1 X2 : List Value} {i n c : Nat} (hi : i < n) (hc : n ≤ c) (hx : xs.length = c) (hZ : Z.length = 1)
    (h1 : X1 = xs.take (i) ++ (xs.drop ((i + 1))).take ((n - (i + 1))) ++ xs.drop (i + (n - (i + 1)))) (h2 : X2 = X1.take ((n - 1)) ++ Z ++ X1.drop ((n - 1) + 1)) :
    X2.length = c ∧ ∀ k j, k < n - 1 → j < 1 → X2[k + j]? = if k < i then xs[k + j]? else xs[(k + 1) + j]? := by
  have hl1 : X1.length = c := by rw [h1]; simp only [List.length_append, List.length_take, List.length_drop]; omega
  refine ⟨by rw [h2]; simp only [List.length_append, List.length_take, List.length_drop]; omega, fun k j hk hj => ?_⟩
  have hs := splice_get X1 Z ((n - 1)) (by omega) (k + j)
  rw [hZ] at hs
  rw [h2, hs, if_neg (by omega), h1, spliceRow (by omega) (by omega) (by omega)]
  by_cases hk2 : k < i
  · rw [if_neg (by omega), if_pos hk2]
  · rw [if_pos (by omega), if_neg hk2]
    congr 1; omega
theorem del_get {l : List Bs} {i k : Nat} (hi : i < l.length) (hk : k < l.length - 1) : (l.eraseIdx i).getD k default = if k < i then l.getD k default else l.getD (k + 1) default := by
  simp only [List.getD_eq_getElem?_getD, List.getElem?_eraseIdx]
  split <;> rfl
theorem delete_snd {l : List Bs} {i j : Int} {K : AV → List AV → Prop} (h0 : 0 ≤ i) (hj : j = i + 1) (hi : j ≤ l.length) (hl : l.length ≤ 2097152) (hK : K (.own .str (l.eraseIdx i.toNat)) []) :
    ∀ w γ S xs, IAs γ w S xs [.own .str l, .int .i64 i, .int .i64 j] → S.Nodup → (∀ b, w.heap.size ≤ b → γ b = 0) →
    Calls Tryd.prog 29 xs.toArray w fun e w' => ∃ r rs x γ' Sr Sq, K r rs ∧ e = .returned x ∧ IR γ' w' Sr x r ∧ IAs γ' w' Sq (refVals [.own .str l, .int .i64 i, .int .i64 j] xs) rs ∧ (Sr ++ Sq).Nodup ∧ Fr S γ w γ' w' ∧ ∀ b ∈ Sr ++ Sq, b ∈ S ∨ w.heap.size ≤ b := by
  intro w γ S xs hia hnd hf
  subst hj
  obtain ⟨k, rfl⟩ := Int.eq_ofNat_of_zero_le h0
  have hk : k < l.length := by omega
  rw [Int.toNat_natCast] at hK
  cases hia with
  | cons ha hia =>
  cases hia with
  | cons hb hia =>
  cases hia with
  | cons hc hia =>
  cases hia
  cases hb with
  | val hb => cases hb with
    | cell hb => cases hb with
      | per hb _ => cases hb with
        | int =>
  cases hc with
  | val hc => cases hc with
    | cell hc => cases hc with
      | per hc _ => cases hc with
        | int =>
  obtain ⟨zv, hv45, hzc, hzall⟩ : ∃ zv, (∀ w, (zeroValue 9).run Tryd.prog w = .ok zv w) ∧ zv.cells.size = 1 ∧ zv.cells.toList.all (fun x => x.oneCell') = true := by
    have h45 : ((Tryd.prog.info? 9).bind fun i => i.zero.map fun z => (z.cells.size, z.cells.toList.all (fun x => x.oneCell'))) = some (1, true) := by kernel_rfl
    obtain ⟨i0, h1, h2⟩ := Option.bind_eq_some_iff.1 h45
    obtain ⟨z, h3, h4⟩ := Option.map_eq_some_iff.1 h2
    simp only [Prod.mk.injEq] at h4
    exact ⟨z, fun w => by simp [zeroValue, typeInfo, h1, h3], h4.1, h4.2⟩
  have hzv1 : ∀ x ∈ zv.cells.toList, x.oneCell' = true := fun x hx => List.all_eq_true.1 hzall x hx
  have hZ1 : ∀ x ∈ (Builtin.zeroCells zv.cells 1).toList, x.oneCell' = true := zeroCells_one hzv1 (by omega) 1
  have hZl : (Builtin.zeroCells zv.cells 1).toList.length = 1 := by simp [Builtin.zeroCells, hzc]
  cases ha with
  | val ha => cases ha with
    | cell ha => cases ha with
      | per ha _ => cases ha
      | own0 _ a => simp at hk
      | own _ _ b c xs hM hlc hc0 hrow hxl hxr =>
        obtain ⟨hbγ, hx1, T, hb⟩ := hrow
        have hxl' : xs.length = c := hxl.trans (Nat.mul_one c)
        have hxr : ∀ i, i < l.length → ∀ j, j < 1 → Rep noU noν γ w (xs.getD (i + j) undef) ((enc .str (l.getD i default)).getD j .opq) := fun i hi j hj => by
          have := hxr i hi j hj
          rw [show i * esz El.str + j = i + j from congrArg (· + j) (Nat.mul_one i)] at this
          exact this
        refine (del_walk b l.length c k T xs w hk hlc hl hb hxl' hx1 hv45 (Z := (Builtin.zeroCells zv.cells 1).toList) rfl hZ1 hZl).mono fun e w' hh => ?_
        obtain ⟨he, X1, X2, h1, h2, hw⟩ := hh
        obtain ⟨hX2l, hX⟩ := delX hk hlc hxl' hZl h1 h2
        obtain ⟨f1, f2, f3⟩ := setRow_facts (w := w.drew) (ys := X1) hb
        have g0 := f2 T hb
        obtain ⟨g1, g2, g3⟩ := setRow_facts (ys := X2) g0
        have hX11 : ∀ x ∈ X1, x.oneCell' = true := by rw [h1]; exact one_app (one_take hx1 _) (one_take (one_drop hx1 _) _) (one_drop hx1 _)
        have hX21 : ∀ x ∈ X2, x.oneCell' = true := by rw [h2]; exact one_app (one_take hX11 _) hZ1 (one_drop hX11 _)
        have hheap : ∀ b', b' < w.heap.size → b' ∉ [b] → w'.heap[b']? = w.heap[b']? := fun b' _ h => by
          have h' : b' ≠ b := by simpa using h
          rw [hw, g1 b' h', f1 b' h']; rfl
        have hkeep : Keeps γ w γ w' := keeps_of hheap (by simp [hbγ]) hf
        have hlen : (l.eraseIdx k).length = l.length - 1 := by rw [List.length_eraseIdx]; simp [hk]
        have hic := IC.own (γ := γ) (w := w') .str (l.eraseIdx k) b c X2 (by rw [hlen]; unfold MX; omega) (by rw [hlen]; omega) hc0 ⟨hbγ, hX21, T, by rw [hw]; exact g2 T g0⟩ (by rw [hX2l]; exact (Nat.mul_one _).symm) (by
          intro m hm j hj
          rw [hlen] at hm
          have hj7 : j < 1 := hj
          rw [show m * esz El.str + j = m + j from congrArg (· + j) (Nat.mul_one m)]
          show Rep noU noν γ w' (X2.getD (m + j) undef) ((enc .str ((l.eraseIdx k).getD m default)).getD j .opq)
          rw [del_get hk hm, List.getD_eq_getElem?_getD (l := X2), hX m j hm hj7]
          split
          · have := (hxr m (by omega) j hj7).keep hkeep (fun _ h => h) (fun _ _ => rfl)
            rwa [List.getD_eq_getElem?_getD (l := xs)] at this
          · have := (hxr (m + 1) (by omega) j hj7).keep hkeep (fun _ h => h) (fun _ _ => rfl)
            rwa [List.getD_eq_getElem?_getD (l := xs)] at this)
        rw [hlen] at hic
        refine ⟨_, [], _, γ, [b], [], hK, he, .one (.cell hic), .nil, by simp, fr_of (by rw [hw]; rfl) (by rw [hw]; rfl) (by rw [hw]; rfl) (by rw [hw, g3, f3]; exact Nat.le_refl _) (fun b' h h' => hheap b' h (by simpa using h')) rfl hf, fun b' h => .inl (by simpa using h)⟩
end Go.Rs.DeS
namespace Go.Rs
open Go.Proofs
noncomputable def c29 (l : List Bs) (i : Int) (j : Int) (K : AV → List AV → Prop) : Prop :=
    Obl (0 ≤ i ∧ j = i + 1 ∧ j ≤ l.length ∧ l.length ≤ 2097152) (K (.own .str (l.eraseIdx i.toNat)) [])
noncomputable def C29 : List AV → (AV → List AV → Prop) → Prop
  | [.own .str l, .int .i64 i, .int .i64 j], K => c29 l i j K
  | _, _ => False
theorem s29 : CtrOK Tryd.prog 29 (.gen .ow C29) ∧ Callable Tryd.prog 29 := by
  refine ⟨fun args K h => ?_, callable Tryd.func29 (by kernel_rfl) (by kernel_rfl)⟩
  unfold C29 at h
  split at h
  case h_2 => exact h.elim
  unfold c29 at h
  obtain ⟨h1, h2⟩ := h
  exact fun w γ S xs hi hn hf _ _ => DeS.delete_snd h1.1 h1.2.1 h1.2.2.1 h1.2.2.2 h2 w γ S xs hi hn hf
end Go.Rs

