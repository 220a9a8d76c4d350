import Derived.Test.YtoailaifflbomaaInsF
set_option linter.all false
set_option linter.unusedSimpArgs false
set_option linter.unusedVariables false
namespace Go.Rs
open Go.Proofs Go.RowKit Go.Lib
theorem clear_row {P : Program} {w : World} {tx e : Nat} (hu : P.underlying tx = some (.slice e)) {z : Value} (hv : ∀ w, (zeroValue e).run P w = .ok z w) {ty b o c T : Nat} {xs : List Value} (hb : w.heap[b]? = some (.cells xs.toArray T (0, 0)))
    {Z : List Value} (hZ : Hid (Z = (Builtin.zeroCells z.cells 1).toList)) (h1 : ∀ v ∈ Z, v.oneCell' = true) (hfit : o + Z.length ≤ xs.length) :
    (Builtin.clear_ #[tx] ty #[.slice (some ⟨b, o, none⟩) 1 c]).run P w = .ok (.tuple #[]) (w.setRow b (xs.take o ++ Z ++ xs.drop (o + Z.length)).toArray) := by
  have hsc := run_storeCells_at P b o T Z 0 xs.toArray w hb (by simp only [List.size_toArray]; omega) h1
  simp only [Nat.zero_add, Nat.add_zero] at hsc
  have hz := hZ.out
  rw [hz] at hsc ⊢
  simp [Builtin.clear_, run_underlying hu, hv] at hsc ⊢
  simp [hsc]
theorem step_appendI {P : Program} {ops : Array Oper} {o : Oper} {a : Act} {w : World} {K : Act → World → Prop} {Q : Exit → Act → World → Prop} {E : Prop}
    (hg : o.guard = none) (d x : Operand) (dT sT : TypeId) (hop : o.op = Op.call { callee := Callee.builtin Builtin.append, args := #[d, x], argTypes := #[dT, sT] })
    (v u : Value) (hd : a.eval d = v) (hx : a.eval x = u) {v' : Value} {w' : World} (hr : (Builtin.append_ #[dT, sT] o.type #[v, u]).run P w = .ok v' w') (hK : K (a.put o.dst v') w') :
    if Region.wanted o (yielded ops a.tmps) = true then Oper.wp P o a w K Q else E := by
  have hw : Region.wanted o (yielded ops a.tmps) = true := by simp [Region.wanted, hg]
  rw [if_pos hw]
  unfold Oper.wp
  simp [execOp, hop, resolve, invoke, builtin, hd, hx, hr, Result.andThen]
  exact hK
set_option maxHeartbeats 4000000 in
set_option maxRecDepth 100000 in
theorem del_walk (b n c i T : Nat) (xs : List Value) (w : World) (hi : i < n) (hnc : n ≤ c) (hn : n ≤ 2097152) (hb : w.heap[b]? = some (.cells xs.toArray T (0, 0))) (hxl : xs.length = c * 7) (hx1 : ∀ v ∈ xs, v.oneCell' = true)
    {zv : Value} (hv45 : ∀ w, (zeroValue 97).run Try.prog w = .ok zv w) {Z : List Value} (hZ : Hid (Z = (Builtin.zeroCells zv.cells 1).toList)) (hZ1 : ∀ v ∈ Z, v.oneCell' = true) (hZl : Z.length = 7) :
    Calls Try.prog 84 #[.slice (some ⟨b, 0, none⟩) n c, .int .i64 i, .int .i64 ((i : Int) + 1)] w fun e w' =>
      e = .returned (.slice (some ⟨b, 0, none⟩) (n - 1) c) ∧ ∃ X1 X2 : List Value, X1 = xs.take (i * 7) ++ (xs.drop ((i + 1) * 7)).take ((n - (i + 1)) * 7) ++ xs.drop (i * 7 + (n - (i + 1)) * 7) ∧ X2 = X1.take ((n - 1) * 7) ++ Z ++ X1.drop ((n - 1) * 7 + 7) ∧
        w' = (w.drew.setRow b X1.toArray).setRow b X2.toArray := by
  have t25 : Try.prog.underlying 33 = some (.slice 97) := by kernel_rfl
  have t3 : Try.prog.underlying 3 = some (.int .i64) := by kernel_rfl
  have h45 : (Try.prog.info? 97).map (·.size) = some 7 := by kernel_rfl
  obtain ⟨i0, i45, hs45⟩ := Option.map_eq_some_iff.1 h45
  have mixed := mix
  have hne : ¬ ((i : Int) = (i : Int) + 1) := by omega
  have htn : ((i : Int) + 1).toNat = i + 1 := by omega
  have hb1' : (0 : Int) ≤ (i : Int) + 1 := by omega
  have hb5 : (i : Int) + 1 ≤ (n : Int) := by omega
  have hb6 : (i : Int) ≤ (i : Int) + 1 := by omega
  have hb7 : (i : Int) ≤ (c : Int) := by omega
  have hb8 : (n : Int) ≤ (c : Int) := by omega
  have hb9 : ¬ (c = i + 1) ∨ c = i + 1 := by omega
  have hin : i ≤ n := by omega
  have hcl : ((xs.drop ((i + 1) * 7)).take ((n - (i + 1)) * 7)).length = (n - (i + 1)) * 7 := by simp; omega
  obtain ⟨X1, hX1⟩ : ∃ X1 : List Value, X1 = xs.take (i * 7) ++ (xs.drop ((i + 1) * 7)).take ((n - (i + 1)) * 7) ++ xs.drop (i * 7 + (n - (i + 1)) * 7) := ⟨_, rfl⟩
  have hX1l : X1.length = c * 7 := by rw [hX1]; simp only [List.length_append, List.length_take, List.length_drop]; omega
  have hin1 : i + (n - (i + 1)) = n - 1 := by omega
  have hap : ∀ s : Addr, (c = i + 1 ∨ s = ⟨b, (i + 1) * 7, none⟩) → ∀ ty sc, (Builtin.append_ #[33, 33] ty #[.slice (some ⟨b, 0, none⟩) i c, .slice (some s) (n - (i + 1)) sc]).run Try.prog w.drew =
      .ok (.slice (some ⟨b, 0, none⟩) (n - 1) c) (w.drew.setRow b X1.toArray) := fun s hs ty sc => by
    have := run_append_lie (P := Try.prog) (w := w.drew) (w' := w.drew.setRow b X1.toArray) (ty := ty) (sLen := i) (sCap := c) (base := some ⟨b, 0, none⟩) (y := .slice (some s) (n - (i + 1)) sc) t25 i45 (m := n - (i + 1)) (news := (xs.drop ((i + 1) * 7)).take ((n - (i + 1)) * 7)) (by simp [Builtin.lenOf])
      (by
        rw [hs45]
        exact run_firstCells_some w.drew 7 (n - (i + 1)) s (n - (i + 1)) sc _ hcl (fun j v hj => by
          rcases hs with hs | hs
          · have : n - (i + 1) = 0 := by omega
            rw [this] at hj; simp at hj
          · have hjl : j < (n - (i + 1)) * 7 := by
              rcases Nat.lt_or_ge j ((n - (i + 1)) * 7) with h | h
              · exact h
              · rw [List.getElem?_eq_none (by omega)] at hj; cases hj
            rw [hs, row_at (w := w.drew) hb]
            rw [List.getElem?_take_of_lt hjl, List.getElem?_drop] at hj
            exact hj))
      (by omega) (by
        intro a ha
        cases ha
        rw [hs45, Addr.add_mid]
        have hsc := run_storeCells_at Try.prog b (0 + i * 7) T ((xs.drop ((i + 1) * 7)).take ((n - (i + 1)) * 7)) 0 xs.toArray w.drew hb (by simp only [List.size_toArray]; omega) (fun v hv => hx1 v (List.mem_of_mem_drop (List.mem_of_mem_take hv)))
        simp only [Nat.zero_add, Nat.add_zero, hcl] at hsc ⊢
        rw [hX1]
        simpa using hsc) (by intro h; cases h)
    rw [hin1] at this
    exact this
  have hb1 : (w.drew.setRow b X1.toArray).heap[b]? = some (.cells X1.toArray T (0, 0)) := (setRow_facts (w := w.drew) (ys := X1) hb).2.1 T hb
  have hcle : ∀ ty sc, (Builtin.clear_ #[33] ty #[.slice (some ⟨b, (n - 1) * 7, none⟩) 1 sc]).run Try.prog (w.drew.setRow b X1.toArray) =
      .ok (.tuple #[]) ((w.drew.setRow b X1.toArray).setRow b (X1.take ((n - 1) * 7) ++ Z ++ X1.drop ((n - 1) * 7 + 7)).toArray) := fun ty sc => by
    have := clear_row (P := Try.prog) (w := w.drew.setRow b X1.toArray) t25 hv45 (ty := ty) (o := (n - 1) * 7) (c := sc) hb1 hZ hZ1 (by omega)
    rw [hZl] at this
    exact this
  have HX : Hid (X1 = xs.take (i * 7) ++ (xs.drop ((i + 1) * 7)).take ((n - (i + 1)) * 7) ++ xs.drop (i * 7 + (n - (i + 1)) * 7)) := hX1
  have hn1 : ¬ (c = n - 1) := by omega
  have hnn : n - (n - 1) = 1 := by omega
  have hnle : n - 1 ≤ n := by omega
  have hnc1 : ((n - 1 : Nat) : Int) ≤ (n : Int) := by omega
  clear hX1 hX1l hin1 hcl hb1 hZ
  by_cases hc1 : c = i + 1
  · have hap' := hap ⟨b, 0, none⟩ (.inl hc1)
    clear hap
    have en : n = i + 1 := by omega
    subst hc1
    subst en
    have hap2 : (Builtin.append_ #[33, 33] 33 #[.slice (some ⟨b, 0, none⟩) i (i + 1), .slice (some ⟨b, 0, none⟩) 0 0]).run Try.prog w.drew = .ok (.slice (some ⟨b, 0, none⟩) i (i + 1)) (w.drew.setRow b X1.toArray) := by
      have := hap' 33 0
      rwa [Nat.sub_self, Nat.add_sub_cancel] at this
    have hcle2 : ∀ ty sc, (Builtin.clear_ #[33] ty #[.slice (some ⟨b, i * 7, none⟩) 1 sc]).run Try.prog (w.drew.setRow b X1.toArray) =
      .ok (.tuple #[]) ((w.drew.setRow b X1.toArray).setRow b (X1.take (i * 7) ++ Z ++ X1.drop (i * 7 + 7)).toArray) := hcle
    have hic1 : ¬ (i + 1 = i) := by omega
    have hii : i + 1 - i = 1 := by omega
    have hi1 : (i : Int) ≤ (i : Int) + 1 := by omega
    clear hcle
    go_enter Try.func84, Try.ntmps84
    go_wp2_with fail
    go_region_law_o (refine step_appendI rfl (.tmp 22) (.tmp 25) 33 33 rfl (.slice (some ⟨b, 0, none⟩) i (i + 1)) (.slice (some ⟨b, 0, none⟩) 0 0) (by simp [Act.eval, Act.put]) (by simp [Act.eval, Act.put]) hap2 ?_)
    go_wp2
    go_ret
    exact ⟨by first | rfl | simp, X1, _, HX.out, rfl, by first | (rw [List.append_assoc]; done) | (rw [List.append_assoc]; rfl) | (simp [List.append_assoc]; done)⟩
  · have hap' := hap ⟨b, (i + 1) * 7, none⟩ (.inr rfl)
    clear hap
    go_enter Try.func84, Try.ntmps84
    go_wp2_with fail
    go_region_law_o (refine step_appendI rfl (.tmp 22) (.tmp 25) 33 33 rfl (.slice (some ⟨b, 0, none⟩) i c) (.slice (some ⟨b, (i + 1) * 7, none⟩) (n - (i + 1)) (c - (i + 1))) (by simp [Act.eval, Act.put]) (by simp [Act.eval, Act.put]) (hap' 33 (c - (i + 1))) ?_)
    go_wp2
    go_ret
    exact ⟨by first | rfl | simp, X1, _, HX.out, rfl, by first | (rw [List.append_assoc]; done) | (rw [List.append_assoc]; rfl) | (simp [List.append_assoc]; done)⟩
end Go.Rs

