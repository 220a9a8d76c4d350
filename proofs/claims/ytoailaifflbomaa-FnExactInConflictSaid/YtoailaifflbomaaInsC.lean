import Derived.Test.YtoailaifflbomaaInsB
set_option linter.all false
set_option linter.unusedSimpArgs false
set_option linter.unusedVariables false
namespace Go.Rs
open Go.Proofs Go.RowKit Go.Lib
set_option maxHeartbeats 4000000 in
set_option maxRecDepth 100000 in
theorem ins_end (b n c vb vc T T' : Nat) (xs ys : List Value) (w : World) (hroom : n + 1 ≤ c) (hn : n ≤ 2097152)
    (hb : w.heap[b]? = some (.cells xs.toArray T (0, 0))) (hv : w.heap[vb]? = some (.cells ys.toArray T' (0, 0))) (hxl : xs.length = c * 7) (hyl : 7 ≤ ys.length)
    (hy1 : ∀ v ∈ ys, v.oneCell' = true) :
    Calls Try.prog 108 #[.slice (some ⟨b, 0, none⟩) n c, .int .i64 n, .slice (some ⟨vb, 0, none⟩) 1 vc] w fun e w' =>
      e = .returned (.slice (some ⟨b, 0, none⟩) (n + 1) c) ∧ w' = w.setRow b (xs.take (n * 7) ++ ys.take 7 ++ xs.drop (n * 7 + 7)).toArray := by
  have t25 : Try.prog.underlying 33 = some (.slice 97) := by kernel_rfl
  have t3 : Try.prog.underlying 3 = some (.int .i64) := by kernel_rfl
  have h45 : (Try.prog.info? 97).map (·.size) = some 7 := by kernel_rfl
  obtain ⟨i0, i45, hs45⟩ := Option.map_eq_some_iff.1 h45
  have mixed := mix
  have hy7 : (ys.take 7).length = 7 := by simp; omega
  have hrun : ∀ ty, (Builtin.append_ #[33, 33] ty #[.slice (some ⟨b, 0, none⟩) n c, .slice (some ⟨vb, 0, none⟩) 1 vc]).run Try.prog w =
      .ok (.slice (some ⟨b, 0, none⟩) (n + 1) c) (w.setRow b (xs.take (n * 7) ++ ys.take 7 ++ xs.drop (n * 7 + 7)).toArray) := fun ty => by
    refine run_append_lie t25 i45 (m := 1) (news := ys.take 7) (by simp [Builtin.lenOf]) ?_ hroom ?_ (by intro h; cases h)
    · rw [hs45]
      exact run_firstCells_some w 7 1 ⟨vb, 0, none⟩ 1 vc (ys.take 7) (by rw [hy7]) (fun j v hj => by
        rw [row_at hv, Nat.zero_add]
        rw [List.getElem?_take] at hj
        split at hj
        · exact hj
        · cases hj)
    · intro a ha
      cases ha
      rw [hs45, Addr.add_mid]
      have hsc := run_storeCells_at Try.prog b (0 + n * 7) T (ys.take 7) 0 xs.toArray w hb (by simp only [List.size_toArray]; omega) (fun v hv => hy1 v (List.mem_of_mem_take hv))
      simp only [Nat.zero_add, Nat.add_zero, hy7] at hsc ⊢
      simpa using hsc
  go_enter Try.func108, Try.ntmps108
  go_wp2_with (at_builtin; refine Lib.wpList_append_run _ rfl _ _ _ _ rfl _ _ rfl rfl _ _ (hrun _) ?_)
  go_ret
  exact ⟨rfl, by rw [List.append_assoc]⟩
set_option maxHeartbeats 4000000 in
set_option maxRecDepth 100000 in
theorem ins_more (base : Option Addr) (n c vb vc T' : Nat) (olds ys : List Value) (w : World) (hnc : n ≤ c) (hroom : c < n + 1) (hc : n + 1 ≤ 1073741824)
    (hold : ∀ w' : World, w'.heap = w.heap → (Builtin.firstCells 7 n (.slice base n c)).run Try.prog w' = .ok olds.toArray w') (hv : w.heap[vb]? = some (.cells ys.toArray T' (0, 0))) (hyl : 7 ≤ ys.length)
    {i0 : TypeInfo} {zv : Value} (i45 : Try.prog.info? 97 = some i0) (hs45 : i0.size = 7) (hz45 : i0.zero = some zv) (hb45 : i0.bytes ≤ 256) {zs : Array Value} (hzs : Hid (zs = zv.cells)) (hnil : base = none → n = 0) :
    Calls Try.prog 108 #[.slice base n c, .int .i64 n, .slice (some ⟨vb, 0, none⟩) 1 vc] w fun e w' => ∃ G : Nat, n + 1 ≤ G ∧
      e = .returned (.slice (some ⟨w.heap.size, 0, none⟩) (n + 1) G) ∧ w' = w.drew.alloc (.cells (olds ++ ys.take 7 ++ (Builtin.zeroCells zs (G - (n + 1))).toList).toArray 97) := by
  have t25 : Try.prog.underlying 33 = some (.slice 97) := by kernel_rfl
  have t3 : Try.prog.underlying 3 = some (.int .i64) := by kernel_rfl
  have mixed := mix
  have hy7 : (ys.take 7).length = 7 := by simp; omega
  obtain ⟨G, hG, hrun⟩ : ∃ G, n + 1 ≤ G ∧ (Builtin.append_ #[33, 33] 33 #[.slice base n c, .slice (some ⟨vb, 0, none⟩) 1 vc]).run Try.prog w =
      .ok (.slice (some ⟨w.heap.size, 0, none⟩) (n + 1) G) (w.drew.alloc (.cells (olds ++ ys.take 7 ++ (Builtin.zeroCells zs (G - (n + 1))).toList).toArray 97)) := by
    obtain ⟨G, hG, h⟩ := run_append_more (P := Try.prog) (w := w) (ty := 33) (m := 1) (base := base) (sLen := n) (sCap := c) (y := .slice (some ⟨vb, 0, none⟩) 1 vc) (olds := olds) (news := ys.take 7) t25 i45 hz45 (by simp [Builtin.lenOf])
      (fun w' hw' => by
        rw [hs45]
        exact run_firstCells_some w' 7 1 ⟨vb, 0, none⟩ 1 vc (ys.take 7) (by rw [hy7]) (fun j v hj => by
          rw [row_at (by rw [hw']; exact hv), Nat.zero_add]
          rw [List.getElem?_take] at hj
          split at hj
          · exact hj
          · cases hj))
      (fun w' hw' => by rw [hs45]; exact hold w' hw') hroom hc hb45
    refine ⟨G, hG, ?_⟩
    rw [h, hzs.out]
    congr 3
    apply Array.ext'
    simp
  clear hold hzs
  go_enter Try.func108, Try.ntmps108
  cases base with
  | none =>
    have h0 := hnil rfl
    subst h0
    go_wp2_with (at_builtin; refine Lib.wpList_append_run _ rfl _ _ _ _ rfl _ _ rfl rfl _ _ hrun ?_)
    go_ret
    exact ⟨G, hG, rfl, by first | rfl | (rw [List.append_assoc]; rfl)⟩
  | some a =>
    obtain ⟨ab, ao, asp⟩ := a
    go_wp2_with (at_builtin; refine Lib.wpList_append_run _ rfl _ _ _ _ rfl _ _ rfl rfl _ _ hrun ?_)
    all_goals (go_ret; exact ⟨G, hG, rfl, by first | rfl | (rw [List.append_assoc]; rfl)⟩)
end Go.Rs

