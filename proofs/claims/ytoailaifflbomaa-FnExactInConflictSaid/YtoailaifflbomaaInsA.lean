import Derived.Test.YtoailaifflbomaaIns
set_option linter.all false
set_option linter.unusedSimpArgs false
set_option linter.unusedVariables false
namespace Go.Rs
open Go.Proofs Go.RowKit Go.Lib
set_option maxHeartbeats 4000000 in
set_option maxRecDepth 100000 in
theorem ins_shift (b n c i vb vc T T' : Nat) (xs ys : List Value) (w : World) (hi : i < n) (hroom : n + 1 ≤ c) (hn : n ≤ 2097152) (hvb : vb ≠ b)
    (hb : w.heap[b]? = some (.cells xs.toArray T (0, 0))) (hv : w.heap[vb]? = some (.cells ys.toArray T' (0, 0))) (hxl : xs.length = c * 7) (hyl : 7 ≤ ys.length)
    (hx1 : ∀ v ∈ xs, v.oneCell' = true) (hy1 : ∀ v ∈ ys, v.oneCell' = true) :
    Calls Try.prog 108 #[.slice (some ⟨b, 0, none⟩) n c, .int .i64 i, .slice (some ⟨vb, 0, none⟩) 1 vc] w fun e w' =>
      e = .returned (.slice (some ⟨b, 0, none⟩) (n + 1) c) ∧ ∃ X1 X2 : List Value, X1 = xs.take ((i + 1) * 7) ++ (xs.drop (i * 7)).take ((n - i) * 7) ++ xs.drop ((i + 1) * 7 + (n - i) * 7) ∧ X2 = X1.take (i * 7) ++ ys.take 7 ++ X1.drop (i * 7 + 7) ∧
        w' = (w.drew.setRow b X1.toArray).setRow b X2.toArray := by
  have t25 : Try.prog.underlying 33 = some (.slice 97) := by kernel_rfl
  have t3 : Try.prog.underlying 3 = some (.int .i64) := by kernel_rfl
  have z45 : ∀ w, (Go.sizeOf 97).run Try.prog w = .ok 7 w := fun w => by rfl
  have h45 : (Try.prog.info? 97).map (·.size) = some 7 := by kernel_rfl
  obtain ⟨i0, i45, hs45⟩ := Option.map_eq_some_iff.1 h45
  have mixed := mix
  have hz2 : ¬ ((i : Int) = (n : Int)) := by omega
  have hov : ∀ o lb cb, (callFunc 127 #[.slice (some ⟨vb, 0, none⟩) 1 vc, .slice (some ⟨b, o, none⟩) lb cb]).run Try.prog w = .ok (.value (.bool false)) w := fun o lb cb => by
    rw [run_callFunc_extern Try.func127 (by kernel_rfl) (by kernel_rfl) (by kernel_rfl) (e := Extern.SlicesOverlaps.overlaps #[33, 33] #[4]) (by kernel_rfl),
      Lib.run_overlaps_apart w 33 4 97 t25 7 z45 ⟨vb, 0, none⟩ ⟨b, o, none⟩ 1 vc lb cb hvb _ _ _ _ (row_shape hv) (row_shape hb) (by omega) (row_frozen hv _) (row_frozen hv _)]
    rfl
  have hcl : ((xs.drop (i * 7)).take ((n - i) * 7)).length = (n - i) * 7 := by simp; omega
  have hcp1 : ∀ ty dc sc, (Builtin.copy_ #[33, 33] ty #[.slice (some ⟨b, (i + 1) * 7, none⟩) (n - i) dc, .slice (some ⟨b, i * 7, none⟩) (n + 1 - i) sc]).run Try.prog w.drew =
      .ok (goInt (Nat.min (n + 1 - i) (n - i))) (w.drew.setRow b (xs.take ((i + 1) * 7) ++ (xs.drop (i * 7)).take ((n - i) * 7) ++ xs.drop ((i + 1) * 7 + ((xs.drop (i * 7)).take ((n - i) * 7)).length)).toArray) := fun ty dc sc =>
    copy_row t25 i45 hs45 (ats := [33]) (w := w.drew) hb ⟨b, i * 7, none⟩ _ _ _ (by rw [hcl]; congr 1; simp only [Nat.min_def]; split <;> omega)
      (fun j v hj => by
        have : (w.drew).cell? ((⟨b, i * 7, none⟩ : Addr).add j) = xs[i * 7 + j]? := row_at (w := w.drew) hb _ _
        rw [this]
        have hjl : j < (n - i) * 7 := by
          rcases Nat.lt_or_ge j ((n - i) * 7) with h | h
          · exact h
          · rw [List.getElem?_eq_none (by omega)] at hj; cases hj
        rw [List.getElem?_take_of_lt hjl, List.getElem?_drop] at hj; exact hj)
      (fun v hv => hx1 v (List.mem_of_mem_drop (List.mem_of_mem_take hv))) (by rw [hcl]; omega)
  rw [hcl] at hcp1
  generalize hX1 : xs.take ((i + 1) * 7) ++ (xs.drop (i * 7)).take ((n - i) * 7) ++ xs.drop ((i + 1) * 7 + (n - i) * 7) = X1 at *
  have hX1l : X1.length = xs.length := by rw [← hX1]; simp only [List.length_append, List.length_take, List.length_drop]; omega
  have hb1 : (w.drew.setRow b X1.toArray).heap[b]? = some (.cells X1.toArray T (0, 0)) := (setRow_facts (w := w.drew) (ys := X1) hb).2.1 T hb
  have hv1 : (w.drew.setRow b X1.toArray).heap[vb]? = some (.cells ys.toArray T' (0, 0)) := by rw [(setRow_facts (w := w.drew) (ys := X1) hb).1 vb hvb]; exact hv
  have hcp2 : ∀ ty dc, (Builtin.copy_ #[33, 33] ty #[.slice (some ⟨b, i * 7, none⟩) (n + 1 - i) dc, .slice (some ⟨vb, 0, none⟩) 1 vc]).run Try.prog (w.drew.setRow b X1.toArray) =
      .ok (goInt (Nat.min 1 (n + 1 - i))) ((w.drew.setRow b X1.toArray).setRow b (X1.take (i * 7) ++ ys.take 7 ++ X1.drop (i * 7 + (ys.take 7).length)).toArray) := fun ty dc =>
    copy_row t25 i45 hs45 (ats := [33]) (w := w.drew.setRow b X1.toArray) hb1 ⟨vb, 0, none⟩ _ _ _ (by simp only [List.length_take, Nat.min_def]; split <;> split <;> omega)
      (fun j v hj => by
        rw [row_at hv1]
        have hjl : j < 7 := by
          rcases Nat.lt_or_ge j 7 with h | h
          · exact h
          · rw [List.getElem?_eq_none (by simp; omega)] at hj; cases hj
        rw [List.getElem?_take_of_lt hjl] at hj; rw [Nat.zero_add]; exact hj)
      (fun v hv => hy1 v (List.mem_of_mem_take hv)) (by simp only [List.length_take]; omega)
  have hy7 : (ys.take 7).length = 7 := by simp; omega
  rw [hy7] at hcp2
  have hw1 : IntKind.i64.wrap ((i : Int) + 1) = (i : Int) + 1 := by rw [IntKind.wrap_i64]; omega
  have hb1' : (0 : Int) ≤ (i : Int) + 1 := by omega
  have hin : i ≤ n := by omega
  have htn : ((i : Int) + 1).toNat = i + 1 := by omega
  have hb2 : ¬ (c = i + 1) := by omega
  have hb3 : (i : Int) ≤ (n : Int) + 1 := by omega
  have hb4 : ¬ (c = i) := by omega
  have hb5 : (i : Int) + 1 ≤ (n : Int) + 1 := by omega
  have hb6 : (i : Int) ≤ (c : Int) := by omega
  have hb7 : (i : Int) + 1 ≤ (c : Int) := by omega
  have hb8 : (n : Int) + 1 ≤ (c : Int) := by omega
  go_enter Try.func108, Try.ntmps108
  go_wp2_with (simp only [hov])
  go_region_law_o (refine step_copyI rfl _ _ 33 33 rfl _ _ (by simp [Act.eval, Act.put]) (by simp [Act.eval, Act.put]) (hcp1 _ _ _) ?_)
  go_wp2_with (at_builtin; refine wpList_copyI _ rfl _ _ 33 33 rfl _ _ rfl rfl (hcp2 _ _) ?_)
  go_ret
  exact ⟨rfl, X1, _, rfl, rfl, by rw [List.append_assoc]⟩
end Go.Rs

