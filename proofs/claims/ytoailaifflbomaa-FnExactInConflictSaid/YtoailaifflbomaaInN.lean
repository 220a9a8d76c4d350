import Derived.Test.YtoailaifflbomaaIns
import Derived.Test.YtoailaifflbomaaCK
import Derived.Lib.AppendZerosOnto
set_option linter.all false
set_option linter.unusedSimpArgs false
set_option linter.unusedVariables false
namespace Go.Rs.InN
open Go.Rs Go.Proofs Go.RowKit Go.Lib
theorem row_cell {w : World} {b T : Nat} {xs : List Value} (hb : w.heap[b]? = some (.cells xs.toArray T (0, 0))) (o : Nat) : w.cell? ⟨b, o, none⟩ = xs[o]? := by
  simp [World.cell?, hb]
theorem row_at {w : World} {b T : Nat} {xs : List Value} (hb : w.heap[b]? = some (.cells xs.toArray T (0, 0))) (o j : Nat) : w.cell? ((⟨b, o, none⟩ : Addr).add j) = xs[o + j]? := by
  rw [Addr.add_mid]; exact row_cell hb _
theorem row_shape {w : World} {b T : Nat} {xs : List Value} (hb : w.heap[b]? = some (.cells xs.toArray T (0, 0))) : w.shape? b = some (T, xs.length) := by
  simp [World.shape?, hb]
theorem row_frozen {w : World} {b T : Nat} {xs : List Value} (hb : w.heap[b]? = some (.cells xs.toArray T (0, 0))) (o : Nat) : w.frozen? ⟨b, o, none⟩ = false := by
  simp [World.frozen?, hb]
set_option maxHeartbeats 4000000 in
set_option maxRecDepth 100000 in
theorem ins_shift (b n c i vb vc T T' : Nat) (xs ys : List Value) (w : World) (hi : i < n) (hroom : n + 1 ≤ c) (hn : n ≤ 2097152) (hvb : vb ≠ b)
    (hb : w.heap[b]? = some (.cells xs.toArray T (0, 0))) (hv : w.heap[vb]? = some (.cells ys.toArray T' (0, 0))) (hxl : xs.length = c * 5) (hyl : 5 ≤ ys.length)
    (hx1 : ∀ v ∈ xs, v.oneCell' = true) (hy1 : ∀ v ∈ ys, v.oneCell' = true) :
    Calls Try.prog 124 #[.slice (some ⟨b, 0, none⟩) n c, .int .i64 i, .slice (some ⟨vb, 0, none⟩) 1 vc] w fun e w' =>
      e = .returned (.slice (some ⟨b, 0, none⟩) (n + 1) c) ∧ ∃ X1 X2 : List Value, X1 = xs.take ((i + 1) * 5) ++ (xs.drop (i * 5)).take ((n - i) * 5) ++ xs.drop ((i + 1) * 5 + (n - i) * 5) ∧ X2 = X1.take (i * 5) ++ ys.take 5 ++ X1.drop (i * 5 + 5) ∧
        w' = (w.drew.setRow b X1.toArray).setRow b X2.toArray := by
  have t25 : Try.prog.underlying 56 = some (.slice 58) := by kernel_rfl
  have t3 : Try.prog.underlying 3 = some (.int .i64) := by kernel_rfl
  have z45 : ∀ w, (Go.sizeOf 58).run Try.prog w = .ok 5 w := fun w => by rfl
  have h45 : (Try.prog.info? 58).map (·.size) = some 5 := by kernel_rfl
  obtain ⟨i0, i45, hs45⟩ := Option.map_eq_some_iff.1 h45
  have mixed := mix
  have hz2 : ¬ ((i : Int) = (n : Int)) := by omega
  have hov : ∀ o lb cb, (callFunc 149 #[.slice (some ⟨vb, 0, none⟩) 1 vc, .slice (some ⟨b, o, none⟩) lb cb]).run Try.prog w = .ok (.value (.bool false)) w := fun o lb cb => by
    rw [run_callFunc_extern Try.func149 (by kernel_rfl) (by kernel_rfl) (by kernel_rfl) (e := Extern.SlicesOverlaps.overlaps #[56, 56] #[4]) (by kernel_rfl),
      Lib.run_overlaps_apart w 56 4 58 t25 5 z45 ⟨vb, 0, none⟩ ⟨b, o, none⟩ 1 vc lb cb hvb _ _ _ _ (row_shape hv) (row_shape hb) (by omega) (row_frozen hv _) (row_frozen hv _)]
    rfl
  have hcl : ((xs.drop (i * 5)).take ((n - i) * 5)).length = (n - i) * 5 := by simp; omega
  have hcp1 : ∀ ty dc sc, (Builtin.copy_ #[56, 56] ty #[.slice (some ⟨b, (i + 1) * 5, none⟩) (n - i) dc, .slice (some ⟨b, i * 5, none⟩) (n + 1 - i) sc]).run Try.prog w.drew =
      .ok (goInt (Nat.min (n + 1 - i) (n - i))) (w.drew.setRow b (xs.take ((i + 1) * 5) ++ (xs.drop (i * 5)).take ((n - i) * 5) ++ xs.drop ((i + 1) * 5 + ((xs.drop (i * 5)).take ((n - i) * 5)).length)).toArray) := fun ty dc sc =>
    copy_row t25 i45 hs45 (ats := [56]) (w := w.drew) hb ⟨b, i * 5, none⟩ _ _ _ (by rw [hcl]; congr 1; simp only [Nat.min_def]; split <;> omega)
      (fun j v hj => by
        have : (w.drew).cell? ((⟨b, i * 5, none⟩ : Addr).add j) = xs[i * 5 + j]? := row_at (w := w.drew) hb _ _
        rw [this]
        have hjl : j < (n - i) * 5 := by
          rcases Nat.lt_or_ge j ((n - i) * 5) with h | h
          · exact h
          · rw [List.getElem?_eq_none (by omega)] at hj; cases hj
        rw [List.getElem?_take_of_lt hjl, List.getElem?_drop] at hj; exact hj)
      (fun v hv => hx1 v (List.mem_of_mem_drop (List.mem_of_mem_take hv))) (by rw [hcl]; omega)
  rw [hcl] at hcp1
  generalize hX1 : xs.take ((i + 1) * 5) ++ (xs.drop (i * 5)).take ((n - i) * 5) ++ xs.drop ((i + 1) * 5 + (n - i) * 5) = X1 at *
  have hX1l : X1.length = xs.length := by rw [← hX1]; simp only [List.length_append, List.length_take, List.length_drop]; omega
  have hb1 : (w.drew.setRow b X1.toArray).heap[b]? = some (.cells X1.toArray T (0, 0)) := (setRow_facts (w := w.drew) (ys := X1) hb).2.1 T hb
  have hv1 : (w.drew.setRow b X1.toArray).heap[vb]? = some (.cells ys.toArray T' (0, 0)) := by rw [(setRow_facts (w := w.drew) (ys := X1) hb).1 vb hvb]; exact hv
  have hcp2 : ∀ ty dc, (Builtin.copy_ #[56, 56] ty #[.slice (some ⟨b, i * 5, none⟩) (n + 1 - i) dc, .slice (some ⟨vb, 0, none⟩) 1 vc]).run Try.prog (w.drew.setRow b X1.toArray) =
      .ok (goInt (Nat.min 1 (n + 1 - i))) ((w.drew.setRow b X1.toArray).setRow b (X1.take (i * 5) ++ ys.take 5 ++ X1.drop (i * 5 + (ys.take 5).length)).toArray) := fun ty dc =>
    copy_row t25 i45 hs45 (ats := [56]) (w := w.drew.setRow b X1.toArray) hb1 ⟨vb, 0, none⟩ _ _ _ (by simp only [List.length_take, Nat.min_def]; split <;> split <;> omega)
      (fun j v hj => by
        rw [row_at hv1]
        have hjl : j < 5 := by
          rcases Nat.lt_or_ge j 5 with h | h
          · exact h
          · rw [List.getElem?_eq_none (by simp; omega)] at hj; cases hj
        rw [List.getElem?_take_of_lt hjl] at hj; rw [Nat.zero_add]; exact hj)
      (fun v hv => hy1 v (List.mem_of_mem_take hv)) (by simp only [List.length_take]; omega)
  have hy7 : (ys.take 5).length = 5 := by simp; omega
  rw [hy7] at hcp2
  have hw1 : IntKind.i64.wrap ((i : Int) + 1) = (i : Int) + 1 := by rw [IntKind.wrap_i64]; omega
  have hb1' : (0 : Int) ≤ (i : Int) + 1 := by omega
  have hin : i ≤ n := by omega
  have htn : ((i : Int) + 1).toNat = i + 1 := by omega
  have hb2 : ¬ (c = i + 1) := by omega
  have hb3 : (i : Int) ≤ (n : Int) + 1 := by omega
  have hb4 : ¬ (c = i) := by omega
  have hb5 : (i : Int) + 1 ≤ (n : Int) + 1 := by omega
  have hb6 : (i : Int) ≤ (c : Int) := by omega
  have hb7 : (i : Int) + 1 ≤ (c : Int) := by omega
  have hb8 : (n : Int) + 1 ≤ (c : Int) := by omega
  go_enter Try.func124, Try.ntmps124
  go_wp2_with (simp only [hov])
  go_region_law_o (refine step_copyI rfl _ _ 56 56 rfl _ _ (by simp [Act.eval, Act.put]) (by simp [Act.eval, Act.put]) (hcp1 _ _ _) ?_)
  go_wp2_with (at_builtin; refine wpList_copyI _ rfl _ _ 56 56 rfl _ _ rfl rfl (hcp2 _ _) ?_)
  go_ret
  exact ⟨rfl, X1, _, rfl, rfl, by rw [List.append_assoc]⟩
theorem alloc_new {w : World} {o : Obj} : (w.drew.alloc o).heap[w.heap.size]? = some o := by
  show (w.heap.push o)[w.heap.size]? = _
  rw [Array.getElem?_push, if_pos rfl]
theorem alloc_old {w : World} {o : Obj} {k : Nat} (h : k < w.heap.size) : (w.drew.alloc o).heap[k]? = w.heap[k]? := by
  show (w.heap.push o)[k]? = _
  rw [Array.getElem?_push, if_neg (by omega)]
set_option maxHeartbeats 4000000 in
set_option maxRecDepth 100000 in
theorem ins_grow (b n c i vb vc T T' : Nat) (xs ys : List Value) (w : World) (hi : i < n) (hnc : n ≤ c) (hroom : c < n + 1) (hc : n + 1 ≤ 1073741824) (hvb : vb ≠ b)
    (hb : w.heap[b]? = some (.cells xs.toArray T (0, 0))) (hv : w.heap[vb]? = some (.cells ys.toArray T' (0, 0))) (hxl : xs.length = c * 5) (hyl : 5 ≤ ys.length)
    (hx1 : ∀ v ∈ xs, v.oneCell' = true) (hy1 : ∀ v ∈ ys, v.oneCell' = true) {i0 : TypeInfo} {zv : Value} (i45 : Try.prog.info? 58 = some i0) (hs45 : i0.size = 5) (hz45 : i0.zero = some zv) (hb45 : i0.bytes ≤ 256) {zs : Array Value} (hzs : Hid (zs = zv.cells)) (hzc : zs.size = 5) :
    Calls Try.prog 124 #[.slice (some ⟨b, 0, none⟩) n c, .int .i64 i, .slice (some ⟨vb, 0, none⟩) 1 vc] w fun e w' => ∃ G : Nat, n + 1 ≤ G ∧
      e = .returned (.slice (some ⟨w.heap.size, 0, none⟩) (n + 1) G) ∧ ∃ R X1 X2 : List Value, R = xs.take (i * 5) ++ (Builtin.zeroCells zs (n + 1 - i)).toList ++ (Builtin.zeroCells zs (G - (n + 1))).toList ∧
        X1 = R.take (i * 5) ++ ys.take 5 ++ R.drop (i * 5 + 5) ∧ X2 = X1.take ((i + 1) * 5) ++ (xs.drop (i * 5)).take ((n - i) * 5) ++ X1.drop ((i + 1) * 5 + (n - i) * 5) ∧
        w' = (((w.alloc (.cells R.toArray 58)).drew.setRow w.heap.size X1.toArray).drew).setRow w.heap.size X2.toArray := by
  have t25 : Try.prog.underlying 56 = some (.slice 58) := by kernel_rfl
  have t3 : Try.prog.underlying 3 = some (.int .i64) := by kernel_rfl
  have mixed := mix
  have hz2 : ¬ ((i : Int) = (n : Int)) := by omega
  have hz3 : (c : Int) < (n : Int) + 1 := by omega
  have hbw : b < w.heap.size := by
    rcases Nat.lt_or_ge b w.heap.size with h | h
    · exact h
    · rw [Array.getElem?_eq_none h] at hb; cases hb
  have hvw : vb < w.heap.size := by
    rcases Nat.lt_or_ge vb w.heap.size with h | h
    · exact h
    · rw [Array.getElem?_eq_none h] at hv; cases hv
  have hkk : (n : Int) + 1 - (i : Int) = ((n + 1 - i : Nat) : Int) := by omega
  have hik : i + (n + 1 - i) = n + 1 := by omega
  have hxi : (xs.take (i * 5)).length = i * 5 := by simp; omega
  have hold : (Builtin.firstCells i0.size i (.slice (some ⟨b, 0, none⟩) i c)).run Try.prog w.drew = .ok (xs.take (i * 5)).toArray w.drew := by
    rw [hs45]
    exact run_firstCells_some w.drew 5 i ⟨b, 0, none⟩ i c (xs.take (i * 5)) hxi (fun j v hj => by
      rw [row_at (w := w.drew) hb, Nat.zero_add]
      rw [List.getElem?_take] at hj
      split at hj
      · exact hj
      · cases hj)
  have hfit : (n + 1) * i0.bytes ≤ 140737488355328 := by
    calc (n + 1) * i0.bytes ≤ 1073741824 * 256 := Nat.mul_le_mul hc hb45
      _ ≤ 140737488355328 := by decide
  have hrz : ∀ ty, (Builtin.append_ #[56, 3] ty #[.slice (some ⟨b, 0, none⟩) i c, .int .i64 ((n : Int) + 1 - (i : Int))]).run Try.prog w =
      .ok (.slice (some ⟨w.heap.size, 0, none⟩) (n + 1) (grownCap w (n + 1) c 58)) (w.drew.alloc (.cells ((xs.take (i * 5)).toArray ++ Builtin.zeroCells zs (n + 1 - i) ++ Builtin.zeroCells zs (grownCap w (n + 1) c 58 - (n + 1))) 58)) := fun ty => by
    have h48 : (n + 1 - i) * i0.bytes ≤ 281474976710656 := by
      have : (n + 1 - i) * i0.bytes ≤ (n + 1) * i0.bytes := Nat.mul_le_mul_right _ (by omega)
      omega
    have hz' := hzs.out
    subst hz'
    have h := Lib.run_append_grow_zeros w 56 3 ty 58 i0 zv .i64 .i64 t25 t3 i45 hz45 (some ⟨b, 0, none⟩) i c (xs.take (i * 5)) hold (n + 1 - i) (by omega) (by omega) (by omega) (by omega) h48 (by rw [hik]; exact growslice_fits hroom hfit)
    rw [hik] at h
    rw [hkk]
    exact h
  have hGn : n + 1 ≤ grownCap w (n + 1) c 58 := grownCap_ge w _ _ _
  have hG63 : grownCap w (n + 1) c 58 ≤ 9223372036854775807 := by
    have := grownCap_le_maxLen w (n + 1) c 58 (by unfold maxLen; omega)
    unfold maxLen at this
    omega
  obtain ⟨G, hG⟩ : ∃ G, G = grownCap w (n + 1) c 58 := ⟨_, rfl⟩
  rw [← hG] at hrz hGn hG63
  obtain ⟨R, hR⟩ : ∃ R : List Value, R = xs.take (i * 5) ++ (Builtin.zeroCells zs (n + 1 - i)).toList ++ (Builtin.zeroCells zs (G - (n + 1))).toList := ⟨_, rfl⟩
  have hRA : (xs.take (i * 5)).toArray ++ Builtin.zeroCells zs (n + 1 - i) ++ Builtin.zeroCells zs (G - (n + 1)) = R.toArray := by
    rw [hR]; apply Array.ext'; simp
  rw [hRA] at hrz
  have hzl : ∀ k, (Builtin.zeroCells zs k).toList.length = k * 5 := fun k => by simp [Builtin.zeroCells, hzc]
  have hRl : R.length = G * 5 := by rw [hR]; simp only [List.length_append, hxi, hzl]; omega
  obtain ⟨X1, hX1⟩ : ∃ X1 : List Value, X1 = R.take (i * 5) ++ ys.take 5 ++ R.drop (i * 5 + 5) := ⟨_, rfl⟩
  have hy7 : (ys.take 5).length = 5 := by simp; omega
  have hX1l : X1.length = R.length := by rw [hX1]; simp only [List.length_append, List.length_take, List.length_drop]; omega
  have hcl : ((xs.drop (i * 5)).take ((n - i) * 5)).length = (n - i) * 5 := by simp; omega
  have hcpA : ∀ (W : World), W.heap = (w.drew.alloc (.cells R.toArray 58)).heap → ∀ ty dc, (Builtin.copy_ #[56, 56] ty #[.slice (some ⟨w.heap.size, i * 5, none⟩) (n + 1 - i) dc, .slice (some ⟨vb, 0, none⟩) 1 vc]).run Try.prog W =
      .ok (goInt (Nat.min 1 (n + 1 - i))) (W.setRow w.heap.size X1.toArray) := fun W hW ty dc => by
    have hbW : W.heap[w.heap.size]? = some (.cells R.toArray 58 (0, 0)) := by rw [hW]; exact alloc_new
    have hvW : W.heap[vb]? = some (.cells ys.toArray T' (0, 0)) := by rw [hW, alloc_old hvw]; exact hv
    have := copy_row (P := Try.prog) (w := W) t25 i45 hs45 (ats := [56]) (ty := ty) (o := i * 5) (dLen := n + 1 - i) (dCap := dc) hbW ⟨vb, 0, none⟩ 1 vc (ys.take 5) (by simp only [List.length_take, Nat.min_def]; split <;> split <;> omega)
      (fun j v hj => by
        rw [row_at hvW]
        have hjl : j < 5 := by
          rcases Nat.lt_or_ge j 5 with h | h
          · exact h
          · rw [List.getElem?_eq_none (by simp; omega)] at hj; cases hj
        rw [List.getElem?_take_of_lt hjl] at hj; rw [Nat.zero_add]; exact hj)
      (fun v hv => hy1 v (List.mem_of_mem_take hv)) (by rw [hy7, hRl]; omega)
    rw [hy7, ← hX1] at this
    exact this
  have hcpB : ∀ (W : World), W.heap = ((w.drew.alloc (.cells R.toArray 58)).setRow w.heap.size X1.toArray).heap → ∀ ty dc sc, (Builtin.copy_ #[56, 56] ty #[.slice (some ⟨w.heap.size, (i + 1) * 5, none⟩) (n - i) dc, .slice (some ⟨b, i * 5, none⟩) (n - i) sc]).run Try.prog W =
      .ok (goInt (Nat.min (n - i) (n - i))) (W.setRow w.heap.size (X1.take ((i + 1) * 5) ++ (xs.drop (i * 5)).take ((n - i) * 5) ++ X1.drop ((i + 1) * 5 + (n - i) * 5)).toArray) := fun W hW ty dc sc => by
    have hb0 : (w.drew.alloc (.cells R.toArray 58)).heap[w.heap.size]? = some (.cells R.toArray 58 (0, 0)) := alloc_new
    obtain ⟨f1, f2, f3⟩ := setRow_facts (w := w.drew.alloc (.cells R.toArray 58)) (ys := X1) hb0
    have hbW : W.heap[w.heap.size]? = some (.cells X1.toArray 58 (0, 0)) := by rw [hW]; exact f2 _ hb0
    have hxW : W.heap[b]? = some (.cells xs.toArray T (0, 0)) := by rw [hW, f1 b (by omega), alloc_old hbw]; exact hb
    have := copy_row (P := Try.prog) (w := W) t25 i45 hs45 (ats := [56]) (ty := ty) (o := (i + 1) * 5) (dLen := n - i) (dCap := dc) hbW ⟨b, i * 5, none⟩ (n - i) sc ((xs.drop (i * 5)).take ((n - i) * 5)) (by rw [hcl]; congr 1; simp only [Nat.min_def]; split <;> omega)
      (fun j v hj => by
        rw [row_at hxW]
        have hjl : j < (n - i) * 5 := by
          rcases Nat.lt_or_ge j ((n - i) * 5) with h | h
          · exact h
          · rw [List.getElem?_eq_none (by omega)] at hj; cases hj
        rw [List.getElem?_take_of_lt hjl, List.getElem?_drop] at hj; exact hj)
      (fun v hv => hx1 v (List.mem_of_mem_drop (List.mem_of_mem_take hv))) (by rw [hcl, hX1l, hRl]; omega)
    rw [hcl] at this
    exact this
  have hGi : ¬ (G = i) := by omega
  have hGim : ¬ (G = i + 1) := by omega
  have hci : ¬ (c = i) := by omega
  have hw1 : IntKind.i64.wrap ((i : Int) + 1) = (i : Int) + 1 := by rw [IntKind.wrap_i64]; omega
  have hb1 : (0 : Int) ≤ (i : Int) + 1 := by omega
  have hin : i ≤ n := by omega
  have htn : ((i : Int) + 1).toNat = i + 1 := by omega
  have hb3 : (i : Int) ≤ (n : Int) := by omega
  have hb5 : (i : Int) + 1 ≤ (n : Int) + 1 := by omega
  have hb9 : (i : Int) ≤ (n : Int) + 1 := by omega
  have hb10 : (i : Int) ≤ (c : Int) := by omega
  have HR : Hid (R = xs.take (i * 5) ++ (Builtin.zeroCells zs (n + 1 - i)).toList ++ (Builtin.zeroCells zs (G - (n + 1))).toList) := hR
  have HX : Hid (X1 = R.take (i * 5) ++ ys.take 5 ++ R.drop (i * 5 + 5)) := hX1
  clear hkk hik hold hRA hG hRl hzl hX1l hfit hR hX1
  have hE1 : ((w.alloc (.cells R.toArray 58)).drew).heap = (w.drew.alloc (.cells R.toArray 58)).heap := rfl
  have hE2 : (((w.alloc (.cells R.toArray 58)).drew.setRow w.heap.size X1.toArray).drew).heap = ((w.drew.alloc (.cells R.toArray 58)).setRow w.heap.size X1.toArray).heap := rfl
  go_enter Try.func124, Try.ntmps124
  go_wp2_with (first
    | (at_builtin; refine Lib.wpList_append_run _ rfl _ _ _ _ rfl _ _ rfl rfl _ _ (hrz _) ?_)
    | (at_builtin; refine wpList_copyI _ rfl _ _ 56 56 rfl _ _ rfl rfl (hcpA _ hE1 _ _) ?_))
  go_region_law_o (refine step_copyI rfl _ _ 56 56 rfl (.slice (some ⟨w.heap.size, (i + 1) * 5, none⟩) (n - i) (G - (i + 1))) (.slice (some ⟨b, i * 5, none⟩) (n - i) (c - i)) (by simp [Act.eval, Act.put]) (by simp [Act.eval, Act.put]) (hcpB _ hE2 3 (G - (i + 1)) (c - i)) ?_)
  go_wp2
  go_ret
  exact ⟨G, hGn, rfl, R, X1, _, HR.out, HX.out, rfl, by rw [List.append_assoc]⟩
set_option maxHeartbeats 4000000 in
set_option maxRecDepth 100000 in
theorem ins_end (b n c vb vc T T' : Nat) (xs ys : List Value) (w : World) (hroom : n + 1 ≤ c) (hn : n ≤ 2097152)
    (hb : w.heap[b]? = some (.cells xs.toArray T (0, 0))) (hv : w.heap[vb]? = some (.cells ys.toArray T' (0, 0))) (hxl : xs.length = c * 5) (hyl : 5 ≤ ys.length)
    (hy1 : ∀ v ∈ ys, v.oneCell' = true) :
    Calls Try.prog 124 #[.slice (some ⟨b, 0, none⟩) n c, .int .i64 n, .slice (some ⟨vb, 0, none⟩) 1 vc] w fun e w' =>
      e = .returned (.slice (some ⟨b, 0, none⟩) (n + 1) c) ∧ w' = w.setRow b (xs.take (n * 5) ++ ys.take 5 ++ xs.drop (n * 5 + 5)).toArray := by
  have t25 : Try.prog.underlying 56 = some (.slice 58) := by kernel_rfl
  have t3 : Try.prog.underlying 3 = some (.int .i64) := by kernel_rfl
  have h45 : (Try.prog.info? 58).map (·.size) = some 5 := by kernel_rfl
  obtain ⟨i0, i45, hs45⟩ := Option.map_eq_some_iff.1 h45
  have mixed := mix
  have hy7 : (ys.take 5).length = 5 := by simp; omega
  have hrun : ∀ ty, (Builtin.append_ #[56, 56] ty #[.slice (some ⟨b, 0, none⟩) n c, .slice (some ⟨vb, 0, none⟩) 1 vc]).run Try.prog w =
      .ok (.slice (some ⟨b, 0, none⟩) (n + 1) c) (w.setRow b (xs.take (n * 5) ++ ys.take 5 ++ xs.drop (n * 5 + 5)).toArray) := fun ty => by
    refine run_append_lie t25 i45 (m := 1) (news := ys.take 5) (by simp [Builtin.lenOf]) ?_ hroom ?_ (by intro h; cases h)
    · rw [hs45]
      exact run_firstCells_some w 5 1 ⟨vb, 0, none⟩ 1 vc (ys.take 5) (by rw [hy7]) (fun j v hj => by
        rw [row_at hv, Nat.zero_add]
        rw [List.getElem?_take] at hj
        split at hj
        · exact hj
        · cases hj)
    · intro a ha
      cases ha
      rw [hs45, Addr.add_mid]
      have hsc := run_storeCells_at Try.prog b (0 + n * 5) T (ys.take 5) 0 xs.toArray w hb (by simp only [List.size_toArray]; omega) (fun v hv => hy1 v (List.mem_of_mem_take hv))
      simp only [Nat.zero_add, Nat.add_zero, hy7] at hsc ⊢
      simpa using hsc
  go_enter Try.func124, Try.ntmps124
  go_wp2_with (at_builtin; refine Lib.wpList_append_run _ rfl _ _ _ _ rfl _ _ rfl rfl _ _ (hrun _) ?_)
  go_ret
  exact ⟨rfl, by rw [List.append_assoc]⟩
set_option maxHeartbeats 4000000 in
set_option maxRecDepth 100000 in
theorem ins_more (base : Option Addr) (n c vb vc T' : Nat) (olds ys : List Value) (w : World) (hnc : n ≤ c) (hroom : c < n + 1) (hc : n + 1 ≤ 1073741824)
    (hold : ∀ w' : World, w'.heap = w.heap → (Builtin.firstCells 5 n (.slice base n c)).run Try.prog w' = .ok olds.toArray w') (hv : w.heap[vb]? = some (.cells ys.toArray T' (0, 0))) (hyl : 5 ≤ ys.length)
    {i0 : TypeInfo} {zv : Value} (i45 : Try.prog.info? 58 = some i0) (hs45 : i0.size = 5) (hz45 : i0.zero = some zv) (hb45 : i0.bytes ≤ 256) {zs : Array Value} (hzs : Hid (zs = zv.cells)) (hnil : base = none → n = 0) :
    Calls Try.prog 124 #[.slice base n c, .int .i64 n, .slice (some ⟨vb, 0, none⟩) 1 vc] w fun e w' => ∃ G : Nat, n + 1 ≤ G ∧
      e = .returned (.slice (some ⟨w.heap.size, 0, none⟩) (n + 1) G) ∧ w' = w.drew.alloc (.cells (olds ++ ys.take 5 ++ (Builtin.zeroCells zs (G - (n + 1))).toList).toArray 58) := by
  have t25 : Try.prog.underlying 56 = some (.slice 58) := by kernel_rfl
  have t3 : Try.prog.underlying 3 = some (.int .i64) := by kernel_rfl
  have mixed := mix
  have hy7 : (ys.take 5).length = 5 := by simp; omega
  obtain ⟨G, hG, hrun⟩ : ∃ G, n + 1 ≤ G ∧ (Builtin.append_ #[56, 56] 56 #[.slice base n c, .slice (some ⟨vb, 0, none⟩) 1 vc]).run Try.prog w =
      .ok (.slice (some ⟨w.heap.size, 0, none⟩) (n + 1) G) (w.drew.alloc (.cells (olds ++ ys.take 5 ++ (Builtin.zeroCells zs (G - (n + 1))).toList).toArray 58)) := by
    obtain ⟨G, hG, h⟩ := run_append_more (P := Try.prog) (w := w) (ty := 56) (m := 1) (base := base) (sLen := n) (sCap := c) (y := .slice (some ⟨vb, 0, none⟩) 1 vc) (olds := olds) (news := ys.take 5) t25 i45 hz45 (by simp [Builtin.lenOf])
      (fun w' hw' => by
        rw [hs45]
        exact run_firstCells_some w' 5 1 ⟨vb, 0, none⟩ 1 vc (ys.take 5) (by rw [hy7]) (fun j v hj => by
          rw [row_at (by rw [hw']; exact hv), Nat.zero_add]
          rw [List.getElem?_take] at hj
          split at hj
          · exact hj
          · cases hj))
      (fun w' hw' => by rw [hs45]; exact hold w' hw') hroom hc hb45
    refine ⟨G, hG, ?_⟩
    rw [h, hzs.out]
    congr 3
    apply Array.ext'
    simp
  clear hold hzs
  go_enter Try.func124, Try.ntmps124
  cases base with
  | none =>
    have h0 := hnil rfl
    subst h0
    go_wp2_with (at_builtin; refine Lib.wpList_append_run _ rfl _ _ _ _ rfl _ _ rfl rfl _ _ hrun ?_)
    go_ret
    exact ⟨G, hG, rfl, by first | rfl | (rw [List.append_assoc]; rfl)⟩
  | some a =>
    obtain ⟨ab, ao, asp⟩ := a
    go_wp2_with (at_builtin; refine Lib.wpList_append_run _ rfl _ _ _ _ rfl _ _ rfl rfl _ _ hrun ?_)
    all_goals (go_ret; exact ⟨G, hG, rfl, by first | rfl | (rw [List.append_assoc]; rfl)⟩)
theorem ins_get {l v : List Nd} {i i' : Nat} (hi : i ≤ l.length) (hv : v.length = 1) (h : i' < l.length + 1) :
    (l.take i ++ v ++ l.drop i).getD i' default = if i' < i then l.getD i' default else if i' = i then v.getD 0 default else l.getD (i' - 1) default := by
  obtain ⟨x, rfl⟩ := List.length_eq_one_iff.1 hv
  have e : (l.take i).length = i := by simp; omega
  simp only [List.getD_eq_getElem?_getD]
  rw [List.append_assoc]
  by_cases h1 : i' < i
  · rw [if_pos h1, List.getElem?_append_left (by rw [e]; exact h1), List.getElem?_take_of_lt h1]
  · rw [if_neg h1, List.getElem?_append_right (by rw [e]; omega), e]
    by_cases h2 : i' = i
    · subst h2; simp
    · have e2 : i' - i = (i' - i - 1) + 1 := by omega
      have e3 : i + (i' - i - 1) = i' - 1 := by omega
      rw [if_neg h2, e2]
      simp only [List.singleton_append, List.getElem?_cons_succ, List.getElem?_drop]
      rw [e3]
theorem ins_fin {w w' : World} {γ γ' : Nat → Nat} {l v : List Nd} {i cap' b' T : Nat} {xs ys X : List Value} (hi : i ≤ l.length) (hv : v.length = 1) (hl : l.length ≤ 2097152)
    (hxr : ∀ k, k < l.length → ∀ j, j < 5 → Rep noU noν γ w (xs.getD (k * 5 + j) undef) ((enc .node (l.getD k default)).getD j .opq))
    (hyr : ∀ j, j < 5 → Rep noU noν γ w (ys.getD j undef) ((enc .node (v.getD 0 default)).getD j .opq))
    (hX : ∀ k j, k < l.length + 1 → j < 5 → X.getD (k * 5 + j) undef = if k < i then xs.getD (k * 5 + j) undef else if k = i then ys.getD j undef else xs.getD ((k - 1) * 5 + j) undef)
    (hXl : X.length = cap' * 5) (hcap : l.length + 1 ≤ cap') (hX1 : ∀ x ∈ X, x.oneCell' = true)
    (hb : w'.heap[b']? = some (.cells X.toArray T (0, 0))) (hγ : γ' b' = 0) (hk : Keeps γ w γ' w') :
    IR γ' w' [b'] (.slice (some ⟨b', 0, none⟩) (l.length + 1) cap') (.own .node (l.take i ++ v ++ l.drop i)) := by
  have hlen : (l.take i ++ v ++ l.drop i).length = l.length + 1 := by simp [hv]; omega
  have := IC.own (γ := γ') (w := w') .node (l.take i ++ v ++ l.drop i) b' cap' X (by rw [hlen]; unfold MX; omega) (by rw [hlen]; exact hcap) (by omega) ⟨hγ, hX1, T, hb⟩ hXl (by
    intro k hkk j hj
    rw [hlen] at hkk
    have hj7 : j < 5 := hj
    show Rep noU noν γ' w' (X.getD (k * 5 + j) undef) ((enc .node ((l.take i ++ v ++ l.drop i).getD k default)).getD j .opq)
    rw [hX k j hkk hj7, ins_get hi hv hkk]
    split
    · exact (hxr k (by omega) j hj7).keep hk (fun _ h => h) (fun _ _ => rfl)
    · split
      · exact (hyr j hj7).keep hk (fun _ h => h) (fun _ _ => rfl)
      · exact (hxr (k - 1) (by omega) j hj7).keep hk (fun _ h => h) (fun _ _ => rfl))
  rw [hlen] at this
  exact .one (.cell this)
def insX (xs ys X : List Value) (i n : Nat) : Prop := ∀ k j, k < n + 1 → j < 5 → X[k * 5 + j]? = if k < i then xs[k * 5 + j]? else if k = i then ys[j]? else xs[(k - 1) * 5 + j]?
theorem insX.get {xs ys X : List Value} {i n : Nat} (h : insX xs ys X i n) : ∀ k j, k < n + 1 → j < 5 → X.getD (k * 5 + j) undef = if k < i then xs.getD (k * 5 + j) undef else if k = i then ys.getD j undef else xs.getD ((k - 1) * 5 + j) undef := by
  intro k j hk hj
  simp only [List.getD_eq_getElem?_getD]
  rw [h k j hk hj]
  split
  · rfl
  · split <;> rfl
theorem y7 {ys : List Value} (h : 5 ≤ ys.length) : (ys.take 5).length = 5 := by simp; omega
theorem splice7 {xs ys : List Value} {o : Nat} (hy : 5 ≤ ys.length) (h : o + 5 ≤ xs.length) (m : Nat) : (xs.take o ++ ys.take 5 ++ xs.drop (o + 5))[m]? = if o ≤ m ∧ m < o + 5 then ys[m - o]? else xs[m]? := by
  have := splice_get xs (ys.take 5) o (by rw [y7 hy]; exact h) m
  rw [y7 hy] at this
  rw [this]
  split
  · rw [List.getElem?_take_of_lt (by omega)]
  · rfl
theorem spliceRow {xs zs : List Value} {i n o : Nat} (hz : n * 5 ≤ zs.length) (hi : i ≤ n) (h : o + (n - i) * 5 ≤ xs.length) (m : Nat) :
    (xs.take o ++ (zs.drop (i * 5)).take ((n - i) * 5) ++ xs.drop (o + (n - i) * 5))[m]? = if o ≤ m ∧ m < o + (n - i) * 5 then zs[i * 5 + (m - o)]? else xs[m]? := by
  have hcl : ((zs.drop (i * 5)).take ((n - i) * 5)).length = (n - i) * 5 := by simp; omega
  have := splice_get xs ((zs.drop (i * 5)).take ((n - i) * 5)) o (by rw [hcl]; exact h) m
  rw [hcl] at this
  rw [this]
  split
  · rw [List.getElem?_take_of_lt (by omega), List.getElem?_drop]
  · rfl
theorem insX_shift {xs ys X1 X2 : List Value} {i n c : Nat} (hi : i < n) (hc : n + 1 ≤ c) (hx : xs.length = c * 5) (hy : 5 ≤ ys.length)
    (h1 : X1 = xs.take ((i + 1) * 5) ++ (xs.drop (i * 5)).take ((n - i) * 5) ++ xs.drop ((i + 1) * 5 + (n - i) * 5)) (h2 : X2 = X1.take (i * 5) ++ ys.take 5 ++ X1.drop (i * 5 + 5)) :
    X2.length = c * 5 ∧ insX xs ys X2 i n := by
  have hl1 : X1.length = c * 5 := by rw [h1]; simp only [List.length_append, List.length_take, List.length_drop]; omega
  refine ⟨by rw [h2]; simp only [List.length_append, List.length_take, List.length_drop]; omega, fun k j hk hj => ?_⟩
  rw [h2, splice7 hy (by omega)]
  by_cases e : k = i
  · subst e
    rw [if_pos (by omega), if_neg (by omega), if_pos rfl]
    congr 1; omega
  · rw [if_neg (by omega), h1, spliceRow (by omega) (by omega) (by omega)]
    by_cases hk2 : k < i
    · rw [if_neg (by omega), if_pos hk2]
    · rw [if_pos (by omega), if_neg hk2, if_neg e]
      congr 1; omega
theorem insX_grow {xs ys R X1 X2 Z : List Value} {i n c G : Nat} (hi : i < n) (hc : n ≤ c) (hG : n + 1 ≤ G) (hx : xs.length = c * 5) (hy : 5 ≤ ys.length) (hR : R = xs.take (i * 5) ++ Z) (hRl : R.length = G * 5)
    (h1 : X1 = R.take (i * 5) ++ ys.take 5 ++ R.drop (i * 5 + 5)) (h2 : X2 = X1.take ((i + 1) * 5) ++ (xs.drop (i * 5)).take ((n - i) * 5) ++ X1.drop ((i + 1) * 5 + (n - i) * 5)) :
    X2.length = G * 5 ∧ insX xs ys X2 i n := by
  have hl1 : X1.length = G * 5 := by rw [h1]; simp only [List.length_append, List.length_take, List.length_drop]; omega
  refine ⟨by rw [h2]; simp only [List.length_append, List.length_take, List.length_drop]; omega, fun k j hk hj => ?_⟩
  rw [h2, spliceRow (by omega) (by omega) (by omega)]
  by_cases hk2 : i < k
  · rw [if_pos (by omega), if_neg (by omega), if_neg (by omega)]
    congr 1; omega
  · rw [if_neg (by omega), h1, splice7 hy (by omega)]
    by_cases e : k = i
    · subst e
      rw [if_pos (by omega), if_neg (by omega), if_pos rfl]
      congr 1; omega
    · rw [if_neg (by omega), if_pos (by omega), hR, List.getElem?_append_left (by simp; omega), List.getElem?_take_of_lt (by omega)]
theorem insX_end {xs ys X : List Value} {n c : Nat} (hc : n + 1 ≤ c) (hx : xs.length = c * 5) (hy : 5 ≤ ys.length) (h : X = xs.take (n * 5) ++ ys.take 5 ++ xs.drop (n * 5 + 5)) : X.length = c * 5 ∧ insX xs ys X n n := by
  refine ⟨by rw [h]; simp only [List.length_append, List.length_take, List.length_drop]; omega, fun k j hk hj => ?_⟩
  rw [h, splice7 hy (by omega)]
  by_cases e : k = n
  · subst e
    rw [if_pos (by omega), if_neg (by omega), if_pos rfl]
    congr 1; omega
  · rw [if_neg (by omega), if_pos (by omega)]
theorem insX_more {xs ys olds X Z : List Value} {n : Nat} (ho : olds.length = n * 5) (hx : ∀ m, m < n * 5 → olds[m]? = xs[m]?) (hy : 5 ≤ ys.length) (h : X = olds ++ ys.take 5 ++ Z) : insX xs ys X n n := by
  intro k j hk hj
  rw [h, List.append_assoc]
  by_cases e : k = n
  · subst e
    rw [List.getElem?_append_right (by omega), ho, List.getElem?_append_left (by rw [y7 hy]; omega), List.getElem?_take_of_lt (by omega), if_neg (by omega), if_pos rfl]
    congr 1; omega
  · rw [List.getElem?_append_left (by omega), hx _ (by omega), if_pos (by omega)]
theorem fr_of {w w' : World} {γ γ' : Nat → Nat} {S : List Nat} (hos : w'.os = w.os) (ht : w'.tape = w.tape) (ho : w'.output = w.output) (hs : w.heap.size ≤ w'.heap.size)
    (hb : ∀ b, b < w.heap.size → b ∉ S → w'.heap[b]? = w.heap[b]?) (hγ : γ' = γ) (hf : ∀ b, w.heap.size ≤ b → γ b = 0) (hk : Keeps γ w γ w') : Fr S γ w γ' w' := by
  subst hγ
  exact ⟨hos, ht, ho, hs, fun b h1 h2 => ⟨hb b h1 h2, rfl⟩, fun b h => hf b (by omega), fun b _ => ⟨hk.le b, fun o ho => hk.cell b o ho⟩⟩
theorem keeps_of {w w' : World} {γ : Nat → Nat} {S : List Nat} (hb : ∀ b, b < w.heap.size → b ∉ S → w'.heap[b]? = w.heap[b]?) (hS : ∀ b ∈ S, γ b = 0) (hf : ∀ b, w.heap.size ≤ b → γ b = 0) : Keeps γ w γ w' := by
  refine ⟨fun _ => Nat.le_refl _, fun b o ho => ?_⟩
  have h1 : b ∉ S := fun h => by rw [hS b h] at ho; omega
  have h2 : b < w.heap.size := by
    rcases Nat.lt_or_ge b w.heap.size with h | h
    · exact h
    · rw [hf b h] at ho; omega
  unfold World.cell?
  rw [hb b h2 h1]
theorem road_fin {w w' : World} {γ : Nat → Nat} {l v : List Nd} {k cap' b' T : Nat} {K : AV → List AV → Prop} {S : List Nat} {xs ys X : List Value} {e : Ending} (hi : k ≤ l.length) (hv : v.length = 1) (hl : l.length ≤ 2097152)
    (hxr : ∀ i, i < l.length → ∀ j, j < 5 → Rep noU noν γ w (xs.getD (i * 5 + j) undef) ((enc .node (l.getD i default)).getD j .opq))
    (hyr : ∀ j, j < 5 → Rep noU noν γ w (ys.getD j undef) ((enc .node (v.getD 0 default)).getD j .opq))
    (hX : insX xs ys X k l.length) (hXl : X.length = cap' * 5) (hcap : l.length + 1 ≤ cap') (hX1 : ∀ x ∈ X, x.oneCell' = true)
    (hb : w'.heap[b']? = some (.cells X.toArray T (0, 0))) (hγ : γ b' = 0) (hos : w'.os = w.os) (ht : w'.tape = w.tape) (ho : w'.output = w.output) (hs : w.heap.size ≤ w'.heap.size)
    (hheap : ∀ b, b < w.heap.size → b ∉ S → w'.heap[b]? = w.heap[b]?) (hS : ∀ b ∈ S, γ b = 0) (hf : ∀ b, w.heap.size ≤ b → γ b = 0) (hin : b' ∈ S ∨ w.heap.size ≤ b')
    (he : e = .returned (.slice (some ⟨b', 0, none⟩) (l.length + 1) cap')) (hK : K (.own .node (l.take k ++ v ++ l.drop k)) []) :
    ∃ r rs x γ' Sr Sq, K r rs ∧ e = .returned x ∧ IR γ' w' Sr x r ∧ IAs γ' w' Sq [] rs ∧ (Sr ++ Sq).Nodup ∧ Fr S γ w γ' w' ∧ ∀ b ∈ Sr ++ Sq, b ∈ S ∨ w.heap.size ≤ b := by
  have hkeep : Keeps γ w γ w' := keeps_of hheap hS hf
  have hir := ins_fin (i := k) (cap' := cap') (b' := b') (T := T) (γ' := γ) (w' := w') hi hv hl hxr hyr hX.get hXl hcap hX1 hb hγ hkeep
  exact ⟨_, [], _, γ, [b'], [], hK, he, hir, .nil, by simp, fr_of hos ht ho hs hheap rfl hf hkeep, fun b h => by simp at h; subst h; exact hin⟩
theorem one_app {a b c : List Value} (h1 : ∀ x ∈ a, x.oneCell' = true) (h2 : ∀ x ∈ b, x.oneCell' = true) (h3 : ∀ x ∈ c, x.oneCell' = true) : ∀ x ∈ a ++ b ++ c, x.oneCell' = true := by
  intro x hx
  simp only [List.mem_append] at hx
  rcases hx with (h | h) | h
  · exact h1 x h
  · exact h2 x h
  · exact h3 x h
theorem one_take {a : List Value} (h : ∀ x ∈ a, x.oneCell' = true) (n : Nat) : ∀ x ∈ a.take n, x.oneCell' = true := fun x hx => h x (List.mem_of_mem_take hx)
theorem one_drop {a : List Value} (h : ∀ x ∈ a, x.oneCell' = true) (n : Nat) : ∀ x ∈ a.drop n, x.oneCell' = true := fun x hx => h x (List.mem_of_mem_drop hx)
theorem insert_snd {l v : List Nd} {i : Int} {K : AV → List AV → Prop} (hi : 0 ≤ i ∧ i ≤ l.length) (hv1 : v.length = 1) (hl : l.length ≤ 2097152) (hK : K (.own .node (l.take i.toNat ++ v ++ l.drop i.toNat)) []) :
    ∀ w γ S xs, IAs γ w S xs [.own .node l, .int .i64 i, .own .node v] → S.Nodup → (∀ b, w.heap.size ≤ b → γ b = 0) →
    Calls Try.prog 124 xs.toArray w fun e w' => ∃ r rs x γ' Sr Sq, K r rs ∧ e = .returned x ∧ IR γ' w' Sr x r ∧ IAs γ' w' Sq (refVals [.own .node l, .int .i64 i, .own .node v] xs) rs ∧ (Sr ++ Sq).Nodup ∧ Fr S γ w γ' w' ∧ ∀ b ∈ Sr ++ Sq, b ∈ S ∨ w.heap.size ≤ b := by
  intro w γ S xs hia hnd hf
  obtain ⟨k, rfl⟩ := Int.eq_ofNat_of_zero_le hi.1
  have hk : k ≤ l.length := by omega
  rw [Int.toNat_natCast] at hK
  cases hia with
  | cons ha hia =>
  cases hia with
  | cons hb hia =>
  cases hia with
  | cons hc hia =>
  cases hia
  cases hb with
  | val hb => cases hb with
    | cell hb => cases hb with
      | per hb _ => cases hb with
        | int =>
  cases hc with
  | val hc => cases hc with
    | cell hc => cases hc with
      | per hc _ => cases hc
      | own0 => simp at hv1
      | own _ _ vb vc ys hvM hvc hv0 hvrow hvl hvr =>
  obtain ⟨hvγ, hy1, Tv, hvb⟩ := hvrow
  have hyl : 5 ≤ ys.length := by rw [hvl]; simp only [esz]; omega
  have hyr : ∀ j, j < 5 → Rep noU noν γ w (ys.getD j undef) ((enc .node (v.getD 0 default)).getD j .opq) := fun j hj => by
    have := hvr 0 (by omega) j hj
    rw [Nat.zero_mul, Nat.zero_add] at this
    exact this
  obtain ⟨i0, zv, i45, hs45, hz45, hb45, hzc, hzall⟩ : ∃ i0 zv, Try.prog.info? 58 = some i0 ∧ i0.size = 5 ∧ i0.zero = some zv ∧ i0.bytes ≤ 256 ∧ zv.cells.size = 5 ∧ zv.cells.toList.all (fun x => x.oneCell') = true := by
    have h45 : ((Try.prog.info? 58).bind fun i => i.zero.map fun z => (i.size, i.bytes, z.cells.size, z.cells.toList.all (fun x => x.oneCell'))) = some (5, 80, 5, true) := by kernel_rfl
    obtain ⟨i0, h1, h2⟩ := Option.bind_eq_some_iff.1 h45
    obtain ⟨z, h3, h4⟩ := Option.map_eq_some_iff.1 h2
    simp only [Prod.mk.injEq] at h4
    exact ⟨i0, z, h1, h4.1, h3, by omega, h4.2.2.1, h4.2.2.2⟩
  have hzv1 : ∀ x ∈ zv.cells.toList, x.oneCell' = true := fun x hx => List.all_eq_true.1 hzall x hx
  rw [hv1]
  have hvlt : vb < w.heap.size := RowI.lt ⟨hvγ, hy1, Tv, hvb⟩
  cases ha with
  | val ha => cases ha with
    | cell ha => cases ha with
      | per ha _ => cases ha
      | own0 _ a =>
        have hk0 : k = 0 := by simpa using hk
        subst hk0
        refine (ins_more a 0 0 vb vc Tv [] ys w (by omega) (by omega) (by omega) (fun w' hw' => by
          cases a with
          | none => exact run_firstCells_none w' 5 0 0 0
          | some a => exact run_firstCells_some w' 5 0 a 0 0 [] rfl (fun j v hj => by simp at hj)) hvb hyl i45 hs45 hz45 hb45 (zs := zv.cells) rfl (fun _ => rfl)).mono fun e w' hh => ?_
        obtain ⟨G, hG, he, hw⟩ := hh
        have hz0 : zv.cells.size ≠ 0 := by omega
        have hXl : (([] : List Value) ++ ys.take 5 ++ (Builtin.zeroCells zv.cells (G - (0 + 1))).toList).length = G * 5 := by
          have hzl : ∀ k, (Builtin.zeroCells zv.cells k).toList.length = k * 5 := fun k => by simp [Builtin.zeroCells, hzc]
          simp only [List.length_append, List.length_take, List.length_nil, hzl]; omega
        exact road_fin (xs := []) (b' := w.heap.size) (T := 58) (k := 0) (l := []) (Nat.le_refl _) hv1 hl (fun i hi => by simp at hi) hyr (insX_more (olds := []) (n := 0) rfl (fun m hm => rfl) hyl rfl) hXl hG
          (one_app (by simp) (one_take hy1 _) (zeroCells_one hzv1 hz0 _)) (by rw [hw]; exact alloc_new) (hf _ (Nat.le_refl _)) (by rw [hw]; rfl) (by rw [hw]; rfl) (by rw [hw]; rfl) (by rw [hw]; show w.heap.size ≤ (w.heap.push _).size; simp)
          (fun b' h _ => by rw [hw]; exact alloc_old h) (by simp [hvγ]) hf (.inr (Nat.le_refl _)) he hK
      | own _ _ b c xs hM hlc h0 hrow hxl hxr =>
        obtain ⟨hbγ, hx1, T, hb⟩ := hrow
        have hne : vb ≠ b := by
          intro e; subst e; simp at hnd
        have hxl' : xs.length = c * 5 := hxl
        by_cases hkn : k < l.length
        · by_cases hroom : l.length + 1 ≤ c
          · refine (ins_shift b l.length c k vb vc T Tv xs ys w hkn hroom hl hne hb hvb hxl' hyl hx1 hy1).mono fun e w' hh => ?_
            obtain ⟨he, X1, X2, h1, h2, hw⟩ := hh
            obtain ⟨hX2l, hX⟩ := insX_shift hkn hroom hxl' hyl h1 h2
            obtain ⟨f1, f2, f3⟩ := setRow_facts (w := w.drew) (ys := X1) hb
            have g0 := f2 T hb
            obtain ⟨g1, g2, g3⟩ := setRow_facts (ys := X2) g0
            have hheap : ∀ b', b' ≠ b → w'.heap[b']? = w.heap[b']? := fun b' h => by rw [hw, g1 b' h, f1 b' h]; rfl
            have hsz : w'.heap.size = w.heap.size := by rw [hw, g3, f3]; rfl
            have hX11 : ∀ x ∈ X1, x.oneCell' = true := by rw [h1]; exact one_app (one_take hx1 _) (one_take (one_drop hx1 _) _) (one_drop hx1 _)
            have hX21 : ∀ x ∈ X2, x.oneCell' = true := by rw [h2]; exact one_app (one_take hX11 _) (one_take hy1 _) (one_drop hX11 _)
            exact road_fin (b' := b) (T := T) hk hv1 hl hxr hyr hX hX2l hroom hX21 (by rw [hw]; exact g2 T g0) hbγ (by rw [hw]; rfl) (by rw [hw]; rfl) (by rw [hw]; rfl) (by omega)
              (fun b' _ h => hheap b' (by intro e; subst e; simp at h)) (by simp [hbγ, hvγ]) hf (.inl (by simp)) he hK
          · refine (ins_grow b l.length c k vb vc T Tv xs ys w hkn hlc (by omega) (by omega) hne hb hvb hxl' hyl hx1 hy1 i45 hs45 hz45 hb45 (zs := zv.cells) rfl hzc).mono fun e w' hh => ?_
            obtain ⟨G, hG, he, R, X1, X2, hR, h1, h2, hw⟩ := hh
            have hRl : R.length = G * 5 := by
              have hzl : ∀ k, (Builtin.zeroCells zv.cells k).toList.length = k * 5 := fun k => by simp [Builtin.zeroCells, hzc]
              rw [hR]; simp only [List.length_append, List.length_take, hzl]; omega
            obtain ⟨hX2l, hX⟩ := insX_grow (Z := (Builtin.zeroCells zv.cells (l.length + 1 - k)).toList ++ (Builtin.zeroCells zv.cells (G - (l.length + 1))).toList) hkn hlc hG hxl' hyl (by rw [hR, List.append_assoc]) hRl h1 h2
            have hz0 : zv.cells.size ≠ 0 := by omega
            have hR1 : ∀ x ∈ R, x.oneCell' = true := by rw [hR]; exact one_app (one_take hx1 _) (zeroCells_one hzv1 hz0 _) (zeroCells_one hzv1 hz0 _)
            have hX11 : ∀ x ∈ X1, x.oneCell' = true := by rw [h1]; exact one_app (one_take hR1 _) (one_take hy1 _) (one_drop hR1 _)
            have hX21 : ∀ x ∈ X2, x.oneCell' = true := by rw [h2]; exact one_app (one_take hX11 _) (one_take (one_drop hx1 _) _) (one_drop hX11 _)
            have a0 : ((w.alloc (.cells R.toArray 58)).drew).heap[w.heap.size]? = some (.cells R.toArray 58 (0, 0)) := alloc_new
            obtain ⟨f1, f2, f3⟩ := setRow_facts (w := (w.alloc (.cells R.toArray 58)).drew) (ys := X1) a0
            have g0 : (((w.alloc (.cells R.toArray 58)).drew.setRow w.heap.size X1.toArray).drew).heap[w.heap.size]? = some (.cells X1.toArray 58 (0, 0)) := f2 _ a0
            obtain ⟨g1, g2, g3⟩ := setRow_facts (w := ((w.alloc (.cells R.toArray 58)).drew.setRow w.heap.size X1.toArray).drew) (ys := X2) g0
            have hheap : ∀ b', b' < w.heap.size → w'.heap[b']? = w.heap[b']? := fun b' h => by
              rw [hw, g1 b' (by omega)]
              show ((w.alloc (.cells R.toArray 58)).drew.setRow w.heap.size X1.toArray).heap[b']? = _
              rw [f1 b' (by omega)]; exact alloc_old h
            have hsz : w.heap.size ≤ w'.heap.size := by
              rw [hw, g3]
              show w.heap.size ≤ ((w.alloc (.cells R.toArray 58)).drew.setRow w.heap.size X1.toArray).heap.size
              rw [f3]
              show w.heap.size ≤ (w.heap.push _).size
              simp
            exact road_fin (b' := w.heap.size) (T := 58) hk hv1 hl hxr hyr hX hX2l hG hX21 (by rw [hw]; exact g2 _ g0) (hf _ (Nat.le_refl _)) (by rw [hw]; rfl) (by rw [hw]; rfl) (by rw [hw]; rfl) hsz
              (fun b' h _ => hheap b' h) (by simp [hbγ, hvγ]) hf (.inr (Nat.le_refl _)) he hK
        · have ekn : k = l.length := by omega
          subst ekn
          by_cases hroom : l.length + 1 ≤ c
          · refine (ins_end b l.length c vb vc T Tv xs ys w hroom hl hb hvb hxl' hyl hy1).mono fun e w' hh => ?_
            obtain ⟨he, hw⟩ := hh
            obtain ⟨hXl, hX⟩ := insX_end hroom hxl' hyl rfl
            obtain ⟨f1, f2, f3⟩ := setRow_facts (w := w) (ys := xs.take (l.length * 5) ++ ys.take 5 ++ xs.drop (l.length * 5 + 5)) hb
            exact road_fin (b' := b) (T := T) hk hv1 hl hxr hyr hX hXl hroom (one_app (one_take hx1 _) (one_take hy1 _) (one_drop hx1 _)) (by rw [hw]; exact f2 T hb) hbγ (by rw [hw]; rfl) (by rw [hw]; rfl) (by rw [hw]; rfl) (by rw [hw, f3]; exact Nat.le_refl _)
              (fun b' _ h => by rw [hw, f1 b' (by intro e; subst e; simp at h)]) (by simp [hbγ, hvγ]) hf (.inl (by simp)) he hK
          · have ecn : c = l.length := by omega
            refine (ins_more (some ⟨b, 0, none⟩) l.length c vb vc Tv (xs.take (l.length * 5)) ys w (by omega) (by omega) (by omega) (fun w' hw' => run_firstCells_some w' 5 l.length ⟨b, 0, none⟩ l.length c _ (by simp only [List.length_take]; omega) (fun j v hj => by
              rw [row_at (by rw [hw']; exact hb), Nat.zero_add]
              rw [List.getElem?_take] at hj
              split at hj
              · exact hj
              · cases hj)) hvb hyl i45 hs45 hz45 hb45 (zs := zv.cells) rfl (fun h => by cases h)).mono fun e w' hh => ?_
            obtain ⟨G, hG, he, hw⟩ := hh
            have hz0 : zv.cells.size ≠ 0 := by omega
            have hXl : (xs.take (l.length * 5) ++ ys.take 5 ++ (Builtin.zeroCells zv.cells (G - (l.length + 1))).toList).length = G * 5 := by
              have hzl : ∀ k, (Builtin.zeroCells zv.cells k).toList.length = k * 5 := fun k => by simp [Builtin.zeroCells, hzc]
              simp only [List.length_append, List.length_take, List.length_nil, hzl]; omega
            exact road_fin (b' := w.heap.size) (T := 58) hk hv1 hl hxr hyr (insX_more (by simp only [List.length_take]; omega) (fun m hm => List.getElem?_take_of_lt hm) hyl rfl) hXl hG
              (one_app (one_take hx1 _) (one_take hy1 _) (zeroCells_one hzv1 hz0 _)) (by rw [hw]; exact alloc_new) (hf _ (Nat.le_refl _)) (by rw [hw]; rfl) (by rw [hw]; rfl) (by rw [hw]; rfl) (by rw [hw]; show w.heap.size ≤ (w.heap.push _).size; simp)
              (fun b' h _ => by rw [hw]; exact alloc_old h) (by simp [hbγ, hvγ]) hf (.inr (Nat.le_refl _)) he hK
end Go.Rs.InN
namespace Go.Rs
open Go.Proofs
end Go.Rs

