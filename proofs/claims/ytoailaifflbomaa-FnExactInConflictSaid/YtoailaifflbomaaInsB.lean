import Derived.Test.YtoailaifflbomaaInsA
import Derived.Lib.AppendZerosOnto
set_option linter.all false
set_option linter.unusedSimpArgs false
set_option linter.unusedVariables false
namespace Go.Rs
open Go.Proofs Go.RowKit Go.Lib
set_option maxHeartbeats 4000000 in
set_option maxRecDepth 100000 in
theorem ins_grow (b n c i vb vc T T' : Nat) (xs ys : List Value) (w : World) (hi : i < n) (hnc : n ≤ c) (hroom : c < n + 1) (hc : n + 1 ≤ 1073741824) (hvb : vb ≠ b)
    (hb : w.heap[b]? = some (.cells xs.toArray T (0, 0))) (hv : w.heap[vb]? = some (.cells ys.toArray T' (0, 0))) (hxl : xs.length = c * 7) (hyl : 7 ≤ ys.length)
    (hx1 : ∀ v ∈ xs, v.oneCell' = true) (hy1 : ∀ v ∈ ys, v.oneCell' = true) {i0 : TypeInfo} {zv : Value} (i45 : Try.prog.info? 97 = some i0) (hs45 : i0.size = 7) (hz45 : i0.zero = some zv) (hb45 : i0.bytes ≤ 256) {zs : Array Value} (hzs : Hid (zs = zv.cells)) (hzc : zs.size = 7) :
    Calls Try.prog 108 #[.slice (some ⟨b, 0, none⟩) n c, .int .i64 i, .slice (some ⟨vb, 0, none⟩) 1 vc] w fun e w' => ∃ G : Nat, n + 1 ≤ G ∧
      e = .returned (.slice (some ⟨w.heap.size, 0, none⟩) (n + 1) G) ∧ ∃ R X1 X2 : List Value, R = xs.take (i * 7) ++ (Builtin.zeroCells zs (n + 1 - i)).toList ++ (Builtin.zeroCells zs (G - (n + 1))).toList ∧
        X1 = R.take (i * 7) ++ ys.take 7 ++ R.drop (i * 7 + 7) ∧ X2 = X1.take ((i + 1) * 7) ++ (xs.drop (i * 7)).take ((n - i) * 7) ++ X1.drop ((i + 1) * 7 + (n - i) * 7) ∧
        w' = (((w.alloc (.cells R.toArray 97)).drew.setRow w.heap.size X1.toArray).drew).setRow w.heap.size X2.toArray := by
  have t25 : Try.prog.underlying 33 = some (.slice 97) := by kernel_rfl
  have t3 : Try.prog.underlying 3 = some (.int .i64) := by kernel_rfl
  have mixed := mix
  have hz2 : ¬ ((i : Int) = (n : Int)) := by omega
  have hz3 : (c : Int) < (n : Int) + 1 := by omega
  have hbw : b < w.heap.size := by
    rcases Nat.lt_or_ge b w.heap.size with h | h
    · exact h
    · rw [Array.getElem?_eq_none h] at hb; cases hb
  have hvw : vb < w.heap.size := by
    rcases Nat.lt_or_ge vb w.heap.size with h | h
    · exact h
    · rw [Array.getElem?_eq_none h] at hv; cases hv
  have hkk : (n : Int) + 1 - (i : Int) = ((n + 1 - i : Nat) : Int) := by omega
  have hik : i + (n + 1 - i) = n + 1 := by omega
  have hxi : (xs.take (i * 7)).length = i * 7 := by simp; omega
  have hold : (Builtin.firstCells i0.size i (.slice (some ⟨b, 0, none⟩) i c)).run Try.prog w.drew = .ok (xs.take (i * 7)).toArray w.drew := by
    rw [hs45]
    exact run_firstCells_some w.drew 7 i ⟨b, 0, none⟩ i c (xs.take (i * 7)) hxi (fun j v hj => by
      rw [row_at (w := w.drew) hb, Nat.zero_add]
      rw [List.getElem?_take] at hj
      split at hj
      · exact hj
      · cases hj)
  have hfit : (n + 1) * i0.bytes ≤ 140737488355328 := by
    calc (n + 1) * i0.bytes ≤ 1073741824 * 256 := Nat.mul_le_mul hc hb45
      _ ≤ 140737488355328 := by decide
  have hrz : ∀ ty, (Builtin.append_ #[33, 3] ty #[.slice (some ⟨b, 0, none⟩) i c, .int .i64 ((n : Int) + 1 - (i : Int))]).run Try.prog w =
      .ok (.slice (some ⟨w.heap.size, 0, none⟩) (n + 1) (grownCap w (n + 1) c 97)) (w.drew.alloc (.cells ((xs.take (i * 7)).toArray ++ Builtin.zeroCells zs (n + 1 - i) ++ Builtin.zeroCells zs (grownCap w (n + 1) c 97 - (n + 1))) 97)) := fun ty => by
    have h48 : (n + 1 - i) * i0.bytes ≤ 281474976710656 := by
      have : (n + 1 - i) * i0.bytes ≤ (n + 1) * i0.bytes := Nat.mul_le_mul_right _ (by omega)
      omega
    have hz' := hzs.out
    subst hz'
    have h := Lib.run_append_grow_zeros w 33 3 ty 97 i0 zv .i64 .i64 t25 t3 i45 hz45 (some ⟨b, 0, none⟩) i c (xs.take (i * 7)) hold (n + 1 - i) (by omega) (by omega) (by omega) (by omega) h48 (by rw [hik]; exact growslice_fits hroom hfit)
    rw [hik] at h
    rw [hkk]
    exact h
  have hGn : n + 1 ≤ grownCap w (n + 1) c 97 := grownCap_ge w _ _ _
  have hG63 : grownCap w (n + 1) c 97 ≤ 9223372036854775807 := by
    have := grownCap_le_maxLen w (n + 1) c 97 (by unfold maxLen; omega)
    unfold maxLen at this
    omega
  obtain ⟨G, hG⟩ : ∃ G, G = grownCap w (n + 1) c 97 := ⟨_, rfl⟩
  rw [← hG] at hrz hGn hG63
  obtain ⟨R, hR⟩ : ∃ R : List Value, R = xs.take (i * 7) ++ (Builtin.zeroCells zs (n + 1 - i)).toList ++ (Builtin.zeroCells zs (G - (n + 1))).toList := ⟨_, rfl⟩
  have hRA : (xs.take (i * 7)).toArray ++ Builtin.zeroCells zs (n + 1 - i) ++ Builtin.zeroCells zs (G - (n + 1)) = R.toArray := by
    rw [hR]; apply Array.ext'; simp
  rw [hRA] at hrz
  have hzl : ∀ k, (Builtin.zeroCells zs k).toList.length = k * 7 := fun k => by simp [Builtin.zeroCells, hzc]
  have hRl : R.length = G * 7 := by rw [hR]; simp only [List.length_append, hxi, hzl]; omega
  obtain ⟨X1, hX1⟩ : ∃ X1 : List Value, X1 = R.take (i * 7) ++ ys.take 7 ++ R.drop (i * 7 + 7) := ⟨_, rfl⟩
  have hy7 : (ys.take 7).length = 7 := by simp; omega
  have hX1l : X1.length = R.length := by rw [hX1]; simp only [List.length_append, List.length_take, List.length_drop]; omega
  have hcl : ((xs.drop (i * 7)).take ((n - i) * 7)).length = (n - i) * 7 := by simp; omega
  have hcpA : ∀ (W : World), W.heap = (w.drew.alloc (.cells R.toArray 97)).heap → ∀ ty dc, (Builtin.copy_ #[33, 33] ty #[.slice (some ⟨w.heap.size, i * 7, none⟩) (n + 1 - i) dc, .slice (some ⟨vb, 0, none⟩) 1 vc]).run Try.prog W =
      .ok (goInt (Nat.min 1 (n + 1 - i))) (W.setRow w.heap.size X1.toArray) := fun W hW ty dc => by
    have hbW : W.heap[w.heap.size]? = some (.cells R.toArray 97 (0, 0)) := by rw [hW]; exact alloc_new
    have hvW : W.heap[vb]? = some (.cells ys.toArray T' (0, 0)) := by rw [hW, alloc_old hvw]; exact hv
    have := copy_row (P := Try.prog) (w := W) t25 i45 hs45 (ats := [33]) (ty := ty) (o := i * 7) (dLen := n + 1 - i) (dCap := dc) hbW ⟨vb, 0, none⟩ 1 vc (ys.take 7) (by simp only [List.length_take, Nat.min_def]; split <;> split <;> omega)
      (fun j v hj => by
        rw [row_at hvW]
        have hjl : j < 7 := by
          rcases Nat.lt_or_ge j 7 with h | h
          · exact h
          · rw [List.getElem?_eq_none (by simp; omega)] at hj; cases hj
        rw [List.getElem?_take_of_lt hjl] at hj; rw [Nat.zero_add]; exact hj)
      (fun v hv => hy1 v (List.mem_of_mem_take hv)) (by rw [hy7, hRl]; omega)
    rw [hy7, ← hX1] at this
    exact this
  have hcpB : ∀ (W : World), W.heap = ((w.drew.alloc (.cells R.toArray 97)).setRow w.heap.size X1.toArray).heap → ∀ ty dc sc, (Builtin.copy_ #[33, 33] ty #[.slice (some ⟨w.heap.size, (i + 1) * 7, none⟩) (n - i) dc, .slice (some ⟨b, i * 7, none⟩) (n - i) sc]).run Try.prog W =
      .ok (goInt (Nat.min (n - i) (n - i))) (W.setRow w.heap.size (X1.take ((i + 1) * 7) ++ (xs.drop (i * 7)).take ((n - i) * 7) ++ X1.drop ((i + 1) * 7 + (n - i) * 7)).toArray) := fun W hW ty dc sc => by
    have hb0 : (w.drew.alloc (.cells R.toArray 97)).heap[w.heap.size]? = some (.cells R.toArray 97 (0, 0)) := alloc_new
    obtain ⟨f1, f2, f3⟩ := setRow_facts (w := w.drew.alloc (.cells R.toArray 97)) (ys := X1) hb0
    have hbW : W.heap[w.heap.size]? = some (.cells X1.toArray 97 (0, 0)) := by rw [hW]; exact f2 _ hb0
    have hxW : W.heap[b]? = some (.cells xs.toArray T (0, 0)) := by rw [hW, f1 b (by omega), alloc_old hbw]; exact hb
    have := copy_row (P := Try.prog) (w := W) t25 i45 hs45 (ats := [33]) (ty := ty) (o := (i + 1) * 7) (dLen := n - i) (dCap := dc) hbW ⟨b, i * 7, none⟩ (n - i) sc ((xs.drop (i * 7)).take ((n - i) * 7)) (by rw [hcl]; congr 1; simp only [Nat.min_def]; split <;> omega)
      (fun j v hj => by
        rw [row_at hxW]
        have hjl : j < (n - i) * 7 := by
          rcases Nat.lt_or_ge j ((n - i) * 7) with h | h
          · exact h
          · rw [List.getElem?_eq_none (by omega)] at hj; cases hj
        rw [List.getElem?_take_of_lt hjl, List.getElem?_drop] at hj; exact hj)
      (fun v hv => hx1 v (List.mem_of_mem_drop (List.mem_of_mem_take hv))) (by rw [hcl, hX1l, hRl]; omega)
    rw [hcl] at this
    exact this
  have hGi : ¬ (G = i) := by omega
  have hGim : ¬ (G = i + 1) := by omega
  have hci : ¬ (c = i) := by omega
  have hw1 : IntKind.i64.wrap ((i : Int) + 1) = (i : Int) + 1 := by rw [IntKind.wrap_i64]; omega
  have hb1 : (0 : Int) ≤ (i : Int) + 1 := by omega
  have hin : i ≤ n := by omega
  have htn : ((i : Int) + 1).toNat = i + 1 := by omega
  have hb3 : (i : Int) ≤ (n : Int) := by omega
  have hb5 : (i : Int) + 1 ≤ (n : Int) + 1 := by omega
  have hb9 : (i : Int) ≤ (n : Int) + 1 := by omega
  have hb10 : (i : Int) ≤ (c : Int) := by omega
  have HR : Hid (R = xs.take (i * 7) ++ (Builtin.zeroCells zs (n + 1 - i)).toList ++ (Builtin.zeroCells zs (G - (n + 1))).toList) := hR
  have HX : Hid (X1 = R.take (i * 7) ++ ys.take 7 ++ R.drop (i * 7 + 7)) := hX1
  clear hkk hik hold hRA hG hRl hzl hX1l hfit hR hX1
  have hE1 : ((w.alloc (.cells R.toArray 97)).drew).heap = (w.drew.alloc (.cells R.toArray 97)).heap := rfl
  have hE2 : (((w.alloc (.cells R.toArray 97)).drew.setRow w.heap.size X1.toArray).drew).heap = ((w.drew.alloc (.cells R.toArray 97)).setRow w.heap.size X1.toArray).heap := rfl
  go_enter Try.func108, Try.ntmps108
  go_wp2_with (first
    | (at_builtin; refine Lib.wpList_append_run _ rfl _ _ _ _ rfl _ _ rfl rfl _ _ (hrz _) ?_)
    | (at_builtin; refine wpList_copyI _ rfl _ _ 33 33 rfl _ _ rfl rfl (hcpA _ hE1 _ _) ?_))
  go_region_law_o (refine step_copyI rfl _ _ 33 33 rfl (.slice (some ⟨w.heap.size, (i + 1) * 7, none⟩) (n - i) (G - (i + 1))) (.slice (some ⟨b, i * 7, none⟩) (n - i) (c - i)) (by simp [Act.eval, Act.put]) (by simp [Act.eval, Act.put]) (hcpB _ hE2 3 (G - (i + 1)) (c - i)) ?_)
  go_wp2
  go_ret
  exact ⟨G, hGn, rfl, R, X1, _, HR.out, HX.out, rfl, by rw [List.append_assoc]⟩
end Go.Rs

