import Derived.Test.YtmgheiagnleeiaaDoorCC
import Derived.Test.YtmgheiagnleeiaaDoorMA
import Derived.Test.YtmgheiagnleeiaaDoorFG
import Derived.Test.YtmgheiagnleeiaaDoorFH
import Derived.Shelf.RegionOpenPlain
set_option linter.all false
set_option linter.unusedSimpArgs false
set_option linter.unusedVariables false
namespace Go.Rs
open Go.Proofs Go.RowKit
set_option maxRecDepth 100000
theorem info_of {t : Nat} {x} (h : (Tryd.prog.info? t).map (fun i => (i.zero, i.size, i.bytes)) = some x) : ∃ i, Tryd.prog.info? t = some i ∧ i.zero = x.1 ∧ i.size = x.2.1 ∧ i.bytes = x.2.2 := by
  obtain ⟨i, h1, rfl⟩ := Option.map_eq_some_iff.1 h
  exact ⟨i, h1, rfl, rfl, rfl⟩
theorem szB : (Tryd.prog.info? BT).map (·.size) = some 2 := by kernel_rfl
theorem tpB : Tryd.prog.underlying 76 = some (.pointer BT) := by kernel_rfl
theorem tUp : Tryd.prog.underlying 100 = some .unsafePointer := by kernel_rfl
theorem liesB : liesAt Tryd.prog Tryd.prog.depth BT (2 / Tryd.prog.cellsOf BT) 0 BT 1 = true := by kernel_rfl
theorem kchk0 (b : Nat) (v : Value) (w : World) (hb : w.heap[b]? = some (.cells #[.pointer none, v] BT (0, 0))) :
    Calls Tryd.prog 73 #[.pointer (some ⟨b, 0, none⟩)] w fun e w' => e = .returned (.tuple #[]) ∧ w' = w.setCell ⟨b, 0, none⟩ (.pointer (some ⟨b, 0, none⟩)) := by
  obtain ⟨j, hj, hjs⟩ := Option.map_eq_some_iff.1 szB
  have h0 : w.cell? ⟨b, 0, none⟩ = some (.pointer none) := by simp [World.cell?, hb]
  have hfz : w.frozen? ⟨b, 0, none⟩ = false := by simp [World.frozen?, hb]
  have hsh : w.shape? b = some (BT, 2) := by simp [World.shape?, hb]
  go_enter Tryd.func73, Tryd.ntmps73
  go_wp2
  rw [Lib.run_to_unsafe w ⟨b, 0, none⟩ tpB tUp hj (by rw [hjs]; decide) hsh (Nat.zero_lt_succ 1)]
  simp only [Result.andThen]
  rw [Oper.upon_value]
  go_wp2
  rw [run_callFunc_extern Tryd.func80 (by kernel_rfl) (by kernel_rfl) (by kernel_rfl) (e := Extern.AbiNoEscape.same) (by kernel_rfl)]
  rw [Lib.run_noEscape]
  simp only [Result.andThen]
  rw [Oper.upon_value]
  go_wp2
  rw [Lib.run_from_unsafe w ⟨b, 0, none⟩ tUp tpB hj hsh liesB]
  simp only [Result.andThen]
  rw [Oper.upon_value]
  go_wp2
  go_end0
  exact ⟨rfl, rfl⟩
theorem kchk1 (b : Nat) (v : Value) (w : World) (hb : w.heap[b]? = some (.cells #[.pointer (some ⟨b, 0, none⟩), v] BT (0, 0))) :
    Calls Tryd.prog 73 #[.pointer (some ⟨b, 0, none⟩)] w fun e w' => e = .returned (.tuple #[]) ∧ w' = w := by
  obtain ⟨j, hj, hjs⟩ := Option.map_eq_some_iff.1 szB
  have h0 : w.cell? ⟨b, 0, none⟩ = some (.pointer (some ⟨b, 0, none⟩)) := by simp [World.cell?, hb]
  go_enter Tryd.func73, Tryd.ntmps73
  go_wp2
  rw [Lib.run_neq_ptr_same w _ tpB hj]
  go_wp2
  go_end0
  exact ⟨rfl, rfl⟩
theorem tpP8 : Tryd.prog.underlying 97 = some (.pointer B8) := by kernel_rfl
theorem cel8 : Tryd.prog.cellsOf B8 = 1 := by kernel_rfl
theorem set_here {w : World} {b i : Nat} {xs : List Value} {T : TypeId} (h : w.heap[b]? = some (.cells xs.toArray T (0, 0))) (v : Value) (hi : i < xs.length) :
    (w.setCell ⟨b, i, none⟩ v).heap[b]? = some (.cells (xs.set i v).toArray T (0, 0)) ∧ (∀ k, k ≠ b → (w.setCell ⟨b, i, none⟩ v).heap[k]? = w.heap[k]?) ∧ (w.setCell ⟨b, i, none⟩ v).heap.size = w.heap.size ∧
    (w.setCell ⟨b, i, none⟩ v).os = w.os ∧ (w.setCell ⟨b, i, none⟩ v).tape = w.tape ∧ (w.setCell ⟨b, i, none⟩ v).output = w.output := by
  have hlt := heap_lt h
  have h' := h
  rw [Array.getElem?_eq_getElem hlt] at h'
  simp only [Option.some.injEq] at h'
  refine ⟨?_, fun k hk => ?_, ?_, ?_, ?_, ?_⟩
  all_goals simp [World.setCell, h, h', hlt]
  all_goals try grind
theorem kchk (b : Nat) (x v : Value) (w : World) (hb : w.heap[b]? = some (.cells #[x, v] BT (0, 0))) (hx : x = .pointer none ∨ x = .pointer (some ⟨b, 0, none⟩)) :
    Calls Tryd.prog 73 #[.pointer (some ⟨b, 0, none⟩)] w fun e w' => e = .returned (.tuple #[]) ∧ w'.heap[b]? = some (.cells #[.pointer (some ⟨b, 0, none⟩), v] BT (0, 0)) ∧ (∀ k, k ≠ b → w'.heap[k]? = w.heap[k]?) ∧ w'.heap.size = w.heap.size ∧
      w'.os = w.os ∧ w'.tape = w.tape ∧ w'.output = w.output := by
  rcases hx with rfl | rfl
  · refine (kchk0 b v w hb).mono ?_
    rintro e w' ⟨rfl, rfl⟩
    exact ⟨rfl, set_here (xs := [_, _]) hb _ (by simp)⟩
  · refine (kchk1 b v w hb).mono ?_
    rintro e w' ⟨rfl, rfl⟩
    exact ⟨rfl, hb, fun _ _ => rfl, rfl, rfl, rfl, rfl⟩
theorem inf8 : (Tryd.prog.info? B8).map (fun i => (i.zero, i.size, i.bytes)) = some (some (.int .u8 0), 1, 1) := by kernel_rfl
theorem tpS8 : Tryd.prog.underlying 77 = some (.slice B8) := by kernel_rfl
theorem wpList_append_eq {P : Program} {ops : Array Oper} {rest : List Oper} {o : Oper} {a : Act} {Q : Exit → Act → World → Prop} {w w' : World} {v' : Value} (hgd : o.guard = none) (sl x : Operand) (t u : TypeId)
    (ho : o.op = .call { callee := .builtin .append, args := #[sl, x], argTypes := #[t, u] }) (v y : Value) (hs : a.eval sl = v) (hx : a.eval x = y) (hr : ∀ ty, (Builtin.append_ #[t, u] ty #[v, y]).run P w = .ok v' w')
    (h : ∀ z, z = v' → wpList P ops Q rest (a.put o.dst z) w') : wpList P ops Q (o :: rest) a w := by
  refine wpList_plain hgd fun K hK => ?_
  unfold Oper.wp execOp
  simp only [ho, resolve, invoke, builtin, Sem.run_bind, Sem.run_pure, Result.andThen_ok, List.map_toArray, List.map_cons, List.map_nil, hs, hx, hr]
  exact hK _ _ (h _ rfl)
theorem Buf.up {w w' : World} {b : Nat} {v s o} (h : Buf w v s o) (ho : o ≠ some b) (hk : ∀ k, k ≠ b → w'.heap[k]? = w.heap[k]?) : Buf w' v s o :=
  h.keep fun g hg => hk g (fun e => ho (by rw [hg, e]))
theorem wr_end {b : Nat} {v : Value} {o o' : Option Nat} {w w1 w1' w2 : World} {v' : Value} {t : Bs} (hlt : b < w.heap.size) (ho : o ≠ some b) (hk1 : ∀ k, k ≠ b → w1.heap[k]? = w.heap[k]?) (hz1 : w1.heap.size = w.heap.size) (hos1 : w1.os = w.os) (htp1 : w1.tape = w.tape) (hou1 : w1.output = w.output)
    (hos' : w1'.os = w1.os) (htp' : w1'.tape = w1.tape) (hou' : w1'.output = w1.output) (hsz' : w1.heap.size ≤ w1'.heap.size) (hk' : ∀ k, k < w1.heap.size → w1'.heap[k]? = w1.heap[k]?)
    (hbuf : Buf w2 v' t o') (hos2 : w2.os = w1'.os) (htp2 : w2.tape = w1'.tape) (hou2 : w2.output = w1'.output) (hsz2 : w1'.heap.size ≤ w2.heap.size) (hkp2 : ∀ k, k < w1'.heap.size → some k ≠ o → w2.heap[k]? = w1'.heap[k]?) (hfr2 : ∀ g, o' = some g → o = some g ∨ w1'.heap.size ≤ g)
    (hb2 : w2.heap[b]? = some (.cells #[.pointer (some ⟨b, 0, none⟩), v] BT (0, 0))) :
    ∃ v'' o', (w2.setCell ⟨b, 1, none⟩ v').heap[b]? = some (.cells #[.pointer (some ⟨b, 0, none⟩), v''] BT (0, 0)) ∧ Buf (w2.setCell ⟨b, 1, none⟩ v') v'' t o' ∧ o' ≠ some b ∧ BW b o w (w2.setCell ⟨b, 1, none⟩ v') ∧ (∀ g, o' = some g → o = some g ∨ w.heap.size ≤ g) := by
  obtain ⟨s1, s2, s3, s4, s5, s6⟩ := set_here (xs := [_, _]) hb2 v' (show 1 < 2 by decide)
  have ho' : o' ≠ some b := by
    intro e
    rcases hfr2 b e with h | h
    · exact ho h
    · omega
  refine ⟨v', o', s1, hbuf.up ho' s2, ho', ⟨by rw [s4, hos2, hos', hos1], by rw [s5, htp2, htp', htp1], by rw [s6, hou2, hou', hou1], by rw [s3]; omega, fun k h1 h2 h3 => ?_⟩, fun g hg => ?_⟩
  · rw [s2 k h2, hkp2 k (by omega) h3, hk' k (by omega), hk1 k h2]
  · rcases hfr2 g hg with h | h
    · exact .inl h
    · exact .inr (by omega)
theorem kwb (b : Nat) (x v : Value) (s : Bs) (o : Option Nat) (c : UInt8) (w : World) (hb : w.heap[b]? = some (.cells #[x, v] BT (0, 0))) (hx : x = .pointer none ∨ x = .pointer (some ⟨b, 0, none⟩)) (hv : Buf w v s o) (ho : o ≠ some b) (h63 : s.length + 1 ≤ 1073741824) :
    Calls Tryd.prog 52 #[.pointer (some ⟨b, 0, none⟩), .int .u8 c.toNat] w fun e w' => e = .returned .nilIface ∧ ∃ v' o', w'.heap[b]? = some (.cells #[.pointer (some ⟨b, 0, none⟩), v'] BT (0, 0)) ∧ Buf w' v' (s ++ [c]) o' ∧ o' ≠ some b ∧ BW b o w w' ∧ (∀ g, o' = some g → o = some g ∨ w.heap.size ≤ g) := by
  obtain ⟨i8, hi8, hz8, hs8, hby8⟩ := info_of inf8
  have hlt := heap_lt hb
  go_enter Tryd.func52, Tryd.ntmps52
  go_wp2_with (go_at_call 73; refine (kchk b x v w hb hx).mono ?_)
  rintro e w1 rfl hb1 hk1 hz1 hos1 htp1 hou1
  have c1 : w1.cell? ⟨b, 1, none⟩ = some v := by simp [World.cell?, hb1]
  have hv1 := hv.up ho hk1
  have hv2 : Buf (w1.alloc (.cells #[.int .u8 c.toNat] B8)) v s o := hv1.keep fun g hg => heap_alloc_old w1 _ (by subst hg; exact hv1.lt)
  obtain ⟨v', w2, o', hrun, hbuf, hos2, htp2, hou2, hsz2, hkp2, hfr2⟩ := app8 (P := Tryd.prog) (tx := 77) (u := 77) (ty := 77) (d := .slice B8) tpS8 tpS8 (by simp) hi8 hz8 hs8 (by rw [hby8]; decide) hv2 (y := .slice (some ⟨w1.heap.size, 0, none⟩) 1 1) (m := [c]) rfl (by
    intro w' hw'
    exact run_firstCells_some w' 1 1 ⟨w1.heap.size, 0, none⟩ 1 1 (bC [c]) rfl (fun j u hj => by
      cases j with
      | zero =>
        rw [Addr.add_mid, Nat.zero_add, cell_row (w := w') (xs := bC [c]) (T := B8) (by rw [hw']; exact heap_alloc_new w1 _) (by simp [bC])]
        simpa [bC] using hj
      | succ j => simp [bC] at hj)) (by simpa using h63)
  have hlt1 : b < w1.heap.size := heap_lt hb1
  have hb2 : w2.heap[b]? = some (.cells #[.pointer (some ⟨b, 0, none⟩), v] BT (0, 0)) := by
    rw [hkp2 b (by simp; omega) (fun e => ho e.symm), heap_alloc_old w1 _ hlt1, hb1]
  have d0 : w2.cell? ⟨b, 0, none⟩ = some (.pointer (some ⟨b, 0, none⟩)) := by simp [World.cell?, hb2]
  have d1 : w2.cell? ⟨b, 1, none⟩ = some v := by simp [World.cell?, hb2]
  have f1 : w2.frozen? ⟨b, 1, none⟩ = false := by simp [World.frozen?, hb2]
  have hrun' : ∀ ty, (Builtin.append_ #[77, 77] ty #[v, .slice (some ⟨w1.heap.size, 0, none⟩) 1 1]).run Tryd.prog (w1.alloc (.cells #[.int .u8 c.toNat] B8)) = .ok v' w2 := fun _ => hrun
  clear hrun
  rw [hz1] at hrun'
  obtain ⟨a2, cap2, e2⟩ := hbuf.slice
  rw [List.length_append] at e2
  subst e2
  go_wp2_with (at_builtin; refine wpList_append_eq rfl _ _ _ _ rfl _ _ rfl rfl hrun' ?_)
  go_ret
  exact ⟨rfl, wr_end hlt ho hk1 hz1 hos1 htp1 hou1 (w1' := w1.alloc (.cells #[.int .u8 c.toNat] B8)) rfl rfl rfl (by simp) (fun k hk => heap_alloc_old w1 _ hk) (by simpa using hbuf) hos2 htp2 hou2 hsz2 hkp2 hfr2 hb2⟩
theorem tpStr : Tryd.prog.underlying 9 = some .string := by kernel_rfl
theorem kws (b : Nat) (x v : Value) (s : Bs) (o : Option Nat) (m : Bs) (w : World) (hb : w.heap[b]? = some (.cells #[x, v] BT (0, 0))) (hx : x = .pointer none ∨ x = .pointer (some ⟨b, 0, none⟩)) (hv : Buf w v s o) (ho : o ≠ some b) (h63 : s.length + m.length ≤ 1073741824) :
    Calls Tryd.prog 54 #[.pointer (some ⟨b, 0, none⟩), .string ⟨m.toArray⟩] w fun e w' => e = .returned (.tuple #[.int .i64 m.length, .nilIface]) ∧ ∃ v' o', w'.heap[b]? = some (.cells #[.pointer (some ⟨b, 0, none⟩), v'] BT (0, 0)) ∧ Buf w' v' (s ++ m) o' ∧ o' ≠ some b ∧ BW b o w w' ∧ (∀ g, o' = some g → o = some g ∨ w.heap.size ≤ g) := by
  obtain ⟨i8, hi8, hz8, hs8, hby8⟩ := info_of inf8
  have hlt := heap_lt hb
  go_enter Tryd.func54, Tryd.ntmps54
  go_wp2_with (go_at_call 73; refine (kchk b x v w hb hx).mono ?_)
  rintro e w1 rfl hb1 hk1 hz1 hos1 htp1 hou1
  have c1 : w1.cell? ⟨b, 1, none⟩ = some v := by simp [World.cell?, hb1]
  have hv1 := hv.up ho hk1
  obtain ⟨v', w2, o', hrun, hbuf, hos2, htp2, hou2, hsz2, hkp2, hfr2⟩ := app8 (P := Tryd.prog) (tx := 77) (u := 9) (ty := 77) (d := .string) tpS8 tpStr (by simp) hi8 hz8 hs8 (by rw [hby8]; decide) hv1 (y := .string ⟨m.toArray⟩) (m := m) (by
    simp [Builtin.lenOf, ByteArray.size]) (by
    intro w' hw'
    have := Lib.run_firstCells_string (P := Tryd.prog) (w := w') 1 ⟨m.toArray⟩
    simpa [Lib.strCells, bC, ByteArray.size] using this) h63
  have hlt1 : b < w1.heap.size := heap_lt hb1
  have hb2 : w2.heap[b]? = some (.cells #[.pointer (some ⟨b, 0, none⟩), v] BT (0, 0)) := by
    rw [hkp2 b hlt1 (fun e => ho e.symm), hb1]
  have d0 : w2.cell? ⟨b, 0, none⟩ = some (.pointer (some ⟨b, 0, none⟩)) := by simp [World.cell?, hb2]
  have d1 : w2.cell? ⟨b, 1, none⟩ = some v := by simp [World.cell?, hb2]
  have f1 : w2.frozen? ⟨b, 1, none⟩ = false := by simp [World.frozen?, hb2]
  have hrun' : ∀ ty, (Builtin.append_ #[77, 9] ty #[v, .string ⟨m.toArray⟩]).run Tryd.prog w1 = .ok v' w2 := fun _ => hrun
  clear hrun
  obtain ⟨a2, cap2, e2⟩ := hbuf.slice
  rw [List.length_append] at e2
  subst e2
  go_wp2_with (at_builtin; refine wpList_append_eq rfl _ _ _ _ rfl _ _ rfl rfl hrun' ?_)
  go_ret2
  exact ⟨by simp [ByteArray.size], wr_end hlt ho hk1 hz1 hos1 htp1 hou1 rfl rfl rfl (Nat.le_refl _) (fun _ _ => rfl) hbuf hos2 htp2 hou2 hsz2 hkp2 hfr2 hb2⟩
set_option maxHeartbeats 2000000 in
theorem kst (b : Nat) (x v : Value) (s : Bs) (o : Option Nat) (w : World) (hb : w.heap[b]? = some (.cells #[x, v] BT (0, 0))) (hv : Buf w v s o) (ho : o ≠ some b) (h63 : s.length ≤ 140737488355328) :
    Calls Tryd.prog 50 #[.pointer (some ⟨b, 0, none⟩)] w fun e w' => e = .returned (.string ⟨s.toArray⟩) ∧ w'.heap[b]? = some (.cells #[x, v] BT (0, 0)) ∧ BW b o w w' := by
  have hlt := heap_lt hb
  have hbd : w.drew.heap[b]? = some (.cells #[x, v] BT (0, 0)) := hb
  have c1 : w.drew.cell? ⟨b, 1, none⟩ = some v := by simp [World.cell?, hbd]
  have mixed := mix
  have hdr : ∀ w', (w' = w.drew ∨ ∃ g n, o = some g ∧ w' = w.drew.freeze ⟨g, 0, none⟩ n) → w'.heap[b]? = some (.cells #[x, v] BT (0, 0)) ∧ BW b o w w' := by
    rintro w' (rfl | ⟨g, n, rfl, rfl⟩)
    · exact ⟨hb, rfl, rfl, rfl, Nat.le_refl _, fun _ _ _ _ => rfl⟩
    · have hk : ∀ k, k ≠ g → (w.drew.freeze ⟨g, 0, none⟩ n).heap[k]? = w.heap[k]? := by
        intro k hk
        unfold World.freeze
        split
        · rfl
        · simp only [Array.getElem?_modify]
          rw [if_neg (fun e => hk e.symm)]; rfl
      refine ⟨by rw [hk b (fun e => ho (by rw [e])), hb], ?_, ?_, ?_, ?_, fun k _ _ h => hk k (fun e => h (by rw [e]))⟩
      all_goals (unfold World.freeze; split <;> first | rfl | simp)
  cases hv with
  | nil =>
    have hSD : (Builtin.unsafeSliceData_ #[77] 97 #[.slice none 0 0]).run Tryd.prog w.drew = .ok (.pointer none) w.drew := rfl
    have hUS := Lib.run_unsafeString_none (P := Tryd.prog) w.drew 97 3 9 none
    have hdr1 := hdr w.drew (.inl rfl)
    go_enter Tryd.func50, Tryd.ntmps50
    go_wp2
    go_region_o
    all_goals (go_wp2; go_ret; exact ⟨rfl, hdr1⟩)
  | row g cap s xs h0 hc hb2 h1 hl hr =>
    have hSD : (Builtin.unsafeSliceData_ #[77] 97 #[.slice (some ⟨g, 0, none⟩) s.length cap]).run Tryd.prog w.drew = .ok (.pointer (some ⟨g, 0, none⟩)) w.drew := Lib.run_unsafeSliceData_row _ _ _ _ _ _ h0
    by_cases hs : s = []
    · subst hs
      rw [List.length_nil] at hSD
      have hUS := Lib.run_unsafeString_none (P := Tryd.prog) w.drew 97 3 9 (some ⟨g, 0, none⟩)
      have hdr1 := hdr w.drew (.inl rfl)
      clear h0 hl hr h1 hdr
      go_enter Tryd.func50, Tryd.ntmps50
      go_wp2
      go_region_o
      all_goals (go_wp2; go_ret; exact ⟨rfl, hdr1⟩)
    · have hUS : (Builtin.unsafeString_ #[97, 3] 9 #[.pointer (some ⟨g, 0, none⟩), .int .i64 s.length]).run Tryd.prog w.drew = .ok (.string ⟨s.toArray⟩) (w.drew.freeze ⟨g, 0, none⟩ s.length) := by
        have hg : w.drew.heap[g]? = some (.cells xs.toArray B8 (0, 0)) := hb2
        refine Lib.run_unsafeString_row w.drew 97 3 9 B8 tpP8 cel8 g xs.length (by simp [World.shape?, hg]) s hs (by omega) (by omega) ?_
        intro j y hj
        have hj' : j < s.length := by
          rcases Nat.lt_or_ge j s.length with h | h
          · exact h
          · rw [List.getElem?_eq_none h] at hj; cases hj
        rw [Addr.add_mid, Nat.zero_add, cell_row (w := w.drew) (xs := xs) (T := B8) hg (by omega), hr j hj', List.getD_eq_getElem?_getD, hj]
        rfl
      have hdr1 := hdr _ (.inr ⟨g, s.length, rfl, rfl⟩)
      clear h0 hl hr h1 hdr
      go_enter Tryd.func50, Tryd.ntmps50
      go_wp2
      go_region_o
      all_goals (go_wp2; go_ret; exact ⟨rfl, hdr1⟩)
noncomputable def c52 (s : Bs) (c : Int) (K : AV → List AV → Prop) : Prop :=
    Obl ((0 ≤ c ∧ c < 256) ∧ s.length + 1 ≤ 1073741824) (K .opq [.rb (s ++ [UInt8.ofNat c.toNat])])
noncomputable def C52 : List AV → (AV → List AV → Prop) → Prop
  | [.rb s, .int .u8 c], K => c52 s c K
  | _, _ => False
theorem s52 : CtrOK Tryd.prog 52 (.gen .ps C52) ∧ Callable Tryd.prog 52 :=
  ⟨snd_wb kwb, callable Tryd.func52 rfl (by rfl)⟩
noncomputable def c54 (s : Bs) (m : Bs) (K : AV → List AV → Prop) : Prop :=
    Obl (s.length + m.length ≤ 1073741824) (K (.tup [.int .i64 m.length, .opq]) [.rb (s ++ m)])
noncomputable def C54 : List AV → (AV → List AV → Prop) → Prop
  | [.rb s, .str m], K => c54 s m K
  | _, _ => False
theorem s54 : CtrOK Tryd.prog 54 (.gen .ps C54) ∧ Callable Tryd.prog 54 :=
  ⟨snd_ws kws, callable Tryd.func54 rfl (by rfl)⟩
noncomputable def c50 (s : Bs) (K : AV → List AV → Prop) : Prop :=
    K (.str s) [.ref [.opq, .opq]]
noncomputable def C50 : List AV → (AV → List AV → Prop) → Prop
  | [.rb s], K => c50 s K
  | _, _ => False
theorem s50 : CtrOK Tryd.prog 50 (.gen .ps C50) ∧ Callable Tryd.prog 50 :=
  ⟨snd_st kst, callable Tryd.func50 rfl (by rfl)⟩
end Go.Rs

