import Derived.Test.YtjdjkggdgddhdaaGreatDoorCX
import Derived.Test.YtjdjkggdgddhdaaGreatDoorLF
set_option linter.all false
namespace Go.Rs
open Go.Proofs
set_option maxRecDepth 100000
set_option linter.unusedVariables false
set_option linter.unusedSimpArgs false
theorem selM_pos {s : Sto} {l : List Flt} (h : 0 < (namesI (selM s l).items).length) : (storeM s && filtersM l) = true := by
  unfold selM at h
  split at h
  · assumption
  · simp [namesI] at h
theorem sel_more {s : Sto} {l : List Flt} {n i : Nat} (hi : i < (namesI (selM s l).items).length) : (namesI (selM s l).items).getD i [] ∈ namesI (selM s (l.take n)).items := by
  have h0 : 0 < (namesI (selM s l).items).length := by omega
  have h1 := selM_pos h0
  have h2 : (storeM s && filtersM (l.take n)) = true := by
    simp only [Bool.and_eq_true, filtersM, decide_eq_true_eq] at h1 ⊢
    refine ⟨h1.1, by simp; omega, ?_⟩
    rw [List.all_eq_true] at h1 ⊢
    exact fun x hx => h1.2.2 x (List.mem_of_mem_take hx)
  rw [namesI_get]
  unfold selM at hi ⊢
  rw [if_pos h1] at hi ⊢
  rw [if_pos h2]
  simp only [namesI, List.length_map] at hi ⊢
  refine List.mem_map.2 ⟨_, ?_, rfl⟩
  have hx := getD_mem (d := default) hi
  simp only [selL, List.mem_filter] at hx ⊢
  refine ⟨hx.1, ?_⟩
  have h3 := hx.2
  simp only [selP, List.all_eq_true] at h3 ⊢
  exact fun x hx => h3 x (List.mem_of_mem_take hx)
theorem sel_none {s : Sto} (h : storeM s = true) : (namesI (selM s []).items).length = s.items.length := by
  have h2 : (storeM s && filtersM []) = true := by rw [h]; rfl
  unfold selM
  rw [if_pos h2]
  simp [namesI, selL, selP]
theorem selM_ten (s : Sto) (l : List Flt) : (selM s l).items.length ≤ 10 := by
  unfold selM
  split
  · rename_i hv
    simp only [Bool.and_eq_true] at hv
    exact (storeM_clock (sel_store (l := l) hv.1)).2.2
  · simp
noncomputable def c3 (code : List Int) (K : AV → List AV → Prop) : Prop :=
    Obl (byOk code) (K (.bool true) [])
noncomputable def C3 : List AV → (AV → List AV → Prop) → Prop
  | [.ps .u8 code], K => c3 code K
  | _, _ => False
noncomputable def E3 : Ctx := mkE tab [(4, .gen .ps C4), (5, .pure F5q), (6, .pure F6), (7, .gen .ps C7), (8, .pure F8), (9, .pure F9), (10, .pure F10q)]
noncomputable def O3 : Nat → List DI := ordL [(5, [.q 0, .q 1, .q 2, .l 3 [0], .q 4, .q 5, .q 6, .q 7, .q 8, .q 9, .q 10, .q 11]), (6, [.q 0, .q 1, .q 2, .l 3 [0], .q 4, .q 5]), (12, [.q 0, .q 1, .q 2, .q 3, .q 4, .q 5, .q 6, .q 7, .q 8, .q 9, .q 10, .q 11, .q 12, .q 13, .q 14, .q 15, .q 16, .q 17, .q 18, .q 19, .q 20, .q 21, .q 22, .q 23])]
theorem a3 (code : List Int) (hb : BdAs [.ps .u8 code]) (K : AV → List AV → Prop) (h : c3 code K) : abody E3 O3 .ps Tryz.f3 (Tryz.f3.body.getD .skip) [.ps .u8 code] K := by
  simp only [BdAs, BdA, BdL, BdC, MX, ndC, shC, itC, stC, opC, chC, nwC, flC, rqC, rsC, enc, List.cons_append, List.nil_append, and_true, true_and] at hb
  unfold c3 at h
  obtain ⟨ho, hK⟩ := h
  conv => whnf
  repeat' first
    | (refine Cnd.mk (fun h => ?_) (fun h => ?_) <;> (try simp [nd_eta, sh_eta, it_eta, sto_eta, op_eta, ch_eta, nw_eta, fl_eta, rq_eta, rs_eta, elDef, -List.getD_eq_getElem?_getD] at h) <;> conv => whnf)
    | (refine Obl.mk (by first | omega | rfl | exact inK_byte _ | (simp only [inK, Int.toNat_natCast, nd_eta, sh_eta, it_eta, sto_eta, op_eta, ch_eta, nw_eta, fl_eta, rq_eta, rs_eta, elDef, o10q] <;> first | omega | grind) | grind [inK, o10q]) ?_ <;> conv => whnf)
    | (refine OblG.mk (by conv => whnf
                          repeat (first | (refine Bx.mk ?_) | (intro h; (try simp [nd_eta, sh_eta, it_eta, sto_eta, op_eta, ch_eta, nw_eta, fl_eta, rq_eta, rs_eta, elDef, -List.getD_eq_getElem?_getD] at h); conv => whnf))
                          first | omega | rfl | exact inK_byte _ | (simp only [inK, Int.toNat_natCast, nd_eta, sh_eta, it_eta, sto_eta, op_eta, ch_eta, nw_eta, fl_eta, rq_eta, rs_eta, elDef, o10q] <;> first | omega | grind) | grind [inK, o10q]) ?_ <;> conv => whnf)
    | (refine Gd.mk (fun h => ?_) <;> (try simp [nd_eta, sh_eta, it_eta, sto_eta, op_eta, ch_eta, nw_eta, fl_eta, rq_eta, rs_eta, elDef, -List.getD_eq_getElem?_getD] at h) <;> conv => whnf)
    | (refine And.intro ?_ ?_ <;> conv => whnf)
    | exact True.intro
    | (intro; conv => whnf)
  · exact hK
  · exact leafB hK (eqD_iff.2 rfl).symm
  · rename_i s l hl5
    have h10 := selM_ten s l
    have hne := h.2
    refine aloop_intro Nat (fun k => k ≤ (selM s l).items.length ∧ True) (fun k => (selM s l).items.length - k) (fun k => [(7, .int .i64 k), (6, .ls 900)]) (fun k => [(900, .arr .str (namesI ((selM s l).items.take k)))]) [3, 5] 0 [(900, 36)] [] ?_ ?_ (by exact sgOk_of (by rfl)) ?_
    · first | (simp; done) | (simp; assumption)
    · (conv => whnf); (repeat' (first | exact trivial | rfl | (refine nilEq ?_; first | rfl | (simp only [*]; done) | (simp [*]; done) | grind) | apply And.intro | ((first | refine intEq ?_ | refine boolEq ?_ | refine strEq ?_ | refine psEq ?_ | refine nilEq ?_ | refine arrEq ?_); (try simp only [Int.toNat_natCast, nd_eta, sh_eta, it_eta, sto_eta, op_eta, ch_eta, nw_eta, fl_eta, rq_eta, rs_eta, elDef]); first | done | omega | grind | (simp only [*]; done) | (simp [*]; done)))); (all_goals (conv => whnf)); (repeat' (first | exact trivial | rfl | (refine nilEq ?_; first | rfl | (simp only [*]; done) | (simp [*]; done) | grind) | apply And.intro | ((first | refine intEq ?_ | refine boolEq ?_ | refine strEq ?_ | refine psEq ?_ | refine nilEq ?_ | refine arrEq ?_); (try simp only [Int.toNat_natCast, nd_eta, sh_eta, it_eta, sto_eta, op_eta, ch_eta, nw_eta, fl_eta, rq_eta, rs_eta, elDef]); first | done | omega | grind | (simp only [*]; done) | (simp [*]; done)) | ((try simp only [Int.toNat_natCast, nd_eta, sh_eta, it_eta, sto_eta, op_eta, ch_eta, nw_eta, fl_eta, rq_eta, rs_eta, elDef]); first | done | omega | grind | (simp only [*]; done) | (simp [*]; done))))
    rintro i ⟨hi, hj⟩
    conv => whnf
    have htk := fun h => namesI_take (l := (selM s l).items) (i := i) h
    have hl2 : (namesI ((selM s l).items.take i)).length + [((selM s l).items.getD i default).name].length ≤ 1073741824 := by simp [namesI]; omega
    repeat' first
      | (refine Cnd.mk (fun h => ?_) (fun h => ?_) <;> (try simp [nd_eta, sh_eta, it_eta, sto_eta, op_eta, ch_eta, nw_eta, fl_eta, rq_eta, rs_eta, elDef, -List.getD_eq_getElem?_getD] at h) <;> conv => whnf)
      | (refine Obl.mk (by first | omega | rfl | exact inK_byte _ | (simp only [inK, Int.toNat_natCast, nd_eta, sh_eta, it_eta, sto_eta, op_eta, ch_eta, nw_eta, fl_eta, rq_eta, rs_eta, elDef, o10q] <;> first | omega | grind) | grind [inK, o10q]) ?_ <;> conv => whnf)
      | (refine OblG.mk (by conv => whnf
                            repeat (first | (refine Bx.mk ?_) | (intro h; (try simp [nd_eta, sh_eta, it_eta, sto_eta, op_eta, ch_eta, nw_eta, fl_eta, rq_eta, rs_eta, elDef, -List.getD_eq_getElem?_getD] at h); conv => whnf))
                            first | omega | rfl | exact inK_byte _ | (simp only [inK, Int.toNat_natCast, nd_eta, sh_eta, it_eta, sto_eta, op_eta, ch_eta, nw_eta, fl_eta, rq_eta, rs_eta, elDef, o10q] <;> first | omega | grind) | grind [inK, o10q]) ?_ <;> conv => whnf)
      | (refine Gd.mk (fun h => ?_) <;> (try simp [nd_eta, sh_eta, it_eta, sto_eta, op_eta, ch_eta, nw_eta, fl_eta, rq_eta, rs_eta, elDef, -List.getD_eq_getElem?_getD] at h) <;> conv => whnf)
      | (refine And.intro ?_ ?_ <;> conv => whnf)
      | exact True.intro
      | (intro; conv => whnf)
    · exact ⟨i + 1, [(900, 52)], [], ⟨by omega, trivial⟩, by omega, by (conv => whnf); (repeat' (first | exact trivial | rfl | (refine nilEq ?_; first | rfl | (simp only [*]; done) | (simp [*]; done) | grind) | apply And.intro | ((first | refine intEq ?_ | refine boolEq ?_ | refine strEq ?_ | refine psEq ?_ | refine nilEq ?_ | refine arrEq ?_); (try simp only [Int.toNat_natCast, nd_eta, sh_eta, it_eta, sto_eta, op_eta, ch_eta, nw_eta, fl_eta, rq_eta, rs_eta, elDef]); first | omega | (rw [htk (by omega)])))); (all_goals (conv => whnf)); (repeat' (first | exact trivial | rfl | (refine nilEq ?_; first | rfl | (simp only [*]; done) | (simp [*]; done) | grind) | apply And.intro | ((first | refine intEq ?_ | refine boolEq ?_ | refine strEq ?_ | refine psEq ?_ | refine nilEq ?_ | refine arrEq ?_); (try simp only [Int.toNat_natCast, nd_eta, sh_eta, it_eta, sto_eta, op_eta, ch_eta, nw_eta, fl_eta, rq_eta, rs_eta, elDef]); first | omega | (rw [htk (by omega)])) | ((try simp only [Int.toNat_natCast, nd_eta, sh_eta, it_eta, sto_eta, op_eta, ch_eta, nw_eta, fl_eta, rq_eta, rs_eta, elDef]); first | omega | (rw [htk (by omega)])))), (by exact sgOk_of (by rfl))⟩
    · refine leafB hK ?_
      obtain rfl : i = (selM s l).items.length := by omega
      have h1 := selM_pos (s := s) (l := l) (by simp only [namesI, List.length_map]; exact List.length_pos_iff.2 hne)
      have h2 : storeM s = true := by simp only [Bool.and_eq_true] at h1; exact h1.1
      have e : selM s l = ⟨selL s l, s.clock⟩ := by unfold selM; rw [if_pos h1]
      have e2 := selM_again (s := s) (l := l) h1
      rw [List.take_length]
      simp only [sto_eta, flOf, e2, eqD_iff.2 rfl, Bool.and_true]
      rw [e, sel_store h2]
      simp
theorem s3 : (CtrOK Tryz.prog 3 (.gen .ps C3) ∧ Callable Tryz.prog 3) := by
  refine gen_ok (E := E3) (mkE_cons s4 (mkE_cons s5q (mkE_cons s6 (mkE_cons s7 (mkE_cons s8 (mkE_cons s9 (mkE_cons s10q (mkE_nil tab_ok)))))))) mix (O := O3) (C := C3) (own := .ps) Tryz.func3 rfl (by rfl) (by kernel_rfl) (fun args K h hbd => ?_)
  unfold C3 at h; split at h
  case h_2 => exact h.elim
  exact ⟨Nat.le_of_ble_eq_true rfl, a3 _ (by exact hbd) _ h⟩
end Go.Rs

