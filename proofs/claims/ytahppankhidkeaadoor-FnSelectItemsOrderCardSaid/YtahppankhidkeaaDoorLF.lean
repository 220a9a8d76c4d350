import Derived.Test.YtahppankhidkeaaDoorCS
import Derived.Test.YtahppankhidkeaaDoorLE
set_option linter.all false
namespace Go.Rs
open Go.Proofs
set_option maxRecDepth 100000
set_option linter.unusedVariables false
set_option linter.unusedSimpArgs false
theorem selM_ok {s : Sto} {l : List Flt} (h : 0 < (namesI (selM s l).items).length) : selM s l = ⟨selL s l, s.clock⟩ := by
  unfold selM at h ⊢
  split
  · rfl
  · rename_i h1; rw [if_neg h1] at h; simp [namesI] at h
theorem sel_ten {s : Sto} {l : List Flt} (h : 0 < (namesI (selM s l).items).length) : s.items.length ≤ 10 := by
  unfold selM at h
  split at h
  · rename_i h1
    simp only [Bool.and_eq_true] at h1
    exact (storeM_clock h1.1).2.2
  · simp [namesI] at h
theorem sel_at {s : Sto} {l : List Flt} (h : 0 < (namesI (selM s l).items).length) {i : Nat} (hi : i < s.items.length) (hp : selP l (s.items.getD i default) = true) :
    ((s.items.take i).filter (selP l)).length < (namesI (selM s l).items).length ∧ (namesI (selM s l).items).getD ((s.items.take i).filter (selP l)).length [] = (s.items.getD i default).name := by
  rw [selM_ok h]
  obtain ⟨h1, h2⟩ := filter_at (selP l) default hi hp
  refine ⟨by simpa [namesI, selL] using h1, ?_⟩
  rw [namesI_get]; unfold selL; rw [h2]
theorem sel_all {s : Sto} {l : List Flt} (h : 0 < (namesI (selM s l).items).length) : ((s.items.take s.items.length).filter (selP l)).length = (namesI (selM s l).items).length := by
  rw [selM_ok h, List.take_length]; simp [namesI, selL]
theorem all_take {l : List Flt} (p : Flt → Bool) {k : Nat} (h : k < l.length) : (l.take (k + 1)).all p = ((l.take k).all p && p (l.getD k default)) := by
  rw [← take_snoc default h, List.all_append]; simp
noncomputable def c6 (code : List Int) (K : AV → List AV → Prop) : Prop :=
    Obl (byOk code) (K (.bool true) [])
noncomputable def C6 : List AV → (AV → List AV → Prop) → Prop
  | [.ps .u8 code], K => c6 code K
  | _, _ => False
noncomputable def E6 : Ctx := mkE tab [(10, .pure F10), (14, .gen .ps C14), (15, .gen .ps C15), (16, .pure F16), (17, .gen .ps C17)]
noncomputable def O6 : Nat → List DI := ordL [(15, [.q 0, .q 1, .q 2, .q 3, .q 4, .q 5, .q 6, .q 7, .q 8, .q 9, .q 10, .q 11, .q 12, .q 13, .q 14]), (17, [.q 0, .q 1, .q 2, .q 3, .q 4, .q 5, .q 6, .q 7, .q 8, .q 9, .q 10, .q 11, .q 12, .q 13, .q 14, .q 15, .q 16])]
theorem a6 (code : List Int) (hb : BdAs [.ps .u8 code]) (K : AV → List AV → Prop) (h : c6 code K) : abody E6 O6 .ps Tryd.f6 (Tryd.f6.body.getD .skip) [.ps .u8 code] K := by
  simp only [BdAs, BdA, BdL, BdC, MX, ndC, shC, itC, stC, opC, chC, nwC, flC, rqC, rsC, enc, List.cons_append, List.nil_append, and_true, true_and] at hb
  unfold c6 at h
  obtain ⟨ho, hK⟩ := h
  conv => whnf
  repeat' first
    | (refine Cnd.mk (fun h => ?_) (fun h => ?_) <;> (try simp [nd_eta, sh_eta, it_eta, sto_eta, op_eta, ch_eta, nw_eta, fl_eta, rq_eta, rs_eta, elDef, -List.getD_eq_getElem?_getD] at h) <;> conv => whnf)
    | (refine Obl.mk (by first | omega | rfl | exact inK_byte _ | (simp only [inK, Int.toNat_natCast, nd_eta, sh_eta, it_eta, sto_eta, op_eta, ch_eta, nw_eta, fl_eta, rq_eta, rs_eta, elDef] <;> first | omega | grind) | grind [inK]) ?_ <;> conv => whnf)
    | (refine OblG.mk (by conv => whnf
                          repeat (first | (refine Bx.mk ?_) | (intro h; (try simp [nd_eta, sh_eta, it_eta, sto_eta, op_eta, ch_eta, nw_eta, fl_eta, rq_eta, rs_eta, elDef, -List.getD_eq_getElem?_getD] at h); conv => whnf))
                          first | omega | rfl | exact inK_byte _ | (simp only [inK, Int.toNat_natCast, nd_eta, sh_eta, it_eta, sto_eta, op_eta, ch_eta, nw_eta, fl_eta, rq_eta, rs_eta, elDef] <;> first | omega | grind) | grind [inK]) ?_ <;> conv => whnf)
    | (refine Gd.mk (fun h => ?_) <;> (try simp [nd_eta, sh_eta, it_eta, sto_eta, op_eta, ch_eta, nw_eta, fl_eta, rq_eta, rs_eta, elDef, -List.getD_eq_getElem?_getD] at h) <;> conv => whnf)
    | (refine And.intro ?_ ?_ <;> conv => whnf)
    | exact True.intro
    | (intro; conv => whnf)
  · exact hK
  · exact leafB hK (eqD_iff.2 rfl).symm
  · rename_i s l hl5
    have h0 : 0 < (namesI (selM s l).items).length := List.length_pos_iff.2 h.2
    have hal := sel_all h0
    have h10 := sel_ten h0
    refine aloop_intro (Nat × Nat) (fun ⟨i, n⟩ => n = ((s.items.take i).filter (selP l)).length ∧ i ≤ s.items.length) (fun ⟨i, n⟩ => s.items.length - i) (fun ⟨i, n⟩ => [(7, .int .i64 i), (6, .int .i64 n)]) (fun ⟨i, n⟩ => []) [3] (0, 0) [] [] ?_ ?_ (by exact sgOk_of (by rfl)) ?_
    · first | (simp; done) | (simp; assumption) | (simp only; grind)
    · (conv => whnf); (repeat' (first | exact trivial | rfl | (refine nilEq ?_; first | rfl | (simp only [*]; done) | (simp [*]; done) | grind) | apply And.intro | ((first | refine intEq ?_ | refine boolEq ?_ | refine strEq ?_ | refine psEq ?_ | refine nilEq ?_ | refine arrEq ?_); (try simp only [Int.toNat_natCast, nd_eta, sh_eta, it_eta, sto_eta, op_eta, ch_eta, nw_eta, fl_eta, rq_eta, rs_eta, elDef]); first | done | omega | grind | (simp only [*]; done) | (simp [*]; done)))); (all_goals (conv => whnf)); (repeat' (first | exact trivial | rfl | (refine nilEq ?_; first | rfl | (simp only [*]; done) | (simp [*]; done) | grind) | apply And.intro | ((first | refine intEq ?_ | refine boolEq ?_ | refine strEq ?_ | refine psEq ?_ | refine nilEq ?_ | refine arrEq ?_); (try simp only [Int.toNat_natCast, nd_eta, sh_eta, it_eta, sto_eta, op_eta, ch_eta, nw_eta, fl_eta, rq_eta, rs_eta, elDef]); first | done | omega | grind | (simp only [*]; done) | (simp [*]; done)) | ((try simp only [Int.toNat_natCast, nd_eta, sh_eta, it_eta, sto_eta, op_eta, ch_eta, nw_eta, fl_eta, rq_eta, rs_eta, elDef]); first | done | omega | grind | (simp only [*]; done) | (simp [*]; done))))
    rintro ⟨i, n⟩ hinv
    dsimp only at hinv
    conv => whnf
    have hat := fun hi hp => sel_at h0 (i := i) hi hp
    have hst := fun hi => sel_take (s := s) (l := l) (i := i) hi
    have hln := sel_len s l i
    have hinv2 := hinv
    repeat' first
      | (refine Cnd.mk (fun h => ?_) (fun h => ?_) <;> (try simp [nd_eta, sh_eta, it_eta, sto_eta, op_eta, ch_eta, nw_eta, fl_eta, rq_eta, rs_eta, elDef, -List.getD_eq_getElem?_getD] at h) <;> conv => whnf)
      | (refine Obl.mk (by first | omega | rfl | exact inK_byte _ | (simp only [inK, Int.toNat_natCast, nd_eta, sh_eta, it_eta, sto_eta, op_eta, ch_eta, nw_eta, fl_eta, rq_eta, rs_eta, elDef] <;> first | omega | grind) | grind [inK]) ?_ <;> conv => whnf)
      | (refine OblG.mk (by conv => whnf
                            repeat (first | (refine Bx.mk ?_) | (intro h; (try simp [nd_eta, sh_eta, it_eta, sto_eta, op_eta, ch_eta, nw_eta, fl_eta, rq_eta, rs_eta, elDef, -List.getD_eq_getElem?_getD] at h); conv => whnf))
                            first | omega | rfl | exact inK_byte _ | (simp only [inK, Int.toNat_natCast, nd_eta, sh_eta, it_eta, sto_eta, op_eta, ch_eta, nw_eta, fl_eta, rq_eta, rs_eta, elDef] <;> first | omega | grind) | grind [inK]) ?_ <;> conv => whnf)
      | (refine Gd.mk (fun h => ?_) <;> (try simp [nd_eta, sh_eta, it_eta, sto_eta, op_eta, ch_eta, nw_eta, fl_eta, rq_eta, rs_eta, elDef, -List.getD_eq_getElem?_getD] at h) <;> conv => whnf)
      | (refine And.intro ?_ ?_ <;> conv => whnf)
      | exact True.intro
      | (intro; conv => whnf)
    · refine aloop_intro (Nat × Bool) (fun ⟨k, b⟩ => b = ((l.take k).all fun f => matchM (s.items.getD i default).node f) ∧ k ≤ l.length) (fun ⟨k, b⟩ => l.length - k) (fun ⟨k, b⟩ => [(9, .int .i64 k), (8, .bool b)]) (fun ⟨k, b⟩ => []) [3] (0, true) [] [] ?_ ?_ (by exact sgOk_of (by rfl)) ?_
      · first | (simp; done) | (simp; assumption) | (simp only; grind)
      · (conv => whnf); (repeat' (first | exact trivial | rfl | (refine nilEq ?_; first | rfl | (simp only [*]; done) | (simp [*]; done) | grind) | apply And.intro | ((first | refine intEq ?_ | refine boolEq ?_ | refine strEq ?_ | refine psEq ?_ | refine nilEq ?_ | refine arrEq ?_); (try simp only [Int.toNat_natCast, nd_eta, sh_eta, it_eta, sto_eta, op_eta, ch_eta, nw_eta, fl_eta, rq_eta, rs_eta, elDef]); first | done | omega | grind | (simp only [*]; done) | (simp [*]; done)))); (all_goals (conv => whnf)); (repeat' (first | exact trivial | rfl | (refine nilEq ?_; first | rfl | (simp only [*]; done) | (simp [*]; done) | grind) | apply And.intro | ((first | refine intEq ?_ | refine boolEq ?_ | refine strEq ?_ | refine psEq ?_ | refine nilEq ?_ | refine arrEq ?_); (try simp only [Int.toNat_natCast, nd_eta, sh_eta, it_eta, sto_eta, op_eta, ch_eta, nw_eta, fl_eta, rq_eta, rs_eta, elDef]); first | done | omega | grind | (simp only [*]; done) | (simp [*]; done)) | ((try simp only [Int.toNat_natCast, nd_eta, sh_eta, it_eta, sto_eta, op_eta, ch_eta, nw_eta, fl_eta, rq_eta, rs_eta, elDef]); first | done | omega | grind | (simp only [*]; done) | (simp [*]; done))))
      rintro ⟨k, b⟩ hinv
      dsimp only at hinv
      conv => whnf
      have hkt := fun h => all_take (l := l) (fun f => matchM (s.items.getD i default).node f) (k := k) h
      have hkl : l.length ≤ k → (b = selP l (s.items.getD i default)) := fun h => by rw [hinv.1, List.take_of_length_le h]; rfl
      repeat' first
        | (refine Cnd.mk (fun h => ?_) (fun h => ?_) <;> (try simp [nd_eta, sh_eta, it_eta, sto_eta, op_eta, ch_eta, nw_eta, fl_eta, rq_eta, rs_eta, elDef, -List.getD_eq_getElem?_getD] at h) <;> conv => whnf)
        | (refine Obl.mk (by first | omega | rfl | exact inK_byte _ | (simp only [inK, Int.toNat_natCast, nd_eta, sh_eta, it_eta, sto_eta, op_eta, ch_eta, nw_eta, fl_eta, rq_eta, rs_eta, elDef] <;> first | omega | grind) | grind [inK]) ?_ <;> conv => whnf)
        | (refine OblG.mk (by conv => whnf
                              repeat (first | (refine Bx.mk ?_) | (intro h; (try simp [nd_eta, sh_eta, it_eta, sto_eta, op_eta, ch_eta, nw_eta, fl_eta, rq_eta, rs_eta, elDef, -List.getD_eq_getElem?_getD] at h); conv => whnf))
                              first | omega | rfl | exact inK_byte _ | (simp only [inK, Int.toNat_natCast, nd_eta, sh_eta, it_eta, sto_eta, op_eta, ch_eta, nw_eta, fl_eta, rq_eta, rs_eta, elDef] <;> first | omega | grind) | grind [inK]) ?_ <;> conv => whnf)
        | (refine Gd.mk (fun h => ?_) <;> (try simp [nd_eta, sh_eta, it_eta, sto_eta, op_eta, ch_eta, nw_eta, fl_eta, rq_eta, rs_eta, elDef, -List.getD_eq_getElem?_getD] at h) <;> conv => whnf)
        | (refine And.intro ?_ ?_ <;> conv => whnf)
        | exact True.intro
        | (intro; conv => whnf)
      · refine ⟨(k + 1, _), [], [], ⟨rfl, by omega⟩, by show l.length - (k + 1) < l.length - k; omega, by (conv => whnf); (repeat' (first | exact trivial | rfl | (refine nilEq ?_; first | rfl | (simp only [*]; done) | (simp [*]; done) | grind) | apply And.intro | ((first | refine intEq ?_ | refine boolEq ?_ | refine strEq ?_ | refine psEq ?_ | refine nilEq ?_ | refine arrEq ?_); (try simp only [Int.toNat_natCast, nd_eta, sh_eta, it_eta, sto_eta, op_eta, ch_eta, nw_eta, fl_eta, rq_eta, rs_eta, elDef]); first | omega | (rw [hkt (by omega), hinv.1])))); (all_goals (conv => whnf)); (repeat' (first | exact trivial | rfl | (refine nilEq ?_; first | rfl | (simp only [*]; done) | (simp [*]; done) | grind) | apply And.intro | ((first | refine intEq ?_ | refine boolEq ?_ | refine strEq ?_ | refine psEq ?_ | refine nilEq ?_ | refine arrEq ?_); (try simp only [Int.toNat_natCast, nd_eta, sh_eta, it_eta, sto_eta, op_eta, ch_eta, nw_eta, fl_eta, rq_eta, rs_eta, elDef]); first | omega | (rw [hkt (by omega), hinv.1])) | ((try simp only [Int.toNat_natCast, nd_eta, sh_eta, it_eta, sto_eta, op_eta, ch_eta, nw_eta, fl_eta, rq_eta, rs_eta, elDef]); first | omega | (rw [hkt (by omega), hinv.1])))), (by exact sgOk_of (by rfl))⟩
      · obtain ⟨h1, h2⟩ := hat (by omega) (by rw [← hkl (by omega)]; assumption)
        exfalso
        rw [hinv2.1] at h
        rcases h with h | h
        · omega
        · exact h h2
      · have hs := hst (by omega)
        rw [if_pos (by rw [← hkl (by omega)]; assumption)] at hs
        exact ⟨(i + 1, n + 1), [], [], ⟨by rw [hs, hinv2.1]; simp, by omega⟩, by show s.items.length - (i + 1) < s.items.length - i; omega, by (conv => whnf); (repeat' (first | exact trivial | rfl | (refine nilEq ?_; first | rfl | (simp only [*]; done) | (simp [*]; done) | grind) | apply And.intro | ((first | refine intEq ?_ | refine boolEq ?_ | refine strEq ?_ | refine psEq ?_ | refine nilEq ?_ | refine arrEq ?_); (try simp only [Int.toNat_natCast, nd_eta, sh_eta, it_eta, sto_eta, op_eta, ch_eta, nw_eta, fl_eta, rq_eta, rs_eta, elDef]); first | done | omega | grind | (simp only [*]; done) | (simp [*]; done)))); (all_goals (conv => whnf)); (repeat' (first | exact trivial | rfl | (refine nilEq ?_; first | rfl | (simp only [*]; done) | (simp [*]; done) | grind) | apply And.intro | ((first | refine intEq ?_ | refine boolEq ?_ | refine strEq ?_ | refine psEq ?_ | refine nilEq ?_ | refine arrEq ?_); (try simp only [Int.toNat_natCast, nd_eta, sh_eta, it_eta, sto_eta, op_eta, ch_eta, nw_eta, fl_eta, rq_eta, rs_eta, elDef]); first | done | omega | grind | (simp only [*]; done) | (simp [*]; done)) | ((try simp only [Int.toNat_natCast, nd_eta, sh_eta, it_eta, sto_eta, op_eta, ch_eta, nw_eta, fl_eta, rq_eta, rs_eta, elDef]); first | done | omega | grind | (simp only [*]; done) | (simp [*]; done)))), (by exact sgOk_of (by rfl))⟩
      · have hs := hst (by omega)
        rw [if_neg (by rw [← hkl (by omega), h]; simp), List.append_nil] at hs
        exact ⟨(i + 1, n), [], [], ⟨by rw [hs, hinv2.1], by omega⟩, by show s.items.length - (i + 1) < s.items.length - i; omega, by (conv => whnf); (repeat' (first | exact trivial | rfl | (refine nilEq ?_; first | rfl | (simp only [*]; done) | (simp [*]; done) | grind) | apply And.intro | ((first | refine intEq ?_ | refine boolEq ?_ | refine strEq ?_ | refine psEq ?_ | refine nilEq ?_ | refine arrEq ?_); (try simp only [Int.toNat_natCast, nd_eta, sh_eta, it_eta, sto_eta, op_eta, ch_eta, nw_eta, fl_eta, rq_eta, rs_eta, elDef]); first | done | omega | grind | (simp only [*]; done) | (simp [*]; done)))); (all_goals (conv => whnf)); (repeat' (first | exact trivial | rfl | (refine nilEq ?_; first | rfl | (simp only [*]; done) | (simp [*]; done) | grind) | apply And.intro | ((first | refine intEq ?_ | refine boolEq ?_ | refine strEq ?_ | refine psEq ?_ | refine nilEq ?_ | refine arrEq ?_); (try simp only [Int.toNat_natCast, nd_eta, sh_eta, it_eta, sto_eta, op_eta, ch_eta, nw_eta, fl_eta, rq_eta, rs_eta, elDef]); first | done | omega | grind | (simp only [*]; done) | (simp [*]; done)) | ((try simp only [Int.toNat_natCast, nd_eta, sh_eta, it_eta, sto_eta, op_eta, ch_eta, nw_eta, fl_eta, rq_eta, rs_eta, elDef]); first | done | omega | grind | (simp only [*]; done) | (simp [*]; done)))), (by exact sgOk_of (by rfl))⟩
    · refine leafB hK ?_
      obtain rfl : i = s.items.length := by omega
      rw [hinv.1, hal]
      simp
theorem s6 : (CtrOK Tryd.prog 6 (.gen .ps C6) ∧ Callable Tryd.prog 6) := by
  refine gen_ok (E := E6) (mkE_cons s10 (mkE_cons s14 (mkE_cons s15 (mkE_cons s16 (mkE_cons s17 (mkE_nil tab_ok)))))) mix (O := O6) (C := C6) (own := .ps) Tryd.func6 rfl (by rfl) (by kernel_rfl) (fun args K h hbd => ?_)
  unfold C6 at h; split at h
  case h_2 => exact h.elim
  exact ⟨Nat.le_of_ble_eq_true rfl, a6 _ (by exact hbd) _ h⟩
noncomputable def c7 (code : List Int) (K : AV → List AV → Prop) : Prop :=
    Obl (byOk code) (K (.bool true) [])
noncomputable def C7 : List AV → (AV → List AV → Prop) → Prop
  | [.ps .u8 code], K => c7 code K
  | _, _ => False
noncomputable def E7 : Ctx := mkE tab [(14, .gen .ps C14), (15, .gen .ps C15), (16, .pure F16), (17, .gen .ps C17)]
noncomputable def O7 : Nat → List DI := ordL []
theorem a7 (code : List Int) (hb : BdAs [.ps .u8 code]) (K : AV → List AV → Prop) (h : c7 code K) : abody E7 O7 .ps Tryd.f7 (Tryd.f7.body.getD .skip) [.ps .u8 code] K := by
  simp only [BdAs, BdA, BdL, BdC, MX, ndC, shC, itC, stC, opC, chC, nwC, flC, rqC, rsC, enc, List.cons_append, List.nil_append, and_true, true_and] at hb
  unfold c7 at h
  obtain ⟨ho, hK⟩ := h
  conv => whnf
  repeat' first
    | (refine Cnd.mk (fun h => ?_) (fun h => ?_) <;> (try simp [nd_eta, sh_eta, it_eta, sto_eta, op_eta, ch_eta, nw_eta, fl_eta, rq_eta, rs_eta, elDef, -List.getD_eq_getElem?_getD] at h) <;> conv => whnf)
    | (refine Obl.mk (by first | omega | rfl | exact inK_byte _ | (simp only [inK, Int.toNat_natCast, nd_eta, sh_eta, it_eta, sto_eta, op_eta, ch_eta, nw_eta, fl_eta, rq_eta, rs_eta, elDef] <;> first | omega | grind) | grind [inK]) ?_ <;> conv => whnf)
    | (refine OblG.mk (by conv => whnf
                          repeat (first | (refine Bx.mk ?_) | (intro h; (try simp [nd_eta, sh_eta, it_eta, sto_eta, op_eta, ch_eta, nw_eta, fl_eta, rq_eta, rs_eta, elDef, -List.getD_eq_getElem?_getD] at h); conv => whnf))
                          first | omega | rfl | exact inK_byte _ | (simp only [inK, Int.toNat_natCast, nd_eta, sh_eta, it_eta, sto_eta, op_eta, ch_eta, nw_eta, fl_eta, rq_eta, rs_eta, elDef] <;> first | omega | grind) | grind [inK]) ?_ <;> conv => whnf)
    | (refine Gd.mk (fun h => ?_) <;> (try simp [nd_eta, sh_eta, it_eta, sto_eta, op_eta, ch_eta, nw_eta, fl_eta, rq_eta, rs_eta, elDef, -List.getD_eq_getElem?_getD] at h) <;> conv => whnf)
    | (refine And.intro ?_ ?_ <;> conv => whnf)
    | exact True.intro
    | (intro; conv => whnf)
  · exact hK
  · exact absurd h (by rw [eqD_iff.2 rfl]; simp)
  · rename_i s l hl5
    refine aloop_intro (Nat × List Flt) (fun ⟨k, b⟩ => b = (l.drop k).reverse ∧ k ≤ l.length) (fun ⟨k, b⟩ => k) (fun ⟨k, b⟩ => [(7, .int .i64 ((k : Int) - 1)), (6, .ls 900)]) (fun ⟨k, b⟩ => [(900, .arr .flt b)]) [3] (l.length, []) [(900, 25)] [] ?_ ?_ (by exact sgOk_of (by rfl)) ?_
    · first | (simp; done) | (simp; assumption) | (simp only; grind)
    · (conv => whnf); (repeat' (first | exact trivial | rfl | (refine nilEq ?_; first | rfl | (simp only [*]; done) | (simp [*]; done) | grind) | apply And.intro | ((first | refine intEq ?_ | refine boolEq ?_ | refine strEq ?_ | refine psEq ?_ | refine nilEq ?_ | refine arrEq ?_); (try simp only [Int.toNat_natCast, nd_eta, sh_eta, it_eta, sto_eta, op_eta, ch_eta, nw_eta, fl_eta, rq_eta, rs_eta, elDef]); first | done | omega | grind | (simp only [*]; done) | (simp [*]; done)))); (all_goals (conv => whnf)); (repeat' (first | exact trivial | rfl | (refine nilEq ?_; first | rfl | (simp only [*]; done) | (simp [*]; done) | grind) | apply And.intro | ((first | refine intEq ?_ | refine boolEq ?_ | refine strEq ?_ | refine psEq ?_ | refine nilEq ?_ | refine arrEq ?_); (try simp only [Int.toNat_natCast, nd_eta, sh_eta, it_eta, sto_eta, op_eta, ch_eta, nw_eta, fl_eta, rq_eta, rs_eta, elDef]); first | done | omega | grind | (simp only [*]; done) | (simp [*]; done)) | ((try simp only [Int.toNat_natCast, nd_eta, sh_eta, it_eta, sto_eta, op_eta, ch_eta, nw_eta, fl_eta, rq_eta, rs_eta, elDef]); first | done | omega | grind | (simp only [*]; done) | (simp [*]; done))))
    rintro ⟨k, b⟩ hinv
    dsimp only at hinv
    conv => whnf
    obtain ⟨hb1, hb2⟩ := hinv
    have hbl : b.length = l.length - k := by rw [hb1]; simp
    have hl2 : b.length + [l.getD ((k : Int) - 1).toNat default].length ≤ 1073741824 := by simp; omega
    repeat' first
      | (refine Cnd.mk (fun h => ?_) (fun h => ?_) <;> (try simp [nd_eta, sh_eta, it_eta, sto_eta, op_eta, ch_eta, nw_eta, fl_eta, rq_eta, rs_eta, elDef, -List.getD_eq_getElem?_getD] at h) <;> conv => whnf)
      | (refine Obl.mk (by first | omega | rfl | exact inK_byte _ | (simp only [inK, Int.toNat_natCast, nd_eta, sh_eta, it_eta, sto_eta, op_eta, ch_eta, nw_eta, fl_eta, rq_eta, rs_eta, elDef] <;> first | omega | grind) | grind [inK]) ?_ <;> conv => whnf)
      | (refine OblG.mk (by conv => whnf
                            repeat (first | (refine Bx.mk ?_) | (intro h; (try simp [nd_eta, sh_eta, it_eta, sto_eta, op_eta, ch_eta, nw_eta, fl_eta, rq_eta, rs_eta, elDef, -List.getD_eq_getElem?_getD] at h); conv => whnf))
                            first | omega | rfl | exact inK_byte _ | (simp only [inK, Int.toNat_natCast, nd_eta, sh_eta, it_eta, sto_eta, op_eta, ch_eta, nw_eta, fl_eta, rq_eta, rs_eta, elDef] <;> first | omega | grind) | grind [inK]) ?_ <;> conv => whnf)
      | (refine Gd.mk (fun h => ?_) <;> (try simp [nd_eta, sh_eta, it_eta, sto_eta, op_eta, ch_eta, nw_eta, fl_eta, rq_eta, rs_eta, elDef, -List.getD_eq_getElem?_getD] at h) <;> conv => whnf)
      | (refine And.intro ?_ ?_ <;> conv => whnf)
      | exact True.intro
      | (intro; conv => whnf)
    · have hk : k - 1 < l.length := by omega
      have e2 := rev_take hk
      rw [show k - 1 + 1 = k by omega, ← hb1] at e2
      exact ⟨(k - 1, _), [(900, 39)], [], ⟨rfl, by omega⟩, by show k - 1 < k; omega, by (conv => whnf); (repeat' (first | exact trivial | rfl | (refine nilEq ?_; first | rfl | (simp only [*]; done) | (simp [*]; done) | grind) | apply And.intro | ((first | refine intEq ?_ | refine boolEq ?_ | refine strEq ?_ | refine psEq ?_ | refine nilEq ?_ | refine arrEq ?_); (try simp only [Int.toNat_natCast, nd_eta, sh_eta, it_eta, sto_eta, op_eta, ch_eta, nw_eta, fl_eta, rq_eta, rs_eta, elDef]); first | omega | (rw [e2]; congr 3; omega)))); (all_goals (conv => whnf)); (repeat' (first | exact trivial | rfl | (refine nilEq ?_; first | rfl | (simp only [*]; done) | (simp [*]; done) | grind) | apply And.intro | ((first | refine intEq ?_ | refine boolEq ?_ | refine strEq ?_ | refine psEq ?_ | refine nilEq ?_ | refine arrEq ?_); (try simp only [Int.toNat_natCast, nd_eta, sh_eta, it_eta, sto_eta, op_eta, ch_eta, nw_eta, fl_eta, rq_eta, rs_eta, elDef]); first | omega | (rw [e2]; congr 3; omega)) | ((try simp only [Int.toNat_natCast, nd_eta, sh_eta, it_eta, sto_eta, op_eta, ch_eta, nw_eta, fl_eta, rq_eta, rs_eta, elDef]); first | omega | (rw [e2]; congr 3; omega)))), (by exact sgOk_of (by rfl))⟩
    · obtain rfl : k = 0 := by omega
      rw [List.drop_zero] at hb1
      refine leafB hK ?_
      rw [hb1, selM_rev]
      exact (eqD_iff.2 rfl).symm
theorem s7 : (CtrOK Tryd.prog 7 (.gen .ps C7) ∧ Callable Tryd.prog 7) := by
  refine gen_ok (E := E7) (mkE_cons s14 (mkE_cons s15 (mkE_cons s16 (mkE_cons s17 (mkE_nil tab_ok))))) mix (O := O7) (C := C7) (own := .ps) Tryd.func7 rfl (by rfl) (by kernel_rfl) (fun args K h hbd => ?_)
  unfold C7 at h; split at h
  case h_2 => exact h.elim
  exact ⟨Nat.le_of_ble_eq_true rfl, a7 _ (by exact hbd) _ h⟩
end Go.Rs

