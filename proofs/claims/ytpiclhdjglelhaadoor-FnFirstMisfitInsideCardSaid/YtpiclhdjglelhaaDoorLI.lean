import Derived.Test.YtpiclhdjglelhaaDoorDD
import Derived.Test.YtpiclhdjglelhaaDoorCX
import Derived.Test.YtpiclhdjglelhaaDoorLC
set_option linter.all false
namespace Go.Rs
open Go.Proofs
set_option maxRecDepth 100000
set_option linter.unusedVariables false
set_option linter.unusedSimpArgs false
theorem first_five (x : Sh) (n : Nd) : ((firstM x n).getD []).length ≤ 5 := by
  unfold firstM
  split
  · rename_i h
    rw [Bool.and_eq_true] at h
    exact mis_five (validS_ok h.1)
  · simp
theorem first_some {x : Sh} {n : Nd} (h : (firstM x n).isSome = true) : (validS x = true ∧ validM n = true) ∧ firstM x n = misM x n := by
  unfold firstM at h ⊢
  split
  · rename_i h1; rw [Bool.and_eq_true] at h1; exact ⟨h1, rfl⟩
  · rename_i h1; rw [if_neg h1] at h; cases h
theorem names_txt {l : List Bs} (h : areNamesM l = true) {i : Nat} (hi : i < l.length) : txtM (l.getD i []) = true := by
  simp only [areNamesM, Bool.and_eq_true, decide_eq_true_eq] at h
  have := (namesM_iff l).1 h.2 i hi
  unfold nameOk at this
  simp only [Bool.and_eq_true] at this
  exact this.1
/-- A misfit lies at a place of the node: its steps but the last lead there. -/
theorem mis_find : ∀ (d : Nat) {x : Sh} {n : Nd} {p : List Bs}, shpM d x = true → misM x n = some p → p ≠ [] → (findM n (p.take (p.length - 1))).isSome = true ∧ (∀ b ∈ p, txtM b = true)
  | 0, x, n, p, h, _, _ => by cases h
  | d + 1, x, n, [], h, hp, hne => absurd rfl hne
  | d + 1, x, n, nm :: q, h, hp, _ => by
    have ht := (shp_top h).1
    have htp := top_facts ht
    obtain ⟨i, hi, hnm, hc⟩ := mis_cons ht hp
    have htx : txtM nm = true := by rw [← hnm]; exact names_txt htp.2.1 hi
    rcases hc with ⟨-, rfl⟩ | ⟨hpl, hm⟩
    · exact ⟨rfl, by simpa using htx⟩
    · cases q with
      | nil => exact ⟨rfl, by simpa using htx⟩
      | cons b r =>
        obtain ⟨h1, h2⟩ := mis_find d (shp_kid h (by omega)) hm (by simp)
        refine ⟨?_, fun c hc => ?_⟩
        · simp only [List.length_cons, Nat.add_sub_cancel, List.take_succ_cons] at h1 ⊢
          rw [findM, if_neg hpl]
          exact h1
        · simp only [List.mem_cons] at hc
          rcases hc with rfl | hc
          · exact htx
          · exact h2 c (by simpa using hc)
theorem mis_mem {x : Sh} {n : Nd} {p : List Bs} (hx : topS x = true) (h : misM x n = some p) (hne : p ≠ []) : p.getD 0 [] ∈ x.names := by
  cases p with
  | nil => exact absurd rfl hne
  | cons nm q =>
    obtain ⟨i, hi, hnm, -⟩ := mis_cons hx h
    rw [List.getD_cons_zero, ← hnm]; exact getD_mem hi
theorem path_ok {l : List Bs} (h : l.length ≤ 5) (ht : ∀ b ∈ l, txtM b = true) (k : Nat) : pathM (l.take k) = true := by
  unfold pathM
  rw [Bool.and_eq_true, decide_eq_true_eq, List.all_eq_true]
  exact ⟨by simp; omega, fun b hb => ht b (List.mem_of_mem_take hb)⟩
theorem asc_names {l : List Bs} (h : areNamesM l = true) : l.Pairwise fun a b => ltS a b = true := by
  simp only [areNamesM, Bool.and_eq_true, decide_eq_true_eq] at h
  have := ascI_sorted.2 (names_sorted h.2)
  unfold ascI nmI at this
  rw [List.pairwise_map] at this
  exact this
theorem inside_law {x : Sh} {n : Nd} {p : List Bs} (hx : validS x = true) (hn : validM n = true) (hp : misM x n = some p) (hne : p ≠ []) :
    (∀ i, i < x.names.length → x.names.getD i [] = p.getD 0 [] → (nodeAtM n (p.take 1)).isSome = true → firstM (x.kids.getD i default) ((nodeAtM n (p.take 1)).getD default) = some (p.drop 1)) ∧
    (nodeAtM n (p.take 1) = none → p.length = 1) := by
  have ht := okS_top (validS_ok hx)
  have htp := top_facts ht
  have h5 := mis_len 5 hx hp
  obtain ⟨-, htx⟩ := mis_find 5 hx hp hne
  cases p with
  | nil => exact absurd rfl hne
  | cons nm q =>
    obtain ⟨i0, hi0, hnm, hc⟩ := mis_cons ht hp
    have hpa := path_ok h5 htx 1
    have hnd : nodeAtM n ((nm :: q).take 1) = if placeM n nm < 0 then none else some (n.kids.getD (placeM n nm).toNat default) := by
      unfold nodeAtM
      rw [hn, hpa]
      simp only [Bool.and_true, if_true, List.take_succ_cons, List.take_zero, findM]
    rw [hnd]
    rcases hc with ⟨hpl, rfl⟩ | ⟨hpl, hm⟩
    · rw [if_pos hpl]
      exact ⟨fun i _ _ h => (by cases h), fun _ => rfl⟩
    · rw [if_neg hpl]
      refine ⟨fun i hi he _ => ?_, fun h => by cases h⟩
      rw [List.getD_cons_zero] at he
      have hii : i = i0 := asc_inj (asc_names htp.2.1) hi hi0 (by rw [he, hnm])
      subst hii
      have hpk := (placeM_ge n nm).2.1
      have hk1 : validS (x.kids.getD i default) = true := shp_mono (shp_kid (d := 4) hx (by omega))
      have hk2 : validM (n.kids.getD (placeM n nm).toNat default) = true := by
        obtain ⟨h1, h2⟩ := validM_iff.1 hn
        have := count_kid (n := n) (j := (placeM n nm).toNat) (by omega)
        exact validM_iff.2 ⟨okN_kid h1 (by omega), by omega⟩
      unfold firstM
      rw [Option.getD_some, hk1, hk2]
      exact hm
theorem cons_parts {p : List Bs} (h : p ≠ []) : p = p.getD 0 [] :: p.drop 1 := by
  cases p with
  | nil => exact absurd rfl h
  | cons a r => rfl
noncomputable def c4 (code : List Int) (K : AV → List AV → Prop) : Prop :=
    Obl (byOk code) (K (.bool true) [])
noncomputable def C4 : List AV → (AV → List AV → Prop) → Prop
  | [.ps .u8 code], K => c4 code K
  | _, _ => False
noncomputable def E4 : Ctx := mkE tab [(10, .gen .ps C10), (11, .gen .ps C11), (12, .gen .ps C12), (13, .pure F13), (14, .gen .ps C14), (15, .pure F15), (16, .pure F16)]
noncomputable def O4 : Nat → List DI := ordL [(10, [.q 0, .q 1, .q 2, .q 3, .q 4, .q 5, .l 6 [], .q 7, .q 8, .q 9, .a 10, .l 11 [], .q 12]), (11, [.q 0, .q 1, .q 2, .q 3, .q 4, .q 5, .q 6, .q 7, .q 8, .q 9, .q 10, .q 11, .q 12, .q 13, .q 14, .q 15])]
theorem a4 (code : List Int) (hb : BdAs [.ps .u8 code]) (K : AV → List AV → Prop) (h : c4 code K) : abody E4 O4 .ps Tryd.f4 (Tryd.f4.body.getD .skip) [.ps .u8 code] K := by
  simp only [BdAs, BdA, BdL, BdC, MX, ndC, shC, itC, stC, opC, chC, nwC, flC, rqC, rsC, enc, List.cons_append, List.nil_append, and_true, true_and] at hb
  unfold c4 at h
  obtain ⟨ho, hK⟩ := h
  have hf5 := fun x n => first_five x n
  conv => whnf
  repeat' first
    | (refine Cnd.mk (fun h => ?_) (fun h => ?_) <;> (try simp [nd_eta, sh_eta, it_eta, sto_eta, op_eta, ch_eta, nw_eta, fl_eta, rq_eta, rs_eta, elDef, -List.getD_eq_getElem?_getD] at h) <;> conv => whnf)
    | (refine Obl.mk (by first | omega | rfl | exact inK_byte _ | (simp only [inK, Int.toNat_natCast, nd_eta, sh_eta, it_eta, sto_eta, op_eta, ch_eta, nw_eta, fl_eta, rq_eta, rs_eta, elDef] <;> first | omega | grind) | grind [inK]) ?_ <;> conv => whnf)
    | (refine OblG.mk (by conv => whnf
                          repeat (first | (refine Bx.mk ?_) | (intro h; (try simp [nd_eta, sh_eta, it_eta, sto_eta, op_eta, ch_eta, nw_eta, fl_eta, rq_eta, rs_eta, elDef, -List.getD_eq_getElem?_getD] at h); conv => whnf))
                          first | omega | rfl | exact inK_byte _ | (simp only [inK, Int.toNat_natCast, nd_eta, sh_eta, it_eta, sto_eta, op_eta, ch_eta, nw_eta, fl_eta, rq_eta, rs_eta, elDef] <;> first | omega | grind) | grind [inK]) ?_ <;> conv => whnf)
    | (refine Gd.mk (fun h => ?_) <;> (try simp [nd_eta, sh_eta, it_eta, sto_eta, op_eta, ch_eta, nw_eta, fl_eta, rq_eta, rs_eta, elDef, -List.getD_eq_getElem?_getD] at h) <;> conv => whnf)
    | (refine And.intro ?_ ?_ <;> conv => whnf)
    | exact True.intro
    | (intro; conv => whnf)
  · exact hK
  · exact leafB hK (by simp [eqD_iff.2 rfl])
  · rename_i x n _ h0
    obtain ⟨hv, e⟩ := first_some h0.2
    rw [e] at h
    obtain ⟨p, hp⟩ := Option.isSome_iff_exists.1 h0.2
    rw [e] at hp
    rw [hp] at h
    have hp2 : misM x n = some [] := by rw [hp]; exact congrArg some h
    obtain ⟨h1, h2⟩ := mis_nil hp2
    exact leafB hK (by simp [h1, h2])
  · rename_i x n _ h0
    have hl1 := List.length_pos_iff.2 h
    repeat' first
      | (refine Cnd.mk (fun h => ?_) (fun h => ?_) <;> (try simp [nd_eta, sh_eta, it_eta, sto_eta, op_eta, ch_eta, nw_eta, fl_eta, rq_eta, rs_eta, elDef, -List.getD_eq_getElem?_getD] at h) <;> conv => whnf)
      | (refine Obl.mk (by first | omega | rfl | exact inK_byte _ | (simp only [inK, Int.toNat_natCast, nd_eta, sh_eta, it_eta, sto_eta, op_eta, ch_eta, nw_eta, fl_eta, rq_eta, rs_eta, elDef] <;> first | omega | grind) | grind [inK]) ?_ <;> conv => whnf)
      | (refine OblG.mk (by conv => whnf
                            repeat (first | (refine Bx.mk ?_) | (intro h; (try simp [nd_eta, sh_eta, it_eta, sto_eta, op_eta, ch_eta, nw_eta, fl_eta, rq_eta, rs_eta, elDef, -List.getD_eq_getElem?_getD] at h); conv => whnf))
                            first | omega | rfl | exact inK_byte _ | (simp only [inK, Int.toNat_natCast, nd_eta, sh_eta, it_eta, sto_eta, op_eta, ch_eta, nw_eta, fl_eta, rq_eta, rs_eta, elDef] <;> first | omega | grind) | grind [inK]) ?_ <;> conv => whnf)
      | (refine Gd.mk (fun h => ?_) <;> (try simp [nd_eta, sh_eta, it_eta, sto_eta, op_eta, ch_eta, nw_eta, fl_eta, rq_eta, rs_eta, elDef, -List.getD_eq_getElem?_getD] at h) <;> conv => whnf)
      | (refine And.intro ?_ ?_ <;> conv => whnf)
      | exact True.intro
      | (intro; conv => whnf)
    obtain ⟨hv, e⟩ := first_some h0.2
    obtain ⟨p, hp⟩ := Option.isSome_iff_exists.1 h0.2
    have hlp := hf5 x n
    rw [e] at hp
    rw [e, hp, Option.getD_some] at h hl1 hlp
    obtain ⟨h1, h2⟩ := mis_find 5 hv.1 hp h
    have h3 := mis_mem (okS_top (validS_ok hv.1)) hp h
    have h4 : nodeAtM n (p.take (p.length - 1)) = findM n (p.take (p.length - 1)) := by
      unfold nodeAtM; rw [if_pos]; rw [Bool.and_eq_true]; exact ⟨hv.2, path_ok hlp h2 _⟩
    have hs : ((p.length : Int) - 1).toNat = p.length - 1 := by omega
    refine leafB hK ?_
    simp only [nd_eta, sh_eta, e, hp, Option.getD_some, hs, Int.toNat_zero, List.drop_zero, h4, h1, Option.isSome_some, Bool.not_true, Bool.and_false, Bool.not_false, Bool.and_true, Bool.true_and]
    exact (decide_eq_true h3).symm
theorem s4 : (CtrOK Tryd.prog 4 (.gen .ps C4) ∧ Callable Tryd.prog 4) := by
  refine gen_ok (E := E4) (mkE_cons s10 (mkE_cons s11 (mkE_cons s12 (mkE_cons s13 (mkE_cons s14 (mkE_cons s15 (mkE_cons s16 (mkE_nil tab_ok)))))))) mix (O := O4) (C := C4) (own := .ps) Tryd.func4 rfl (by rfl) (by kernel_rfl) (fun args K h hbd => ?_)
  unfold C4 at h; split at h
  case h_2 => exact h.elim
  exact ⟨Nat.le_of_ble_eq_true rfl, a4 _ (by exact hbd) _ h⟩
noncomputable def c3 (code : List Int) (K : AV → List AV → Prop) : Prop :=
    Obl (byOk code) (K (.bool true) [])
noncomputable def C3 : List AV → (AV → List AV → Prop) → Prop
  | [.ps .u8 code], K => c3 code K
  | _, _ => False
noncomputable def E3 : Ctx := mkE tab [(10, .gen .ps C10), (11, .gen .ps C11), (12, .gen .ps C12), (13, .pure F13), (14, .gen .ps C14)]
noncomputable def O3 : Nat → List DI := ordL [(8, [.q 0, .q 1, .q 2, .l 3 [], .q 4, .q 5, .q 6, .a 7, .l 8 [], .q 9]), (12, [.q 0, .q 1, .q 2, .q 3, .q 4, .q 5, .q 6, .q 7, .q 8]), (13, [.q 0, .q 1, .q 2, .q 3, .q 4, .q 5, .l 6 [], .q 7, .q 8, .q 9, .q 10, .q 11])]
theorem a3 (code : List Int) (hb : BdAs [.ps .u8 code]) (K : AV → List AV → Prop) (h : c3 code K) : abody E3 O3 .ps Tryd.f3 (Tryd.f3.body.getD .skip) [.ps .u8 code] K := by
  simp only [BdAs, BdA, BdL, BdC, MX, ndC, shC, itC, stC, opC, chC, nwC, flC, rqC, rsC, enc, List.cons_append, List.nil_append, and_true, true_and] at hb
  unfold c3 at h
  obtain ⟨ho, hK⟩ := h
  have hf5 := fun x n => first_five x n
  conv => whnf
  repeat' first
    | (refine Cnd.mk (fun h => ?_) (fun h => ?_) <;> (try simp [nd_eta, sh_eta, it_eta, sto_eta, op_eta, ch_eta, nw_eta, fl_eta, rq_eta, rs_eta, elDef, -List.getD_eq_getElem?_getD] at h) <;> conv => whnf)
    | (refine Obl.mk (by first | omega | rfl | exact inK_byte _ | (simp only [inK, Int.toNat_natCast, nd_eta, sh_eta, it_eta, sto_eta, op_eta, ch_eta, nw_eta, fl_eta, rq_eta, rs_eta, elDef] <;> first | omega | grind) | grind [inK]) ?_ <;> conv => whnf)
    | (refine OblG.mk (by conv => whnf
                          repeat (first | (refine Bx.mk ?_) | (intro h; (try simp [nd_eta, sh_eta, it_eta, sto_eta, op_eta, ch_eta, nw_eta, fl_eta, rq_eta, rs_eta, elDef, -List.getD_eq_getElem?_getD] at h); conv => whnf))
                          first | omega | rfl | exact inK_byte _ | (simp only [inK, Int.toNat_natCast, nd_eta, sh_eta, it_eta, sto_eta, op_eta, ch_eta, nw_eta, fl_eta, rq_eta, rs_eta, elDef] <;> first | omega | grind) | grind [inK]) ?_ <;> conv => whnf)
    | (refine Gd.mk (fun h => ?_) <;> (try simp [nd_eta, sh_eta, it_eta, sto_eta, op_eta, ch_eta, nw_eta, fl_eta, rq_eta, rs_eta, elDef, -List.getD_eq_getElem?_getD] at h) <;> conv => whnf)
    | (refine And.intro ?_ ?_ <;> conv => whnf)
    | exact True.intro
    | (intro; conv => whnf)
  · exact hK
  · exact leafB hK (by simp [eqD_iff.2 rfl])
  · rename_i x n _
    have hl1 := List.length_pos_iff.2 h.2
    repeat' first
      | (refine Cnd.mk (fun h => ?_) (fun h => ?_) <;> (try simp [nd_eta, sh_eta, it_eta, sto_eta, op_eta, ch_eta, nw_eta, fl_eta, rq_eta, rs_eta, elDef, -List.getD_eq_getElem?_getD] at h) <;> conv => whnf)
      | (refine Obl.mk (by first | omega | rfl | exact inK_byte _ | (simp only [inK, Int.toNat_natCast, nd_eta, sh_eta, it_eta, sto_eta, op_eta, ch_eta, nw_eta, fl_eta, rq_eta, rs_eta, elDef] <;> first | omega | grind) | grind [inK]) ?_ <;> conv => whnf)
      | (refine OblG.mk (by conv => whnf
                            repeat (first | (refine Bx.mk ?_) | (intro h; (try simp [nd_eta, sh_eta, it_eta, sto_eta, op_eta, ch_eta, nw_eta, fl_eta, rq_eta, rs_eta, elDef, -List.getD_eq_getElem?_getD] at h); conv => whnf))
                            first | omega | rfl | exact inK_byte _ | (simp only [inK, Int.toNat_natCast, nd_eta, sh_eta, it_eta, sto_eta, op_eta, ch_eta, nw_eta, fl_eta, rq_eta, rs_eta, elDef] <;> first | omega | grind) | grind [inK]) ?_ <;> conv => whnf)
      | (refine Gd.mk (fun h => ?_) <;> (try simp [nd_eta, sh_eta, it_eta, sto_eta, op_eta, ch_eta, nw_eta, fl_eta, rq_eta, rs_eta, elDef, -List.getD_eq_getElem?_getD] at h) <;> conv => whnf)
      | (refine And.intro ?_ ?_ <;> conv => whnf)
      | exact True.intro
      | (intro; conv => whnf)
    obtain ⟨hv, e⟩ := first_some h.1.2
    obtain ⟨p, hp⟩ := Option.isSome_iff_exists.1 h.1.2
    have hP : (firstM x n).getD [] = p := by rw [hp]; rfl
    have hne := h.2
    rw [hP] at hne
    rw [e] at hp
    have hpq : p = p.getD 0 [] :: p.drop 1 := cons_parts hne
    have htp := top_facts (okS_top (validS_ok hv.1))
    have hin := inside_law hv.1 hv.2 hp hne
    have hmm := mis_mem (okS_top (validS_ok hv.1)) hp hne
    refine aloop_intro Nat (fun k => k ≤ x.names.length ∧ ∀ j, j < k → x.names.getD j [] ≠ p.getD 0 []) (fun k => x.names.length - k) (fun k => [(11, .int .i64 k)]) (fun k => []) [3, 4, 9] 0 [] [] ?_ ?_ (by exact sgOk_of (by rfl)) ?_
    · first | (simp; done) | (simp; assumption)
    · (conv => whnf); (repeat' (first | exact trivial | rfl | (refine nilEq ?_; first | rfl | (simp only [*]; done) | (simp [*]; done) | grind) | apply And.intro | ((first | refine intEq ?_ | refine boolEq ?_ | refine strEq ?_ | refine psEq ?_ | refine nilEq ?_ | refine arrEq ?_); (try simp only [Int.toNat_natCast, nd_eta, sh_eta, it_eta, sto_eta, op_eta, ch_eta, nw_eta, fl_eta, rq_eta, rs_eta, elDef]); first | done | omega | grind | (simp only [*]; done) | (simp [*]; done)))); (all_goals (conv => whnf)); (repeat' (first | exact trivial | rfl | (refine nilEq ?_; first | rfl | (simp only [*]; done) | (simp [*]; done) | grind) | apply And.intro | ((first | refine intEq ?_ | refine boolEq ?_ | refine strEq ?_ | refine psEq ?_ | refine nilEq ?_ | refine arrEq ?_); (try simp only [Int.toNat_natCast, nd_eta, sh_eta, it_eta, sto_eta, op_eta, ch_eta, nw_eta, fl_eta, rq_eta, rs_eta, elDef]); first | done | omega | grind | (simp only [*]; done) | (simp [*]; done)) | ((try simp only [Int.toNat_natCast, nd_eta, sh_eta, it_eta, sto_eta, op_eta, ch_eta, nw_eta, fl_eta, rq_eta, rs_eta, elDef]); first | done | omega | grind | (simp only [*]; done) | (simp [*]; done))))
    rintro i ⟨hi, hj⟩
    conv => whnf
    repeat' first
      | (refine Cnd.mk (fun h => ?_) (fun h => ?_) <;> (try simp [nd_eta, sh_eta, it_eta, sto_eta, op_eta, ch_eta, nw_eta, fl_eta, rq_eta, rs_eta, elDef, -List.getD_eq_getElem?_getD] at h) <;> conv => whnf)
      | (refine Obl.mk (by first | omega | rfl | exact inK_byte _ | (simp only [inK, Int.toNat_natCast, nd_eta, sh_eta, it_eta, sto_eta, op_eta, ch_eta, nw_eta, fl_eta, rq_eta, rs_eta, elDef] <;> first | omega | grind) | grind [inK]) ?_ <;> conv => whnf)
      | (refine OblG.mk (by conv => whnf
                            repeat (first | (refine Bx.mk ?_) | (intro h; (try simp [nd_eta, sh_eta, it_eta, sto_eta, op_eta, ch_eta, nw_eta, fl_eta, rq_eta, rs_eta, elDef, -List.getD_eq_getElem?_getD] at h); conv => whnf))
                            first | omega | rfl | exact inK_byte _ | (simp only [inK, Int.toNat_natCast, nd_eta, sh_eta, it_eta, sto_eta, op_eta, ch_eta, nw_eta, fl_eta, rq_eta, rs_eta, elDef] <;> first | omega | grind) | grind [inK]) ?_ <;> conv => whnf)
      | (refine Gd.mk (fun h => ?_) <;> (try simp [nd_eta, sh_eta, it_eta, sto_eta, op_eta, ch_eta, nw_eta, fl_eta, rq_eta, rs_eta, elDef, -List.getD_eq_getElem?_getD] at h) <;> conv => whnf)
      | (refine And.intro ?_ ?_ <;> conv => whnf)
      | exact True.intro
      | (intro; conv => whnf)
    · rename_i h0
      rw [hP] at h h0
      have h3 := hin.1 i h0.1 h h0.2
      refine leafB hK ?_
      simp only [nd_eta, sh_eta, Int.toNat_natCast, elDef, hP, Int.toNat_zero, List.drop_zero, show Int.toNat 1 = 1 from rfl, h3, List.take_length, Option.getD_some, Option.isSome_some, Bool.true_and]
      exact (eqD_iff.2 rfl).symm
    · rename_i h0
      rw [hP] at h
      exact ⟨i + 1, [], [], ⟨by omega, fun j hj2 => by rcases Nat.lt_succ_iff_lt_or_eq.1 hj2 with h9 | h9; exact hj j h9; rw [h9]; exact h⟩, by omega, by (conv => whnf); (repeat' (first | exact trivial | rfl | (refine nilEq ?_; first | rfl | (simp only [*]; done) | (simp [*]; done) | grind) | apply And.intro | ((first | refine intEq ?_ | refine boolEq ?_ | refine strEq ?_ | refine psEq ?_ | refine nilEq ?_ | refine arrEq ?_); (try simp only [Int.toNat_natCast, nd_eta, sh_eta, it_eta, sto_eta, op_eta, ch_eta, nw_eta, fl_eta, rq_eta, rs_eta, elDef]); first | done | omega | grind | (simp only [*]; done) | (simp [*]; done)))); (all_goals (conv => whnf)); (repeat' (first | exact trivial | rfl | (refine nilEq ?_; first | rfl | (simp only [*]; done) | (simp [*]; done) | grind) | apply And.intro | ((first | refine intEq ?_ | refine boolEq ?_ | refine strEq ?_ | refine psEq ?_ | refine nilEq ?_ | refine arrEq ?_); (try simp only [Int.toNat_natCast, nd_eta, sh_eta, it_eta, sto_eta, op_eta, ch_eta, nw_eta, fl_eta, rq_eta, rs_eta, elDef]); first | done | omega | grind | (simp only [*]; done) | (simp [*]; done)) | ((try simp only [Int.toNat_natCast, nd_eta, sh_eta, it_eta, sto_eta, op_eta, ch_eta, nw_eta, fl_eta, rq_eta, rs_eta, elDef]); first | done | omega | grind | (simp only [*]; done) | (simp [*]; done)))), (by exact sgOk_of (by rfl))⟩
    · rw [hP] at h
      have h3 : nodeAtM n (p.take 1) = none := by
        refine h (Nat.lt_of_not_le fun hle => ?_)
        obtain ⟨j, hj1, hj2⟩ := List.mem_iff_getElem.1 hmm
        exact hj j (by omega) (by rw [getD_get hj1]; exact hj2)
      refine leafB hK ?_
      simp only [nd_eta, sh_eta, hP, Int.toNat_zero, List.drop_zero, show Int.toNat 1 = 1 from rfl, h3, Option.isSome_none, Bool.not_false, Bool.true_and]
      have := hin.2 h3
      simp [this]
theorem s3 : (CtrOK Tryd.prog 3 (.gen .ps C3) ∧ Callable Tryd.prog 3) := by
  refine gen_ok (E := E3) (mkE_cons s10 (mkE_cons s11 (mkE_cons s12 (mkE_cons s13 (mkE_cons s14 (mkE_nil tab_ok)))))) mix (O := O3) (C := C3) (own := .ps) Tryd.func3 rfl (by rfl) (by kernel_rfl) (fun args K h hbd => ?_)
  unfold C3 at h; split at h
  case h_2 => exact h.elim
  exact ⟨Nat.le_of_ble_eq_true rfl, a3 _ (by exact hbd) _ h⟩
end Go.Rs

