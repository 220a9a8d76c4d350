import Derived.Test.YtpiclhdjglelhaaDoorCW
import Derived.Test.YtpiclhdjglelhaaDoorCZ
import Derived.Test.YtpiclhdjglelhaaDoorInN
import Derived.Test.YtpiclhdjglelhaaDoorInS
import Derived.Test.YtpiclhdjglelhaaDoorDeN
import Derived.Test.YtpiclhdjglelhaaDoorDeS
import Derived.Test.YtpiclhdjglelhaaDoorMD
set_option linter.all false
namespace Go.Rs
open Go.Proofs
set_option maxRecDepth 100000
set_option linter.unusedVariables false
set_option linter.unusedSimpArgs false
noncomputable def c84 (kd : Int) (m : Int) (t : Bs) (ns : List Bs) (ks : List Nd) (b : Bs) (x : Nd) (K : AV → List AV → Prop) : Prop :=
    Obl ((sortedI (nmI ns) ∧ ns.length = ks.length) ∧ ns.length ≤ 100000) (K (.tup []) [.ref [.int .i64 kd, .int .i64 m, .str t, .own .str ((putL (zipI ns ks) ⟨b, 0, x⟩).map (·.name)), .own .node ((putL (zipI ns ks) ⟨b, 0, x⟩).map (·.node))]])
noncomputable def C84 : List AV → (AV → List AV → Prop) → Prop
  | [.ref [.int .i64 kd, .int .i64 m, .str t, .own .str ns, .own .node ks], .str b, .st [.int .i64 x_0, .int .i64 x_1, .str x_2, .ps .str x_3, .ps .node x_4]], K => c84 kd m t ns ks b ⟨x_0, x_1, x_2, x_3, x_4⟩ K
  | _, _ => False
noncomputable def E84 : Ctx := mkE tab [(83, .pure F83), (107, .gen .ow C107), (108, .gen .ow C108)]
noncomputable def O84 : Nat → List DI := ordL [(3, [.q 0, .q 1, .q 2, .q 3, .q 4, .q 5, .q 6, .l 7 []]), (5, [.q 0, .q 1, .q 2, .q 3, .q 4, .q 5, .q 6, .l 7 [4], .l 8 [], .q 9, .q 10, .l 11 []])]
theorem a84 (kd : Int) (m : Int) (t : Bs) (ns : List Bs) (ks : List Nd) (b : Bs) (x : Nd) (hb : BdAs [.ref [.int .i64 kd, .int .i64 m, .str t, .own .str ns, .own .node ks], .str b, .st (ndC x)]) (K : AV → List AV → Prop) (h : c84 kd m t ns ks b x K) : abody E84 O84 .ps Tryd.f84 (Tryd.f84.body.getD .skip) [.ref [.int .i64 kd, .int .i64 m, .str t, .own .str ns, .own .node ks], .str b, .st (ndC x)] K := by
  simp only [BdAs, BdA, BdL, BdC, MX, ndC, shC, itC, stC, opC, chC, nwC, flC, rqC, rsC, enc, List.cons_append, List.nil_append, and_true, true_and] at hb
  unfold c84 at h
  obtain ⟨⟨⟨hs, hl⟩, hn⟩, hK⟩ := h
  have hp := put_rows (b := b) (x := x) hl hs
  have hf := fun h => found_lt (ns := ns) (b := b) h
  have hle := lb_le ns b
  conv => whnf
  repeat' first
    | (refine Cnd.mk (fun h => ?_) (fun h => ?_) <;> (try simp [nd_eta, sh_eta, it_eta, sto_eta, op_eta, ch_eta, nw_eta, fl_eta, rq_eta, rs_eta, elDef, -List.getD_eq_getElem?_getD] at h) <;> conv => whnf)
    | (refine Obl.mk (by first | omega | rfl | exact inK_byte _ | (simp only [inK, Int.toNat_natCast, nd_eta, sh_eta, it_eta, sto_eta, op_eta, ch_eta, nw_eta, fl_eta, rq_eta, rs_eta, elDef, o83] <;> first | omega | grind) | grind [inK, o83]) ?_ <;> conv => whnf)
    | (refine OblG.mk (by conv => whnf
                          repeat (first | (refine Bx.mk ?_) | (intro h; (try simp [nd_eta, sh_eta, it_eta, sto_eta, op_eta, ch_eta, nw_eta, fl_eta, rq_eta, rs_eta, elDef, -List.getD_eq_getElem?_getD] at h); conv => whnf))
                          first | omega | rfl | exact inK_byte _ | (simp only [inK, Int.toNat_natCast, nd_eta, sh_eta, it_eta, sto_eta, op_eta, ch_eta, nw_eta, fl_eta, rq_eta, rs_eta, elDef, o83] <;> first | omega | grind) | grind [inK, o83]) ?_ <;> conv => whnf)
    | (refine Gd.mk (fun h => ?_) <;> (try simp [nd_eta, sh_eta, it_eta, sto_eta, op_eta, ch_eta, nw_eta, fl_eta, rq_eta, rs_eta, elDef, -List.getD_eq_getElem?_getD] at h) <;> conv => whnf)
    | (refine And.intro ?_ ?_ <;> conv => whnf)
    | exact True.intro
    | (intro; conv => whnf)
  · exact leafV2 hK ⟨rfl, by rw [(hp.1 h).1, (hp.1 h).2]; simp only [Int.toNat_natCast, nd_eta]⟩
  · exact leafV2 hK ⟨rfl, by rw [(hp.2 h).1, (hp.2 h).2]; simp only [Int.toNat_natCast, nd_eta]⟩
theorem s84 : (CtrOK Tryd.prog 84 (.gen .ps C84) ∧ Callable Tryd.prog 84) := by
  refine gen_ok (E := E84) (mkE_cons s83 (mkE_cons s107 (mkE_cons s108 (mkE_nil tab_ok)))) mix (O := O84) (C := C84) (own := .ps) Tryd.func84 rfl (by rfl) (by kernel_rfl) (fun args K h hbd => ?_)
  unfold C84 at h; split at h
  case h_2 => exact h.elim
  exact ⟨Nat.le_of_ble_eq_true rfl, a84 _ _ _ _ _ _ ⟨_, _, _, _, _⟩ (by exact hbd) _ h⟩
noncomputable def c82 (kd : Int) (m : Int) (t : Bs) (ns : List Bs) (ks : List Nd) (b : Bs) (K : AV → List AV → Prop) : Prop :=
    Obl ((sortedI (nmI ns) ∧ ns.length = ks.length) ∧ ns.length ≤ 100000) (K (.tup []) [.ref [.int .i64 kd, .int .i64 m, .str t, .own .str ((dropL (zipI ns ks) b).map (·.name)), .own .node ((dropL (zipI ns ks) b).map (·.node))]])
noncomputable def C82 : List AV → (AV → List AV → Prop) → Prop
  | [.ref [.int .i64 kd, .int .i64 m, .str t, .own .str ns, .own .node ks], .str b], K => c82 kd m t ns ks b K
  | _, _ => False
noncomputable def E82 : Ctx := mkE tab [(83, .pure F83), (103, .gen .ow C103), (104, .gen .ow C104)]
noncomputable def O82 : Nat → List DI := ordL []
theorem a82 (kd : Int) (m : Int) (t : Bs) (ns : List Bs) (ks : List Nd) (b : Bs) (hb : BdAs [.ref [.int .i64 kd, .int .i64 m, .str t, .own .str ns, .own .node ks], .str b]) (K : AV → List AV → Prop) (h : c82 kd m t ns ks b K) : abody E82 O82 .ps Tryd.f82 (Tryd.f82.body.getD .skip) [.ref [.int .i64 kd, .int .i64 m, .str t, .own .str ns, .own .node ks], .str b] K := by
  simp only [BdAs, BdA, BdL, BdC, MX, ndC, shC, itC, stC, opC, chC, nwC, flC, rqC, rsC, enc, List.cons_append, List.nil_append, and_true, true_and] at hb
  unfold c82 at h
  obtain ⟨⟨⟨hs, hl⟩, hn⟩, hK⟩ := h
  have hp := drop_rows (b := b) hl hs
  have hf := fun h => found_lt (ns := ns) (b := b) h
  have hle := lb_le ns b
  conv => whnf
  repeat' first
    | (refine Cnd.mk (fun h => ?_) (fun h => ?_) <;> (try simp [nd_eta, sh_eta, it_eta, sto_eta, op_eta, ch_eta, nw_eta, fl_eta, rq_eta, rs_eta, elDef, -List.getD_eq_getElem?_getD] at h) <;> conv => whnf)
    | (refine Obl.mk (by first | omega | rfl | exact inK_byte _ | (simp only [inK, Int.toNat_natCast, nd_eta, sh_eta, it_eta, sto_eta, op_eta, ch_eta, nw_eta, fl_eta, rq_eta, rs_eta, elDef, o83] <;> first | omega | grind) | grind [inK, o83]) ?_ <;> conv => whnf)
    | (refine OblG.mk (by conv => whnf
                          repeat (first | (refine Bx.mk ?_) | (intro h; (try simp [nd_eta, sh_eta, it_eta, sto_eta, op_eta, ch_eta, nw_eta, fl_eta, rq_eta, rs_eta, elDef, -List.getD_eq_getElem?_getD] at h); conv => whnf))
                          first | omega | rfl | exact inK_byte _ | (simp only [inK, Int.toNat_natCast, nd_eta, sh_eta, it_eta, sto_eta, op_eta, ch_eta, nw_eta, fl_eta, rq_eta, rs_eta, elDef, o83] <;> first | omega | grind) | grind [inK, o83]) ?_ <;> conv => whnf)
    | (refine Gd.mk (fun h => ?_) <;> (try simp [nd_eta, sh_eta, it_eta, sto_eta, op_eta, ch_eta, nw_eta, fl_eta, rq_eta, rs_eta, elDef, -List.getD_eq_getElem?_getD] at h) <;> conv => whnf)
    | (refine And.intro ?_ ?_ <;> conv => whnf)
    | exact True.intro
    | (intro; conv => whnf)
  · exact leafV2 hK ⟨rfl, by rw [(hp.1 h).1, (hp.1 h).2]; simp only [Int.toNat_natCast]⟩
  · exact leafV2 hK ⟨rfl, by rw [(hp.2 h).1, (hp.2 h).2]⟩
theorem s82 : (CtrOK Tryd.prog 82 (.gen .ps C82) ∧ Callable Tryd.prog 82) := by
  refine gen_ok (E := E82) (mkE_cons s83 (mkE_cons s103 (mkE_cons s104 (mkE_nil tab_ok)))) mix (O := O82) (C := C82) (own := .ps) Tryd.func82 rfl (by rfl) (by kernel_rfl) (fun args K h hbd => ?_)
  unfold C82 at h; split at h
  case h_2 => exact h.elim
  exact ⟨Nat.le_of_ble_eq_true rfl, a82 _ _ _ _ _ _ (by exact hbd) _ h⟩
end Go.Rs

