import Derived.Test.YtpiclhdjglelhaaCW
import Derived.Test.YtpiclhdjglelhaaCZ
import Derived.Test.YtpiclhdjglelhaaInN
import Derived.Test.YtpiclhdjglelhaaInS
import Derived.Test.YtpiclhdjglelhaaDeN
import Derived.Test.YtpiclhdjglelhaaDeS
import Derived.Test.YtpiclhdjglelhaaMD
set_option linter.all false
namespace Go.Rs
open Go.Proofs
set_option maxRecDepth 100000
set_option linter.unusedVariables false
set_option linter.unusedSimpArgs false
noncomputable def c38 (kd : Int) (m : Int) (t : Bs) (ns : List Bs) (ks : List Nd) (b : Bs) (x : Nd) (K : AV → List AV → Prop) : Prop :=
    Obl ((sortedI (nmI ns) ∧ ns.length = ks.length) ∧ ns.length ≤ 100000) (K (.tup []) [.ref [.int .i64 kd, .int .i64 m, .str t, .own .str ((putL (zipI ns ks) ⟨b, 0, x⟩).map (·.name)), .own .node ((putL (zipI ns ks) ⟨b, 0, x⟩).map (·.node))]])
noncomputable def C38 : List AV → (AV → List AV → Prop) → Prop
  | [.ref [.int .i64 kd, .int .i64 m, .str t, .own .str ns, .own .node ks], .str b, .st [.int .i64 x_0, .int .i64 x_1, .str x_2, .ps .str x_3, .ps .node x_4]], K => c38 kd m t ns ks b ⟨x_0, x_1, x_2, x_3, x_4⟩ K
  | _, _ => False
noncomputable def E38 : Ctx := mkE tab [(37, .pure F37), (59, .gen .ow C59), (60, .gen .ow C60)]
noncomputable def O38 : Nat → List DI := ordL [(3, [.q 0, .q 1, .q 2, .q 3, .q 4, .q 5, .q 6, .l 7 []]), (5, [.q 0, .q 1, .q 2, .q 3, .q 4, .q 5, .q 6, .l 7 [4], .l 8 [], .q 9, .q 10, .l 11 []])]
theorem a38 (kd : Int) (m : Int) (t : Bs) (ns : List Bs) (ks : List Nd) (b : Bs) (x : Nd) (hb : BdAs [.ref [.int .i64 kd, .int .i64 m, .str t, .own .str ns, .own .node ks], .str b, .st (ndC x)]) (K : AV → List AV → Prop) (h : c38 kd m t ns ks b x K) : abody E38 O38 .ps Try.f38 (Try.f38.body.getD .skip) [.ref [.int .i64 kd, .int .i64 m, .str t, .own .str ns, .own .node ks], .str b, .st (ndC x)] K := by
  simp only [BdAs, BdA, BdL, BdC, MX, ndC, shC, itC, stC, opC, chC, nwC, flC, rqC, rsC, enc, List.cons_append, List.nil_append, and_true, true_and] at hb
  unfold c38 at h
  obtain ⟨⟨⟨hs, hl⟩, hn⟩, hK⟩ := h
  have hp := put_rows (b := b) (x := x) hl hs
  have hf := fun h => found_lt (ns := ns) (b := b) h
  have hle := lb_le ns b
  conv => whnf
  repeat' first
    | (refine Cnd.mk (fun h => ?_) (fun h => ?_) <;> (try simp [nd_eta, sh_eta, it_eta, sto_eta, op_eta, ch_eta, nw_eta, fl_eta, rq_eta, rs_eta, elDef, -List.getD_eq_getElem?_getD] at h) <;> conv => whnf)
    | (refine Obl.mk (by first | omega | rfl | exact inK_byte _ | (simp only [inK, Int.toNat_natCast, nd_eta, sh_eta, it_eta, sto_eta, op_eta, ch_eta, nw_eta, fl_eta, rq_eta, rs_eta, elDef, o37] <;> first | omega | grind) | grind [inK, o37]) ?_ <;> conv => whnf)
    | (refine OblG.mk (by conv => whnf
                          repeat (first | (refine Bx.mk ?_) | (intro h; (try simp [nd_eta, sh_eta, it_eta, sto_eta, op_eta, ch_eta, nw_eta, fl_eta, rq_eta, rs_eta, elDef, -List.getD_eq_getElem?_getD] at h); conv => whnf))
                          first | omega | rfl | exact inK_byte _ | (simp only [inK, Int.toNat_natCast, nd_eta, sh_eta, it_eta, sto_eta, op_eta, ch_eta, nw_eta, fl_eta, rq_eta, rs_eta, elDef, o37] <;> first | omega | grind) | grind [inK, o37]) ?_ <;> conv => whnf)
    | (refine Gd.mk (fun h => ?_) <;> (try simp [nd_eta, sh_eta, it_eta, sto_eta, op_eta, ch_eta, nw_eta, fl_eta, rq_eta, rs_eta, elDef, -List.getD_eq_getElem?_getD] at h) <;> conv => whnf)
    | (refine And.intro ?_ ?_ <;> conv => whnf)
    | exact True.intro
    | (intro; conv => whnf)
  · exact leafV2 hK ⟨rfl, by rw [(hp.1 h).1, (hp.1 h).2]; simp only [Int.toNat_natCast, nd_eta]⟩
  · exact leafV2 hK ⟨rfl, by rw [(hp.2 h).1, (hp.2 h).2]; simp only [Int.toNat_natCast, nd_eta]⟩
theorem s38 : (CtrOK Try.prog 38 (.gen .ps C38) ∧ Callable Try.prog 38) := by
  refine gen_ok (E := E38) (mkE_cons s37 (mkE_cons s59 (mkE_cons s60 (mkE_nil tab_ok)))) mix (O := O38) (C := C38) (own := .ps) Try.func38 rfl (by rfl) (by kernel_rfl) (fun args K h hbd => ?_)
  unfold C38 at h; split at h
  case h_2 => exact h.elim
  exact ⟨Nat.le_of_ble_eq_true rfl, a38 _ _ _ _ _ _ ⟨_, _, _, _, _⟩ (by exact hbd) _ h⟩
noncomputable def c41 (kd : Int) (m : Int) (t : Bs) (ns : List Bs) (ks : List Nd) (b : Bs) (K : AV → List AV → Prop) : Prop :=
    Obl ((sortedI (nmI ns) ∧ ns.length = ks.length) ∧ ns.length ≤ 100000) (K (.tup []) [.ref [.int .i64 kd, .int .i64 m, .str t, .own .str ((dropL (zipI ns ks) b).map (·.name)), .own .node ((dropL (zipI ns ks) b).map (·.node))]])
noncomputable def C41 : List AV → (AV → List AV → Prop) → Prop
  | [.ref [.int .i64 kd, .int .i64 m, .str t, .own .str ns, .own .node ks], .str b], K => c41 kd m t ns ks b K
  | _, _ => False
noncomputable def E41 : Ctx := mkE tab [(37, .pure F37), (63, .gen .ow C63), (64, .gen .ow C64)]
noncomputable def O41 : Nat → List DI := ordL []
theorem a41 (kd : Int) (m : Int) (t : Bs) (ns : List Bs) (ks : List Nd) (b : Bs) (hb : BdAs [.ref [.int .i64 kd, .int .i64 m, .str t, .own .str ns, .own .node ks], .str b]) (K : AV → List AV → Prop) (h : c41 kd m t ns ks b K) : abody E41 O41 .ps Try.f41 (Try.f41.body.getD .skip) [.ref [.int .i64 kd, .int .i64 m, .str t, .own .str ns, .own .node ks], .str b] K := by
  simp only [BdAs, BdA, BdL, BdC, MX, ndC, shC, itC, stC, opC, chC, nwC, flC, rqC, rsC, enc, List.cons_append, List.nil_append, and_true, true_and] at hb
  unfold c41 at h
  obtain ⟨⟨⟨hs, hl⟩, hn⟩, hK⟩ := h
  have hp := drop_rows (b := b) hl hs
  have hf := fun h => found_lt (ns := ns) (b := b) h
  have hle := lb_le ns b
  conv => whnf
  repeat' first
    | (refine Cnd.mk (fun h => ?_) (fun h => ?_) <;> (try simp [nd_eta, sh_eta, it_eta, sto_eta, op_eta, ch_eta, nw_eta, fl_eta, rq_eta, rs_eta, elDef, -List.getD_eq_getElem?_getD] at h) <;> conv => whnf)
    | (refine Obl.mk (by first | omega | rfl | exact inK_byte _ | (simp only [inK, Int.toNat_natCast, nd_eta, sh_eta, it_eta, sto_eta, op_eta, ch_eta, nw_eta, fl_eta, rq_eta, rs_eta, elDef, o37] <;> first | omega | grind) | grind [inK, o37]) ?_ <;> conv => whnf)
    | (refine OblG.mk (by conv => whnf
                          repeat (first | (refine Bx.mk ?_) | (intro h; (try simp [nd_eta, sh_eta, it_eta, sto_eta, op_eta, ch_eta, nw_eta, fl_eta, rq_eta, rs_eta, elDef, -List.getD_eq_getElem?_getD] at h); conv => whnf))
                          first | omega | rfl | exact inK_byte _ | (simp only [inK, Int.toNat_natCast, nd_eta, sh_eta, it_eta, sto_eta, op_eta, ch_eta, nw_eta, fl_eta, rq_eta, rs_eta, elDef, o37] <;> first | omega | grind) | grind [inK, o37]) ?_ <;> conv => whnf)
    | (refine Gd.mk (fun h => ?_) <;> (try simp [nd_eta, sh_eta, it_eta, sto_eta, op_eta, ch_eta, nw_eta, fl_eta, rq_eta, rs_eta, elDef, -List.getD_eq_getElem?_getD] at h) <;> conv => whnf)
    | (refine And.intro ?_ ?_ <;> conv => whnf)
    | exact True.intro
    | (intro; conv => whnf)
  · exact leafV2 hK ⟨rfl, by rw [(hp.1 h).1, (hp.1 h).2]; simp only [Int.toNat_natCast]⟩
  · exact leafV2 hK ⟨rfl, by rw [(hp.2 h).1, (hp.2 h).2]⟩
theorem s41 : (CtrOK Try.prog 41 (.gen .ps C41) ∧ Callable Try.prog 41) := by
  refine gen_ok (E := E41) (mkE_cons s37 (mkE_cons s63 (mkE_cons s64 (mkE_nil tab_ok)))) mix (O := O41) (C := C41) (own := .ps) Try.func41 rfl (by rfl) (by kernel_rfl) (fun args K h hbd => ?_)
  unfold C41 at h; split at h
  case h_2 => exact h.elim
  exact ⟨Nat.le_of_ble_eq_true rfl, a41 _ _ _ _ _ _ (by exact hbd) _ h⟩
end Go.Rs

