import Derived.Test.YtgmilpefnaadmaaDoorCW
import Derived.Test.YtgmilpefnaadmaaDoorCZ
import Derived.Test.YtgmilpefnaadmaaDoorInN
import Derived.Test.YtgmilpefnaadmaaDoorInS
import Derived.Test.YtgmilpefnaadmaaDoorDeN
import Derived.Test.YtgmilpefnaadmaaDoorDeS
import Derived.Test.YtgmilpefnaadmaaDoorMD
set_option linter.all false
namespace Go.Rs
open Go.Proofs
set_option maxRecDepth 100000
set_option linter.unusedVariables false
set_option linter.unusedSimpArgs false
noncomputable def c64 (kd : Int) (m : Int) (t : Bs) (ns : List Bs) (ks : List Nd) (b : Bs) (x : Nd) (K : AV → List AV → Prop) : Prop :=
    Obl ((sortedI (nmI ns) ∧ ns.length = ks.length) ∧ ns.length ≤ 100000) (K (.tup []) [.ref [.int .i64 kd, .int .i64 m, .str t, .own .str ((putL (zipI ns ks) ⟨b, 0, x⟩).map (·.name)), .own .node ((putL (zipI ns ks) ⟨b, 0, x⟩).map (·.node))]])
noncomputable def C64 : List AV → (AV → List AV → Prop) → Prop
  | [.ref [.int .i64 kd, .int .i64 m, .str t, .own .str ns, .own .node ks], .str b, .st [.int .i64 x_0, .int .i64 x_1, .str x_2, .ps .str x_3, .ps .node x_4]], K => c64 kd m t ns ks b ⟨x_0, x_1, x_2, x_3, x_4⟩ K
  | _, _ => False
noncomputable def E64 : Ctx := mkE tab [(56, .pure F56), (65, .gen .ow C65), (87, .gen .ow C87)]
noncomputable def O64 : Nat → List DI := ordL [(3, [.q 0, .q 1, .q 2, .q 3, .q 4, .q 5, .q 6, .l 7 []]), (5, [.q 0, .q 1, .q 2, .q 3, .q 4, .q 5, .q 6, .l 7 [4], .l 8 [], .q 9, .q 10, .l 11 []])]
theorem a64 (kd : Int) (m : Int) (t : Bs) (ns : List Bs) (ks : List Nd) (b : Bs) (x : Nd) (hb : BdAs [.ref [.int .i64 kd, .int .i64 m, .str t, .own .str ns, .own .node ks], .str b, .st (ndC x)]) (K : AV → List AV → Prop) (h : c64 kd m t ns ks b x K) : abody E64 O64 .ps Tryd.f64 (Tryd.f64.body.getD .skip) [.ref [.int .i64 kd, .int .i64 m, .str t, .own .str ns, .own .node ks], .str b, .st (ndC x)] K := by
  simp only [BdAs, BdA, BdL, BdC, MX, ndC, shC, itC, stC, opC, chC, nwC, flC, rqC, rsC, enc, List.cons_append, List.nil_append, and_true, true_and] at hb
  unfold c64 at h
  obtain ⟨⟨⟨hs, hl⟩, hn⟩, hK⟩ := h
  have hp := put_rows (b := b) (x := x) hl hs
  have hf := fun h => found_lt (ns := ns) (b := b) h
  have hle := lb_le ns b
  conv => whnf
  repeat' first
    | (refine Cnd.mk (fun h => ?_) (fun h => ?_) <;> (try simp [etas, elDef, -List.getD_eq_getElem?_getD] at h) <;> conv => whnf)
    | (refine Obl.mk (by first | omega | rfl | exact inK_byte _ | (simp only [inK, Int.toNat_natCast, etas, elDef, o56] <;> first | omega | grind) | grind [inK, o56]) ?_ <;> conv => whnf)
    | (refine OblG.mk (by conv => whnf
                          repeat (first | (refine Bx.mk ?_) | (intro h; (try simp [etas, elDef, -List.getD_eq_getElem?_getD] at h); conv => whnf))
                          first | omega | rfl | exact inK_byte _ | (simp only [inK, Int.toNat_natCast, etas, elDef, o56] <;> first | omega | grind) | grind [inK, o56]) ?_ <;> conv => whnf)
    | (refine Gd.mk (fun h => ?_) <;> (try simp [etas, elDef, -List.getD_eq_getElem?_getD] at h) <;> conv => whnf)
    | (refine And.intro ?_ ?_ <;> conv => whnf)
    | exact True.intro
    | (intro; conv => whnf)
  · exact leafV2 hK ⟨rfl, by rw [(hp.1 h).1, (hp.1 h).2]; simp only [Int.toNat_natCast, nd_eta]⟩
  · exact leafV2 hK ⟨rfl, by rw [(hp.2 h).1, (hp.2 h).2]; simp only [Int.toNat_natCast, nd_eta]⟩
theorem s64 : (CtrOK Tryd.prog 64 (.gen .ps C64) ∧ Callable Tryd.prog 64) := by
  refine gen_ok (E := E64) (mkE_cons s56 (mkE_cons s65 (mkE_cons s87 (mkE_nil tab_ok)))) mix (O := O64) (C := C64) (own := .ps) Tryd.func64 rfl (by rfl) (by kernel_rfl) (fun args K h hbd => ?_)
  unfold C64 at h; split at h
  case h_2 => exact h.elim
  exact ⟨Nat.le_of_ble_eq_true rfl, a64 _ _ _ _ _ _ ⟨_, _, _, _, _⟩ (by exact hbd) _ h⟩
end Go.Rs

