import Derived.Test.YtbaknkjebncbbaaDoorCU
import Derived.Test.YtbaknkjebncbbaaDoorCR
import Derived.Test.YtbaknkjebncbbaaDoorCZ
import Derived.Test.YtbaknkjebncbbaaDoorInN
import Derived.Test.YtbaknkjebncbbaaDoorInS
import Derived.Test.YtbaknkjebncbbaaDoorIns
import Derived.Test.YtbaknkjebncbbaaDoorMD
set_option linter.all false
namespace Go.Rs
open Go.Proofs
set_option maxRecDepth 100000
set_option linter.unusedVariables false
set_option linter.unusedSimpArgs false
noncomputable def c52 (kd : Int) (m : Int) (t : Bs) (ns : List Bs) (ks : List Nd) (b : Bs) (x : Nd) (K : AV → List AV → Prop) : Prop :=
    Obl ((sortedI (nmI ns) ∧ ns.length = ks.length) ∧ ns.length ≤ 100000) (K (.tup []) [.ref [.int .i64 kd, .int .i64 m, .str t, .own .str ((putL (zipI ns ks) ⟨b, 0, x⟩).map (·.name)), .own .node ((putL (zipI ns ks) ⟨b, 0, x⟩).map (·.node))]])
noncomputable def C52 : List AV → (AV → List AV → Prop) → Prop
  | [.ref [.int .i64 kd, .int .i64 m, .str t, .own .str ns, .own .node ks], .str b, .st [.int .i64 x_0, .int .i64 x_1, .str x_2, .ps .str x_3, .ps .node x_4]], K => c52 kd m t ns ks b ⟨x_0, x_1, x_2, x_3, x_4⟩ K
  | _, _ => False
noncomputable def E52 : Ctx := mkE tab [(54, .gen .ow C54), (70, .pure F70), (71, .gen .ow C71)]
noncomputable def O52 : Nat → List DI := ordL [(3, [.q 0, .q 1, .q 2, .q 3, .q 4, .q 5, .q 6, .l 7 []]), (5, [.q 0, .q 1, .q 2, .q 3, .q 4, .q 5, .q 6, .l 7 [4], .l 8 [], .q 9, .q 10, .l 11 []])]
theorem a52 (kd : Int) (m : Int) (t : Bs) (ns : List Bs) (ks : List Nd) (b : Bs) (x : Nd) (hb : BdAs [.ref [.int .i64 kd, .int .i64 m, .str t, .own .str ns, .own .node ks], .str b, .st (ndC x)]) (K : AV → List AV → Prop) (h : c52 kd m t ns ks b x K) : abody E52 O52 .ps Tryd.f52 (Tryd.f52.body.getD .skip) [.ref [.int .i64 kd, .int .i64 m, .str t, .own .str ns, .own .node ks], .str b, .st (ndC x)] K := by
  simp only [BdAs, BdA, BdL, BdC, MX, ndC, shC, itC, stC, opC, chC, nwC, flC, rqC, rsC, enc, List.cons_append, List.nil_append, and_true, true_and] at hb
  unfold c52 at h
  obtain ⟨⟨⟨hs, hl⟩, hn⟩, hK⟩ := h
  have hp := put_rows (b := b) (x := x) hl hs
  have hf := fun h => found_lt (ns := ns) (b := b) h
  have hle := lb_le ns b
  conv => whnf
  repeat' first
    | (refine Cnd.mk (fun h => ?_) (fun h => ?_) <;> (try simp [etas, elDef, -List.getD_eq_getElem?_getD] at h) <;> conv => whnf)
    | (refine Obl.mk (by first | omega | rfl | exact inK_byte _ | (simp only [inK, Int.toNat_natCast, etas, elDef, o70] <;> first | omega | grind) | grind [inK, o70]) ?_ <;> conv => whnf)
    | (refine OblG.mk (by conv => whnf
                          repeat (first | (refine Bx.mk ?_) | (intro h; (try simp [etas, elDef, -List.getD_eq_getElem?_getD] at h); conv => whnf))
                          first | omega | rfl | exact inK_byte _ | (simp only [inK, Int.toNat_natCast, etas, elDef, o70] <;> first | omega | grind) | grind [inK, o70]) ?_ <;> conv => whnf)
    | (refine Gd.mk (fun h => ?_) <;> (try simp [etas, elDef, -List.getD_eq_getElem?_getD] at h) <;> conv => whnf)
    | (refine And.intro ?_ ?_ <;> conv => whnf)
    | exact True.intro
    | (intro; conv => whnf)
  · exact leafV2 hK ⟨rfl, by rw [(hp.1 h).1, (hp.1 h).2]; simp only [Int.toNat_natCast, nd_eta]⟩
  · exact leafV2 hK ⟨rfl, by rw [(hp.2 h).1, (hp.2 h).2]; simp only [Int.toNat_natCast, nd_eta]⟩
theorem s52 : (CtrOK Tryd.prog 52 (.gen .ps C52) ∧ Callable Tryd.prog 52) := by
  refine gen_ok (E := E52) (mkE_cons s54 (mkE_cons s70 (mkE_cons s71 (mkE_nil tab_ok)))) mix (O := O52) (C := C52) (own := .ps) Tryd.func52 rfl (by rfl) (by kernel_rfl) (fun args K h hbd => ?_)
  unfold C52 at h; split at h
  case h_2 => exact h.elim
  exact ⟨Nat.le_of_ble_eq_true rfl, a52 _ _ _ _ _ _ ⟨_, _, _, _, _⟩ (by exact hbd) _ h⟩
end Go.Rs

