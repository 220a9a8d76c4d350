import Derived.Test.YtgmilpefnaadmaaDoorDH
import Derived.Test.YtgmilpefnaadmaaDoorCL
import Derived.Test.YtgmilpefnaadmaaDoorCG
import Derived.Test.YtgmilpefnaadmaaDoorMB
import Derived.Test.YtgmilpefnaadmaaDoorDelB
import Derived.Test.YtgmilpefnaadmaaDoorLB
set_option linter.all false
namespace Go.Rs
open Go.Proofs
set_option maxRecDepth 100000
set_option linter.unusedVariables false
set_option linter.unusedSimpArgs false
noncomputable def c9 (code : List Int) (K : AV → List AV → Prop) : Prop :=
    Obl (byOk code) (K (.bool true) [])
noncomputable def C9 : List AV → (AV → List AV → Prop) → Prop
  | [.ps .u8 code], K => c9 code K
  | _, _ => False
noncomputable def E9 : Ctx := mkE tab [(13, .pure F13), (14, .gen .ps C14), (20, .gen .ps C20), (21, .gen .ps C21), (22, .gen .ps C22)]
noncomputable def O9 : Nat → List DI := ordL [(11, [.q 0, .q 1, .q 2, .q 3, .q 4, .q 5, .q 6, .l 7 [], .q 8, .q 9, .q 10, .a 11, .l 12 [], .q 13]), (12, [.q 0, .q 1, .q 2, .q 3, .q 4, .q 5, .q 6, .l 7 [], .q 8, .q 9, .q 10, .a 11, .l 12 [], .q 13])]
theorem a9 (code : List Int) (hb : BdAs [.ps .u8 code]) (K : AV → List AV → Prop) (h : c9 code K) : abody E9 O9 .ps Tryd.f9 (Tryd.f9.body.getD .skip) [.ps .u8 code] K := by
  simp only [BdAs, BdA, BdL, BdC, MX, ndC, shC, itC, stC, opC, chC, nwC, flC, rqC, rsC, enc, List.cons_append, List.nil_append, and_true, true_and] at hb
  unfold c9 at h
  obtain ⟨ho, hK⟩ := h
  conv => whnf
  repeat' first
    | (refine Cnd.mk (fun h => ?_) (fun h => ?_) <;> (try simp [etas, elDef, -List.getD_eq_getElem?_getD] at h) <;> conv => whnf)
    | (refine Obl.mk (by first | omega | rfl | exact inK_byte _ | (simp only [inK, Int.toNat_natCast, etas, elDef, o13, m13] <;> first | omega | grind) | grind [inK, o13, m13]) ?_ <;> conv => whnf)
    | (refine OblG.mk (by conv => whnf
                          repeat (first | (refine Bx.mk ?_) | (intro h; (try simp [etas, elDef, -List.getD_eq_getElem?_getD] at h); conv => whnf))
                          first | omega | rfl | exact inK_byte _ | (simp only [inK, Int.toNat_natCast, etas, elDef, o13, m13] <;> first | omega | grind) | grind [inK, o13, m13]) ?_ <;> conv => whnf)
    | (refine Gd.mk (fun h => ?_) <;> (try simp [etas, elDef, -List.getD_eq_getElem?_getD] at h) <;> conv => whnf)
    | (refine And.intro ?_ ?_ <;> conv => whnf)
    | exact True.intro
    | (intro; conv => whnf)
  · exact hK
  · exact leafB hK (by simp [eqD_iff.2 rfl])
  · rename_i a b
    have hm := some_getD h.1.1.2
    have hk := h.1.2
    have hk2 := h.2
    clear h
    have hq := mergeFor_some hm
    have op := validM_ok hq.2.2
    have hl6 := (okN_names op).1
    refine aloop_intro Nat (fun k => k ≤ ((mergeForM a b).getD default).names.length ∧ True) (fun k => ((mergeForM a b).getD default).names.length - k) (fun k => [(9, .int .i64 k)]) (fun k => []) [3, 4, 5] 0 [] [] ?_ ?_ (by exact sgOk_of (by rfl)) ?_
    · first | (simp; done) | (simp; assumption)
    · (conv => whnf); (repeat' (first | exact trivial | rfl | (refine nilEq ?_; first | rfl | (simp only [*]; done) | (simp [*]; done) | grind) | apply And.intro | ((first | refine intEq ?_ | refine boolEq ?_ | refine strEq ?_ | refine psEq ?_ | refine nilEq ?_ | refine arrEq ?_); (try simp only [Int.toNat_natCast, etas, elDef]); first | done | omega | grind | (simp only [*]; done) | (simp [*]; done)))); (all_goals (conv => whnf)); (repeat' (first | exact trivial | rfl | (refine nilEq ?_; first | rfl | (simp only [*]; done) | (simp [*]; done) | grind) | apply And.intro | ((first | refine intEq ?_ | refine boolEq ?_ | refine strEq ?_ | refine psEq ?_ | refine nilEq ?_ | refine arrEq ?_); (try simp only [Int.toNat_natCast, etas, elDef]); first | done | omega | grind | (simp only [*]; done) | (simp [*]; done)) | ((try simp only [Int.toNat_natCast, etas, elDef]); first | done | omega | grind | (simp only [*]; done) | (simp [*]; done))))
    rintro i ⟨hi, hj⟩
    conv => whnf
    have hv := fun (h : i < ((mergeForM a b).getD default).names.length) => names_law hm hk hk2 h
    repeat' first
      | (refine Cnd.mk (fun h => ?_) (fun h => ?_) <;> (try simp [etas, elDef, -List.getD_eq_getElem?_getD] at h) <;> conv => whnf)
      | (refine Obl.mk (by first | omega | rfl | exact inK_byte _ | (simp only [inK, Int.toNat_natCast, etas, elDef, o13, m13] <;> first | omega | grind) | grind [inK, o13, m13]) ?_ <;> conv => whnf)
      | (refine OblG.mk (by conv => whnf
                            repeat (first | (refine Bx.mk ?_) | (intro h; (try simp [etas, elDef, -List.getD_eq_getElem?_getD] at h); conv => whnf))
                            first | omega | rfl | exact inK_byte _ | (simp only [inK, Int.toNat_natCast, etas, elDef, o13, m13] <;> first | omega | grind) | grind [inK, o13, m13]) ?_ <;> conv => whnf)
      | (refine Gd.mk (fun h => ?_) <;> (try simp [etas, elDef, -List.getD_eq_getElem?_getD] at h) <;> conv => whnf)
      | (refine And.intro ?_ ?_ <;> conv => whnf)
      | exact True.intro
      | (intro; conv => whnf)
    · rename_i h1
      have h2 := hv h1
      exfalso
      grind [eqD_iff]
    · exact ⟨i + 1, [], [], ⟨by omega, by grind⟩, by omega, by (conv => whnf); (repeat' (first | exact trivial | rfl | (refine nilEq ?_; first | rfl | (simp only [*]; done) | (simp [*]; done) | grind) | apply And.intro | ((first | refine intEq ?_ | refine boolEq ?_ | refine strEq ?_ | refine psEq ?_ | refine nilEq ?_ | refine arrEq ?_); (try simp only [Int.toNat_natCast, etas, elDef]); first | done | omega | grind | (simp only [*]; done) | (simp [*]; done)))); (all_goals (conv => whnf)); (repeat' (first | exact trivial | rfl | (refine nilEq ?_; first | rfl | (simp only [*]; done) | (simp [*]; done) | grind) | apply And.intro | ((first | refine intEq ?_ | refine boolEq ?_ | refine strEq ?_ | refine psEq ?_ | refine nilEq ?_ | refine arrEq ?_); (try simp only [Int.toNat_natCast, etas, elDef]); first | done | omega | grind | (simp only [*]; done) | (simp [*]; done)) | ((try simp only [Int.toNat_natCast, etas, elDef]); first | done | omega | grind | (simp only [*]; done) | (simp [*]; done)))), (by exact sgOk_of (by rfl))⟩
    · exact hK
theorem s9 : (CtrOK Tryd.prog 9 (.gen .ps C9) ∧ Callable Tryd.prog 9) := by
  refine gen_ok (E := E9) (mkE_cons s13 (mkE_cons s14 (mkE_cons s20 (mkE_cons s21 (mkE_cons s22 (mkE_nil tab_ok)))))) mix (O := O9) (C := C9) (own := .ps) Tryd.func9 rfl (by rfl) (by kernel_rfl) (fun args K h hbd => ?_)
  unfold C9 at h; split at h
  case h_2 => exact h.elim
  exact ⟨Nat.le_of_ble_eq_true rfl, a9 _ (by exact hbd) _ h⟩
end Go.Rs

