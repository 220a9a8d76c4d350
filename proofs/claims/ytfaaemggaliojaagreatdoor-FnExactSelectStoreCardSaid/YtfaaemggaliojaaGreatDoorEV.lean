import Derived.Test.YtfaaemggaliojaaGreatDoorEU
import Derived.Test.YtfaaemggaliojaaGreatDoorCS
import Derived.Test.YtfaaemggaliojaaGreatDoorEC
set_option linter.all false
set_option linter.unusedSimpArgs false
set_option linter.unusedVariables false
namespace Go.Rs
open Go.Proofs Go.RowKit
set_option maxRecDepth 100000
noncomputable def c9d (s : Sto) (l : List Flt) (K : AV → List AV → Prop) : Prop :=
    K (.st (stD (selM s l))) []
noncomputable def D9d : List AV → (AV → List AV → Prop) → Prop
  | [.st [.ps .item s_0, .int .i64 s_1], .ps .flt l], K => c9d ⟨s_0, s_1⟩ l K
  | _, _ => False
noncomputable def C9d (args : List AV) (K : AV → List AV → Prop) : Prop := D9d (fixAs args) K
noncomputable def E9d : Ctx := mkE tab [(23, .pure F23), (24, .pure F24), (25, .pure F25), (26, .gen .ow C26d)]
noncomputable def O9d : Nat → List DI := ordL [(8, [.q 0, .q 1, .q 2, .l 3 [1], .l 4 [1], .l 5 [], .q 6, .l 7 []])]
theorem a9d (s : Sto) (l : List Flt) (hb : BdAs [.st (stC s), .ps .flt l]) (K : AV → List AV → Prop) (h : c9d s l K) : abodyD E9d O9d .ow Tryz.f9 (Tryz.f9.body.getD .skip) [.st (stC s), .ps .flt l] (fun r rs => K (fixR r) (fixAs rs)) := by
  simp only [BdAs, BdA, BdL, BdC, MX, ndC, shC, itC, stC, opC, chC, nwC, flC, rqC, rsC, enc, List.cons_append, List.nil_append, and_true, true_and] at hb
  unfold c9d at h
  have hK := h
  conv => whnf
  repeat' first|(refine Cnd.mk (fun h=>?_) (fun h=>?_)<;>(try simp [etas,elDef,-List.getD_eq_getElem?_getD] at h)<;>conv=>whnf)|(refine Obl.mk (by first|omega|rfl|exact inK_byte _|(simp only [inK,Int.toNat_natCast,etas,elDef]<;>first|omega|grind)|grind [inK]) ?_<;>conv=>whnf)|(refine OblG.mk (by ((conv=>whnf);(repeat (first|(refine Bx.mk ?_)|(intro h;(try simp [etas,elDef,-List.getD_eq_getElem?_getD] at h);conv=>whnf)));(first|omega|rfl|exact inK_byte _|(simp only [inK,Int.toNat_natCast,etas,elDef]<;>first|omega|grind)|grind [inK]))) ?_<;>conv=>whnf)|(refine Gd.mk (fun h=>?_)<;>(try simp [etas,elDef,-List.getD_eq_getElem?_getD] at h)<;>conv=>whnf)|(refine And.intro ?_ ?_<;>conv=>whnf)|exact True.intro|(intro;conv=>whnf)
  · have e : selM s l = ⟨[], 0⟩ := by grind [selM]
    exact leafV hK (by rw [e]; rfl)
  have hv : storeM s = true ∧ filtersM l = true := by grind
  have e : selM s l = ⟨selL s l, s.clock⟩ := by grind [selM]
  rw [e] at hK
  have h10 := (storeM_clock hv.1).2.2
  refine aloop_intro (Nat × List It) (fun q => q.1 ≤ s.items.length ∧ q.2 = (s.items.take q.1).filter (selP l)) (fun q => s.items.length - q.1) (fun q => [(23, .int .i64 q.1)]) (fun q => (5, .box [nlV .item q.2, .int .i64 s.clock]) :: nlT .item q.2) [4] (0, []) [] [] ⟨Nat.zero_le _, rfl⟩ ?_ (by exact sgOk_of (by rfl)) ?_
  · iterate 2 ((all_goals (conv=>whnf));(repeat' (first|exact trivial|rfl|(refine nilEq ?_;first|rfl|(simp only [*];done)|(simp [*];done)|grind)|apply And.intro|((first|refine intEq ?_|refine boolEq ?_|refine strEq ?_|refine psEq ?_|refine nilEq ?_|refine arrEq ?_);(try simp only [Int.toNat_natCast,etas,elDef]);first | done | omega | grind | (simp only [*]; done) | (simp [*]; done)))));(all_goals ((try simp only [Int.toNat_natCast,etas,elDef]);first | done | omega | grind | (simp only [*]; done) | (simp [*]; done)))
  rintro ⟨i, _ | ⟨a, r⟩⟩ ⟨hi, hj⟩
  · dsimp only at hi hj
    have htk := fun h => sel_take (s := s) (l := l) (i := i) h
    have hsm := fun h => (storeM_sm hv.1).item (j := i) h
    rcases Nat.lt_or_ge i s.items.length with hil | hil
    · have hsm := hsm hil
      have htk := htk hil
      conv => whnf
      repeat' first|(refine Cnd.mk (fun h=>?_) (fun h=>?_)<;>(try simp [etas,elDef,-List.getD_eq_getElem?_getD] at h)<;>conv=>whnf)|(refine Obl.mk (by first|omega|rfl|exact inK_byte _|(simp only [inK,Int.toNat_natCast,etas,elDef]<;>first|omega|grind)|grind [inK]) ?_<;>conv=>whnf)|(refine OblG.mk (by ((conv=>whnf);(repeat (first|(refine Bx.mk ?_)|(intro h;(try simp [etas,elDef,-List.getD_eq_getElem?_getD] at h);conv=>whnf)));(first|omega|rfl|exact inK_byte _|(simp only [inK,Int.toNat_natCast,etas,elDef]<;>first|omega|grind)|grind [inK]))) ?_<;>conv=>whnf)|(refine Gd.mk (fun h=>?_)<;>(try simp [etas,elDef,-List.getD_eq_getElem?_getD] at h)<;>conv=>whnf)|(refine And.intro ?_ ?_<;>conv=>whnf)|exact True.intro|(intro;conv=>whnf)
      · have hp : selP l (s.items.getD i default) = true := by unfold selP; simpa using h
        exact ⟨(i + 1, [s.items.getD i default]), [(900, 36)], [], ⟨by simp only; omega, by simp only; rw [htk, ← hj, if_pos hp]; rfl⟩, by simp only; omega, by iterate 2 ((all_goals (conv=>whnf));(repeat' (first|exact trivial|rfl|(refine nilEq ?_;first|rfl|(simp only [*];done)|(simp [*];done)|grind)|apply And.intro|((first|refine intEq ?_|refine boolEq ?_|refine strEq ?_|refine psEq ?_|refine nilEq ?_|refine arrEq ?_);(try simp only [Int.toNat_natCast,etas,elDef]);first | done | omega | grind | (simp only [*]; done) | (simp [*]; done)))));(all_goals ((try simp only [Int.toNat_natCast,etas,elDef]);first | done | omega | grind | (simp only [*]; done) | (simp [*]; done))), (by exact sgOk_of (by rfl))⟩
      · have hp : selP l (s.items.getD i default) = false := by unfold selP; simpa using h
        exact ⟨(i + 1, []), [], [], ⟨by simp only; omega, by simp only; rw [htk, ← hj, if_neg (by rw [hp]; simp)]; rfl⟩, by simp only; omega, by iterate 2 ((all_goals (conv=>whnf));(repeat' (first|exact trivial|rfl|(refine nilEq ?_;first|rfl|(simp only [*];done)|(simp [*];done)|grind)|apply And.intro|((first|refine intEq ?_|refine boolEq ?_|refine strEq ?_|refine psEq ?_|refine nilEq ?_|refine arrEq ?_);(try simp only [Int.toNat_natCast,etas,elDef]);first | done | omega | grind | (simp only [*]; done) | (simp [*]; done)))));(all_goals ((try simp only [Int.toNat_natCast,etas,elDef]);first | done | omega | grind | (simp only [*]; done) | (simp [*]; done))), (by exact sgOk_of (by rfl))⟩
      · exfalso; omega
    · conv => whnf
      repeat' first|(refine Cnd.mk (fun h=>?_) (fun h=>?_)<;>(try simp [etas,elDef,-List.getD_eq_getElem?_getD] at h)<;>conv=>whnf)|(refine Obl.mk (by first|omega|rfl|exact inK_byte _|(simp only [inK,Int.toNat_natCast,etas,elDef]<;>first|omega|grind)|grind [inK]) ?_<;>conv=>whnf)|(refine OblG.mk (by ((conv=>whnf);(repeat (first|(refine Bx.mk ?_)|(intro h;(try simp [etas,elDef,-List.getD_eq_getElem?_getD] at h);conv=>whnf)));(first|omega|rfl|exact inK_byte _|(simp only [inK,Int.toNat_natCast,etas,elDef]<;>first|omega|grind)|grind [inK]))) ?_<;>conv=>whnf)|(refine Gd.mk (fun h=>?_)<;>(try simp [etas,elDef,-List.getD_eq_getElem?_getD] at h)<;>conv=>whnf)|(refine And.intro ?_ ?_<;>conv=>whnf)|exact True.intro|(intro;conv=>whnf)
      all_goals first | (exfalso; omega) | skip
      exact leafV hK (by simp only [stD, selL]; rw [List.take_of_length_le (by omega)] at hj; rw [← hj]; rfl)
  · dsimp only at hi hj
    have htk := fun h => sel_take (s := s) (l := l) (i := i) h
    have hsm := fun h => (storeM_sm hv.1).item (j := i) h
    have hln := sel_len s l i
    rw [← hj] at hln
    have hl2 : (a :: r).length + [s.items.getD i default].length ≤ 1073741824 := by simp at hln ⊢; omega
    rcases Nat.lt_or_ge i s.items.length with hil | hil
    · have hsm := hsm hil
      have htk := htk hil
      conv => whnf
      repeat' first|(refine Cnd.mk (fun h=>?_) (fun h=>?_)<;>(try simp [etas,elDef,-List.getD_eq_getElem?_getD] at h)<;>conv=>whnf)|(refine Obl.mk (by first|omega|rfl|exact inK_byte _|(simp only [inK,Int.toNat_natCast,etas,elDef]<;>first|omega|grind)|grind [inK]) ?_<;>conv=>whnf)|(refine OblG.mk (by ((conv=>whnf);(repeat (first|(refine Bx.mk ?_)|(intro h;(try simp [etas,elDef,-List.getD_eq_getElem?_getD] at h);conv=>whnf)));(first|omega|rfl|exact inK_byte _|(simp only [inK,Int.toNat_natCast,etas,elDef]<;>first|omega|grind)|grind [inK]))) ?_<;>conv=>whnf)|(refine Gd.mk (fun h=>?_)<;>(try simp [etas,elDef,-List.getD_eq_getElem?_getD] at h)<;>conv=>whnf)|(refine And.intro ?_ ?_<;>conv=>whnf)|exact True.intro|(intro;conv=>whnf)
      · have hp : selP l (s.items.getD i default) = true := by unfold selP; simpa using h
        exact ⟨(i + 1, a :: r ++ [s.items.getD i default]), [(900, 36)], [], ⟨by simp only; omega, by simp only; rw [htk, ← hj, if_pos hp]⟩, by simp only; omega, by iterate 2 ((all_goals (conv=>whnf));(repeat' (first|exact trivial|rfl|(refine nilEq ?_;first|rfl|(simp only [*];done)|(simp [*];done)|grind)|apply And.intro|((first|refine intEq ?_|refine boolEq ?_|refine strEq ?_|refine psEq ?_|refine nilEq ?_|refine arrEq ?_);(try simp only [Int.toNat_natCast,etas,elDef]);first | omega | rfl))));(all_goals ((try simp only [Int.toNat_natCast,etas,elDef]);first | omega | rfl)), (by exact sgOk_of (by rfl))⟩
      · have hp : selP l (s.items.getD i default) = false := by unfold selP; simpa using h
        exact ⟨(i + 1, a :: r), [], [], ⟨by simp only; omega, by simp only; rw [htk, ← hj, if_neg (by rw [hp]; simp), List.append_nil]⟩, by simp only; omega, by iterate 2 ((all_goals (conv=>whnf));(repeat' (first|exact trivial|rfl|(refine nilEq ?_;first|rfl|(simp only [*];done)|(simp [*];done)|grind)|apply And.intro|((first|refine intEq ?_|refine boolEq ?_|refine strEq ?_|refine psEq ?_|refine nilEq ?_|refine arrEq ?_);(try simp only [Int.toNat_natCast,etas,elDef]);first | done | omega | grind | (simp only [*]; done) | (simp [*]; done)))));(all_goals ((try simp only [Int.toNat_natCast,etas,elDef]);first | done | omega | grind | (simp only [*]; done) | (simp [*]; done))), (by exact sgOk_of (by rfl))⟩
      · exfalso; omega
    · conv => whnf
      repeat' first|(refine Cnd.mk (fun h=>?_) (fun h=>?_)<;>(try simp [etas,elDef,-List.getD_eq_getElem?_getD] at h)<;>conv=>whnf)|(refine Obl.mk (by first|omega|rfl|exact inK_byte _|(simp only [inK,Int.toNat_natCast,etas,elDef]<;>first|omega|grind)|grind [inK]) ?_<;>conv=>whnf)|(refine OblG.mk (by ((conv=>whnf);(repeat (first|(refine Bx.mk ?_)|(intro h;(try simp [etas,elDef,-List.getD_eq_getElem?_getD] at h);conv=>whnf)));(first|omega|rfl|exact inK_byte _|(simp only [inK,Int.toNat_natCast,etas,elDef]<;>first|omega|grind)|grind [inK]))) ?_<;>conv=>whnf)|(refine Gd.mk (fun h=>?_)<;>(try simp [etas,elDef,-List.getD_eq_getElem?_getD] at h)<;>conv=>whnf)|(refine And.intro ?_ ?_<;>conv=>whnf)|exact True.intro|(intro;conv=>whnf)
      all_goals first | (exfalso; omega) | skip
      exact leafV hK (by simp only [stD, selL]; rw [List.take_of_length_le (by omega)] at hj; rw [← hj]; rfl)
theorem s9d : (CtrOK Tryz.prog 9 (.gen .ow C9d) ∧ Callable Tryz.prog 9) := by
  refine gen_okD (E := E9d) (mkE_cons s23 (mkE_cons s24 (mkE_cons s25 (mkE_cons s26d (mkE_nil tab_ok))))) mix (O := O9d) (D := D9d) (own := .ow) Tryz.func9 rfl (by rfl) (by kernel_rfl) (fun args K h hbd => ?_)
  unfold D9d at h; split at h
  case h_2 => exact h.elim
  exact ⟨Nat.le_of_ble_eq_true rfl, a9d ⟨_, _⟩ _ (by exact hbd) _ h⟩
noncomputable def c9r (l : List It) (c : Int) (q : List Flt) (K : AV → List AV → Prop) : Prop :=
    K (.st (stW (selM ⟨l, c⟩ q))) [.wr .item l, .wr .flt q]
noncomputable def C9r : List AV → (AV → List AV → Prop) → Prop
  | [.tup [.st [.wr .item l, .int .i64 c]], .tup [.wr .flt q]], K => c9r l c q K
  | _, _ => False
theorem s9r : CtrOK Tryz.prog 9 (.gen .ln C9r) ∧ Callable Tryz.prog 9 := by
  refine ⟨Snd.of (Snd.lend s9d.1) fun vs K h => ?_, s9d.2⟩
  unfold C9r at h
  split at h
  case h_2 => exact h.elim
  unfold c9r at h
  exact ⟨rfl, rfl, rfl, h⟩
end Go.Rs

