import Derived.Test.YtmkgadogaefkaaaCO
import Derived.Test.YtmkgadogaefkaaaCI
import Derived.Test.YtmkgadogaefkaaaMB
import Derived.Test.YtmkgadogaefkaaaCE
import Derived.Test.YtmkgadogaefkaaaCG
import Derived.Test.YtmkgadogaefkaaaCB
import Derived.Test.YtmkgadogaefkaaaMG
import Derived.Test.YtmkgadogaefkaaaET
import Derived.Test.YtmkgadogaefkaaaEL
set_option linter.all false
section
set_option linter.unusedSimpArgs false
set_option linter.unusedVariables false
namespace Go.Rs
open Go.Proofs
set_option maxRecDepth 100000
theorem nws_extG {a b : Nws} (h1 : a.name = b.name) (h2 : a.gone = b.gone) (h3 : a.node = b.node) (h4 : a.version = b.version) : a = b := by
  cases a; cases b; simp at *; exact ⟨h1, h2, h3, h4⟩
noncomputable def c19 (l : List Chg) (v : Int) (K : AV → List AV → Prop) : Prop :=
    K (.own .nws (sinceV l v)) []
end Go.Rs
end
section
set_option linter.unusedSimpArgs false
set_option linter.unusedVariables false
namespace Go.Rs
open Go.Proofs Go.RowKit
set_option maxRecDepth 100000
theorem he_neg4 {Q1 Q2 Q3 : Prop} [Decidable Q1] [Decidable Q2] [Decidable Q3] {a r : Int} (h : ¬ Q1 ∨ ¬ Q2 ∨ a < 0 ∨ ¬ Q3) : (if Q1 then if Q2 then if a < 0 then -1 else if Q3 then r else -1 else -1 else -1) = (-1 : Int) := by
  by_cases h1 : Q1 <;> by_cases h2 : Q2 <;> by_cases h3 : Q3 <;> simp_all
theorem he_pos4 {Q1 Q2 Q3 : Prop} [Decidable Q1] [Decidable Q2] [Decidable Q3] {a r : Int} (h1 : Q1) (h2 : Q2) (h3 : ¬ a < 0) (h4 : Q3) : (if Q1 then if Q2 then if a < 0 then -1 else if Q3 then r else -1 else -1 else -1) = r := by
  rw [if_pos h1, if_pos h2, if_neg h3, if_pos h4]
def nlT (E : El) : List (ElT E) → List (Nat × LC)
  | [] => []
  | a :: r => [(900, .tree E (a :: r))]
noncomputable def c10d (s : Sto) (l : List Nws) (K : AV → List AV → Prop) : Prop :=
    K (optSD (ffM s l)) []
noncomputable def D10d : List AV → (AV → List AV → Prop) → Prop
  | [.st [.ps .item s_0, .int .i64 s_1], .ps .nws l], K => c10d ⟨s_0, s_1⟩ l K
  | _, _ => False
noncomputable def C10d (args : List AV) (K : AV → List AV → Prop) : Prop := D10d (fixAs args) K
noncomputable def E10d : Ctx := mkE tab [(30, .pure F30), (31, .pure F31), (32, .gen .ow C32d), (33, .gen .ow C33d), (34, .gen .ow C34d), (35, .pure F35), (36, .gen .ow C36d)]
noncomputable def O10d : Nat → List DI := ordL [(9, [.q 0, .q 1, .q 2, .q 3, .q 4, .q 5, .q 6, .q 7, .l 8 [1, 3, 5], .q 9, .l 10 [], .q 11, .l 12 []])]
theorem a10d (s : Sto) (l : List Nws) (hb : BdAs [.st (stC s), .ps .nws l]) (K : AV → List AV → Prop) (h : c10d s l K) : abodyD E10d O10d .ow Try.f10 (Try.f10.body.getD .skip) [.st (stC s), .ps .nws l] (fun r rs => K (fixR r) (fixAs rs)) := by
  simp only [BdAs, BdA, BdL, BdC, MX, ndC, shC, itC, stC, opC, chC, nwC, flC, rqC, rsC, enc, List.cons_append, List.nil_append, and_true, true_and] at hb
  unfold c10d at h
  have hK := h
  have h9 : storeM s = true → smS s ∧ sortedI s.items := fun h => ⟨storeM_sm h, storeM_sorted h⟩
  conv => whnf
  repeat' first|(refine Cnd.mk (fun h=>?_) (fun h=>?_)<;>(try simp [etas,elDef,-List.getD_eq_getElem?_getD] at h)<;>conv=>whnf)|(refine Obl.mk (by first|omega|rfl|exact inK_byte _|(simp only [inK,Int.toNat_natCast,etas,elDef,m34d,o35]<;>first|omega|grind)|grind [inK,m34d,o35]) ?_<;>conv=>whnf)|(refine OblG.mk (by ((conv=>whnf);(repeat (first|(refine Bx.mk ?_)|(intro h;(try simp [etas,elDef,-List.getD_eq_getElem?_getD] at h);conv=>whnf)));(first|omega|rfl|exact inK_byte _|(simp only [inK,Int.toNat_natCast,etas,elDef,m34d,o35]<;>first|omega|grind)|grind [inK,m34d,o35]))) ?_<;>conv=>whnf)|(refine Gd.mk (fun h=>?_)<;>(try simp [etas,elDef,-List.getD_eq_getElem?_getD] at h)<;>conv=>whnf)|(refine And.intro ?_ ?_<;>conv=>whnf)|exact True.intro|(intro;conv=>whnf)
  · have e : ffM s l = none := by grind [ffM]
    exact leafV hK (by rw [e]; simp only [optSD, stD, Option.getD_some, Option.getD_none, Option.isSome_some, Option.isSome_none, etas]; rfl)
  have hf := ff_facts (s := s) (l := l) (by simpa using h)
  refine aloop_intro Nat (fun k => k ≤ l.length ∧ True) (fun k => l.length - k) (fun k => [(26, .int .i64 k)]) (fun k => [(900, .tree .item (followM s (l.take k)).items), (6, .box [.ls 900, .int .i64 (followM s (l.take k)).clock])]) [2, 4] 0 [(900, 24000)] [] ?_ ?_ (by exact sgOk_of (by rfl)) ?_
  · first | (simp; done) | (simp; assumption)
  · iterate 2 ((all_goals (conv=>whnf));(repeat' (first|exact trivial|rfl|(refine nilEq ?_;first|rfl|(simp only [*];done)|(simp [*];done)|grind)|apply And.intro|((first|refine intEq ?_|refine boolEq ?_|refine strEq ?_|refine psEq ?_|refine nilEq ?_|refine arrEq ?_);(try simp only [Int.toNat_natCast,etas,elDef]);first | done | omega | grind | (simp only [*]; done) | (simp [*]; done)))));(all_goals ((try simp only [Int.toNat_natCast,etas,elDef]);first | done | omega | grind | (simp only [*]; done) | (simp [*]; done)))
  rintro i ⟨hi, hj⟩
  conv => whnf
  obtain ⟨f1, f2, f3, f4, f5⟩ := hf i
  have hasc := f1.2.2
  have hso := ascI_sorted.1 hasc
  rcases Nat.lt_or_ge i l.length with hil | hil
  · have hft := followM_take (s := s) hil
    have hok : newsM (l.getD i default) (followM s (l.take i)).clock = true := by
      have := feedOk_pre f5 (i + 1)
      rw [feedOk_take hil, Bool.and_eq_true] at this
      rw [f2]; exact this.2
    have hnode : smN (l.getD i default).node := by
      simp only [newsM, changeM, Bool.and_eq_true] at hok
      exact validM_sm hok.1.1.1.2
    have hs1 : (stepN (followM s (l.take i)) (l.getD i default)).clock = (l.getD i default).version := rfl
    have hle := lbI_le (followM s (l.take i)).items (l.getD i default).name
    have hfl : foundI (followM s (l.take i)).items (l.getD i default).name = true → lbI (followM s (l.take i)).items (l.getD i default).name < (followM s (l.take i)).items.length := fun h => by simp only [foundI, Bool.and_eq_true, decide_eq_true_eq] at h; exact h.1
    conv => whnf
    repeat' first|(refine Cnd.mk (fun h=>?_) (fun h=>?_)<;>(try simp [etas,elDef,-List.getD_eq_getElem?_getD] at h)<;>conv=>whnf)|(refine Obl.mk (by first|omega|rfl|exact inK_byte _|(simp only [inK,Int.toNat_natCast,etas,elDef,m34d,o35]<;>first|omega|grind)|grind [inK,m34d,o35]) ?_<;>conv=>whnf)|(refine OblG.mk (by ((conv=>whnf);(repeat (first|(refine Bx.mk ?_)|(intro h;(try simp [etas,elDef,-List.getD_eq_getElem?_getD] at h);conv=>whnf)));(first|omega|rfl|exact inK_byte _|(simp only [inK,Int.toNat_natCast,etas,elDef,m34d,o35]<;>first|omega|grind)|grind [inK,m34d,o35]))) ?_<;>conv=>whnf)|(refine Gd.mk (fun h=>?_)<;>(try simp [etas,elDef,-List.getD_eq_getElem?_getD] at h)<;>conv=>whnf)|(refine And.intro ?_ ?_<;>conv=>whnf)|exact True.intro|(intro;conv=>whnf)
    · have hit : putL (followM s (l.take i)).items ⟨(l.getD i default).name, (l.getD i default).version, (l.getD i default).node⟩ = (followM s (l.take (i + 1))).items := by rw [hft]; simp only [stepN, h, if_true, if_false, Bool.false_eq_true]
      have hck : (l.getD i default).version = (followM s (l.take (i + 1))).clock := by rw [hft, hs1]
      exact ⟨i + 1, [(900, 47000)], [], ⟨by omega, trivial⟩, by omega, by iterate 2 ((all_goals (conv=>whnf));(repeat' (first|exact trivial|rfl|(refine nilEq ?_;first|rfl|(simp only [*];done)|(simp [*];done)|grind)|apply And.intro|((first|refine intEq ?_|refine boolEq ?_|refine strEq ?_|refine psEq ?_|refine nilEq ?_|refine arrEq ?_);(try simp only [Int.toNat_natCast,etas,elDef]);first | exact hit | exact hck | omega))));(all_goals ((try simp only [Int.toNat_natCast,etas,elDef]);first | exact hit | exact hck | omega)), (by exact sgOk_of (by rfl))⟩
    · have hdl := dropL_found hasc (by assumption : foundI _ _ = true)
      have hgn : (l.getD i default).gone = true := by assumption
      have hit : (followM s (l.take (i + 1))).items = (followM s (l.take i)).items.eraseIdx (lbI (followM s (l.take i)).items (l.getD i default).name) := by rw [hft, ← hdl]; simp only [stepN, hgn, if_true]
      have hck : (l.getD i default).version = (followM s (l.take (i + 1))).clock := by rw [hft, hs1]
      exact ⟨i + 1, [(900, 63000)], [], ⟨by omega, trivial⟩, by omega, by iterate 2 ((all_goals (conv=>whnf));(repeat' (first|exact trivial|rfl|(refine nilEq ?_;first|rfl|(simp only [*];done)|(simp [*];done)|grind)|apply And.intro|((first|refine intEq ?_|refine boolEq ?_|refine strEq ?_|refine psEq ?_|refine nilEq ?_|refine arrEq ?_);(try simp only [Int.toNat_natCast,etas,elDef]);first | exact hit.symm | exact hck | omega))));(all_goals ((try simp only [Int.toNat_natCast,etas,elDef]);first | exact hit.symm | exact hck | omega)), (by exact sgOk_of (by rfl))⟩
    · have hdl : dropL (followM s (l.take i)).items (l.getD i default).name = (followM s (l.take i)).items := dropL_new hasc (by assumption)
      have hgn : (l.getD i default).gone = true := by assumption
      have hit : (followM s (l.take (i + 1))).items = (followM s (l.take i)).items := by rw [hft]; simp only [stepN, hgn, if_true]; exact hdl
      have hck : (l.getD i default).version = (followM s (l.take (i + 1))).clock := by rw [hft, hs1]
      exact ⟨i + 1, [], [], ⟨by omega, trivial⟩, by omega, by iterate 2 ((all_goals (conv=>whnf));(repeat' (first|exact trivial|rfl|(refine nilEq ?_;first|rfl|(simp only [*];done)|(simp [*];done)|grind)|apply And.intro|((first|refine intEq ?_|refine boolEq ?_|refine strEq ?_|refine psEq ?_|refine nilEq ?_|refine arrEq ?_);(try simp only [Int.toNat_natCast,etas,elDef]);first | exact hit.symm | exact hck | omega))));(all_goals ((try simp only [Int.toNat_natCast,etas,elDef]);first | exact hit.symm | exact hck | omega)), (by exact sgOk_of (by rfl))⟩
    · exfalso; omega
    · exfalso; omega
  · conv => whnf
    repeat' first|(refine Cnd.mk (fun h=>?_) (fun h=>?_)<;>(try simp [etas,elDef,-List.getD_eq_getElem?_getD] at h)<;>conv=>whnf)|(refine Obl.mk (by first|omega|rfl|exact inK_byte _|(simp only [inK,Int.toNat_natCast,etas,elDef,m34d,o35]<;>first|omega|grind)|grind [inK,m34d,o35]) ?_<;>conv=>whnf)|(refine OblG.mk (by ((conv=>whnf);(repeat (first|(refine Bx.mk ?_)|(intro h;(try simp [etas,elDef,-List.getD_eq_getElem?_getD] at h);conv=>whnf)));(first|omega|rfl|exact inK_byte _|(simp only [inK,Int.toNat_natCast,etas,elDef,m34d,o35]<;>first|omega|grind)|grind [inK,m34d,o35]))) ?_<;>conv=>whnf)|(refine Gd.mk (fun h=>?_)<;>(try simp [etas,elDef,-List.getD_eq_getElem?_getD] at h)<;>conv=>whnf)|(refine And.intro ?_ ?_<;>conv=>whnf)|exact True.intro|(intro;conv=>whnf)
    · exfalso; omega
    · exfalso; omega
    · exfalso; omega
    · have hall : l.take i = l := List.take_of_length_le (by omega)
      rw [hall] at h
      have e : ffM s l = none := by unfold ffM; rw [if_pos (by simpa using (by assumption : storeM s = true ∧ areNewsM l s.clock = true)), if_neg (by omega)]
      exact leafV hK (by rw [e]; simp only [optSD, stD, Option.getD_some, Option.getD_none, Option.isSome_some, Option.isSome_none, etas]; rfl)
    · have hall : l.take i = l := List.take_of_length_le (by omega)
      rw [hall] at h
      have e : ffM s l = some (followM s l) := by unfold ffM; rw [if_pos (by simpa using (by assumption : storeM s = true ∧ areNewsM l s.clock = true)), if_pos (by omega)]
      exact leafV hK (by rw [e, hall]; simp only [optSD, stD, Option.getD_some, Option.getD_none, Option.isSome_some, Option.isSome_none, etas]; rfl)
theorem s10d : (CtrOK Try.prog 10 (.gen .ow C10d) ∧ Callable Try.prog 10) := by
  refine gen_okD (E := E10d) (mkE_cons s30 (mkE_cons s31 (mkE_cons s32d (mkE_cons s33d (mkE_cons s34d (mkE_cons s35 (mkE_cons s36d (mkE_nil tab_ok)))))))) mix (O := O10d) (D := D10d) (own := .ow) Try.func10 rfl (by rfl) (by kernel_rfl) (fun args K h hbd => ?_)
  unfold D10d at h; split at h
  case h_2 => exact h.elim
  exact ⟨Nat.le_of_ble_eq_true rfl, a10d ⟨_, _⟩ _ (by exact hbd) _ h⟩
noncomputable def c19d (l : List Chg) (v : Int) (K : AV → List AV → Prop) : Prop :=
    K (.dp .nws (sinceV l v)) []
noncomputable def D19d : List AV → (AV → List AV → Prop) → Prop
  | [.ps .chg l, .int .i64 v], K => c19d l v K
  | _, _ => False
noncomputable def C19d (args : List AV) (K : AV → List AV → Prop) : Prop := D19d (fixAs args) K
noncomputable def E19d : Ctx := mkE tab [(34, .gen .ow C34d), (50, .gen .ps C50)]
noncomputable def O19d : Nat → List DI := ordL [(16, [.q 0, .q 1, .q 2, .q 3, .q 4, .q 5, .q 6, .q 8, .q 9, .l 7 [2, 4], .q 10, .l 11 [], .l 12 [], .q 13])]
theorem a19d (l : List Chg) (v : Int) (hb : BdAs [.ps .chg l, .int .i64 v]) (K : AV → List AV → Prop) (h : c19d l v K) : abodyD E19d O19d .ow Try.f19 (Try.f19.body.getD .skip) [.ps .chg l, .int .i64 v] (fun r rs => K (fixR r) (fixAs rs)) := by
  simp only [BdAs, BdA, BdL, BdC, MX, ndC, shC, itC, stC, opC, chC, nwC, flC, rqC, rsC, enc, List.cons_append, List.nil_append, and_true, true_and] at hb
  unfold c19d at h
  have hK := h
  conv => whnf
  repeat' first|(refine Cnd.mk (fun h=>?_) (fun h=>?_)<;>(try simp [etas,elDef,-List.getD_eq_getElem?_getD] at h)<;>conv=>whnf)|(refine Obl.mk (by first|omega|rfl|exact inK_byte _|(simp only [inK,Int.toNat_natCast,etas,elDef,m34d]<;>first|omega|grind)|grind [inK,m34d]) ?_<;>conv=>whnf)|(refine OblG.mk (by ((conv=>whnf);(repeat (first|(refine Bx.mk ?_)|(intro h;(try simp [etas,elDef,-List.getD_eq_getElem?_getD] at h);conv=>whnf)));(first|omega|rfl|exact inK_byte _|(simp only [inK,Int.toNat_natCast,etas,elDef,m34d]<;>first|omega|grind)|grind [inK,m34d]))) ?_<;>conv=>whnf)|(refine Gd.mk (fun h=>?_)<;>(try simp [etas,elDef,-List.getD_eq_getElem?_getD] at h)<;>conv=>whnf)|(refine And.intro ?_ ?_<;>conv=>whnf)|exact True.intro|(intro;conv=>whnf)
  · have e : sinceV l v = [] := by grind [sinceV]
    exact leafV hK (by rw [e]; rfl)
  have hlog : (logM l).isSome = true ∧ 0 ≤ v ∧ v ≤ l.length := ⟨h.1.1, h.1.2, h.2⟩
  have e : sinceV l v = sinceF l v.toNat l.length := by unfold sinceV; rw [if_pos hlog]
  rw [e] at hK
  have h20 := log_len hlog.1
  refine aloop_intro Nat (fun k => k ≤ l.length ∧ True) (fun k => l.length - k) (fun k => [(33, .int .i64 k)]) (fun k => [(30, .mp (mh l k))]) [] 0 [] [] ?_ ?_ (by exact sgOk_of (by rfl)) ?_
  · first | (simp; done) | (simp; assumption)
  · iterate 2 ((all_goals (conv=>whnf));(repeat' (first|exact trivial|rfl|(refine nilEq ?_;first|rfl|(simp only [*];done)|(simp [*];done)|grind)|apply And.intro|((first|refine intEq ?_|refine boolEq ?_|refine strEq ?_|refine psEq ?_|refine nilEq ?_|refine arrEq ?_);(try simp only [Int.toNat_natCast,etas,elDef]);first | done | omega | grind | (simp only [*]; done) | (simp [*]; done)))));(all_goals ((try simp only [Int.toNat_natCast,etas,elDef]);first | done | omega | grind | (simp only [*]; done) | (simp [*]; done)))
  rintro i ⟨hi, hj⟩
  conv => whnf
  have hml := mh_len l i
  repeat' first|(refine Cnd.mk (fun h=>?_) (fun h=>?_)<;>(try simp [etas,elDef,-List.getD_eq_getElem?_getD] at h)<;>conv=>whnf)|(refine Obl.mk (by first|omega|rfl|exact inK_byte _|(simp only [inK,Int.toNat_natCast,etas,elDef,m34d]<;>first|omega|grind)|grind [inK,m34d]) ?_<;>conv=>whnf)|(refine OblG.mk (by ((conv=>whnf);(repeat (first|(refine Bx.mk ?_)|(intro h;(try simp [etas,elDef,-List.getD_eq_getElem?_getD] at h);conv=>whnf)));(first|omega|rfl|exact inK_byte _|(simp only [inK,Int.toNat_natCast,etas,elDef,m34d]<;>first|omega|grind)|grind [inK,m34d]))) ?_<;>conv=>whnf)|(refine Gd.mk (fun h=>?_)<;>(try simp [etas,elDef,-List.getD_eq_getElem?_getD] at h)<;>conv=>whnf)|(refine And.intro ?_ ?_<;>conv=>whnf)|exact True.intro|(intro;conv=>whnf)
  · exact ⟨i + 1, [], [], ⟨by omega, by grind⟩, by omega, by iterate 2 ((all_goals (conv=>whnf));(repeat' (first|exact trivial|rfl|(refine nilEq ?_;first|rfl|(simp only [*];done)|(simp [*];done)|grind)|apply And.intro|((first|refine intEq ?_|refine boolEq ?_|refine strEq ?_|refine psEq ?_|refine nilEq ?_|refine arrEq ?_);(try simp only [Int.toNat_natCast,etas,elDef]);first | done | omega | grind | (simp only [*]; done) | (simp [*]; done)))));(all_goals ((try simp only [Int.toNat_natCast,etas,elDef]);first | done | omega | grind | (simp only [*]; done) | (simp [*]; done))), (by exact sgOk_of (by rfl))⟩
  have ei : i = l.length := by omega
  subst ei
  refine aloop_intro (Nat × List Nws) (fun q => v.toNat ≤ q.1 ∧ q.1 ≤ l.length ∧ q.2 = sinceF l v.toNat q.1) (fun q => l.length - q.1) (fun q => [(11, .int .i64 q.1), (10, nlV .nws q.2)]) (fun q => nlT .nws q.2) [30] (v.toNat, []) [] [] ?_ ?_ (by exact sgOk_of (by rfl)) ?_
  · exact ⟨Nat.le_refl _, by simp only; omega, (sinceF_zero l v.toNat).symm⟩
  · iterate 2 ((all_goals (conv=>whnf));(repeat' (first|exact trivial|rfl|(refine nilEq ?_;first|rfl|(simp only [*];done)|(simp [*];done)|grind)|apply And.intro|((first|refine intEq ?_|refine boolEq ?_|refine strEq ?_|refine psEq ?_|refine nilEq ?_|refine arrEq ?_);(try simp only [Int.toNat_natCast,etas,elDef]);first | done | omega | grind | (simp only [*]; done) | (simp [*]; done)))));(all_goals ((try simp only [Int.toNat_natCast,etas,elDef]);first | done | omega | grind | (simp only [*]; done) | (simp [*]; done)))
  rintro ⟨i, _ | ⟨a, r⟩⟩ ⟨hi1, hi2, hj⟩
  · dsimp only at hi1 hi2 hj
    have hsu := sinceF_succ (l := l) (v := v.toNat) (k := i) hi1
    have hsm := fun h => log_node hlog.1 (i := i) h
    have hla := fun h => mh_last (l := l) (i := i) h
    rcases Nat.lt_or_ge i l.length with hil | hil
    · have hsm := hsm hil
      have hla := hla hil
      conv => whnf
      repeat' first|(refine Cnd.mk (fun h=>?_) (fun h=>?_)<;>(try simp [etas,elDef,-List.getD_eq_getElem?_getD] at h)<;>conv=>whnf)|(refine Obl.mk (by first|omega|rfl|exact inK_byte _|(simp only [inK,Int.toNat_natCast,etas,elDef,m34d]<;>first|omega|grind)|grind [inK,m34d]) ?_<;>conv=>whnf)|(refine OblG.mk (by ((conv=>whnf);(repeat (first|(refine Bx.mk ?_)|(intro h;(try simp [etas,elDef,-List.getD_eq_getElem?_getD] at h);conv=>whnf)));(first|omega|rfl|exact inK_byte _|(simp only [inK,Int.toNat_natCast,etas,elDef,m34d]<;>first|omega|grind)|grind [inK,m34d]))) ?_<;>conv=>whnf)|(refine Gd.mk (fun h=>?_)<;>(try simp [etas,elDef,-List.getD_eq_getElem?_getD] at h)<;>conv=>whnf)|(refine And.intro ?_ ?_<;>conv=>whnf)|exact True.intro|(intro;conv=>whnf)
      · have hp := hla.1 (of_decide_eq_true h)
        exact ⟨(i + 1, [nwAt l i]), [(900, 72)], [], ⟨by simp only; omega, by simp only; omega, by simp only; rw [hsu, if_pos hp, ← hj] <;> rfl⟩, by simp only; omega, by iterate 2 ((all_goals (conv=>whnf));(repeat' (first|exact trivial|rfl|(refine nilEq ?_;first|rfl|(simp only [*];done)|(simp [*];done)|grind)|apply And.intro|((first|refine intEq ?_|refine boolEq ?_|refine strEq ?_|refine psEq ?_|refine nilEq ?_|refine arrEq ?_);(try simp only [Int.toNat_natCast,etas,elDef]);first | done | omega | (simp [nwAt, nd_eta, elDef]; done) | grind))));(all_goals ((try simp only [Int.toNat_natCast,etas,elDef]);first | done | omega | (simp [nwAt, nd_eta, elDef]; done) | grind)), (by exact sgOk_of (by rfl))⟩
      · have hp : lastM l i = false := by rw [Bool.eq_false_iff]; exact fun e => of_decide_eq_false h (hla.2 e)
        exact ⟨(i + 1, []), [], [], ⟨by simp only; omega, by simp only; omega, by simp only; rw [hsu, if_neg (by rw [hp]; simp), ← hj]; simp⟩, by simp only; omega, by iterate 2 ((all_goals (conv=>whnf));(repeat' (first|exact trivial|rfl|(refine nilEq ?_;first|rfl|(simp only [*];done)|(simp [*];done)|grind)|apply And.intro|((first|refine intEq ?_|refine boolEq ?_|refine strEq ?_|refine psEq ?_|refine nilEq ?_|refine arrEq ?_);(try simp only [Int.toNat_natCast,etas,elDef]);first | done | omega | grind | (simp only [*]; done) | (simp [*]; done)))));(all_goals ((try simp only [Int.toNat_natCast,etas,elDef]);first | done | omega | grind | (simp only [*]; done) | (simp [*]; done))), (by exact sgOk_of (by rfl))⟩
      · exfalso; omega
    · conv => whnf
      repeat' first|(refine Cnd.mk (fun h=>?_) (fun h=>?_)<;>(try simp [etas,elDef,-List.getD_eq_getElem?_getD] at h)<;>conv=>whnf)|(refine Obl.mk (by first|omega|rfl|exact inK_byte _|(simp only [inK,Int.toNat_natCast,etas,elDef,m34d]<;>first|omega|grind)|grind [inK,m34d]) ?_<;>conv=>whnf)|(refine OblG.mk (by ((conv=>whnf);(repeat (first|(refine Bx.mk ?_)|(intro h;(try simp [etas,elDef,-List.getD_eq_getElem?_getD] at h);conv=>whnf)));(first|omega|rfl|exact inK_byte _|(simp only [inK,Int.toNat_natCast,etas,elDef,m34d]<;>first|omega|grind)|grind [inK,m34d]))) ?_<;>conv=>whnf)|(refine Gd.mk (fun h=>?_)<;>(try simp [etas,elDef,-List.getD_eq_getElem?_getD] at h)<;>conv=>whnf)|(refine And.intro ?_ ?_<;>conv=>whnf)|exact True.intro|(intro;conv=>whnf)
      all_goals first | (exfalso; omega) | skip
      have ei2 : i = l.length := by omega
      exact leafV hK (by rw [ei2] at hj; rw [← hj]; rfl)
  · dsimp only at hi1 hi2 hj
    have hsu := sinceF_succ (l := l) (v := v.toNat) (k := i) hi1
    have hsm := fun h => log_node hlog.1 (i := i) h
    have hla := fun h => mh_last (l := l) (i := i) h
    have hsl := sinceF_len l v.toNat i
    rw [← hj] at hsl
    have hl2 : (a :: r).length + [nwAt l i].length ≤ 1073741824 := by simp at hsl ⊢; omega
    rcases Nat.lt_or_ge i l.length with hil | hil
    · have hsm := hsm hil
      have hla := hla hil
      conv => whnf
      repeat' first|(refine Cnd.mk (fun h=>?_) (fun h=>?_)<;>(try simp [etas,elDef,-List.getD_eq_getElem?_getD] at h)<;>conv=>whnf)|(refine Obl.mk (by first|omega|rfl|exact inK_byte _|(simp only [inK,Int.toNat_natCast,etas,elDef,m34d]<;>first|omega|grind)|grind [inK,m34d]) ?_<;>conv=>whnf)|(refine OblG.mk (by ((conv=>whnf);(repeat (first|(refine Bx.mk ?_)|(intro h;(try simp [etas,elDef,-List.getD_eq_getElem?_getD] at h);conv=>whnf)));(first|omega|rfl|exact inK_byte _|(simp only [inK,Int.toNat_natCast,etas,elDef,m34d]<;>first|omega|grind)|grind [inK,m34d]))) ?_<;>conv=>whnf)|(refine Gd.mk (fun h=>?_)<;>(try simp [etas,elDef,-List.getD_eq_getElem?_getD] at h)<;>conv=>whnf)|(refine And.intro ?_ ?_<;>conv=>whnf)|exact True.intro|(intro;conv=>whnf)
      · have hp := hla.1 (of_decide_eq_true h)
        exact ⟨(i + 1, a :: r ++ [nwAt l i]), [(900, 72)], [], ⟨by simp only; omega, by simp only; omega, by simp only; rw [hsu, if_pos hp, ← hj] <;> rfl⟩, by simp only; omega, by iterate 2 ((all_goals (conv=>whnf));(repeat' (first|exact trivial|rfl|(refine nilEq ?_;first|rfl|(simp only [*];done)|(simp [*];done)|grind)|apply And.intro|((first|refine intEq ?_|refine boolEq ?_|refine strEq ?_|refine psEq ?_|refine nilEq ?_|refine arrEq ?_);(try simp only [Int.toNat_natCast,etas,elDef]);first | done | omega | (simp [nwAt, nd_eta, elDef]; done) | grind))));(all_goals ((try simp only [Int.toNat_natCast,etas,elDef]);first | done | omega | (simp [nwAt, nd_eta, elDef]; done) | grind)), (by exact sgOk_of (by rfl))⟩
      · have hp : lastM l i = false := by rw [Bool.eq_false_iff]; exact fun e => of_decide_eq_false h (hla.2 e)
        exact ⟨(i + 1, a :: r), [], [], ⟨by simp only; omega, by simp only; omega, by simp only; rw [hsu, if_neg (by rw [hp]; simp), ← hj]; simp⟩, by simp only; omega, by iterate 2 ((all_goals (conv=>whnf));(repeat' (first|exact trivial|rfl|(refine nilEq ?_;first|rfl|(simp only [*];done)|(simp [*];done)|grind)|apply And.intro|((first|refine intEq ?_|refine boolEq ?_|refine strEq ?_|refine psEq ?_|refine nilEq ?_|refine arrEq ?_);(try simp only [Int.toNat_natCast,etas,elDef]);first | done | omega | grind | (simp only [*]; done) | (simp [*]; done)))));(all_goals ((try simp only [Int.toNat_natCast,etas,elDef]);first | done | omega | grind | (simp only [*]; done) | (simp [*]; done))), (by exact sgOk_of (by rfl))⟩
      · exfalso; omega
    · conv => whnf
      repeat' first|(refine Cnd.mk (fun h=>?_) (fun h=>?_)<;>(try simp [etas,elDef,-List.getD_eq_getElem?_getD] at h)<;>conv=>whnf)|(refine Obl.mk (by first|omega|rfl|exact inK_byte _|(simp only [inK,Int.toNat_natCast,etas,elDef,m34d]<;>first|omega|grind)|grind [inK,m34d]) ?_<;>conv=>whnf)|(refine OblG.mk (by ((conv=>whnf);(repeat (first|(refine Bx.mk ?_)|(intro h;(try simp [etas,elDef,-List.getD_eq_getElem?_getD] at h);conv=>whnf)));(first|omega|rfl|exact inK_byte _|(simp only [inK,Int.toNat_natCast,etas,elDef,m34d]<;>first|omega|grind)|grind [inK,m34d]))) ?_<;>conv=>whnf)|(refine Gd.mk (fun h=>?_)<;>(try simp [etas,elDef,-List.getD_eq_getElem?_getD] at h)<;>conv=>whnf)|(refine And.intro ?_ ?_<;>conv=>whnf)|exact True.intro|(intro;conv=>whnf)
      all_goals first | (exfalso; omega) | skip
      have ei2 : i = l.length := by omega
      exact leafV hK (by rw [ei2] at hj; rw [← hj]; rfl)
theorem s19d : (CtrOK Try.prog 19 (.gen .ow C19d) ∧ Callable Try.prog 19) := by
  refine gen_okD (E := E19d) (mkE_cons s34d (mkE_cons s50 (mkE_nil tab_ok))) mix (O := O19d) (D := D19d) (own := .ow) Try.func19 rfl (by rfl) (by kernel_rfl) (fun args K h hbd => ?_)
  unfold D19d at h; split at h
  case h_2 => exact h.elim
  exact ⟨Nat.le_of_ble_eq_true rfl, a19d _ _ (by exact hbd) _ h⟩
noncomputable def c17p (l : List Chg) (v : Int) (K : AV → List AV → Prop) : Prop :=
    K (.ps .nws (sinceV l v)) []
noncomputable def C17p : List AV → (AV → List AV → Prop) → Prop
  | [.ps .chg l, .int .i64 v], K => c17p l v K
  | _, _ => False
noncomputable def E17p : Ctx := mkE tab [(45, .gen .ps C45), (46, .pure F46), (47, .pure F47), (48, .gen .ps C48)]
noncomputable def O17p : Nat → List DI := ordL [(8, [.q 0, .q 1, .q 2, .q 3, .q 4, .q 5, .q 6, .q 7, .q 8, .q 9, .q 10, .q 11, .q 12, .q 13, .q 14, .q 15, .q 17, .q 18, .l 16 [3, 5, 8, 10], .q 19, .l 20 [], .l 21 [], .q 22])]
theorem a17p (l : List Chg) (v : Int) (hb : BdAs [.ps .chg l, .int .i64 v]) (K : AV → List AV → Prop) (h : c17p l v K) : abody E17p O17p .ps Try.f17 (Try.f17.body.getD .skip) [.ps .chg l, .int .i64 v] K := by
  simp only [BdAs, BdA, BdL, BdC, MX, ndC, shC, itC, stC, opC, chC, nwC, flC, rqC, rsC, enc, List.cons_append, List.nil_append, and_true, true_and] at hb
  unfold c17p at h
  have hK := h
  conv => whnf
  repeat' first|(refine Cnd.mk (fun h=>?_) (fun h=>?_)<;>(try simp [etas,elDef,-List.getD_eq_getElem?_getD] at h)<;>conv=>whnf)|(refine Obl.mk (by first|omega|rfl|exact inK_byte _|(simp only [inK,Int.toNat_natCast,etas,elDef,o47,m48]<;>first|omega|grind)|grind [inK,o47,m48]) ?_<;>conv=>whnf)|(refine OblG.mk (by ((conv=>whnf);(repeat (first|(refine Bx.mk ?_)|(intro h;(try simp [etas,elDef,-List.getD_eq_getElem?_getD] at h);conv=>whnf)));(first|omega|rfl|exact inK_byte _|(simp only [inK,Int.toNat_natCast,etas,elDef,o47,m48]<;>first|omega|grind)|grind [inK,o47,m48]))) ?_<;>conv=>whnf)|(refine Gd.mk (fun h=>?_)<;>(try simp [etas,elDef,-List.getD_eq_getElem?_getD] at h)<;>conv=>whnf)|(refine And.intro ?_ ?_<;>conv=>whnf)|exact True.intro|(intro;conv=>whnf)
  · have e : sinceV l v = [] := by grind [sinceV]
    exact leafV hK (by rw [e])
  have hlog : (logM l).isSome = true ∧ 0 ≤ v ∧ v ≤ l.length := by grind
  have e : sinceV l v = sinceF l v.toNat l.length := by unfold sinceV; rw [if_pos hlog]
  rw [e] at hK
  have h20 := log_len hlog.1
  refine aloop_intro Nat (fun k => v.toNat ≤ k ∧ k ≤ l.length) (fun k => l.length - k) (fun k => [(6, .int .i64 k), (5, .ls 900)]) (fun k => [(900, .arr .nws (sinceF l v.toNat k))]) [] v.toNat [(900, 7)] [] (by omega) ?_ (by exact sgOk_of (by rfl)) ?_
  · iterate 2 ((all_goals (conv=>whnf));(repeat' (first|exact trivial|rfl|(refine nilEq ?_;first|rfl|(simp only [*];done)|(simp [*];done)|grind)|apply And.intro|((first|refine intEq ?_|refine boolEq ?_|refine strEq ?_|refine psEq ?_|refine nilEq ?_|refine arrEq ?_);(try simp only [Int.toNat_natCast,etas,elDef]);first | done | omega | (rw [sinceF_zero]) | grind))));(all_goals ((try simp only [Int.toNat_natCast,etas,elDef]);first | done | omega | (rw [sinceF_zero]) | grind))
  rintro i ⟨hi1, hi2⟩
  have hsu := sinceF_succ (l := l) (v := v.toNat) (k := i) hi1
  have hsl := sinceF_len l v.toNat i
  have hsl2 : (sinceF l v.toNat i).length ≤ 20 := by omega
  have hsm := fun h => log_node hlog.1 (i := i) h
  have hl1 : (sinceF l v.toNat i).length + [nwAt l i].length ≤ 1073741824 := by simp; omega
  rcases Nat.lt_or_ge i l.length with hil | hil
  · have hsm := hsm hil
    conv => whnf
    repeat' first|(refine Cnd.mk (fun h=>?_) (fun h=>?_)<;>(try simp [etas,elDef,-List.getD_eq_getElem?_getD] at h)<;>conv=>whnf)|(refine Obl.mk (by first|omega|rfl|exact inK_byte _|(simp only [inK,Int.toNat_natCast,etas,elDef,o47,m48]<;>first|omega|grind)|grind [inK,o47,m48]) ?_<;>conv=>whnf)|(refine OblG.mk (by ((conv=>whnf);(repeat (first|(refine Bx.mk ?_)|(intro h;(try simp [etas,elDef,-List.getD_eq_getElem?_getD] at h);conv=>whnf)));(first|omega|rfl|exact inK_byte _|(simp only [inK,Int.toNat_natCast,etas,elDef,o47,m48]<;>first|omega|grind)|grind [inK,o47,m48]))) ?_<;>conv=>whnf)|(refine Gd.mk (fun h=>?_)<;>(try simp [etas,elDef,-List.getD_eq_getElem?_getD] at h)<;>conv=>whnf)|(refine And.intro ?_ ?_<;>conv=>whnf)|exact True.intro|(intro;conv=>whnf)
    · have e2 : sinceF l v.toNat (i + 1) = sinceF l v.toNat i ++ [nwAt l i] := by rw [hsu, if_pos h]
      exact ⟨i + 1, [(900, 49)], [], ⟨by omega, by omega⟩, by omega, by iterate 2 ((all_goals (conv=>whnf));(repeat' (first|exact trivial|rfl|(refine nilEq ?_;first|rfl|(simp only [*];done)|(simp [*];done)|grind)|apply And.intro|((first|refine intEq ?_|refine boolEq ?_|refine strEq ?_|refine psEq ?_|refine nilEq ?_|refine arrEq ?_);(try simp only [Int.toNat_natCast,etas,elDef]);first | omega | (rw [e2]; rfl) | exact e2.symm))));(all_goals ((try simp only [Int.toNat_natCast,etas,elDef]);first | omega | (rw [e2]; rfl) | exact e2.symm)), (by exact sgOk_of (by rfl))⟩
    · have e2 : sinceF l v.toNat (i + 1) = sinceF l v.toNat i := by rw [hsu, if_neg (by rw [h]; simp), List.append_nil]
      exact ⟨i + 1, [], [], ⟨by omega, by omega⟩, by omega, by iterate 2 ((all_goals (conv=>whnf));(repeat' (first|exact trivial|rfl|(refine nilEq ?_;first|rfl|(simp only [*];done)|(simp [*];done)|grind)|apply And.intro|((first|refine intEq ?_|refine boolEq ?_|refine strEq ?_|refine psEq ?_|refine nilEq ?_|refine arrEq ?_);(try simp only [Int.toNat_natCast,etas,elDef]);first | omega | exact e2.symm))));(all_goals ((try simp only [Int.toNat_natCast,etas,elDef]);first | omega | exact e2.symm)), (by exact sgOk_of (by rfl))⟩
    · exfalso; omega
  · conv => whnf
    repeat' first|(refine Cnd.mk (fun h=>?_) (fun h=>?_)<;>(try simp [etas,elDef,-List.getD_eq_getElem?_getD] at h)<;>conv=>whnf)|(refine Obl.mk (by first|omega|rfl|exact inK_byte _|(simp only [inK,Int.toNat_natCast,etas,elDef,o47,m48]<;>first|omega|grind)|grind [inK,o47,m48]) ?_<;>conv=>whnf)|(refine OblG.mk (by ((conv=>whnf);(repeat (first|(refine Bx.mk ?_)|(intro h;(try simp [etas,elDef,-List.getD_eq_getElem?_getD] at h);conv=>whnf)));(first|omega|rfl|exact inK_byte _|(simp only [inK,Int.toNat_natCast,etas,elDef,o47,m48]<;>first|omega|grind)|grind [inK,o47,m48]))) ?_<;>conv=>whnf)|(refine Gd.mk (fun h=>?_)<;>(try simp [etas,elDef,-List.getD_eq_getElem?_getD] at h)<;>conv=>whnf)|(refine And.intro ?_ ?_<;>conv=>whnf)|exact True.intro|(intro;conv=>whnf)
    all_goals first | (exfalso; omega) | skip
    have ei : i = l.length := by omega
    exact leafV hK (by rw [ei])
theorem s17p : (CtrOK Try.prog 17 (.gen .ps C17p) ∧ Callable Try.prog 17) := by
  refine gen_ok (E := E17p) (mkE_cons s45 (mkE_cons s46 (mkE_cons s47 (mkE_cons s48 (mkE_nil tab_ok))))) mix (O := O17p) (C := C17p) (own := .ps) Try.func17 rfl (by rfl) (by kernel_rfl) (fun args K h hbd => ?_)
  unfold C17p at h; split at h
  case h_2 => exact h.elim
  exact ⟨Nat.le_of_ble_eq_true rfl, a17p _ _ (by exact hbd) _ h⟩
noncomputable def c10r (l : List It) (c : Int) (q : List Nws) (K : AV → List AV → Prop) : Prop :=
    K (optSW (ffM ⟨l, c⟩ q)) [.wr .item l, .wr .nws q]
noncomputable def C10r : List AV → (AV → List AV → Prop) → Prop
  | [.tup [.st [.wr .item l, .int .i64 c]], .tup [.wr .nws q]], K => c10r l c q K
  | _, _ => False
theorem s10r : CtrOK Try.prog 10 (.gen .ln C10r) ∧ Callable Try.prog 10 := by
  refine ⟨Snd.of (Snd.lend s10d.1) fun vs K h => ?_, s10d.2⟩
  unfold C10r at h
  split at h
  case h_2 => exact h.elim
  unfold c10r at h
  exact ⟨rfl, rfl, rfl, h⟩
noncomputable def c19r (l : List Chg) (v : Int) (K : AV → List AV → Prop) : Prop :=
    K (.wr .nws (sinceV l v)) [.wr .chg l]
noncomputable def C19r : List AV → (AV → List AV → Prop) → Prop
  | [.tup [.wr .chg l], .int .i64 v], K => c19r l v K
  | _, _ => False
theorem s19r : CtrOK Try.prog 19 (.gen .ln C19r) ∧ Callable Try.prog 19 := by
  refine ⟨Snd.of (Snd.lend s19d.1) fun vs K h => ?_, s19d.2⟩
  unfold C19r at h
  split at h
  case h_2 => exact h.elim
  unfold c19r at h
  exact ⟨rfl, rfl, rfl, h⟩
noncomputable def v22 (l : List Nws) (m : Int) : AV := .int .i64 (heWs l m)
noncomputable def o22 (l : List Nws) (m : Int) : Prop := 0 ≤ m ∧ m + totWs l ≤ 4611686018427387904
noncomputable def F22 : List AV → QR
  | [.ps .nws l, .int .i64 m] => some (some (o22 l m), v22 l m)
  | _ => none
noncomputable def E22 : Ctx := mkE tab [(40, .pure F40), (52, .pure F52), (53, .pure F53)]
noncomputable def O22 : Nat → List DI := ordL [(4, [.q 0, .q 1, .q 2, .q 3, .q 4, .q 5, .q 6, .q 7]), (16, [.q 0, .q 1, .q 2, .q 3, .q 4, .q 5, .q 6, .q 7, .q 8])]
theorem a22 (l : List Nws) (m : Int) (hb : BdAs [.ps .nws l, .int .i64 m]) (ho : o22 l m) (K : AV → List AV → Prop) (hK : K (v22 l m) []) : abody E22 O22 .ps Try.f22 (Try.f22.body.getD .skip) [.ps .nws l, .int .i64 m] K := by
  simp only [BdAs, BdA, BdL, BdC, MX, ndC, shC, itC, stC, opC, chC, nwC, flC, rqC, rsC, enc, List.cons_append, List.nil_append, and_true, true_and] at hb
  unfold o22 at ho
  unfold v22 at hK
  conv => whnf
  repeat' first|(refine Cnd.mk (fun h=>?_) (fun h=>?_)<;>(try simp [etas,elDef,-List.getD_eq_getElem?_getD] at h)<;>conv=>whnf)|(refine Obl.mk (by first|omega|rfl|exact inK_byte _|(simp only [inK,Int.toNat_natCast,etas,elDef,o40,o52,o53,m53]<;>first|omega|grind)|grind [inK,o40,o52,o53,m53]) ?_<;>conv=>whnf)|(refine OblG.mk (by ((conv=>whnf);(repeat (first|(refine Bx.mk ?_)|(intro h;(try simp [etas,elDef,-List.getD_eq_getElem?_getD] at h);conv=>whnf)));(first|omega|rfl|exact inK_byte _|(simp only [inK,Int.toNat_natCast,etas,elDef,o40,o52,o53,m53]<;>first|omega|grind)|grind [inK,o40,o52,o53,m53]))) ?_<;>conv=>whnf)|(refine Gd.mk (fun h=>?_)<;>(try simp [etas,elDef,-List.getD_eq_getElem?_getD] at h)<;>conv=>whnf)|(refine And.intro ?_ ?_<;>conv=>whnf)|exact True.intro|(intro;conv=>whnf)
  refine aloop_intro (Nat × Int) (fun ⟨i, q⟩ => i ≤ l.length ∧ 0 ≤ q ∧ q + totWs (l.drop i) = m + totWs l ∧ heWs (l.drop i) q = heWs l m) (fun ⟨i, q⟩ => l.length - i) (fun ⟨i, q⟩ => [(5, .int .i64 i), (1, .int .i64 q)]) (fun ⟨i, q⟩ => []) [] (0, m) [] [] ?_ ?_ (by exact sgOk_of (by rfl)) ?_
  · first | (simp; done) | (simp; assumption) | (simp only; grind)
  · iterate 2 ((all_goals (conv=>whnf));(repeat' (first|exact trivial|rfl|(refine nilEq ?_;first|rfl|(simp only [*];done)|(simp [*];done)|grind)|apply And.intro|((first|refine intEq ?_|refine boolEq ?_|refine strEq ?_|refine psEq ?_|refine nilEq ?_|refine arrEq ?_);(try simp only [Int.toNat_natCast,etas,elDef]);first | done | omega | grind | (simp only [*]; done) | (simp [*]; done)))));(all_goals ((try simp only [Int.toNat_natCast,etas,elDef]);first | done | omega | grind | (simp only [*]; done) | (simp [*]; done)))
  rintro ⟨i, q⟩ hinv
  dsimp only at hinv
  conv => whnf
  obtain ⟨hi, hq0, hq, he⟩ := hinv
  have hat := fun h => heWs_at1 (l := l) (i := i) h q
  have htt := fun h => totWs_at (l := l) (i := i) h
  have htn := totN_eq (l.getD i default).node
  have hen := heN_eq1 (l.getD i default).node (q + 1 + 1)
  have hs2 := heS_two (l.getD i default).node.names (q + 1 + 1 + 1 + 1 + 1)
  have hk2 := heNs_two (l.getD i default).node.kids (heS (l.getD i default).node.names (q + 1 + 1 + 1 + 1 + 1))
  repeat' first|(refine Cnd.mk (fun h=>?_) (fun h=>?_)<;>(try simp [etas,elDef,-List.getD_eq_getElem?_getD] at h)<;>conv=>whnf)|(refine Obl.mk (by first|omega|rfl|exact inK_byte _|(simp only [inK,Int.toNat_natCast,etas,elDef,o40,o52,o53,m53]<;>first|omega|grind)|grind [inK,o40,o52,o53,m53]) ?_<;>conv=>whnf)|(refine OblG.mk (by ((conv=>whnf);(repeat (first|(refine Bx.mk ?_)|(intro h;(try simp [etas,elDef,-List.getD_eq_getElem?_getD] at h);conv=>whnf)));(first|omega|rfl|exact inK_byte _|(simp only [inK,Int.toNat_natCast,etas,elDef,o40,o52,o53,m53]<;>first|omega|grind)|grind [inK,o40,o52,o53,m53]))) ?_<;>conv=>whnf)|(refine Gd.mk (fun h=>?_)<;>(try simp [etas,elDef,-List.getD_eq_getElem?_getD] at h)<;>conv=>whnf)|(refine And.intro ?_ ?_<;>conv=>whnf)|exact True.intro|(intro;conv=>whnf)
  · have e : heWs l m = -1 := by
      rw [← he, hat ‹_›]; exact he_neg4 (.inl (of_decide_eq_false h))
    rw [e] at hK; exact hK
  · have e : heWs l m = -1 := by
      rw [← he, hat ‹_›]; exact he_neg4 (.inr (.inl h))
    rw [e] at hK; exact hK
  · have e : heWs l m = -1 := by
      rw [← he, hat ‹_›, hen]; exact he_neg4 (.inr (.inr (.inl (he_neg1 (.inl (of_decide_eq_false h))))))
    rw [e] at hK; exact hK
  · have e : heWs l m = -1 := by
      rw [← he, hat ‹_›, hen]; exact he_neg4 (.inr (.inr (.inl (he_neg1 (.inr (.inl (of_decide_eq_false h)))))))
    rw [e] at hK; exact hK
  · have e : heWs l m = -1 := by
      rw [← he, hat ‹_›, hen]; exact he_neg4 (.inr (.inr (.inl (he_neg1 (.inr (.inr (.inl (of_decide_eq_false h))))))))
    rw [e] at hK; exact hK
  · have e : heWs l m = -1 := by
      rw [← he, hat ‹_›, hen]; exact he_neg4 (.inr (.inr (.inl (he_neg1 (.inr (.inr (.inr (.inl (of_decide_eq_true h)))))))))
    rw [e] at hK; exact hK
  · have e : heWs l m = -1 := by
      rw [← he, hat ‹_›, hen]; exact he_neg4 (.inr (.inr (.inl (he_neg1 (.inr (.inr (.inr (.inr (of_decide_eq_true h)))))))))
    rw [e] at hK; exact hK
  · rename_i h0 g1 g2 h1 h2 h3 h4 h5
    rw [he_pos (of_decide_eq_true h1) (of_decide_eq_true h2) (of_decide_eq_true h3) (of_decide_eq_false h4)] at hen
    have e : heWs l m = -1 := by
      rw [← he, hat h0, hen]; exact he_neg4 (.inr (.inr (.inr (of_decide_eq_false h))))
    rw [e] at hK; exact hK
  · rename_i h0 g1 g2 h1 h2 h3 h4 h5
    rw [he_pos (of_decide_eq_true h1) (of_decide_eq_true h2) (of_decide_eq_true h3) (of_decide_eq_false h4)] at hen
    rw [hat h0, hen, he_pos4 (of_decide_eq_true g1) g2 (of_decide_eq_false h5) (of_decide_eq_true h)] at he
    have htt' := htt h0
    have g3 := of_decide_eq_false h4
    have g4 := of_decide_eq_false h5
    exact ⟨(i + 1, heNs (l.getD i default).node.kids (heS (l.getD i default).node.names (q + 1 + 1 + 1 + 1 + 1)) + 1), [], [], ⟨by omega, by omega, by omega, he⟩, by simp only; omega, by iterate 2 ((all_goals (conv=>whnf));(repeat' (first|exact trivial|rfl|(refine nilEq ?_;first|rfl|(simp only [*];done)|(simp [*];done)|grind)|apply And.intro|((first|refine intEq ?_|refine boolEq ?_|refine strEq ?_|refine psEq ?_|refine nilEq ?_|refine arrEq ?_);(try simp only [Int.toNat_natCast,etas,elDef]);first | done | omega | grind | (simp only [*]; done) | (simp [*]; done)))));(all_goals ((try simp only [Int.toNat_natCast,etas,elDef]);first | done | omega | grind | (simp only [*]; done) | (simp [*]; done))), (by exact sgOk_of (by rfl))⟩
  · rw [← he, List.drop_of_length_le h, heWs] at hK; exact hK
theorem s22 : (CtrOK Try.prog 22 (.pure F22) ∧ Callable Try.prog 22) := by
  refine pure_ok (E := E22) (mkE_cons s40 (mkE_cons s52 (mkE_cons s53 (mkE_nil tab_ok)))) mix (O := O22) (F := F22) Try.func22 rfl (by rfl) (by kernel_rfl) (fun args o v h => ?_) (fun args o v h => ?_) (fun args o v h hbd hp K hK => ?_)
  · unfold F22 at h; split at h <;> cases h; first | trivial | (simp [v22, Scalar, Scalar2, Scalar1, stC, ndC, itC, chC, nwC])
  · unfold F22 at h; split at h <;> cases h; exact Nat.le_of_ble_eq_true rfl
  · unfold F22 at h; split at h
    case h_2 => cases h
    cases h
    exact a22 _ _ (by exact hbd) (hp _ rfl) K hK
end Go.Rs
end
