import Derived.Test.YtoailaifflbomaaER
import Derived.Test.YtoailaifflbomaaEP
import Derived.Test.YtoailaifflbomaaEL
import Derived.Test.YtoailaifflbomaaEF
set_option linter.all false
set_option linter.unusedSimpArgs false
set_option linter.unusedVariables false
namespace Go.Rs
open Go.Proofs Go.RowKit
set_option maxRecDepth 100000
noncomputable def c12o (l : List Chg) (b : Bs) (K : AV → List AV → Prop) : Prop :=
    K (.own .i64 (histV l b)) []
noncomputable def C12o : List AV → (AV → List AV → Prop) → Prop
  | [.ps .chg l, .str b], K => c12o l b K
  | _, _ => False
noncomputable def E12o : Ctx := mkE tab [(19, .gen .ps C19)]
noncomputable def O12o : Nat → List DI := ordL []
theorem a12o (l : List Chg) (b : Bs) (hb : BdAs [.ps .chg l, .str b]) (K : AV → List AV → Prop) (h : c12o l b K) : abody E12o O12o .ow Try.f12 (Try.f12.body.getD .skip) [.ps .chg l, .str b] K := by
  simp only [BdAs, BdA, BdL, BdC, MX, ndC, shC, itC, stC, opC, chC, nwC, flC, rqC, rsC, enc, List.cons_append, List.nil_append, and_true, true_and] at hb
  unfold c12o at h
  have hK := h
  conv => whnf
  repeat' first|((first|refine Cnd.mk (fun h=>?_) (fun h=>?_)|refine Gd.mk (fun h=>?_))<;>(try simp [etas,elDef,-List.getD_eq_getElem?_getD] at h)<;>conv=>whnf)|((first|refine Obl.mk (by first|omega|rfl|exact inK_byte _|(simp only [inK,Int.toNat_natCast,etas,elDef]<;>first|omega|grind)|grind [inK]) ?_|refine OblG.mk (by ((conv=>whnf);(repeat (first|refine Bx.mk ?_|(intro h;(try simp [etas,elDef,-List.getD_eq_getElem?_getD] at h);conv=>whnf)));(first|omega|rfl|exact inK_byte _|(simp only [inK,Int.toNat_natCast,etas,elDef]<;>first|omega|grind)|grind [inK]))) ?_|refine And.intro ?_ ?_)<;>conv=>whnf)|exact True.intro|(intro;conv=>whnf)
  · exact leafV hK (by simp [histV, h])
  have hlog : histV l b = histM l b 0 := by simp [histV, h]
  rw [hlog] at hK
  have h20 := log_len h
  refine aloop_intro (Nat × List Int) (fun p => p.1 ≤ l.length ∧ p.2 = histM (l.take p.1) b 0) (fun p => l.length - p.1) (fun p => [(19, .int .i64 p.1), (7, nlV .i64 p.2)]) (fun p => nlL .i64 p.2) [] (0, []) [] [] ?_ ?_ (by exact sgOk_of (by rfl)) ?_
  · simp [histM]
  · iterate 2 ((all_goals (conv=>whnf));(repeat' (first|exact trivial|rfl|(refine nilEq ?_;first|rfl|(simp only [*];done)|(simp [*];done)|grind)|apply And.intro|((first|apply intEq|apply boolEq|apply strEq|apply psEq|apply nilEq|apply arrEq);(try simp only [Int.toNat_natCast,etas,elDef]);first | done | omega | grind | (simp only [*]; done) | (simp [*]; done)))));(all_goals ((try simp only [Int.toNat_natCast,etas,elDef]);first | done | omega | grind | (simp only [*]; done) | (simp [*]; done)))
  rintro ⟨i, _ | ⟨a, r⟩⟩ ⟨hi, hj⟩
  · dsimp only at hi hj
    have htk := fun h => histM_take (l := l) (b := b) (i := i) h
    conv => whnf
    repeat' first|((first|refine Cnd.mk (fun h=>?_) (fun h=>?_)|refine Gd.mk (fun h=>?_))<;>(try simp [etas,elDef,-List.getD_eq_getElem?_getD] at h)<;>conv=>whnf)|((first|refine Obl.mk (by first|omega|rfl|exact inK_byte _|(simp only [inK,Int.toNat_natCast,etas,elDef]<;>first|omega|grind)|grind [inK]) ?_|refine OblG.mk (by ((conv=>whnf);(repeat (first|refine Bx.mk ?_|(intro h;(try simp [etas,elDef,-List.getD_eq_getElem?_getD] at h);conv=>whnf)));(first|omega|rfl|exact inK_byte _|(simp only [inK,Int.toNat_natCast,etas,elDef]<;>first|omega|grind)|grind [inK]))) ?_|refine And.intro ?_ ?_)<;>conv=>whnf)|exact True.intro|(intro;conv=>whnf)
    · exact ⟨(i + 1, [(i : Int) + 1]), [(900, 32)], [], ⟨by simp only; omega, by simp only; rw [htk (by omega), ← hj, if_pos (of_decide_eq_true h)]; rfl⟩, by simp only; omega, by iterate 2 ((all_goals (conv=>whnf));(repeat' (first|exact trivial|rfl|(refine nilEq ?_;first|rfl|(simp only [*];done)|(simp [*];done)|grind)|apply And.intro|((first|apply intEq|apply boolEq|apply strEq|apply psEq|apply nilEq|apply arrEq);(try simp only [Int.toNat_natCast,etas,elDef]);first | done | omega | grind | (simp only [*]; done) | (simp [*]; done)))));(all_goals ((try simp only [Int.toNat_natCast,etas,elDef]);first | done | omega | grind | (simp only [*]; done) | (simp [*]; done))), (by exact sgOk_of (by rfl))⟩
    · exact ⟨(i + 1, []), [], [], ⟨by simp only; omega, by simp only; rw [htk (by omega), ← hj, if_neg (of_decide_eq_false h)]; rfl⟩, by simp only; omega, by iterate 2 ((all_goals (conv=>whnf));(repeat' (first|exact trivial|rfl|(refine nilEq ?_;first|rfl|(simp only [*];done)|(simp [*];done)|grind)|apply And.intro|((first|apply intEq|apply boolEq|apply strEq|apply psEq|apply nilEq|apply arrEq);(try simp only [Int.toNat_natCast,etas,elDef]);first | done | omega | grind | (simp only [*]; done) | (simp [*]; done)))));(all_goals ((try simp only [Int.toNat_natCast,etas,elDef]);first | done | omega | grind | (simp only [*]; done) | (simp [*]; done))), (by exact sgOk_of (by rfl))⟩
    · exact leafV hK (by rw [hj, List.take_of_length_le (by omega)])
  · dsimp only at hi hj
    have htk := fun h => histM_take (l := l) (b := b) (i := i) h
    have hrl := histM_len l b i
    rw [← hj] at hrl
    simp only [List.length_cons] at hrl
    have hr2 : (a :: r).length + [(i : Int) + 1].length ≤ 1073741824 := by simp; omega
    conv => whnf
    repeat' first|((first|refine Cnd.mk (fun h=>?_) (fun h=>?_)|refine Gd.mk (fun h=>?_))<;>(try simp [etas,elDef,-List.getD_eq_getElem?_getD] at h)<;>conv=>whnf)|((first|refine Obl.mk (by first|omega|rfl|exact inK_byte _|(simp only [inK,Int.toNat_natCast,etas,elDef]<;>first|omega|grind)|grind [inK]) ?_|refine OblG.mk (by ((conv=>whnf);(repeat (first|refine Bx.mk ?_|(intro h;(try simp [etas,elDef,-List.getD_eq_getElem?_getD] at h);conv=>whnf)));(first|omega|rfl|exact inK_byte _|(simp only [inK,Int.toNat_natCast,etas,elDef]<;>first|omega|grind)|grind [inK]))) ?_|refine And.intro ?_ ?_)<;>conv=>whnf)|exact True.intro|(intro;conv=>whnf)
    · exact ⟨(i + 1, a :: r ++ [(i : Int) + 1]), [(900, 32)], [], ⟨by simp only; omega, by simp only; rw [htk (by omega), ← hj, if_pos (of_decide_eq_true h)]⟩, by simp only; omega, by iterate 2 ((all_goals (conv=>whnf));(repeat' (first|exact trivial|rfl|(refine nilEq ?_;first|rfl|(simp only [*];done)|(simp [*];done)|grind)|apply And.intro|((first|apply intEq|apply boolEq|apply strEq|apply psEq|apply nilEq|apply arrEq);(try simp only [Int.toNat_natCast,etas,elDef]);first | done | omega | grind | (simp only [*]; done) | (simp [*]; done)))));(all_goals ((try simp only [Int.toNat_natCast,etas,elDef]);first | done | omega | grind | (simp only [*]; done) | (simp [*]; done))), (by exact sgOk_of (by rfl))⟩
    · exact ⟨(i + 1, a :: r), [], [], ⟨by simp only; omega, by simp only; rw [htk (by omega), ← hj, if_neg (of_decide_eq_false h)]; simp⟩, by simp only; omega, by iterate 2 ((all_goals (conv=>whnf));(repeat' (first|exact trivial|rfl|(refine nilEq ?_;first|rfl|(simp only [*];done)|(simp [*];done)|grind)|apply And.intro|((first|apply intEq|apply boolEq|apply strEq|apply psEq|apply nilEq|apply arrEq);(try simp only [Int.toNat_natCast,etas,elDef]);first | done | omega | grind | (simp only [*]; done) | (simp [*]; done)))));(all_goals ((try simp only [Int.toNat_natCast,etas,elDef]);first | done | omega | grind | (simp only [*]; done) | (simp [*]; done))), (by exact sgOk_of (by rfl))⟩
    · exact leafV hK (by rw [hj, List.take_of_length_le (by omega)])
theorem s12o : (CtrOK Try.prog 12 (.gen .ow C12o) ∧ Callable Try.prog 12) := by
  refine gen_ok (E := E12o) (mkE_cons s19 (mkE_nil tab_ok)) mix (O := O12o) (C := C12o) (own := .ow) Try.func12 rfl (by rfl) (by kernel_rfl) (fun args K h hbd => ?_)
  unfold C12o at h; split at h
  case h_2 => exact h.elim
  exact ⟨Nat.le_of_ble_eq_true rfl, a12o _ _ (by exact hbd) _ h⟩
noncomputable def c12r (l : List Chg) (b : Bs) (K : AV → List AV → Prop) : Prop :=
    K (.own .i64 (histV l b)) [.wr .chg l]
noncomputable def C12r : List AV → (AV → List AV → Prop) → Prop
  | [.tup [.wr .chg l], .str b], K => c12r l b K
  | _, _ => False
theorem s12r : CtrOK Try.prog 12 (.gen .ln C12r) ∧ Callable Try.prog 12 := by
  refine ⟨Snd.of (Snd.lend s12o.1) fun vs K h => ?_, s12o.2⟩
  unfold C12r at h
  split at h
  case h_2 => exact h.elim
  unfold c12r at h
  exact ⟨rfl, rfl, rfl, h⟩
noncomputable def c19r (l : List Chg) (K : AV → List AV → Prop) : Prop :=
    K (optSW (logM l)) [.wr .chg l]
noncomputable def C19r : List AV → (AV → List AV → Prop) → Prop
  | [.tup [.wr .chg l]], K => c19r l K
  | _, _ => False
theorem s19r : CtrOK Try.prog 19 (.gen .ln C19r) ∧ Callable Try.prog 19 := by
  refine ⟨Snd.of (Snd.lend s19d.1) fun vs K h => ?_, s19d.2⟩
  unfold C19r at h
  split at h
  case h_2 => exact h.elim
  unfold c19r at h
  exact ⟨rfl, rfl, rfl, h⟩
noncomputable def c24r (l : List Chg) (v : Int) (K : AV → List AV → Prop) : Prop :=
    K (optSW (stoAtM l v)) [.wr .chg l]
noncomputable def C24r : List AV → (AV → List AV → Prop) → Prop
  | [.tup [.wr .chg l], .int .i64 v], K => c24r l v K
  | _, _ => False
theorem s24r : CtrOK Try.prog 24 (.gen .ln C24r) ∧ Callable Try.prog 24 := by
  refine ⟨Snd.of (Snd.lend s24d.1) fun vs K h => ?_, s24d.2⟩
  unfold C24r at h
  split at h
  case h_2 => exact h.elim
  unfold c24r at h
  exact ⟨rfl, rfl, rfl, h⟩
noncomputable def c30r (l : List It) (c : Int) (b : Bs) (g : Bool) (n1 : Int) (n2 : Int) (n3 : Bs) (n4 : List Bs) (n5 : List Nd) (K : AV → List AV → Prop) : Prop :=
    K (optSW (applyCM ⟨l, c⟩ ⟨b, g, ⟨n1, n2, n3, n4, n5⟩⟩)) [.wr .item l, .own .str n4, .wr .node n5]
noncomputable def C30r : List AV → (AV → List AV → Prop) → Prop
  | [.tup [.st [.wr .item l, .int .i64 c]], .tup [.st [.str b, .bool g, .int .i64 n1, .int .i64 n2, .str n3, .own .str n4, .wr .node n5]]], K => c30r l c b g n1 n2 n3 n4 n5 K
  | _, _ => False
theorem s30r : CtrOK Try.prog 30 (.gen .ln C30r) ∧ Callable Try.prog 30 := by
  refine ⟨Snd.of (Snd.lend s30d.1) fun vs K h => ?_, s30d.2⟩
  unfold C30r at h
  split at h
  case h_2 => exact h.elim
  unfold c30r at h
  exact ⟨rfl, rfl, rfl, h⟩
noncomputable def v13 (a : List Int) (b : List Int) : AV := .bool (eqD a b)
noncomputable def o13 (a : List Int) (b : List Int) : Prop := True
noncomputable def F13 : List AV → QR
  | [.ps .i64 a, .ps .i64 b] => some (none, v13 a b)
  | _ => none
noncomputable def E13 : Ctx := mkE tab []
noncomputable def O13 : Nat → List DI := ordL [(6, [.q 0, .q 1, .q 2, .q 3, .q 4, .q 5, .q 6, .q 7, .q 8])]
theorem a13 (a : List Int) (b : List Int) (hb : BdAs [.ps .i64 a, .ps .i64 b]) (ho : o13 a b) (K : AV → List AV → Prop) (hK : K (v13 a b) []) : abody E13 O13 .ps Try.f13 (Try.f13.body.getD .skip) [.ps .i64 a, .ps .i64 b] K := by
  simp only [BdAs, BdA, BdL, BdC, MX, ndC, shC, itC, stC, opC, chC, nwC, flC, rqC, rsC, enc, List.cons_append, List.nil_append, and_true, true_and] at hb
  unfold v13 at hK
  conv => whnf
  repeat' first|((first|refine Cnd.mk (fun h=>?_) (fun h=>?_)|refine Gd.mk (fun h=>?_))<;>(try simp [etas,elDef,-List.getD_eq_getElem?_getD] at h)<;>conv=>whnf)|((first|refine Obl.mk (by first|omega|rfl|exact inK_byte _|(simp only [inK,Int.toNat_natCast,etas,elDef]<;>first|omega|grind)|grind [inK]) ?_|refine OblG.mk (by ((conv=>whnf);(repeat (first|refine Bx.mk ?_|(intro h;(try simp [etas,elDef,-List.getD_eq_getElem?_getD] at h);conv=>whnf)));(first|omega|rfl|exact inK_byte _|(simp only [inK,Int.toNat_natCast,etas,elDef]<;>first|omega|grind)|grind [inK]))) ?_|refine And.intro ?_ ?_)<;>conv=>whnf)|exact True.intro|(intro;conv=>whnf)
  · exact leafB hK (eqD_no.2 (by grind))
  refine aloop_intro Nat (fun k => k ≤ a.length ∧ ∀ j, j < k → a.getD j 0 = b.getD j 0) (fun k => a.length - k) (fun k => [(5, .int .i64 k)]) (fun _ => []) [] 0 [] [] (by simp) ?_ (by exact sgOk_of (by rfl)) ?_
  · iterate 2 ((all_goals (conv=>whnf));(repeat' (first|exact trivial|rfl|(refine nilEq ?_;first|rfl|(simp only [*];done)|(simp [*];done)|grind)|apply And.intro|((first|apply intEq|apply boolEq|apply strEq|apply psEq|apply nilEq|apply arrEq);(try simp only [Int.toNat_natCast,etas,elDef]);first | done | omega | grind | (simp only [*]; done) | (simp [*]; done)))));(all_goals ((try simp only [Int.toNat_natCast,etas,elDef]);first | done | omega | grind | (simp only [*]; done) | (simp [*]; done)))
  rintro i ⟨hi, hj⟩
  conv => whnf
  repeat' first|((first|refine Cnd.mk (fun h=>?_) (fun h=>?_)|refine Gd.mk (fun h=>?_))<;>(try simp [etas,elDef,-List.getD_eq_getElem?_getD] at h)<;>conv=>whnf)|((first|refine Obl.mk (by first|omega|rfl|exact inK_byte _|(simp only [inK,Int.toNat_natCast,etas,elDef]<;>first|omega|grind)|grind [inK]) ?_|refine OblG.mk (by ((conv=>whnf);(repeat (first|refine Bx.mk ?_|(intro h;(try simp [etas,elDef,-List.getD_eq_getElem?_getD] at h);conv=>whnf)));(first|omega|rfl|exact inK_byte _|(simp only [inK,Int.toNat_natCast,etas,elDef]<;>first|omega|grind)|grind [inK]))) ?_|refine And.intro ?_ ?_)<;>conv=>whnf)|exact True.intro|(intro;conv=>whnf)
  · exact leafB hK (eqD_no.2 (by grind))
  · exact ⟨i + 1, [], [], ⟨by omega, by grind⟩, by omega, by iterate 2 ((all_goals (conv=>whnf));(repeat' (first|exact trivial|rfl|(refine nilEq ?_;first|rfl|(simp only [*];done)|(simp [*];done)|grind)|apply And.intro|((first|apply intEq|apply boolEq|apply strEq|apply psEq|apply nilEq|apply arrEq);(try simp only [Int.toNat_natCast,etas,elDef]);first | done | omega | grind | (simp only [*]; done) | (simp [*]; done)))));(all_goals ((try simp only [Int.toNat_natCast,etas,elDef]);first | done | omega | grind | (simp only [*]; done) | (simp [*]; done))), (by exact sgOk_of (by rfl))⟩
  · exact leafB hK (eqD_iff.2 (listEq 0 (by omega) (by grind)))
theorem s13 : (CtrOK Try.prog 13 (.pure F13) ∧ Callable Try.prog 13) := by
  refine pure_ok (E := E13) (mkE_nil tab_ok) mix (O := O13) (F := F13) Try.func13 rfl (by rfl) (by kernel_rfl) (fun args o v h => ?_) (fun args o v h => ?_) (fun args o v h hbd hp K hK => ?_)
  · unfold F13 at h; split at h <;> cases h; first | trivial | (simp [v13, Scalar, Scalar2, Scalar1, stC, ndC, itC, chC, nwC])
  · unfold F13 at h; split at h <;> cases h; exact Nat.le_of_ble_eq_true rfl
  · unfold F13 at h; split at h
    case h_2 => cases h
    cases h
    exact a13 _ _ (by exact hbd) trivial K hK
end Go.Rs

