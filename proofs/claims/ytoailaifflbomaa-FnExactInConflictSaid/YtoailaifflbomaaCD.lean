import Derived.Test.YtoailaifflbomaaCC
import Derived.Test.YtoailaifflbomaaMA
set_option linter.all false
set_option linter.unusedSimpArgs false
set_option linter.unusedVariables false
namespace Go.Rs
open Go.Proofs
set_option maxRecDepth 100000
noncomputable def c90 (n : Nd) (K : AV → List AV → Prop) : Prop :=
    Obl (smN n) (K (.st (ndC n)) [])
noncomputable def m90 (n : Nd) : Nat := SizeOf.sizeOf n
noncomputable def C90 : List AV → (AV → List AV → Prop) → Prop
  | [.st [.int .i64 n_0, .int .i64 n_1, .str n_2, .ps .str n_3, .ps .node n_4]], K => c90 ⟨n_0, n_1, n_2, n_3, n_4⟩ K
  | _, _ => False
noncomputable def Ck90 (k : Nat) : List AV → (AV → List AV → Prop) → Prop
  | [.st [.int .i64 n_0, .int .i64 n_1, .str n_2, .ps .str n_3, .ps .node n_4]], K => Obl (m90 ⟨n_0, n_1, n_2, n_3, n_4⟩ < k) (c90 ⟨n_0, n_1, n_2, n_3, n_4⟩ K)
  | _, _ => False
noncomputable def E90 (k : Nat) : Ctx := mkE tab [(90, .gen .ps (Ck90 k))]
noncomputable def O90 : Nat → List DI := ordL [(6, [.q 0, .q 1, .q 2, .q 3, .q 4, .q 5, .q 7, .q 8, .q 10, .l 6 [1, 3, 5, 8], .l 9 [1, 3, 5], .q 11, .l 12 []])]
theorem a90 (k : Nat) (n : Nd) (hm : m90 n < k + 1) (hb : BdAs [.st (ndC n)]) (K : AV → List AV → Prop) (h : c90 n K) : abody (E90 k) O90 .ps Try.f90 (Try.f90.body.getD .skip) [.st (ndC n)] K := by
  simp only [BdAs, BdA, BdL, BdC, MX, ndC, shC, itC, stC, opC, chC, nwC, flC, rqC, rsC, enc, List.cons_append, List.nil_append, and_true, true_and] at hb
  unfold c90 at h
  unfold m90 at hm
  obtain ⟨hs, hK⟩ := h
  have hkid : ∀ j, j < n.kids.length → SizeOf.sizeOf (n.kids.getD j default) < k ∧ smN (n.kids.getD j default) := fun j hj => ⟨by have := kid_size hj; omega, hs.kid hj⟩
  have h3 := hs.kids
  have h2 := hs.names
  conv => whnf
  refine aloop_intro Nat (fun k => k ≤ n.kids.length ∧ True) (fun k => n.kids.length - k) (fun k => [(4, .int .i64 k), (3, .ls 900)]) (fun k => [(900, .arr .node (n.kids.take k))]) [1, 2] 0 [(900, 5)] [] ?_ ?_ (by exact sgOk_of (by rfl)) ?_
  · first | (simp; done) | (simp; assumption)
  · iterate 2 ((all_goals (conv=>whnf));(repeat' (first|exact trivial|rfl|(refine nilEq ?_;first|rfl|(simp only [*];done)|(simp [*];done)|grind)|apply And.intro|((first|apply intEq|apply boolEq|apply strEq|apply psEq|apply nilEq|apply arrEq);(try simp only [Int.toNat_natCast,etas,elDef]);first | done | omega | grind | (simp only [*]; done) | (simp [*]; done)))));(all_goals ((try simp only [Int.toNat_natCast,etas,elDef]);first | done | omega | grind | (simp only [*]; done) | (simp [*]; done)))
  rintro i ⟨hi, hj⟩
  conv => whnf
  have htk := fun h => take_snoc (l := n.kids) (i := i) default h
  repeat' first|((first|refine Cnd.mk (fun h=>?_) (fun h=>?_)|refine Gd.mk (fun h=>?_))<;>(try simp [etas,elDef,-List.getD_eq_getElem?_getD] at h)<;>conv=>whnf)|((first|refine Obl.mk (by first|omega|rfl|exact inK_byte _|(simp only [inK,Int.toNat_natCast,etas,elDef,m90,m90]<;>first|omega|grind)|grind [inK,m90,m90]) ?_|refine OblG.mk (by ((conv=>whnf);(repeat (first|refine Bx.mk ?_|(intro h;(try simp [etas,elDef,-List.getD_eq_getElem?_getD] at h);conv=>whnf)));(first|omega|rfl|exact inK_byte _|(simp only [inK,Int.toNat_natCast,etas,elDef,m90,m90]<;>first|omega|grind)|grind [inK,m90,m90]))) ?_|refine And.intro ?_ ?_)<;>conv=>whnf)|exact True.intro|(intro;conv=>whnf)
  · exact ⟨i + 1, [(900, 21)], [], ⟨by omega, by grind⟩, by omega, by iterate 2 ((all_goals (conv=>whnf));(repeat' (first|exact trivial|rfl|(refine nilEq ?_;first|rfl|(simp only [*];done)|(simp [*];done)|grind)|apply And.intro|((first|apply intEq|apply boolEq|apply strEq|apply psEq|apply nilEq|apply arrEq);(try simp only [Int.toNat_natCast,etas,elDef]);first | done | omega | grind | (simp only [*]; done) | (simp [*]; done)))));(all_goals ((try simp only [Int.toNat_natCast,etas,elDef]);first | done | omega | grind | (simp only [*]; done) | (simp [*]; done))), (by exact sgOk_of (by rfl))⟩
  · exact leafV hK (by simp [ndC, List.take_of_length_le ‹n.kids.length ≤ i›])
theorem r90 : ∀ k, (CtrOK Try.prog 90 (.gen .ps (Ck90 k)) ∧ Callable Try.prog 90) := by
  intro k
  induction k with
  | zero =>
    exact ⟨fun args K h => by
        unfold Ck90 at h; split at h
        · exact absurd h.o (Nat.not_lt_zero _)
        · exact h.elim, callable Try.func90 rfl (by rfl)⟩
  | succ k ih =>
    refine gen_ok (E := E90 k) (mkE_cons ih (mkE_nil tab_ok)) mix (O := O90) (C := (Ck90 (k + 1))) (own := .ps) Try.func90 rfl (by rfl) (by kernel_rfl) (fun args K h hbd => ?_)
    unfold Ck90 at h; split at h
    case h_2 => exact h.elim
    exact ⟨Nat.le_of_ble_eq_true rfl, a90 k ⟨_, _, _, _, _⟩ h.o (by exact hbd) _ h.k⟩
theorem s90 : (CtrOK Try.prog 90 (.gen .ps C90) ∧ Callable Try.prog 90) := by
  refine ⟨fun args K h => ?_, (r90 0).2⟩
  unfold C90 at h; split at h
  · exact (r90 (m90 ⟨_, _, _, _, _⟩ + 1)).1 _ K ⟨Nat.lt_succ_self _, h⟩
  · exact h.elim
end Go.Rs

