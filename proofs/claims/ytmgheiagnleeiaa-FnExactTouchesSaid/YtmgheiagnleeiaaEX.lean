import Derived.Test.YtmgheiagnleeiaaEI
import Derived.Test.YtmgheiagnleeiaaCP
import Derived.Test.YtmgheiagnleeiaaMH
set_option linter.all false
set_option linter.unusedSimpArgs false
set_option linter.unusedVariables false
namespace Go.Rs
open Go.Proofs
set_option maxRecDepth 100000
noncomputable def c15g (a : List Bs) (b : List Bs) (K : AV → List AV → Prop) : Prop :=
    Obl (a.length + b.length ≤ 100000) (K (.ps .str (unionM a b)) [])
noncomputable def C15g : List AV → (AV → List AV → Prop) → Prop
  | [.ps .str a, .ps .str b], K => c15g a b K
  | _, _ => False
noncomputable def E15g : Ctx := mkE tab []
noncomputable def O15g : Nat → List DI := ordL [(8, [.q 0, .q 1, .q 2, .q 3, .q 4, .q 5, .q 6, .q 7, .q 8, .q 9, .q 10, .q 11, .q 12, .q 13, .q 14, .q 15, .q 16, .q 17, .q 18, .q 19, .q 20, .q 21]), (11, [.q 0, .q 1, .q 2, .q 3, .q 4, .q 5, .q 6, .q 7, .q 8, .q 9, .q 10, .q 11, .q 12, .q 13, .q 14, .q 15])]
theorem a15g (a : List Bs) (b : List Bs) (hb : BdAs [.ps .str a, .ps .str b]) (K : AV → List AV → Prop) (h : c15g a b K) : abody E15g O15g .ps Try.f15 (Try.f15.body.getD .skip) [.ps .str a, .ps .str b] K := by
  simp only [BdAs, BdA, BdL, BdC, MX, ndC, shC, itC, stC, opC, chC, nwC, flC, rqC, rsC, enc, List.cons_append, List.nil_append, and_true, true_and] at hb
  unfold c15g at h
  obtain ⟨hl, hK⟩ := h
  conv => whnf
  repeat' first|((first|refine Cnd.mk (fun h=>?_) (fun h=>?_)|refine Gd.mk (fun h=>?_))<;>(try simp [etas,elDef,-List.getD_eq_getElem?_getD] at h)<;>conv=>whnf)|((first|refine Obl.mk (by first|omega|rfl|exact inK_byte _|(simp only [inK,Int.toNat_natCast,etas,elDef]<;>first|omega|grind)|grind [inK]) ?_|refine OblG.mk (by ((conv=>whnf);(repeat (first|refine Bx.mk ?_|(intro h;(try simp [etas,elDef,-List.getD_eq_getElem?_getD] at h);conv=>whnf)));(first|omega|rfl|exact inK_byte _|(simp only [inK,Int.toNat_natCast,etas,elDef]<;>first|omega|grind)|grind [inK]))) ?_|refine And.intro ?_ ?_)<;>conv=>whnf)|exact True.intro|(intro;conv=>whnf)
  refine aloop_intro (Nat × Nat × List Bs) (fun q => q.1 ≤ a.length ∧ q.2.1 ≤ b.length ∧ q.2.2.length ≤ q.1 + q.2.1 ∧ q.2.2 ++ unionM (a.drop q.1) (b.drop q.2.1) = unionM a b) (fun q => (a.length - q.1) + (b.length - q.2.1)) (fun q => [(5, .ls 900), (6, .int .i64 q.1), (7, .int .i64 q.2.1)]) (fun q => [(900, .arr .str q.2.2)]) [] (0, 0, []) [(900, 8)] [] ?_ ?_ (by exact sgOk_of (by rfl)) ?_
  · exact ⟨Nat.zero_le _, Nat.zero_le _, Nat.le_refl _, by simp⟩
  · iterate 2 ((all_goals (conv=>whnf));(repeat' (first|exact trivial|rfl|(refine nilEq ?_;first|rfl|(simp only [*];done)|(simp [*];done)|grind)|apply And.intro|((first|apply intEq|apply boolEq|apply strEq|apply psEq|apply nilEq|apply arrEq);(try simp only [Int.toNat_natCast,etas,elDef]);first | done | omega | grind | (simp only [*]; done) | (simp [*]; done)))));(all_goals ((try simp only [Int.toNat_natCast,etas,elDef]);first | done | omega | grind | (simp only [*]; done) | (simp [*]; done)))
  rintro ⟨i, k, out⟩ ⟨hi, hk, ho, he⟩
  dsimp only at hi hk ho he
  have s1 := fun h1 h2 => union_left (a := a) (b := b) (i := i) (k := k) h1 h2
  have s2 := fun h1 h2 => union_right (a := a) (b := b) (i := i) (k := k) h1 h2
  have s3 := fun h1 h2 h3 h4 => union_both (a := a) (b := b) (i := i) (k := k) h1 h2 h3 h4
  have hl1 : out.length + [a.getD i []].length ≤ 1073741824 := by simp; omega
  have hl2 : out.length + [b.getD k []].length ≤ 1073741824 := by simp; omega
  conv => whnf
  repeat' first|((first|refine Cnd.mk (fun h=>?_) (fun h=>?_)|refine Gd.mk (fun h=>?_))<;>(try simp [etas,elDef,-List.getD_eq_getElem?_getD] at h)<;>conv=>whnf)|((first|refine Obl.mk (by first|omega|rfl|exact inK_byte _|(simp only [inK,Int.toNat_natCast,etas,elDef]<;>first|omega|grind)|grind [inK]) ?_|refine OblG.mk (by ((conv=>whnf);(repeat (first|refine Bx.mk ?_|(intro h;(try simp [etas,elDef,-List.getD_eq_getElem?_getD] at h);conv=>whnf)));(first|omega|rfl|exact inK_byte _|(simp only [inK,Int.toNat_natCast,etas,elDef]<;>first|omega|grind)|grind [inK]))) ?_|refine And.intro ?_ ?_)<;>conv=>whnf)|exact True.intro|(intro;conv=>whnf)
  · rename_i hw
    have hi2 : i < a.length := by rcases h with h | h; omega; exact h.1
    have hk2 : k = b.length ∨ (k < b.length ∧ ltS (a.getD i []) (b.getD k []) = true) := by
      rcases h with h | h
      · exact .inl (by omega)
      · by_cases e : k = b.length
        · exact .inl e
        · exact .inr ⟨by omega, h.2⟩
    rw [s1 hi2 hk2] at he
    exact ⟨(i + 1, k, out ++ [a.getD i []]), [(900, 58)], [], ⟨by simp only; omega, hk, by simp; omega, by simpa using he⟩, by simp only; omega, by iterate 2 ((all_goals (conv=>whnf));(repeat' (first|exact trivial|rfl|(refine nilEq ?_;first|rfl|(simp only [*];done)|(simp [*];done)|grind)|apply And.intro|((first|apply intEq|apply boolEq|apply strEq|apply psEq|apply nilEq|apply arrEq);(try simp only [Int.toNat_natCast,etas,elDef]);first | done | omega | grind | (simp only [*]; done) | (simp [*]; done)))));(all_goals ((try simp only [Int.toNat_natCast,etas,elDef]);first | done | omega | grind | (simp only [*]; done) | (simp [*]; done))), (by exact sgOk_of (by rfl))⟩
  · rename_i hw h0
    have hk2 : k < b.length := by omega
    have hi2 : i = a.length ∨ (i < a.length ∧ ltS (a.getD i []) (b.getD k []) = false ∧ ltS (b.getD k []) (a.getD i []) = true) := by
      by_cases e : i = a.length
      · exact .inl e
      · rcases h with h | h
        · omega
        · exact .inr ⟨by omega, h0.2 (by omega), h⟩
    rw [s2 hk2 hi2] at he
    exact ⟨(i, k + 1, out ++ [b.getD k []]), [(900, 83)], [], ⟨hi, by simp only; omega, by simp; omega, by simpa using he⟩, by simp only; omega, by iterate 2 ((all_goals (conv=>whnf));(repeat' (first|exact trivial|rfl|(refine nilEq ?_;first|rfl|(simp only [*];done)|(simp [*];done)|grind)|apply And.intro|((first|apply intEq|apply boolEq|apply strEq|apply psEq|apply nilEq|apply arrEq);(try simp only [Int.toNat_natCast,etas,elDef]);first | done | omega | grind | (simp only [*]; done) | (simp [*]; done)))));(all_goals ((try simp only [Int.toNat_natCast,etas,elDef]);first | done | omega | grind | (simp only [*]; done) | (simp [*]; done))), (by exact sgOk_of (by rfl))⟩
  · rename_i hw h0
    have hi2 : i < a.length := by omega
    have hk2 : k < b.length := by omega
    rw [s3 hi2 hk2 (h0.2 hi2) h.2] at he
    exact ⟨(i + 1, k + 1, out ++ [a.getD i []]), [(900, 25)], [], ⟨by simp only; omega, by simp only; omega, by simp; omega, by simpa using he⟩, by simp only; omega, by iterate 2 ((all_goals (conv=>whnf));(repeat' (first|exact trivial|rfl|(refine nilEq ?_;first|rfl|(simp only [*];done)|(simp [*];done)|grind)|apply And.intro|((first|apply intEq|apply boolEq|apply strEq|apply psEq|apply nilEq|apply arrEq);(try simp only [Int.toNat_natCast,etas,elDef]);first | done | omega | grind | (simp only [*]; done) | (simp [*]; done)))));(all_goals ((try simp only [Int.toNat_natCast,etas,elDef]);first | done | omega | grind | (simp only [*]; done) | (simp [*]; done))), (by exact sgOk_of (by rfl))⟩
  · have e1 : a.drop i = [] := List.drop_of_length_le h.1
    have e2 : b.drop k = [] := List.drop_of_length_le h.2
    rw [e1, e2, unionM_nil, List.append_nil] at he
    exact leafV hK (by rw [← he])
theorem s15g : (CtrOK Try.prog 15 (.gen .ps C15g) ∧ Callable Try.prog 15) := by
  refine gen_ok (E := E15g) (mkE_nil tab_ok) mix (O := O15g) (C := C15g) (own := .ps) Try.func15 rfl (by rfl) (by kernel_rfl) (fun args K h hbd => ?_)
  unfold C15g at h; split at h
  case h_2 => exact h.elim
  exact ⟨Nat.le_of_ble_eq_true rfl, a15g _ _ (by exact hbd) _ h⟩
end Go.Rs

