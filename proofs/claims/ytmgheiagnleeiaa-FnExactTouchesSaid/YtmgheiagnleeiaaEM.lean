import Derived.Test.YtmgheiagnleeiaaEI
import Derived.Test.YtmgheiagnleeiaaEK
import Derived.Test.YtmgheiagnleeiaaEF
import Derived.Test.YtmgheiagnleeiaaLd
import Derived.Test.YtmgheiagnleeiaaBr
import Derived.Test.YtmgheiagnleeiaaMH
set_option linter.all false
set_option linter.unusedSimpArgs false
set_option linter.unusedVariables false
namespace Go.Rs
open Go.Proofs Go.RowKit
set_option maxRecDepth 100000
def digs (q : Int) : Bs := if q ≤ 0 then [] else decM q.toNat
theorem digs_step {q : Int} (h : 0 < q) : digs q = digs (q / 10) ++ [UInt8.ofNat (48 + (q % 10).toNat)] := by
  unfold digs
  rw [if_neg (by omega)]
  by_cases h1 : q < 10
  · rw [decM_lt (by omega), if_pos (by omega), List.nil_append]
    congr 2
    omega
  · rw [decM_ge (by omega), if_neg (by omega)]
    congr 3 <;> omega
theorem decM_20 {n : Nat} (h : n ≤ 4611686018427387904) : (decM n).length ≤ 20 := by
  have := mkT_len (k := n) (by omega)
  have key : ∀ (d n : Nat), n < 10 ^ (d + 1) → (decM n).length ≤ d + 1 := by
    intro d
    induction d with
    | zero => intro n hn; rw [decM_lt (by omega)]; simp
    | succ d ih =>
      intro n hn
      by_cases h : n < 10
      · rw [decM_lt h]; simp
      · rw [decM_ge h]
        have := ih (n / 10) (by rw [Nat.div_lt_iff_lt_mul (by omega)]; calc n < 10 ^ (d + 1 + 1) := hn
                                  _ = 10 ^ (d + 1) * 10 := Nat.pow_succ ..)
        simp; omega
  exact key 19 n (by omega)
noncomputable def v22 (m : Int) : AV := .str (mkT m)
noncomputable def o22 (m : Int) : Prop := m ≤ 4611686018427387904
noncomputable def F22 : List AV → QR
  | [.int .i64 m] => some (some (o22 m), v22 m)
  | _ => none
noncomputable def E22 : Ctx := mkE tab []
noncomputable def O22 : Nat → List DI := ordL []
theorem a22 (m : Int) (hb : BdAs [.int .i64 m]) (ho : o22 m) (K : AV → List AV → Prop) (hK : K (v22 m) []) : abody E22 O22 .ps Try.f22 (Try.f22.body.getD .skip) [.int .i64 m] K := by
  simp only [BdAs, BdA, BdL, BdC, MX, ndC, shC, itC, stC, opC, chC, nwC, flC, rqC, rsC, enc, List.cons_append, List.nil_append, and_true, true_and] at hb
  unfold o22 at ho
  unfold v22 at hK
  conv => whnf
  repeat' first|((first|refine Cnd.mk (fun h=>?_) (fun h=>?_)|refine Gd.mk (fun h=>?_))<;>(try simp [etas,elDef,-List.getD_eq_getElem?_getD] at h)<;>conv=>whnf)|((first|refine Obl.mk (by first|omega|rfl|exact inK_byte _|(simp only [inK,Int.toNat_natCast,etas,elDef]<;>first|omega|grind)|grind [inK]) ?_|refine OblG.mk (by ((conv=>whnf);(repeat (first|refine Bx.mk ?_|(intro h;(try simp [etas,elDef,-List.getD_eq_getElem?_getD] at h);conv=>whnf)));(first|omega|rfl|exact inK_byte _|(simp only [inK,Int.toNat_natCast,etas,elDef]<;>first|omega|grind)|grind [inK]))) ?_|refine And.intro ?_ ?_)<;>conv=>whnf)|exact True.intro|(intro;conv=>whnf)
  · rw [mkT, if_pos h] at hK; exact hK
  have hd0 : digs m ++ [] = decM m.toNat := by rw [List.append_nil, digs, if_neg (by omega)]
  refine aloop_intro (Int × Bs) (fun ⟨q, out⟩ => 0 ≤ q ∧ q ≤ m ∧ out.length ≤ 20 ∧ digs q ++ out = decM m.toNat) (fun ⟨q, out⟩ => q.toNat) (fun ⟨q, out⟩ => [(0, .int .i64 q), (3, .str out)]) (fun ⟨q, out⟩ => []) [] (m, []) [] [] ?_ ?_ (by exact sgOk_of (by rfl)) ?_
  · first | (simp; done) | (simp; assumption) | (simp only; grind)
  · iterate 2 ((all_goals (conv=>whnf));(repeat' (first|exact trivial|rfl|(refine nilEq ?_;first|rfl|(simp only [*];done)|(simp [*];done)|grind)|apply And.intro|((first|apply intEq|apply boolEq|apply strEq|apply psEq|apply nilEq|apply arrEq);(try simp only [Int.toNat_natCast,etas,elDef]);first | done | omega | grind | (simp only [*]; done) | (simp [*]; done)))));(all_goals ((try simp only [Int.toNat_natCast,etas,elDef]);first | done | omega | grind | (simp only [*]; done) | (simp [*]; done)))
  rintro ⟨q, out⟩ hinv
  dsimp only at hinv
  conv => whnf
  obtain ⟨hq, hqm, hlo, hdg⟩ := hinv
  repeat' first|((first|refine Cnd.mk (fun h=>?_) (fun h=>?_)|refine Gd.mk (fun h=>?_))<;>(try simp [etas,elDef,-List.getD_eq_getElem?_getD] at h)<;>conv=>whnf)|((first|refine Obl.mk (by first|omega|rfl|exact inK_byte _|(simp only [inK,Int.toNat_natCast,etas,elDef]<;>first|omega|grind)|grind [inK]) ?_|refine OblG.mk (by ((conv=>whnf);(repeat (first|refine Bx.mk ?_|(intro h;(try simp [etas,elDef,-List.getD_eq_getElem?_getD] at h);conv=>whnf)));(first|omega|rfl|exact inK_byte _|(simp only [inK,Int.toNat_natCast,etas,elDef]<;>first|omega|grind)|grind [inK]))) ?_|refine And.intro ?_ ?_)<;>conv=>whnf)|exact True.intro|(intro;conv=>whnf)
  · have h20 := decM_20 (n := m.toNat) (by omega)
    have hst := digs_step h
    have hlen : out.length + 1 ≤ 20 := by
      rw [← hdg, hst] at h20
      simp at h20
      omega
    have hu : List.map (fun n => UInt8.ofNat (Int.toNat n)) [48 + q % 10] = [UInt8.ofNat (48 + (q % 10).toNat)] := by
      simp only [List.map_cons, List.map_nil]
      congr 2
      omega
    exact ⟨(q / 10, List.map (fun n => UInt8.ofNat (Int.toNat n)) [48 + q % 10] ++ out), [], [], ⟨by omega, by omega, by rw [hu]; simpa using hlen, by rw [← hdg, hst, hu, List.append_assoc]⟩, by simp only; omega, by iterate 2 ((all_goals (conv=>whnf));(repeat' (first|exact trivial|rfl|(refine nilEq ?_;first|rfl|(simp only [*];done)|(simp [*];done)|grind)|apply And.intro|((first|apply intEq|apply boolEq|apply strEq|apply psEq|apply nilEq|apply arrEq);(try simp only [Int.toNat_natCast,etas,elDef]);first | done | omega | grind | (simp only [*]; done) | (simp [*]; done)))));(all_goals ((try simp only [Int.toNat_natCast,etas,elDef]);first | done | omega | grind | (simp only [*]; done) | (simp [*]; done))), (by exact sgOk_of (by rfl))⟩
  · have : digs q = [] := by unfold digs; rw [if_pos h]
    rw [this] at hdg
    simp only [List.nil_append] at hdg
    rw [mkT, if_neg (by omega), ← hdg] at hK
    exact hK
theorem s22 : (CtrOK Try.prog 22 (.pure F22) ∧ Callable Try.prog 22) := by
  refine pure_ok (E := E22) (mkE_nil tab_ok) mix (O := O22) (F := F22) Try.func22 rfl (by rfl) (by kernel_rfl) (fun args o v h => ?_) (fun args o v h => ?_) (fun args o v h hbd hp K hK => ?_)
  · unfold F22 at h; split at h <;> cases h; first | trivial | (simp [v22, Scalar, Scalar2, Scalar1, stC, ndC, itC, chC, nwC])
  · unfold F22 at h; split at h <;> cases h; exact Nat.le_of_ble_eq_true rfl
  · unfold F22 at h; split at h
    case h_2 => cases h
    cases h
    exact a22 _ (by exact hbd) (hp _ rfl) K hK
end Go.Rs

