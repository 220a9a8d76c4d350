import Derived.Test.YtmliigdhlnanlaaDoorCL
import Derived.Test.YtmliigdhlnanlaaDoorCG
import Derived.Test.YtmliigdhlnanlaaDoorMB
import Derived.Test.YtmliigdhlnanlaaDoorCJ
import Derived.Test.YtmliigdhlnanlaaDoorMC
set_option linter.all false
set_option linter.unusedSimpArgs false
set_option linter.unusedVariables false
namespace Go.Rs
open Go.Proofs
set_option maxRecDepth 100000
noncomputable def v77 (n : Int) : AV := .str (decM n.toNat)
noncomputable def o77 (n : Int) : Prop := 0 ≤ n ∧ n < 10
noncomputable def F77 : List AV → QR
  | [.int .i64 n] => some (some (o77 n), v77 n)
  | _ => none
noncomputable def v53 (n : Int) : AV := .str (decM n.toNat)
noncomputable def o53 (n : Int) : Prop := 0 ≤ n ∧ n < 10
noncomputable def E53 : Ctx := mkE tab [(77, .pure F77)]
noncomputable def O53 : Nat → List DI := ordL []
theorem a53 (n : Int) (hb : BdAs [.int .i64 n]) (ho : o53 n) (K : AV → List AV → Prop) (hK : K (v53 n) []) : abody E53 O53 .ps Tryd.f53 (Tryd.f53.body.getD .skip) [.int .i64 n] K := by
  simp only [BdAs, BdA, BdL, BdC, MX, ndC, shC, itC, stC, opC, chC, nwC, flC, rqC, rsC, enc, List.cons_append, List.nil_append, and_true, true_and] at hb
  unfold o53 at ho
  unfold v53 at hK
  conv => whnf
  repeat' first|((first|refine Cnd.mk (fun h=>?_) (fun h=>?_)|refine Gd.mk (fun h=>?_))<;>(try simp [etas,elDef,-List.getD_eq_getElem?_getD] at h)<;>conv=>whnf)|((first|refine Obl.mk (by first|omega|rfl|exact inK_byte _|(simp only [inK,Int.toNat_natCast,etas,elDef,o77]<;>first|omega|grind)|grind [inK,o77]) ?_|refine OblG.mk (by ((conv=>whnf);(repeat (first|refine Bx.mk ?_|(intro h;(try simp [etas,elDef,-List.getD_eq_getElem?_getD] at h);conv=>whnf)));(first|omega|rfl|exact inK_byte _|(simp only [inK,Int.toNat_natCast,etas,elDef,o77]<;>first|omega|grind)|grind [inK,o77]))) ?_|refine And.intro ?_ ?_)<;>conv=>whnf)|exact True.intro|(intro;conv=>whnf)
  all_goals exact hK
end Go.Rs

