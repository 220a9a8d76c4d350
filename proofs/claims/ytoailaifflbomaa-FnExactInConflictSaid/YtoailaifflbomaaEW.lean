import Derived.Test.YtoailaifflbomaaCT
import Derived.Test.YtoailaifflbomaaCR
import Derived.Test.YtoailaifflbomaaCZ
import Derived.Test.YtoailaifflbomaaInN
import Derived.Test.YtoailaifflbomaaInS
import Derived.Test.YtoailaifflbomaaIns
import Derived.Test.YtoailaifflbomaaMD
import Derived.Test.YtoailaifflbomaaME
import Derived.Test.YtoailaifflbomaaFH
import Derived.Test.YtoailaifflbomaaInsF
import Derived.Test.YtoailaifflbomaaCK
import Derived.Test.YtoailaifflbomaaEK
import Derived.Test.YtoailaifflbomaaInG
import Derived.Test.YtoailaifflbomaaCP
import Derived.Test.YtoailaifflbomaaER
import Derived.Test.YtoailaifflbomaaEP
import Derived.Test.YtoailaifflbomaaMG
import Derived.Test.YtoailaifflbomaaInD
set_option linter.all false
section
section
set_option linter.unusedSimpArgs false
set_option linter.unusedVariables false
namespace Go.Rs
open Go.Proofs
set_option maxRecDepth 100000
end Go.Rs
end
section
section
set_option linter.unusedSimpArgs false
set_option linter.unusedVariables false
namespace Go.Rs
open Go.Proofs
set_option maxRecDepth 100000
end Go.Rs
end
section
set_option linter.unusedSimpArgs false
set_option linter.unusedVariables false
namespace Go.Rs
open Go.Proofs
set_option maxRecDepth 100000
set_option maxHeartbeats 1000000
set_option maxHeartbeats 400000
end Go.Rs
end
end
end
section
section
section
set_option linter.unusedSimpArgs false
set_option linter.unusedVariables false
namespace Go.Rs
open Go.Rs Go.Proofs Go.RowKit Go.Lib
end Go.Rs
namespace Go.Rs
open Go.Proofs
end Go.Rs
end
section
set_option linter.unusedSimpArgs false
set_option linter.unusedVariables false
namespace Go.Rs
open Go.Proofs
set_option maxRecDepth 100000
end Go.Rs
end
end
section
set_option linter.unusedSimpArgs false
set_option linter.unusedVariables false
namespace Go.Rs
open Go.Proofs Go.RowKit
set_option maxRecDepth 100000
def optND (r : Option Nd) : AV := .tup [.st (ndD (r.getD default)), .bool r.isSome]
def optNW (r : Option Nd) : AV := .tup [.st (ndW (r.getD default)), .bool r.isSome]
noncomputable def c100d (kd : Int) (m : Int) (t : Bs) (ns : List Bs) (ks : List Nd) (b : Bs) (x1 : Int) (x2 : Int) (x3 : Bs) (x4 : List Bs) (x5 : List Nd) (K : AV → List AV → Prop) : Prop :=
    Obl ((sortedI (nmI ns) ∧ ns.length = ks.length) ∧ ns.length ≤ 100000) (K (.tup []) [.ref [.int .i64 kd, .int .i64 m, .str t, .own .str ((putL (zipI ns ks) ⟨b, 0, ⟨x1, x2, x3, x4, x5⟩⟩).map (·.name)), .dp .node ((putL (zipI ns ks) ⟨b, 0, ⟨x1, x2, x3, x4, x5⟩⟩).map (·.node))]])
noncomputable def D100d : List AV → (AV → List AV → Prop) → Prop
  | [.ref [.int .i64 kd, .int .i64 m, .str t, .own .str ns, .dp .node ks], .str b, .st [.int .i64 x1, .int .i64 x2, .str x3, .own .str x4, .dp .node x5]], K => c100d kd m t ns ks b x1 x2 x3 x4 x5 K
  | _, _ => False
noncomputable def C100d (args : List AV) (K : AV → List AV → Prop) : Prop := D100d (fixAs args) K
noncomputable def E100d : Ctx := mkE tab [(122, .pure F122), (123, .gen .ow C123), (124, .gen .ow C124d)]
noncomputable def O100d : Nat → List DI := ordL [(3, [.q 0, .q 1, .q 2, .q 3, .q 4, .q 5, .q 6, .l 7 []]), (5, [.q 0, .q 1, .q 2, .q 3, .q 4, .q 5, .q 6, .l 7 [4], .l 8 [], .q 9, .q 10, .l 11 []])]
theorem a100d (kd : Int) (m : Int) (t : Bs) (ns : List Bs) (ks : List Nd) (b : Bs) (x1 : Int) (x2 : Int) (x3 : Bs) (x4 : List Bs) (x5 : List Nd) (hb : BdAs [.ref [.int .i64 kd, .int .i64 m, .str t, .own .str ns, .dp .node ks], .str b, .st [.int .i64 x1, .int .i64 x2, .str x3, .own .str x4, .dp .node x5]]) (K : AV → List AV → Prop) (h : c100d kd m t ns ks b x1 x2 x3 x4 x5 K) : abodyD E100d O100d .ow Try.f100 (Try.f100.body.getD .skip) [.ref [.int .i64 kd, .int .i64 m, .str t, .own .str ns, .dp .node ks], .str b, .st [.int .i64 x1, .int .i64 x2, .str x3, .own .str x4, .dp .node x5]] (fun r rs => K (fixR r) (fixAs rs)) := by
  simp only [BdAs, BdA, BdL, BdC, MX, ndC, shC, itC, stC, opC, chC, nwC, flC, rqC, rsC, enc, List.cons_append, List.nil_append, and_true, true_and] at hb
  unfold c100d at h
  obtain ⟨⟨⟨hs, hl⟩, hn⟩, hK⟩ := h
  have hp := put_rows (b := b) (x := ⟨x1, x2, x3, x4, x5⟩) hl hs
  have hf := fun h => found_lt (ns := ns) (b := b) h
  have hle := lb_le ns b
  conv => whnf
  repeat' first|((first|refine Cnd.mk (fun h=>?_) (fun h=>?_)|refine Gd.mk (fun h=>?_))<;>(try simp [etas,elDef,-List.getD_eq_getElem?_getD] at h)<;>conv=>whnf)|((first|refine Obl.mk (by first|omega|rfl|exact inK_byte _|(simp only [inK,Int.toNat_natCast,etas,elDef,o122]<;>first|omega|grind)|grind [inK,o122]) ?_|refine OblG.mk (by ((conv=>whnf);(repeat (first|refine Bx.mk ?_|(intro h;(try simp [etas,elDef,-List.getD_eq_getElem?_getD] at h);conv=>whnf)));(first|omega|rfl|exact inK_byte _|(simp only [inK,Int.toNat_natCast,etas,elDef,o122]<;>first|omega|grind)|grind [inK,o122]))) ?_|refine And.intro ?_ ?_)<;>conv=>whnf)|exact True.intro|(intro;conv=>whnf)
  · exact leafV2 hK ⟨rfl, by rw [(hp.1 h).1, (hp.1 h).2]; simp only [Int.toNat_natCast, nd_eta]; rfl⟩
  · exact leafV2 hK ⟨rfl, by rw [(hp.2 h).1, (hp.2 h).2]; simp only [Int.toNat_natCast, nd_eta]; rfl⟩
theorem s100d : (CtrOK Try.prog 100 (.gen .ow C100d) ∧ Callable Try.prog 100) := by
  refine gen_okD (E := E100d) (mkE_cons s122 (mkE_cons s123 (mkE_cons s124d (mkE_nil tab_ok)))) mix (O := O100d) (D := D100d) (own := .ow) Try.func100 rfl (by rfl) (by kernel_rfl) (fun args K h hbd => ?_)
  unfold D100d at h; split at h
  case h_2 => exact h.elim
  exact ⟨Nat.le_of_ble_eq_true rfl, a100d _ _ _ _ _ _ _ _ _ _ _ (by exact hbd) _ h⟩
noncomputable def c69d (n1 : Int) (n2 : Int) (n3 : Bs) (n4 : List Bs) (n5 : List Nd) (b : Bool) (K : AV → List AV → Prop) : Prop :=
    K (optND (if b && validM ⟨n1, n2, n3, n4, n5⟩ then some ⟨n1, n2, n3, n4, n5⟩ else none)) []
noncomputable def D69d : List AV → (AV → List AV → Prop) → Prop
  | [.st [.int .i64 n1, .int .i64 n2, .str n3, .own .str n4, .dp .node n5], .bool b], K => c69d n1 n2 n3 n4 n5 b K
  | _, _ => False
noncomputable def C69d (args : List AV) (K : AV → List AV → Prop) : Prop := D69d (fixAs args) K
noncomputable def E69d : Ctx := mkE tab [(68, .pure F68)]
noncomputable def O69d : Nat → List DI := ordL []
theorem a69d (n1 : Int) (n2 : Int) (n3 : Bs) (n4 : List Bs) (n5 : List Nd) (b : Bool) (hb : BdAs [.st [.int .i64 n1, .int .i64 n2, .str n3, .own .str n4, .dp .node n5], .bool b]) (K : AV → List AV → Prop) (h : c69d n1 n2 n3 n4 n5 b K) : abodyD E69d O69d .ow Try.f69 (Try.f69.body.getD .skip) [.st [.int .i64 n1, .int .i64 n2, .str n3, .own .str n4, .dp .node n5], .bool b] (fun r rs => K (fixR r) (fixAs rs)) := by
  simp only [BdAs, BdA, BdL, BdC, MX, ndC, shC, itC, stC, opC, chC, nwC, flC, rqC, rsC, enc, List.cons_append, List.nil_append, and_true, true_and] at hb
  unfold c69d at h
  have hK9 := h
  conv => whnf
  repeat' first|((first|refine Cnd.mk (fun h=>?_) (fun h=>?_)|refine Gd.mk (fun h=>?_))<;>(try simp [etas,elDef,-List.getD_eq_getElem?_getD] at h)<;>conv=>whnf)|((first|refine Obl.mk (by first|omega|rfl|exact inK_byte _|(simp only [inK,Int.toNat_natCast,etas,elDef]<;>first|omega|grind)|grind [inK]) ?_|refine OblG.mk (by ((conv=>whnf);(repeat (first|refine Bx.mk ?_|(intro h;(try simp [etas,elDef,-List.getD_eq_getElem?_getD] at h);conv=>whnf)));(first|omega|rfl|exact inK_byte _|(simp only [inK,Int.toNat_natCast,etas,elDef]<;>first|omega|grind)|grind [inK]))) ?_|refine And.intro ?_ ?_)<;>conv=>whnf)|exact True.intro|(intro;conv=>whnf)
  · exact leafV hK9 (by rw [if_neg (by grind)]; rfl)
  · exact leafV hK9 (by rw [if_pos (by grind)]; rfl)
theorem s69d : (CtrOK Try.prog 69 (.gen .ow C69d) ∧ Callable Try.prog 69) := by
  refine gen_okD (E := E69d) (mkE_cons s68 (mkE_nil tab_ok)) mix (O := O69d) (D := D69d) (own := .ow) Try.func69 rfl (by rfl) (by kernel_rfl) (fun args K h hbd => ?_)
  unfold D69d at h; split at h
  case h_2 => exact h.elim
  exact ⟨Nat.le_of_ble_eq_true rfl, a69d _ _ _ _ _ _ (by exact hbd) _ h⟩
end Go.Rs
end
end
