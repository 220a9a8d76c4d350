import Derived.Test.YtmkgadogaefkaaaEK
import Derived.Test.YtmkgadogaefkaaaInG
import Derived.Test.YtmkgadogaefkaaaDeG
import Derived.Test.YtmkgadogaefkaaaCI
import Derived.Test.YtmkgadogaefkaaaMB
import Derived.Test.YtmkgadogaefkaaaCE
set_option linter.all false
set_option linter.unusedSimpArgs false
set_option linter.unusedVariables false
namespace Go.Rs
open Go.Proofs
set_option maxRecDepth 100000
def stD (s : Sto) : List AV := [.dp .item s.items, .int .i64 s.clock]
def optSD (o : Option Sto) : AV := .tup [.st (stD (o.getD ⟨[], 0⟩)), .bool o.isSome]
noncomputable def c33d (l : List It) (a : Bs) (v : Int) (kd : Int) (m : Int) (t : Bs) (ns : List Bs) (ks : List Nd) (K : AV → List AV → Prop) : Prop :=
    Obl (sortedI l ∧ l.length ≤ 2097152) (K (.dp .item (putL l ⟨a, v, ⟨kd, m, t, ns, ks⟩⟩)) [])
noncomputable def D33d : List AV → (AV → List AV → Prop) → Prop
  | [.dp .item l, .st [.str a, .int .i64 v, .int .i64 kd, .int .i64 m, .str t, .own .str ns, .dp .node ks]], K => c33d l a v kd m t ns ks K
  | _, _ => False
noncomputable def C33d (args : List AV) (K : AV → List AV → Prop) : Prop := D33d (fixAs args) K
noncomputable def E33d : Ctx := mkE tab [(35, .pure F35), (68, .gen .ow C68d)]
noncomputable def O33d : Nat → List DI := ordL []
theorem a33d (l : List It) (a : Bs) (v : Int) (kd : Int) (m : Int) (t : Bs) (ns : List Bs) (ks : List Nd) (hb : BdAs [.dp .item l, .st [.str a, .int .i64 v, .int .i64 kd, .int .i64 m, .str t, .own .str ns, .dp .node ks]]) (K : AV → List AV → Prop) (h : c33d l a v kd m t ns ks K) : abodyD E33d O33d .ow Try.f33 (Try.f33.body.getD .skip) [.dp .item l, .st [.str a, .int .i64 v, .int .i64 kd, .int .i64 m, .str t, .own .str ns, .dp .node ks]] (fun r rs => K (fixR r) (fixAs rs)) := by
  simp only [BdAs, BdA, BdL, BdC, MX, ndC, shC, itC, stC, opC, chC, nwC, flC, rqC, rsC, enc, List.cons_append, List.nil_append, and_true, true_and] at hb
  unfold c33d at h
  obtain ⟨it, eit⟩ : ∃ it : It, it = ⟨a, v, ⟨kd, m, t, ns, ks⟩⟩ := ⟨_, rfl⟩
  have en : a = it.name := by rw [eit]
  rw [← eit] at h
  obtain ⟨⟨ho, hl⟩, hK⟩ := h
  have hle := lbI_le l it.name
  have hfl : foundI l it.name = true → lbI l it.name < l.length := fun h => by simp only [foundI, Bool.and_eq_true, decide_eq_true_eq] at h; exact h.1
  have hp1 := fun h => putL_found (it := it) (ascI_sorted.2 ho) h
  have hp2 := fun h => putL_new (it := it) (ascI_sorted.2 ho) h
  subst en
  conv => whnf
  repeat' first|(refine Cnd.mk (fun h=>?_) (fun h=>?_)<;>(try simp [etas,elDef,-List.getD_eq_getElem?_getD] at h)<;>conv=>whnf)|(refine Obl.mk (by first|omega|rfl|exact inK_byte _|(simp only [inK,Int.toNat_natCast,etas,elDef,o35]<;>first|omega|grind)|grind [inK,o35]) ?_<;>conv=>whnf)|(refine OblG.mk (by ((conv=>whnf);(repeat (first|(refine Bx.mk ?_)|(intro h;(try simp [etas,elDef,-List.getD_eq_getElem?_getD] at h);conv=>whnf)));(first|omega|rfl|exact inK_byte _|(simp only [inK,Int.toNat_natCast,etas,elDef,o35]<;>first|omega|grind)|grind [inK,o35]))) ?_<;>conv=>whnf)|(refine Gd.mk (fun h=>?_)<;>(try simp [etas,elDef,-List.getD_eq_getElem?_getD] at h)<;>conv=>whnf)|(refine And.intro ?_ ?_<;>conv=>whnf)|exact True.intro|(intro;conv=>whnf)
  · exact leafV hK (by rw [hp1 h]; simp only [fixR, fixV, fix1, etas, elDef, Int.toNat_natCast]; rw [← eit]; first | done | rfl | simp)
  · exact leafV hK (by rw [hp2 h]; simp only [fixR, fixV, fix1, etas, elDef, Int.toNat_natCast]; rw [← eit]; first | done | rfl | simp)
theorem s33d : (CtrOK Try.prog 33 (.gen .ow C33d) ∧ Callable Try.prog 33) := by
  refine gen_okD (E := E33d) (mkE_cons s35 (mkE_cons s68d (mkE_nil tab_ok))) mix (O := O33d) (D := D33d) (own := .ow) Try.func33 rfl (by rfl) (by kernel_rfl) (fun args K h hbd => ?_)
  unfold D33d at h; split at h
  case h_2 => exact h.elim
  exact ⟨Nat.le_of_ble_eq_true rfl, a33d _ _ _ _ _ _ _ _ (by exact hbd) _ h⟩
end Go.Rs

