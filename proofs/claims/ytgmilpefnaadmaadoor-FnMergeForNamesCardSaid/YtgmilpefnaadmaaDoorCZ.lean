import Derived.Test.YtgmilpefnaadmaaDoorCW
import Derived.Test.YtgmilpefnaadmaaDoorCP
import Derived.Test.YtgmilpefnaadmaaDoorCR
import Derived.Test.YtgmilpefnaadmaaDoorMD
set_option linter.all false
namespace Go.Rs
open Go.Proofs
set_option maxRecDepth 100000
set_option linter.unusedVariables false
set_option linter.unusedSimpArgs false
noncomputable def v78 (a : Nd) (b : Nd) : AV := .bool (decide (cmpN a b = 0))
noncomputable def o78 (a : Nd) (b : Nd) : Prop := okN a ∧ okN b
noncomputable def F78 : List AV → QR
  | [.st [.int .i64 a_0, .int .i64 a_1, .str a_2, .ps .str a_3, .ps .node a_4], .st [.int .i64 b_0, .int .i64 b_1, .str b_2, .ps .str b_3, .ps .node b_4]] => some (some (o78 ⟨a_0, a_1, a_2, a_3, a_4⟩ ⟨b_0, b_1, b_2, b_3, b_4⟩), v78 ⟨a_0, a_1, a_2, a_3, a_4⟩ ⟨b_0, b_1, b_2, b_3, b_4⟩)
  | _ => none
noncomputable def E78 : Ctx := mkE tab [(94, .pure F94)]
noncomputable def O78 : Nat → List DI := ordL []
theorem a78 (a : Nd) (b : Nd) (hb : BdAs [.st (ndC a), .st (ndC b)]) (ho : o78 a b) (K : AV → List AV → Prop) (hK : K (v78 a b) []) : abody E78 O78 .ps Tryd.f78 (Tryd.f78.body.getD .skip) [.st (ndC a), .st (ndC b)] K := by
  simp only [BdAs, BdA, BdL, BdC, MX, ndC, shC, itC, stC, opC, chC, nwC, flC, rqC, rsC, enc, List.cons_append, List.nil_append, and_true, true_and] at hb
  unfold o78 at ho
  unfold v78 at hK
  conv => whnf
  repeat' first
    | (refine Cnd.mk (fun h => ?_) (fun h => ?_) <;> (try simp [etas, elDef, -List.getD_eq_getElem?_getD] at h) <;> conv => whnf)
    | (refine Obl.mk (by first | omega | rfl | exact inK_byte _ | (simp only [inK, Int.toNat_natCast, etas, elDef, o94, m94] <;> first | omega | grind) | grind [inK, o94, m94]) ?_ <;> conv => whnf)
    | (refine OblG.mk (by conv => whnf
                          repeat (first | (refine Bx.mk ?_) | (intro h; (try simp [etas, elDef, -List.getD_eq_getElem?_getD] at h); conv => whnf))
                          first | omega | rfl | exact inK_byte _ | (simp only [inK, Int.toNat_natCast, etas, elDef, o94, m94] <;> first | omega | grind) | grind [inK, o94, m94]) ?_ <;> conv => whnf)
    | (refine Gd.mk (fun h => ?_) <;> (try simp [etas, elDef, -List.getD_eq_getElem?_getD] at h) <;> conv => whnf)
    | (refine And.intro ?_ ?_ <;> conv => whnf)
    | exact True.intro
    | (intro; conv => whnf)
  exact leafB hK (by simp only [nd_eta])
theorem s78 : (CtrOK Tryd.prog 78 (.pure F78) ∧ Callable Tryd.prog 78) := by
  refine pure_ok (E := E78) (mkE_cons s94 (mkE_nil tab_ok)) mix (O := O78) (F := F78) Tryd.func78 rfl (by rfl) (by kernel_rfl) (fun args o v h => ?_) (fun args o v h => ?_) (fun args o v h hbd hp K hK => ?_)
  · unfold F78 at h; split at h <;> cases h; first | trivial | (simp [v78, Scalar, Scalar2, Scalar1, stC, ndC, itC, chC, nwC])
  · unfold F78 at h; split at h <;> cases h; exact Nat.le_of_ble_eq_true rfl
  · unfold F78 at h; split at h
    case h_2 => cases h
    cases h
    exact a78 ⟨_, _, _, _, _⟩ ⟨_, _, _, _, _⟩ (by exact hbd) (hp _ rfl) K hK
theorem leafV2 {K : AV → List AV → Prop} {a b : AV} {r s : List AV} (hK : K a r) (h : a = b ∧ r = s) : K b s := by obtain ⟨h1, h2⟩ := h; rw [← h1, ← h2]; exact hK
theorem smN_zero : smN ⟨0, 0, [], [], []⟩ := smN_leaf (by simp)
theorem under_path {s : Bs} {l : List Opn} {c : Nat} (h : ∀ o ∈ l, o.path.length ≤ c) : ∀ o ∈ l.map (fun o => (⟨o.kind, s :: o.path, [], o.value⟩ : Opn)), o.path.length ≤ c + 1 := by
  intro o ho
  simp only [List.mem_map] at ho
  obtain ⟨x, hx, rfl⟩ := ho
  have := h x hx
  simp; omega
theorem path_app {l m : List Opn} {c : Nat} (h1 : ∀ o ∈ l, o.path.length ≤ c) (h2 : ∀ o ∈ m, o.path.length ≤ c) : ∀ o ∈ l ++ m, o.path.length ≤ c := by
  intro o ho
  rcases List.mem_append.1 ho with h | h
  · exact h1 o h
  · exact h2 o h
theorem path_le {l : List Opn} {c d : Nat} (h : ∀ o ∈ l, o.path.length ≤ c) (hcd : c ≤ d) : ∀ o ∈ l, o.path.length ≤ d := fun o ho => Nat.le_trans (h o ho) hcd
def underM (s : Bs) (l : List Opn) : List Opn := l.map fun o => ⟨o.kind, s :: o.path, [], o.value⟩
theorem underM_len (s : Bs) (l : List Opn) : (underM s l).length = l.length := by simp [underM]
theorem underM_take {s : Bs} {l : List Opn} {i : Nat} (h : i < l.length) : underM s (l.take (i + 1)) = underM s (l.take i) ++ [⟨(l.getD i default).kind, s :: (l.getD i default).path, [], (l.getD i default).value⟩] := by
  unfold underM; rw [← take_snoc default h, List.map_append]; rfl
end Go.Rs

