import Derived.Test.YtpiclhdjglelhaaDoorCW
import Derived.Test.YtpiclhdjglelhaaDoorCP
import Derived.Test.YtpiclhdjglelhaaDoorCR
import Derived.Test.YtpiclhdjglelhaaDoorMD
set_option linter.all false
namespace Go.Rs
open Go.Proofs
set_option maxRecDepth 100000
set_option linter.unusedVariables false
set_option linter.unusedSimpArgs false
noncomputable def v74 (a : Nd) (b : Nd) : AV := .bool (decide (cmpN a b = 0))
noncomputable def o74 (a : Nd) (b : Nd) : Prop := okN a ∧ okN b
noncomputable def F74 : List AV → QR
  | [.st [.int .i64 a_0, .int .i64 a_1, .str a_2, .ps .str a_3, .ps .node a_4], .st [.int .i64 b_0, .int .i64 b_1, .str b_2, .ps .str b_3, .ps .node b_4]] => some (some (o74 ⟨a_0, a_1, a_2, a_3, a_4⟩ ⟨b_0, b_1, b_2, b_3, b_4⟩), v74 ⟨a_0, a_1, a_2, a_3, a_4⟩ ⟨b_0, b_1, b_2, b_3, b_4⟩)
  | _ => none
noncomputable def E74 : Ctx := mkE tab [(98, .pure F98)]
noncomputable def O74 : Nat → List DI := ordL []
theorem a74 (a : Nd) (b : Nd) (hb : BdAs [.st (ndC a), .st (ndC b)]) (ho : o74 a b) (K : AV → List AV → Prop) (hK : K (v74 a b) []) : abody E74 O74 .ps Tryd.f74 (Tryd.f74.body.getD .skip) [.st (ndC a), .st (ndC b)] K := by
  simp only [BdAs, BdA, BdL, BdC, MX, ndC, shC, itC, stC, opC, chC, nwC, flC, rqC, rsC, enc, List.cons_append, List.nil_append, and_true, true_and] at hb
  unfold o74 at ho
  unfold v74 at hK
  conv => whnf
  repeat' first
    | (refine Cnd.mk (fun h => ?_) (fun h => ?_) <;> (try simp [nd_eta, sh_eta, it_eta, sto_eta, op_eta, ch_eta, nw_eta, fl_eta, rq_eta, rs_eta, elDef, -List.getD_eq_getElem?_getD] at h) <;> conv => whnf)
    | (refine Obl.mk (by first | omega | rfl | exact inK_byte _ | (simp only [inK, Int.toNat_natCast, nd_eta, sh_eta, it_eta, sto_eta, op_eta, ch_eta, nw_eta, fl_eta, rq_eta, rs_eta, elDef, o98, m98] <;> first | omega | grind) | grind [inK, o98, m98]) ?_ <;> conv => whnf)
    | (refine OblG.mk (by conv => whnf
                          repeat (first | (refine Bx.mk ?_) | (intro h; (try simp [nd_eta, sh_eta, it_eta, sto_eta, op_eta, ch_eta, nw_eta, fl_eta, rq_eta, rs_eta, elDef, -List.getD_eq_getElem?_getD] at h); conv => whnf))
                          first | omega | rfl | exact inK_byte _ | (simp only [inK, Int.toNat_natCast, nd_eta, sh_eta, it_eta, sto_eta, op_eta, ch_eta, nw_eta, fl_eta, rq_eta, rs_eta, elDef, o98, m98] <;> first | omega | grind) | grind [inK, o98, m98]) ?_ <;> conv => whnf)
    | (refine Gd.mk (fun h => ?_) <;> (try simp [nd_eta, sh_eta, it_eta, sto_eta, op_eta, ch_eta, nw_eta, fl_eta, rq_eta, rs_eta, elDef, -List.getD_eq_getElem?_getD] at h) <;> conv => whnf)
    | (refine And.intro ?_ ?_ <;> conv => whnf)
    | exact True.intro
    | (intro; conv => whnf)
  exact leafB hK (by simp only [nd_eta])
theorem s74 : (CtrOK Tryd.prog 74 (.pure F74) ∧ Callable Tryd.prog 74) := by
  refine pure_ok (E := E74) (mkE_cons s98 (mkE_nil tab_ok)) mix (O := O74) (F := F74) Tryd.func74 rfl (by rfl) (by kernel_rfl) (fun args o v h => ?_) (fun args o v h => ?_) (fun args o v h hbd hp K hK => ?_)
  · unfold F74 at h; split at h <;> cases h; first | trivial | (simp [v74, Scalar, Scalar2, Scalar1, stC, ndC, itC, chC, nwC])
  · unfold F74 at h; split at h <;> cases h; exact Nat.le_of_ble_eq_true rfl
  · unfold F74 at h; split at h
    case h_2 => cases h
    cases h
    exact a74 ⟨_, _, _, _, _⟩ ⟨_, _, _, _, _⟩ (by exact hbd) (hp _ rfl) K hK
theorem leafV2 {K : AV → List AV → Prop} {a b : AV} {r s : List AV} (hK : K a r) (h : a = b ∧ r = s) : K b s := by obtain ⟨h1, h2⟩ := h; rw [← h1, ← h2]; exact hK
noncomputable def c100 (l : List Bs) (K : AV → List AV → Prop) : Prop :=
    Obl (l.length ≤ 1000000) (K (.own .str l) [])
noncomputable def C100 : List AV → (AV → List AV → Prop) → Prop
  | [.ps .str l], K => c100 l K
  | _, _ => False
noncomputable def E100 : Ctx := mkE tab []
noncomputable def O100 : Nat → List DI := ordL []
theorem a100 (l : List Bs) (hb : BdAs [.ps .str l]) (K : AV → List AV → Prop) (h : c100 l K) : abody E100 O100 .ow Tryd.f100 (Tryd.f100.body.getD .skip) [.ps .str l] K := by
  simp only [BdAs, BdA, BdL, BdC, MX, ndC, shC, itC, stC, opC, chC, nwC, flC, rqC, rsC, enc, List.cons_append, List.nil_append, and_true, true_and] at hb
  unfold c100 at h
  obtain ⟨hl, hK⟩ := h
  conv => whnf
  repeat' first
    | (refine Cnd.mk (fun h => ?_) (fun h => ?_) <;> (try simp [nd_eta, sh_eta, it_eta, sto_eta, op_eta, ch_eta, nw_eta, fl_eta, rq_eta, rs_eta, elDef, -List.getD_eq_getElem?_getD] at h) <;> conv => whnf)
    | (refine Obl.mk (by first | omega | rfl | exact inK_byte _ | (simp only [inK, Int.toNat_natCast, nd_eta, sh_eta, it_eta, sto_eta, op_eta, ch_eta, nw_eta, fl_eta, rq_eta, rs_eta, elDef] <;> first | omega | grind) | grind [inK]) ?_ <;> conv => whnf)
    | (refine OblG.mk (by conv => whnf
                          repeat (first | (refine Bx.mk ?_) | (intro h; (try simp [nd_eta, sh_eta, it_eta, sto_eta, op_eta, ch_eta, nw_eta, fl_eta, rq_eta, rs_eta, elDef, -List.getD_eq_getElem?_getD] at h); conv => whnf))
                          first | omega | rfl | exact inK_byte _ | (simp only [inK, Int.toNat_natCast, nd_eta, sh_eta, it_eta, sto_eta, op_eta, ch_eta, nw_eta, fl_eta, rq_eta, rs_eta, elDef] <;> first | omega | grind) | grind [inK]) ?_ <;> conv => whnf)
    | (refine Gd.mk (fun h => ?_) <;> (try simp [nd_eta, sh_eta, it_eta, sto_eta, op_eta, ch_eta, nw_eta, fl_eta, rq_eta, rs_eta, elDef, -List.getD_eq_getElem?_getD] at h) <;> conv => whnf)
    | (refine And.intro ?_ ?_ <;> conv => whnf)
    | exact True.intro
    | (intro; conv => whnf)
  · rw [h] at hK; exact hK
  · exact leafV hK (by simp)
theorem s100 : (CtrOK Tryd.prog 100 (.gen .ow C100) ∧ Callable Tryd.prog 100) := by
  refine gen_ok (E := E100) (mkE_nil tab_ok) mix (O := O100) (C := C100) (own := .ow) Tryd.func100 rfl (by rfl) (by kernel_rfl) (fun args K h hbd => ?_)
  unfold C100 at h; split at h
  case h_2 => exact h.elim
  exact ⟨Nat.le_of_ble_eq_true rfl, a100 _ (by exact hbd) _ h⟩
noncomputable def c99 (l : List Bs) (s : Bs) (K : AV → List AV → Prop) : Prop :=
    Obl (l.length ≤ 1000000) (K (.ps .str (l ++ [s])) [])
noncomputable def C99 : List AV → (AV → List AV → Prop) → Prop
  | [.ps .str l, .str s], K => c99 l s K
  | _, _ => False
noncomputable def E99 : Ctx := mkE tab []
noncomputable def O99 : Nat → List DI := ordL []
theorem a99 (l : List Bs) (s : Bs) (hb : BdAs [.ps .str l, .str s]) (K : AV → List AV → Prop) (h : c99 l s K) : abody E99 O99 .ps Tryd.f99 (Tryd.f99.body.getD .skip) [.ps .str l, .str s] K := by
  simp only [BdAs, BdA, BdL, BdC, MX, ndC, shC, itC, stC, opC, chC, nwC, flC, rqC, rsC, enc, List.cons_append, List.nil_append, and_true, true_and] at hb
  unfold c99 at h
  obtain ⟨hl, hK⟩ := h
  conv => whnf
  repeat' first
    | (refine Cnd.mk (fun h => ?_) (fun h => ?_) <;> (try simp [nd_eta, sh_eta, it_eta, sto_eta, op_eta, ch_eta, nw_eta, fl_eta, rq_eta, rs_eta, elDef, -List.getD_eq_getElem?_getD] at h) <;> conv => whnf)
    | (refine Obl.mk (by first | omega | rfl | exact inK_byte _ | (simp only [inK, Int.toNat_natCast, nd_eta, sh_eta, it_eta, sto_eta, op_eta, ch_eta, nw_eta, fl_eta, rq_eta, rs_eta, elDef] <;> first | omega | grind) | grind [inK]) ?_ <;> conv => whnf)
    | (refine OblG.mk (by conv => whnf
                          repeat (first | (refine Bx.mk ?_) | (intro h; (try simp [nd_eta, sh_eta, it_eta, sto_eta, op_eta, ch_eta, nw_eta, fl_eta, rq_eta, rs_eta, elDef, -List.getD_eq_getElem?_getD] at h); conv => whnf))
                          first | omega | rfl | exact inK_byte _ | (simp only [inK, Int.toNat_natCast, nd_eta, sh_eta, it_eta, sto_eta, op_eta, ch_eta, nw_eta, fl_eta, rq_eta, rs_eta, elDef] <;> first | omega | grind) | grind [inK]) ?_ <;> conv => whnf)
    | (refine Gd.mk (fun h => ?_) <;> (try simp [nd_eta, sh_eta, it_eta, sto_eta, op_eta, ch_eta, nw_eta, fl_eta, rq_eta, rs_eta, elDef, -List.getD_eq_getElem?_getD] at h) <;> conv => whnf)
    | (refine And.intro ?_ ?_ <;> conv => whnf)
    | exact True.intro
    | (intro; conv => whnf)
  exact leafV hK (by simp)
theorem s99 : (CtrOK Tryd.prog 99 (.gen .ps C99) ∧ Callable Tryd.prog 99) := by
  refine gen_ok (E := E99) (mkE_nil tab_ok) mix (O := O99) (C := C99) (own := .ps) Tryd.func99 rfl (by rfl) (by kernel_rfl) (fun args K h hbd => ?_)
  unfold C99 at h; split at h
  case h_2 => exact h.elim
  exact ⟨Nat.le_of_ble_eq_true rfl, a99 _ _ (by exact hbd) _ h⟩
noncomputable def c77 (l : List Opn) (k : Int) (p : List Bs) (n : Nd) (K : AV → List AV → Prop) : Prop :=
    Obl ((smN n ∧ l.length ≤ 10000000) ∧ p.length ≤ 1000000) (K (.tup []) [.ref [.own .opn (l ++ [⟨k, p, [], n⟩])]])
noncomputable def C77 : List AV → (AV → List AV → Prop) → Prop
  | [.ref [.own .opn l], .int .i64 k, .ps .str p, .st [.int .i64 n_0, .int .i64 n_1, .str n_2, .ps .str n_3, .ps .node n_4]], K => c77 l k p ⟨n_0, n_1, n_2, n_3, n_4⟩ K
  | _, _ => False
noncomputable def E77 : Ctx := mkE tab [(40, .gen .ow C40), (100, .gen .ow C100)]
noncomputable def O77 : Nat → List DI := ordL [(1, [.q 0, .q 1, .q 2, .q 3, .q 4, .q 5, .q 6, .q 8, .l 7 [4, 8], .l 9 [4], .q 10, .l 11 [4], .l 12 [], .q 13, .q 14, .l 15 []])]
theorem a77 (l : List Opn) (k : Int) (p : List Bs) (n : Nd) (hb : BdAs [.ref [.own .opn l], .int .i64 k, .ps .str p, .st (ndC n)]) (K : AV → List AV → Prop) (h : c77 l k p n K) : abody E77 O77 .ps Tryd.f77 (Tryd.f77.body.getD .skip) [.ref [.own .opn l], .int .i64 k, .ps .str p, .st (ndC n)] K := by
  simp only [BdAs, BdA, BdL, BdC, MX, ndC, shC, itC, stC, opC, chC, nwC, flC, rqC, rsC, enc, List.cons_append, List.nil_append, and_true, true_and] at hb
  unfold c77 at h
  obtain ⟨⟨⟨hn, hl⟩, hp⟩, hK⟩ := h
  have hl2 : l.length + [(default : Opn)].length ≤ 1073741824 := by simp; omega
  conv => whnf
  repeat' first
    | (refine Cnd.mk (fun h => ?_) (fun h => ?_) <;> (try simp [nd_eta, sh_eta, it_eta, sto_eta, op_eta, ch_eta, nw_eta, fl_eta, rq_eta, rs_eta, elDef, -List.getD_eq_getElem?_getD] at h) <;> conv => whnf)
    | (refine Obl.mk (by first | omega | rfl | exact inK_byte _ | (simp only [inK, Int.toNat_natCast, nd_eta, sh_eta, it_eta, sto_eta, op_eta, ch_eta, nw_eta, fl_eta, rq_eta, rs_eta, elDef, m40] <;> first | omega | grind) | grind [inK, m40]) ?_ <;> conv => whnf)
    | (refine OblG.mk (by conv => whnf
                          repeat (first | (refine Bx.mk ?_) | (intro h; (try simp [nd_eta, sh_eta, it_eta, sto_eta, op_eta, ch_eta, nw_eta, fl_eta, rq_eta, rs_eta, elDef, -List.getD_eq_getElem?_getD] at h); conv => whnf))
                          first | omega | rfl | exact inK_byte _ | (simp only [inK, Int.toNat_natCast, nd_eta, sh_eta, it_eta, sto_eta, op_eta, ch_eta, nw_eta, fl_eta, rq_eta, rs_eta, elDef, m40] <;> first | omega | grind) | grind [inK, m40]) ?_ <;> conv => whnf)
    | (refine Gd.mk (fun h => ?_) <;> (try simp [nd_eta, sh_eta, it_eta, sto_eta, op_eta, ch_eta, nw_eta, fl_eta, rq_eta, rs_eta, elDef, -List.getD_eq_getElem?_getD] at h) <;> conv => whnf)
    | (refine And.intro ?_ ?_ <;> conv => whnf)
    | exact True.intro
    | (intro; conv => whnf)
  exact leafV2 hK ⟨rfl, by simp only [nd_eta]⟩
theorem s77 : (CtrOK Tryd.prog 77 (.gen .ps C77) ∧ Callable Tryd.prog 77) := by
  refine gen_ok (E := E77) (mkE_cons s40 (mkE_cons s100 (mkE_nil tab_ok))) mix (O := O77) (C := C77) (own := .ps) Tryd.func77 rfl (by rfl) (by kernel_rfl) (fun args K h hbd => ?_)
  unfold C77 at h; split at h
  case h_2 => exact h.elim
  exact ⟨Nat.le_of_ble_eq_true rfl, a77 _ _ _ ⟨_, _, _, _, _⟩ (by exact hbd) _ h⟩
theorem smN_zero : smN ⟨0, 0, [], [], []⟩ := smN_leaf (by simp)
theorem under_path {s : Bs} {l : List Opn} {c : Nat} (h : ∀ o ∈ l, o.path.length ≤ c) : ∀ o ∈ l.map (fun o => (⟨o.kind, s :: o.path, [], o.value⟩ : Opn)), o.path.length ≤ c + 1 := by
  intro o ho
  simp only [List.mem_map] at ho
  obtain ⟨x, hx, rfl⟩ := ho
  have := h x hx
  simp; omega
theorem path_app {l m : List Opn} {c : Nat} (h1 : ∀ o ∈ l, o.path.length ≤ c) (h2 : ∀ o ∈ m, o.path.length ≤ c) : ∀ o ∈ l ++ m, o.path.length ≤ c := by
  intro o ho
  rcases List.mem_append.1 ho with h | h
  · exact h1 o h
  · exact h2 o h
theorem path_le {l : List Opn} {c d : Nat} (h : ∀ o ∈ l, o.path.length ≤ c) (hcd : c ≤ d) : ∀ o ∈ l, o.path.length ≤ d := fun o ho => Nat.le_trans (h o ho) hcd
noncomputable def c81 (k : Int) (p : List Bs) (n : Nd) (K : AV → List AV → Prop) : Prop :=
    Obl (smN n) (K (.st (opC ⟨k, p, [], n⟩)) [])
noncomputable def C81 : List AV → (AV → List AV → Prop) → Prop
  | [.int .i64 k, .ps .str p, .st [.int .i64 n_0, .int .i64 n_1, .str n_2, .ps .str n_3, .ps .node n_4]], K => c81 k p ⟨n_0, n_1, n_2, n_3, n_4⟩ K
  | _, _ => False
noncomputable def E81 : Ctx := mkE tab [(60, .gen .ps C60)]
noncomputable def O81 : Nat → List DI := ordL []
theorem a81 (k : Int) (p : List Bs) (n : Nd) (hb : BdAs [.int .i64 k, .ps .str p, .st (ndC n)]) (K : AV → List AV → Prop) (h : c81 k p n K) : abody E81 O81 .ps Tryd.f81 (Tryd.f81.body.getD .skip) [.int .i64 k, .ps .str p, .st (ndC n)] K := by
  simp only [BdAs, BdA, BdL, BdC, MX, ndC, shC, itC, stC, opC, chC, nwC, flC, rqC, rsC, enc, List.cons_append, List.nil_append, and_true, true_and] at hb
  unfold c81 at h
  obtain ⟨hn, hK⟩ := h
  conv => whnf
  repeat' first
    | (refine Cnd.mk (fun h => ?_) (fun h => ?_) <;> (try simp [nd_eta, sh_eta, it_eta, sto_eta, op_eta, ch_eta, nw_eta, fl_eta, rq_eta, rs_eta, elDef, -List.getD_eq_getElem?_getD] at h) <;> conv => whnf)
    | (refine Obl.mk (by first | omega | rfl | exact inK_byte _ | (simp only [inK, Int.toNat_natCast, nd_eta, sh_eta, it_eta, sto_eta, op_eta, ch_eta, nw_eta, fl_eta, rq_eta, rs_eta, elDef, m60] <;> first | omega | grind) | grind [inK, m60]) ?_ <;> conv => whnf)
    | (refine OblG.mk (by conv => whnf
                          repeat (first | (refine Bx.mk ?_) | (intro h; (try simp [nd_eta, sh_eta, it_eta, sto_eta, op_eta, ch_eta, nw_eta, fl_eta, rq_eta, rs_eta, elDef, -List.getD_eq_getElem?_getD] at h); conv => whnf))
                          first | omega | rfl | exact inK_byte _ | (simp only [inK, Int.toNat_natCast, nd_eta, sh_eta, it_eta, sto_eta, op_eta, ch_eta, nw_eta, fl_eta, rq_eta, rs_eta, elDef, m60] <;> first | omega | grind) | grind [inK, m60]) ?_ <;> conv => whnf)
    | (refine Gd.mk (fun h => ?_) <;> (try simp [nd_eta, sh_eta, it_eta, sto_eta, op_eta, ch_eta, nw_eta, fl_eta, rq_eta, rs_eta, elDef, -List.getD_eq_getElem?_getD] at h) <;> conv => whnf)
    | (refine And.intro ?_ ?_ <;> conv => whnf)
    | exact True.intro
    | (intro; conv => whnf)
  exact leafV hK (by simp only [nd_eta]; rfl)
theorem s81 : (CtrOK Tryd.prog 81 (.gen .ps C81) ∧ Callable Tryd.prog 81) := by
  refine gen_ok (E := E81) (mkE_cons s60 (mkE_nil tab_ok)) mix (O := O81) (C := C81) (own := .ps) Tryd.func81 rfl (by rfl) (by kernel_rfl) (fun args K h hbd => ?_)
  unfold C81 at h; split at h
  case h_2 => exact h.elim
  exact ⟨Nat.le_of_ble_eq_true rfl, a81 _ _ ⟨_, _, _, _, _⟩ (by exact hbd) _ h⟩
def underM (s : Bs) (l : List Opn) : List Opn := l.map fun o => ⟨o.kind, s :: o.path, [], o.value⟩
theorem underM_len (s : Bs) (l : List Opn) : (underM s l).length = l.length := by simp [underM]
theorem underM_take {s : Bs} {l : List Opn} {i : Nat} (h : i < l.length) : underM s (l.take (i + 1)) = underM s (l.take i) ++ [⟨(l.getD i default).kind, s :: (l.getD i default).path, [], (l.getD i default).value⟩] := by
  unfold underM; rw [← take_snoc default h, List.map_append]; rfl
noncomputable def c102 (s : Bs) (l : List Opn) (K : AV → List AV → Prop) : Prop :=
    Obl (l.length ≤ 1000000 ∧ ∀ o ∈ l, o.path.length ≤ 1000000) (K (.ps .opn (underM s l)) [])
noncomputable def C102 : List AV → (AV → List AV → Prop) → Prop
  | [.str s, .ps .opn l], K => c102 s l K
  | _, _ => False
noncomputable def E102 : Ctx := mkE tab []
noncomputable def O102 : Nat → List DI := ordL [(6, [.q 0, .q 1, .q 2, .q 3, .q 4, .q 5, .q 6, .q 8, .q 9, .q 10, .q 11, .q 12, .l 7 [3, 5, 10, 12], .q 13, .l 14 [], .l 15 [], .q 16])]
theorem a102 (s : Bs) (l : List Opn) (hb : BdAs [.str s, .ps .opn l]) (K : AV → List AV → Prop) (h : c102 s l K) : abody E102 O102 .ps Tryd.f102 (Tryd.f102.body.getD .skip) [.str s, .ps .opn l] K := by
  simp only [BdAs, BdA, BdL, BdC, MX, ndC, shC, itC, stC, opC, chC, nwC, flC, rqC, rsC, enc, List.cons_append, List.nil_append, and_true, true_and] at hb
  unfold c102 at h
  obtain ⟨⟨hl, hp⟩, hK⟩ := h
  conv => whnf
  repeat' first
    | (refine Cnd.mk (fun h => ?_) (fun h => ?_) <;> (try simp [nd_eta, sh_eta, it_eta, sto_eta, op_eta, ch_eta, nw_eta, fl_eta, rq_eta, rs_eta, elDef, -List.getD_eq_getElem?_getD] at h) <;> conv => whnf)
    | (refine Obl.mk (by first | omega | rfl | exact inK_byte _ | (simp only [inK, Int.toNat_natCast, nd_eta, sh_eta, it_eta, sto_eta, op_eta, ch_eta, nw_eta, fl_eta, rq_eta, rs_eta, elDef] <;> first | omega | grind) | grind [inK]) ?_ <;> conv => whnf)
    | (refine OblG.mk (by conv => whnf
                          repeat (first | (refine Bx.mk ?_) | (intro h; (try simp [nd_eta, sh_eta, it_eta, sto_eta, op_eta, ch_eta, nw_eta, fl_eta, rq_eta, rs_eta, elDef, -List.getD_eq_getElem?_getD] at h); conv => whnf))
                          first | omega | rfl | exact inK_byte _ | (simp only [inK, Int.toNat_natCast, nd_eta, sh_eta, it_eta, sto_eta, op_eta, ch_eta, nw_eta, fl_eta, rq_eta, rs_eta, elDef] <;> first | omega | grind) | grind [inK]) ?_ <;> conv => whnf)
    | (refine Gd.mk (fun h => ?_) <;> (try simp [nd_eta, sh_eta, it_eta, sto_eta, op_eta, ch_eta, nw_eta, fl_eta, rq_eta, rs_eta, elDef, -List.getD_eq_getElem?_getD] at h) <;> conv => whnf)
    | (refine And.intro ?_ ?_ <;> conv => whnf)
    | exact True.intro
    | (intro; conv => whnf)
  have hu0 : underM s [] = [] := rfl
  refine aloop_intro (Nat × List Opn) (fun ⟨i, m⟩ => i ≤ l.length ∧ m = underM s (l.take i)) (fun ⟨i, m⟩ => l.length - i) (fun ⟨i, m⟩ => [(6, .int .i64 i), (5, .ls 900)]) (fun ⟨i, m⟩ => [(900, .arr .opn m)]) [] (0, []) [(900, 8)] [] ?_ ?_ (by exact sgOk_of (by rfl)) ?_
  · first | (simp; done) | (simp; assumption) | (simp only; grind)
  · (conv => whnf); (repeat' (first | exact trivial | rfl | (refine nilEq ?_; first | rfl | (simp only [*]; done) | (simp [*]; done) | grind) | apply And.intro | ((first | refine intEq ?_ | refine boolEq ?_ | refine strEq ?_ | refine psEq ?_ | refine nilEq ?_ | refine arrEq ?_); (try simp only [Int.toNat_natCast, nd_eta, sh_eta, it_eta, sto_eta, op_eta, ch_eta, nw_eta, fl_eta, rq_eta, rs_eta, elDef]); first | done | omega | grind | (simp only [*]; done) | (simp [*]; done)))); (all_goals (conv => whnf)); (repeat' (first | exact trivial | rfl | (refine nilEq ?_; first | rfl | (simp only [*]; done) | (simp [*]; done) | grind) | apply And.intro | ((first | refine intEq ?_ | refine boolEq ?_ | refine strEq ?_ | refine psEq ?_ | refine nilEq ?_ | refine arrEq ?_); (try simp only [Int.toNat_natCast, nd_eta, sh_eta, it_eta, sto_eta, op_eta, ch_eta, nw_eta, fl_eta, rq_eta, rs_eta, elDef]); first | done | omega | grind | (simp only [*]; done) | (simp [*]; done)) | ((try simp only [Int.toNat_natCast, nd_eta, sh_eta, it_eta, sto_eta, op_eta, ch_eta, nw_eta, fl_eta, rq_eta, rs_eta, elDef]); first | done | omega | grind | (simp only [*]; done) | (simp [*]; done))))
  rintro ⟨i, m⟩ hinv
  dsimp only at hinv
  conv => whnf
  obtain ⟨hi, hm⟩ := hinv
  have hml : m.length ≤ l.length := by rw [hm, underM_len]; simp; omega
  have hpi := fun (h : i < l.length) => hp _ (getD_mem (d := default) h)
  have htk := fun (h : i < l.length) => underM_take (s := s) h
  have hl2 : m.length + [(default : Opn)].length ≤ 1073741824 := by simp; omega
  repeat' first
    | (refine Cnd.mk (fun h => ?_) (fun h => ?_) <;> (try simp [nd_eta, sh_eta, it_eta, sto_eta, op_eta, ch_eta, nw_eta, fl_eta, rq_eta, rs_eta, elDef, -List.getD_eq_getElem?_getD] at h) <;> conv => whnf)
    | (refine Obl.mk (by first | omega | rfl | exact inK_byte _ | (simp only [inK, Int.toNat_natCast, nd_eta, sh_eta, it_eta, sto_eta, op_eta, ch_eta, nw_eta, fl_eta, rq_eta, rs_eta, elDef] <;> first | omega | grind) | grind [inK]) ?_ <;> conv => whnf)
    | (refine OblG.mk (by conv => whnf
                          repeat (first | (refine Bx.mk ?_) | (intro h; (try simp [nd_eta, sh_eta, it_eta, sto_eta, op_eta, ch_eta, nw_eta, fl_eta, rq_eta, rs_eta, elDef, -List.getD_eq_getElem?_getD] at h); conv => whnf))
                          first | omega | rfl | exact inK_byte _ | (simp only [inK, Int.toNat_natCast, nd_eta, sh_eta, it_eta, sto_eta, op_eta, ch_eta, nw_eta, fl_eta, rq_eta, rs_eta, elDef] <;> first | omega | grind) | grind [inK]) ?_ <;> conv => whnf)
    | (refine Gd.mk (fun h => ?_) <;> (try simp [nd_eta, sh_eta, it_eta, sto_eta, op_eta, ch_eta, nw_eta, fl_eta, rq_eta, rs_eta, elDef, -List.getD_eq_getElem?_getD] at h) <;> conv => whnf)
    | (refine And.intro ?_ ?_ <;> conv => whnf)
    | exact True.intro
    | (intro; conv => whnf)
  · exact ⟨(i + 1, _), [(900, 38)], [], ⟨by omega, by rw [htk (by assumption), ← hm]⟩, by show l.length - (i + 1) < l.length - i; omega, by (conv => whnf); (repeat' (first | exact trivial | rfl | (refine nilEq ?_; first | rfl | (simp only [*]; done) | (simp [*]; done) | grind) | apply And.intro | ((first | refine intEq ?_ | refine boolEq ?_ | refine strEq ?_ | refine psEq ?_ | refine nilEq ?_ | refine arrEq ?_); (try simp only [Int.toNat_natCast, nd_eta, sh_eta, it_eta, sto_eta, op_eta, ch_eta, nw_eta, fl_eta, rq_eta, rs_eta, elDef]); first | done | omega | grind | (simp only [*]; done) | (simp [*]; done)))); (all_goals (conv => whnf)); (repeat' (first | exact trivial | rfl | (refine nilEq ?_; first | rfl | (simp only [*]; done) | (simp [*]; done) | grind) | apply And.intro | ((first | refine intEq ?_ | refine boolEq ?_ | refine strEq ?_ | refine psEq ?_ | refine nilEq ?_ | refine arrEq ?_); (try simp only [Int.toNat_natCast, nd_eta, sh_eta, it_eta, sto_eta, op_eta, ch_eta, nw_eta, fl_eta, rq_eta, rs_eta, elDef]); first | done | omega | grind | (simp only [*]; done) | (simp [*]; done)) | ((try simp only [Int.toNat_natCast, nd_eta, sh_eta, it_eta, sto_eta, op_eta, ch_eta, nw_eta, fl_eta, rq_eta, rs_eta, elDef]); first | done | omega | grind | (simp only [*]; done) | (simp [*]; done)))), (by exact sgOk_of (by rfl))⟩
  · exact leafV hK (by rw [hm, List.take_of_length_le (by omega)])
theorem s102 : (CtrOK Tryd.prog 102 (.gen .ps C102) ∧ Callable Tryd.prog 102) := by
  refine gen_ok (E := E102) (mkE_nil tab_ok) mix (O := O102) (C := C102) (own := .ps) Tryd.func102 rfl (by rfl) (by kernel_rfl) (fun args K h hbd => ?_)
  unfold C102 at h; split at h
  case h_2 => exact h.elim
  exact ⟨Nat.le_of_ble_eq_true rfl, a102 _ _ (by exact hbd) _ h⟩
end Go.Rs

