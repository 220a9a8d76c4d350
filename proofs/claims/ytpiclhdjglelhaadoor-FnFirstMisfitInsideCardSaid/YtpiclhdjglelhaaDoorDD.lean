import Derived.Test.YtpiclhdjglelhaaDoorDC
import Derived.Test.YtpiclhdjglelhaaDoorCW
set_option linter.all false
namespace Go.Rs
open Go.Proofs
set_option maxRecDepth 100000
set_option linter.unusedVariables false
set_option linter.unusedSimpArgs false
def shM : Nd → Sh
  | ⟨k, _, _, names, kids⟩ => ⟨k, names, names.map fun _ => true, go names kids⟩
where go : List Bs → List Nd → List Sh
  | _ :: ns, x :: xs => shM x :: go ns xs
  | _, _ => []
theorem shM_eq (n : Nd) : shM n = ⟨n.kind, n.names, n.names.map fun _ => true, shM.go n.names n.kids⟩ := by cases n; rw [shM]
theorem shgo_take : ∀ (ns : List Bs) (xs : List Nd) (i : Nat), i < ns.length → i < xs.length → shM.go (ns.take (i + 1)) (xs.take (i + 1)) = shM.go (ns.take i) (xs.take i) ++ [shM (xs.getD i default)]
  | _ :: ns, x :: xs, 0, _, _ => by simp [shM.go]
  | _ :: ns, x :: xs, i + 1, h1, h2 => by
    have := shgo_take ns xs i (by simpa using h1) (by simpa using h2)
    simp only [List.take_succ_cons, shM.go, this, List.getD_cons_succ, List.cons_append]
  | [], _, _, h1, _ => by simp at h1
  | _ :: _, [], _, _, h2 => by simp at h2
theorem shgo_len : ∀ (ns : List Bs) (xs : List Nd), ns.length ≤ xs.length → (shM.go ns xs).length = ns.length
  | [], _, _ => by rw [shM.go]; rfl; intro _ _ _ _ e; cases e
  | _ :: ns, x :: xs, h => by simp only [shM.go, List.length_cons]; rw [shgo_len ns xs (by simpa using h)]
  | _ :: ns, [], h => by simp at h
theorem shgo_cut : ∀ (ns : List Bs) (xs : List Nd), shM.go ns (xs.take ns.length) = shM.go ns xs
  | [], xs => by rw [shM.go, shM.go] <;> (intro _ _ _ _ e; cases e)
  | _ :: ns, [] => by simp
  | _ :: ns, x :: xs => by simp only [List.length_cons, List.take_succ_cons, shM.go, shgo_cut ns xs]
theorem map_take1 {l : List Bs} {i : Nat} (h : i < l.length) : ((l.take (i + 1)).map fun _ => true) = ((l.take i).map fun _ => true) ++ [true] := by
  rw [← take_snoc [] h, List.map_append]; rfl
theorem names_kids {n : Nd} (h : okN n) : n.names.length ≤ n.kids.length := by
  have h1 := okN_names h
  by_cases hk : n.kind = 4
  · rw [h1.2.1 hk]; exact Nat.le_refl _
  · rw [h1.2.2 hk]; simp
noncomputable def c88 (n : Nd) (K : AV → List AV → Prop) : Prop :=
    Obl (okN n) (K (.st [.int .i64 n.kind, .own .str n.names, .own .bool (n.names.map fun _ => true), .own .shape (shM.go n.names n.kids)]) [])
noncomputable def m88 (n : Nd) : Nat := SizeOf.sizeOf n
noncomputable def C88 : List AV → (AV → List AV → Prop) → Prop
  | [.st [.int .i64 n_0, .int .i64 n_1, .str n_2, .ps .str n_3, .ps .node n_4]], K => c88 ⟨n_0, n_1, n_2, n_3, n_4⟩ K
  | _, _ => False
noncomputable def Ck88 (k : Nat) : List AV → (AV → List AV → Prop) → Prop
  | [.st [.int .i64 n_0, .int .i64 n_1, .str n_2, .ps .str n_3, .ps .node n_4]], K => Obl (m88 ⟨n_0, n_1, n_2, n_3, n_4⟩ < k) (c88 ⟨n_0, n_1, n_2, n_3, n_4⟩ K)
  | _, _ => False
noncomputable def E88 (k : Nat) : Ctx := mkE tab [(88, .gen .ow (Ck88 k))]
noncomputable def O88 : Nat → List DI := ordL [(1, [.q 0, .q 1, .q 3, .q 4, .a 2, .l 5 [1], .a 6, .a 7, .q 8, .a 9, .l 10 []]), (6, [.q 0, .q 1, .q 2, .q 3, .q 4, .q 5, .q 6, .l 7 [1], .l 8 [1], .l 9 [], .q 10, .l 11 []])]
theorem a88 (k : Nat) (n : Nd) (hm : m88 n < k + 1) (hb : BdAs [.st (ndC n)]) (K : AV → List AV → Prop) (h : c88 n K) : abody (E88 k) O88 .ow Tryd.f88 (Tryd.f88.body.getD .skip) [.st (ndC n)] K := by
  simp only [BdAs, BdA, BdL, BdC, MX, ndC, shC, itC, stC, opC, chC, nwC, flC, rqC, rsC, enc, List.cons_append, List.nil_append, and_true, true_and] at hb
  unfold c88 at h
  unfold m88 at hm
  obtain ⟨hn, hK⟩ := h
  have hnk := names_kids hn
  have hn6 := (okN_names hn).1
  have hg0 : shM.go [] [] = [] := by rw [shM.go]; intro _ _ _ _ e; cases e
  conv => whnf
  repeat' first
    | (refine Cnd.mk (fun h => ?_) (fun h => ?_) <;> (try simp [nd_eta, sh_eta, it_eta, sto_eta, op_eta, ch_eta, nw_eta, fl_eta, rq_eta, rs_eta, elDef, -List.getD_eq_getElem?_getD] at h) <;> conv => whnf)
    | (refine Obl.mk (by first | omega | rfl | exact inK_byte _ | (simp only [inK, Int.toNat_natCast, nd_eta, sh_eta, it_eta, sto_eta, op_eta, ch_eta, nw_eta, fl_eta, rq_eta, rs_eta, elDef, m88, m88] <;> first | omega | grind) | grind [inK, m88, m88]) ?_ <;> conv => whnf)
    | (refine OblG.mk (by conv => whnf
                          repeat (first | (refine Bx.mk ?_) | (intro h; (try simp [nd_eta, sh_eta, it_eta, sto_eta, op_eta, ch_eta, nw_eta, fl_eta, rq_eta, rs_eta, elDef, -List.getD_eq_getElem?_getD] at h); conv => whnf))
                          first | omega | rfl | exact inK_byte _ | (simp only [inK, Int.toNat_natCast, nd_eta, sh_eta, it_eta, sto_eta, op_eta, ch_eta, nw_eta, fl_eta, rq_eta, rs_eta, elDef, m88, m88] <;> first | omega | grind) | grind [inK, m88, m88]) ?_ <;> conv => whnf)
    | (refine Gd.mk (fun h => ?_) <;> (try simp [nd_eta, sh_eta, it_eta, sto_eta, op_eta, ch_eta, nw_eta, fl_eta, rq_eta, rs_eta, elDef, -List.getD_eq_getElem?_getD] at h) <;> conv => whnf)
    | (refine And.intro ?_ ?_ <;> conv => whnf)
    | exact True.intro
    | (intro; conv => whnf)
  refine aloop_intro (Nat × List Bool × List Sh) (fun ⟨i, bs, ks⟩ => i ≤ n.names.length ∧ bs = (n.names.take i).map (fun _ => true) ∧ ks = shM.go (n.names.take i) (n.kids.take i)) (fun ⟨i, bs, ks⟩ => n.names.length - i) (fun ⟨i, bs, ks⟩ => [(4, .int .i64 i)]) (fun ⟨i, bs, ks⟩ => [(3, .box [.int .i64 n.kind, .ls 900, .ls 901, .ls 902]), (900, .arr .str n.names), (901, .arr .bool bs), (902, .arr .shape ks)]) [1, 2] (0, [], []) [(900, 10), (901, 11), (902, 12)] [] ?_ ?_ (by exact sgOk_of (by rfl)) ?_
  · first | (simp; done) | (simp; assumption) | (simp only; grind)
  · (conv => whnf); (repeat' (first | exact trivial | rfl | (refine nilEq ?_; first | rfl | (simp only [*]; done) | (simp [*]; done) | grind) | apply And.intro | ((first | refine intEq ?_ | refine boolEq ?_ | refine strEq ?_ | refine psEq ?_ | refine nilEq ?_ | refine arrEq ?_); (try simp only [Int.toNat_natCast, nd_eta, sh_eta, it_eta, sto_eta, op_eta, ch_eta, nw_eta, fl_eta, rq_eta, rs_eta, elDef]); first | done | omega | grind | (simp only [*]; done) | (simp [*]; done)))); (all_goals (conv => whnf)); (repeat' (first | exact trivial | rfl | (refine nilEq ?_; first | rfl | (simp only [*]; done) | (simp [*]; done) | grind) | apply And.intro | ((first | refine intEq ?_ | refine boolEq ?_ | refine strEq ?_ | refine psEq ?_ | refine nilEq ?_ | refine arrEq ?_); (try simp only [Int.toNat_natCast, nd_eta, sh_eta, it_eta, sto_eta, op_eta, ch_eta, nw_eta, fl_eta, rq_eta, rs_eta, elDef]); first | done | omega | grind | (simp only [*]; done) | (simp [*]; done)) | ((try simp only [Int.toNat_natCast, nd_eta, sh_eta, it_eta, sto_eta, op_eta, ch_eta, nw_eta, fl_eta, rq_eta, rs_eta, elDef]); first | done | omega | grind | (simp only [*]; done) | (simp [*]; done))))
  rintro ⟨i, bs, ks⟩ hinv
  dsimp only at hinv
  conv => whnf
  obtain ⟨hi, hbs, hks⟩ := hinv
  have hbl : bs.length = i := by rw [hbs]; simp; omega
  have hkl : ks.length = i := by rw [hks, shgo_len]; simp; omega; simp; omega
  have hks2 := fun (h : i < n.kids.length) => kid_size h
  have hko := fun (h : i < n.kids.length) => okN_kid hn h
  have hst := fun h1 h2 => shgo_take n.names n.kids i h1 h2
  have hmt := fun h => map_take1 (l := n.names) (i := i) h
  have hb1 : bs.length + [true].length ≤ 1073741824 := by simp; omega
  have hk1 : ks.length + [(default : Sh)].length ≤ 1073741824 := by simp; omega
  repeat' first
    | (refine Cnd.mk (fun h => ?_) (fun h => ?_) <;> (try simp [nd_eta, sh_eta, it_eta, sto_eta, op_eta, ch_eta, nw_eta, fl_eta, rq_eta, rs_eta, elDef, -List.getD_eq_getElem?_getD] at h) <;> conv => whnf)
    | (refine Obl.mk (by first | omega | rfl | exact inK_byte _ | (simp only [inK, Int.toNat_natCast, nd_eta, sh_eta, it_eta, sto_eta, op_eta, ch_eta, nw_eta, fl_eta, rq_eta, rs_eta, elDef, m88, m88] <;> first | omega | grind) | grind [inK, m88, m88]) ?_ <;> conv => whnf)
    | (refine OblG.mk (by conv => whnf
                          repeat (first | (refine Bx.mk ?_) | (intro h; (try simp [nd_eta, sh_eta, it_eta, sto_eta, op_eta, ch_eta, nw_eta, fl_eta, rq_eta, rs_eta, elDef, -List.getD_eq_getElem?_getD] at h); conv => whnf))
                          first | omega | rfl | exact inK_byte _ | (simp only [inK, Int.toNat_natCast, nd_eta, sh_eta, it_eta, sto_eta, op_eta, ch_eta, nw_eta, fl_eta, rq_eta, rs_eta, elDef, m88, m88] <;> first | omega | grind) | grind [inK, m88, m88]) ?_ <;> conv => whnf)
    | (refine Gd.mk (fun h => ?_) <;> (try simp [nd_eta, sh_eta, it_eta, sto_eta, op_eta, ch_eta, nw_eta, fl_eta, rq_eta, rs_eta, elDef, -List.getD_eq_getElem?_getD] at h) <;> conv => whnf)
    | (refine And.intro ?_ ?_ <;> conv => whnf)
    | exact True.intro
    | (intro; conv => whnf)
  · exact ⟨(i + 1, bs ++ [true], ks ++ [shM (n.kids.getD i default)]), [(901, 24), (902, 35)], [], ⟨by omega, by rw [hmt h, ← hbs], by rw [hst h (by omega), ← hks]⟩, by show n.names.length - (i + 1) < n.names.length - i; omega, by (conv => whnf); (repeat' (first | exact trivial | rfl | (refine nilEq ?_; first | rfl | (simp only [*]; done) | (simp [*]; done) | grind) | apply And.intro | ((first | refine intEq ?_ | refine boolEq ?_ | refine strEq ?_ | refine psEq ?_ | refine nilEq ?_ | refine arrEq ?_); (try simp only [Int.toNat_natCast, nd_eta, sh_eta, it_eta, sto_eta, op_eta, ch_eta, nw_eta, fl_eta, rq_eta, rs_eta, elDef]); first | done | omega | (rw [shM_eq]; done) | (rw [shM_eq]) | grind))); (all_goals (conv => whnf)); (repeat' (first | exact trivial | rfl | (refine nilEq ?_; first | rfl | (simp only [*]; done) | (simp [*]; done) | grind) | apply And.intro | ((first | refine intEq ?_ | refine boolEq ?_ | refine strEq ?_ | refine psEq ?_ | refine nilEq ?_ | refine arrEq ?_); (try simp only [Int.toNat_natCast, nd_eta, sh_eta, it_eta, sto_eta, op_eta, ch_eta, nw_eta, fl_eta, rq_eta, rs_eta, elDef]); first | done | omega | (rw [shM_eq]; done) | (rw [shM_eq]) | grind) | ((try simp only [Int.toNat_natCast, nd_eta, sh_eta, it_eta, sto_eta, op_eta, ch_eta, nw_eta, fl_eta, rq_eta, rs_eta, elDef]); first | done | omega | (rw [shM_eq]; done) | (rw [shM_eq]) | grind))), (by exact sgOk_of (by rfl))⟩
  · obtain rfl : i = n.names.length := by omega
    exact leafV hK (by rw [hbs, hks, List.take_length, shgo_cut])
theorem r88 : ∀ k, (CtrOK Tryd.prog 88 (.gen .ow (Ck88 k)) ∧ Callable Tryd.prog 88) := by
  intro k
  induction k with
  | zero =>
    exact ⟨fun args K h => by
        unfold Ck88 at h; split at h
        · exact absurd h.o (Nat.not_lt_zero _)
        · exact h.elim, callable Tryd.func88 rfl (by rfl)⟩
  | succ k ih =>
    refine gen_ok (E := E88 k) (mkE_cons ih (mkE_nil tab_ok)) mix (O := O88) (C := (Ck88 (k + 1))) (own := .ow) Tryd.func88 rfl (by rfl) (by kernel_rfl) (fun args K h hbd => ?_)
    unfold Ck88 at h; split at h
    case h_2 => exact h.elim
    exact ⟨Nat.le_of_ble_eq_true rfl, a88 k ⟨_, _, _, _, _⟩ h.o (by exact hbd) _ h.k⟩
theorem s88 : (CtrOK Tryd.prog 88 (.gen .ow C88) ∧ Callable Tryd.prog 88) := by
  refine ⟨fun args K h => ?_, (r88 0).2⟩
  unfold C88 at h; split at h
  · exact (r88 (m88 ⟨_, _, _, _, _⟩ + 1)).1 _ K ⟨Nat.lt_succ_self _, h⟩
  · exact h.elim
def costS (d : Int) : Int := if d ≤ 0 then 0 else if d ≤ 1 then 20 else if d ≤ 2 then 200 else if d ≤ 3 then 2000 else 20000
theorem costS_step {d : Int} (h : 1 ≤ d) (h2 : d ≤ 4) : 6 * (costS (d - 1) + 2) + 7 ≤ costS d := by
  unfold costS
  repeat' split
  all_goals omega
theorem costS_nn (d : Int) : 0 ≤ costS d ∧ costS d ≤ 20000 := by
  unfold costS
  repeat' split
  all_goals omega
noncomputable def c54 (code : List Int) (p : Int) (n : Nd) (d : Int) (K : AV → List AV → Prop) : Prop :=
    Obl (((0 ≤ p ∧ p + costS d ≤ 9000000) ∧ byOk code) ∧ okN n ∧ 0 ≤ d ∧ d ≤ 4) (∀ (k : Int) (ns : List Bs) (bs : List Bool) (ks : List Sh) (p' : Int), ns.length ≤ 1000 → p ≤ p' ∧ p' ≤ p + costS d + 1 → K (.st [.int .i64 k, .own .str ns, .own .bool bs, .own .shape ks]) [.ref [.ps .u8 code, .int .i64 p']])
noncomputable def m54 (code : List Int) (p : Int) (n : Nd) (d : Int) : Nat := d.toNat
noncomputable def C54 : List AV → (AV → List AV → Prop) → Prop
  | [.ref [.ps .u8 code, .int .i64 p], .st [.int .i64 n_0, .int .i64 n_1, .str n_2, .ps .str n_3, .ps .node n_4], .int .i64 d], K => c54 code p ⟨n_0, n_1, n_2, n_3, n_4⟩ d K
  | _, _ => False
noncomputable def Ck54 (k : Nat) : List AV → (AV → List AV → Prop) → Prop
  | [.ref [.ps .u8 code, .int .i64 p], .st [.int .i64 n_0, .int .i64 n_1, .str n_2, .ps .str n_3, .ps .node n_4], .int .i64 d], K => Obl (m54 code p ⟨n_0, n_1, n_2, n_3, n_4⟩ d < k) (c54 code p ⟨n_0, n_1, n_2, n_3, n_4⟩ d K)
  | _, _ => False
noncomputable def E54 (k : Nat) : Ctx := mkE tab [(29, .gen .ps C29), (54, .gen .ow (Ck54 k)), (88, .gen .ow C88)]
noncomputable def O54 : Nat → List DI := ordL [(7, [.q 0, .q 1, .q 2, .q 3, .l 4 [1], .q 5, .q 6, .l 7 []]), (8, [.q 0, .q 1, .q 2, .q 3, .q 4, .q 5, .q 6, .q 7, .q 8, .q 9, .q 10, .l 11 [1], .q 12, .l 13 []]), (11, [.q 0, .q 1, .q 2, .l 3 [1], .q 4, .l 5 [1], .l 6 [], .q 7, .l 8 []]), (12, [.q 0, .q 1, .q 2, .l 3 [1], .q 4, .q 5, .l 6 [1], .l 7 [], .q 8, .l 9 []])]
theorem a54 (k : Nat) (code : List Int) (p : Int) (n : Nd) (d : Int) (hm : m54 code p n d < k + 1) (hb : BdAs [.ref [.ps .u8 code, .int .i64 p], .st (ndC n), .int .i64 d]) (K : AV → List AV → Prop) (h : c54 code p n d K) : abody (E54 k) O54 .ow Tryd.f54 (Tryd.f54.body.getD .skip) [.ref [.ps .u8 code, .int .i64 p], .st (ndC n), .int .i64 d] K := by
  simp only [BdAs, BdA, BdL, BdC, MX, ndC, shC, itC, stC, opC, chC, nwC, flC, rqC, rsC, enc, List.cons_append, List.nil_append, and_true, true_and] at hb
  unfold c54 at h
  unfold m54 at hm
  obtain ⟨⟨⟨⟨hp0, hp1⟩, ho⟩, hn, hd⟩, hK⟩ := h
  have hnk := names_kids hn
  have hn6 := (okN_names hn).1
  have hc := fun h => costS_step (d := d) h hd.2
  have hnn := costS_nn d
  have hnn1 := costS_nn (d - 1)
  have hgl := shgo_len n.names n.kids hnk
  conv => whnf
  repeat' first
    | (refine Cnd.mk (fun h => ?_) (fun h => ?_) <;> (try simp [nd_eta, sh_eta, it_eta, sto_eta, op_eta, ch_eta, nw_eta, fl_eta, rq_eta, rs_eta, elDef, -List.getD_eq_getElem?_getD] at h) <;> conv => whnf)
    | (refine Obl.mk (by first | omega | rfl | exact inK_byte _ | (simp only [inK, Int.toNat_natCast, nd_eta, sh_eta, it_eta, sto_eta, op_eta, ch_eta, nw_eta, fl_eta, rq_eta, rs_eta, elDef, m54, m54, m88] <;> first | omega | grind) | grind [inK, m54, m54, m88]) ?_ <;> conv => whnf)
    | (refine OblG.mk (by conv => whnf
                          repeat (first | (refine Bx.mk ?_) | (intro h; (try simp [nd_eta, sh_eta, it_eta, sto_eta, op_eta, ch_eta, nw_eta, fl_eta, rq_eta, rs_eta, elDef, -List.getD_eq_getElem?_getD] at h); conv => whnf))
                          first | omega | rfl | exact inK_byte _ | (simp only [inK, Int.toNat_natCast, nd_eta, sh_eta, it_eta, sto_eta, op_eta, ch_eta, nw_eta, fl_eta, rq_eta, rs_eta, elDef, m54, m54, m88] <;> first | omega | grind) | grind [inK, m54, m54, m88]) ?_ <;> conv => whnf)
    | (refine Gd.mk (fun h => ?_) <;> (try simp [nd_eta, sh_eta, it_eta, sto_eta, op_eta, ch_eta, nw_eta, fl_eta, rq_eta, rs_eta, elDef, -List.getD_eq_getElem?_getD] at h) <;> conv => whnf)
    | (refine And.intro ?_ ?_ <;> conv => whnf)
    | exact True.intro
    | (intro; conv => whnf)
  · exact hK _ _ _ _ _ (by simp) (by omega)
  · have hc1 := hc (by omega)
    obtain ⟨T, hT⟩ : ∃ T, T = costS (d - 1) + 2 := ⟨_, rfl⟩
    refine aloop_intro (Nat × Int × Int × List Bool × List Sh) (fun ⟨i, c, q, bs, ks⟩ => (i ≤ n.names.length ∧ bs.length = n.names.length ∧ ks.length = n.names.length ∧ c = 6 - i) ∧ p ≤ q ∧ q + c * T ≤ p + 1 + 6 * T) (fun ⟨i, c, q, bs, ks⟩ => n.names.length - i) (fun ⟨i, c, q, bs, ks⟩ => [(8, .int .i64 i)]) (fun ⟨i, c, q, bs, ks⟩ => [(7, .box [.int .i64 n.kind, .ls 900, .ls 901, .ls 902]), (900, .arr .str n.names), (901, .arr .bool bs), (902, .arr .shape ks), (1000000, .box [.ps .u8 code, .int .i64 q])]) [4, 6] (0, 6, p + 1, n.names.map (fun _ => true), shM.go n.names n.kids) [(900, 11000), (901, 11001), (902, 11002)] [] ?_ ?_ (by exact sgOk_of (by rfl)) ?_
    · first | (simp; done) | (simp; assumption) | (simp only; grind)
    · (conv => whnf); (repeat' (first | exact trivial | rfl | (refine nilEq ?_; first | rfl | (simp only [*]; done) | (simp [*]; done) | grind) | apply And.intro | ((first | refine intEq ?_ | refine boolEq ?_ | refine strEq ?_ | refine psEq ?_ | refine nilEq ?_ | refine arrEq ?_); (try simp only [Int.toNat_natCast, nd_eta, sh_eta, it_eta, sto_eta, op_eta, ch_eta, nw_eta, fl_eta, rq_eta, rs_eta, elDef]); first | done | omega | grind | (simp only [*]; done) | (simp [*]; done)))); (all_goals (conv => whnf)); (repeat' (first | exact trivial | rfl | (refine nilEq ?_; first | rfl | (simp only [*]; done) | (simp [*]; done) | grind) | apply And.intro | ((first | refine intEq ?_ | refine boolEq ?_ | refine strEq ?_ | refine psEq ?_ | refine nilEq ?_ | refine arrEq ?_); (try simp only [Int.toNat_natCast, nd_eta, sh_eta, it_eta, sto_eta, op_eta, ch_eta, nw_eta, fl_eta, rq_eta, rs_eta, elDef]); first | done | omega | grind | (simp only [*]; done) | (simp [*]; done)) | ((try simp only [Int.toNat_natCast, nd_eta, sh_eta, it_eta, sto_eta, op_eta, ch_eta, nw_eta, fl_eta, rq_eta, rs_eta, elDef]); first | done | omega | grind | (simp only [*]; done) | (simp [*]; done))))
    rintro ⟨i, c, q, bs, ks⟩ hinv
    dsimp only at hinv
    conv => whnf
    obtain ⟨⟨hi, hbl, hkl, hci⟩, hq1, hq2⟩ := hinv
    have hms := mul_step c T
    have hmn := mul_nn (c := c) (T := T) (by omega) (by omega)
    have hmn1 := fun h => mul_nn (c := c - 1) (T := T) h (by omega)
    have hko := fun (h : i < n.kids.length) => okN_kid hn h
    repeat' first
      | (refine Cnd.mk (fun h => ?_) (fun h => ?_) <;> (try simp [nd_eta, sh_eta, it_eta, sto_eta, op_eta, ch_eta, nw_eta, fl_eta, rq_eta, rs_eta, elDef, -List.getD_eq_getElem?_getD] at h) <;> conv => whnf)
      | (refine Obl.mk (by first | omega | rfl | exact inK_byte _ | (simp only [inK, Int.toNat_natCast, nd_eta, sh_eta, it_eta, sto_eta, op_eta, ch_eta, nw_eta, fl_eta, rq_eta, rs_eta, elDef, m54, m54, m88] <;> first | omega | grind) | grind [inK, m54, m54, m88]) ?_ <;> conv => whnf)
      | (refine OblG.mk (by conv => whnf
                            repeat (first | (refine Bx.mk ?_) | (intro h; (try simp [nd_eta, sh_eta, it_eta, sto_eta, op_eta, ch_eta, nw_eta, fl_eta, rq_eta, rs_eta, elDef, -List.getD_eq_getElem?_getD] at h); conv => whnf))
                            first | omega | rfl | exact inK_byte _ | (simp only [inK, Int.toNat_natCast, nd_eta, sh_eta, it_eta, sto_eta, op_eta, ch_eta, nw_eta, fl_eta, rq_eta, rs_eta, elDef, m54, m54, m88] <;> first | omega | grind) | grind [inK, m54, m54, m88]) ?_ <;> conv => whnf)
      | (refine Gd.mk (fun h => ?_) <;> (try simp [nd_eta, sh_eta, it_eta, sto_eta, op_eta, ch_eta, nw_eta, fl_eta, rq_eta, rs_eta, elDef, -List.getD_eq_getElem?_getD] at h) <;> conv => whnf)
      | (refine And.intro ?_ ?_ <;> conv => whnf)
      | exact True.intro
      | (intro; conv => whnf)
    · rename_i r hr k2 ns2 bs2 ks2 p2 hns hp2
      exact ⟨(i + 1, c - 1, p2, bs.set i (decide (r = 0)), ks.set i ⟨k2, ns2, bs2, ks2⟩), [], [], ⟨⟨by omega, by simp; omega, by simp; omega, by omega⟩, by omega, by omega⟩, by show n.names.length - (i + 1) < n.names.length - i; omega, by (conv => whnf); (repeat' (first | exact trivial | rfl | (refine nilEq ?_; first | rfl | (simp only [*]; done) | (simp [*]; done) | grind) | apply And.intro | ((first | refine intEq ?_ | refine boolEq ?_ | refine strEq ?_ | refine psEq ?_ | refine nilEq ?_ | refine arrEq ?_); (try simp only [Int.toNat_natCast, nd_eta, sh_eta, it_eta, sto_eta, op_eta, ch_eta, nw_eta, fl_eta, rq_eta, rs_eta, elDef]); first | done | omega | grind | (simp only [*]; done) | (simp [*]; done)))); (all_goals (conv => whnf)); (repeat' (first | exact trivial | rfl | (refine nilEq ?_; first | rfl | (simp only [*]; done) | (simp [*]; done) | grind) | apply And.intro | ((first | refine intEq ?_ | refine boolEq ?_ | refine strEq ?_ | refine psEq ?_ | refine nilEq ?_ | refine arrEq ?_); (try simp only [Int.toNat_natCast, nd_eta, sh_eta, it_eta, sto_eta, op_eta, ch_eta, nw_eta, fl_eta, rq_eta, rs_eta, elDef]); first | done | omega | grind | (simp only [*]; done) | (simp [*]; done)) | ((try simp only [Int.toNat_natCast, nd_eta, sh_eta, it_eta, sto_eta, op_eta, ch_eta, nw_eta, fl_eta, rq_eta, rs_eta, elDef]); first | done | omega | grind | (simp only [*]; done) | (simp [*]; done)))), (by exact sgOk_of (by rfl))⟩
    all_goals exact hK _ _ _ _ _ (by first | omega | (simp; try omega)) (by omega)
  · exact hK _ _ _ _ _ (by simp) (by omega)
theorem r54 : ∀ k, (CtrOK Tryd.prog 54 (.gen .ow (Ck54 k)) ∧ Callable Tryd.prog 54) := by
  intro k
  induction k with
  | zero =>
    exact ⟨fun args K h => by
        unfold Ck54 at h; split at h
        · exact absurd h.o (Nat.not_lt_zero _)
        · exact h.elim, callable Tryd.func54 rfl (by rfl)⟩
  | succ k ih =>
    refine gen_ok (E := E54 k) (mkE_cons s29 (mkE_cons ih (mkE_cons s88 (mkE_nil tab_ok)))) mix (O := O54) (C := (Ck54 (k + 1))) (own := .ow) Tryd.func54 rfl (by rfl) (by kernel_rfl) (fun args K h hbd => ?_)
    unfold Ck54 at h; split at h
    case h_2 => exact h.elim
    exact ⟨Nat.le_of_ble_eq_true rfl, a54 k _ _ ⟨_, _, _, _, _⟩ _ h.o (by exact hbd) _ h.k⟩
theorem s54 : (CtrOK Tryd.prog 54 (.gen .ow C54) ∧ Callable Tryd.prog 54) := by
  refine ⟨fun args K h => ?_, (r54 0).2⟩
  unfold C54 at h; split at h
  · exact (r54 (m54 _ _ ⟨_, _, _, _, _⟩ _ + 1)).1 _ K ⟨Nat.lt_succ_self _, h⟩
  · exact h.elim
noncomputable def c28 (code : List Int) (p : Int) (K : AV → List AV → Prop) : Prop :=
    Obl ((0 ≤ p ∧ p ≤ 8000000) ∧ byOk code) (∀ (x : Sh) (n : Nd) (p' : Int), smN n → p ≤ p' ∧ p' ≤ p + 30000 → K (.tup [.st (shC x), .st (ndC n)]) [.ref [.ps .u8 code, .int .i64 p']])
noncomputable def C28 : List AV → (AV → List AV → Prop) → Prop
  | [.ref [.ps .u8 code, .int .i64 p]], K => c28 code p K
  | _, _ => False
noncomputable def E28 : Ctx := mkE tab [(29, .gen .ps C29), (30, .pure F30), (53, .gen .ps C53), (54, .gen .ow C54), (55, .gen .ps C55), (56, .gen .ow C56)]
noncomputable def O28 : Nat → List DI := ordL [(12, [.q 0, .q 1, .l 2 [1], .l 3 []])]
theorem a28 (code : List Int) (p : Int) (hb : BdAs [.ref [.ps .u8 code, .int .i64 p]]) (K : AV → List AV → Prop) (h : c28 code p K) : abody E28 O28 .ps Tryd.f28 (Tryd.f28.body.getD .skip) [.ref [.ps .u8 code, .int .i64 p]] K := by
  simp only [BdAs, BdA, BdL, BdC, MX, ndC, shC, itC, stC, opC, chC, nwC, flC, rqC, rsC, enc, List.cons_append, List.nil_append, and_true, true_and] at hb
  unfold c28 at h
  obtain ⟨⟨hp, ho⟩, hK⟩ := h
  have hv := fun n h => validM_ok (n := n) h
  have hc4 := costS_nn 4
  conv => whnf
  repeat' first
    | (refine Cnd.mk (fun h => ?_) (fun h => ?_) <;> (try simp [nd_eta, sh_eta, it_eta, sto_eta, op_eta, ch_eta, nw_eta, fl_eta, rq_eta, rs_eta, elDef, -List.getD_eq_getElem?_getD] at h) <;> conv => whnf)
    | (refine Obl.mk (by first | omega | rfl | exact inK_byte _ | (simp only [inK, Int.toNat_natCast, nd_eta, sh_eta, it_eta, sto_eta, op_eta, ch_eta, nw_eta, fl_eta, rq_eta, rs_eta, elDef, m54] <;> first | omega | grind) | grind [inK, m54]) ?_ <;> conv => whnf)
    | (refine OblG.mk (by conv => whnf
                          repeat (first | (refine Bx.mk ?_) | (intro h; (try simp [nd_eta, sh_eta, it_eta, sto_eta, op_eta, ch_eta, nw_eta, fl_eta, rq_eta, rs_eta, elDef, -List.getD_eq_getElem?_getD] at h); conv => whnf))
                          first | omega | rfl | exact inK_byte _ | (simp only [inK, Int.toNat_natCast, nd_eta, sh_eta, it_eta, sto_eta, op_eta, ch_eta, nw_eta, fl_eta, rq_eta, rs_eta, elDef, m54] <;> first | omega | grind) | grind [inK, m54]) ?_ <;> conv => whnf)
    | (refine Gd.mk (fun h => ?_) <;> (try simp [nd_eta, sh_eta, it_eta, sto_eta, op_eta, ch_eta, nw_eta, fl_eta, rq_eta, rs_eta, elDef, -List.getD_eq_getElem?_getD] at h) <;> conv => whnf)
    | (refine And.intro ?_ ?_ <;> conv => whnf)
    | exact True.intro
    | (intro; conv => whnf)
  all_goals (refine hK ⟨_, _, _, _⟩ ⟨_, _, _, _, _⟩ _ ?_ ?_ <;> first | omega | exact smN_eta (by assumption) | exact (by assumption : smN _ ∧ _).1)
theorem s28 : (CtrOK Tryd.prog 28 (.gen .ps C28) ∧ Callable Tryd.prog 28) := by
  refine gen_ok (E := E28) (mkE_cons s29 (mkE_cons s30 (mkE_cons s53 (mkE_cons s54 (mkE_cons s55 (mkE_cons s56 (mkE_nil tab_ok))))))) mix (O := O28) (C := C28) (own := .ps) Tryd.func28 rfl (by rfl) (by kernel_rfl) (fun args K h hbd => ?_)
  unfold C28 at h; split at h
  case h_2 => exact h.elim
  exact ⟨Nat.le_of_ble_eq_true rfl, a28 _ _ (by exact hbd) _ h⟩
noncomputable def c10 (code : List Int) (K : AV → List AV → Prop) : Prop :=
    Obl (byOk code) (∀ (x : Sh) (n : Nd), smN n → K (.tup [.st (shC x), .st (ndC n)]) [])
noncomputable def C10 : List AV → (AV → List AV → Prop) → Prop
  | [.ps .u8 code], K => c10 code K
  | _, _ => False
noncomputable def E10 : Ctx := mkE tab [(27, .gen .ow C27), (28, .gen .ps C28), (29, .gen .ps C29), (30, .pure F30), (31, .gen .ps C31)]
noncomputable def O10 : Nat → List DI := ordL [(5, [.q 0, .q 1, .l 2 [1], .l 3 []])]
theorem a10 (code : List Int) (hb : BdAs [.ps .u8 code]) (K : AV → List AV → Prop) (h : c10 code K) : abody E10 O10 .ps Tryd.f10 (Tryd.f10.body.getD .skip) [.ps .u8 code] K := by
  simp only [BdAs, BdA, BdL, BdC, MX, ndC, shC, itC, stC, opC, chC, nwC, flC, rqC, rsC, enc, List.cons_append, List.nil_append, and_true, true_and] at hb
  unfold c10 at h
  obtain ⟨ho, hK⟩ := h
  conv => whnf
  repeat' first
    | (refine Cnd.mk (fun h => ?_) (fun h => ?_) <;> (try simp [nd_eta, sh_eta, it_eta, sto_eta, op_eta, ch_eta, nw_eta, fl_eta, rq_eta, rs_eta, elDef, -List.getD_eq_getElem?_getD] at h) <;> conv => whnf)
    | (refine Obl.mk (by first | omega | rfl | exact inK_byte _ | (simp only [inK, Int.toNat_natCast, nd_eta, sh_eta, it_eta, sto_eta, op_eta, ch_eta, nw_eta, fl_eta, rq_eta, rs_eta, elDef] <;> first | omega | grind) | grind [inK]) ?_ <;> conv => whnf)
    | (refine OblG.mk (by conv => whnf
                          repeat (first | (refine Bx.mk ?_) | (intro h; (try simp [nd_eta, sh_eta, it_eta, sto_eta, op_eta, ch_eta, nw_eta, fl_eta, rq_eta, rs_eta, elDef, -List.getD_eq_getElem?_getD] at h); conv => whnf))
                          first | omega | rfl | exact inK_byte _ | (simp only [inK, Int.toNat_natCast, nd_eta, sh_eta, it_eta, sto_eta, op_eta, ch_eta, nw_eta, fl_eta, rq_eta, rs_eta, elDef] <;> first | omega | grind) | grind [inK]) ?_ <;> conv => whnf)
    | (refine Gd.mk (fun h => ?_) <;> (try simp [nd_eta, sh_eta, it_eta, sto_eta, op_eta, ch_eta, nw_eta, fl_eta, rq_eta, rs_eta, elDef, -List.getD_eq_getElem?_getD] at h) <;> conv => whnf)
    | (refine And.intro ?_ ?_ <;> conv => whnf)
    | exact True.intro
    | (intro; conv => whnf)
  all_goals (refine hK ⟨_, _, _, _⟩ ⟨_, _, _, _, _⟩ ?_ <;> first | exact smN_eta (by assumption))
theorem s10 : (CtrOK Tryd.prog 10 (.gen .ps C10) ∧ Callable Tryd.prog 10) := by
  refine gen_ok (E := E10) (mkE_cons s27 (mkE_cons s28 (mkE_cons s29 (mkE_cons s30 (mkE_cons s31 (mkE_nil tab_ok)))))) mix (O := O10) (C := C10) (own := .ps) Tryd.func10 rfl (by rfl) (by kernel_rfl) (fun args K h hbd => ?_)
  unfold C10 at h; split at h
  case h_2 => exact h.elim
  exact ⟨Nat.le_of_ble_eq_true rfl, a10 _ (by exact hbd) _ h⟩
end Go.Rs

