import Derived.Test.YtpiclhdjglelhaaDE
import Derived.Test.YtpiclhdjglelhaaMD
set_option linter.all false
namespace Go.Rs
open Go.Proofs
set_option maxRecDepth 100000
set_option linter.unusedVariables false
set_option linter.unusedSimpArgs false
def loM (f : Bool) (l : List It) : List (Nat × LC) := match f with
  | true => [(5, .box [.int .i64 4, .int .i64 0, .str [], .nils .str, .nils .node])]
  | false => [(5, .box [.int .i64 4, .int .i64 0, .str [], .ls 900, .ls 901]), (900, .arr .str (l.map (·.name))), (901, .arr .node (l.map (·.node)))]
noncomputable def c24 (n : Nd) (p : Nd) (K : AV → List AV → Prop) : Prop :=
    Obl (okN n ∧ okN p) (K (.st (ndC (mrgM p n))) [])
noncomputable def m24 (n : Nd) (p : Nd) : Nat := SizeOf.sizeOf p
noncomputable def C24 : List AV → (AV → List AV → Prop) → Prop
  | [.st [.int .i64 n_0, .int .i64 n_1, .str n_2, .ps .str n_3, .ps .node n_4], .st [.int .i64 p_0, .int .i64 p_1, .str p_2, .ps .str p_3, .ps .node p_4]], K => c24 ⟨n_0, n_1, n_2, n_3, n_4⟩ ⟨p_0, p_1, p_2, p_3, p_4⟩ K
  | _, _ => False
noncomputable def Ck24 (k : Nat) : List AV → (AV → List AV → Prop) → Prop
  | [.st [.int .i64 n_0, .int .i64 n_1, .str n_2, .ps .str n_3, .ps .node n_4], .st [.int .i64 p_0, .int .i64 p_1, .str p_2, .ps .str p_3, .ps .node p_4]], K => Obl (m24 ⟨n_0, n_1, n_2, n_3, n_4⟩ ⟨p_0, p_1, p_2, p_3, p_4⟩ < k) (c24 ⟨n_0, n_1, n_2, n_3, n_4⟩ ⟨p_0, p_1, p_2, p_3, p_4⟩ K)
  | _, _ => False
noncomputable def E24 (k : Nat) : Ctx := mkE tab [(24, .gen .ps (Ck24 k)), (36, .gen .ow C36), (37, .pure F37), (38, .gen .ps C38), (41, .gen .ps C41)]
noncomputable def O24 : Nat → List DI := ordL [(15, [.q 0, .q 1, .q 2, .q 3, .q 4, .q 5, .q 6, .l 7 [], .l 8 []])]
theorem a24 (k : Nat) (n : Nd) (p : Nd) (hm : m24 n p < k + 1) (hb : BdAs [.st (ndC n), .st (ndC p)]) (K : AV → List AV → Prop) (h : c24 n p K) : abody (E24 k) O24 .ps Try.f24 (Try.f24.body.getD .skip) [.st (ndC n), .st (ndC p)] K := by
  simp only [BdAs, BdA, BdL, BdC, MX, ndC, shC, itC, stC, opC, chC, nwC, flC, rqC, rsC, enc, List.cons_append, List.nil_append, and_true, true_and] at hb
  unfold c24 at h
  unfold m24 at hm
  obtain ⟨⟨hn, hp⟩, hK⟩ := h
  have hsn := hn.sm
  have hsp := hp.sm
  have hme := mrgM_eq p n
  conv => whnf
  repeat' first
    | (refine Cnd.mk (fun h => ?_) (fun h => ?_) <;> (try simp [nd_eta, sh_eta, it_eta, sto_eta, op_eta, ch_eta, nw_eta, fl_eta, rq_eta, rs_eta, elDef, -List.getD_eq_getElem?_getD] at h) <;> conv => whnf)
    | (refine Obl.mk (by first | omega | rfl | exact inK_byte _ | (simp only [inK, Int.toNat_natCast, nd_eta, sh_eta, it_eta, sto_eta, op_eta, ch_eta, nw_eta, fl_eta, rq_eta, rs_eta, elDef, m24, m24, m36, o37] <;> first | omega | grind) | grind [inK, m24, m24, m36, o37]) ?_ <;> conv => whnf)
    | (refine OblG.mk (by conv => whnf
                          repeat (first | (refine Bx.mk ?_) | (intro h; (try simp [nd_eta, sh_eta, it_eta, sto_eta, op_eta, ch_eta, nw_eta, fl_eta, rq_eta, rs_eta, elDef, -List.getD_eq_getElem?_getD] at h); conv => whnf))
                          first | omega | rfl | exact inK_byte _ | (simp only [inK, Int.toNat_natCast, nd_eta, sh_eta, it_eta, sto_eta, op_eta, ch_eta, nw_eta, fl_eta, rq_eta, rs_eta, elDef, m24, m24, m36, o37] <;> first | omega | grind) | grind [inK, m24, m24, m36, o37]) ?_ <;> conv => whnf)
    | (refine Gd.mk (fun h => ?_) <;> (try simp [nd_eta, sh_eta, it_eta, sto_eta, op_eta, ch_eta, nw_eta, fl_eta, rq_eta, rs_eta, elDef, -List.getD_eq_getElem?_getD] at h) <;> conv => whnf)
    | (refine And.intro ?_ ?_ <;> conv => whnf)
    | exact True.intro
    | (intro; conv => whnf)
  · rw [hme, if_neg h] at hK
    exact hK
  · rename_i hk
    have hb9 := base_facts hn
    have hbn := hb9.2.2.2 h
    have hlp := (okN_names hp).2.1 hk
    have h6 := (okN_names hp).1
    have hba := okN_bare hn
    have hb1 : n.num = 0 := hba.1 (by omega)
    have hb2 : n.text = [] := hba.2 (by omega)
    have h00 : (accM p n 0).map (·.name) = n.names := by rw [accM_zero]; exact hbn.1
    have h01 : (accM p n 0).map (·.node) = n.kids := by rw [accM_zero]; exact hbn.2
    refine aloop_intro Nat (fun k => k ≤ p.names.length ∧ True) (fun k => p.names.length - k) (fun k => [(25, .int .i64 k)]) (fun k => [(5, .box [.int .i64 4, .int .i64 0, .str [], .ls 900, .ls 901]), (900, .arr .str ((accM p n k).map (·.name))), (901, .arr .node ((accM p n k).map (·.node)))]) [2, 3, 4] 0 [(900, 22000), (901, 22001)] [] ?_ ?_ (by exact sgOk_of (by rfl)) ?_
    · first | (simp; done) | (simp; assumption)
    · (conv => whnf); (repeat' (first | exact trivial | rfl | (refine nilEq ?_; first | rfl | (simp only [*]; done) | (simp [*]; done) | grind) | apply And.intro | ((first | refine intEq ?_ | refine boolEq ?_ | refine strEq ?_ | refine psEq ?_ | refine nilEq ?_ | refine arrEq ?_); (try simp only [Int.toNat_natCast, nd_eta, sh_eta, it_eta, sto_eta, op_eta, ch_eta, nw_eta, fl_eta, rq_eta, rs_eta, elDef]); first | done | omega | grind | (simp only [*]; done) | (simp [*]; done)))); (all_goals (conv => whnf)); (repeat' (first | exact trivial | rfl | (refine nilEq ?_; first | rfl | (simp only [*]; done) | (simp [*]; done) | grind) | apply And.intro | ((first | refine intEq ?_ | refine boolEq ?_ | refine strEq ?_ | refine psEq ?_ | refine nilEq ?_ | refine arrEq ?_); (try simp only [Int.toNat_natCast, nd_eta, sh_eta, it_eta, sto_eta, op_eta, ch_eta, nw_eta, fl_eta, rq_eta, rs_eta, elDef]); first | done | omega | grind | (simp only [*]; done) | (simp [*]; done)) | ((try simp only [Int.toNat_natCast, nd_eta, sh_eta, it_eta, sto_eta, op_eta, ch_eta, nw_eta, fl_eta, rq_eta, rs_eta, elDef]); first | done | omega | grind | (simp only [*]; done) | (simp [*]; done))))
    rintro i ⟨hi, hj⟩
    conv => whnf
    have hf := accM_facts hn (p := p) (i := i) hi (by omega)
    have ez := zip_back hf.2.1
    have hso := sorted_nm.2 hf.1
    have hkf := kid_found (b := p.names.getD i []) hf.1
    have hl1 : ((accM p n i).map (·.name)).length = ((accM p n i).map (·.node)).length := by simp
    have hl2 : ((accM p n i).map (·.name)).length ≤ 100000 := by simp; omega
    have hfl : foundI (nmI ((accM p n i).map (·.name))) (p.names.getD i []) = true → lbI (nmI ((accM p n i).map (·.name))) (p.names.getD i []) < ((accM p n i).map (·.node)).length := fun h => by have := found_lt h; rw [hl1] at this; exact this
    have hak := fun h => accM_kid hp hk hn (i := i) h
    have hok := kidOf_ok hn (p.names.getD i [])
    have hold : ∀ (_ : i < p.names.length) (_ : foundI (nmI ((accM p n i).map (·.name))) (p.names.getD i []) = true), ((accM p n i).map (·.node)).getD (lbI (nmI ((accM p n i).map (·.name))) (p.names.getD i [])) default = kidOf (baseI n) (p.names.getD i []) := fun h1 h2 => by rw [hkf.1 h2, hak h1]
    have hokd : ∀ (_ : i < p.names.length) (_ : foundI (nmI ((accM p n i).map (·.name))) (p.names.getD i []) = true), okN (((accM p n i).map (·.node)).getD (lbI (nmI ((accM p n i).map (·.name))) (p.names.getD i [])) default) := fun h1 h2 => by rw [hold h1 h2]; exact hok
    have hz := okN_zero
    unfold zeroN at hz
    have hks := fun (h : i < p.kids.length) => kid_size h
    have hko := fun (h : i < p.kids.length) => okN_kid hp h
    repeat' first
      | (refine Cnd.mk (fun h => ?_) (fun h => ?_) <;> (try simp [nd_eta, sh_eta, it_eta, sto_eta, op_eta, ch_eta, nw_eta, fl_eta, rq_eta, rs_eta, elDef, -List.getD_eq_getElem?_getD] at h) <;> conv => whnf)
      | (refine Obl.mk (by first | omega | rfl | exact inK_byte _ | (simp only [inK, Int.toNat_natCast, nd_eta, sh_eta, it_eta, sto_eta, op_eta, ch_eta, nw_eta, fl_eta, rq_eta, rs_eta, elDef, m24, m24, m36, o37] <;> first | omega | grind) | grind [inK, m24, m24, m36, o37]) ?_ <;> conv => whnf)
      | (refine OblG.mk (by conv => whnf
                            repeat (first | (refine Bx.mk ?_) | (intro h; (try simp [nd_eta, sh_eta, it_eta, sto_eta, op_eta, ch_eta, nw_eta, fl_eta, rq_eta, rs_eta, elDef, -List.getD_eq_getElem?_getD] at h); conv => whnf))
                            first | omega | rfl | exact inK_byte _ | (simp only [inK, Int.toNat_natCast, nd_eta, sh_eta, it_eta, sto_eta, op_eta, ch_eta, nw_eta, fl_eta, rq_eta, rs_eta, elDef, m24, m24, m36, o37] <;> first | omega | grind) | grind [inK, m24, m24, m36, o37]) ?_ <;> conv => whnf)
      | (refine Gd.mk (fun h => ?_) <;> (try simp [nd_eta, sh_eta, it_eta, sto_eta, op_eta, ch_eta, nw_eta, fl_eta, rq_eta, rs_eta, elDef, -List.getD_eq_getElem?_getD] at h) <;> conv => whnf)
      | (refine And.intro ?_ ?_ <;> conv => whnf)
      | exact True.intro
      | (intro; conv => whnf)
    · rename_i h1
      have e9 : accM p n (i + 1) = dropL (accM p n i) (p.names.getD i []) := by rw [accM_succ h1 (by omega)]; unfold stepG; rw [if_pos (of_decide_eq_true h)]
      exact ⟨i + 1, [(900, 39000), (901, 39001)], [], ⟨by omega, trivial⟩, by omega, by (conv => whnf); (repeat' (first | exact trivial | rfl | (refine nilEq ?_; first | rfl | (simp only [*]; done) | (simp [*]; done) | grind) | apply And.intro | ((first | refine intEq ?_ | refine boolEq ?_ | refine strEq ?_ | refine psEq ?_ | refine nilEq ?_ | refine arrEq ?_); (try simp only [Int.toNat_natCast, nd_eta, sh_eta, it_eta, sto_eta, op_eta, ch_eta, nw_eta, fl_eta, rq_eta, rs_eta, elDef]); first | done | omega | (simp only [e9, ez])))); (all_goals (conv => whnf)); (repeat' (first | exact trivial | rfl | (refine nilEq ?_; first | rfl | (simp only [*]; done) | (simp [*]; done) | grind) | apply And.intro | ((first | refine intEq ?_ | refine boolEq ?_ | refine strEq ?_ | refine psEq ?_ | refine nilEq ?_ | refine arrEq ?_); (try simp only [Int.toNat_natCast, nd_eta, sh_eta, it_eta, sto_eta, op_eta, ch_eta, nw_eta, fl_eta, rq_eta, rs_eta, elDef]); first | done | omega | (simp only [e9, ez])) | ((try simp only [Int.toNat_natCast, nd_eta, sh_eta, it_eta, sto_eta, op_eta, ch_eta, nw_eta, fl_eta, rq_eta, rs_eta, elDef]); first | done | omega | (simp only [e9, ez])))), (by exact sgOk_of (by rfl))⟩
    · rename_i h1 h2
      have h3 := hold h1 h
      have e9 : accM p n (i + 1) = putL (accM p n i) ⟨p.names.getD i [], 0, mrgM (p.kids.getD i default) (kidOf (baseI n) (p.names.getD i []))⟩ := by rw [accM_succ h1 (by omega)]; unfold stepG; rw [if_neg (of_decide_eq_false h2)]
      exact ⟨i + 1, [(900, 61000), (901, 61001)], [], ⟨by omega, trivial⟩, by omega, by (conv => whnf); (repeat' (first | exact trivial | rfl | (refine nilEq ?_; first | rfl | (simp only [*]; done) | (simp [*]; done) | grind) | apply And.intro | ((first | refine intEq ?_ | refine boolEq ?_ | refine strEq ?_ | refine psEq ?_ | refine nilEq ?_ | refine arrEq ?_); (try simp only [Int.toNat_natCast, nd_eta, sh_eta, it_eta, sto_eta, op_eta, ch_eta, nw_eta, fl_eta, rq_eta, rs_eta, elDef]); first | done | omega | (simp only [e9, ez, h3])))); (all_goals (conv => whnf)); (repeat' (first | exact trivial | rfl | (refine nilEq ?_; first | rfl | (simp only [*]; done) | (simp [*]; done) | grind) | apply And.intro | ((first | refine intEq ?_ | refine boolEq ?_ | refine strEq ?_ | refine psEq ?_ | refine nilEq ?_ | refine arrEq ?_); (try simp only [Int.toNat_natCast, nd_eta, sh_eta, it_eta, sto_eta, op_eta, ch_eta, nw_eta, fl_eta, rq_eta, rs_eta, elDef]); first | done | omega | (simp only [e9, ez, h3])) | ((try simp only [Int.toNat_natCast, nd_eta, sh_eta, it_eta, sto_eta, op_eta, ch_eta, nw_eta, fl_eta, rq_eta, rs_eta, elDef]); first | done | omega | (simp only [e9, ez, h3])))), (by exact sgOk_of (by rfl))⟩
    · rename_i h1 h2
      have h3 : kidOf (baseI n) (p.names.getD i []) = ⟨0, 0, [], [], []⟩ := by rw [← hak h1, hkf.2 h]; rfl
      have e9 : accM p n (i + 1) = putL (accM p n i) ⟨p.names.getD i [], 0, mrgM (p.kids.getD i default) ⟨0, 0, [], [], []⟩⟩ := by rw [accM_succ h1 (by omega)]; unfold stepG; rw [if_neg (of_decide_eq_false h2), h3]
      exact ⟨i + 1, [(900, 61000), (901, 61001)], [], ⟨by omega, trivial⟩, by omega, by (conv => whnf); (repeat' (first | exact trivial | rfl | (refine nilEq ?_; first | rfl | (simp only [*]; done) | (simp [*]; done) | grind) | apply And.intro | ((first | refine intEq ?_ | refine boolEq ?_ | refine strEq ?_ | refine psEq ?_ | refine nilEq ?_ | refine arrEq ?_); (try simp only [Int.toNat_natCast, nd_eta, sh_eta, it_eta, sto_eta, op_eta, ch_eta, nw_eta, fl_eta, rq_eta, rs_eta, elDef]); first | done | omega | (simp only [e9, ez])))); (all_goals (conv => whnf)); (repeat' (first | exact trivial | rfl | (refine nilEq ?_; first | rfl | (simp only [*]; done) | (simp [*]; done) | grind) | apply And.intro | ((first | refine intEq ?_ | refine boolEq ?_ | refine strEq ?_ | refine psEq ?_ | refine nilEq ?_ | refine arrEq ?_); (try simp only [Int.toNat_natCast, nd_eta, sh_eta, it_eta, sto_eta, op_eta, ch_eta, nw_eta, fl_eta, rq_eta, rs_eta, elDef]); first | done | omega | (simp only [e9, ez])) | ((try simp only [Int.toNat_natCast, nd_eta, sh_eta, it_eta, sto_eta, op_eta, ch_eta, nw_eta, fl_eta, rq_eta, rs_eta, elDef]); first | done | omega | (simp only [e9, ez])))), (by exact sgOk_of (by rfl))⟩
    · rw [hme, if_pos hk, ← accM_all n hlp, show p.names.length = i by omega] at hK
      exact hK
  · rename_i hk
    have hlp := (okN_names hp).2.1 hk
    have h6 := (okN_names hp).1
    have hb0 : baseI n = [] := by unfold baseI; rw [if_neg h]
    have h00 : accM p n 0 = [] := by rw [accM_zero, hb0]
    refine aloop_intro (Nat × Bool) (fun q => q.1 ≤ p.names.length ∧ (q.2 = true → q.1 = 0)) (fun q => p.names.length - q.1) (fun q => [(25, .int .i64 q.1)]) (fun q => loM q.2 (accM p n q.1)) [2, 3, 4] (0, true) [] [] ⟨Nat.zero_le _, fun _ => rfl⟩ ?_ (by exact sgOk_of (by rfl)) ?_
    · (conv => whnf); (repeat' (first | exact trivial | rfl | (refine nilEq ?_; first | rfl | (simp only [*]; done) | (simp [*]; done) | grind) | apply And.intro | ((first | refine intEq ?_ | refine boolEq ?_ | refine strEq ?_ | refine psEq ?_ | refine nilEq ?_ | refine arrEq ?_); (try simp only [Int.toNat_natCast, nd_eta, sh_eta, it_eta, sto_eta, op_eta, ch_eta, nw_eta, fl_eta, rq_eta, rs_eta, elDef]); first | done | omega | grind | (simp only [*]; done) | (simp [*]; done)))); (all_goals (conv => whnf)); (repeat' (first | exact trivial | rfl | (refine nilEq ?_; first | rfl | (simp only [*]; done) | (simp [*]; done) | grind) | apply And.intro | ((first | refine intEq ?_ | refine boolEq ?_ | refine strEq ?_ | refine psEq ?_ | refine nilEq ?_ | refine arrEq ?_); (try simp only [Int.toNat_natCast, nd_eta, sh_eta, it_eta, sto_eta, op_eta, ch_eta, nw_eta, fl_eta, rq_eta, rs_eta, elDef]); first | done | omega | grind | (simp only [*]; done) | (simp [*]; done)) | ((try simp only [Int.toNat_natCast, nd_eta, sh_eta, it_eta, sto_eta, op_eta, ch_eta, nw_eta, fl_eta, rq_eta, rs_eta, elDef]); first | done | omega | grind | (simp only [*]; done) | (simp [*]; done))))
    rintro ⟨i, _ | _⟩ ⟨hi, hj⟩
    · dsimp only at hi hj
      have hf := accM_facts hn (p := p) (i := i) hi (by omega)
      have ez := zip_back hf.2.1
      have hso := sorted_nm.2 hf.1
      have hkf := kid_found (b := p.names.getD i []) hf.1
      have hl1 : ((accM p n i).map (·.name)).length = ((accM p n i).map (·.node)).length := by simp
      have hl2 : ((accM p n i).map (·.name)).length ≤ 100000 := by simp; omega
      have hfl : foundI (nmI ((accM p n i).map (·.name))) (p.names.getD i []) = true → lbI (nmI ((accM p n i).map (·.name))) (p.names.getD i []) < ((accM p n i).map (·.node)).length := fun h => by have := found_lt h; rw [hl1] at this; exact this
      have hak := fun h => accM_kid hp hk hn (i := i) h
      have hok := kidOf_ok hn (p.names.getD i [])
      have hold : ∀ (_ : i < p.names.length) (_ : foundI (nmI ((accM p n i).map (·.name))) (p.names.getD i []) = true), ((accM p n i).map (·.node)).getD (lbI (nmI ((accM p n i).map (·.name))) (p.names.getD i [])) default = kidOf (baseI n) (p.names.getD i []) := fun h1 h2 => by rw [hkf.1 h2, hak h1]
      have hokd : ∀ (_ : i < p.names.length) (_ : foundI (nmI ((accM p n i).map (·.name))) (p.names.getD i []) = true), okN (((accM p n i).map (·.node)).getD (lbI (nmI ((accM p n i).map (·.name))) (p.names.getD i [])) default) := fun h1 h2 => by rw [hold h1 h2]; exact hok
      have hz := okN_zero
      unfold zeroN at hz
      have hks := fun (h : i < p.kids.length) => kid_size h
      have hko := fun (h : i < p.kids.length) => okN_kid hp h
      conv => whnf
      repeat' first
        | (refine Cnd.mk (fun h => ?_) (fun h => ?_) <;> (try simp [nd_eta, sh_eta, it_eta, sto_eta, op_eta, ch_eta, nw_eta, fl_eta, rq_eta, rs_eta, elDef, -List.getD_eq_getElem?_getD] at h) <;> conv => whnf)
        | (refine Obl.mk (by first | omega | rfl | exact inK_byte _ | (simp only [inK, Int.toNat_natCast, nd_eta, sh_eta, it_eta, sto_eta, op_eta, ch_eta, nw_eta, fl_eta, rq_eta, rs_eta, elDef, m24, m24, m36, o37] <;> first | omega | grind) | grind [inK, m24, m24, m36, o37]) ?_ <;> conv => whnf)
        | (refine OblG.mk (by conv => whnf
                              repeat (first | (refine Bx.mk ?_) | (intro h; (try simp [nd_eta, sh_eta, it_eta, sto_eta, op_eta, ch_eta, nw_eta, fl_eta, rq_eta, rs_eta, elDef, -List.getD_eq_getElem?_getD] at h); conv => whnf))
                              first | omega | rfl | exact inK_byte _ | (simp only [inK, Int.toNat_natCast, nd_eta, sh_eta, it_eta, sto_eta, op_eta, ch_eta, nw_eta, fl_eta, rq_eta, rs_eta, elDef, m24, m24, m36, o37] <;> first | omega | grind) | grind [inK, m24, m24, m36, o37]) ?_ <;> conv => whnf)
        | (refine Gd.mk (fun h => ?_) <;> (try simp [nd_eta, sh_eta, it_eta, sto_eta, op_eta, ch_eta, nw_eta, fl_eta, rq_eta, rs_eta, elDef, -List.getD_eq_getElem?_getD] at h) <;> conv => whnf)
        | (refine And.intro ?_ ?_ <;> conv => whnf)
        | exact True.intro
        | (intro; conv => whnf)
      · rename_i h1
        have e9 : accM p n (i + 1) = dropL (accM p n i) (p.names.getD i []) := by rw [accM_succ h1 (by omega)]; unfold stepG; rw [if_pos (of_decide_eq_true h)]
        exact ⟨(i + 1, false), [(900, 39000), (901, 39001)], [], ⟨by omega, fun h => by cases h⟩, by show p.names.length - (i + 1) < p.names.length - i; omega, by (conv => whnf); (repeat' (first | exact trivial | rfl | (refine nilEq ?_; first | rfl | (simp only [*]; done) | (simp [*]; done) | grind) | apply And.intro | ((first | refine intEq ?_ | refine boolEq ?_ | refine strEq ?_ | refine psEq ?_ | refine nilEq ?_ | refine arrEq ?_); (try simp only [Int.toNat_natCast, nd_eta, sh_eta, it_eta, sto_eta, op_eta, ch_eta, nw_eta, fl_eta, rq_eta, rs_eta, elDef]); first | done | omega | (simp only [e9, ez])))); (all_goals (conv => whnf)); (repeat' (first | exact trivial | rfl | (refine nilEq ?_; first | rfl | (simp only [*]; done) | (simp [*]; done) | grind) | apply And.intro | ((first | refine intEq ?_ | refine boolEq ?_ | refine strEq ?_ | refine psEq ?_ | refine nilEq ?_ | refine arrEq ?_); (try simp only [Int.toNat_natCast, nd_eta, sh_eta, it_eta, sto_eta, op_eta, ch_eta, nw_eta, fl_eta, rq_eta, rs_eta, elDef]); first | done | omega | (simp only [e9, ez])) | ((try simp only [Int.toNat_natCast, nd_eta, sh_eta, it_eta, sto_eta, op_eta, ch_eta, nw_eta, fl_eta, rq_eta, rs_eta, elDef]); first | done | omega | (simp only [e9, ez])))), (by exact sgOk_of (by rfl))⟩
      · rename_i h1 h2
        have h3 := hold h1 h
        have e9 : accM p n (i + 1) = putL (accM p n i) ⟨p.names.getD i [], 0, mrgM (p.kids.getD i default) (kidOf (baseI n) (p.names.getD i []))⟩ := by rw [accM_succ h1 (by omega)]; unfold stepG; rw [if_neg (of_decide_eq_false h2)]
        exact ⟨(i + 1, false), [(900, 61000), (901, 61001)], [], ⟨by omega, fun h => by cases h⟩, by show p.names.length - (i + 1) < p.names.length - i; omega, by (conv => whnf); (repeat' (first | exact trivial | rfl | (refine nilEq ?_; first | rfl | (simp only [*]; done) | (simp [*]; done) | grind) | apply And.intro | ((first | refine intEq ?_ | refine boolEq ?_ | refine strEq ?_ | refine psEq ?_ | refine nilEq ?_ | refine arrEq ?_); (try simp only [Int.toNat_natCast, nd_eta, sh_eta, it_eta, sto_eta, op_eta, ch_eta, nw_eta, fl_eta, rq_eta, rs_eta, elDef]); first | done | omega | (simp only [e9, ez, h3])))); (all_goals (conv => whnf)); (repeat' (first | exact trivial | rfl | (refine nilEq ?_; first | rfl | (simp only [*]; done) | (simp [*]; done) | grind) | apply And.intro | ((first | refine intEq ?_ | refine boolEq ?_ | refine strEq ?_ | refine psEq ?_ | refine nilEq ?_ | refine arrEq ?_); (try simp only [Int.toNat_natCast, nd_eta, sh_eta, it_eta, sto_eta, op_eta, ch_eta, nw_eta, fl_eta, rq_eta, rs_eta, elDef]); first | done | omega | (simp only [e9, ez, h3])) | ((try simp only [Int.toNat_natCast, nd_eta, sh_eta, it_eta, sto_eta, op_eta, ch_eta, nw_eta, fl_eta, rq_eta, rs_eta, elDef]); first | done | omega | (simp only [e9, ez, h3])))), (by exact sgOk_of (by rfl))⟩
      · rename_i h1 h2
        have h3 : kidOf (baseI n) (p.names.getD i []) = ⟨0, 0, [], [], []⟩ := by rw [← hak h1, hkf.2 h]; rfl
        have e9 : accM p n (i + 1) = putL (accM p n i) ⟨p.names.getD i [], 0, mrgM (p.kids.getD i default) ⟨0, 0, [], [], []⟩⟩ := by rw [accM_succ h1 (by omega)]; unfold stepG; rw [if_neg (of_decide_eq_false h2), h3]
        exact ⟨(i + 1, false), [(900, 61000), (901, 61001)], [], ⟨by omega, fun h => by cases h⟩, by show p.names.length - (i + 1) < p.names.length - i; omega, by (conv => whnf); (repeat' (first | exact trivial | rfl | (refine nilEq ?_; first | rfl | (simp only [*]; done) | (simp [*]; done) | grind) | apply And.intro | ((first | refine intEq ?_ | refine boolEq ?_ | refine strEq ?_ | refine psEq ?_ | refine nilEq ?_ | refine arrEq ?_); (try simp only [Int.toNat_natCast, nd_eta, sh_eta, it_eta, sto_eta, op_eta, ch_eta, nw_eta, fl_eta, rq_eta, rs_eta, elDef]); first | done | omega | (simp only [e9, ez])))); (all_goals (conv => whnf)); (repeat' (first | exact trivial | rfl | (refine nilEq ?_; first | rfl | (simp only [*]; done) | (simp [*]; done) | grind) | apply And.intro | ((first | refine intEq ?_ | refine boolEq ?_ | refine strEq ?_ | refine psEq ?_ | refine nilEq ?_ | refine arrEq ?_); (try simp only [Int.toNat_natCast, nd_eta, sh_eta, it_eta, sto_eta, op_eta, ch_eta, nw_eta, fl_eta, rq_eta, rs_eta, elDef]); first | done | omega | (simp only [e9, ez])) | ((try simp only [Int.toNat_natCast, nd_eta, sh_eta, it_eta, sto_eta, op_eta, ch_eta, nw_eta, fl_eta, rq_eta, rs_eta, elDef]); first | done | omega | (simp only [e9, ez])))), (by exact sgOk_of (by rfl))⟩
      · rw [hme, if_pos hk, ← accM_all n hlp, show p.names.length = i by omega] at hK
        exact hK
    · dsimp only at hi hj
      obtain rfl := hj rfl
      have hf := accM_facts hn (p := p) (i := 0) hi (by omega)
      have ez := zip_back hf.2.1
      have hso := sorted_nm.2 hf.1
      have hkf := kid_found (b := p.names.getD 0 []) hf.1
      have hl1 : ((accM p n 0).map (·.name)).length = ((accM p n 0).map (·.node)).length := by simp
      have hl2 : ((accM p n 0).map (·.name)).length ≤ 100000 := by simp; omega
      have hfl : foundI (nmI ((accM p n 0).map (·.name))) (p.names.getD 0 []) = true → lbI (nmI ((accM p n 0).map (·.name))) (p.names.getD 0 []) < ((accM p n 0).map (·.node)).length := fun h => by have := found_lt h; rw [hl1] at this; exact this
      have hak := fun h => accM_kid hp hk hn (i := 0) h
      have hok := kidOf_ok hn (p.names.getD 0 [])
      have hold : ∀ (_ : 0 < p.names.length) (_ : foundI (nmI ((accM p n 0).map (·.name))) (p.names.getD 0 []) = true), ((accM p n 0).map (·.node)).getD (lbI (nmI ((accM p n 0).map (·.name))) (p.names.getD 0 [])) default = kidOf (baseI n) (p.names.getD 0 []) := fun h1 h2 => by rw [hkf.1 h2, hak h1]
      have hokd : ∀ (_ : 0 < p.names.length) (_ : foundI (nmI ((accM p n 0).map (·.name))) (p.names.getD 0 []) = true), okN (((accM p n 0).map (·.node)).getD (lbI (nmI ((accM p n 0).map (·.name))) (p.names.getD 0 [])) default) := fun h1 h2 => by rw [hold h1 h2]; exact hok
      have hz := okN_zero
      unfold zeroN at hz
      have hks := fun (h : 0 < p.kids.length) => kid_size h
      have hko := fun (h : 0 < p.kids.length) => okN_kid hp h
      have hz0 : zipI [] [] = [] := rfl
      have hnf : foundI (nmI []) (p.names.getD 0 []) = false := rfl
      have hsn0 : sortedI (nmI []) := by intro a b _ h; simp [nmI] at h
      conv => whnf
      repeat' first
        | (refine Cnd.mk (fun h => ?_) (fun h => ?_) <;> (try simp [nd_eta, sh_eta, it_eta, sto_eta, op_eta, ch_eta, nw_eta, fl_eta, rq_eta, rs_eta, elDef, -List.getD_eq_getElem?_getD] at h) <;> conv => whnf)
        | (refine Obl.mk (by first | omega | rfl | exact inK_byte _ | (simp only [inK, Int.toNat_natCast, nd_eta, sh_eta, it_eta, sto_eta, op_eta, ch_eta, nw_eta, fl_eta, rq_eta, rs_eta, elDef, m24, m24, m36, o37] <;> first | omega | grind) | grind [inK, m24, m24, m36, o37]) ?_ <;> conv => whnf)
        | (refine OblG.mk (by conv => whnf
                              repeat (first | (refine Bx.mk ?_) | (intro h; (try simp [nd_eta, sh_eta, it_eta, sto_eta, op_eta, ch_eta, nw_eta, fl_eta, rq_eta, rs_eta, elDef, -List.getD_eq_getElem?_getD] at h); conv => whnf))
                              first | omega | rfl | exact inK_byte _ | (simp only [inK, Int.toNat_natCast, nd_eta, sh_eta, it_eta, sto_eta, op_eta, ch_eta, nw_eta, fl_eta, rq_eta, rs_eta, elDef, m24, m24, m36, o37] <;> first | omega | grind) | grind [inK, m24, m24, m36, o37]) ?_ <;> conv => whnf)
        | (refine Gd.mk (fun h => ?_) <;> (try simp [nd_eta, sh_eta, it_eta, sto_eta, op_eta, ch_eta, nw_eta, fl_eta, rq_eta, rs_eta, elDef, -List.getD_eq_getElem?_getD] at h) <;> conv => whnf)
        | (refine And.intro ?_ ?_ <;> conv => whnf)
        | exact True.intro
        | (intro; conv => whnf)
      · rename_i h1
        have e9 : accM p n (0 + 1) = dropL [] (p.names.getD 0 []) := by rw [accM_succ h1 (by omega), h00]; unfold stepG; rw [if_pos (of_decide_eq_true h)]
        exact ⟨(0 + 1, false), [(900, 39000), (901, 39001)], [], ⟨by omega, fun h => by cases h⟩, by show p.names.length - (0 + 1) < p.names.length - 0; omega, by (conv => whnf); (repeat' (first | exact trivial | rfl | (refine nilEq ?_; first | rfl | (simp only [*]; done) | (simp [*]; done) | grind) | apply And.intro | ((first | refine intEq ?_ | refine boolEq ?_ | refine strEq ?_ | refine psEq ?_ | refine nilEq ?_ | refine arrEq ?_); (try simp only [Int.toNat_natCast, nd_eta, sh_eta, it_eta, sto_eta, op_eta, ch_eta, nw_eta, fl_eta, rq_eta, rs_eta, elDef]); first | done | omega | (simp only [e9, hz0])))); (all_goals (conv => whnf)); (repeat' (first | exact trivial | rfl | (refine nilEq ?_; first | rfl | (simp only [*]; done) | (simp [*]; done) | grind) | apply And.intro | ((first | refine intEq ?_ | refine boolEq ?_ | refine strEq ?_ | refine psEq ?_ | refine nilEq ?_ | refine arrEq ?_); (try simp only [Int.toNat_natCast, nd_eta, sh_eta, it_eta, sto_eta, op_eta, ch_eta, nw_eta, fl_eta, rq_eta, rs_eta, elDef]); first | done | omega | (simp only [e9, hz0])) | ((try simp only [Int.toNat_natCast, nd_eta, sh_eta, it_eta, sto_eta, op_eta, ch_eta, nw_eta, fl_eta, rq_eta, rs_eta, elDef]); first | done | omega | (simp only [e9, hz0])))), (by exact sgOk_of (by rfl))⟩
      · rw [hnf] at h; cases h
      · rename_i h1 h2
        have e3 : kidOf (baseI n) (p.names.getD 0 []) = ⟨0, 0, [], [], []⟩ := by rw [hb0]; rfl
        have e9 : accM p n (0 + 1) = putL [] ⟨p.names.getD 0 [], 0, mrgM (p.kids.getD 0 default) ⟨0, 0, [], [], []⟩⟩ := by rw [accM_succ h1 (by omega), h00]; unfold stepG; rw [if_neg (of_decide_eq_false h2), e3]
        exact ⟨(0 + 1, false), [(900, 61000), (901, 61001)], [], ⟨by omega, fun h => by cases h⟩, by show p.names.length - (0 + 1) < p.names.length - 0; omega, by (conv => whnf); (repeat' (first | exact trivial | rfl | (refine nilEq ?_; first | rfl | (simp only [*]; done) | (simp [*]; done) | grind) | apply And.intro | ((first | refine intEq ?_ | refine boolEq ?_ | refine strEq ?_ | refine psEq ?_ | refine nilEq ?_ | refine arrEq ?_); (try simp only [Int.toNat_natCast, nd_eta, sh_eta, it_eta, sto_eta, op_eta, ch_eta, nw_eta, fl_eta, rq_eta, rs_eta, elDef]); first | done | omega | (simp only [e9, hz0])))); (all_goals (conv => whnf)); (repeat' (first | exact trivial | rfl | (refine nilEq ?_; first | rfl | (simp only [*]; done) | (simp [*]; done) | grind) | apply And.intro | ((first | refine intEq ?_ | refine boolEq ?_ | refine strEq ?_ | refine psEq ?_ | refine nilEq ?_ | refine arrEq ?_); (try simp only [Int.toNat_natCast, nd_eta, sh_eta, it_eta, sto_eta, op_eta, ch_eta, nw_eta, fl_eta, rq_eta, rs_eta, elDef]); first | done | omega | (simp only [e9, hz0])) | ((try simp only [Int.toNat_natCast, nd_eta, sh_eta, it_eta, sto_eta, op_eta, ch_eta, nw_eta, fl_eta, rq_eta, rs_eta, elDef]); first | done | omega | (simp only [e9, hz0])))), (by exact sgOk_of (by rfl))⟩
      · have e9 : mrgM p n = ndOf [] := by rw [hme, if_pos hk, ← accM_all n hlp, h, List.length_nil, h00]
        exact leafV hK (by rw [e9]; rfl)
theorem r24 : ∀ k, (CtrOK Try.prog 24 (.gen .ps (Ck24 k)) ∧ Callable Try.prog 24) := by
  intro k
  induction k with
  | zero =>
    exact ⟨fun args K h => by
        unfold Ck24 at h; split at h
        · exact absurd h.o (Nat.not_lt_zero _)
        · exact h.elim, callable Try.func24 rfl (by rfl)⟩
  | succ k ih =>
    refine gen_ok (E := E24 k) (mkE_cons ih (mkE_cons s36 (mkE_cons s37 (mkE_cons s38 (mkE_cons s41 (mkE_nil tab_ok)))))) mix (O := O24) (C := (Ck24 (k + 1))) (own := .ps) Try.func24 rfl (by rfl) (by kernel_rfl) (fun args K h hbd => ?_)
    unfold Ck24 at h; split at h
    case h_2 => exact h.elim
    exact ⟨Nat.le_of_ble_eq_true rfl, a24 k ⟨_, _, _, _, _⟩ ⟨_, _, _, _, _⟩ h.o (by exact hbd) _ h.k⟩
theorem s24 : (CtrOK Try.prog 24 (.gen .ps C24) ∧ Callable Try.prog 24) := by
  refine ⟨fun args K h => ?_, (r24 0).2⟩
  unfold C24 at h; split at h
  · exact (r24 (m24 ⟨_, _, _, _, _⟩ ⟨_, _, _, _, _⟩ + 1)).1 _ K ⟨Nat.lt_succ_self _, h⟩
  · exact h.elim
end Go.Rs

