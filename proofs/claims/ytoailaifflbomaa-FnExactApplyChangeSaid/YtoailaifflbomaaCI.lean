import Derived.Test.YtoailaifflbomaaDelA
import Derived.Test.YtoailaifflbomaaCG
import Derived.Test.YtoailaifflbomaaMB
set_option linter.all false
section
section
set_option linter.unusedSimpArgs false
set_option linter.unusedVariables false
namespace Go.Rs
open Go.Proofs Go.RowKit Go.Lib
theorem delX {xs Z X1 X2 : List Value} {i n c : Nat} (hi : i < n) (hc : n ≤ c) (hx : xs.length = c * 7) (hZ : Z.length = 7)
    (h1 : X1 = xs.take (i * 7) ++ (xs.drop ((i + 1) * 7)).take ((n - (i + 1)) * 7) ++ xs.drop (i * 7 + (n - (i + 1)) * 7)) (h2 : X2 = X1.take ((n - 1) * 7) ++ Z ++ X1.drop ((n - 1) * 7 + 7)) :
    X2.length = c * 7 ∧ ∀ k j, k < n - 1 → j < 7 → X2[k * 7 + j]? = if k < i then xs[k * 7 + j]? else xs[(k + 1) * 7 + j]? := by
  have hl1 : X1.length = c * 7 := by rw [h1]; simp only [List.length_append, List.length_take, List.length_drop]; omega
  refine ⟨by rw [h2]; simp only [List.length_append, List.length_take, List.length_drop]; omega, fun k j hk hj => ?_⟩
  have hs := splice_get X1 Z ((n - 1) * 7) (by omega) (k * 7 + j)
  rw [hZ] at hs
  rw [h2, hs, if_neg (by omega), h1, spliceRow (by omega) (by omega) (by omega)]
  by_cases hk2 : k < i
  · rw [if_neg (by omega), if_pos hk2]
  · rw [if_pos (by omega), if_neg hk2]
    congr 1; omega
theorem del_get {l : List It} {i k : Nat} (hi : i < l.length) (hk : k < l.length - 1) : (l.eraseIdx i).getD k default = if k < i then l.getD k default else l.getD (k + 1) default := by
  simp only [List.getD_eq_getElem?_getD, List.getElem?_eraseIdx]
  split <;> rfl
end Go.Rs
end
section
set_option linter.unusedSimpArgs false
set_option linter.unusedVariables false
namespace Go.Rs
open Go.Proofs Go.RowKit Go.Lib
theorem delete_snd {l : List It} {i j : Int} {K : AV → List AV → Prop} (h0 : 0 ≤ i) (hj : j = i + 1) (hi : j ≤ l.length) (hl : l.length ≤ 2097152) (hK : K (.own .item (l.eraseIdx i.toNat)) []) :
    ∀ w γ S xs, IAs γ w S xs [.own .item l, .int .i64 i, .int .i64 j] → S.Nodup → (∀ b, w.heap.size ≤ b → γ b = 0) →
    Calls Try.prog 84 xs.toArray w fun e w' => ∃ r rs x γ' Sr Sq, K r rs ∧ e = .returned x ∧ IR γ' w' Sr x r ∧ IAs γ' w' Sq (refVals [.own .item l, .int .i64 i, .int .i64 j] xs) rs ∧ (Sr ++ Sq).Nodup ∧ Fr S γ w γ' w' ∧ ∀ b ∈ Sr ++ Sq, b ∈ S ∨ w.heap.size ≤ b := by
  intro w γ S xs hia hnd hf
  subst hj
  obtain ⟨k, rfl⟩ := Int.eq_ofNat_of_zero_le h0
  have hk : k < l.length := by omega
  rw [Int.toNat_natCast] at hK
  cases hia with
  | cons ha hia =>
  cases hia with
  | cons hb hia =>
  cases hia with
  | cons hc hia =>
  cases hia
  cases hb with
  | val hb => cases hb with
    | cell hb => cases hb with
      | per hb _ => cases hb with
        | int =>
  cases hc with
  | val hc => cases hc with
    | cell hc => cases hc with
      | per hc _ => cases hc with
        | int =>
  obtain ⟨zv, hv45, hzc, hzall⟩ : ∃ zv, (∀ w, (zeroValue 97).run Try.prog w = .ok zv w) ∧ zv.cells.size = 7 ∧ zv.cells.toList.all (fun x => x.oneCell') = true := by
    have h45 : ((Try.prog.info? 97).bind fun i => i.zero.map fun z => (z.cells.size, z.cells.toList.all (fun x => x.oneCell'))) = some (7, true) := by kernel_rfl
    obtain ⟨i0, h1, h2⟩ := Option.bind_eq_some_iff.1 h45
    obtain ⟨z, h3, h4⟩ := Option.map_eq_some_iff.1 h2
    simp only [Prod.mk.injEq] at h4
    exact ⟨z, fun w => by simp [zeroValue, typeInfo, h1, h3], h4.1, h4.2⟩
  have hzv1 : ∀ x ∈ zv.cells.toList, x.oneCell' = true := fun x hx => List.all_eq_true.1 hzall x hx
  have hZ1 : ∀ x ∈ (Builtin.zeroCells zv.cells 1).toList, x.oneCell' = true := zeroCells_one hzv1 (by omega) 1
  have hZl : (Builtin.zeroCells zv.cells 1).toList.length = 7 := by simp [Builtin.zeroCells, hzc]
  cases ha with
  | val ha => cases ha with
    | cell ha => cases ha with
      | per ha _ => cases ha
      | own0 _ a => simp at hk
      | own _ _ b c xs hM hlc hc0 hrow hxl hxr =>
        obtain ⟨hbγ, hx1, T, hb⟩ := hrow
        have hxl' : xs.length = c * 7 := hxl
        refine (del_walk b l.length c k T xs w hk hlc hl hb hxl' hx1 hv45 (Z := (Builtin.zeroCells zv.cells 1).toList) rfl hZ1 hZl).mono fun e w' hh => ?_
        obtain ⟨he, X1, X2, h1, h2, hw⟩ := hh
        obtain ⟨hX2l, hX⟩ := delX hk hlc hxl' hZl h1 h2
        obtain ⟨f1, f2, f3⟩ := setRow_facts (w := w.drew) (ys := X1) hb
        have g0 := f2 T hb
        obtain ⟨g1, g2, g3⟩ := setRow_facts (ys := X2) g0
        have hX11 : ∀ x ∈ X1, x.oneCell' = true := by rw [h1]; exact one_app (one_take hx1 _) (one_take (one_drop hx1 _) _) (one_drop hx1 _)
        have hX21 : ∀ x ∈ X2, x.oneCell' = true := by rw [h2]; exact one_app (one_take hX11 _) hZ1 (one_drop hX11 _)
        have hheap : ∀ b', b' < w.heap.size → b' ∉ [b] → w'.heap[b']? = w.heap[b']? := fun b' _ h => by
          have h' : b' ≠ b := by simpa using h
          rw [hw, g1 b' h', f1 b' h']; rfl
        have hkeep : Keeps γ w γ w' := keeps_of hheap (by simp [hbγ]) hf
        have hlen : (l.eraseIdx k).length = l.length - 1 := by rw [List.length_eraseIdx]; simp [hk]
        have hic := IC.own (γ := γ) (w := w') .item (l.eraseIdx k) b c X2 (by rw [hlen]; unfold MX; omega) (by rw [hlen]; omega) hc0 ⟨hbγ, hX21, T, by rw [hw]; exact g2 T g0⟩ hX2l (by
          intro m hm j hj
          rw [hlen] at hm
          have hj7 : j < 7 := hj
          show Rep noU noν γ w' (X2.getD (m * 7 + j) undef) ((enc .item ((l.eraseIdx k).getD m default)).getD j .opq)
          rw [del_get hk hm, List.getD_eq_getElem?_getD (l := X2), hX m j hm hj7]
          split
          · have := (hxr m (by omega) j hj7).keep hkeep (fun _ h => h) (fun _ _ => rfl)
            rwa [List.getD_eq_getElem?_getD (l := xs)] at this
          · have := (hxr (m + 1) (by omega) j hj7).keep hkeep (fun _ h => h) (fun _ _ => rfl)
            rwa [List.getD_eq_getElem?_getD (l := xs)] at this)
        rw [hlen] at hic
        refine ⟨_, [], _, γ, [b], [], hK, he, .one (.cell hic), .nil, by simp, fr_of (by rw [hw]; rfl) (by rw [hw]; rfl) (by rw [hw]; rfl) (by rw [hw, g3, f3]; exact Nat.le_refl _) (fun b' h h' => hheap b' h (by simpa using h')) rfl hf hkeep, fun b' h => .inl (by simpa using h)⟩
end Go.Rs
end
end
section
set_option linter.unusedSimpArgs false
set_option linter.unusedVariables false
namespace Go.Rs
open Go.Proofs
set_option maxRecDepth 100000
noncomputable def c108 (l : List It) (i : Int) (v : List It) (K : AV → List AV → Prop) : Prop :=
    Obl ((0 ≤ i ∧ i ≤ l.length) ∧ v.length = 1 ∧ l.length ≤ 2097152) (K (.own .item (l.take i.toNat ++ v ++ l.drop i.toNat)) [])
noncomputable def C108 : List AV → (AV → List AV → Prop) → Prop
  | [.own .item l, .int .i64 i, .own .item v], K => c108 l i v K
  | _, _ => False
theorem s108 : CtrOK Try.prog 108 (.gen .ow C108) ∧ Callable Try.prog 108 := by
  refine ⟨fun args K h => ?_, callable Try.func108 (by kernel_rfl) (by kernel_rfl)⟩
  unfold C108 at h
  split at h
  case h_2 => exact h.elim
  unfold c108 at h
  obtain ⟨h1, h2⟩ := h
  exact fun w γ S xs hi hn hf _ _ => insert_snd h1.1 h1.2.1 h1.2.2 h2 w γ S xs hi hn hf
noncomputable def c84 (l : List It) (i : Int) (j : Int) (K : AV → List AV → Prop) : Prop :=
    Obl (0 ≤ i ∧ j = i + 1 ∧ j ≤ l.length ∧ l.length ≤ 2097152) (K (.own .item (l.eraseIdx i.toNat)) [])
noncomputable def C84 : List AV → (AV → List AV → Prop) → Prop
  | [.own .item l, .int .i64 i, .int .i64 j], K => c84 l i j K
  | _, _ => False
theorem s84 : CtrOK Try.prog 84 (.gen .ow C84) ∧ Callable Try.prog 84 := by
  refine ⟨fun args K h => ?_, callable Try.func84 (by kernel_rfl) (by kernel_rfl)⟩
  unfold C84 at h
  split at h
  case h_2 => exact h.elim
  unfold c84 at h
  obtain ⟨h1, h2⟩ := h
  exact fun w γ S xs hi hn hf _ _ => delete_snd h1.1 h1.2.1 h1.2.2.1 h1.2.2.2 h2 w γ S xs hi hn hf
noncomputable def c85 (l : List It) (a : Bs) (v : Int) (kd : Int) (m : Int) (t : Bs) (ns : List Bs) (ks : List Nd) (K : AV → List AV → Prop) : Prop :=
    Obl (sortedI l ∧ l.length ≤ 2097152) (K (.own .item (putL l ⟨a, v, ⟨kd, m, t, ns, ks⟩⟩)) [])
noncomputable def C85 : List AV → (AV → List AV → Prop) → Prop
  | [.own .item l, .st [.str a, .int .i64 v, .int .i64 kd, .int .i64 m, .str t, .own .str ns, .own .node ks]], K => c85 l a v kd m t ns ks K
  | _, _ => False
noncomputable def E85 : Ctx := mkE tab [(83, .pure F83), (108, .gen .ow C108)]
noncomputable def O85 : Nat → List DI := ordL []
theorem a85 (l : List It) (a : Bs) (v : Int) (kd : Int) (m : Int) (t : Bs) (ns : List Bs) (ks : List Nd) (hb : BdAs [.own .item l, .st [.str a, .int .i64 v, .int .i64 kd, .int .i64 m, .str t, .own .str ns, .own .node ks]]) (K : AV → List AV → Prop) (h : c85 l a v kd m t ns ks K) : abody E85 O85 .ow Try.f85 (Try.f85.body.getD .skip) [.own .item l, .st [.str a, .int .i64 v, .int .i64 kd, .int .i64 m, .str t, .own .str ns, .own .node ks]] K := by
  simp only [BdAs, BdA, BdL, BdC, MX, ndC, shC, itC, stC, opC, chC, nwC, flC, rqC, rsC, enc, List.cons_append, List.nil_append, and_true, true_and] at hb
  unfold c85 at h
  obtain ⟨it, eit⟩ : ∃ it : It, it = ⟨a, v, ⟨kd, m, t, ns, ks⟩⟩ := ⟨_, rfl⟩
  have en : a = it.name := by rw [eit]
  rw [← eit] at h
  obtain ⟨⟨ho, hl⟩, hK⟩ := h
  have hle := lbI_le l it.name
  have hfl : foundI l it.name = true → lbI l it.name < l.length := fun h => by simp only [foundI, Bool.and_eq_true, decide_eq_true_eq] at h; exact h.1
  have hp1 := fun h => putL_found (it := it) (ascI_sorted.2 ho) h
  have hp2 := fun h => putL_new (it := it) (ascI_sorted.2 ho) h
  subst en
  conv => whnf
  repeat' first|((first|refine Cnd.mk (fun h=>?_) (fun h=>?_)|refine Gd.mk (fun h=>?_))<;>(try simp [etas,elDef,-List.getD_eq_getElem?_getD] at h)<;>conv=>whnf)|((first|refine Obl.mk (by first|omega|rfl|exact inK_byte _|(simp only [inK,Int.toNat_natCast,etas,elDef,o83]<;>first|omega|grind)|grind [inK,o83]) ?_|refine OblG.mk (by ((conv=>whnf);(repeat (first|refine Bx.mk ?_|(intro h;(try simp [etas,elDef,-List.getD_eq_getElem?_getD] at h);conv=>whnf)));(first|omega|rfl|exact inK_byte _|(simp only [inK,Int.toNat_natCast,etas,elDef,o83]<;>first|omega|grind)|grind [inK,o83]))) ?_|refine And.intro ?_ ?_)<;>conv=>whnf)|exact True.intro|(intro;conv=>whnf)
  · exact leafV hK (by rw [hp1 h]; (try simp only [etas, elDef, Int.toNat_natCast]); (first | done | rfl | simp [optS, stC]); rw [← eit])
  · exact leafV hK (by rw [hp2 h]; (try simp only [etas, elDef, Int.toNat_natCast]); (first | done | rfl | simp [optS, stC]); rw [← eit])
theorem s85 : (CtrOK Try.prog 85 (.gen .ow C85) ∧ Callable Try.prog 85) := by
  refine gen_ok (E := E85) (mkE_cons s83 (mkE_cons s108 (mkE_nil tab_ok))) mix (O := O85) (C := C85) (own := .ow) Try.func85 rfl (by rfl) (by kernel_rfl) (fun args K h hbd => ?_)
  unfold C85 at h; split at h
  case h_2 => exact h.elim
  exact ⟨Nat.le_of_ble_eq_true rfl, a85 _ _ _ _ _ _ _ _ (by exact hbd) _ h⟩
noncomputable def c60 (s : Sto) (b : Bs) (n : Nd) (K : AV → List AV → Prop) : Prop :=
    K (optS (putItemM s b n)) []
noncomputable def C60 : List AV → (AV → List AV → Prop) → Prop
  | [.st [.ps .item s_0, .int .i64 s_1], .str b, .st [.int .i64 n_0, .int .i64 n_1, .str n_2, .ps .str n_3, .ps .node n_4]], K => c60 ⟨s_0, s_1⟩ b ⟨n_0, n_1, n_2, n_3, n_4⟩ K
  | _, _ => False
noncomputable def E60 : Ctx := mkE tab [(57, .pure F57), (68, .pure F68), (75, .gen .ow C75), (82, .pure F82), (85, .gen .ow C85), (86, .gen .ow C86)]
noncomputable def O60 : Nat → List DI := ordL [(5, [.q 0, .q 1, .q 2, .q 3, .q 4, .q 5, .l 6 [1, 4], .q 7, .l 8 [], .q 9, .l 10 []])]
theorem a60 (s : Sto) (b : Bs) (n : Nd) (hb : BdAs [.st (stC s), .str b, .st (ndC n)]) (K : AV → List AV → Prop) (h : c60 s b n K) : abody E60 O60 .ps Try.f60 (Try.f60.body.getD .skip) [.st (stC s), .str b, .st (ndC n)] K := by
  simp only [BdAs, BdA, BdL, BdC, MX, ndC, shC, itC, stC, opC, chC, nwC, flC, rqC, rsC, enc, List.cons_append, List.nil_append, and_true, true_and] at hb
  unfold c60 at h
  have hK := h
  have h9 : storeM s = true → smS s ∧ sortedI s.items := fun h => ⟨storeM_sm h, storeM_sorted h⟩
  have h8 : storeM s = true → 0 ≤ s.clock ∧ s.clock ≤ 999 ∧ s.items.length ≤ 10 := storeM_clock
  have h7 : validM n = true → smN n := validM_sm
  conv => whnf
  repeat' first|((first|refine Cnd.mk (fun h=>?_) (fun h=>?_)|refine Gd.mk (fun h=>?_))<;>(try simp [etas,elDef,-List.getD_eq_getElem?_getD] at h)<;>conv=>whnf)|((first|refine Obl.mk (by first|omega|rfl|exact inK_byte _|(simp only [inK,Int.toNat_natCast,etas,elDef,m86]<;>first|omega|grind)|grind [inK,m86]) ?_|refine OblG.mk (by ((conv=>whnf);(repeat (first|refine Bx.mk ?_|(intro h;(try simp [etas,elDef,-List.getD_eq_getElem?_getD] at h);conv=>whnf)));(first|omega|rfl|exact inK_byte _|(simp only [inK,Int.toNat_natCast,etas,elDef,m86]<;>first|omega|grind)|grind [inK,m86]))) ?_|refine And.intro ?_ ?_)<;>conv=>whnf)|exact True.intro|(intro;conv=>whnf)
  · have e : putItemM s b n = none := by grind [putItemM]
    exact leafV hK (by rw [e]; (try simp only [etas, elDef, Int.toNat_natCast]); (first | done | rfl | simp [optS, stC]))
  · have e : putItemM s b n = none := by grind [putItemM, putS]
    exact leafV hK (by rw [e]; (try simp only [etas, elDef, Int.toNat_natCast]); (first | done | rfl | simp [optS, stC]))
  · have e : putItemM s b n = some (putS s b n) := by grind [putItemM, putS]
    exact leafV hK (by rw [e]; (try simp only [etas, elDef, Int.toNat_natCast]); (first | done | rfl | simp [optS, stC]))
theorem s60 : (CtrOK Try.prog 60 (.gen .ps C60) ∧ Callable Try.prog 60) := by
  refine gen_ok (E := E60) (mkE_cons s57 (mkE_cons s68 (mkE_cons s75 (mkE_cons s82 (mkE_cons s85 (mkE_cons s86 (mkE_nil tab_ok))))))) mix (O := O60) (C := C60) (own := .ps) Try.func60 rfl (by rfl) (by kernel_rfl) (fun args K h hbd => ?_)
  unfold C60 at h; split at h
  case h_2 => exact h.elim
  exact ⟨Nat.le_of_ble_eq_true rfl, a60 ⟨_, _⟩ _ ⟨_, _, _, _, _⟩ (by exact hbd) _ h⟩
noncomputable def c59 (s : Sto) (b : Bs) (K : AV → List AV → Prop) : Prop :=
    K (optS (dropItemM s b)) []
noncomputable def C59 : List AV → (AV → List AV → Prop) → Prop
  | [.st [.ps .item s_0, .int .i64 s_1], .str b], K => c59 ⟨s_0, s_1⟩ b K
  | _, _ => False
noncomputable def E59 : Ctx := mkE tab [(57, .pure F57), (75, .gen .ow C75), (83, .pure F83), (84, .gen .ow C84)]
noncomputable def O59 : Nat → List DI := ordL []
theorem a59 (s : Sto) (b : Bs) (hb : BdAs [.st (stC s), .str b]) (K : AV → List AV → Prop) (h : c59 s b K) : abody E59 O59 .ps Try.f59 (Try.f59.body.getD .skip) [.st (stC s), .str b] K := by
  simp only [BdAs, BdA, BdL, BdC, MX, ndC, shC, itC, stC, opC, chC, nwC, flC, rqC, rsC, enc, List.cons_append, List.nil_append, and_true, true_and] at hb
  unfold c59 at h
  have hK := h
  have h9 : storeM s = true → smS s ∧ sortedI s.items := fun h => ⟨storeM_sm h, storeM_sorted h⟩
  have h8 : storeM s = true → 0 ≤ s.clock ∧ s.clock ≤ 999 ∧ s.items.length ≤ 10 := storeM_clock
  have hfl : foundI s.items b = true → lbI s.items b < s.items.length := fun h => by simp only [foundI, Bool.and_eq_true, decide_eq_true_eq] at h; exact h.1
  conv => whnf
  repeat' first|((first|refine Cnd.mk (fun h=>?_) (fun h=>?_)|refine Gd.mk (fun h=>?_))<;>(try simp [etas,elDef,-List.getD_eq_getElem?_getD] at h)<;>conv=>whnf)|((first|refine Obl.mk (by first|omega|rfl|exact inK_byte _|(simp only [inK,Int.toNat_natCast,etas,elDef,o83]<;>first|omega|grind)|grind [inK,o83]) ?_|refine OblG.mk (by ((conv=>whnf);(repeat (first|refine Bx.mk ?_|(intro h;(try simp [etas,elDef,-List.getD_eq_getElem?_getD] at h);conv=>whnf)));(first|omega|rfl|exact inK_byte _|(simp only [inK,Int.toNat_natCast,etas,elDef,o83]<;>first|omega|grind)|grind [inK,o83]))) ?_|refine And.intro ?_ ?_)<;>conv=>whnf)|exact True.intro|(intro;conv=>whnf)
  · have e : dropItemM s b = none := by grind [dropItemM]
    exact leafV hK (by rw [e]; (try simp only [etas, elDef, Int.toNat_natCast]); (first | done | rfl | simp [optS, stC]))
  · have e1 := findI_new (ascI_sorted.2 (h9 (by assumption : _ ∧ _).1).2) h
    have e : dropItemM s b = none := by grind [dropItemM]
    exact leafV hK (by rw [e]; (try simp only [etas, elDef, Int.toNat_natCast]); (first | done | rfl | simp [optS, stC]))
  · have e1 := findI_found h
    have e2 := dropL_found (ascI_sorted.2 (h9 (by assumption : _ ∧ _).1).2) h
    have e : dropItemM s b = some (dropS s b) := by grind [dropItemM]
    exact leafV hK (by rw [e, dropS, e2]; (try simp only [etas, elDef, Int.toNat_natCast]); (first | done | rfl | simp [optS, stC]))
theorem s59 : (CtrOK Try.prog 59 (.gen .ps C59) ∧ Callable Try.prog 59) := by
  refine gen_ok (E := E59) (mkE_cons s57 (mkE_cons s75 (mkE_cons s83 (mkE_cons s84 (mkE_nil tab_ok))))) mix (O := O59) (C := C59) (own := .ps) Try.func59 rfl (by rfl) (by kernel_rfl) (fun args K h hbd => ?_)
  unfold C59 at h; split at h
  case h_2 => exact h.elim
  exact ⟨Nat.le_of_ble_eq_true rfl, a59 ⟨_, _⟩ _ (by exact hbd) _ h⟩
noncomputable def c30 (s : Sto) (c : Chg) (K : AV → List AV → Prop) : Prop :=
    K (optS (applyCM s c)) []
noncomputable def C30 : List AV → (AV → List AV → Prop) → Prop
  | [.st [.ps .item s_0, .int .i64 s_1], .st [.str c_0, .bool c_1, .int .i64 c_2_0, .int .i64 c_2_1, .str c_2_2, .ps .str c_2_3, .ps .node c_2_4]], K => c30 ⟨s_0, s_1⟩ ⟨c_0, c_1, ⟨c_2_0, c_2_1, c_2_2, c_2_3, c_2_4⟩⟩ K
  | _, _ => False
noncomputable def E30 : Ctx := mkE tab [(57, .pure F57), (58, .pure F58), (59, .gen .ps C59), (60, .gen .ps C60)]
noncomputable def O30 : Nat → List DI := ordL []
theorem a30 (s : Sto) (c : Chg) (hb : BdAs [.st (stC s), .st (chC c)]) (K : AV → List AV → Prop) (h : c30 s c K) : abody E30 O30 .ps Try.f30 (Try.f30.body.getD .skip) [.st (stC s), .st (chC c)] K := by
  simp only [BdAs, BdA, BdL, BdC, MX, ndC, shC, itC, stC, opC, chC, nwC, flC, rqC, rsC, enc, List.cons_append, List.nil_append, and_true, true_and] at hb
  unfold c30 at h
  have hK := h
  conv => whnf
  repeat' first|((first|refine Cnd.mk (fun h=>?_) (fun h=>?_)|refine Gd.mk (fun h=>?_))<;>(try simp [etas,elDef,-List.getD_eq_getElem?_getD] at h)<;>conv=>whnf)|((first|refine Obl.mk (by first|omega|rfl|exact inK_byte _|(simp only [inK,Int.toNat_natCast,etas,elDef]<;>first|omega|grind)|grind [inK]) ?_|refine OblG.mk (by ((conv=>whnf);(repeat (first|refine Bx.mk ?_|(intro h;(try simp [etas,elDef,-List.getD_eq_getElem?_getD] at h);conv=>whnf)));(first|omega|rfl|exact inK_byte _|(simp only [inK,Int.toNat_natCast,etas,elDef]<;>first|omega|grind)|grind [inK]))) ?_|refine And.intro ?_ ?_)<;>conv=>whnf)|exact True.intro|(intro;conv=>whnf)
  · have e : applyCM s c = none := by grind [applyCM]
    exact leafV hK (by rw [e]; (try simp only [etas, elDef, Int.toNat_natCast]); (first | done | rfl | simp [optS, stC]))
  · have e : applyCM s c = dropItemM s c.name := by grind [applyCM, applyM]
    exact leafV hK (by rw [e]; (try simp only [etas, elDef, Int.toNat_natCast]); (first | done | rfl | simp [optS, stC]))
  · have e : applyCM s c = putItemM s c.name c.node := by grind [applyCM, applyM]
    exact leafV hK (by rw [e]; (try simp only [etas, elDef, Int.toNat_natCast]); (first | done | rfl | simp [optS, stC]))
theorem s30 : (CtrOK Try.prog 30 (.gen .ps C30) ∧ Callable Try.prog 30) := by
  refine gen_ok (E := E30) (mkE_cons s57 (mkE_cons s58 (mkE_cons s59 (mkE_cons s60 (mkE_nil tab_ok))))) mix (O := O30) (C := C30) (own := .ps) Try.func30 rfl (by rfl) (by kernel_rfl) (fun args K h hbd => ?_)
  unfold C30 at h; split at h
  case h_2 => exact h.elim
  exact ⟨Nat.le_of_ble_eq_true rfl, a30 ⟨_, _⟩ ⟨_, _, ⟨_, _, _, _, _⟩⟩ (by exact hbd) _ h⟩
noncomputable def c47 (l : List Chg) (v : Int) (K : AV → List AV → Prop) : Prop :=
    Obl (0 ≤ v ∧ v ≤ l.length) (K (optS (stoAtM l v)) [])
noncomputable def C47 : List AV → (AV → List AV → Prop) → Prop
  | [.ps .chg l, .int .i64 v], K => c47 l v K
  | _, _ => False
noncomputable def E47 : Ctx := mkE tab [(30, .gen .ps C30), (75, .gen .ow C75)]
noncomputable def O47 : Nat → List DI := ordL []
theorem a47 (l : List Chg) (v : Int) (hb : BdAs [.ps .chg l, .int .i64 v]) (K : AV → List AV → Prop) (h : c47 l v K) : abody E47 O47 .ps Try.f47 (Try.f47.body.getD .skip) [.ps .chg l, .int .i64 v] K := by
  simp only [BdAs, BdA, BdL, BdC, MX, ndC, shC, itC, stC, opC, chC, nwC, flC, rqC, rsC, enc, List.cons_append, List.nil_append, and_true, true_and] at hb
  unfold c47 at h
  obtain ⟨hv, hK⟩ := h
  have h00 : (replayM []).isSome = true := rfl
  have h01 := keptM_zero l v.toNat
  have h02 : stC ⟨[], 0⟩ = [.ps .item [], .int .i64 0] := rfl
  have h03 : (replayM []).getD ⟨[], 0⟩ = ⟨[], 0⟩ := rfl
  conv => whnf
  repeat' first|((first|refine Cnd.mk (fun h=>?_) (fun h=>?_)|refine Gd.mk (fun h=>?_))<;>(try simp [etas,elDef,-List.getD_eq_getElem?_getD] at h)<;>conv=>whnf)|((first|refine Obl.mk (by first|omega|rfl|exact inK_byte _|(simp only [inK,Int.toNat_natCast,etas,elDef]<;>first|omega|grind)|grind [inK]) ?_|refine OblG.mk (by ((conv=>whnf);(repeat (first|refine Bx.mk ?_|(intro h;(try simp [etas,elDef,-List.getD_eq_getElem?_getD] at h);conv=>whnf)));(first|omega|rfl|exact inK_byte _|(simp only [inK,Int.toNat_natCast,etas,elDef]<;>first|omega|grind)|grind [inK]))) ?_|refine And.intro ?_ ?_)<;>conv=>whnf)|exact True.intro|(intro;conv=>whnf)
  · have e : stoAtM l v = none := by grind [stoAtM, logM]
    exact leafV hK (by rw [e]; (try simp only [etas, elDef, Int.toNat_natCast]); (first | done | rfl | simp [optS, stC]))
  refine aloop_intro Nat (fun k => k ≤ l.length ∧ (replayM (l.take k)).isSome = true) (fun k => l.length - k) (fun k => [(18, .int .i64 k)]) (fun k => [(6, .box (stC ((replayM (l.take k)).getD ⟨[], 0⟩))), (7, .box (stC (keptM l v.toNat k)))]) [4] 0 [] [] ?_ ?_ (by exact sgOk_of (by rfl)) ?_
  · first | (simp; done) | (simp; assumption)
  · iterate 2 ((all_goals (conv=>whnf));(repeat' (first|exact trivial|rfl|(refine nilEq ?_;first|rfl|(simp only [*];done)|(simp [*];done)|grind)|apply And.intro|((first|apply intEq|apply boolEq|apply strEq|apply psEq|apply nilEq|apply arrEq);(try simp only [Int.toNat_natCast,etas,elDef]);first | done | omega | grind | (simp only [*]; done) | (simp [*]; done)))));(all_goals ((try simp only [Int.toNat_natCast,etas,elDef]);first | done | omega | grind | (simp only [*]; done) | (simp [*]; done)))
  rintro i ⟨hi, hj⟩
  conv => whnf
  have htk := fun h => replayM_next (l := l) (i := i) h hj
  have h9 := fun h => applyCM_sm (s := (replayM (l.take i)).getD ⟨[], 0⟩) (c := l.getD i default) h
  have hks := keptM_succ (l := l) (v := v.toNat) (i := i)
  repeat' first|((first|refine Cnd.mk (fun h=>?_) (fun h=>?_)|refine Gd.mk (fun h=>?_))<;>(try simp [etas,elDef,-List.getD_eq_getElem?_getD] at h)<;>conv=>whnf)|((first|refine Obl.mk (by first|omega|rfl|exact inK_byte _|(simp only [inK,Int.toNat_natCast,etas,elDef]<;>first|omega|grind)|grind [inK]) ?_|refine OblG.mk (by ((conv=>whnf);(repeat (first|refine Bx.mk ?_|(intro h;(try simp [etas,elDef,-List.getD_eq_getElem?_getD] at h);conv=>whnf)));(first|omega|rfl|exact inK_byte _|(simp only [inK,Int.toNat_natCast,etas,elDef]<;>first|omega|grind)|grind [inK]))) ?_|refine And.intro ?_ ?_)<;>conv=>whnf)|exact True.intro|(intro;conv=>whnf)
  · have e := replayM_none ((htk (by assumption)).trans h)
    have e : stoAtM l v = none := by grind [stoAtM, logM]
    exact leafV hK (by rw [e]; (try simp only [etas, elDef, Int.toNat_natCast]); (first | done | rfl | simp [optS, stC]))
  · have e3 := htk (by assumption)
    rw [if_pos (by omega), e3] at hks
    exact ⟨i + 1, [], [39000], ⟨by omega, by rw [e3]; assumption⟩, by omega, by iterate 2 ((all_goals (conv=>whnf));(repeat' (first|exact trivial|rfl|(refine nilEq ?_;first|rfl|(simp only [*];done)|(simp [*];done)|grind)|apply And.intro|((first|apply intEq|apply boolEq|apply strEq|apply psEq|apply nilEq|apply arrEq);(try simp only [Int.toNat_natCast,etas,elDef]);first | rw [e3] | rw [hks]))));(all_goals ((try simp only [Int.toNat_natCast,etas,elDef]);first | rw [e3] | rw [hks])), (by exact sgOk_of (by rfl))⟩
  · have e3 := htk (by assumption)
    rw [if_neg (by omega)] at hks
    exact ⟨i + 1, [], [], ⟨by omega, by rw [e3]; assumption⟩, by omega, by iterate 2 ((all_goals (conv=>whnf));(repeat' (first|exact trivial|rfl|(refine nilEq ?_;first|rfl|(simp only [*];done)|(simp [*];done)|grind)|apply And.intro|((first|apply intEq|apply boolEq|apply strEq|apply psEq|apply nilEq|apply arrEq);(try simp only [Int.toNat_natCast,etas,elDef]);first | rw [e3] | rw [hks]))));(all_goals ((try simp only [Int.toNat_natCast,etas,elDef]);first | rw [e3] | rw [hks])), (by exact sgOk_of (by rfl))⟩
  · have e : i = l.length := by omega
    subst e
    rw [List.take_length] at hj
    have e : stoAtM l v = replayM (l.take v.toNat) := by grind [stoAtM, logM]
    have e2 := replay_take_isSome (i := v.toNat) hj
    exact leafV hK (by rw [e, keptM_end (by omega)]; simp only [optS, e2]; (try simp only [etas, elDef, Int.toNat_natCast]); (first | done | rfl | simp [optS, stC]))
theorem s47 : (CtrOK Try.prog 47 (.gen .ps C47) ∧ Callable Try.prog 47) := by
  refine gen_ok (E := E47) (mkE_cons s30 (mkE_cons s75 (mkE_nil tab_ok))) mix (O := O47) (C := C47) (own := .ps) Try.func47 rfl (by rfl) (by kernel_rfl) (fun args K h hbd => ?_)
  unfold C47 at h; split at h
  case h_2 => exact h.elim
  exact ⟨Nat.le_of_ble_eq_true rfl, a47 _ _ (by exact hbd) _ h⟩
noncomputable def c19 (l : List Chg) (K : AV → List AV → Prop) : Prop :=
    K (optS (logM l)) []
noncomputable def C19 : List AV → (AV → List AV → Prop) → Prop
  | [.ps .chg l], K => c19 l K
  | _, _ => False
noncomputable def E19 : Ctx := mkE tab [(47, .gen .ps C47)]
noncomputable def O19 : Nat → List DI := ordL []
theorem a19 (l : List Chg) (hb : BdAs [.ps .chg l]) (K : AV → List AV → Prop) (h : c19 l K) : abody E19 O19 .ps Try.f19 (Try.f19.body.getD .skip) [.ps .chg l] K := by
  simp only [BdAs, BdA, BdL, BdC, MX, ndC, shC, itC, stC, opC, chC, nwC, flC, rqC, rsC, enc, List.cons_append, List.nil_append, and_true, true_and] at hb
  unfold c19 at h
  have hK := h
  rw [← stoAt_len] at hK
  conv => whnf
  repeat' first|((first|refine Cnd.mk (fun h=>?_) (fun h=>?_)|refine Gd.mk (fun h=>?_))<;>(try simp [etas,elDef,-List.getD_eq_getElem?_getD] at h)<;>conv=>whnf)|((first|refine Obl.mk (by first|omega|rfl|exact inK_byte _|(simp only [inK,Int.toNat_natCast,etas,elDef]<;>first|omega|grind)|grind [inK]) ?_|refine OblG.mk (by ((conv=>whnf);(repeat (first|refine Bx.mk ?_|(intro h;(try simp [etas,elDef,-List.getD_eq_getElem?_getD] at h);conv=>whnf)));(first|omega|rfl|exact inK_byte _|(simp only [inK,Int.toNat_natCast,etas,elDef]<;>first|omega|grind)|grind [inK]))) ?_|refine And.intro ?_ ?_)<;>conv=>whnf)|exact True.intro|(intro;conv=>whnf)
  exact leafV hK (by (try simp only [etas, elDef, Int.toNat_natCast]); (first | done | rfl | simp [optS, stC]))
theorem s19 : (CtrOK Try.prog 19 (.gen .ps C19) ∧ Callable Try.prog 19) := by
  refine gen_ok (E := E19) (mkE_cons s47 (mkE_nil tab_ok)) mix (O := O19) (C := C19) (own := .ps) Try.func19 rfl (by rfl) (by kernel_rfl) (fun args K h hbd => ?_)
  unfold C19 at h; split at h
  case h_2 => exact h.elim
  exact ⟨Nat.le_of_ble_eq_true rfl, a19 _ (by exact hbd) _ h⟩
end Go.Rs
end
