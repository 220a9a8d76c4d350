import Derived.Test.YtoailaifflbomaaFH
import Derived.Test.YtoailaifflbomaaInsF
import Derived.Test.YtoailaifflbomaaCI
import Derived.Test.YtoailaifflbomaaEK
import Derived.Test.YtoailaifflbomaaInG
import Derived.Test.YtoailaifflbomaaEF
set_option linter.all false
section
set_option linter.unusedSimpArgs false
set_option linter.unusedVariables false
namespace Go.Rs
open Go.Rs Go.Proofs Go.RowKit Go.Lib
theorem delete_sndD {l : List It} {i j : Int} {K : AV → List AV → Prop} (h0 : 0 ≤ i) (hj : j = i + 1) (hi : j ≤ l.length) (hl : l.length ≤ 2097152) (hK : K (.dp .item (l.eraseIdx i.toNat)) []) :
    ∀ w γ S xs, IAs γ w S xs [.dp .item l, .int .i64 i, .int .i64 j] → S.Nodup → (∀ b, w.heap.size ≤ b → γ b = 0) →
    Calls Try.prog 84 xs.toArray w fun e w' => ∃ r rs x γ' Sr Sq, K r rs ∧ e = .returned x ∧ IR γ' w' Sr x r ∧ IAs γ' w' Sq (refVals [.dp .item l, .int .i64 i, .int .i64 j] xs) rs ∧ (Sr ++ Sq).Nodup ∧ Fr S γ w γ' w' ∧ ∀ b ∈ Sr ++ Sq, b ∈ S ∨ w.heap.size ≤ b := by
  intro w γ S xs hia hnd hf
  subst hj
  obtain ⟨k, rfl⟩ := Int.eq_ofNat_of_zero_le h0
  have hk : k < l.length := by omega
  rw [Int.toNat_natCast] at hK
  cases hia with
  | cons ha hia =>
  cases hia with
  | cons hb hia =>
  cases hia with
  | cons hc hia =>
  cases hia
  cases hb with
  | val hb => cases hb with
    | cell hb => cases hb with
      | per hb _ => cases hb with
        | int =>
  cases hc with
  | val hc => cases hc with
    | cell hc => cases hc with
      | per hc _ => cases hc with
        | int =>
  obtain ⟨zv, hv45, hzc, hzall⟩ : ∃ zv, (∀ w, (zeroValue 97).run Try.prog w = .ok zv w) ∧ zv.cells.size = 7 ∧ zv.cells.toList.all (fun x => x.oneCell') = true := by
    have h45 : ((Try.prog.info? 97).bind fun i => i.zero.map fun z => (z.cells.size, z.cells.toList.all (fun x => x.oneCell'))) = some (7, true) := by kernel_rfl
    obtain ⟨i0, h1, h2⟩ := Option.bind_eq_some_iff.1 h45
    obtain ⟨z, h3, h4⟩ := Option.map_eq_some_iff.1 h2
    simp only [Prod.mk.injEq] at h4
    exact ⟨z, fun w => by simp [zeroValue, typeInfo, h1, h3], h4.1, h4.2⟩
  have hzv1 : ∀ x ∈ zv.cells.toList, x.oneCell' = true := fun x hx => List.all_eq_true.1 hzall x hx
  have hZ1 : ∀ x ∈ (Builtin.zeroCells zv.cells 1).toList, x.oneCell' = true := zeroCells_one hzv1 (by omega) 1
  have hZl : (Builtin.zeroCells zv.cells 1).toList.length = 7 := by simp [Builtin.zeroCells, hzc]
  cases ha with
  | val ha => cases ha with
    | cell ha => cases ha with
      | per ha _ => cases ha
      | dp0 _ a => simp at hk
      | dp _ _ b c xs bs1 hM hlc hc0 hrow hxl hin1 =>
        obtain ⟨hbγ, hx1, T, hb⟩ := hrow
        have hxl' : xs.length = c * 7 := hxl
        refine (del_walk b l.length c k T xs w hk hlc hl hb hxl' hx1 hv45 (Z := (Builtin.zeroCells zv.cells 1).toList) rfl hZ1 hZl).mono fun e w' hh => ?_
        obtain ⟨he, X1, X2, h1, h2, hw⟩ := hh
        obtain ⟨hX2l, hX⟩ := delX hk hlc hxl' hZl h1 h2
        obtain ⟨f1, f2, f3⟩ := setRow_facts (w := w.drew) (ys := X1) hb
        have g0 := f2 T hb
        obtain ⟨g1, g2, g3⟩ := setRow_facts (ys := X2) g0
        have hX11 : ∀ x ∈ X1, x.oneCell' = true := by rw [h1]; exact one_app (one_take hx1 _) (one_take (one_drop hx1 _) _) (one_drop hx1 _)
        have hX21 : ∀ x ∈ X2, x.oneCell' = true := by rw [h2]; exact one_app (one_take hX11 _) hZ1 (one_drop hX11 _)
        have hheap : ∀ b', b' < w.heap.size → b' ∉ [b] → w'.heap[b']? = w.heap[b']? := fun b' _ h => by
          have h' : b' ≠ b := by simpa using h
          rw [hw, g1 b' h', f1 b' h']; rfl
        have hkeep : Keeps γ w γ w' := keeps_of hheap (by simp [hbγ]) hf
        have hlen : (l.eraseIdx k).length = l.length - 1 := by rw [List.length_eraseIdx]; simp [hk]
        have hX3 : ∀ m j, m < l.length - 1 → j < esz El.item → X2.getD (m * esz El.item + j) undef = if m < k then xs.getD (m * esz El.item + j) undef else xs.getD ((m + 1) * esz El.item + j) undef := fun m j hm hj => by
          show X2.getD (m * 7 + j) undef = if m < k then xs.getD (m * 7 + j) undef else xs.getD ((m + 1) * 7 + j) undef
          rw [List.getD_eq_getElem?_getD (l := X2), hX m j hm hj]
          split <;> rw [List.getD_eq_getElem?_getD]
        obtain ⟨hN, hmem⟩ := InnerI.erase hk hin1 hX3
        exact road_finN (S0 := [b]) (b' := b) (T := T) (Bag.lone hin1.pos) hlen (by omega) hN (fun c hc => .inl (hmem c hc)) (fun c hc => hin1.lt c (hmem c hc)) hX2l (by omega) hc0 hX21 (by rw [hw]; exact g2 T g0) hbγ (by rw [hw]; rfl) (by rw [hw]; rfl) (by rw [hw]; rfl) (by rw [hw, g3, f3]; exact Nat.le_refl _)
          hheap (by simp [hbγ]) hf (.inl (by simp)) he hK
end Go.Rs
namespace Go.Rs
open Go.Proofs
noncomputable def c84d (l : List It) (i : Int) (j : Int) (K : AV → List AV → Prop) : Prop :=
    Obl (0 ≤ i ∧ j = i + 1 ∧ j ≤ l.length ∧ l.length ≤ 2097152) (K (.dp .item (l.eraseIdx i.toNat)) [])
noncomputable def C84d : List AV → (AV → List AV → Prop) → Prop
  | [.dp .item l, .int .i64 i, .int .i64 j], K => c84d l i j K
  | _, _ => False
theorem s84d : CtrOK Try.prog 84 (.gen .ow C84d) ∧ Callable Try.prog 84 := by
  refine ⟨fun args K h => ?_, callable Try.func84 (by kernel_rfl) (by kernel_rfl)⟩
  unfold C84d at h
  split at h
  case h_2 => exact h.elim
  unfold c84d at h
  obtain ⟨h1, h2⟩ := h
  exact fun w γ S xs hi hn hf _ _ => delete_sndD h1.1 h1.2.1 h1.2.2.1 h1.2.2.2 h2 w γ S xs hi hn hf
end Go.Rs
end
section
set_option linter.unusedSimpArgs false
set_option linter.unusedVariables false
namespace Go.Rs
open Go.Proofs
set_option maxRecDepth 100000
def stD (s : Sto) : List AV := [.dp .item s.items, .int .i64 s.clock]
def optSD (o : Option Sto) : AV := .tup [.st (stD (o.getD ⟨[], 0⟩)), .bool o.isSome]
noncomputable def c85d (l : List It) (a : Bs) (v : Int) (kd : Int) (m : Int) (t : Bs) (ns : List Bs) (ks : List Nd) (K : AV → List AV → Prop) : Prop :=
    Obl (sortedI l ∧ l.length ≤ 2097152) (K (.dp .item (putL l ⟨a, v, ⟨kd, m, t, ns, ks⟩⟩)) [])
noncomputable def D85d : List AV → (AV → List AV → Prop) → Prop
  | [.dp .item l, .st [.str a, .int .i64 v, .int .i64 kd, .int .i64 m, .str t, .own .str ns, .dp .node ks]], K => c85d l a v kd m t ns ks K
  | _, _ => False
noncomputable def C85d (args : List AV) (K : AV → List AV → Prop) : Prop := D85d (fixAs args) K
noncomputable def E85d : Ctx := mkE tab [(83, .pure F83), (108, .gen .ow C108d)]
noncomputable def O85d : Nat → List DI := ordL []
theorem a85d (l : List It) (a : Bs) (v : Int) (kd : Int) (m : Int) (t : Bs) (ns : List Bs) (ks : List Nd) (hb : BdAs [.dp .item l, .st [.str a, .int .i64 v, .int .i64 kd, .int .i64 m, .str t, .own .str ns, .dp .node ks]]) (K : AV → List AV → Prop) (h : c85d l a v kd m t ns ks K) : abodyD E85d O85d .ow Try.f85 (Try.f85.body.getD .skip) [.dp .item l, .st [.str a, .int .i64 v, .int .i64 kd, .int .i64 m, .str t, .own .str ns, .dp .node ks]] (fun r rs => K (fixR r) (fixAs rs)) := by
  simp only [BdAs, BdA, BdL, BdC, MX, ndC, shC, itC, stC, opC, chC, nwC, flC, rqC, rsC, enc, List.cons_append, List.nil_append, and_true, true_and] at hb
  unfold c85d at h
  obtain ⟨it, eit⟩ : ∃ it : It, it = ⟨a, v, ⟨kd, m, t, ns, ks⟩⟩ := ⟨_, rfl⟩
  have en : a = it.name := by rw [eit]
  rw [← eit] at h
  obtain ⟨⟨ho, hl⟩, hK⟩ := h
  have hle := lbI_le l it.name
  have hfl : foundI l it.name = true → lbI l it.name < l.length := fun h => by simp only [foundI, Bool.and_eq_true, decide_eq_true_eq] at h; exact h.1
  have hp1 := fun h => putL_found (it := it) (ascI_sorted.2 ho) h
  have hp2 := fun h => putL_new (it := it) (ascI_sorted.2 ho) h
  subst en
  conv => whnf
  repeat' first|((first|refine Cnd.mk (fun h=>?_) (fun h=>?_)|refine Gd.mk (fun h=>?_))<;>(try simp [etas,elDef,-List.getD_eq_getElem?_getD] at h)<;>conv=>whnf)|((first|refine Obl.mk (by first|omega|rfl|exact inK_byte _|(simp only [inK,Int.toNat_natCast,etas,elDef,o83]<;>first|omega|grind)|grind [inK,o83]) ?_|refine OblG.mk (by ((conv=>whnf);(repeat (first|refine Bx.mk ?_|(intro h;(try simp [etas,elDef,-List.getD_eq_getElem?_getD] at h);conv=>whnf)));(first|omega|rfl|exact inK_byte _|(simp only [inK,Int.toNat_natCast,etas,elDef,o83]<;>first|omega|grind)|grind [inK,o83]))) ?_|refine And.intro ?_ ?_)<;>conv=>whnf)|exact True.intro|(intro;conv=>whnf)
  · exact leafV hK (by rw [hp1 h]; simp only [fixR, fixV, fix1, etas, elDef, Int.toNat_natCast]; rw [← eit]; first | done | rfl | simp)
  · exact leafV hK (by rw [hp2 h]; simp only [fixR, fixV, fix1, etas, elDef, Int.toNat_natCast]; rw [← eit]; first | done | rfl | simp)
theorem s85d : (CtrOK Try.prog 85 (.gen .ow C85d) ∧ Callable Try.prog 85) := by
  refine gen_okD (E := E85d) (mkE_cons s83 (mkE_cons s108d (mkE_nil tab_ok))) mix (O := O85d) (D := D85d) (own := .ow) Try.func85 rfl (by rfl) (by kernel_rfl) (fun args K h hbd => ?_)
  unfold D85d at h; split at h
  case h_2 => exact h.elim
  exact ⟨Nat.le_of_ble_eq_true rfl, a85d _ _ _ _ _ _ _ _ (by exact hbd) _ h⟩
noncomputable def c60d (s : Sto) (b : Bs) (n : Nd) (K : AV → List AV → Prop) : Prop :=
    K (optSD (putItemM s b n)) []
noncomputable def D60d : List AV → (AV → List AV → Prop) → Prop
  | [.st [.ps .item s_0, .int .i64 s_1], .str b, .st [.int .i64 n_0, .int .i64 n_1, .str n_2, .ps .str n_3, .ps .node n_4]], K => c60d ⟨s_0, s_1⟩ b ⟨n_0, n_1, n_2, n_3, n_4⟩ K
  | _, _ => False
noncomputable def C60d (args : List AV) (K : AV → List AV → Prop) : Prop := D60d (fixAs args) K
noncomputable def E60d : Ctx := mkE tab [(57, .pure F57), (68, .pure F68), (75, .gen .ow C75d), (82, .pure F82), (85, .gen .ow C85d), (86, .gen .ow C86d)]
noncomputable def O60d : Nat → List DI := ordL [(5, [.q 0, .q 1, .q 2, .q 3, .q 4, .q 5, .l 6 [1, 4], .q 7, .l 8 [], .q 9, .l 10 []])]
theorem a60d (s : Sto) (b : Bs) (n : Nd) (hb : BdAs [.st (stC s), .str b, .st (ndC n)]) (K : AV → List AV → Prop) (h : c60d s b n K) : abodyD E60d O60d .ow Try.f60 (Try.f60.body.getD .skip) [.st (stC s), .str b, .st (ndC n)] (fun r rs => K (fixR r) (fixAs rs)) := by
  simp only [BdAs, BdA, BdL, BdC, MX, ndC, shC, itC, stC, opC, chC, nwC, flC, rqC, rsC, enc, List.cons_append, List.nil_append, and_true, true_and] at hb
  unfold c60d at h
  have hK := h
  have h9 : storeM s = true → smS s ∧ sortedI s.items := fun h => ⟨storeM_sm h, storeM_sorted h⟩
  have h8 : storeM s = true → 0 ≤ s.clock ∧ s.clock ≤ 999 ∧ s.items.length ≤ 10 := storeM_clock
  have h7 : validM n = true → smN n := validM_sm
  conv => whnf
  repeat' first|((first|refine Cnd.mk (fun h=>?_) (fun h=>?_)|refine Gd.mk (fun h=>?_))<;>(try simp [etas,elDef,-List.getD_eq_getElem?_getD] at h)<;>conv=>whnf)|((first|refine Obl.mk (by first|omega|rfl|exact inK_byte _|(simp only [inK,Int.toNat_natCast,etas,elDef,m86d]<;>first|omega|grind)|grind [inK,m86d]) ?_|refine OblG.mk (by ((conv=>whnf);(repeat (first|refine Bx.mk ?_|(intro h;(try simp [etas,elDef,-List.getD_eq_getElem?_getD] at h);conv=>whnf)));(first|omega|rfl|exact inK_byte _|(simp only [inK,Int.toNat_natCast,etas,elDef,m86d]<;>first|omega|grind)|grind [inK,m86d]))) ?_|refine And.intro ?_ ?_)<;>conv=>whnf)|exact True.intro|(intro;conv=>whnf)
  · have e : putItemM s b n = none := by grind [putItemM]
    exact leafV hK (by rw [e]; rfl)
  · have e : putItemM s b n = none := by grind [putItemM, putS]
    exact leafV hK (by rw [e]; rfl)
  · have e : putItemM s b n = some (putS s b n) := by grind [putItemM, putS]
    exact leafV hK (by rw [e]; simp only [optSD, stD, putS, Option.getD_some, Option.isSome_some, etas]; rfl)
theorem s60d : (CtrOK Try.prog 60 (.gen .ow C60d) ∧ Callable Try.prog 60) := by
  refine gen_okD (E := E60d) (mkE_cons s57 (mkE_cons s68 (mkE_cons s75d (mkE_cons s82 (mkE_cons s85d (mkE_cons s86d (mkE_nil tab_ok))))))) mix (O := O60d) (D := D60d) (own := .ow) Try.func60 rfl (by rfl) (by kernel_rfl) (fun args K h hbd => ?_)
  unfold D60d at h; split at h
  case h_2 => exact h.elim
  exact ⟨Nat.le_of_ble_eq_true rfl, a60d ⟨_, _⟩ _ ⟨_, _, _, _, _⟩ (by exact hbd) _ h⟩
noncomputable def c59d (s : Sto) (b : Bs) (K : AV → List AV → Prop) : Prop :=
    K (optSD (dropItemM s b)) []
noncomputable def D59d : List AV → (AV → List AV → Prop) → Prop
  | [.st [.ps .item s_0, .int .i64 s_1], .str b], K => c59d ⟨s_0, s_1⟩ b K
  | _, _ => False
noncomputable def C59d (args : List AV) (K : AV → List AV → Prop) : Prop := D59d (fixAs args) K
noncomputable def E59d : Ctx := mkE tab [(57, .pure F57), (75, .gen .ow C75d), (83, .pure F83), (84, .gen .ow C84d)]
noncomputable def O59d : Nat → List DI := ordL []
theorem a59d (s : Sto) (b : Bs) (hb : BdAs [.st (stC s), .str b]) (K : AV → List AV → Prop) (h : c59d s b K) : abodyD E59d O59d .ow Try.f59 (Try.f59.body.getD .skip) [.st (stC s), .str b] (fun r rs => K (fixR r) (fixAs rs)) := by
  simp only [BdAs, BdA, BdL, BdC, MX, ndC, shC, itC, stC, opC, chC, nwC, flC, rqC, rsC, enc, List.cons_append, List.nil_append, and_true, true_and] at hb
  unfold c59d at h
  have hK := h
  have h9 : storeM s = true → smS s ∧ sortedI s.items := fun h => ⟨storeM_sm h, storeM_sorted h⟩
  have h8 : storeM s = true → 0 ≤ s.clock ∧ s.clock ≤ 999 ∧ s.items.length ≤ 10 := storeM_clock
  have hfl : foundI s.items b = true → lbI s.items b < s.items.length := fun h => by simp only [foundI, Bool.and_eq_true, decide_eq_true_eq] at h; exact h.1
  conv => whnf
  repeat' first|((first|refine Cnd.mk (fun h=>?_) (fun h=>?_)|refine Gd.mk (fun h=>?_))<;>(try simp [etas,elDef,-List.getD_eq_getElem?_getD] at h)<;>conv=>whnf)|((first|refine Obl.mk (by first|omega|rfl|exact inK_byte _|(simp only [inK,Int.toNat_natCast,etas,elDef,o83]<;>first|omega|grind)|grind [inK,o83]) ?_|refine OblG.mk (by ((conv=>whnf);(repeat (first|refine Bx.mk ?_|(intro h;(try simp [etas,elDef,-List.getD_eq_getElem?_getD] at h);conv=>whnf)));(first|omega|rfl|exact inK_byte _|(simp only [inK,Int.toNat_natCast,etas,elDef,o83]<;>first|omega|grind)|grind [inK,o83]))) ?_|refine And.intro ?_ ?_)<;>conv=>whnf)|exact True.intro|(intro;conv=>whnf)
  · have e : dropItemM s b = none := by grind [dropItemM]
    exact leafV hK (by rw [e]; rfl)
  · have e1 := findI_new (ascI_sorted.2 (h9 (by assumption : _ ∧ _).1).2) h
    have e : dropItemM s b = none := by grind [dropItemM]
    exact leafV hK (by rw [e]; rfl)
  · have e1 := findI_found h
    have e2 := dropL_found (ascI_sorted.2 (h9 (by assumption : _ ∧ _).1).2) h
    have e : dropItemM s b = some (dropS s b) := by grind [dropItemM]
    exact leafV hK (by rw [e, dropS, e2]; simp only [optSD, stD, Option.getD_some, Option.isSome_some, Int.toNat_natCast]; rfl)
theorem s59d : (CtrOK Try.prog 59 (.gen .ow C59d) ∧ Callable Try.prog 59) := by
  refine gen_okD (E := E59d) (mkE_cons s57 (mkE_cons s75d (mkE_cons s83 (mkE_cons s84d (mkE_nil tab_ok))))) mix (O := O59d) (D := D59d) (own := .ow) Try.func59 rfl (by rfl) (by kernel_rfl) (fun args K h hbd => ?_)
  unfold D59d at h; split at h
  case h_2 => exact h.elim
  exact ⟨Nat.le_of_ble_eq_true rfl, a59d ⟨_, _⟩ _ (by exact hbd) _ h⟩
noncomputable def c30d (s : Sto) (c : Chg) (K : AV → List AV → Prop) : Prop :=
    K (optSD (applyCM s c)) []
noncomputable def D30d : List AV → (AV → List AV → Prop) → Prop
  | [.st [.ps .item s_0, .int .i64 s_1], .st [.str c_0, .bool c_1, .int .i64 c_2_0, .int .i64 c_2_1, .str c_2_2, .ps .str c_2_3, .ps .node c_2_4]], K => c30d ⟨s_0, s_1⟩ ⟨c_0, c_1, ⟨c_2_0, c_2_1, c_2_2, c_2_3, c_2_4⟩⟩ K
  | _, _ => False
noncomputable def C30d (args : List AV) (K : AV → List AV → Prop) : Prop := D30d (fixAs args) K
noncomputable def E30d : Ctx := mkE tab [(57, .pure F57), (58, .pure F58), (59, .gen .ow C59d), (60, .gen .ow C60d)]
noncomputable def O30d : Nat → List DI := ordL []
theorem a30d (s : Sto) (c : Chg) (hb : BdAs [.st (stC s), .st (chC c)]) (K : AV → List AV → Prop) (h : c30d s c K) : abodyD E30d O30d .ow Try.f30 (Try.f30.body.getD .skip) [.st (stC s), .st (chC c)] (fun r rs => K (fixR r) (fixAs rs)) := by
  simp only [BdAs, BdA, BdL, BdC, MX, ndC, shC, itC, stC, opC, chC, nwC, flC, rqC, rsC, enc, List.cons_append, List.nil_append, and_true, true_and] at hb
  unfold c30d at h
  have hK := h
  conv => whnf
  repeat' first|((first|refine Cnd.mk (fun h=>?_) (fun h=>?_)|refine Gd.mk (fun h=>?_))<;>(try simp [etas,elDef,-List.getD_eq_getElem?_getD] at h)<;>conv=>whnf)|((first|refine Obl.mk (by first|omega|rfl|exact inK_byte _|(simp only [inK,Int.toNat_natCast,etas,elDef]<;>first|omega|grind)|grind [inK]) ?_|refine OblG.mk (by ((conv=>whnf);(repeat (first|refine Bx.mk ?_|(intro h;(try simp [etas,elDef,-List.getD_eq_getElem?_getD] at h);conv=>whnf)));(first|omega|rfl|exact inK_byte _|(simp only [inK,Int.toNat_natCast,etas,elDef]<;>first|omega|grind)|grind [inK]))) ?_|refine And.intro ?_ ?_)<;>conv=>whnf)|exact True.intro|(intro;conv=>whnf)
  · have e : applyCM s c = none := by grind [applyCM]
    exact leafV hK (by rw [e]; rfl)
  · have e : applyCM s c = dropItemM s c.name := by grind [applyCM, applyM]
    exact leafV hK (by rw [e]; simp only [optSD, stD, etas]; rfl)
  · have e : applyCM s c = putItemM s c.name c.node := by grind [applyCM, applyM]
    exact leafV hK (by rw [e]; simp only [optSD, stD, etas]; rfl)
theorem s30d : (CtrOK Try.prog 30 (.gen .ow C30d) ∧ Callable Try.prog 30) := by
  refine gen_okD (E := E30d) (mkE_cons s57 (mkE_cons s58 (mkE_cons s59d (mkE_cons s60d (mkE_nil tab_ok))))) mix (O := O30d) (D := D30d) (own := .ow) Try.func30 rfl (by rfl) (by kernel_rfl) (fun args K h hbd => ?_)
  unfold D30d at h; split at h
  case h_2 => exact h.elim
  exact ⟨Nat.le_of_ble_eq_true rfl, a30d ⟨_, _⟩ ⟨_, _, ⟨_, _, _, _, _⟩⟩ (by exact hbd) _ h⟩
def loR (f : Bool) (n kp : Sto) : List (Nat × LC) := match f with
  | false => [(6, .box (stC n)), (7, .box [.nils .item, .int .i64 0])]
  | true => [(6, .box (stC n)), (7, .box [.ls 905, .int .i64 kp.clock]), (905, .tree .item kp.items)]
noncomputable def c47d (l : List Chg) (v : Int) (K : AV → List AV → Prop) : Prop :=
    Obl (0 ≤ v ∧ v ≤ l.length) (K (optSD (stoAtM l v)) [])
noncomputable def D47d : List AV → (AV → List AV → Prop) → Prop
  | [.ps .chg l, .int .i64 v], K => c47d l v K
  | _, _ => False
noncomputable def C47d (args : List AV) (K : AV → List AV → Prop) : Prop := D47d (fixAs args) K
noncomputable def E47d : Ctx := mkE tab [(30, .gen .ps C30), (75, .gen .ow C75d)]
noncomputable def O47d : Nat → List DI := ordL []
theorem a47d (l : List Chg) (v : Int) (hb : BdAs [.ps .chg l, .int .i64 v]) (K : AV → List AV → Prop) (h : c47d l v K) : abodyD E47d O47d .ow Try.f47 (Try.f47.body.getD .skip) [.ps .chg l, .int .i64 v] (fun r rs => K (fixR r) (fixAs rs)) := by
  simp only [BdAs, BdA, BdL, BdC, MX, ndC, shC, itC, stC, opC, chC, nwC, flC, rqC, rsC, enc, List.cons_append, List.nil_append, and_true, true_and] at hb
  unfold c47d at h
  obtain ⟨hv, hK⟩ := h
  have h00 : (replayM []).isSome = true := rfl
  have h01 := keptM_zero l v.toNat
  have h03 : (replayM []).getD ⟨[], 0⟩ = ⟨[], 0⟩ := rfl
  conv => whnf
  repeat' first|((first|refine Cnd.mk (fun h=>?_) (fun h=>?_)|refine Gd.mk (fun h=>?_))<;>(try simp [etas,elDef,-List.getD_eq_getElem?_getD] at h)<;>conv=>whnf)|((first|refine Obl.mk (by first|omega|rfl|exact inK_byte _|(simp only [inK,Int.toNat_natCast,etas,elDef]<;>first|omega|grind)|grind [inK]) ?_|refine OblG.mk (by ((conv=>whnf);(repeat (first|refine Bx.mk ?_|(intro h;(try simp [etas,elDef,-List.getD_eq_getElem?_getD] at h);conv=>whnf)));(first|omega|rfl|exact inK_byte _|(simp only [inK,Int.toNat_natCast,etas,elDef]<;>first|omega|grind)|grind [inK]))) ?_|refine And.intro ?_ ?_)<;>conv=>whnf)|exact True.intro|(intro;conv=>whnf)
  · have e : stoAtM l v = none := by grind [stoAtM, logM]
    exact leafV hK (by rw [e]; rfl)
  refine aloop_intro (Nat × Bool) (fun q => q.1 ≤ l.length ∧ (replayM (l.take q.1)).isSome = true ∧ (q.2 = false → keptM l v.toNat q.1 = ⟨[], 0⟩)) (fun q => l.length - q.1) (fun q => [(18, .int .i64 q.1)]) (fun q => loR q.2 ((replayM (l.take q.1)).getD ⟨[], 0⟩) (keptM l v.toNat q.1)) [4] (0, false) [] [] ⟨Nat.zero_le _, h00, fun _ => h01⟩ ?_ (by exact sgOk_of (by rfl)) ?_
  · iterate 2 ((all_goals (conv=>whnf));(repeat' (first|exact trivial|rfl|(refine nilEq ?_;first|rfl|(simp only [*];done)|(simp [*];done)|grind)|apply And.intro|((first|apply intEq|apply boolEq|apply strEq|apply psEq|apply nilEq|apply arrEq);(try simp only [Int.toNat_natCast,etas,elDef]);first | done | omega | grind | (simp only [*]; done) | (simp [*]; done)))));(all_goals ((try simp only [Int.toNat_natCast,etas,elDef]);first | done | omega | grind | (simp only [*]; done) | (simp [*]; done)))
  rintro ⟨i, _ | _⟩ ⟨hi, hj, hk⟩
  · dsimp only at hi hj hk
    have hk0 := hk rfl
    have htk := fun h => replayM_next (l := l) (i := i) h hj
    have h9 := fun h => applyCM_sm (s := (replayM (l.take i)).getD ⟨[], 0⟩) (c := l.getD i default) h
    have hks := keptM_succ (l := l) (v := v.toNat) (i := i)
    conv => whnf
    repeat' first|((first|refine Cnd.mk (fun h=>?_) (fun h=>?_)|refine Gd.mk (fun h=>?_))<;>(try simp [etas,elDef,-List.getD_eq_getElem?_getD] at h)<;>conv=>whnf)|((first|refine Obl.mk (by first|omega|rfl|exact inK_byte _|(simp only [inK,Int.toNat_natCast,etas,elDef]<;>first|omega|grind)|grind [inK]) ?_|refine OblG.mk (by ((conv=>whnf);(repeat (first|refine Bx.mk ?_|(intro h;(try simp [etas,elDef,-List.getD_eq_getElem?_getD] at h);conv=>whnf)));(first|omega|rfl|exact inK_byte _|(simp only [inK,Int.toNat_natCast,etas,elDef]<;>first|omega|grind)|grind [inK]))) ?_|refine And.intro ?_ ?_)<;>conv=>whnf)|exact True.intro|(intro;conv=>whnf)
    · have e := replayM_none ((htk (by assumption)).trans h)
      have e : stoAtM l v = none := by grind [stoAtM, logM]
      exact leafV hK (by rw [e]; rfl)
    · have e3 := htk (by assumption)
      rw [if_pos (by omega), e3] at hks
      exact ⟨(i + 1, true), [(905, 39000)], [], ⟨by simp only; omega, by simp only; rw [e3]; assumption, fun h => by cases h⟩, by simp only; omega, by iterate 2 ((all_goals (conv=>whnf));(repeat' (first|exact trivial|rfl|(refine nilEq ?_;first|rfl|(simp only [*];done)|(simp [*];done)|grind)|apply And.intro|((first|apply intEq|apply boolEq|apply strEq|apply psEq|apply nilEq|apply arrEq);(try simp only [Int.toNat_natCast,etas,elDef]);first | rw [e3] | rw [hks]))));(all_goals ((try simp only [Int.toNat_natCast,etas,elDef]);first | rw [e3] | rw [hks])), (by exact sgOk_of (by rfl))⟩
    · have e3 := htk (by assumption)
      rw [if_neg (by omega)] at hks
      exact ⟨(i + 1, false), [], [], ⟨by simp only; omega, by simp only; rw [e3]; assumption, fun _ => by rw [hks]; exact hk0⟩, by simp only; omega, by iterate 2 ((all_goals (conv=>whnf));(repeat' (first|exact trivial|rfl|(refine nilEq ?_;first|rfl|(simp only [*];done)|(simp [*];done)|grind)|apply And.intro|((first|apply intEq|apply boolEq|apply strEq|apply psEq|apply nilEq|apply arrEq);(try simp only [Int.toNat_natCast,etas,elDef]);first | rw [e3] | rw [hks]))));(all_goals ((try simp only [Int.toNat_natCast,etas,elDef]);first | rw [e3] | rw [hks])), (by exact sgOk_of (by rfl))⟩
    · have e : i = l.length := by omega
      subst e
      rw [List.take_length] at hj
      have e : stoAtM l v = replayM (l.take v.toNat) := by grind [stoAtM, logM]
      have e2 := replay_take_isSome (i := v.toNat) hj
      have e5 := keptM_end (l := l) (v := v.toNat) (by omega)
      rw [hk0] at e5
      exact leafV hK (by rw [e]; simp only [optSD, stD, e2, ← e5]; rfl)
  · dsimp only at hi hj hk
    have htk := fun h => replayM_next (l := l) (i := i) h hj
    have h9 := fun h => applyCM_sm (s := (replayM (l.take i)).getD ⟨[], 0⟩) (c := l.getD i default) h
    have hks := keptM_succ (l := l) (v := v.toNat) (i := i)
    conv => whnf
    repeat' first|((first|refine Cnd.mk (fun h=>?_) (fun h=>?_)|refine Gd.mk (fun h=>?_))<;>(try simp [etas,elDef,-List.getD_eq_getElem?_getD] at h)<;>conv=>whnf)|((first|refine Obl.mk (by first|omega|rfl|exact inK_byte _|(simp only [inK,Int.toNat_natCast,etas,elDef]<;>first|omega|grind)|grind [inK]) ?_|refine OblG.mk (by ((conv=>whnf);(repeat (first|refine Bx.mk ?_|(intro h;(try simp [etas,elDef,-List.getD_eq_getElem?_getD] at h);conv=>whnf)));(first|omega|rfl|exact inK_byte _|(simp only [inK,Int.toNat_natCast,etas,elDef]<;>first|omega|grind)|grind [inK]))) ?_|refine And.intro ?_ ?_)<;>conv=>whnf)|exact True.intro|(intro;conv=>whnf)
    · have e := replayM_none ((htk (by assumption)).trans h)
      have e : stoAtM l v = none := by grind [stoAtM, logM]
      exact leafV hK (by rw [e]; rfl)
    · have e3 := htk (by assumption)
      rw [if_pos (by omega), e3] at hks
      exact ⟨(i + 1, true), [(905, 39000)], [], ⟨by simp only; omega, by simp only; rw [e3]; assumption, fun h => by cases h⟩, by simp only; omega, by iterate 2 ((all_goals (conv=>whnf));(repeat' (first|exact trivial|rfl|(refine nilEq ?_;first|rfl|(simp only [*];done)|(simp [*];done)|grind)|apply And.intro|((first|apply intEq|apply boolEq|apply strEq|apply psEq|apply nilEq|apply arrEq);(try simp only [Int.toNat_natCast,etas,elDef]);first | rw [e3] | rw [hks]))));(all_goals ((try simp only [Int.toNat_natCast,etas,elDef]);first | rw [e3] | rw [hks])), (by exact sgOk_of (by rfl))⟩
    · have e3 := htk (by assumption)
      rw [if_neg (by omega)] at hks
      exact ⟨(i + 1, true), [], [], ⟨by simp only; omega, by simp only; rw [e3]; assumption, fun h => by cases h⟩, by simp only; omega, by iterate 2 ((all_goals (conv=>whnf));(repeat' (first|exact trivial|rfl|(refine nilEq ?_;first|rfl|(simp only [*];done)|(simp [*];done)|grind)|apply And.intro|((first|apply intEq|apply boolEq|apply strEq|apply psEq|apply nilEq|apply arrEq);(try simp only [Int.toNat_natCast,etas,elDef]);first | rw [e3] | rw [hks]))));(all_goals ((try simp only [Int.toNat_natCast,etas,elDef]);first | rw [e3] | rw [hks])), (by exact sgOk_of (by rfl))⟩
    · have e : i = l.length := by omega
      subst e
      rw [List.take_length] at hj
      have e : stoAtM l v = replayM (l.take v.toNat) := by grind [stoAtM, logM]
      have e2 := replay_take_isSome (i := v.toNat) hj
      have e5 := keptM_end (l := l) (v := v.toNat) (by omega)
      exact leafV hK (by rw [e]; simp only [optSD, stD, e2, ← e5]; rfl)
theorem s47d : (CtrOK Try.prog 47 (.gen .ow C47d) ∧ Callable Try.prog 47) := by
  refine gen_okD (E := E47d) (mkE_cons s30 (mkE_cons s75d (mkE_nil tab_ok))) mix (O := O47d) (D := D47d) (own := .ow) Try.func47 rfl (by rfl) (by kernel_rfl) (fun args K h hbd => ?_)
  unfold D47d at h; split at h
  case h_2 => exact h.elim
  exact ⟨Nat.le_of_ble_eq_true rfl, a47d _ _ (by exact hbd) _ h⟩
noncomputable def c19d (l : List Chg) (K : AV → List AV → Prop) : Prop :=
    K (optSD (logM l)) []
noncomputable def D19d : List AV → (AV → List AV → Prop) → Prop
  | [.ps .chg l], K => c19d l K
  | _, _ => False
noncomputable def C19d (args : List AV) (K : AV → List AV → Prop) : Prop := D19d (fixAs args) K
noncomputable def E19d : Ctx := mkE tab [(47, .gen .ow C47d)]
noncomputable def O19d : Nat → List DI := ordL []
theorem a19d (l : List Chg) (hb : BdAs [.ps .chg l]) (K : AV → List AV → Prop) (h : c19d l K) : abodyD E19d O19d .ow Try.f19 (Try.f19.body.getD .skip) [.ps .chg l] (fun r rs => K (fixR r) (fixAs rs)) := by
  simp only [BdAs, BdA, BdL, BdC, MX, ndC, shC, itC, stC, opC, chC, nwC, flC, rqC, rsC, enc, List.cons_append, List.nil_append, and_true, true_and] at hb
  unfold c19d at h
  have hK := h
  rw [← stoAt_len] at hK
  conv => whnf
  repeat' first|((first|refine Cnd.mk (fun h=>?_) (fun h=>?_)|refine Gd.mk (fun h=>?_))<;>(try simp [etas,elDef,-List.getD_eq_getElem?_getD] at h)<;>conv=>whnf)|((first|refine Obl.mk (by first|omega|rfl|exact inK_byte _|(simp only [inK,Int.toNat_natCast,etas,elDef]<;>first|omega|grind)|grind [inK]) ?_|refine OblG.mk (by ((conv=>whnf);(repeat (first|refine Bx.mk ?_|(intro h;(try simp [etas,elDef,-List.getD_eq_getElem?_getD] at h);conv=>whnf)));(first|omega|rfl|exact inK_byte _|(simp only [inK,Int.toNat_natCast,etas,elDef]<;>first|omega|grind)|grind [inK]))) ?_|refine And.intro ?_ ?_)<;>conv=>whnf)|exact True.intro|(intro;conv=>whnf)
  exact leafV hK rfl
theorem s19d : (CtrOK Try.prog 19 (.gen .ow C19d) ∧ Callable Try.prog 19) := by
  refine gen_okD (E := E19d) (mkE_cons s47d (mkE_nil tab_ok)) mix (O := O19d) (D := D19d) (own := .ow) Try.func19 rfl (by rfl) (by kernel_rfl) (fun args K h hbd => ?_)
  unfold D19d at h; split at h
  case h_2 => exact h.elim
  exact ⟨Nat.le_of_ble_eq_true rfl, a19d _ (by exact hbd) _ h⟩
noncomputable def c24d (l : List Chg) (v : Int) (K : AV → List AV → Prop) : Prop :=
    K (optSD (stoAtM l v)) []
noncomputable def D24d : List AV → (AV → List AV → Prop) → Prop
  | [.ps .chg l, .int .i64 v], K => c24d l v K
  | _, _ => False
noncomputable def C24d (args : List AV) (K : AV → List AV → Prop) : Prop := D24d (fixAs args) K
noncomputable def E24d : Ctx := mkE tab [(47, .gen .ow C47d)]
noncomputable def O24d : Nat → List DI := ordL []
theorem a24d (l : List Chg) (v : Int) (hb : BdAs [.ps .chg l, .int .i64 v]) (K : AV → List AV → Prop) (h : c24d l v K) : abodyD E24d O24d .ow Try.f24 (Try.f24.body.getD .skip) [.ps .chg l, .int .i64 v] (fun r rs => K (fixR r) (fixAs rs)) := by
  simp only [BdAs, BdA, BdL, BdC, MX, ndC, shC, itC, stC, opC, chC, nwC, flC, rqC, rsC, enc, List.cons_append, List.nil_append, and_true, true_and] at hb
  unfold c24d at h
  have hK := h
  conv => whnf
  repeat' first|((first|refine Cnd.mk (fun h=>?_) (fun h=>?_)|refine Gd.mk (fun h=>?_))<;>(try simp [etas,elDef,-List.getD_eq_getElem?_getD] at h)<;>conv=>whnf)|((first|refine Obl.mk (by first|omega|rfl|exact inK_byte _|(simp only [inK,Int.toNat_natCast,etas,elDef]<;>first|omega|grind)|grind [inK]) ?_|refine OblG.mk (by ((conv=>whnf);(repeat (first|refine Bx.mk ?_|(intro h;(try simp [etas,elDef,-List.getD_eq_getElem?_getD] at h);conv=>whnf)));(first|omega|rfl|exact inK_byte _|(simp only [inK,Int.toNat_natCast,etas,elDef]<;>first|omega|grind)|grind [inK]))) ?_|refine And.intro ?_ ?_)<;>conv=>whnf)|exact True.intro|(intro;conv=>whnf)
  · have e : stoAtM l v = none := by grind [stoAtM]
    exact leafV hK (by rw [e]; rfl)
  · exact leafV hK rfl
theorem s24d : (CtrOK Try.prog 24 (.gen .ow C24d) ∧ Callable Try.prog 24) := by
  refine gen_okD (E := E24d) (mkE_cons s47d (mkE_nil tab_ok)) mix (O := O24d) (D := D24d) (own := .ow) Try.func24 rfl (by rfl) (by kernel_rfl) (fun args K h hbd => ?_)
  unfold D24d at h; split at h
  case h_2 => exact h.elim
  exact ⟨Nat.le_of_ble_eq_true rfl, a24d _ _ (by exact hbd) _ h⟩
end Go.Rs
end
