import Derived.Test.YtoailaifflbomaaEN
import Derived.Deep.LoopGhost
import Derived.Test.YtoailaifflbomaaKN
import Derived.Test.YtoailaifflbomaaKI
import Derived.Test.YtoailaifflbomaaKC
import Derived.Test.YtoailaifflbomaaEK
import Derived.Test.YtoailaifflbomaaEF
set_option linter.all false
section
set_option linter.unusedSimpArgs false
set_option linter.unusedVariables false
namespace Go.Rs
open Go.Proofs Go.RowKit
set_option maxRecDepth 100000
set_option maxHeartbeats 4000000 in
theorem kmarkIntS (l : List Int) (k0 : Int) (w : World) (x : Value) (bs : List Nat) (hd : Deep w x (.ps .i64 l) bs) (hn : bs.Nodup) (ht : Tabs w) (htb : ∀ c ∈ bs, isTab c = false) (h0 : 0 ≤ k0) (hb : k0 + (l.length : Int) ≤ 4611686018427387904) :
    Calls Try.prog 16 #[x, .int .i64 k0] w fun e w' => e = .returned (.int .i64 (k0 + (l.length : Int))) ∧ Deep w' x (.ps .i64 (mkI l k0)) bs ∧ Upd w w' bs := by
  rcases hd.inv_ps with ⟨rfl, rfl, a, cap, rfl⟩ | ⟨b, cap, xs, T, bss, h0', rfl, hM, hc, hb', hl, h1, hr, rfl⟩
  · go_enter Try.func16, Try.ntmps16
    go_wp2
    go_loopg [1, 5] 1 (fun g vk vi wr => vk = .int .i64 k0 ∧ vi = .int .i64 0 ∧ wr = w)
    case atStart => exact ⟨rfl, rfl, rfl⟩
    obtain ⟨rfl, rfl, rfl⟩ := hrel
    go_wp2
    go_ret
    exact ⟨by simp, .nil .i64 a cap, .refl _ _⟩
  · generalize hN : l.length = N at *
    have A0 : Aside (k0 + (N : Int) ≤ 4611686018427387904 ∧ N ≤ MX) := ⟨hb, hM⟩
    have A1 : Aside ((b :: inn (N * esz .i64) bss).Nodup ∧ Tabs w ∧ ∀ c ∈ b :: inn (N * esz .i64) bss, isTab c = false) := ⟨hn, ht, htb⟩
    clear hb hb' hl h1 hr hM hc hn ht htb
    generalize inn (N * esz .i64) bss = I at *
    go_enter Try.func16, Try.ntmps16
    go_wp2
    go_loopg [1, 5] N (fun g vk vi wr => ∃ (p r : List Int) (k : Int), g = r.length ∧ vk = .int .i64 k ∧ vi = .int .i64 p.length ∧ Aside (Deep wr (.slice (some ⟨b, 0, none⟩) N cap) (.ps .i64 (p ++ r)) (b :: I) ∧ Upd w wr (b :: I)) ∧ Aside ((p ++ r).length = N ∧ 0 ≤ k ∧ k + r.length = k0 + N ∧ p ++ mkI r k = mkI l k0))
    case atStart => exact ⟨[], l, k0, hN.symm, rfl, rfl, ⟨hd, .refl _ _⟩, hN, h0, by rw [hN], rfl⟩
    obtain ⟨p, r, k, hg, rfl, rfl, H1, H2⟩ := hrel
    clear hd
    cases r with
    | nil =>
      have hlt : ¬ ((p.length : Int) < (N : Int)) := by have := H2.out.1; simp at this; omega
      go_wp2
      go_ret
      obtain ⟨H3, H4⟩ := H1.out
      obtain ⟨H5, H6, H7, H8⟩ := H2.out
      simp only [mkI, List.append_nil] at H3 H8
      rw [H8] at H3
      exact ⟨by simp at H7; simp [H7], H3, H4⟩
    | cons n r =>
      have hlt : ((p.length : Int) < (N : Int)) := by have := H2.out.1; simp at this; omega
      obtain ⟨D0, U0⟩ := H1.out
      obtain ⟨hlen, hk, hks, hmk⟩ := H2.out
      obtain ⟨hbd, hMX⟩ := A0.out
      obtain ⟨hnd, htw, htb⟩ := A1.out
      have htr := U0.tabs htw htb
      simp only [List.length_cons] at hks
      have B1 : Aside (wrap64 (k + 1) = k + 1) := wrap_1 hk (by omega)
      have B2 : Aside (wrap64 ((p.length : Int) + 1) = (p.length : Int) + 1) := wrap_1 (by omega) (by unfold MX at hMX; omega)
      have B3 : Aside (0 ≤ k ∧ k + ((r.length : Int) + 1) = k0 + N ∧ p ++ mkI (n :: r) k = mkI l k0 ∧ (p ++ n :: r).length = N) := ⟨hk, hks, hmk, hlen⟩
      have B4 : Aside (Upd w wr (b :: I) ∧ (b :: I).Nodup) := ⟨U0, hnd⟩
      have B6 : Aside (k ≤ 4611686018427387904) := (by omega : k ≤ 4611686018427387904)
      obtain ⟨⟨x1, c1⟩, f1⟩ := D0.cellA B3.out.2.2.2 (j := 0) (o := p.length) (by simp [esz]) (by decide)
      obtain ⟨D2, U2⟩ := D0.setA B3.out.2.2.2 B4.out.2 (j := 0) (o := p.length) (by simp [esz]) (by decide) (v := .int .i64 k) (u := .int .i64 k) (.int _ _) trivial (y := k) rfl
      have B5 : Aside (Deep (wr.setCell ⟨b, p.length, none⟩ (.int .i64 k)) (.slice (some ⟨b, 0, none⟩) N cap) (.ps .i64 (p ++ k :: r)) (b :: I) ∧ Upd wr (wr.setCell ⟨b, p.length, none⟩ (.int .i64 k)) (b :: I)) := ⟨D2, U2⟩
      clear H1 H2 hbd hMX hnd htw htb htr hk hks hmk hlen U0
      clear D0 D2 U2
      go_wp2
      go_roundg r.length
      case measure => subst hg; simp
      case rel =>
        obtain ⟨D2, U2⟩ := B5.out
        obtain ⟨a1, a2, a3, a4⟩ := B3.out
        exact ⟨p ++ [k], r, k + 1, rfl, by rw [B1.out], by rw [B2.out]; simp, ⟨by simpa using D2, B4.out.1.trans U2⟩, by simpa using a4, by omega, by omega, by simpa [mkI] using a3⟩
end Go.Rs
end
section
set_option linter.unusedSimpArgs false
set_option linter.unusedVariables false
namespace Go.Rs
open Go.Proofs Go.RowKit
set_option maxRecDepth 100000
def chD (x : Chg) : List AV := .str x.name :: .bool x.gone :: ndD x.node
def ndW (n : Nd) : List AV := [.int .i64 n.kind, .int .i64 n.num, .str n.text, .own .str n.names, .wr .node n.kids]
def chW (x : Chg) : List AV := .str x.name :: .bool x.gone :: ndW x.node
def stW (s : Sto) : List AV := [.wr .item s.items, .int .i64 s.clock]
def optSW (o : Option Sto) : AV := .tup [.st (stW (o.getD ⟨[], 0⟩)), .bool o.isSome]
noncomputable def c81d (x : It) (K : AV → List AV → Prop) : Prop :=
    Obl (smN x.node) (K (.st (itD x)) [])
noncomputable def D81d : List AV → (AV → List AV → Prop) → Prop
  | [.st [.str x_0, .int .i64 x_1, .int .i64 x_2_0, .int .i64 x_2_1, .str x_2_2, .ps .str x_2_3, .ps .node x_2_4]], K => c81d ⟨x_0, x_1, ⟨x_2_0, x_2_1, x_2_2, x_2_3, x_2_4⟩⟩ K
  | _, _ => False
noncomputable def C81d (args : List AV) (K : AV → List AV → Prop) : Prop := D81d (fixAs args) K
noncomputable def E81d : Ctx := mkE tab [(35, .gen .ow C35d)]
noncomputable def O81d : Nat → List DI := ordL []
theorem a81d (x : It) (hb : BdAs [.st (itC x)]) (K : AV → List AV → Prop) (h : c81d x K) : abodyD E81d O81d .ow Try.f81 (Try.f81.body.getD .skip) [.st (itC x)] (fun r rs => K (fixR r) (fixAs rs)) := by
  simp only [BdAs, BdA, BdL, BdC, MX, ndC, shC, itC, stC, opC, chC, nwC, flC, rqC, rsC, enc, List.cons_append, List.nil_append, and_true, true_and] at hb
  unfold c81d at h
  obtain ⟨hs, hK⟩ := h
  conv => whnf
  repeat' first|((first|refine Cnd.mk (fun h=>?_) (fun h=>?_)|refine Gd.mk (fun h=>?_))<;>(try simp [etas,elDef,-List.getD_eq_getElem?_getD] at h)<;>conv=>whnf)|((first|refine Obl.mk (by first|omega|rfl|exact inK_byte _|(simp only [inK,Int.toNat_natCast,etas,elDef,m35d]<;>first|omega|grind)|grind [inK,m35d]) ?_|refine OblG.mk (by ((conv=>whnf);(repeat (first|refine Bx.mk ?_|(intro h;(try simp [etas,elDef,-List.getD_eq_getElem?_getD] at h);conv=>whnf)));(first|omega|rfl|exact inK_byte _|(simp only [inK,Int.toNat_natCast,etas,elDef,m35d]<;>first|omega|grind)|grind [inK,m35d]))) ?_|refine And.intro ?_ ?_)<;>conv=>whnf)|exact True.intro|(intro;conv=>whnf)
  all_goals exact leafV hK rfl
theorem s81d : (CtrOK Try.prog 81 (.gen .ow C81d) ∧ Callable Try.prog 81) := by
  refine gen_okD (E := E81d) (mkE_cons s35d (mkE_nil tab_ok)) mix (O := O81d) (D := D81d) (own := .ow) Try.func81 rfl (by rfl) (by kernel_rfl) (fun args K h hbd => ?_)
  unfold D81d at h; split at h
  case h_2 => exact h.elim
  exact ⟨Nat.le_of_ble_eq_true rfl, a81d ⟨_, _, ⟨_, _, _, _, _⟩⟩ (by exact hbd) _ h⟩
noncomputable def c29d (x : Chg) (K : AV → List AV → Prop) : Prop :=
    Obl (smN x.node) (K (.st (chD x)) [])
noncomputable def D29d : List AV → (AV → List AV → Prop) → Prop
  | [.st [.str x_0, .bool x_1, .int .i64 x_2_0, .int .i64 x_2_1, .str x_2_2, .ps .str x_2_3, .ps .node x_2_4]], K => c29d ⟨x_0, x_1, ⟨x_2_0, x_2_1, x_2_2, x_2_3, x_2_4⟩⟩ K
  | _, _ => False
noncomputable def C29d (args : List AV) (K : AV → List AV → Prop) : Prop := D29d (fixAs args) K
noncomputable def E29d : Ctx := mkE tab [(35, .gen .ow C35d)]
noncomputable def O29d : Nat → List DI := ordL []
theorem a29d (x : Chg) (hb : BdAs [.st (chC x)]) (K : AV → List AV → Prop) (h : c29d x K) : abodyD E29d O29d .ow Try.f29 (Try.f29.body.getD .skip) [.st (chC x)] (fun r rs => K (fixR r) (fixAs rs)) := by
  simp only [BdAs, BdA, BdL, BdC, MX, ndC, shC, itC, stC, opC, chC, nwC, flC, rqC, rsC, enc, List.cons_append, List.nil_append, and_true, true_and] at hb
  unfold c29d at h
  obtain ⟨hs, hK⟩ := h
  conv => whnf
  repeat' first|((first|refine Cnd.mk (fun h=>?_) (fun h=>?_)|refine Gd.mk (fun h=>?_))<;>(try simp [etas,elDef,-List.getD_eq_getElem?_getD] at h)<;>conv=>whnf)|((first|refine Obl.mk (by first|omega|rfl|exact inK_byte _|(simp only [inK,Int.toNat_natCast,etas,elDef,m35d]<;>first|omega|grind)|grind [inK,m35d]) ?_|refine OblG.mk (by ((conv=>whnf);(repeat (first|refine Bx.mk ?_|(intro h;(try simp [etas,elDef,-List.getD_eq_getElem?_getD] at h);conv=>whnf)));(first|omega|rfl|exact inK_byte _|(simp only [inK,Int.toNat_natCast,etas,elDef,m35d]<;>first|omega|grind)|grind [inK,m35d]))) ?_|refine And.intro ?_ ?_)<;>conv=>whnf)|exact True.intro|(intro;conv=>whnf)
  all_goals exact leafV hK rfl
theorem s29d : (CtrOK Try.prog 29 (.gen .ow C29d) ∧ Callable Try.prog 29) := by
  refine gen_okD (E := E29d) (mkE_cons s35d (mkE_nil tab_ok)) mix (O := O29d) (D := D29d) (own := .ow) Try.func29 rfl (by rfl) (by kernel_rfl) (fun args K h hbd => ?_)
  unfold D29d at h; split at h
  case h_2 => exact h.elim
  exact ⟨Nat.le_of_ble_eq_true rfl, a29d ⟨_, _, ⟨_, _, _, _, _⟩⟩ (by exact hbd) _ h⟩
noncomputable def c56d (l : List It) (K : AV → List AV → Prop) : Prop :=
    Obl (smIs l) (K (.dp .item l) [])
noncomputable def D56d : List AV → (AV → List AV → Prop) → Prop
  | [.ps .item l], K => c56d l K
  | _, _ => False
noncomputable def C56d (args : List AV) (K : AV → List AV → Prop) : Prop := D56d (fixAs args) K
noncomputable def E56d : Ctx := mkE tab [(81, .gen .ow C81d)]
noncomputable def O56d : Nat → List DI := ordL []
theorem a56d (l : List It) (hb : BdAs [.ps .item l]) (K : AV → List AV → Prop) (h : c56d l K) : abodyD E56d O56d .ow Try.f56 (Try.f56.body.getD .skip) [.ps .item l] (fun r rs => K (fixR r) (fixAs rs)) := by
  simp only [BdAs, BdA, BdL, BdC, MX, ndC, shC, itC, stC, opC, chC, nwC, flC, rqC, rsC, enc, List.cons_append, List.nil_append, and_true, true_and] at hb
  unfold c56d at h
  obtain ⟨hs, hK⟩ := h
  have hkid : ∀ j, j < l.length → smN (l.getD j default).node := fun j hj => hs.kid hj
  have h3 := hs.1
  conv => whnf
  repeat' first|((first|refine Cnd.mk (fun h=>?_) (fun h=>?_)|refine Gd.mk (fun h=>?_))<;>(try simp [etas,elDef,-List.getD_eq_getElem?_getD] at h)<;>conv=>whnf)|((first|refine Obl.mk (by first|omega|rfl|exact inK_byte _|(simp only [inK,Int.toNat_natCast,etas,elDef]<;>first|omega|grind)|grind [inK]) ?_|refine OblG.mk (by ((conv=>whnf);(repeat (first|refine Bx.mk ?_|(intro h;(try simp [etas,elDef,-List.getD_eq_getElem?_getD] at h);conv=>whnf)));(first|omega|rfl|exact inK_byte _|(simp only [inK,Int.toNat_natCast,etas,elDef]<;>first|omega|grind)|grind [inK]))) ?_|refine And.intro ?_ ?_)<;>conv=>whnf)|exact True.intro|(intro;conv=>whnf)
  refine aloop_intro Nat (fun k => k ≤ l.length ∧ True) (fun k => l.length - k) (fun k => [(4, .int .i64 k)]) (fun k => [(7, .tree .item (fillD default l k))]) [] 0 [] [] ?_ ?_ (by exact sgOk_of (by rfl)) ?_
  · first | (simp; done) | (simp; assumption)
  · iterate 2 ((all_goals (conv=>whnf));(repeat' (first|exact trivial|rfl|(refine nilEq ?_;first|rfl|(simp only [*];done)|(simp [*];done)|grind)|apply And.intro|((first|apply intEq|apply boolEq|apply strEq|apply psEq|apply nilEq|apply arrEq);(try simp only [Int.toNat_natCast,etas,elDef]);first | done | omega | grind | (simp only [*]; done) | (simp [*]; done)))));(all_goals ((try simp only [Int.toNat_natCast,etas,elDef]);first | done | omega | grind | (simp only [*]; done) | (simp [*]; done)))
  rintro i ⟨hi, hj⟩
  conv => whnf
  have hl := fillD_len default l hi
  have hset := fun h => fillD_set default l (k := i) h
  repeat' first|((first|refine Cnd.mk (fun h=>?_) (fun h=>?_)|refine Gd.mk (fun h=>?_))<;>(try simp [etas,elDef,-List.getD_eq_getElem?_getD] at h)<;>conv=>whnf)|((first|refine Obl.mk (by first|omega|rfl|exact inK_byte _|(simp only [inK,Int.toNat_natCast,etas,elDef]<;>first|omega|grind)|grind [inK]) ?_|refine OblG.mk (by ((conv=>whnf);(repeat (first|refine Bx.mk ?_|(intro h;(try simp [etas,elDef,-List.getD_eq_getElem?_getD] at h);conv=>whnf)));(first|omega|rfl|exact inK_byte _|(simp only [inK,Int.toNat_natCast,etas,elDef]<;>first|omega|grind)|grind [inK]))) ?_|refine And.intro ?_ ?_)<;>conv=>whnf)|exact True.intro|(intro;conv=>whnf)
  · exact ⟨i + 1, [], [], ⟨by omega, by grind⟩, by omega, by iterate 2 ((all_goals (conv=>whnf));(repeat' (first|exact trivial|rfl|(refine nilEq ?_;first|rfl|(simp only [*];done)|(simp [*];done)|grind)|apply And.intro|((first|apply intEq|apply boolEq|apply strEq|apply psEq|apply nilEq|apply arrEq);(try simp only [Int.toNat_natCast,etas,elDef]);first | done | omega | grind | (simp only [*]; done) | (simp [*]; done)))));(all_goals ((try simp only [Int.toNat_natCast,etas,elDef]);first | done | omega | grind | (simp only [*]; done) | (simp [*]; done))), (by exact sgOk_of (by rfl))⟩
  · exact leafV hK (by simp_all [fixR, fixV, fixL, fix1, deepE, fillD_all default l ‹l.length ≤ i›])
theorem s56d : (CtrOK Try.prog 56 (.gen .ow C56d) ∧ Callable Try.prog 56) := by
  refine gen_okD (E := E56d) (mkE_cons s81d (mkE_nil tab_ok)) mix (O := O56d) (D := D56d) (own := .ow) Try.func56 rfl (by rfl) (by kernel_rfl) (fun args K h hbd => ?_)
  unfold D56d at h; split at h
  case h_2 => exact h.elim
  exact ⟨Nat.le_of_ble_eq_true rfl, a56d _ (by exact hbd) _ h⟩
noncomputable def c11d (l : List Chg) (K : AV → List AV → Prop) : Prop :=
    Obl (smCs l) (K (.dp .chg l) [])
noncomputable def D11d : List AV → (AV → List AV → Prop) → Prop
  | [.ps .chg l], K => c11d l K
  | _, _ => False
noncomputable def C11d (args : List AV) (K : AV → List AV → Prop) : Prop := D11d (fixAs args) K
noncomputable def E11d : Ctx := mkE tab [(29, .gen .ow C29d)]
noncomputable def O11d : Nat → List DI := ordL []
theorem a11d (l : List Chg) (hb : BdAs [.ps .chg l]) (K : AV → List AV → Prop) (h : c11d l K) : abodyD E11d O11d .ow Try.f11 (Try.f11.body.getD .skip) [.ps .chg l] (fun r rs => K (fixR r) (fixAs rs)) := by
  simp only [BdAs, BdA, BdL, BdC, MX, ndC, shC, itC, stC, opC, chC, nwC, flC, rqC, rsC, enc, List.cons_append, List.nil_append, and_true, true_and] at hb
  unfold c11d at h
  obtain ⟨hs, hK⟩ := h
  have hkid : ∀ j, j < l.length → smN (l.getD j default).node := fun j hj => hs.kid hj
  have h3 := hs.1
  conv => whnf
  repeat' first|((first|refine Cnd.mk (fun h=>?_) (fun h=>?_)|refine Gd.mk (fun h=>?_))<;>(try simp [etas,elDef,-List.getD_eq_getElem?_getD] at h)<;>conv=>whnf)|((first|refine Obl.mk (by first|omega|rfl|exact inK_byte _|(simp only [inK,Int.toNat_natCast,etas,elDef]<;>first|omega|grind)|grind [inK]) ?_|refine OblG.mk (by ((conv=>whnf);(repeat (first|refine Bx.mk ?_|(intro h;(try simp [etas,elDef,-List.getD_eq_getElem?_getD] at h);conv=>whnf)));(first|omega|rfl|exact inK_byte _|(simp only [inK,Int.toNat_natCast,etas,elDef]<;>first|omega|grind)|grind [inK]))) ?_|refine And.intro ?_ ?_)<;>conv=>whnf)|exact True.intro|(intro;conv=>whnf)
  refine aloop_intro Nat (fun k => k ≤ l.length ∧ True) (fun k => l.length - k) (fun k => [(4, .int .i64 k)]) (fun k => [(7, .tree .chg (fillD default l k))]) [] 0 [] [] ?_ ?_ (by exact sgOk_of (by rfl)) ?_
  · first | (simp; done) | (simp; assumption)
  · iterate 2 ((all_goals (conv=>whnf));(repeat' (first|exact trivial|rfl|(refine nilEq ?_;first|rfl|(simp only [*];done)|(simp [*];done)|grind)|apply And.intro|((first|apply intEq|apply boolEq|apply strEq|apply psEq|apply nilEq|apply arrEq);(try simp only [Int.toNat_natCast,etas,elDef]);first | done | omega | grind | (simp only [*]; done) | (simp [*]; done)))));(all_goals ((try simp only [Int.toNat_natCast,etas,elDef]);first | done | omega | grind | (simp only [*]; done) | (simp [*]; done)))
  rintro i ⟨hi, hj⟩
  conv => whnf
  have hl := fillD_len default l hi
  have hset := fun h => fillD_set default l (k := i) h
  repeat' first|((first|refine Cnd.mk (fun h=>?_) (fun h=>?_)|refine Gd.mk (fun h=>?_))<;>(try simp [etas,elDef,-List.getD_eq_getElem?_getD] at h)<;>conv=>whnf)|((first|refine Obl.mk (by first|omega|rfl|exact inK_byte _|(simp only [inK,Int.toNat_natCast,etas,elDef]<;>first|omega|grind)|grind [inK]) ?_|refine OblG.mk (by ((conv=>whnf);(repeat (first|refine Bx.mk ?_|(intro h;(try simp [etas,elDef,-List.getD_eq_getElem?_getD] at h);conv=>whnf)));(first|omega|rfl|exact inK_byte _|(simp only [inK,Int.toNat_natCast,etas,elDef]<;>first|omega|grind)|grind [inK]))) ?_|refine And.intro ?_ ?_)<;>conv=>whnf)|exact True.intro|(intro;conv=>whnf)
  · exact ⟨i + 1, [], [], ⟨by omega, by grind⟩, by omega, by iterate 2 ((all_goals (conv=>whnf));(repeat' (first|exact trivial|rfl|(refine nilEq ?_;first|rfl|(simp only [*];done)|(simp [*];done)|grind)|apply And.intro|((first|apply intEq|apply boolEq|apply strEq|apply psEq|apply nilEq|apply arrEq);(try simp only [Int.toNat_natCast,etas,elDef]);first | done | omega | grind | (simp only [*]; done) | (simp [*]; done)))));(all_goals ((try simp only [Int.toNat_natCast,etas,elDef]);first | done | omega | grind | (simp only [*]; done) | (simp [*]; done))), (by exact sgOk_of (by rfl))⟩
  · exact leafV hK (by simp_all [fixR, fixV, fixL, fix1, deepE, fillD_all default l ‹l.length ≤ i›])
theorem s11d : (CtrOK Try.prog 11 (.gen .ow C11d) ∧ Callable Try.prog 11) := by
  refine gen_okD (E := E11d) (mkE_cons s29d (mkE_nil tab_ok)) mix (O := O11d) (D := D11d) (own := .ow) Try.func11 rfl (by rfl) (by kernel_rfl) (fun args K h hbd => ?_)
  unfold D11d at h; split at h
  case h_2 => exact h.elim
  exact ⟨Nat.le_of_ble_eq_true rfl, a11d _ (by exact hbd) _ h⟩
noncomputable def c28d (s : Sto) (K : AV → List AV → Prop) : Prop :=
    Obl (smIs s.items) (K (.st [.dp .item s.items, .int .i64 s.clock]) [])
noncomputable def D28d : List AV → (AV → List AV → Prop) → Prop
  | [.st [.ps .item s_0, .int .i64 s_1]], K => c28d ⟨s_0, s_1⟩ K
  | _, _ => False
noncomputable def C28d (args : List AV) (K : AV → List AV → Prop) : Prop := D28d (fixAs args) K
noncomputable def E28d : Ctx := mkE tab [(56, .gen .ow C56d)]
noncomputable def O28d : Nat → List DI := ordL []
theorem a28d (s : Sto) (hb : BdAs [.st (stC s)]) (K : AV → List AV → Prop) (h : c28d s K) : abodyD E28d O28d .ow Try.f28 (Try.f28.body.getD .skip) [.st (stC s)] (fun r rs => K (fixR r) (fixAs rs)) := by
  simp only [BdAs, BdA, BdL, BdC, MX, ndC, shC, itC, stC, opC, chC, nwC, flC, rqC, rsC, enc, List.cons_append, List.nil_append, and_true, true_and] at hb
  unfold c28d at h
  obtain ⟨hs, hK⟩ := h
  conv => whnf
  repeat' first|((first|refine Cnd.mk (fun h=>?_) (fun h=>?_)|refine Gd.mk (fun h=>?_))<;>(try simp [etas,elDef,-List.getD_eq_getElem?_getD] at h)<;>conv=>whnf)|((first|refine Obl.mk (by first|omega|rfl|exact inK_byte _|(simp only [inK,Int.toNat_natCast,etas,elDef]<;>first|omega|grind)|grind [inK]) ?_|refine OblG.mk (by ((conv=>whnf);(repeat (first|refine Bx.mk ?_|(intro h;(try simp [etas,elDef,-List.getD_eq_getElem?_getD] at h);conv=>whnf)));(first|omega|rfl|exact inK_byte _|(simp only [inK,Int.toNat_natCast,etas,elDef]<;>first|omega|grind)|grind [inK]))) ?_|refine And.intro ?_ ?_)<;>conv=>whnf)|exact True.intro|(intro;conv=>whnf)
  all_goals exact leafV hK rfl
theorem s28d : (CtrOK Try.prog 28 (.gen .ow C28d) ∧ Callable Try.prog 28) := by
  refine gen_okD (E := E28d) (mkE_cons s56d (mkE_nil tab_ok)) mix (O := O28d) (D := D28d) (own := .ow) Try.func28 rfl (by rfl) (by kernel_rfl) (fun args K h hbd => ?_)
  unfold D28d at h; split at h
  case h_2 => exact h.elim
  exact ⟨Nat.le_of_ble_eq_true rfl, a28d ⟨_, _⟩ (by exact hbd) _ h⟩
noncomputable def c35r (n : Nd) (K : AV → List AV → Prop) : Prop :=
    Obl (smN n) (K (.st (ndW n)) [])
noncomputable def C35r : List AV → (AV → List AV → Prop) → Prop
  | [.st [.int .i64 n_0, .int .i64 n_1, .str n_2, .ps .str n_3, .ps .node n_4]], K => c35r ⟨n_0, n_1, n_2, n_3, n_4⟩ K
  | _, _ => False
theorem s35r : CtrOK Try.prog 35 (.gen .ow C35r) ∧ Callable Try.prog 35 := by
  refine ⟨Snd.of (Snd.lend s35d.1) fun vs K h => ?_, s35d.2⟩
  unfold C35r at h
  split at h
  case h_2 => exact h.elim
  unfold c35r at h
  exact ⟨rfl, h.1, rfl, rfl, h.2⟩
noncomputable def c29r (x : Chg) (K : AV → List AV → Prop) : Prop :=
    Obl (smN x.node) (K (.st (chW x)) [])
noncomputable def C29r : List AV → (AV → List AV → Prop) → Prop
  | [.st [.str x_0, .bool x_1, .int .i64 x_2_0, .int .i64 x_2_1, .str x_2_2, .ps .str x_2_3, .ps .node x_2_4]], K => c29r ⟨x_0, x_1, ⟨x_2_0, x_2_1, x_2_2, x_2_3, x_2_4⟩⟩ K
  | _, _ => False
theorem s29r : CtrOK Try.prog 29 (.gen .ow C29r) ∧ Callable Try.prog 29 := by
  refine ⟨Snd.of (Snd.lend s29d.1) fun vs K h => ?_, s29d.2⟩
  unfold C29r at h
  split at h
  case h_2 => exact h.elim
  unfold c29r at h
  exact ⟨rfl, h.1, rfl, rfl, h.2⟩
noncomputable def c11r (l : List Chg) (K : AV → List AV → Prop) : Prop :=
    Obl (smCs l) (K (.wr .chg l) [])
noncomputable def C11r : List AV → (AV → List AV → Prop) → Prop
  | [.ps .chg l], K => c11r l K
  | _, _ => False
theorem s11r : CtrOK Try.prog 11 (.gen .ow C11r) ∧ Callable Try.prog 11 := by
  refine ⟨Snd.of (Snd.lend s11d.1) fun vs K h => ?_, s11d.2⟩
  unfold C11r at h
  split at h
  case h_2 => exact h.elim
  unfold c11r at h
  exact ⟨rfl, h.1, rfl, rfl, h.2⟩
noncomputable def c28r (s : Sto) (K : AV → List AV → Prop) : Prop :=
    Obl (smIs s.items) (K (.st (stW s)) [])
noncomputable def C28r : List AV → (AV → List AV → Prop) → Prop
  | [.st [.ps .item s_0, .int .i64 s_1]], K => c28r ⟨s_0, s_1⟩ K
  | _, _ => False
theorem s28r : CtrOK Try.prog 28 (.gen .ow C28r) ∧ Callable Try.prog 28 := by
  refine ⟨Snd.of (Snd.lend s28d.1) fun vs K h => ?_, s28d.2⟩
  unfold C28r at h
  split at h
  case h_2 => exact h.elim
  unfold c28r at h
  exact ⟨rfl, h.1, rfl, rfl, h.2⟩
noncomputable def c16 (l : List Int) (m : Int) (K : AV → List AV → Prop) : Prop :=
    Obl (0 ≤ m ∧ m + (l.length : Int) ≤ 4611686018427387904) (K (.int .i64 (m + (l.length : Int))) [.own .i64 (mkI l m)])
noncomputable def C16 : List AV → (AV → List AV → Prop) → Prop
  | [.tup [.own .i64 l], .int .i64 m], K => c16 l m K
  | _, _ => False
theorem s16 : CtrOK Try.prog 16 (.gen .ln C16) ∧ Callable Try.prog 16 := by
  refine ⟨fun vs K h => ?_, callable Try.func16 (by kernel_rfl) (by kernel_rfl)⟩
  unfold C16 at h
  split at h
  case h_2 => exact h.elim
  unfold c16 at h
  obtain ⟨h1, h2⟩ := h
  exact fun w γ S xs hi hn hf ht hS => snd_markO rfl h2 (fun w x bs hd hn ht htb => kmarkIntS _ _ w x bs hd hn ht htb h1.1 h1.2) hi hn hf ht hS
noncomputable def c44 (l : List Bs) (m : Int) (K : AV → List AV → Prop) : Prop :=
    Obl (0 ≤ m ∧ m + (l.length : Int) ≤ 4611686018427387904) (K (.int .i64 (m + (l.length : Int))) [.own .str (mkS l m)])
noncomputable def C44 : List AV → (AV → List AV → Prop) → Prop
  | [.tup [.own .str l], .int .i64 m], K => c44 l m K
  | _, _ => False
theorem s44 : CtrOK Try.prog 44 (.gen .ln C44) ∧ Callable Try.prog 44 := by
  refine ⟨fun vs K h => ?_, callable Try.func44 (by kernel_rfl) (by kernel_rfl)⟩
  unfold C44 at h
  split at h
  case h_2 => exact h.elim
  unfold c44 at h
  obtain ⟨h1, h2⟩ := h
  exact fun w γ S xs hi hn hf ht hS => snd_markO rfl h2 (fun w x bs hd hn ht htb => kmarkStringS _ _ w x bs hd hn ht htb h1.1 h1.2) hi hn hf ht hS
noncomputable def c45 (l : List Nd) (m : Int) (K : AV → List AV → Prop) : Prop :=
    Obl (0 ≤ m ∧ m + ((totNs l : Nat) : Int) ≤ 4611686018427387904) (K (.int .i64 (m + ((totNs l : Nat) : Int))) [.wr .node (mkNs l m)])
noncomputable def C45 : List AV → (AV → List AV → Prop) → Prop
  | [.tup [.wr .node l], .int .i64 m], K => c45 l m K
  | _, _ => False
theorem s45 : CtrOK Try.prog 45 (.gen .ln C45) ∧ Callable Try.prog 45 := by
  refine ⟨fun vs K h => ?_, callable Try.func45 (by kernel_rfl) (by kernel_rfl)⟩
  unfold C45 at h
  split at h
  case h_2 => exact h.elim
  unfold c45 at h
  obtain ⟨h1, h2⟩ := h
  exact fun w γ S xs hi hn hf ht hS => snd_markW h2 (fun w x bs hd hn ht htb => kmarkNodeS _ _ w x bs hd hn ht htb h1.1 h1.2) hi hn hf ht hS
noncomputable def c49 (l : List It) (m : Int) (K : AV → List AV → Prop) : Prop :=
    Obl (0 ≤ m ∧ m + ((totIs l : Nat) : Int) ≤ 4611686018427387904) (K (.int .i64 (m + ((totIs l : Nat) : Int))) [.wr .item (mkIs l m)])
noncomputable def C49 : List AV → (AV → List AV → Prop) → Prop
  | [.tup [.wr .item l], .int .i64 m], K => c49 l m K
  | _, _ => False
theorem s49 : CtrOK Try.prog 49 (.gen .ln C49) ∧ Callable Try.prog 49 := by
  refine ⟨fun vs K h => ?_, callable Try.func49 (by kernel_rfl) (by kernel_rfl)⟩
  unfold C49 at h
  split at h
  case h_2 => exact h.elim
  unfold c49 at h
  obtain ⟨h1, h2⟩ := h
  exact fun w γ S xs hi hn hf ht hS => snd_markW h2 (fun w x bs hd hn ht htb => kmarkItemS _ _ w x bs hd hn ht htb h1.1 h1.2) hi hn hf ht hS
noncomputable def c15 (l : List Chg) (m : Int) (K : AV → List AV → Prop) : Prop :=
    Obl (0 ≤ m ∧ m + ((totCs l : Nat) : Int) ≤ 4611686018427387904) (K (.int .i64 (m + ((totCs l : Nat) : Int))) [.wr .chg (mkCs l m)])
noncomputable def C15 : List AV → (AV → List AV → Prop) → Prop
  | [.tup [.wr .chg l], .int .i64 m], K => c15 l m K
  | _, _ => False
theorem s15 : CtrOK Try.prog 15 (.gen .ln C15) ∧ Callable Try.prog 15 := by
  refine ⟨fun vs K h => ?_, callable Try.func15 (by kernel_rfl) (by kernel_rfl)⟩
  unfold C15 at h
  split at h
  case h_2 => exact h.elim
  unfold c15 at h
  obtain ⟨h1, h2⟩ := h
  exact fun w γ S xs hi hn hf ht hS => snd_markW h2 (fun w x bs hd hn ht htb => kmarkChangeS _ _ w x bs hd hn ht htb h1.1 h1.2) hi hn hf ht hS
noncomputable def c21 (l : List It) (c : Int) (m : Int) (K : AV → List AV → Prop) : Prop :=
    Obl (0 ≤ m ∧ m + ((totIs l : Nat) : Int) ≤ 4611686018427387904) (K (.int .i64 (m + ((totIs l : Nat) : Int))) [.wr .item (mkIs l m)])
noncomputable def C21 : List AV → (AV → List AV → Prop) → Prop
  | [.tup [.st [.wr .item l, .int .i64 c]], .int .i64 m], K => c21 l c m K
  | _, _ => False
noncomputable def E21 : Ctx := mkE tab [(49, .gen .ln C49)]
noncomputable def O21 : Nat → List DI := ordL []
theorem a21 (l : List It) (c : Int) (m : Int) (hb : BdAs [.tup [.st [.wr .item l, .int .i64 c]], .int .i64 m]) (K : AV → List AV → Prop) (h : c21 l c m K) : abody E21 O21 .ow Try.f21 (Try.f21.body.getD .skip) [.tup [.st [.wr .item l, .int .i64 c]], .int .i64 m] K := by
  simp only [BdAs, BdA, BdL, BdC, MX, ndC, shC, itC, stC, opC, chC, nwC, flC, rqC, rsC, enc, List.cons_append, List.nil_append, and_true, true_and] at hb
  unfold c21 at h
  obtain ⟨hs, hK⟩ := h
  conv => whnf
  repeat' first|((first|refine Cnd.mk (fun h=>?_) (fun h=>?_)|refine Gd.mk (fun h=>?_))<;>(try simp [etas,elDef,-List.getD_eq_getElem?_getD] at h)<;>conv=>whnf)|((first|refine Obl.mk (by first|omega|rfl|exact inK_byte _|(simp only [inK,Int.toNat_natCast,etas,elDef]<;>first|omega|grind)|grind [inK]) ?_|refine OblG.mk (by ((conv=>whnf);(repeat (first|refine Bx.mk ?_|(intro h;(try simp [etas,elDef,-List.getD_eq_getElem?_getD] at h);conv=>whnf)));(first|omega|rfl|exact inK_byte _|(simp only [inK,Int.toNat_natCast,etas,elDef]<;>first|omega|grind)|grind [inK]))) ?_|refine And.intro ?_ ?_)<;>conv=>whnf)|exact True.intro|(intro;conv=>whnf)
  all_goals exact leafV hK rfl
theorem s21 : (CtrOK Try.prog 21 (.gen .ln C21) ∧ Callable Try.prog 21) := by
  refine gen_ok (E := E21) (mkE_cons s49 (mkE_nil tab_ok)) mix (O := O21) (C := C21) (own := .ow) Try.func21 rfl (by rfl) (by kernel_rfl) (fun args K h hbd => ?_)
  unfold C21 at h; split at h
  case h_2 => exact h.elim
  exact ⟨Nat.le_of_ble_eq_true rfl, a21 _ _ _ (by exact hbd) _ h⟩
noncomputable def c38 (n1 : Int) (n2 : Int) (n3 : Bs) (n4 : List Bs) (n5 : List Nd) (m : Int) (K : AV → List AV → Prop) : Prop :=
    Obl (0 ≤ m ∧ m + (n4.length : Int) + ((totNs n5 : Nat) : Int) ≤ 4611686018427387904) (K (.int .i64 (m + (n4.length : Int) + ((totNs n5 : Nat) : Int))) [.own .str (mkS n4 m), .wr .node (mkNs n5 (m + (n4.length : Int)))])
noncomputable def C38 : List AV → (AV → List AV → Prop) → Prop
  | [.tup [.st [.int .i64 n1, .int .i64 n2, .str n3, .own .str n4, .wr .node n5]], .int .i64 m], K => c38 n1 n2 n3 n4 n5 m K
  | _, _ => False
noncomputable def E38 : Ctx := mkE tab [(44, .gen .ln C44), (45, .gen .ln C45)]
noncomputable def O38 : Nat → List DI := ordL []
theorem a38 (n1 : Int) (n2 : Int) (n3 : Bs) (n4 : List Bs) (n5 : List Nd) (m : Int) (hb : BdAs [.tup [.st [.int .i64 n1, .int .i64 n2, .str n3, .own .str n4, .wr .node n5]], .int .i64 m]) (K : AV → List AV → Prop) (h : c38 n1 n2 n3 n4 n5 m K) : abody E38 O38 .ow Try.f38 (Try.f38.body.getD .skip) [.tup [.st [.int .i64 n1, .int .i64 n2, .str n3, .own .str n4, .wr .node n5]], .int .i64 m] K := by
  simp only [BdAs, BdA, BdL, BdC, MX, ndC, shC, itC, stC, opC, chC, nwC, flC, rqC, rsC, enc, List.cons_append, List.nil_append, and_true, true_and] at hb
  unfold c38 at h
  obtain ⟨hs, hK⟩ := h
  conv => whnf
  repeat' first|((first|refine Cnd.mk (fun h=>?_) (fun h=>?_)|refine Gd.mk (fun h=>?_))<;>(try simp [etas,elDef,-List.getD_eq_getElem?_getD] at h)<;>conv=>whnf)|((first|refine Obl.mk (by first|omega|rfl|exact inK_byte _|(simp only [inK,Int.toNat_natCast,etas,elDef]<;>first|omega|grind)|grind [inK]) ?_|refine OblG.mk (by ((conv=>whnf);(repeat (first|refine Bx.mk ?_|(intro h;(try simp [etas,elDef,-List.getD_eq_getElem?_getD] at h);conv=>whnf)));(first|omega|rfl|exact inK_byte _|(simp only [inK,Int.toNat_natCast,etas,elDef]<;>first|omega|grind)|grind [inK]))) ?_|refine And.intro ?_ ?_)<;>conv=>whnf)|exact True.intro|(intro;conv=>whnf)
  all_goals exact leafV hK rfl
theorem s38 : (CtrOK Try.prog 38 (.gen .ln C38) ∧ Callable Try.prog 38) := by
  refine gen_ok (E := E38) (mkE_cons s44 (mkE_cons s45 (mkE_nil tab_ok))) mix (O := O38) (C := C38) (own := .ow) Try.func38 rfl (by rfl) (by kernel_rfl) (fun args K h hbd => ?_)
  unfold C38 at h; split at h
  case h_2 => exact h.elim
  exact ⟨Nat.le_of_ble_eq_true rfl, a38 _ _ _ _ _ _ (by exact hbd) _ h⟩
noncomputable def c32 (b : Bs) (g : Bool) (n1 : Int) (n2 : Int) (n3 : Bs) (n4 : List Bs) (n5 : List Nd) (m : Int) (K : AV → List AV → Prop) : Prop :=
    Obl (0 ≤ m ∧ m + (n4.length : Int) + ((totNs n5 : Nat) : Int) ≤ 4611686018427387904) (K (.int .i64 (m + (n4.length : Int) + ((totNs n5 : Nat) : Int))) [.own .str (mkS n4 m), .wr .node (mkNs n5 (m + (n4.length : Int)))])
noncomputable def C32 : List AV → (AV → List AV → Prop) → Prop
  | [.tup [.st [.str b, .bool g, .int .i64 n1, .int .i64 n2, .str n3, .own .str n4, .wr .node n5]], .int .i64 m], K => c32 b g n1 n2 n3 n4 n5 m K
  | _, _ => False
noncomputable def E32 : Ctx := mkE tab [(38, .gen .ln C38)]
noncomputable def O32 : Nat → List DI := ordL []
theorem a32 (b : Bs) (g : Bool) (n1 : Int) (n2 : Int) (n3 : Bs) (n4 : List Bs) (n5 : List Nd) (m : Int) (hb : BdAs [.tup [.st [.str b, .bool g, .int .i64 n1, .int .i64 n2, .str n3, .own .str n4, .wr .node n5]], .int .i64 m]) (K : AV → List AV → Prop) (h : c32 b g n1 n2 n3 n4 n5 m K) : abody E32 O32 .ow Try.f32 (Try.f32.body.getD .skip) [.tup [.st [.str b, .bool g, .int .i64 n1, .int .i64 n2, .str n3, .own .str n4, .wr .node n5]], .int .i64 m] K := by
  simp only [BdAs, BdA, BdL, BdC, MX, ndC, shC, itC, stC, opC, chC, nwC, flC, rqC, rsC, enc, List.cons_append, List.nil_append, and_true, true_and] at hb
  unfold c32 at h
  obtain ⟨hs, hK⟩ := h
  conv => whnf
  repeat' first|((first|refine Cnd.mk (fun h=>?_) (fun h=>?_)|refine Gd.mk (fun h=>?_))<;>(try simp [etas,elDef,-List.getD_eq_getElem?_getD] at h)<;>conv=>whnf)|((first|refine Obl.mk (by first|omega|rfl|exact inK_byte _|(simp only [inK,Int.toNat_natCast,etas,elDef]<;>first|omega|grind)|grind [inK]) ?_|refine OblG.mk (by ((conv=>whnf);(repeat (first|refine Bx.mk ?_|(intro h;(try simp [etas,elDef,-List.getD_eq_getElem?_getD] at h);conv=>whnf)));(first|omega|rfl|exact inK_byte _|(simp only [inK,Int.toNat_natCast,etas,elDef]<;>first|omega|grind)|grind [inK]))) ?_|refine And.intro ?_ ?_)<;>conv=>whnf)|exact True.intro|(intro;conv=>whnf)
  all_goals exact leafV hK rfl
theorem s32 : (CtrOK Try.prog 32 (.gen .ln C32) ∧ Callable Try.prog 32) := by
  refine gen_ok (E := E32) (mkE_cons s38 (mkE_nil tab_ok)) mix (O := O32) (C := C32) (own := .ow) Try.func32 rfl (by rfl) (by kernel_rfl) (fun args K h hbd => ?_)
  unfold C32 at h; split at h
  case h_2 => exact h.elim
  exact ⟨Nat.le_of_ble_eq_true rfl, a32 _ _ _ _ _ _ _ _ (by exact hbd) _ h⟩
end Go.Rs
end
