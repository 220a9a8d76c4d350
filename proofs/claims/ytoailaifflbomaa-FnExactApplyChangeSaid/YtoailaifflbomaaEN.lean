import Derived.Test.YtoailaifflbomaaEI
import Derived.Test.YtoailaifflbomaaEK
import Derived.Test.YtoailaifflbomaaEF
import Derived.Test.YtoailaifflbomaaLd
import Derived.Test.YtoailaifflbomaaTr
import Derived.Test.YtoailaifflbomaaMH
import Derived.Deep.LoopGhost
set_option linter.all false
section
set_option linter.unusedSimpArgs false
set_option linter.unusedVariables false
namespace Go.Rs
open Go.Proofs Go.RowKit
set_option maxRecDepth 100000
def digs (q : Int) : Bs := if q ≤ 0 then [] else decM q.toNat
theorem digs_step {q : Int} (h : 0 < q) : digs q = digs (q / 10) ++ [UInt8.ofNat (48 + (q % 10).toNat)] := by
  unfold digs
  rw [if_neg (by omega)]
  by_cases h1 : q < 10
  · rw [decM_lt (by omega), if_pos (by omega), List.nil_append]
    congr 2
    omega
  · rw [decM_ge (by omega), if_neg (by omega)]
    congr 3 <;> omega
theorem decM_20 {n : Nat} (h : n ≤ 4611686018427387904) : (decM n).length ≤ 20 := by
  have := mkT_len (k := n) (by omega)
  have key : ∀ (d n : Nat), n < 10 ^ (d + 1) → (decM n).length ≤ d + 1 := by
    intro d
    induction d with
    | zero => intro n hn; rw [decM_lt (by omega)]; simp
    | succ d ih =>
      intro n hn
      by_cases h : n < 10
      · rw [decM_lt h]; simp
      · rw [decM_ge h]
        have := ih (n / 10) (by rw [Nat.div_lt_iff_lt_mul (by omega)]; calc n < 10 ^ (d + 1 + 1) := hn
                                  _ = 10 ^ (d + 1) * 10 := Nat.pow_succ ..)
        simp; omega
  exact key 19 n (by omega)
noncomputable def v43 (m : Int) : AV := .str (mkT m)
noncomputable def o43 (m : Int) : Prop := m ≤ 4611686018427387904
noncomputable def F43 : List AV → QR
  | [.int .i64 m] => some (some (o43 m), v43 m)
  | _ => none
noncomputable def E43 : Ctx := mkE tab []
noncomputable def O43 : Nat → List DI := ordL []
theorem a43 (m : Int) (hb : BdAs [.int .i64 m]) (ho : o43 m) (K : AV → List AV → Prop) (hK : K (v43 m) []) : abody E43 O43 .ps Try.f43 (Try.f43.body.getD .skip) [.int .i64 m] K := by
  simp only [BdAs, BdA, BdL, BdC, MX, ndC, shC, itC, stC, opC, chC, nwC, flC, rqC, rsC, enc, List.cons_append, List.nil_append, and_true, true_and] at hb
  unfold o43 at ho
  unfold v43 at hK
  conv => whnf
  repeat' first|((first|refine Cnd.mk (fun h=>?_) (fun h=>?_)|refine Gd.mk (fun h=>?_))<;>(try simp [etas,elDef,-List.getD_eq_getElem?_getD] at h)<;>conv=>whnf)|((first|refine Obl.mk (by first|omega|rfl|exact inK_byte _|(simp only [inK,Int.toNat_natCast,etas,elDef]<;>first|omega|grind)|grind [inK]) ?_|refine OblG.mk (by ((conv=>whnf);(repeat (first|refine Bx.mk ?_|(intro h;(try simp [etas,elDef,-List.getD_eq_getElem?_getD] at h);conv=>whnf)));(first|omega|rfl|exact inK_byte _|(simp only [inK,Int.toNat_natCast,etas,elDef]<;>first|omega|grind)|grind [inK]))) ?_|refine And.intro ?_ ?_)<;>conv=>whnf)|exact True.intro|(intro;conv=>whnf)
  · rw [mkT, if_pos h] at hK; exact hK
  have hd0 : digs m ++ [] = decM m.toNat := by rw [List.append_nil, digs, if_neg (by omega)]
  refine aloop_intro (Int × Bs) (fun ⟨q, out⟩ => 0 ≤ q ∧ q ≤ m ∧ out.length ≤ 20 ∧ digs q ++ out = decM m.toNat) (fun ⟨q, out⟩ => q.toNat) (fun ⟨q, out⟩ => [(0, .int .i64 q), (3, .str out)]) (fun ⟨q, out⟩ => []) [] (m, []) [] [] ?_ ?_ (by exact sgOk_of (by rfl)) ?_
  · first | (simp; done) | (simp; assumption) | (simp only; grind)
  · iterate 2 ((all_goals (conv=>whnf));(repeat' (first|exact trivial|rfl|(refine nilEq ?_;first|rfl|(simp only [*];done)|(simp [*];done)|grind)|apply And.intro|((first|apply intEq|apply boolEq|apply strEq|apply psEq|apply nilEq|apply arrEq);(try simp only [Int.toNat_natCast,etas,elDef]);first | done | omega | grind | (simp only [*]; done) | (simp [*]; done)))));(all_goals ((try simp only [Int.toNat_natCast,etas,elDef]);first | done | omega | grind | (simp only [*]; done) | (simp [*]; done)))
  rintro ⟨q, out⟩ hinv
  dsimp only at hinv
  conv => whnf
  obtain ⟨hq, hqm, hlo, hdg⟩ := hinv
  repeat' first|((first|refine Cnd.mk (fun h=>?_) (fun h=>?_)|refine Gd.mk (fun h=>?_))<;>(try simp [etas,elDef,-List.getD_eq_getElem?_getD] at h)<;>conv=>whnf)|((first|refine Obl.mk (by first|omega|rfl|exact inK_byte _|(simp only [inK,Int.toNat_natCast,etas,elDef]<;>first|omega|grind)|grind [inK]) ?_|refine OblG.mk (by ((conv=>whnf);(repeat (first|refine Bx.mk ?_|(intro h;(try simp [etas,elDef,-List.getD_eq_getElem?_getD] at h);conv=>whnf)));(first|omega|rfl|exact inK_byte _|(simp only [inK,Int.toNat_natCast,etas,elDef]<;>first|omega|grind)|grind [inK]))) ?_|refine And.intro ?_ ?_)<;>conv=>whnf)|exact True.intro|(intro;conv=>whnf)
  · have h20 := decM_20 (n := m.toNat) (by omega)
    have hst := digs_step h
    have hlen : out.length + 1 ≤ 20 := by
      rw [← hdg, hst] at h20
      simp at h20
      omega
    have hu : List.map (fun n => UInt8.ofNat (Int.toNat n)) [48 + q % 10] = [UInt8.ofNat (48 + (q % 10).toNat)] := by
      simp only [List.map_cons, List.map_nil]
      congr 2
      omega
    exact ⟨(q / 10, List.map (fun n => UInt8.ofNat (Int.toNat n)) [48 + q % 10] ++ out), [], [], ⟨by omega, by omega, by rw [hu]; simpa using hlen, by rw [← hdg, hst, hu, List.append_assoc]⟩, by simp only; omega, by iterate 2 ((all_goals (conv=>whnf));(repeat' (first|exact trivial|rfl|(refine nilEq ?_;first|rfl|(simp only [*];done)|(simp [*];done)|grind)|apply And.intro|((first|apply intEq|apply boolEq|apply strEq|apply psEq|apply nilEq|apply arrEq);(try simp only [Int.toNat_natCast,etas,elDef]);first | done | omega | grind | (simp only [*]; done) | (simp [*]; done)))));(all_goals ((try simp only [Int.toNat_natCast,etas,elDef]);first | done | omega | grind | (simp only [*]; done) | (simp [*]; done))), (by exact sgOk_of (by rfl))⟩
  · have : digs q = [] := by unfold digs; rw [if_pos h]
    rw [this] at hdg
    simp only [List.nil_append] at hdg
    rw [mkT, if_neg (by omega), ← hdg] at hK
    exact hK
theorem s43 : (CtrOK Try.prog 43 (.pure F43) ∧ Callable Try.prog 43) := by
  refine pure_ok (E := E43) (mkE_nil tab_ok) mix (O := O43) (F := F43) Try.func43 rfl (by rfl) (by kernel_rfl) (fun args o v h => ?_) (fun args o v h => ?_) (fun args o v h hbd hp K hK => ?_)
  · unfold F43 at h; split at h <;> cases h; first | trivial | (simp [v43, Scalar, Scalar2, Scalar1, stC, ndC, itC, chC, nwC])
  · unfold F43 at h; split at h <;> cases h; exact Nat.le_of_ble_eq_true rfl
  · unfold F43 at h; split at h
    case h_2 => cases h
    cases h
    exact a43 _ (by exact hbd) (hp _ rfl) K hK
end Go.Rs
end
section
set_option linter.unusedSimpArgs false
set_option linter.unusedVariables false
namespace Go.Rs
open Go.Proofs Go.RowKit
set_option maxRecDepth 100000
theorem set_mid {β : Type} (p r : List β) (n y : β) : (p ++ n :: r).set p.length y = p ++ y :: r := by simp
theorem getD_mid {β : Type} (p r : List β) (n d : β) : (p ++ n :: r).getD p.length d = n := by simp
theorem Deep.setA {w : World} {E : El} {p r : List (ElT E)} {n : ElT E} {b N cap : Nat} {I : List Nat} (h : Deep w (.slice (some ⟨b, 0, none⟩) N cap) (.ps E (p ++ n :: r)) (b :: I)) (hN : (p ++ n :: r).length = N) (hn : (b :: I).Nodup) {j o : Nat} (ho : o = p.length * esz E + j) (hj : j < esz E) {v : Value} {u : AV}
    (hv : Deep w v u []) (hold : flatV ((enc E n).getD j .opq)) {y : ElT E} (hy : enc E y = (enc E n).set j u) :
    Deep (w.setCell ⟨b, o, none⟩ v) (.slice (some ⟨b, 0, none⟩) N cap) (.ps E (p ++ y :: r)) (b :: I) ∧ Upd w (w.setCell ⟨b, o, none⟩ v) (b :: I) := by
  subst hN ho
  have h1 := Deep.set h hn (i := p.length) (j := j) (by simp) hj hv (by rw [getD_mid]; exact hold) (y := y) (by rw [getD_mid]; exact hy)
  have e : (p ++ y :: r).length = (p ++ n :: r).length := by simp
  rwa [set_mid, e] at h1
theorem Deep.cellA {w : World} {E : El} {p r : List (ElT E)} {n : ElT E} {b N cap : Nat} {I : List Nat} (h : Deep w (.slice (some ⟨b, 0, none⟩) N cap) (.ps E (p ++ n :: r)) (b :: I)) (hN : (p ++ n :: r).length = N) {j o : Nat} (ho : o = p.length * esz E + j) (hj : j < esz E) :
    (∃ x, w.cell? ⟨b, o, none⟩ = some x) ∧ w.frozen? ⟨b, o, none⟩ = false := by
  subst hN ho
  rcases h.inv_ps with ⟨h0, -, -⟩ | ⟨b', cap', xs, T, bss, h0, e, hM, hc, hb, hl, h1, hr, e2⟩
  · simp at h0
  simp only [Value.slice.injEq, Option.some.injEq, Addr.mk.injEq, and_true, true_and] at e
  obtain ⟨rfl, rfl⟩ := e
  have hk := idx_lt (n := (p ++ n :: r).length) (i := p.length) (by simp) hj
  have hkx : p.length * esz E + j < xs.length := by
    have : (p ++ n :: r).length * esz E ≤ cap * esz E := Nat.mul_le_mul_right _ hc
    omega
  exact ⟨⟨_, cell_row hb hkx⟩, by simp [World.frozen?, hb]⟩
theorem Deep.subA {w : World} {E : El} {p r : List (ElT E)} {n : ElT E} {b N cap : Nat} {I : List Nat} (h : Deep w (.slice (some ⟨b, 0, none⟩) N cap) (.ps E (p ++ n :: r)) (b :: I)) (hN : (p ++ n :: r).length = N) (hn : (b :: I).Nodup) {j o : Nat} (ho : o = p.length * esz E + j) (hj : j < esz E) {v : AV} (hv : (enc E n).getD j .opq = v) :
    ∃ x bs, w.cell? ⟨b, o, none⟩ = some x ∧ Deep w x v bs ∧ bs.Nodup ∧ (∀ c ∈ bs, c ∈ I) ∧
      ∀ w' u y, Deep w' x u bs → Upd w w' bs → enc E y = (enc E n).set j u → Deep w' (.slice (some ⟨b, 0, none⟩) N cap) (.ps E (p ++ y :: r)) (b :: I) := by
  subst hN ho hv
  obtain ⟨x, bs, h1, h2, h3, h4, h5⟩ := Deep.sub h hn (i := p.length) (j := j) (by simp) hj
  rw [getD_mid] at h2 h5
  refine ⟨x, bs, h1, h2, h3, h4, fun w' u y a1 a2 a3 => ?_⟩
  have h6 := h5 w' u y a1 a2 a3
  have e : (p ++ y :: r).length = (p ++ n :: r).length := by simp
  rwa [set_mid, e] at h6
theorem Deep.same {w w' : World} {x : Value} {v : AV} {bs : List Nat} (h : Deep w x v bs) (hu : Upd w w' []) : Deep w' x v bs := h.upd hu (by simp)
theorem wrap_1 {k : Int} (h0 : 0 ≤ k) (h : k ≤ 4611686018427387904) : wrap64 (k + 1) = k + 1 := by unfold wrap64; omega
theorem kmarkText (k : Int) (w : World) (ht : Tabs w) (hk : k ≤ 4611686018427387904) :
    Calls Try.prog 43 #[.int .i64 k] w fun e w' => e = .returned (.string ⟨(mkT k).toArray⟩) ∧ Upd w w' [] := by
  refine Calls.mono (Snd.quiet (s43.1.2) (args := [.int .i64 k]) (xs := [.int .i64 k]) (r := .str (mkT k)) (.cons (S := []) (S' := []) (.val (.cell (.per (.int _ _) rfl))) .nil) ?_ trivial rfl ht) ?_
  · exact ⟨fun q hq => by cases hq; exact hk, rfl, rfl⟩
  · rintro e w' ⟨x, rfl, hr, hu⟩
    cases hr
    exact ⟨rfl, hu⟩
set_option maxHeartbeats 4000000 in
theorem kmarkStringS (l : List Bs) (k0 : Int) (w : World) (x : Value) (bs : List Nat) (hd : Deep w x (.ps .str l) bs) (hn : bs.Nodup) (ht : Tabs w) (htb : ∀ c ∈ bs, isTab c = false) (h0 : 0 ≤ k0) (hb : k0 + (l.length : Int) ≤ 4611686018427387904) :
    Calls Try.prog 44 #[x, .int .i64 k0] w fun e w' => e = .returned (.int .i64 (k0 + (l.length : Int))) ∧ Deep w' x (.ps .str (mkS l k0)) bs ∧ Upd w w' bs := by
  rcases hd.inv_ps with ⟨rfl, rfl, a, cap, rfl⟩ | ⟨b, cap, xs, T, bss, h0', rfl, hM, hc, hb', hl, h1, hr, rfl⟩
  · go_enter Try.func44, Try.ntmps44
    go_wp2
    go_loopg [1, 5] 1 (fun g vk vi wr => vk = .int .i64 k0 ∧ vi = .int .i64 0 ∧ wr = w)
    case atStart => exact ⟨rfl, rfl, rfl⟩
    obtain ⟨rfl, rfl, rfl⟩ := hrel
    go_wp2
    go_ret
    exact ⟨by simp, .nil .str a cap, .refl _ _⟩
  · generalize hN : l.length = N at *
    have A0 : Aside (k0 + (N : Int) ≤ 4611686018427387904 ∧ N ≤ MX) := ⟨hb, hM⟩
    have A1 : Aside ((b :: inn (N * esz .str) bss).Nodup ∧ Tabs w ∧ ∀ c ∈ b :: inn (N * esz .str) bss, isTab c = false) := ⟨hn, ht, htb⟩
    clear hb hb' hl h1 hr hM hc hn ht htb
    generalize inn (N * esz .str) bss = I at *
    go_enter Try.func44, Try.ntmps44
    go_wp2
    go_loopg [1, 5] N (fun g vk vi wr => ∃ (p r : List Bs) (k : Int), g = r.length ∧ vk = .int .i64 k ∧ vi = .int .i64 p.length ∧ Aside (Deep wr (.slice (some ⟨b, 0, none⟩) N cap) (.ps .str (p ++ r)) (b :: I) ∧ Upd w wr (b :: I)) ∧ Aside ((p ++ r).length = N ∧ 0 ≤ k ∧ k + r.length = k0 + N ∧ p ++ mkS r k = mkS l k0))
    case atStart => exact ⟨[], l, k0, hN.symm, rfl, rfl, ⟨hd, .refl _ _⟩, hN, h0, by rw [hN], rfl⟩
    obtain ⟨p, r, k, hg, rfl, rfl, H1, H2⟩ := hrel
    clear hd
    cases r with
    | nil =>
      have hlt : ¬ ((p.length : Int) < (N : Int)) := by have := H2.out.1; simp at this; omega
      go_wp2
      go_ret
      obtain ⟨H3, H4⟩ := H1.out
      obtain ⟨H5, H6, H7, H8⟩ := H2.out
      simp only [mkS, List.append_nil] at H3 H8
      rw [H8] at H3
      exact ⟨by simp at H7; simp [H7], H3, H4⟩
    | cons n r =>
      have hlt : ((p.length : Int) < (N : Int)) := by have := H2.out.1; simp at this; omega
      obtain ⟨D0, U0⟩ := H1.out
      obtain ⟨hlen, hk, hks, hmk⟩ := H2.out
      obtain ⟨hbd, hMX⟩ := A0.out
      obtain ⟨hnd, htw, htb⟩ := A1.out
      have htr := U0.tabs htw htb
      simp only [List.length_cons] at hks
      have B1 : Aside (wrap64 (k + 1) = k + 1) := wrap_1 hk (by omega)
      have B2 : Aside (wrap64 ((p.length : Int) + 1) = (p.length : Int) + 1) := wrap_1 (by omega) (by unfold MX at hMX; omega)
      have B3 : Aside (0 ≤ k ∧ k + ((r.length : Int) + 1) = k0 + N ∧ p ++ mkS (n :: r) k = mkS l k0 ∧ (p ++ n :: r).length = N) := ⟨hk, hks, hmk, hlen⟩
      have B4 : Aside (Upd w wr (b :: I) ∧ (b :: I).Nodup) := ⟨U0, hnd⟩
      have B6 : Aside (k ≤ 4611686018427387904) := (by omega : k ≤ 4611686018427387904)
      have M0 := kmarkText k wr htr B6.out
      clear H1 H2 hbd hMX hnd htw htb htr hk hks hmk hlen U0
      go_wp2_with (go_at_call 43; refine M0.mono ?_)
      rintro e w1 ⟨rfl, V1⟩
      have D1 := D0.same V1
      have U1 := V1.mono (bs' := b :: I) (by simp)
      obtain ⟨⟨x1, c1⟩, f1⟩ := D1.cellA B3.out.2.2.2 (j := 0) (o := p.length) (by simp [esz]) (by decide)
      obtain ⟨D2, U2⟩ := D1.setA B3.out.2.2.2 B4.out.2 (j := 0) (o := p.length) (by simp [esz]) (by decide) (v := .string ⟨(mkT k).toArray⟩) (u := .str (mkT k)) (.str _ (Nat.le_trans (mkT_len B6.out) (by unfold MX; omega))) trivial (y := mkT k) rfl
      have B5 : Aside (Deep (w1.setCell ⟨b, p.length, none⟩ (.string ⟨(mkT k).toArray⟩)) (.slice (some ⟨b, 0, none⟩) N cap) (.ps .str (p ++ mkT k :: r)) (b :: I) ∧ Upd wr (w1.setCell ⟨b, p.length, none⟩ (.string ⟨(mkT k).toArray⟩)) (b :: I)) := ⟨D2, U1.trans U2⟩
      clear D0 D1 D2 V1 U1 U2 M0
      go_wp2
      go_roundg r.length
      case measure => subst hg; simp
      case rel =>
        obtain ⟨D2, U2⟩ := B5.out
        obtain ⟨a1, a2, a3, a4⟩ := B3.out
        exact ⟨p ++ [mkT k], r, k + 1, rfl, by rw [B1.out], by rw [B2.out]; simp, ⟨by simpa using D2, B4.out.1.trans U2⟩, by simpa using a4, by omega, by omega, by simpa [mkS] using a3⟩
theorem tmod3 {k : Int} (h : 0 ≤ k) : (k.tmod 3 == 0) = decide (k % 3 = 0) := by
  rw [Int.tmod_eq_emod_of_nonneg h]
  cases h1 : decide (k % 3 = 0) with
  | true => simpa using h1
  | false => simpa using h1
end Go.Rs
end
