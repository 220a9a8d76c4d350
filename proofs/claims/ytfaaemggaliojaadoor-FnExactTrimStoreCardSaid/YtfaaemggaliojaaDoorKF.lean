import Derived.Test.YtfaaemggaliojaaDoorKN
import Derived.Deep.LoopGhost
set_option linter.all false
set_option linter.unusedSimpArgs false
set_option linter.unusedVariables false
namespace Go.Rs
open Go.Proofs Go.RowKit
set_option maxRecDepth 100000

set_option maxHeartbeats 8000000 in
theorem kmarkFilterS (l : List Flt) (k0 : Int) (w : World) (x : Value) (bs : List Nat) (hd : Deep w x (.ps .flt l) bs) (hn : bs.Nodup) (ht : Tabs w) (htb : ∀ c ∈ bs, isTab c = false) (h0 : 0 ≤ k0) (hb : k0 + ((totFs l : Nat) : Int) ≤ 4611686018427387904) : Calls Tryd.prog 15 #[x, .int .i64 k0] w fun e w' => e = .returned (.int .i64 (k0 + ((totFs l : Nat) : Int))) ∧ Deep w' x (.ps .flt (mkFs l k0)) bs ∧ Upd w w' bs := by
  rcases hd.inv_ps with ⟨rfl, rfl, a, cap, rfl⟩ | ⟨b, cap, xs, T, bss, h0', rfl, hM, hc, hb', hl, h1, hr, rfl⟩
  · go_enter Tryd.func15, Tryd.ntmps15
    go_wp2
    go_loopg [1, 5] 1 (fun g vk vi wr => vk = .int .i64 k0 ∧ vi = .int .i64 0 ∧ wr = w)
    case atStart => exact ⟨rfl, rfl, rfl⟩
    obtain ⟨rfl, rfl, rfl⟩ := hrel
    go_wp2
    go_ret
    exact ⟨by simp [totNs, totIs, totCs, totWs, totFs], by rw [show mkFs ([] : List Flt) k0 = [] from by simp [mkFs]]; exact .nil .flt a cap, .refl _ _⟩
  · generalize hN : l.length = N at *
    have A0 : Aside (k0 + ((totFs l : Nat) : Int) ≤ 4611686018427387904 ∧ N ≤ MX) := ⟨hb, hM⟩
    have A1 : Aside ((b :: inn (N * esz .flt) bss).Nodup ∧ Tabs w ∧ ∀ c ∈ b :: inn (N * esz .flt) bss, isTab c = false) := ⟨hn, ht, htb⟩
    clear hb hb' hl h1 hr hM hc hn ht htb
    generalize inn (N * esz .flt) bss = I at *
    obtain ⟨K1, hK1⟩ : ∃ K1, K1 = k0 + ((totFs l : Nat) : Int) := ⟨_, rfl⟩
    rw [← hK1]
    have A2 : Aside (K1 = k0 + ((totFs l : Nat) : Int)) := hK1
    clear hK1
    go_enter Tryd.func15, Tryd.ntmps15
    go_wp2
    go_loopg [1, 5] N (fun g vk vi wr => ∃ (p r : List Flt) (k : Int), g = r.length ∧ vk = .int .i64 k ∧ vi = .int .i64 p.length ∧ Aside (Deep wr (.slice (some ⟨b, 0, none⟩) N cap) (.ps .flt (p ++ r)) (b :: I) ∧ Upd w wr (b :: I)) ∧ Aside ((p ++ r).length = N ∧ 0 ≤ k ∧ k + ((totFs r : Nat) : Int) = K1 ∧ p ++ mkFs r k = mkFs l k0))
    case atStart => exact ⟨[], l, k0, hN.symm, rfl, rfl, ⟨hd, .refl _ _⟩, hN, h0, A2.out.symm, rfl⟩
    obtain ⟨p, r, k, hg, rfl, rfl, H1, H2⟩ := hrel
    clear hd
    cases r with
    | nil =>
      have hlt : ¬ ((p.length : Int) < (N : Int)) := by have := H2.out.1; simp at this; omega
      go_wp2
      go_ret
      obtain ⟨H3, H4⟩ := H1.out
      obtain ⟨H5, H6, H7, H8⟩ := H2.out
      simp only [mkFs, List.append_nil] at H3 H8
      rw [H8] at H3
      have H7' : k = K1 := by simpa [totNs, totIs, totCs, totWs, totFs] using H7
      exact ⟨by simp [H7'], H3, H4⟩
    | cons n r =>
      have hlt : ((p.length : Int) < (N : Int)) := by have := H2.out.1; simp at this; omega
      obtain ⟨D0, U0⟩ := H1.out
      obtain ⟨hlen, hk, hks, hmk⟩ := H2.out
      obtain ⟨hbd, hMX⟩ := A0.out
      obtain ⟨hnd, htw, htb⟩ := A1.out
      have htr := U0.tabs htw htb
      have htn : ((totFs (n :: r) : Nat) : Int) = ((1 + n.path.length + totN n.value) : Nat) + ((totFs r : Nat) : Int) := by simp [totNs, totIs, totCs, totWs, totFs] <;> omega
      rw [htn] at hks
      have hkK : k + ((1 + n.path.length + totN n.value) : Nat) ≤ 4611686018427387904 := by have := A2.out; omega
      have hz1 : wrap64 ((p.length : Int) + 1) = (p.length : Int) + 1 := wrap_1 (by omega) (by unfold MX at hMX; omega)
      have ht1 : Tabs wr := htr
      obtain ⟨x3, bs4, c5, hd6, hn7, hi8, ret9⟩ := D0.subA hlen hnd (j := 0) (o := p.length * 7) (by simp [esz]) (by decide) (v := .ps .str n.path) rfl
      have M2 : Calls Tryd.prog 16 #[x3, .int .i64 (k)] wr fun e w' => e = .returned (.int .i64 (k + ((n.path.length : Nat) : Int))) ∧ Deep w' x3 (.ps .str (mkS n.path (k))) bs4 ∧ Upd wr w' bs4 := by exact kmarkStringS n.path (k) wr x3 bs4 hd6 hn7 ht1 (fun c hc => htb c (List.mem_cons_of_mem _ (hi8 c hc))) (by omega) (by simp only [totN_eq] at hkK; omega)
      have Zhlen : Aside _ := hlen
      have Zhnd : Aside _ := hnd
      have Zhk : Aside _ := hk
      have Zhks : Aside _ := hks
      have Zhmk : Aside _ := hmk
      have Zhbd : Aside _ := hbd
      have ZhMX : Aside _ := hMX
      have Zhtw : Aside _ := htw
      have Zhtb : Aside _ := htb
      have Zhtr : Aside _ := htr
      have Zhtn : Aside _ := htn
      have ZhkK : Aside _ := hkK
      have Zhz1 : Aside _ := hz1
      have ZU0 : Aside _ := U0
      have ZD0 : Aside _ := D0
      have Zht1 : Aside _ := ht1
      have Zhd6 : Aside _ := hd6
      have Zhn7 : Aside _ := hn7
      have Zhi8 : Aside _ := hi8
      have Zret9 : Aside _ := ret9
      clear ret9 hi8 hn7 hd6 ht1 D0 U0 hz1 hkK htn htr htb htw hMX hbd hmk hks hk hnd hlen
      go_wp2_with (go_at_call 16; refine M2.mono ?_)
      first | (intro e w10 hq hd12 V11; subst hq) | (rintro e w10 ⟨rfl, hd12, V11⟩)
      have hlen := Zhlen.out
      have hnd := Zhnd.out
      have hk := Zhk.out
      have hks := Zhks.out
      have hmk := Zhmk.out
      have hbd := Zhbd.out
      have hMX := ZhMX.out
      have htw := Zhtw.out
      have htb := Zhtb.out
      have htr := Zhtr.out
      have htn := Zhtn.out
      have hkK := ZhkK.out
      have hz1 := Zhz1.out
      have U0 := ZU0.out
      have D0 := ZD0.out
      have ht1 := Zht1.out
      have hd6 := Zhd6.out
      have hn7 := Zhn7.out
      have hi8 := Zhi8.out
      have ret9 := Zret9.out
      clear Zhlen Zhnd Zhk Zhks Zhmk Zhbd ZhMX Zhtw Zhtb Zhtr Zhtn ZhkK Zhz1 ZU0 ZD0 Zht1 Zhd6 Zhn7 Zhi8 Zret9
      clear M2 c5
      have U13 := V11.mono (bs' := b :: I) (fun c hc => List.mem_cons_of_mem _ (hi8 c hc))
      have D14 := ret9 _ _ ((⟨mkS n.path (k), n.test, ⟨n.value.kind, n.value.num, n.value.text, n.value.names, n.value.kids⟩⟩ : Flt)) hd12 V11 rfl
      replace hlen : (p ++ (⟨mkS n.path (k), n.test, ⟨n.value.kind, n.value.num, n.value.text, n.value.names, n.value.kids⟩⟩ : Flt) :: r).length = N := by simpa using hlen
      obtain ⟨⟨x17, c15⟩, f16⟩ := D14.cellA hlen (j := 1) (o := p.length * 7 + 1) (by simp [esz]) (by decide)
      obtain ⟨D18, U19⟩ := D14.setA hlen hnd (j := 1) (o := p.length * 7 + 1) (by simp [esz]) (by decide) (v := Value.int .i64 ((k + ((n.path.length : Nat) : Int)))) (u := .int .i64 ((k + ((n.path.length : Nat) : Int)))) (by exact .int _ _) trivial (y := (⟨mkS n.path (k), (k + ((n.path.length : Nat) : Int)), ⟨n.value.kind, n.value.num, n.value.text, n.value.names, n.value.kids⟩⟩ : Flt)) rfl
      replace hlen : (p ++ (⟨mkS n.path (k), (k + ((n.path.length : Nat) : Int)), ⟨n.value.kind, n.value.num, n.value.text, n.value.names, n.value.kids⟩⟩ : Flt) :: r).length = N := by simpa using hlen
      have e20 : wrap64 ((k + ((n.path.length : Nat) : Int)) + 1) = ((k + ((n.path.length : Nat) : Int)) + 1) := by exact wrap_1 (by omega) (by simp only [totN_eq] at hkK; omega)
      obtain ⟨⟨x23, c21⟩, f22⟩ := D18.cellA hlen (j := 2) (o := p.length * 7 + 2) (by simp [esz]) (by decide)
      obtain ⟨D24, U25⟩ := D18.setA hlen hnd (j := 2) (o := p.length * 7 + 2) (by simp [esz]) (by decide) (v := Value.int .i64 (wrap64 ((k + ((n.path.length : Nat) : Int)) + 1))) (u := .int .i64 (((k + ((n.path.length : Nat) : Int)) + 1))) (by rw [e20]; exact .int _ _) trivial (y := (⟨mkS n.path (k), (k + ((n.path.length : Nat) : Int)), ⟨((k + ((n.path.length : Nat) : Int)) + 1), n.value.num, n.value.text, n.value.names, n.value.kids⟩⟩ : Flt)) rfl
      replace hlen : (p ++ (⟨mkS n.path (k), (k + ((n.path.length : Nat) : Int)), ⟨((k + ((n.path.length : Nat) : Int)) + 1), n.value.num, n.value.text, n.value.names, n.value.kids⟩⟩ : Flt) :: r).length = N := by simpa using hlen
      have e26 : wrap64 (wrap64 ((k + ((n.path.length : Nat) : Int)) + 1) + 1) = (((k + ((n.path.length : Nat) : Int)) + 1) + 1) := by rw [e20]; exact wrap_1 (by omega) (by simp only [totN_eq] at hkK; omega)
      obtain ⟨⟨x29, c27⟩, f28⟩ := D24.cellA hlen (j := 3) (o := p.length * 7 + 3) (by simp [esz]) (by decide)
      obtain ⟨D30, U31⟩ := D24.setA hlen hnd (j := 3) (o := p.length * 7 + 3) (by simp [esz]) (by decide) (v := Value.int .i64 (wrap64 (wrap64 ((k + ((n.path.length : Nat) : Int)) + 1) + 1))) (u := .int .i64 ((((k + ((n.path.length : Nat) : Int)) + 1) + 1))) (by rw [e26]; exact .int _ _) trivial (y := (⟨mkS n.path (k), (k + ((n.path.length : Nat) : Int)), ⟨((k + ((n.path.length : Nat) : Int)) + 1), (((k + ((n.path.length : Nat) : Int)) + 1) + 1), n.value.text, n.value.names, n.value.kids⟩⟩ : Flt)) rfl
      replace hlen : (p ++ (⟨mkS n.path (k), (k + ((n.path.length : Nat) : Int)), ⟨((k + ((n.path.length : Nat) : Int)) + 1), (((k + ((n.path.length : Nat) : Int)) + 1) + 1), n.value.text, n.value.names, n.value.kids⟩⟩ : Flt) :: r).length = N := by simpa using hlen
      have e32 : wrap64 (wrap64 (wrap64 ((k + ((n.path.length : Nat) : Int)) + 1) + 1) + 1) = ((((k + ((n.path.length : Nat) : Int)) + 1) + 1) + 1) := by rw [e26]; exact wrap_1 (by omega) (by simp only [totN_eq] at hkK; omega)
      have ht33 : Tabs (((w10.setCell ⟨b, p.length * 7 + 1, none⟩ (Value.int .i64 ((k + ((n.path.length : Nat) : Int))))).setCell ⟨b, p.length * 7 + 2, none⟩ (Value.int .i64 (wrap64 ((k + ((n.path.length : Nat) : Int)) + 1)))).setCell ⟨b, p.length * 7 + 3, none⟩ (Value.int .i64 (wrap64 (wrap64 ((k + ((n.path.length : Nat) : Int)) + 1) + 1)))) := (((((U0).trans U13).trans U19).trans U25).trans U31).tabs htw htb
      have M34 : Calls Tryd.prog 32 #[.int .i64 (wrap64 (wrap64 (wrap64 ((k + ((n.path.length : Nat) : Int)) + 1) + 1) + 1))] (((w10.setCell ⟨b, p.length * 7 + 1, none⟩ (Value.int .i64 ((k + ((n.path.length : Nat) : Int))))).setCell ⟨b, p.length * 7 + 2, none⟩ (Value.int .i64 (wrap64 ((k + ((n.path.length : Nat) : Int)) + 1)))).setCell ⟨b, p.length * 7 + 3, none⟩ (Value.int .i64 (wrap64 (wrap64 ((k + ((n.path.length : Nat) : Int)) + 1) + 1)))) fun e w' => e = .returned (.string ⟨(mkT (((((k + ((n.path.length : Nat) : Int)) + 1) + 1) + 1))).toArray⟩) ∧ Upd (((w10.setCell ⟨b, p.length * 7 + 1, none⟩ (Value.int .i64 ((k + ((n.path.length : Nat) : Int))))).setCell ⟨b, p.length * 7 + 2, none⟩ (Value.int .i64 (wrap64 ((k + ((n.path.length : Nat) : Int)) + 1)))).setCell ⟨b, p.length * 7 + 3, none⟩ (Value.int .i64 (wrap64 (wrap64 ((k + ((n.path.length : Nat) : Int)) + 1) + 1)))) w' [] := by rw [e32]; exact kmarkText _ _ ht33 (by simp only [totN_eq] at hkK; omega)
      have Zhlen : Aside _ := hlen
      have Zhnd : Aside _ := hnd
      have Zhk : Aside _ := hk
      have Zhks : Aside _ := hks
      have Zhmk : Aside _ := hmk
      have Zhbd : Aside _ := hbd
      have ZhMX : Aside _ := hMX
      have Zhtw : Aside _ := htw
      have Zhtb : Aside _ := htb
      have Zhtr : Aside _ := htr
      have Zhtn : Aside _ := htn
      have ZhkK : Aside _ := hkK
      have Zhz1 : Aside _ := hz1
      have ZU0 : Aside _ := U0
      have ZD0 : Aside _ := D0
      have Zht1 : Aside _ := ht1
      have Zhd6 : Aside _ := hd6
      have Zhn7 : Aside _ := hn7
      have Zhi8 : Aside _ := hi8
      have Zret9 : Aside _ := ret9
      have Zhd12 : Aside _ := hd12
      have ZV11 : Aside _ := V11
      have ZU13 : Aside _ := U13
      have ZD14 : Aside _ := D14
      have ZD18 : Aside _ := D18
      have ZU19 : Aside _ := U19
      have Ze20 : Aside _ := e20
      have ZD24 : Aside _ := D24
      have ZU25 : Aside _ := U25
      have Ze26 : Aside _ := e26
      have ZD30 : Aside _ := D30
      have ZU31 : Aside _ := U31
      have Ze32 : Aside _ := e32
      have Zht33 : Aside _ := ht33
      clear ht33 e32 U31 D30 e26 U25 D24 e20 U19 D18 D14 U13 V11 hd12 ret9 hi8 hn7 hd6 ht1 D0 U0 hz1 hkK htn htr htb htw hMX hbd hmk hks hk hnd hlen
      go_wp2_with (go_at_call 32; refine M34.mono ?_)
      first | (intro e w35 hq V36; subst hq) | (rintro e w35 ⟨rfl, V36⟩)
      have hlen := Zhlen.out
      have hnd := Zhnd.out
      have hk := Zhk.out
      have hks := Zhks.out
      have hmk := Zhmk.out
      have hbd := Zhbd.out
      have hMX := ZhMX.out
      have htw := Zhtw.out
      have htb := Zhtb.out
      have htr := Zhtr.out
      have htn := Zhtn.out
      have hkK := ZhkK.out
      have hz1 := Zhz1.out
      have U0 := ZU0.out
      have D0 := ZD0.out
      have ht1 := Zht1.out
      have hd6 := Zhd6.out
      have hn7 := Zhn7.out
      have hi8 := Zhi8.out
      have ret9 := Zret9.out
      have hd12 := Zhd12.out
      have V11 := ZV11.out
      have U13 := ZU13.out
      have D14 := ZD14.out
      have D18 := ZD18.out
      have U19 := ZU19.out
      have e20 := Ze20.out
      have D24 := ZD24.out
      have U25 := ZU25.out
      have e26 := Ze26.out
      have D30 := ZD30.out
      have U31 := ZU31.out
      have e32 := Ze32.out
      have ht33 := Zht33.out
      clear Zhlen Zhnd Zhk Zhks Zhmk Zhbd ZhMX Zhtw Zhtb Zhtr Zhtn ZhkK Zhz1 ZU0 ZD0 Zht1 Zhd6 Zhn7 Zhi8 Zret9 Zhd12 ZV11 ZU13 ZD14 ZD18 ZU19 Ze20 ZD24 ZU25 Ze26 ZD30 ZU31 Ze32 Zht33
      clear M34 f28 c27 f22 c21 f16 c15
      have U37 := V36.mono (bs' := b :: I) (by simp)
      have D38 := D30.same V36
      obtain ⟨⟨x41, c39⟩, f40⟩ := D38.cellA hlen (j := 4) (o := p.length * 7 + 4) (by simp [esz]) (by decide)
      obtain ⟨D42, U43⟩ := D38.setA hlen hnd (j := 4) (o := p.length * 7 + 4) (by simp [esz]) (by decide) (v := Value.string ⟨(mkT (((((k + ((n.path.length : Nat) : Int)) + 1) + 1) + 1))).toArray⟩) (u := .str (mkT (((((k + ((n.path.length : Nat) : Int)) + 1) + 1) + 1)))) (.str _ (Nat.le_trans (mkT_len (by simp only [totN_eq] at hkK; omega)) (by unfold MX; omega))) trivial (y := (⟨mkS n.path (k), (k + ((n.path.length : Nat) : Int)), ⟨((k + ((n.path.length : Nat) : Int)) + 1), (((k + ((n.path.length : Nat) : Int)) + 1) + 1), mkT (((((k + ((n.path.length : Nat) : Int)) + 1) + 1) + 1)), n.value.names, n.value.kids⟩⟩ : Flt)) rfl
      replace hlen : (p ++ (⟨mkS n.path (k), (k + ((n.path.length : Nat) : Int)), ⟨((k + ((n.path.length : Nat) : Int)) + 1), (((k + ((n.path.length : Nat) : Int)) + 1) + 1), mkT (((((k + ((n.path.length : Nat) : Int)) + 1) + 1) + 1)), n.value.names, n.value.kids⟩⟩ : Flt) :: r).length = N := by simpa using hlen
      have e44 : wrap64 (wrap64 (wrap64 (wrap64 ((k + ((n.path.length : Nat) : Int)) + 1) + 1) + 1) + 1) = (((((k + ((n.path.length : Nat) : Int)) + 1) + 1) + 1) + 1) := by rw [e32]; exact wrap_1 (by omega) (by simp only [totN_eq] at hkK; omega)
      have ht45 : Tabs (w35.setCell ⟨b, p.length * 7 + 4, none⟩ (Value.string ⟨(mkT (((((k + ((n.path.length : Nat) : Int)) + 1) + 1) + 1))).toArray⟩)) := (((((((U0).trans U13).trans U19).trans U25).trans U31).trans U37).trans U43).tabs htw htb
      obtain ⟨x47, bs48, c49, hd50, hn51, hi52, ret53⟩ := D42.subA hlen hnd (j := 5) (o := p.length * 7 + 5) (by simp [esz]) (by decide) (v := .ps .str n.value.names) rfl
      have M46 : Calls Tryd.prog 16 #[x47, .int .i64 (wrap64 (wrap64 (wrap64 (wrap64 ((k + ((n.path.length : Nat) : Int)) + 1) + 1) + 1) + 1))] (w35.setCell ⟨b, p.length * 7 + 4, none⟩ (Value.string ⟨(mkT (((((k + ((n.path.length : Nat) : Int)) + 1) + 1) + 1))).toArray⟩)) fun e w' => e = .returned (.int .i64 ((((((k + ((n.path.length : Nat) : Int)) + 1) + 1) + 1) + 1) + ((n.value.names.length : Nat) : Int))) ∧ Deep w' x47 (.ps .str (mkS n.value.names ((((((k + ((n.path.length : Nat) : Int)) + 1) + 1) + 1) + 1)))) bs48 ∧ Upd (w35.setCell ⟨b, p.length * 7 + 4, none⟩ (Value.string ⟨(mkT (((((k + ((n.path.length : Nat) : Int)) + 1) + 1) + 1))).toArray⟩)) w' bs48 := by rw [e44]; exact kmarkStringS n.value.names ((((((k + ((n.path.length : Nat) : Int)) + 1) + 1) + 1) + 1)) (w35.setCell ⟨b, p.length * 7 + 4, none⟩ (Value.string ⟨(mkT (((((k + ((n.path.length : Nat) : Int)) + 1) + 1) + 1))).toArray⟩)) x47 bs48 hd50 hn51 ht45 (fun c hc => htb c (List.mem_cons_of_mem _ (hi52 c hc))) (by omega) (by simp only [totN_eq] at hkK; omega)
      have Zhlen : Aside _ := hlen
      have Zhnd : Aside _ := hnd
      have Zhk : Aside _ := hk
      have Zhks : Aside _ := hks
      have Zhmk : Aside _ := hmk
      have Zhbd : Aside _ := hbd
      have ZhMX : Aside _ := hMX
      have Zhtw : Aside _ := htw
      have Zhtb : Aside _ := htb
      have Zhtr : Aside _ := htr
      have Zhtn : Aside _ := htn
      have ZhkK : Aside _ := hkK
      have Zhz1 : Aside _ := hz1
      have ZU0 : Aside _ := U0
      have ZD0 : Aside _ := D0
      have Zht1 : Aside _ := ht1
      have Zhd6 : Aside _ := hd6
      have Zhn7 : Aside _ := hn7
      have Zhi8 : Aside _ := hi8
      have Zret9 : Aside _ := ret9
      have Zhd12 : Aside _ := hd12
      have ZV11 : Aside _ := V11
      have ZU13 : Aside _ := U13
      have ZD14 : Aside _ := D14
      have ZD18 : Aside _ := D18
      have ZU19 : Aside _ := U19
      have Ze20 : Aside _ := e20
      have ZD24 : Aside _ := D24
      have ZU25 : Aside _ := U25
      have Ze26 : Aside _ := e26
      have ZD30 : Aside _ := D30
      have ZU31 : Aside _ := U31
      have Ze32 : Aside _ := e32
      have Zht33 : Aside _ := ht33
      have ZV36 : Aside _ := V36
      have ZU37 : Aside _ := U37
      have ZD38 : Aside _ := D38
      have ZD42 : Aside _ := D42
      have ZU43 : Aside _ := U43
      have Ze44 : Aside _ := e44
      have Zht45 : Aside _ := ht45
      have Zhd50 : Aside _ := hd50
      have Zhn51 : Aside _ := hn51
      have Zhi52 : Aside _ := hi52
      have Zret53 : Aside _ := ret53
      clear ret53 hi52 hn51 hd50 ht45 e44 U43 D42 D38 U37 V36 ht33 e32 U31 D30 e26 U25 D24 e20 U19 D18 D14 U13 V11 hd12 ret9 hi8 hn7 hd6 ht1 D0 U0 hz1 hkK htn htr htb htw hMX hbd hmk hks hk hnd hlen
      go_wp2_with (go_at_call 16; refine M46.mono ?_)
      first | (intro e w54 hq hd56 V55; subst hq) | (rintro e w54 ⟨rfl, hd56, V55⟩)
      have hlen := Zhlen.out
      have hnd := Zhnd.out
      have hk := Zhk.out
      have hks := Zhks.out
      have hmk := Zhmk.out
      have hbd := Zhbd.out
      have hMX := ZhMX.out
      have htw := Zhtw.out
      have htb := Zhtb.out
      have htr := Zhtr.out
      have htn := Zhtn.out
      have hkK := ZhkK.out
      have hz1 := Zhz1.out
      have U0 := ZU0.out
      have D0 := ZD0.out
      have ht1 := Zht1.out
      have hd6 := Zhd6.out
      have hn7 := Zhn7.out
      have hi8 := Zhi8.out
      have ret9 := Zret9.out
      have hd12 := Zhd12.out
      have V11 := ZV11.out
      have U13 := ZU13.out
      have D14 := ZD14.out
      have D18 := ZD18.out
      have U19 := ZU19.out
      have e20 := Ze20.out
      have D24 := ZD24.out
      have U25 := ZU25.out
      have e26 := Ze26.out
      have D30 := ZD30.out
      have U31 := ZU31.out
      have e32 := Ze32.out
      have ht33 := Zht33.out
      have V36 := ZV36.out
      have U37 := ZU37.out
      have D38 := ZD38.out
      have D42 := ZD42.out
      have U43 := ZU43.out
      have e44 := Ze44.out
      have ht45 := Zht45.out
      have hd50 := Zhd50.out
      have hn51 := Zhn51.out
      have hi52 := Zhi52.out
      have ret53 := Zret53.out
      clear Zhlen Zhnd Zhk Zhks Zhmk Zhbd ZhMX Zhtw Zhtb Zhtr Zhtn ZhkK Zhz1 ZU0 ZD0 Zht1 Zhd6 Zhn7 Zhi8 Zret9 Zhd12 ZV11 ZU13 ZD14 ZD18 ZU19 Ze20 ZD24 ZU25 Ze26 ZD30 ZU31 Ze32 Zht33 ZV36 ZU37 ZD38 ZD42 ZU43 Ze44 Zht45 Zhd50 Zhn51 Zhi52 Zret53
      clear M46 c49 f40 c39
      have U57 := V55.mono (bs' := b :: I) (fun c hc => List.mem_cons_of_mem _ (hi52 c hc))
      have D58 := ret53 _ _ ((⟨mkS n.path (k), (k + ((n.path.length : Nat) : Int)), ⟨((k + ((n.path.length : Nat) : Int)) + 1), (((k + ((n.path.length : Nat) : Int)) + 1) + 1), mkT (((((k + ((n.path.length : Nat) : Int)) + 1) + 1) + 1)), mkS n.value.names ((((((k + ((n.path.length : Nat) : Int)) + 1) + 1) + 1) + 1)), n.value.kids⟩⟩ : Flt)) hd56 V55 rfl
      replace hlen : (p ++ (⟨mkS n.path (k), (k + ((n.path.length : Nat) : Int)), ⟨((k + ((n.path.length : Nat) : Int)) + 1), (((k + ((n.path.length : Nat) : Int)) + 1) + 1), mkT (((((k + ((n.path.length : Nat) : Int)) + 1) + 1) + 1)), mkS n.value.names ((((((k + ((n.path.length : Nat) : Int)) + 1) + 1) + 1) + 1)), n.value.kids⟩⟩ : Flt) :: r).length = N := by simpa using hlen
      have ht59 : Tabs w54 := ((((((((U0).trans U13).trans U19).trans U25).trans U31).trans U37).trans U43).trans U57).tabs htw htb
      obtain ⟨x61, bs62, c63, hd64, hn65, hi66, ret67⟩ := D58.subA hlen hnd (j := 6) (o := p.length * 7 + 6) (by simp [esz]) (by decide) (v := .ps .node n.value.kids) rfl
      have M60 : Calls Tryd.prog 33 #[x61, .int .i64 (((((((k + ((n.path.length : Nat) : Int)) + 1) + 1) + 1) + 1) + ((n.value.names.length : Nat) : Int)))] w54 fun e w' => e = .returned (.int .i64 (((((((k + ((n.path.length : Nat) : Int)) + 1) + 1) + 1) + 1) + ((n.value.names.length : Nat) : Int)) + ((totNs n.value.kids : Nat) : Int))) ∧ Deep w' x61 (.ps .node (mkNs n.value.kids (((((((k + ((n.path.length : Nat) : Int)) + 1) + 1) + 1) + 1) + ((n.value.names.length : Nat) : Int))))) bs62 ∧ Upd w54 w' bs62 := by exact kmarkNodeS n.value.kids (((((((k + ((n.path.length : Nat) : Int)) + 1) + 1) + 1) + 1) + ((n.value.names.length : Nat) : Int))) w54 x61 bs62 hd64 hn65 ht59 (fun c hc => htb c (List.mem_cons_of_mem _ (hi66 c hc))) (by omega) (by simp only [totN_eq] at hkK; omega)
      have Zhlen : Aside _ := hlen
      have Zhnd : Aside _ := hnd
      have Zhk : Aside _ := hk
      have Zhks : Aside _ := hks
      have Zhmk : Aside _ := hmk
      have Zhbd : Aside _ := hbd
      have ZhMX : Aside _ := hMX
      have Zhtw : Aside _ := htw
      have Zhtb : Aside _ := htb
      have Zhtr : Aside _ := htr
      have Zhtn : Aside _ := htn
      have ZhkK : Aside _ := hkK
      have Zhz1 : Aside _ := hz1
      have ZU0 : Aside _ := U0
      have ZD0 : Aside _ := D0
      have Zht1 : Aside _ := ht1
      have Zhd6 : Aside _ := hd6
      have Zhn7 : Aside _ := hn7
      have Zhi8 : Aside _ := hi8
      have Zret9 : Aside _ := ret9
      have Zhd12 : Aside _ := hd12
      have ZV11 : Aside _ := V11
      have ZU13 : Aside _ := U13
      have ZD14 : Aside _ := D14
      have ZD18 : Aside _ := D18
      have ZU19 : Aside _ := U19
      have Ze20 : Aside _ := e20
      have ZD24 : Aside _ := D24
      have ZU25 : Aside _ := U25
      have Ze26 : Aside _ := e26
      have ZD30 : Aside _ := D30
      have ZU31 : Aside _ := U31
      have Ze32 : Aside _ := e32
      have Zht33 : Aside _ := ht33
      have ZV36 : Aside _ := V36
      have ZU37 : Aside _ := U37
      have ZD38 : Aside _ := D38
      have ZD42 : Aside _ := D42
      have ZU43 : Aside _ := U43
      have Ze44 : Aside _ := e44
      have Zht45 : Aside _ := ht45
      have Zhd50 : Aside _ := hd50
      have Zhn51 : Aside _ := hn51
      have Zhi52 : Aside _ := hi52
      have Zret53 : Aside _ := ret53
      have Zhd56 : Aside _ := hd56
      have ZV55 : Aside _ := V55
      have ZU57 : Aside _ := U57
      have ZD58 : Aside _ := D58
      have Zht59 : Aside _ := ht59
      have Zhd64 : Aside _ := hd64
      have Zhn65 : Aside _ := hn65
      have Zhi66 : Aside _ := hi66
      have Zret67 : Aside _ := ret67
      clear ret67 hi66 hn65 hd64 ht59 D58 U57 V55 hd56 ret53 hi52 hn51 hd50 ht45 e44 U43 D42 D38 U37 V36 ht33 e32 U31 D30 e26 U25 D24 e20 U19 D18 D14 U13 V11 hd12 ret9 hi8 hn7 hd6 ht1 D0 U0 hz1 hkK htn htr htb htw hMX hbd hmk hks hk hnd hlen
      go_wp2_with (go_at_call 33; refine M60.mono ?_)
      first | (intro e w68 hq hd70 V69; subst hq) | (rintro e w68 ⟨rfl, hd70, V69⟩)
      have hlen := Zhlen.out
      have hnd := Zhnd.out
      have hk := Zhk.out
      have hks := Zhks.out
      have hmk := Zhmk.out
      have hbd := Zhbd.out
      have hMX := ZhMX.out
      have htw := Zhtw.out
      have htb := Zhtb.out
      have htr := Zhtr.out
      have htn := Zhtn.out
      have hkK := ZhkK.out
      have hz1 := Zhz1.out
      have U0 := ZU0.out
      have D0 := ZD0.out
      have ht1 := Zht1.out
      have hd6 := Zhd6.out
      have hn7 := Zhn7.out
      have hi8 := Zhi8.out
      have ret9 := Zret9.out
      have hd12 := Zhd12.out
      have V11 := ZV11.out
      have U13 := ZU13.out
      have D14 := ZD14.out
      have D18 := ZD18.out
      have U19 := ZU19.out
      have e20 := Ze20.out
      have D24 := ZD24.out
      have U25 := ZU25.out
      have e26 := Ze26.out
      have D30 := ZD30.out
      have U31 := ZU31.out
      have e32 := Ze32.out
      have ht33 := Zht33.out
      have V36 := ZV36.out
      have U37 := ZU37.out
      have D38 := ZD38.out
      have D42 := ZD42.out
      have U43 := ZU43.out
      have e44 := Ze44.out
      have ht45 := Zht45.out
      have hd50 := Zhd50.out
      have hn51 := Zhn51.out
      have hi52 := Zhi52.out
      have ret53 := Zret53.out
      have hd56 := Zhd56.out
      have V55 := ZV55.out
      have U57 := ZU57.out
      have D58 := ZD58.out
      have ht59 := Zht59.out
      have hd64 := Zhd64.out
      have hn65 := Zhn65.out
      have hi66 := Zhi66.out
      have ret67 := Zret67.out
      clear Zhlen Zhnd Zhk Zhks Zhmk Zhbd ZhMX Zhtw Zhtb Zhtr Zhtn ZhkK Zhz1 ZU0 ZD0 Zht1 Zhd6 Zhn7 Zhi8 Zret9 Zhd12 ZV11 ZU13 ZD14 ZD18 ZU19 Ze20 ZD24 ZU25 Ze26 ZD30 ZU31 Ze32 Zht33 ZV36 ZU37 ZD38 ZD42 ZU43 Ze44 Zht45 Zhd50 Zhn51 Zhi52 Zret53 Zhd56 ZV55 ZU57 ZD58 Zht59 Zhd64 Zhn65 Zhi66 Zret67
      clear M60 c63
      have U71 := V69.mono (bs' := b :: I) (fun c hc => List.mem_cons_of_mem _ (hi66 c hc))
      have D72 := ret67 _ _ ((⟨mkS n.path (k), (k + ((n.path.length : Nat) : Int)), ⟨((k + ((n.path.length : Nat) : Int)) + 1), (((k + ((n.path.length : Nat) : Int)) + 1) + 1), mkT (((((k + ((n.path.length : Nat) : Int)) + 1) + 1) + 1)), mkS n.value.names ((((((k + ((n.path.length : Nat) : Int)) + 1) + 1) + 1) + 1)), mkNs n.value.kids (((((((k + ((n.path.length : Nat) : Int)) + 1) + 1) + 1) + 1) + ((n.value.names.length : Nat) : Int)))⟩⟩ : Flt)) hd70 V69 rfl
      replace hlen : (p ++ (⟨mkS n.path (k), (k + ((n.path.length : Nat) : Int)), ⟨((k + ((n.path.length : Nat) : Int)) + 1), (((k + ((n.path.length : Nat) : Int)) + 1) + 1), mkT (((((k + ((n.path.length : Nat) : Int)) + 1) + 1) + 1)), mkS n.value.names ((((((k + ((n.path.length : Nat) : Int)) + 1) + 1) + 1) + 1)), mkNs n.value.kids (((((((k + ((n.path.length : Nat) : Int)) + 1) + 1) + 1) + 1) + ((n.value.names.length : Nat) : Int)))⟩⟩ : Flt) :: r).length = N := by simpa using hlen
      have Zhlen : Aside _ := hlen
      have Zhnd : Aside _ := hnd
      have Zhk : Aside _ := hk
      have Zhks : Aside _ := hks
      have Zhmk : Aside _ := hmk
      have Zhbd : Aside _ := hbd
      have ZhMX : Aside _ := hMX
      have Zhtw : Aside _ := htw
      have Zhtb : Aside _ := htb
      have Zhtr : Aside _ := htr
      have Zhtn : Aside _ := htn
      have ZhkK : Aside _ := hkK
      have Zhz1 : Aside _ := hz1
      have ZU0 : Aside _ := U0
      have ZD0 : Aside _ := D0
      have Zht1 : Aside _ := ht1
      have Zhd6 : Aside _ := hd6
      have Zhn7 : Aside _ := hn7
      have Zhi8 : Aside _ := hi8
      have Zret9 : Aside _ := ret9
      have Zhd12 : Aside _ := hd12
      have ZV11 : Aside _ := V11
      have ZU13 : Aside _ := U13
      have ZD14 : Aside _ := D14
      have ZD18 : Aside _ := D18
      have ZU19 : Aside _ := U19
      have Ze20 : Aside _ := e20
      have ZD24 : Aside _ := D24
      have ZU25 : Aside _ := U25
      have Ze26 : Aside _ := e26
      have ZD30 : Aside _ := D30
      have ZU31 : Aside _ := U31
      have Ze32 : Aside _ := e32
      have Zht33 : Aside _ := ht33
      have ZV36 : Aside _ := V36
      have ZU37 : Aside _ := U37
      have ZD38 : Aside _ := D38
      have ZD42 : Aside _ := D42
      have ZU43 : Aside _ := U43
      have Ze44 : Aside _ := e44
      have Zht45 : Aside _ := ht45
      have Zhd50 : Aside _ := hd50
      have Zhn51 : Aside _ := hn51
      have Zhi52 : Aside _ := hi52
      have Zret53 : Aside _ := ret53
      have Zhd56 : Aside _ := hd56
      have ZV55 : Aside _ := V55
      have ZU57 : Aside _ := U57
      have ZD58 : Aside _ := D58
      have Zht59 : Aside _ := ht59
      have Zhd64 : Aside _ := hd64
      have Zhn65 : Aside _ := hn65
      have Zhi66 : Aside _ := hi66
      have Zret67 : Aside _ := ret67
      have Zhd70 : Aside _ := hd70
      have ZV69 : Aside _ := V69
      have ZU71 : Aside _ := U71
      have ZD72 : Aside _ := D72
      clear D72 U71 V69 hd70 ret67 hi66 hn65 hd64 ht59 D58 U57 V55 hd56 ret53 hi52 hn51 hd50 ht45 e44 U43 D42 D38 U37 V36 ht33 e32 U31 D30 e26 U25 D24 e20 U19 D18 D14 U13 V11 hd12 ret9 hi8 hn7 hd6 ht1 D0 U0 hz1 hkK htn htr htb htw hMX hbd hmk hks hk hnd hlen
      go_wp2
      go_roundg r.length
      case measure => subst hg; simp
      case rel =>
        have hlen := Zhlen.out
        have hnd := Zhnd.out
        have hk := Zhk.out
        have hks := Zhks.out
        have hmk := Zhmk.out
        have hbd := Zhbd.out
        have hMX := ZhMX.out
        have htw := Zhtw.out
        have htb := Zhtb.out
        have htr := Zhtr.out
        have htn := Zhtn.out
        have hkK := ZhkK.out
        have hz1 := Zhz1.out
        have U0 := ZU0.out
        have D0 := ZD0.out
        have ht1 := Zht1.out
        have hd6 := Zhd6.out
        have hn7 := Zhn7.out
        have hi8 := Zhi8.out
        have ret9 := Zret9.out
        have hd12 := Zhd12.out
        have V11 := ZV11.out
        have U13 := ZU13.out
        have D14 := ZD14.out
        have D18 := ZD18.out
        have U19 := ZU19.out
        have e20 := Ze20.out
        have D24 := ZD24.out
        have U25 := ZU25.out
        have e26 := Ze26.out
        have D30 := ZD30.out
        have U31 := ZU31.out
        have e32 := Ze32.out
        have ht33 := Zht33.out
        have V36 := ZV36.out
        have U37 := ZU37.out
        have D38 := ZD38.out
        have D42 := ZD42.out
        have U43 := ZU43.out
        have e44 := Ze44.out
        have ht45 := Zht45.out
        have hd50 := Zhd50.out
        have hn51 := Zhn51.out
        have hi52 := Zhi52.out
        have ret53 := Zret53.out
        have hd56 := Zhd56.out
        have V55 := ZV55.out
        have U57 := ZU57.out
        have D58 := ZD58.out
        have ht59 := Zht59.out
        have hd64 := Zhd64.out
        have hn65 := Zhn65.out
        have hi66 := Zhi66.out
        have ret67 := Zret67.out
        have hd70 := Zhd70.out
        have V69 := ZV69.out
        have U71 := ZU71.out
        have D72 := ZD72.out
        clear Zhlen Zhnd Zhk Zhks Zhmk Zhbd ZhMX Zhtw Zhtb Zhtr Zhtn ZhkK Zhz1 ZU0 ZD0 Zht1 Zhd6 Zhn7 Zhi8 Zret9 Zhd12 ZV11 ZU13 ZD14 ZD18 ZU19 Ze20 ZD24 ZU25 Ze26 ZD30 ZU31 Ze32 Zht33 ZV36 ZU37 ZD38 ZD42 ZU43 Ze44 Zht45 Zhd50 Zhn51 Zhi52 Zret53 Zhd56 ZV55 ZU57 ZD58 Zht59 Zhd64 Zhn65 Zhi66 Zret67 Zhd70 ZV69 ZU71 ZD72
        have hy : p ++ mkFs (n :: r) k = (p ++ [(⟨mkS n.path (k), (k + ((n.path.length : Nat) : Int)), ⟨((k + ((n.path.length : Nat) : Int)) + 1), (((k + ((n.path.length : Nat) : Int)) + 1) + 1), mkT (((((k + ((n.path.length : Nat) : Int)) + 1) + 1) + 1)), mkS n.value.names ((((((k + ((n.path.length : Nat) : Int)) + 1) + 1) + 1) + 1)), mkNs n.value.kids (((((((k + ((n.path.length : Nat) : Int)) + 1) + 1) + 1) + 1) + ((n.value.names.length : Nat) : Int)))⟩⟩ : Flt)]) ++ mkFs r ((((((((k + ((n.path.length : Nat) : Int)) + 1) + 1) + 1) + 1) + ((n.value.names.length : Nat) : Int)) + ((totNs n.value.kids : Nat) : Int))) := by simp [mkFs, mkN_eq, totN_eq, Int.add_assoc] <;> (first | omega | (congr 1 <;> omega) | (constructor <;> (first | omega | (congr 1 <;> omega))))
        exact ⟨p ++ [(⟨mkS n.path (k), (k + ((n.path.length : Nat) : Int)), ⟨((k + ((n.path.length : Nat) : Int)) + 1), (((k + ((n.path.length : Nat) : Int)) + 1) + 1), mkT (((((k + ((n.path.length : Nat) : Int)) + 1) + 1) + 1)), mkS n.value.names ((((((k + ((n.path.length : Nat) : Int)) + 1) + 1) + 1) + 1)), mkNs n.value.kids (((((((k + ((n.path.length : Nat) : Int)) + 1) + 1) + 1) + 1) + ((n.value.names.length : Nat) : Int)))⟩⟩ : Flt)], r, (((((((k + ((n.path.length : Nat) : Int)) + 1) + 1) + 1) + 1) + ((n.value.names.length : Nat) : Int)) + ((totNs n.value.kids : Nat) : Int)), rfl, rfl, by rw [hz1]; simp, ⟨by simpa using D72, ((((((((U0).trans U13).trans U19).trans U25).trans U31).trans U37).trans U43).trans U57).trans U71⟩, by simpa using hlen, by omega, by simp only [totN_eq] at hks; omega, by rw [← hy]; exact hmk⟩
end Go.Rs

