import Derived.Test.YtmgheiagnleeiaaMJ
import Derived.Test.YtmgheiagnleeiaaKN
import Derived.Deep.LoopGhost
set_option linter.all false
set_option linter.unusedSimpArgs false
set_option linter.unusedVariables false
namespace Go.Rs
open Go.Proofs Go.RowKit
set_option maxRecDepth 100000

set_option maxHeartbeats 8000000 in
theorem kmarkOpS (l : List Opn) (k0 : Int) (w : World) (x : Value) (bs : List Nat) (hd : Deep w x (.ps .opn l) bs) (hn : bs.Nodup) (ht : Tabs w) (htb : ∀ c ∈ bs, isTab c = false) (h0 : 0 ≤ k0) (hb : k0 + ((totOs l : Nat) : Int) ≤ 4611686018427387904) : Calls Try.prog 24 #[x, .int .i64 k0] w fun e w' => e = .returned (.int .i64 (k0 + ((totOs l : Nat) : Int))) ∧ Deep w' x (.ps .opn (mkOs l k0)) bs ∧ Upd w w' bs := by
  rcases hd.inv_ps with ⟨rfl, rfl, a, cap, rfl⟩ | ⟨b, cap, xs, T, bss, h0', rfl, hM, hc, hb', hl, h1, hr, rfl⟩
  · go_enter Try.func24, Try.ntmps24
    go_wp2
    go_loopg [1, 5] 1 (fun g vk vi wr => vk = .int .i64 k0 ∧ vi = .int .i64 0 ∧ wr = w)
    case atStart => exact ⟨rfl, rfl, rfl⟩
    obtain ⟨rfl, rfl, rfl⟩ := hrel
    go_wp2
    go_ret
    exact ⟨by simp [totNs, totIs, totCs, totWs, totFs, totOs, totRs], by rw [show mkOs ([] : List Opn) k0 = [] from by simp [mkOs]]; exact .nil .opn a cap, .refl _ _⟩
  · generalize hN : l.length = N at *
    have A0 : Aside (k0 + ((totOs l : Nat) : Int) ≤ 4611686018427387904 ∧ N ≤ MX) := ⟨hb, hM⟩
    have A1 : Aside ((b :: inn (N * esz .opn) bss).Nodup ∧ Tabs w ∧ ∀ c ∈ b :: inn (N * esz .opn) bss, isTab c = false) := ⟨hn, ht, htb⟩
    clear hb hb' hl h1 hr hM hc hn ht htb
    generalize inn (N * esz .opn) bss = I at *
    obtain ⟨K1, hK1⟩ : ∃ K1, K1 = k0 + ((totOs l : Nat) : Int) := ⟨_, rfl⟩
    rw [← hK1]
    have A2 : Aside (K1 = k0 + ((totOs l : Nat) : Int)) := hK1
    clear hK1
    go_enter Try.func24, Try.ntmps24
    go_wp2
    go_loopg [1, 5] N (fun g vk vi wr => ∃ (p r : List Opn) (k : Int), g = r.length ∧ vk = .int .i64 k ∧ vi = .int .i64 p.length ∧ Aside (Deep wr (.slice (some ⟨b, 0, none⟩) N cap) (.ps .opn (p ++ r)) (b :: I) ∧ Upd w wr (b :: I)) ∧ Aside ((p ++ r).length = N ∧ 0 ≤ k ∧ k + ((totOs r : Nat) : Int) = K1 ∧ p ++ mkOs r k = mkOs l k0))
    case atStart => exact ⟨[], l, k0, hN.symm, rfl, rfl, ⟨hd, .refl _ _⟩, hN, h0, A2.out.symm, rfl⟩
    obtain ⟨p, r, k, hg, rfl, rfl, H1, H2⟩ := hrel
    clear hd
    cases r with
    | nil =>
      have hlt : ¬ ((p.length : Int) < (N : Int)) := by have := H2.out.1; simp at this; omega
      go_wp2
      go_ret
      obtain ⟨H3, H4⟩ := H1.out
      obtain ⟨H5, H6, H7, H8⟩ := H2.out
      simp only [mkOs, List.append_nil] at H3 H8
      rw [H8] at H3
      have H7' : k = K1 := by simpa [totNs, totIs, totCs, totWs, totFs, totOs, totRs] using H7
      exact ⟨by simp [H7'], H3, H4⟩
    | cons n r =>
      have hlt : ((p.length : Int) < (N : Int)) := by have := H2.out.1; simp at this; omega
      obtain ⟨D0, U0⟩ := H1.out
      obtain ⟨hlen, hk, hks, hmk⟩ := H2.out
      obtain ⟨hbd, hMX⟩ := A0.out
      obtain ⟨hnd, htw, htb⟩ := A1.out
      have htr := U0.tabs htw htb
      have htn : ((totOs (n :: r) : Nat) : Int) = ((1 + n.path.length + n.frm.length + totN n.value) : Nat) + ((totOs r : Nat) : Int) := by simp [totNs, totIs, totCs, totWs, totFs, totOs, totRs] <;> omega
      rw [htn] at hks
      have hkK : k + ((1 + n.path.length + n.frm.length + totN n.value) : Nat) ≤ 4611686018427387904 := by have := A2.out; omega
      have hz1 : wrap64 ((p.length : Int) + 1) = (p.length : Int) + 1 := wrap_1 (by omega) (by unfold MX at hMX; omega)
      obtain ⟨⟨x3, c1⟩, f2⟩ := D0.cellA hlen (j := 0) (o := p.length * 8) (by simp [esz]) (by decide)
      obtain ⟨D4, U5⟩ := D0.setA hlen hnd (j := 0) (o := p.length * 8) (by simp [esz]) (by decide) (v := Value.int .i64 (k)) (u := .int .i64 (k)) (by exact .int _ _) trivial (y := (⟨k, n.path, n.frm, ⟨n.value.kind, n.value.num, n.value.text, n.value.names, n.value.kids⟩⟩ : Opn)) rfl
      replace hlen : (p ++ (⟨k, n.path, n.frm, ⟨n.value.kind, n.value.num, n.value.text, n.value.names, n.value.kids⟩⟩ : Opn) :: r).length = N := by simpa using hlen
      have e6 : wrap64 (k + 1) = (k + 1) := by exact wrap_1 (by omega) (by simp only [totN_eq] at hkK; omega)
      have ht7 : Tabs (wr.setCell ⟨b, p.length * 8, none⟩ (Value.int .i64 (k))) := ((U0).trans U5).tabs htw htb
      obtain ⟨x9, bs10, c11, hd12, hn13, hi14, ret15⟩ := D4.subA hlen hnd (j := 1) (o := p.length * 8 + 1) (by simp [esz]) (by decide) (v := .ps .str n.path) rfl
      have M8 : Calls Try.prog 11 #[x9, .int .i64 (wrap64 (k + 1))] (wr.setCell ⟨b, p.length * 8, none⟩ (Value.int .i64 (k))) fun e w' => e = .returned (.int .i64 ((k + 1) + ((n.path.length : Nat) : Int))) ∧ Deep w' x9 (.ps .str (mkS n.path ((k + 1)))) bs10 ∧ Upd (wr.setCell ⟨b, p.length * 8, none⟩ (Value.int .i64 (k))) w' bs10 := by rw [e6]; exact kmarkStringS n.path ((k + 1)) (wr.setCell ⟨b, p.length * 8, none⟩ (Value.int .i64 (k))) x9 bs10 hd12 hn13 ht7 (fun c hc => htb c (List.mem_cons_of_mem _ (hi14 c hc))) (by omega) (by simp only [totN_eq] at hkK; omega)
      have Zhlen : Aside _ := hlen
      have Zhnd : Aside _ := hnd
      have Zhk : Aside _ := hk
      have Zhks : Aside _ := hks
      have Zhmk : Aside _ := hmk
      have Zhbd : Aside _ := hbd
      have ZhMX : Aside _ := hMX
      have Zhtw : Aside _ := htw
      have Zhtb : Aside _ := htb
      have Zhtr : Aside _ := htr
      have Zhtn : Aside _ := htn
      have ZhkK : Aside _ := hkK
      have Zhz1 : Aside _ := hz1
      have ZU0 : Aside _ := U0
      have ZD0 : Aside _ := D0
      have ZD4 : Aside _ := D4
      have ZU5 : Aside _ := U5
      have Ze6 : Aside _ := e6
      have Zht7 : Aside _ := ht7
      have Zhd12 : Aside _ := hd12
      have Zhn13 : Aside _ := hn13
      have Zhi14 : Aside _ := hi14
      have Zret15 : Aside _ := ret15
      clear ret15 hi14 hn13 hd12 ht7 e6 U5 D4 D0 U0 hz1 hkK htn htr htb htw hMX hbd hmk hks hk hnd hlen
      go_wp2_with (go_at_call 11; refine M8.mono ?_)
      first | (intro e w16 hq hd18 V17; subst hq) | (rintro e w16 ⟨rfl, hd18, V17⟩)
      have hlen := Zhlen.out
      have hnd := Zhnd.out
      have hk := Zhk.out
      have hks := Zhks.out
      have hmk := Zhmk.out
      have hbd := Zhbd.out
      have hMX := ZhMX.out
      have htw := Zhtw.out
      have htb := Zhtb.out
      have htr := Zhtr.out
      have htn := Zhtn.out
      have hkK := ZhkK.out
      have hz1 := Zhz1.out
      have U0 := ZU0.out
      have D0 := ZD0.out
      have D4 := ZD4.out
      have U5 := ZU5.out
      have e6 := Ze6.out
      have ht7 := Zht7.out
      have hd12 := Zhd12.out
      have hn13 := Zhn13.out
      have hi14 := Zhi14.out
      have ret15 := Zret15.out
      clear Zhlen Zhnd Zhk Zhks Zhmk Zhbd ZhMX Zhtw Zhtb Zhtr Zhtn ZhkK Zhz1 ZU0 ZD0 ZD4 ZU5 Ze6 Zht7 Zhd12 Zhn13 Zhi14 Zret15
      clear M8 c11 f2 c1
      have U19 := V17.mono (bs' := b :: I) (fun c hc => List.mem_cons_of_mem _ (hi14 c hc))
      have D20 := ret15 _ _ ((⟨k, mkS n.path ((k + 1)), n.frm, ⟨n.value.kind, n.value.num, n.value.text, n.value.names, n.value.kids⟩⟩ : Opn)) hd18 V17 rfl
      replace hlen : (p ++ (⟨k, mkS n.path ((k + 1)), n.frm, ⟨n.value.kind, n.value.num, n.value.text, n.value.names, n.value.kids⟩⟩ : Opn) :: r).length = N := by simpa using hlen
      have ht21 : Tabs w16 := (((U0).trans U5).trans U19).tabs htw htb
      obtain ⟨x23, bs24, c25, hd26, hn27, hi28, ret29⟩ := D20.subA hlen hnd (j := 2) (o := p.length * 8 + 2) (by simp [esz]) (by decide) (v := .ps .str n.frm) rfl
      have M22 : Calls Try.prog 11 #[x23, .int .i64 (((k + 1) + ((n.path.length : Nat) : Int)))] w16 fun e w' => e = .returned (.int .i64 (((k + 1) + ((n.path.length : Nat) : Int)) + ((n.frm.length : Nat) : Int))) ∧ Deep w' x23 (.ps .str (mkS n.frm (((k + 1) + ((n.path.length : Nat) : Int))))) bs24 ∧ Upd w16 w' bs24 := by exact kmarkStringS n.frm (((k + 1) + ((n.path.length : Nat) : Int))) w16 x23 bs24 hd26 hn27 ht21 (fun c hc => htb c (List.mem_cons_of_mem _ (hi28 c hc))) (by omega) (by simp only [totN_eq] at hkK; omega)
      have Zhlen : Aside _ := hlen
      have Zhnd : Aside _ := hnd
      have Zhk : Aside _ := hk
      have Zhks : Aside _ := hks
      have Zhmk : Aside _ := hmk
      have Zhbd : Aside _ := hbd
      have ZhMX : Aside _ := hMX
      have Zhtw : Aside _ := htw
      have Zhtb : Aside _ := htb
      have Zhtr : Aside _ := htr
      have Zhtn : Aside _ := htn
      have ZhkK : Aside _ := hkK
      have Zhz1 : Aside _ := hz1
      have ZU0 : Aside _ := U0
      have ZD0 : Aside _ := D0
      have ZD4 : Aside _ := D4
      have ZU5 : Aside _ := U5
      have Ze6 : Aside _ := e6
      have Zht7 : Aside _ := ht7
      have Zhd12 : Aside _ := hd12
      have Zhn13 : Aside _ := hn13
      have Zhi14 : Aside _ := hi14
      have Zret15 : Aside _ := ret15
      have Zhd18 : Aside _ := hd18
      have ZV17 : Aside _ := V17
      have ZU19 : Aside _ := U19
      have ZD20 : Aside _ := D20
      have Zht21 : Aside _ := ht21
      have Zhd26 : Aside _ := hd26
      have Zhn27 : Aside _ := hn27
      have Zhi28 : Aside _ := hi28
      have Zret29 : Aside _ := ret29
      clear ret29 hi28 hn27 hd26 ht21 D20 U19 V17 hd18 ret15 hi14 hn13 hd12 ht7 e6 U5 D4 D0 U0 hz1 hkK htn htr htb htw hMX hbd hmk hks hk hnd hlen
      go_wp2_with (go_at_call 11; refine M22.mono ?_)
      first | (intro e w30 hq hd32 V31; subst hq) | (rintro e w30 ⟨rfl, hd32, V31⟩)
      have hlen := Zhlen.out
      have hnd := Zhnd.out
      have hk := Zhk.out
      have hks := Zhks.out
      have hmk := Zhmk.out
      have hbd := Zhbd.out
      have hMX := ZhMX.out
      have htw := Zhtw.out
      have htb := Zhtb.out
      have htr := Zhtr.out
      have htn := Zhtn.out
      have hkK := ZhkK.out
      have hz1 := Zhz1.out
      have U0 := ZU0.out
      have D0 := ZD0.out
      have D4 := ZD4.out
      have U5 := ZU5.out
      have e6 := Ze6.out
      have ht7 := Zht7.out
      have hd12 := Zhd12.out
      have hn13 := Zhn13.out
      have hi14 := Zhi14.out
      have ret15 := Zret15.out
      have hd18 := Zhd18.out
      have V17 := ZV17.out
      have U19 := ZU19.out
      have D20 := ZD20.out
      have ht21 := Zht21.out
      have hd26 := Zhd26.out
      have hn27 := Zhn27.out
      have hi28 := Zhi28.out
      have ret29 := Zret29.out
      clear Zhlen Zhnd Zhk Zhks Zhmk Zhbd ZhMX Zhtw Zhtb Zhtr Zhtn ZhkK Zhz1 ZU0 ZD0 ZD4 ZU5 Ze6 Zht7 Zhd12 Zhn13 Zhi14 Zret15 Zhd18 ZV17 ZU19 ZD20 Zht21 Zhd26 Zhn27 Zhi28 Zret29
      clear M22 c25
      have U33 := V31.mono (bs' := b :: I) (fun c hc => List.mem_cons_of_mem _ (hi28 c hc))
      have D34 := ret29 _ _ ((⟨k, mkS n.path ((k + 1)), mkS n.frm (((k + 1) + ((n.path.length : Nat) : Int))), ⟨n.value.kind, n.value.num, n.value.text, n.value.names, n.value.kids⟩⟩ : Opn)) hd32 V31 rfl
      replace hlen : (p ++ (⟨k, mkS n.path ((k + 1)), mkS n.frm (((k + 1) + ((n.path.length : Nat) : Int))), ⟨n.value.kind, n.value.num, n.value.text, n.value.names, n.value.kids⟩⟩ : Opn) :: r).length = N := by simpa using hlen
      obtain ⟨⟨x37, c35⟩, f36⟩ := D34.cellA hlen (j := 3) (o := p.length * 8 + 3) (by simp [esz]) (by decide)
      obtain ⟨D38, U39⟩ := D34.setA hlen hnd (j := 3) (o := p.length * 8 + 3) (by simp [esz]) (by decide) (v := Value.int .i64 ((((k + 1) + ((n.path.length : Nat) : Int)) + ((n.frm.length : Nat) : Int)))) (u := .int .i64 ((((k + 1) + ((n.path.length : Nat) : Int)) + ((n.frm.length : Nat) : Int)))) (by exact .int _ _) trivial (y := (⟨k, mkS n.path ((k + 1)), mkS n.frm (((k + 1) + ((n.path.length : Nat) : Int))), ⟨(((k + 1) + ((n.path.length : Nat) : Int)) + ((n.frm.length : Nat) : Int)), n.value.num, n.value.text, n.value.names, n.value.kids⟩⟩ : Opn)) rfl
      replace hlen : (p ++ (⟨k, mkS n.path ((k + 1)), mkS n.frm (((k + 1) + ((n.path.length : Nat) : Int))), ⟨(((k + 1) + ((n.path.length : Nat) : Int)) + ((n.frm.length : Nat) : Int)), n.value.num, n.value.text, n.value.names, n.value.kids⟩⟩ : Opn) :: r).length = N := by simpa using hlen
      have e40 : wrap64 ((((k + 1) + ((n.path.length : Nat) : Int)) + ((n.frm.length : Nat) : Int)) + 1) = ((((k + 1) + ((n.path.length : Nat) : Int)) + ((n.frm.length : Nat) : Int)) + 1) := by exact wrap_1 (by omega) (by simp only [totN_eq] at hkK; omega)
      obtain ⟨⟨x43, c41⟩, f42⟩ := D38.cellA hlen (j := 4) (o := p.length * 8 + 4) (by simp [esz]) (by decide)
      obtain ⟨D44, U45⟩ := D38.setA hlen hnd (j := 4) (o := p.length * 8 + 4) (by simp [esz]) (by decide) (v := Value.int .i64 (wrap64 ((((k + 1) + ((n.path.length : Nat) : Int)) + ((n.frm.length : Nat) : Int)) + 1))) (u := .int .i64 (((((k + 1) + ((n.path.length : Nat) : Int)) + ((n.frm.length : Nat) : Int)) + 1))) (by rw [e40]; exact .int _ _) trivial (y := (⟨k, mkS n.path ((k + 1)), mkS n.frm (((k + 1) + ((n.path.length : Nat) : Int))), ⟨(((k + 1) + ((n.path.length : Nat) : Int)) + ((n.frm.length : Nat) : Int)), ((((k + 1) + ((n.path.length : Nat) : Int)) + ((n.frm.length : Nat) : Int)) + 1), n.value.text, n.value.names, n.value.kids⟩⟩ : Opn)) rfl
      replace hlen : (p ++ (⟨k, mkS n.path ((k + 1)), mkS n.frm (((k + 1) + ((n.path.length : Nat) : Int))), ⟨(((k + 1) + ((n.path.length : Nat) : Int)) + ((n.frm.length : Nat) : Int)), ((((k + 1) + ((n.path.length : Nat) : Int)) + ((n.frm.length : Nat) : Int)) + 1), n.value.text, n.value.names, n.value.kids⟩⟩ : Opn) :: r).length = N := by simpa using hlen
      have e46 : wrap64 (wrap64 ((((k + 1) + ((n.path.length : Nat) : Int)) + ((n.frm.length : Nat) : Int)) + 1) + 1) = (((((k + 1) + ((n.path.length : Nat) : Int)) + ((n.frm.length : Nat) : Int)) + 1) + 1) := by rw [e40]; exact wrap_1 (by omega) (by simp only [totN_eq] at hkK; omega)
      have ht47 : Tabs ((w30.setCell ⟨b, p.length * 8 + 3, none⟩ (Value.int .i64 ((((k + 1) + ((n.path.length : Nat) : Int)) + ((n.frm.length : Nat) : Int))))).setCell ⟨b, p.length * 8 + 4, none⟩ (Value.int .i64 (wrap64 ((((k + 1) + ((n.path.length : Nat) : Int)) + ((n.frm.length : Nat) : Int)) + 1)))) := ((((((U0).trans U5).trans U19).trans U33).trans U39).trans U45).tabs htw htb
      have M48 : Calls Try.prog 22 #[.int .i64 (wrap64 (wrap64 ((((k + 1) + ((n.path.length : Nat) : Int)) + ((n.frm.length : Nat) : Int)) + 1) + 1))] ((w30.setCell ⟨b, p.length * 8 + 3, none⟩ (Value.int .i64 ((((k + 1) + ((n.path.length : Nat) : Int)) + ((n.frm.length : Nat) : Int))))).setCell ⟨b, p.length * 8 + 4, none⟩ (Value.int .i64 (wrap64 ((((k + 1) + ((n.path.length : Nat) : Int)) + ((n.frm.length : Nat) : Int)) + 1)))) fun e w' => e = .returned (.string ⟨(mkT ((((((k + 1) + ((n.path.length : Nat) : Int)) + ((n.frm.length : Nat) : Int)) + 1) + 1))).toArray⟩) ∧ Upd ((w30.setCell ⟨b, p.length * 8 + 3, none⟩ (Value.int .i64 ((((k + 1) + ((n.path.length : Nat) : Int)) + ((n.frm.length : Nat) : Int))))).setCell ⟨b, p.length * 8 + 4, none⟩ (Value.int .i64 (wrap64 ((((k + 1) + ((n.path.length : Nat) : Int)) + ((n.frm.length : Nat) : Int)) + 1)))) w' [] := by rw [e46]; exact kmarkText _ _ ht47 (by simp only [totN_eq] at hkK; omega)
      have Zhlen : Aside _ := hlen
      have Zhnd : Aside _ := hnd
      have Zhk : Aside _ := hk
      have Zhks : Aside _ := hks
      have Zhmk : Aside _ := hmk
      have Zhbd : Aside _ := hbd
      have ZhMX : Aside _ := hMX
      have Zhtw : Aside _ := htw
      have Zhtb : Aside _ := htb
      have Zhtr : Aside _ := htr
      have Zhtn : Aside _ := htn
      have ZhkK : Aside _ := hkK
      have Zhz1 : Aside _ := hz1
      have ZU0 : Aside _ := U0
      have ZD0 : Aside _ := D0
      have ZD4 : Aside _ := D4
      have ZU5 : Aside _ := U5
      have Ze6 : Aside _ := e6
      have Zht7 : Aside _ := ht7
      have Zhd12 : Aside _ := hd12
      have Zhn13 : Aside _ := hn13
      have Zhi14 : Aside _ := hi14
      have Zret15 : Aside _ := ret15
      have Zhd18 : Aside _ := hd18
      have ZV17 : Aside _ := V17
      have ZU19 : Aside _ := U19
      have ZD20 : Aside _ := D20
      have Zht21 : Aside _ := ht21
      have Zhd26 : Aside _ := hd26
      have Zhn27 : Aside _ := hn27
      have Zhi28 : Aside _ := hi28
      have Zret29 : Aside _ := ret29
      have Zhd32 : Aside _ := hd32
      have ZV31 : Aside _ := V31
      have ZU33 : Aside _ := U33
      have ZD34 : Aside _ := D34
      have ZD38 : Aside _ := D38
      have ZU39 : Aside _ := U39
      have Ze40 : Aside _ := e40
      have ZD44 : Aside _ := D44
      have ZU45 : Aside _ := U45
      have Ze46 : Aside _ := e46
      have Zht47 : Aside _ := ht47
      clear ht47 e46 U45 D44 e40 U39 D38 D34 U33 V31 hd32 ret29 hi28 hn27 hd26 ht21 D20 U19 V17 hd18 ret15 hi14 hn13 hd12 ht7 e6 U5 D4 D0 U0 hz1 hkK htn htr htb htw hMX hbd hmk hks hk hnd hlen
      go_wp2_with (go_at_call 22; refine M48.mono ?_)
      first | (intro e w49 hq V50; subst hq) | (rintro e w49 ⟨rfl, V50⟩)
      have hlen := Zhlen.out
      have hnd := Zhnd.out
      have hk := Zhk.out
      have hks := Zhks.out
      have hmk := Zhmk.out
      have hbd := Zhbd.out
      have hMX := ZhMX.out
      have htw := Zhtw.out
      have htb := Zhtb.out
      have htr := Zhtr.out
      have htn := Zhtn.out
      have hkK := ZhkK.out
      have hz1 := Zhz1.out
      have U0 := ZU0.out
      have D0 := ZD0.out
      have D4 := ZD4.out
      have U5 := ZU5.out
      have e6 := Ze6.out
      have ht7 := Zht7.out
      have hd12 := Zhd12.out
      have hn13 := Zhn13.out
      have hi14 := Zhi14.out
      have ret15 := Zret15.out
      have hd18 := Zhd18.out
      have V17 := ZV17.out
      have U19 := ZU19.out
      have D20 := ZD20.out
      have ht21 := Zht21.out
      have hd26 := Zhd26.out
      have hn27 := Zhn27.out
      have hi28 := Zhi28.out
      have ret29 := Zret29.out
      have hd32 := Zhd32.out
      have V31 := ZV31.out
      have U33 := ZU33.out
      have D34 := ZD34.out
      have D38 := ZD38.out
      have U39 := ZU39.out
      have e40 := Ze40.out
      have D44 := ZD44.out
      have U45 := ZU45.out
      have e46 := Ze46.out
      have ht47 := Zht47.out
      clear Zhlen Zhnd Zhk Zhks Zhmk Zhbd ZhMX Zhtw Zhtb Zhtr Zhtn ZhkK Zhz1 ZU0 ZD0 ZD4 ZU5 Ze6 Zht7 Zhd12 Zhn13 Zhi14 Zret15 Zhd18 ZV17 ZU19 ZD20 Zht21 Zhd26 Zhn27 Zhi28 Zret29 Zhd32 ZV31 ZU33 ZD34 ZD38 ZU39 Ze40 ZD44 ZU45 Ze46 Zht47
      clear M48 f42 c41 f36 c35
      have U51 := V50.mono (bs' := b :: I) (by simp)
      have D52 := D44.same V50
      obtain ⟨⟨x55, c53⟩, f54⟩ := D52.cellA hlen (j := 5) (o := p.length * 8 + 5) (by simp [esz]) (by decide)
      obtain ⟨D56, U57⟩ := D52.setA hlen hnd (j := 5) (o := p.length * 8 + 5) (by simp [esz]) (by decide) (v := Value.string ⟨(mkT ((((((k + 1) + ((n.path.length : Nat) : Int)) + ((n.frm.length : Nat) : Int)) + 1) + 1))).toArray⟩) (u := .str (mkT ((((((k + 1) + ((n.path.length : Nat) : Int)) + ((n.frm.length : Nat) : Int)) + 1) + 1)))) (.str _ (Nat.le_trans (mkT_len (by simp only [totN_eq] at hkK; omega)) (by unfold MX; omega))) trivial (y := (⟨k, mkS n.path ((k + 1)), mkS n.frm (((k + 1) + ((n.path.length : Nat) : Int))), ⟨(((k + 1) + ((n.path.length : Nat) : Int)) + ((n.frm.length : Nat) : Int)), ((((k + 1) + ((n.path.length : Nat) : Int)) + ((n.frm.length : Nat) : Int)) + 1), mkT ((((((k + 1) + ((n.path.length : Nat) : Int)) + ((n.frm.length : Nat) : Int)) + 1) + 1)), n.value.names, n.value.kids⟩⟩ : Opn)) rfl
      replace hlen : (p ++ (⟨k, mkS n.path ((k + 1)), mkS n.frm (((k + 1) + ((n.path.length : Nat) : Int))), ⟨(((k + 1) + ((n.path.length : Nat) : Int)) + ((n.frm.length : Nat) : Int)), ((((k + 1) + ((n.path.length : Nat) : Int)) + ((n.frm.length : Nat) : Int)) + 1), mkT ((((((k + 1) + ((n.path.length : Nat) : Int)) + ((n.frm.length : Nat) : Int)) + 1) + 1)), n.value.names, n.value.kids⟩⟩ : Opn) :: r).length = N := by simpa using hlen
      have e58 : wrap64 (wrap64 (wrap64 ((((k + 1) + ((n.path.length : Nat) : Int)) + ((n.frm.length : Nat) : Int)) + 1) + 1) + 1) = ((((((k + 1) + ((n.path.length : Nat) : Int)) + ((n.frm.length : Nat) : Int)) + 1) + 1) + 1) := by rw [e46]; exact wrap_1 (by omega) (by simp only [totN_eq] at hkK; omega)
      have ht59 : Tabs (w49.setCell ⟨b, p.length * 8 + 5, none⟩ (Value.string ⟨(mkT ((((((k + 1) + ((n.path.length : Nat) : Int)) + ((n.frm.length : Nat) : Int)) + 1) + 1))).toArray⟩)) := ((((((((U0).trans U5).trans U19).trans U33).trans U39).trans U45).trans U51).trans U57).tabs htw htb
      obtain ⟨x61, bs62, c63, hd64, hn65, hi66, ret67⟩ := D56.subA hlen hnd (j := 6) (o := p.length * 8 + 6) (by simp [esz]) (by decide) (v := .ps .str n.value.names) rfl
      have M60 : Calls Try.prog 11 #[x61, .int .i64 (wrap64 (wrap64 (wrap64 ((((k + 1) + ((n.path.length : Nat) : Int)) + ((n.frm.length : Nat) : Int)) + 1) + 1) + 1))] (w49.setCell ⟨b, p.length * 8 + 5, none⟩ (Value.string ⟨(mkT ((((((k + 1) + ((n.path.length : Nat) : Int)) + ((n.frm.length : Nat) : Int)) + 1) + 1))).toArray⟩)) fun e w' => e = .returned (.int .i64 (((((((k + 1) + ((n.path.length : Nat) : Int)) + ((n.frm.length : Nat) : Int)) + 1) + 1) + 1) + ((n.value.names.length : Nat) : Int))) ∧ Deep w' x61 (.ps .str (mkS n.value.names (((((((k + 1) + ((n.path.length : Nat) : Int)) + ((n.frm.length : Nat) : Int)) + 1) + 1) + 1)))) bs62 ∧ Upd (w49.setCell ⟨b, p.length * 8 + 5, none⟩ (Value.string ⟨(mkT ((((((k + 1) + ((n.path.length : Nat) : Int)) + ((n.frm.length : Nat) : Int)) + 1) + 1))).toArray⟩)) w' bs62 := by rw [e58]; exact kmarkStringS n.value.names (((((((k + 1) + ((n.path.length : Nat) : Int)) + ((n.frm.length : Nat) : Int)) + 1) + 1) + 1)) (w49.setCell ⟨b, p.length * 8 + 5, none⟩ (Value.string ⟨(mkT ((((((k + 1) + ((n.path.length : Nat) : Int)) + ((n.frm.length : Nat) : Int)) + 1) + 1))).toArray⟩)) x61 bs62 hd64 hn65 ht59 (fun c hc => htb c (List.mem_cons_of_mem _ (hi66 c hc))) (by omega) (by simp only [totN_eq] at hkK; omega)
      have Zhlen : Aside _ := hlen
      have Zhnd : Aside _ := hnd
      have Zhk : Aside _ := hk
      have Zhks : Aside _ := hks
      have Zhmk : Aside _ := hmk
      have Zhbd : Aside _ := hbd
      have ZhMX : Aside _ := hMX
      have Zhtw : Aside _ := htw
      have Zhtb : Aside _ := htb
      have Zhtr : Aside _ := htr
      have Zhtn : Aside _ := htn
      have ZhkK : Aside _ := hkK
      have Zhz1 : Aside _ := hz1
      have ZU0 : Aside _ := U0
      have ZD0 : Aside _ := D0
      have ZD4 : Aside _ := D4
      have ZU5 : Aside _ := U5
      have Ze6 : Aside _ := e6
      have Zht7 : Aside _ := ht7
      have Zhd12 : Aside _ := hd12
      have Zhn13 : Aside _ := hn13
      have Zhi14 : Aside _ := hi14
      have Zret15 : Aside _ := ret15
      have Zhd18 : Aside _ := hd18
      have ZV17 : Aside _ := V17
      have ZU19 : Aside _ := U19
      have ZD20 : Aside _ := D20
      have Zht21 : Aside _ := ht21
      have Zhd26 : Aside _ := hd26
      have Zhn27 : Aside _ := hn27
      have Zhi28 : Aside _ := hi28
      have Zret29 : Aside _ := ret29
      have Zhd32 : Aside _ := hd32
      have ZV31 : Aside _ := V31
      have ZU33 : Aside _ := U33
      have ZD34 : Aside _ := D34
      have ZD38 : Aside _ := D38
      have ZU39 : Aside _ := U39
      have Ze40 : Aside _ := e40
      have ZD44 : Aside _ := D44
      have ZU45 : Aside _ := U45
      have Ze46 : Aside _ := e46
      have Zht47 : Aside _ := ht47
      have ZV50 : Aside _ := V50
      have ZU51 : Aside _ := U51
      have ZD52 : Aside _ := D52
      have ZD56 : Aside _ := D56
      have ZU57 : Aside _ := U57
      have Ze58 : Aside _ := e58
      have Zht59 : Aside _ := ht59
      have Zhd64 : Aside _ := hd64
      have Zhn65 : Aside _ := hn65
      have Zhi66 : Aside _ := hi66
      have Zret67 : Aside _ := ret67
      clear ret67 hi66 hn65 hd64 ht59 e58 U57 D56 D52 U51 V50 ht47 e46 U45 D44 e40 U39 D38 D34 U33 V31 hd32 ret29 hi28 hn27 hd26 ht21 D20 U19 V17 hd18 ret15 hi14 hn13 hd12 ht7 e6 U5 D4 D0 U0 hz1 hkK htn htr htb htw hMX hbd hmk hks hk hnd hlen
      go_wp2_with (go_at_call 11; refine M60.mono ?_)
      first | (intro e w68 hq hd70 V69; subst hq) | (rintro e w68 ⟨rfl, hd70, V69⟩)
      have hlen := Zhlen.out
      have hnd := Zhnd.out
      have hk := Zhk.out
      have hks := Zhks.out
      have hmk := Zhmk.out
      have hbd := Zhbd.out
      have hMX := ZhMX.out
      have htw := Zhtw.out
      have htb := Zhtb.out
      have htr := Zhtr.out
      have htn := Zhtn.out
      have hkK := ZhkK.out
      have hz1 := Zhz1.out
      have U0 := ZU0.out
      have D0 := ZD0.out
      have D4 := ZD4.out
      have U5 := ZU5.out
      have e6 := Ze6.out
      have ht7 := Zht7.out
      have hd12 := Zhd12.out
      have hn13 := Zhn13.out
      have hi14 := Zhi14.out
      have ret15 := Zret15.out
      have hd18 := Zhd18.out
      have V17 := ZV17.out
      have U19 := ZU19.out
      have D20 := ZD20.out
      have ht21 := Zht21.out
      have hd26 := Zhd26.out
      have hn27 := Zhn27.out
      have hi28 := Zhi28.out
      have ret29 := Zret29.out
      have hd32 := Zhd32.out
      have V31 := ZV31.out
      have U33 := ZU33.out
      have D34 := ZD34.out
      have D38 := ZD38.out
      have U39 := ZU39.out
      have e40 := Ze40.out
      have D44 := ZD44.out
      have U45 := ZU45.out
      have e46 := Ze46.out
      have ht47 := Zht47.out
      have V50 := ZV50.out
      have U51 := ZU51.out
      have D52 := ZD52.out
      have D56 := ZD56.out
      have U57 := ZU57.out
      have e58 := Ze58.out
      have ht59 := Zht59.out
      have hd64 := Zhd64.out
      have hn65 := Zhn65.out
      have hi66 := Zhi66.out
      have ret67 := Zret67.out
      clear Zhlen Zhnd Zhk Zhks Zhmk Zhbd ZhMX Zhtw Zhtb Zhtr Zhtn ZhkK Zhz1 ZU0 ZD0 ZD4 ZU5 Ze6 Zht7 Zhd12 Zhn13 Zhi14 Zret15 Zhd18 ZV17 ZU19 ZD20 Zht21 Zhd26 Zhn27 Zhi28 Zret29 Zhd32 ZV31 ZU33 ZD34 ZD38 ZU39 Ze40 ZD44 ZU45 Ze46 Zht47 ZV50 ZU51 ZD52 ZD56 ZU57 Ze58 Zht59 Zhd64 Zhn65 Zhi66 Zret67
      clear M60 c63 f54 c53
      have U71 := V69.mono (bs' := b :: I) (fun c hc => List.mem_cons_of_mem _ (hi66 c hc))
      have D72 := ret67 _ _ ((⟨k, mkS n.path ((k + 1)), mkS n.frm (((k + 1) + ((n.path.length : Nat) : Int))), ⟨(((k + 1) + ((n.path.length : Nat) : Int)) + ((n.frm.length : Nat) : Int)), ((((k + 1) + ((n.path.length : Nat) : Int)) + ((n.frm.length : Nat) : Int)) + 1), mkT ((((((k + 1) + ((n.path.length : Nat) : Int)) + ((n.frm.length : Nat) : Int)) + 1) + 1)), mkS n.value.names (((((((k + 1) + ((n.path.length : Nat) : Int)) + ((n.frm.length : Nat) : Int)) + 1) + 1) + 1)), n.value.kids⟩⟩ : Opn)) hd70 V69 rfl
      replace hlen : (p ++ (⟨k, mkS n.path ((k + 1)), mkS n.frm (((k + 1) + ((n.path.length : Nat) : Int))), ⟨(((k + 1) + ((n.path.length : Nat) : Int)) + ((n.frm.length : Nat) : Int)), ((((k + 1) + ((n.path.length : Nat) : Int)) + ((n.frm.length : Nat) : Int)) + 1), mkT ((((((k + 1) + ((n.path.length : Nat) : Int)) + ((n.frm.length : Nat) : Int)) + 1) + 1)), mkS n.value.names (((((((k + 1) + ((n.path.length : Nat) : Int)) + ((n.frm.length : Nat) : Int)) + 1) + 1) + 1)), n.value.kids⟩⟩ : Opn) :: r).length = N := by simpa using hlen
      have ht73 : Tabs w68 := (((((((((U0).trans U5).trans U19).trans U33).trans U39).trans U45).trans U51).trans U57).trans U71).tabs htw htb
      obtain ⟨x75, bs76, c77, hd78, hn79, hi80, ret81⟩ := D72.subA hlen hnd (j := 7) (o := p.length * 8 + 7) (by simp [esz]) (by decide) (v := .ps .node n.value.kids) rfl
      have M74 : Calls Try.prog 23 #[x75, .int .i64 ((((((((k + 1) + ((n.path.length : Nat) : Int)) + ((n.frm.length : Nat) : Int)) + 1) + 1) + 1) + ((n.value.names.length : Nat) : Int)))] w68 fun e w' => e = .returned (.int .i64 ((((((((k + 1) + ((n.path.length : Nat) : Int)) + ((n.frm.length : Nat) : Int)) + 1) + 1) + 1) + ((n.value.names.length : Nat) : Int)) + ((totNs n.value.kids : Nat) : Int))) ∧ Deep w' x75 (.ps .node (mkNs n.value.kids ((((((((k + 1) + ((n.path.length : Nat) : Int)) + ((n.frm.length : Nat) : Int)) + 1) + 1) + 1) + ((n.value.names.length : Nat) : Int))))) bs76 ∧ Upd w68 w' bs76 := by exact kmarkNodeS n.value.kids ((((((((k + 1) + ((n.path.length : Nat) : Int)) + ((n.frm.length : Nat) : Int)) + 1) + 1) + 1) + ((n.value.names.length : Nat) : Int))) w68 x75 bs76 hd78 hn79 ht73 (fun c hc => htb c (List.mem_cons_of_mem _ (hi80 c hc))) (by omega) (by simp only [totN_eq] at hkK; omega)
      have Zhlen : Aside _ := hlen
      have Zhnd : Aside _ := hnd
      have Zhk : Aside _ := hk
      have Zhks : Aside _ := hks
      have Zhmk : Aside _ := hmk
      have Zhbd : Aside _ := hbd
      have ZhMX : Aside _ := hMX
      have Zhtw : Aside _ := htw
      have Zhtb : Aside _ := htb
      have Zhtr : Aside _ := htr
      have Zhtn : Aside _ := htn
      have ZhkK : Aside _ := hkK
      have Zhz1 : Aside _ := hz1
      have ZU0 : Aside _ := U0
      have ZD0 : Aside _ := D0
      have ZD4 : Aside _ := D4
      have ZU5 : Aside _ := U5
      have Ze6 : Aside _ := e6
      have Zht7 : Aside _ := ht7
      have Zhd12 : Aside _ := hd12
      have Zhn13 : Aside _ := hn13
      have Zhi14 : Aside _ := hi14
      have Zret15 : Aside _ := ret15
      have Zhd18 : Aside _ := hd18
      have ZV17 : Aside _ := V17
      have ZU19 : Aside _ := U19
      have ZD20 : Aside _ := D20
      have Zht21 : Aside _ := ht21
      have Zhd26 : Aside _ := hd26
      have Zhn27 : Aside _ := hn27
      have Zhi28 : Aside _ := hi28
      have Zret29 : Aside _ := ret29
      have Zhd32 : Aside _ := hd32
      have ZV31 : Aside _ := V31
      have ZU33 : Aside _ := U33
      have ZD34 : Aside _ := D34
      have ZD38 : Aside _ := D38
      have ZU39 : Aside _ := U39
      have Ze40 : Aside _ := e40
      have ZD44 : Aside _ := D44
      have ZU45 : Aside _ := U45
      have Ze46 : Aside _ := e46
      have Zht47 : Aside _ := ht47
      have ZV50 : Aside _ := V50
      have ZU51 : Aside _ := U51
      have ZD52 : Aside _ := D52
      have ZD56 : Aside _ := D56
      have ZU57 : Aside _ := U57
      have Ze58 : Aside _ := e58
      have Zht59 : Aside _ := ht59
      have Zhd64 : Aside _ := hd64
      have Zhn65 : Aside _ := hn65
      have Zhi66 : Aside _ := hi66
      have Zret67 : Aside _ := ret67
      have Zhd70 : Aside _ := hd70
      have ZV69 : Aside _ := V69
      have ZU71 : Aside _ := U71
      have ZD72 : Aside _ := D72
      have Zht73 : Aside _ := ht73
      have Zhd78 : Aside _ := hd78
      have Zhn79 : Aside _ := hn79
      have Zhi80 : Aside _ := hi80
      have Zret81 : Aside _ := ret81
      clear ret81 hi80 hn79 hd78 ht73 D72 U71 V69 hd70 ret67 hi66 hn65 hd64 ht59 e58 U57 D56 D52 U51 V50 ht47 e46 U45 D44 e40 U39 D38 D34 U33 V31 hd32 ret29 hi28 hn27 hd26 ht21 D20 U19 V17 hd18 ret15 hi14 hn13 hd12 ht7 e6 U5 D4 D0 U0 hz1 hkK htn htr htb htw hMX hbd hmk hks hk hnd hlen
      go_wp2_with (go_at_call 23; refine M74.mono ?_)
      first | (intro e w82 hq hd84 V83; subst hq) | (rintro e w82 ⟨rfl, hd84, V83⟩)
      have hlen := Zhlen.out
      have hnd := Zhnd.out
      have hk := Zhk.out
      have hks := Zhks.out
      have hmk := Zhmk.out
      have hbd := Zhbd.out
      have hMX := ZhMX.out
      have htw := Zhtw.out
      have htb := Zhtb.out
      have htr := Zhtr.out
      have htn := Zhtn.out
      have hkK := ZhkK.out
      have hz1 := Zhz1.out
      have U0 := ZU0.out
      have D0 := ZD0.out
      have D4 := ZD4.out
      have U5 := ZU5.out
      have e6 := Ze6.out
      have ht7 := Zht7.out
      have hd12 := Zhd12.out
      have hn13 := Zhn13.out
      have hi14 := Zhi14.out
      have ret15 := Zret15.out
      have hd18 := Zhd18.out
      have V17 := ZV17.out
      have U19 := ZU19.out
      have D20 := ZD20.out
      have ht21 := Zht21.out
      have hd26 := Zhd26.out
      have hn27 := Zhn27.out
      have hi28 := Zhi28.out
      have ret29 := Zret29.out
      have hd32 := Zhd32.out
      have V31 := ZV31.out
      have U33 := ZU33.out
      have D34 := ZD34.out
      have D38 := ZD38.out
      have U39 := ZU39.out
      have e40 := Ze40.out
      have D44 := ZD44.out
      have U45 := ZU45.out
      have e46 := Ze46.out
      have ht47 := Zht47.out
      have V50 := ZV50.out
      have U51 := ZU51.out
      have D52 := ZD52.out
      have D56 := ZD56.out
      have U57 := ZU57.out
      have e58 := Ze58.out
      have ht59 := Zht59.out
      have hd64 := Zhd64.out
      have hn65 := Zhn65.out
      have hi66 := Zhi66.out
      have ret67 := Zret67.out
      have hd70 := Zhd70.out
      have V69 := ZV69.out
      have U71 := ZU71.out
      have D72 := ZD72.out
      have ht73 := Zht73.out
      have hd78 := Zhd78.out
      have hn79 := Zhn79.out
      have hi80 := Zhi80.out
      have ret81 := Zret81.out
      clear Zhlen Zhnd Zhk Zhks Zhmk Zhbd ZhMX Zhtw Zhtb Zhtr Zhtn ZhkK Zhz1 ZU0 ZD0 ZD4 ZU5 Ze6 Zht7 Zhd12 Zhn13 Zhi14 Zret15 Zhd18 ZV17 ZU19 ZD20 Zht21 Zhd26 Zhn27 Zhi28 Zret29 Zhd32 ZV31 ZU33 ZD34 ZD38 ZU39 Ze40 ZD44 ZU45 Ze46 Zht47 ZV50 ZU51 ZD52 ZD56 ZU57 Ze58 Zht59 Zhd64 Zhn65 Zhi66 Zret67 Zhd70 ZV69 ZU71 ZD72 Zht73 Zhd78 Zhn79 Zhi80 Zret81
      clear M74 c77
      have U85 := V83.mono (bs' := b :: I) (fun c hc => List.mem_cons_of_mem _ (hi80 c hc))
      have D86 := ret81 _ _ ((⟨k, mkS n.path ((k + 1)), mkS n.frm (((k + 1) + ((n.path.length : Nat) : Int))), ⟨(((k + 1) + ((n.path.length : Nat) : Int)) + ((n.frm.length : Nat) : Int)), ((((k + 1) + ((n.path.length : Nat) : Int)) + ((n.frm.length : Nat) : Int)) + 1), mkT ((((((k + 1) + ((n.path.length : Nat) : Int)) + ((n.frm.length : Nat) : Int)) + 1) + 1)), mkS n.value.names (((((((k + 1) + ((n.path.length : Nat) : Int)) + ((n.frm.length : Nat) : Int)) + 1) + 1) + 1)), mkNs n.value.kids ((((((((k + 1) + ((n.path.length : Nat) : Int)) + ((n.frm.length : Nat) : Int)) + 1) + 1) + 1) + ((n.value.names.length : Nat) : Int)))⟩⟩ : Opn)) hd84 V83 rfl
      replace hlen : (p ++ (⟨k, mkS n.path ((k + 1)), mkS n.frm (((k + 1) + ((n.path.length : Nat) : Int))), ⟨(((k + 1) + ((n.path.length : Nat) : Int)) + ((n.frm.length : Nat) : Int)), ((((k + 1) + ((n.path.length : Nat) : Int)) + ((n.frm.length : Nat) : Int)) + 1), mkT ((((((k + 1) + ((n.path.length : Nat) : Int)) + ((n.frm.length : Nat) : Int)) + 1) + 1)), mkS n.value.names (((((((k + 1) + ((n.path.length : Nat) : Int)) + ((n.frm.length : Nat) : Int)) + 1) + 1) + 1)), mkNs n.value.kids ((((((((k + 1) + ((n.path.length : Nat) : Int)) + ((n.frm.length : Nat) : Int)) + 1) + 1) + 1) + ((n.value.names.length : Nat) : Int)))⟩⟩ : Opn) :: r).length = N := by simpa using hlen
      have Zhlen : Aside _ := hlen
      have Zhnd : Aside _ := hnd
      have Zhk : Aside _ := hk
      have Zhks : Aside _ := hks
      have Zhmk : Aside _ := hmk
      have Zhbd : Aside _ := hbd
      have ZhMX : Aside _ := hMX
      have Zhtw : Aside _ := htw
      have Zhtb : Aside _ := htb
      have Zhtr : Aside _ := htr
      have Zhtn : Aside _ := htn
      have ZhkK : Aside _ := hkK
      have Zhz1 : Aside _ := hz1
      have ZU0 : Aside _ := U0
      have ZD0 : Aside _ := D0
      have ZD4 : Aside _ := D4
      have ZU5 : Aside _ := U5
      have Ze6 : Aside _ := e6
      have Zht7 : Aside _ := ht7
      have Zhd12 : Aside _ := hd12
      have Zhn13 : Aside _ := hn13
      have Zhi14 : Aside _ := hi14
      have Zret15 : Aside _ := ret15
      have Zhd18 : Aside _ := hd18
      have ZV17 : Aside _ := V17
      have ZU19 : Aside _ := U19
      have ZD20 : Aside _ := D20
      have Zht21 : Aside _ := ht21
      have Zhd26 : Aside _ := hd26
      have Zhn27 : Aside _ := hn27
      have Zhi28 : Aside _ := hi28
      have Zret29 : Aside _ := ret29
      have Zhd32 : Aside _ := hd32
      have ZV31 : Aside _ := V31
      have ZU33 : Aside _ := U33
      have ZD34 : Aside _ := D34
      have ZD38 : Aside _ := D38
      have ZU39 : Aside _ := U39
      have Ze40 : Aside _ := e40
      have ZD44 : Aside _ := D44
      have ZU45 : Aside _ := U45
      have Ze46 : Aside _ := e46
      have Zht47 : Aside _ := ht47
      have ZV50 : Aside _ := V50
      have ZU51 : Aside _ := U51
      have ZD52 : Aside _ := D52
      have ZD56 : Aside _ := D56
      have ZU57 : Aside _ := U57
      have Ze58 : Aside _ := e58
      have Zht59 : Aside _ := ht59
      have Zhd64 : Aside _ := hd64
      have Zhn65 : Aside _ := hn65
      have Zhi66 : Aside _ := hi66
      have Zret67 : Aside _ := ret67
      have Zhd70 : Aside _ := hd70
      have ZV69 : Aside _ := V69
      have ZU71 : Aside _ := U71
      have ZD72 : Aside _ := D72
      have Zht73 : Aside _ := ht73
      have Zhd78 : Aside _ := hd78
      have Zhn79 : Aside _ := hn79
      have Zhi80 : Aside _ := hi80
      have Zret81 : Aside _ := ret81
      have Zhd84 : Aside _ := hd84
      have ZV83 : Aside _ := V83
      have ZU85 : Aside _ := U85
      have ZD86 : Aside _ := D86
      clear D86 U85 V83 hd84 ret81 hi80 hn79 hd78 ht73 D72 U71 V69 hd70 ret67 hi66 hn65 hd64 ht59 e58 U57 D56 D52 U51 V50 ht47 e46 U45 D44 e40 U39 D38 D34 U33 V31 hd32 ret29 hi28 hn27 hd26 ht21 D20 U19 V17 hd18 ret15 hi14 hn13 hd12 ht7 e6 U5 D4 D0 U0 hz1 hkK htn htr htb htw hMX hbd hmk hks hk hnd hlen
      go_wp2
      go_roundg r.length
      case measure => subst hg; simp
      case rel =>
        have hlen := Zhlen.out
        have hnd := Zhnd.out
        have hk := Zhk.out
        have hks := Zhks.out
        have hmk := Zhmk.out
        have hbd := Zhbd.out
        have hMX := ZhMX.out
        have htw := Zhtw.out
        have htb := Zhtb.out
        have htr := Zhtr.out
        have htn := Zhtn.out
        have hkK := ZhkK.out
        have hz1 := Zhz1.out
        have U0 := ZU0.out
        have D0 := ZD0.out
        have D4 := ZD4.out
        have U5 := ZU5.out
        have e6 := Ze6.out
        have ht7 := Zht7.out
        have hd12 := Zhd12.out
        have hn13 := Zhn13.out
        have hi14 := Zhi14.out
        have ret15 := Zret15.out
        have hd18 := Zhd18.out
        have V17 := ZV17.out
        have U19 := ZU19.out
        have D20 := ZD20.out
        have ht21 := Zht21.out
        have hd26 := Zhd26.out
        have hn27 := Zhn27.out
        have hi28 := Zhi28.out
        have ret29 := Zret29.out
        have hd32 := Zhd32.out
        have V31 := ZV31.out
        have U33 := ZU33.out
        have D34 := ZD34.out
        have D38 := ZD38.out
        have U39 := ZU39.out
        have e40 := Ze40.out
        have D44 := ZD44.out
        have U45 := ZU45.out
        have e46 := Ze46.out
        have ht47 := Zht47.out
        have V50 := ZV50.out
        have U51 := ZU51.out
        have D52 := ZD52.out
        have D56 := ZD56.out
        have U57 := ZU57.out
        have e58 := Ze58.out
        have ht59 := Zht59.out
        have hd64 := Zhd64.out
        have hn65 := Zhn65.out
        have hi66 := Zhi66.out
        have ret67 := Zret67.out
        have hd70 := Zhd70.out
        have V69 := ZV69.out
        have U71 := ZU71.out
        have D72 := ZD72.out
        have ht73 := Zht73.out
        have hd78 := Zhd78.out
        have hn79 := Zhn79.out
        have hi80 := Zhi80.out
        have ret81 := Zret81.out
        have hd84 := Zhd84.out
        have V83 := ZV83.out
        have U85 := ZU85.out
        have D86 := ZD86.out
        clear Zhlen Zhnd Zhk Zhks Zhmk Zhbd ZhMX Zhtw Zhtb Zhtr Zhtn ZhkK Zhz1 ZU0 ZD0 ZD4 ZU5 Ze6 Zht7 Zhd12 Zhn13 Zhi14 Zret15 Zhd18 ZV17 ZU19 ZD20 Zht21 Zhd26 Zhn27 Zhi28 Zret29 Zhd32 ZV31 ZU33 ZD34 ZD38 ZU39 Ze40 ZD44 ZU45 Ze46 Zht47 ZV50 ZU51 ZD52 ZD56 ZU57 Ze58 Zht59 Zhd64 Zhn65 Zhi66 Zret67 Zhd70 ZV69 ZU71 ZD72 Zht73 Zhd78 Zhn79 Zhi80 Zret81 Zhd84 ZV83 ZU85 ZD86
        have hy : p ++ mkOs (n :: r) k = (p ++ [(⟨k, mkS n.path ((k + 1)), mkS n.frm (((k + 1) + ((n.path.length : Nat) : Int))), ⟨(((k + 1) + ((n.path.length : Nat) : Int)) + ((n.frm.length : Nat) : Int)), ((((k + 1) + ((n.path.length : Nat) : Int)) + ((n.frm.length : Nat) : Int)) + 1), mkT ((((((k + 1) + ((n.path.length : Nat) : Int)) + ((n.frm.length : Nat) : Int)) + 1) + 1)), mkS n.value.names (((((((k + 1) + ((n.path.length : Nat) : Int)) + ((n.frm.length : Nat) : Int)) + 1) + 1) + 1)), mkNs n.value.kids ((((((((k + 1) + ((n.path.length : Nat) : Int)) + ((n.frm.length : Nat) : Int)) + 1) + 1) + 1) + ((n.value.names.length : Nat) : Int)))⟩⟩ : Opn)]) ++ mkOs r (((((((((k + 1) + ((n.path.length : Nat) : Int)) + ((n.frm.length : Nat) : Int)) + 1) + 1) + 1) + ((n.value.names.length : Nat) : Int)) + ((totNs n.value.kids : Nat) : Int))) := by simp [mkOs, mkN_eq, totN_eq, Int.add_assoc] <;> (first | omega | (congr 1 <;> omega) | (constructor <;> (first | omega | (congr 1 <;> omega))))
        exact ⟨p ++ [(⟨k, mkS n.path ((k + 1)), mkS n.frm (((k + 1) + ((n.path.length : Nat) : Int))), ⟨(((k + 1) + ((n.path.length : Nat) : Int)) + ((n.frm.length : Nat) : Int)), ((((k + 1) + ((n.path.length : Nat) : Int)) + ((n.frm.length : Nat) : Int)) + 1), mkT ((((((k + 1) + ((n.path.length : Nat) : Int)) + ((n.frm.length : Nat) : Int)) + 1) + 1)), mkS n.value.names (((((((k + 1) + ((n.path.length : Nat) : Int)) + ((n.frm.length : Nat) : Int)) + 1) + 1) + 1)), mkNs n.value.kids ((((((((k + 1) + ((n.path.length : Nat) : Int)) + ((n.frm.length : Nat) : Int)) + 1) + 1) + 1) + ((n.value.names.length : Nat) : Int)))⟩⟩ : Opn)], r, ((((((((k + 1) + ((n.path.length : Nat) : Int)) + ((n.frm.length : Nat) : Int)) + 1) + 1) + 1) + ((n.value.names.length : Nat) : Int)) + ((totNs n.value.kids : Nat) : Int)), rfl, rfl, by rw [hz1]; simp, ⟨by simpa using D86, (((((((((U0).trans U5).trans U19).trans U33).trans U39).trans U45).trans U51).trans U57).trans U71).trans U85⟩, by simpa using hlen, by omega, by simp only [totN_eq] at hks; omega, by rw [← hy]; exact hmk⟩
end Go.Rs

