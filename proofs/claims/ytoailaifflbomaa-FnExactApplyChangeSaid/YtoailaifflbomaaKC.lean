import Derived.Test.YtoailaifflbomaaKN
import Derived.Deep.LoopGhost
set_option linter.all false
set_option linter.unusedSimpArgs false
set_option linter.unusedVariables false
namespace Go.Rs
open Go.Proofs Go.RowKit
set_option maxRecDepth 100000

set_option maxHeartbeats 8000000 in
theorem kmarkChangeS (l : List Chg) (k0 : Int) (w : World) (x : Value) (bs : List Nat) (hd : Deep w x (.ps .chg l) bs) (hn : bs.Nodup) (ht : Tabs w) (htb : ∀ c ∈ bs, isTab c = false) (h0 : 0 ≤ k0) (hb : k0 + ((totCs l : Nat) : Int) ≤ 4611686018427387904) : Calls Try.prog 15 #[x, .int .i64 k0] w fun e w' => e = .returned (.int .i64 (k0 + ((totCs l : Nat) : Int))) ∧ Deep w' x (.ps .chg (mkCs l k0)) bs ∧ Upd w w' bs := by
  rcases hd.inv_ps with ⟨rfl, rfl, a, cap, rfl⟩ | ⟨b, cap, xs, T, bss, h0', rfl, hM, hc, hb', hl, h1, hr, rfl⟩
  · go_enter Try.func15, Try.ntmps15
    go_wp2
    go_loopg [1, 5] 1 (fun g vk vi wr => vk = .int .i64 k0 ∧ vi = .int .i64 0 ∧ wr = w)
    case atStart => exact ⟨rfl, rfl, rfl⟩
    obtain ⟨rfl, rfl, rfl⟩ := hrel
    go_wp2
    go_ret
    exact ⟨by simp [totNs, totIs, totCs, totWs, totFs], by rw [show mkCs ([] : List Chg) k0 = [] from by simp [mkCs]]; exact .nil .chg a cap, .refl _ _⟩
  · generalize hN : l.length = N at *
    have A0 : Aside (k0 + ((totCs l : Nat) : Int) ≤ 4611686018427387904 ∧ N ≤ MX) := ⟨hb, hM⟩
    have A1 : Aside ((b :: inn (N * esz .chg) bss).Nodup ∧ Tabs w ∧ ∀ c ∈ b :: inn (N * esz .chg) bss, isTab c = false) := ⟨hn, ht, htb⟩
    clear hb hb' hl h1 hr hM hc hn ht htb
    generalize inn (N * esz .chg) bss = I at *
    obtain ⟨K1, hK1⟩ : ∃ K1, K1 = k0 + ((totCs l : Nat) : Int) := ⟨_, rfl⟩
    rw [← hK1]
    have A2 : Aside (K1 = k0 + ((totCs l : Nat) : Int)) := hK1
    clear hK1
    go_enter Try.func15, Try.ntmps15
    go_wp2
    go_loopg [1, 5] N (fun g vk vi wr => ∃ (p r : List Chg) (k : Int), g = r.length ∧ vk = .int .i64 k ∧ vi = .int .i64 p.length ∧ Aside (Deep wr (.slice (some ⟨b, 0, none⟩) N cap) (.ps .chg (p ++ r)) (b :: I) ∧ Upd w wr (b :: I)) ∧ Aside ((p ++ r).length = N ∧ 0 ≤ k ∧ k + ((totCs r : Nat) : Int) = K1 ∧ p ++ mkCs r k = mkCs l k0))
    case atStart => exact ⟨[], l, k0, hN.symm, rfl, rfl, ⟨hd, .refl _ _⟩, hN, h0, A2.out.symm, rfl⟩
    obtain ⟨p, r, k, hg, rfl, rfl, H1, H2⟩ := hrel
    clear hd
    cases r with
    | nil =>
      have hlt : ¬ ((p.length : Int) < (N : Int)) := by have := H2.out.1; simp at this; omega
      go_wp2
      go_ret
      obtain ⟨H3, H4⟩ := H1.out
      obtain ⟨H5, H6, H7, H8⟩ := H2.out
      simp only [mkCs, List.append_nil] at H3 H8
      rw [H8] at H3
      have H7' : k = K1 := by simpa [totNs, totIs, totCs, totWs, totFs] using H7
      exact ⟨by simp [H7'], H3, H4⟩
    | cons n r =>
      have hlt : ((p.length : Int) < (N : Int)) := by have := H2.out.1; simp at this; omega
      obtain ⟨D0, U0⟩ := H1.out
      obtain ⟨hlen, hk, hks, hmk⟩ := H2.out
      obtain ⟨hbd, hMX⟩ := A0.out
      obtain ⟨hnd, htw, htb⟩ := A1.out
      have htr := U0.tabs htw htb
      have htn : ((totCs (n :: r) : Nat) : Int) = ((2 + totN n.node) : Nat) + ((totCs r : Nat) : Int) := by simp [totNs, totIs, totCs, totWs, totFs] <;> omega
      rw [htn] at hks
      have hkK : k + ((2 + totN n.node) : Nat) ≤ 4611686018427387904 := by have := A2.out; omega
      have hz1 : wrap64 ((p.length : Int) + 1) = (p.length : Int) + 1 := wrap_1 (by omega) (by unfold MX at hMX; omega)
      have ht1 : Tabs wr := htr
      have M2 : Calls Try.prog 43 #[.int .i64 (k)] wr fun e w' => e = .returned (.string ⟨(mkT (k)).toArray⟩) ∧ Upd wr w' [] := by exact kmarkText _ _ ht1 (by simp only [totN_eq] at hkK; omega)
      have Zhlen : Aside _ := hlen
      have Zhnd : Aside _ := hnd
      have Zhk : Aside _ := hk
      have Zhks : Aside _ := hks
      have Zhmk : Aside _ := hmk
      have Zhbd : Aside _ := hbd
      have ZhMX : Aside _ := hMX
      have Zhtw : Aside _ := htw
      have Zhtb : Aside _ := htb
      have Zhtr : Aside _ := htr
      have Zhtn : Aside _ := htn
      have ZhkK : Aside _ := hkK
      have Zhz1 : Aside _ := hz1
      have ZU0 : Aside _ := U0
      have ZD0 : Aside _ := D0
      have Zht1 : Aside _ := ht1
      clear ht1 D0 U0 hz1 hkK htn htr htb htw hMX hbd hmk hks hk hnd hlen
      go_wp2_with (go_at_call 43; refine M2.mono ?_)
      first | (intro e w3 hq V4; subst hq) | (rintro e w3 ⟨rfl, V4⟩)
      have hlen := Zhlen.out
      have hnd := Zhnd.out
      have hk := Zhk.out
      have hks := Zhks.out
      have hmk := Zhmk.out
      have hbd := Zhbd.out
      have hMX := ZhMX.out
      have htw := Zhtw.out
      have htb := Zhtb.out
      have htr := Zhtr.out
      have htn := Zhtn.out
      have hkK := ZhkK.out
      have hz1 := Zhz1.out
      have U0 := ZU0.out
      have D0 := ZD0.out
      have ht1 := Zht1.out
      clear Zhlen Zhnd Zhk Zhks Zhmk Zhbd ZhMX Zhtw Zhtb Zhtr Zhtn ZhkK Zhz1 ZU0 ZD0 Zht1
      clear M2
      have U5 := V4.mono (bs' := b :: I) (by simp)
      have D6 := D0.same V4
      obtain ⟨⟨x9, c7⟩, f8⟩ := D6.cellA hlen (j := 0) (o := p.length * 7) (by simp [esz]) (by decide)
      obtain ⟨D10, U11⟩ := D6.setA hlen hnd (j := 0) (o := p.length * 7) (by simp [esz]) (by decide) (v := Value.string ⟨(mkT (k)).toArray⟩) (u := .str (mkT (k))) (.str _ (Nat.le_trans (mkT_len (by simp only [totN_eq] at hkK; omega)) (by unfold MX; omega))) trivial (y := (⟨mkT (k), n.gone, ⟨n.node.kind, n.node.num, n.node.text, n.node.names, n.node.kids⟩⟩ : Chg)) rfl
      replace hlen : (p ++ (⟨mkT (k), n.gone, ⟨n.node.kind, n.node.num, n.node.text, n.node.names, n.node.kids⟩⟩ : Chg) :: r).length = N := by simpa using hlen
      have e12 : wrap64 (k + 1) = (k + 1) := by exact wrap_1 (by omega) (by simp only [totN_eq] at hkK; omega)
      obtain ⟨⟨x15, c13⟩, f14⟩ := D10.cellA hlen (j := 1) (o := p.length * 7 + 1) (by simp [esz]) (by decide)
      obtain ⟨D16, U17⟩ := D10.setA hlen hnd (j := 1) (o := p.length * 7 + 1) (by simp [esz]) (by decide) (v := Value.bool ((wrap64 (k + 1)).tmod 3 == 0)) (u := .bool (decide ((k + 1) % 3 = 0))) (by rw [e12]; rw [tmod3 (by omega)]; exact .bool _) trivial (y := (⟨mkT (k), decide ((k + 1) % 3 = 0), ⟨n.node.kind, n.node.num, n.node.text, n.node.names, n.node.kids⟩⟩ : Chg)) rfl
      replace hlen : (p ++ (⟨mkT (k), decide ((k + 1) % 3 = 0), ⟨n.node.kind, n.node.num, n.node.text, n.node.names, n.node.kids⟩⟩ : Chg) :: r).length = N := by simpa using hlen
      have e18 : wrap64 (wrap64 (k + 1) + 1) = ((k + 1) + 1) := by rw [e12]; exact wrap_1 (by omega) (by simp only [totN_eq] at hkK; omega)
      obtain ⟨⟨x21, c19⟩, f20⟩ := D16.cellA hlen (j := 2) (o := p.length * 7 + 2) (by simp [esz]) (by decide)
      obtain ⟨D22, U23⟩ := D16.setA hlen hnd (j := 2) (o := p.length * 7 + 2) (by simp [esz]) (by decide) (v := Value.int .i64 (wrap64 (wrap64 (k + 1) + 1))) (u := .int .i64 (((k + 1) + 1))) (by rw [e18]; exact .int _ _) trivial (y := (⟨mkT (k), decide ((k + 1) % 3 = 0), ⟨((k + 1) + 1), n.node.num, n.node.text, n.node.names, n.node.kids⟩⟩ : Chg)) rfl
      replace hlen : (p ++ (⟨mkT (k), decide ((k + 1) % 3 = 0), ⟨((k + 1) + 1), n.node.num, n.node.text, n.node.names, n.node.kids⟩⟩ : Chg) :: r).length = N := by simpa using hlen
      have e24 : wrap64 (wrap64 (wrap64 (k + 1) + 1) + 1) = (((k + 1) + 1) + 1) := by rw [e18]; exact wrap_1 (by omega) (by simp only [totN_eq] at hkK; omega)
      obtain ⟨⟨x27, c25⟩, f26⟩ := D22.cellA hlen (j := 3) (o := p.length * 7 + 3) (by simp [esz]) (by decide)
      obtain ⟨D28, U29⟩ := D22.setA hlen hnd (j := 3) (o := p.length * 7 + 3) (by simp [esz]) (by decide) (v := Value.int .i64 (wrap64 (wrap64 (wrap64 (k + 1) + 1) + 1))) (u := .int .i64 ((((k + 1) + 1) + 1))) (by rw [e24]; exact .int _ _) trivial (y := (⟨mkT (k), decide ((k + 1) % 3 = 0), ⟨((k + 1) + 1), (((k + 1) + 1) + 1), n.node.text, n.node.names, n.node.kids⟩⟩ : Chg)) rfl
      replace hlen : (p ++ (⟨mkT (k), decide ((k + 1) % 3 = 0), ⟨((k + 1) + 1), (((k + 1) + 1) + 1), n.node.text, n.node.names, n.node.kids⟩⟩ : Chg) :: r).length = N := by simpa using hlen
      have e30 : wrap64 (wrap64 (wrap64 (wrap64 (k + 1) + 1) + 1) + 1) = ((((k + 1) + 1) + 1) + 1) := by rw [e24]; exact wrap_1 (by omega) (by simp only [totN_eq] at hkK; omega)
      have ht31 : Tabs ((((w3.setCell ⟨b, p.length * 7, none⟩ (Value.string ⟨(mkT (k)).toArray⟩)).setCell ⟨b, p.length * 7 + 1, none⟩ (Value.bool ((wrap64 (k + 1)).tmod 3 == 0))).setCell ⟨b, p.length * 7 + 2, none⟩ (Value.int .i64 (wrap64 (wrap64 (k + 1) + 1)))).setCell ⟨b, p.length * 7 + 3, none⟩ (Value.int .i64 (wrap64 (wrap64 (wrap64 (k + 1) + 1) + 1)))) := ((((((U0).trans U5).trans U11).trans U17).trans U23).trans U29).tabs htw htb
      have M32 : Calls Try.prog 43 #[.int .i64 (wrap64 (wrap64 (wrap64 (wrap64 (k + 1) + 1) + 1) + 1))] ((((w3.setCell ⟨b, p.length * 7, none⟩ (Value.string ⟨(mkT (k)).toArray⟩)).setCell ⟨b, p.length * 7 + 1, none⟩ (Value.bool ((wrap64 (k + 1)).tmod 3 == 0))).setCell ⟨b, p.length * 7 + 2, none⟩ (Value.int .i64 (wrap64 (wrap64 (k + 1) + 1)))).setCell ⟨b, p.length * 7 + 3, none⟩ (Value.int .i64 (wrap64 (wrap64 (wrap64 (k + 1) + 1) + 1)))) fun e w' => e = .returned (.string ⟨(mkT (((((k + 1) + 1) + 1) + 1))).toArray⟩) ∧ Upd ((((w3.setCell ⟨b, p.length * 7, none⟩ (Value.string ⟨(mkT (k)).toArray⟩)).setCell ⟨b, p.length * 7 + 1, none⟩ (Value.bool ((wrap64 (k + 1)).tmod 3 == 0))).setCell ⟨b, p.length * 7 + 2, none⟩ (Value.int .i64 (wrap64 (wrap64 (k + 1) + 1)))).setCell ⟨b, p.length * 7 + 3, none⟩ (Value.int .i64 (wrap64 (wrap64 (wrap64 (k + 1) + 1) + 1)))) w' [] := by rw [e30]; exact kmarkText _ _ ht31 (by simp only [totN_eq] at hkK; omega)
      have Zhlen : Aside _ := hlen
      have Zhnd : Aside _ := hnd
      have Zhk : Aside _ := hk
      have Zhks : Aside _ := hks
      have Zhmk : Aside _ := hmk
      have Zhbd : Aside _ := hbd
      have ZhMX : Aside _ := hMX
      have Zhtw : Aside _ := htw
      have Zhtb : Aside _ := htb
      have Zhtr : Aside _ := htr
      have Zhtn : Aside _ := htn
      have ZhkK : Aside _ := hkK
      have Zhz1 : Aside _ := hz1
      have ZU0 : Aside _ := U0
      have ZD0 : Aside _ := D0
      have Zht1 : Aside _ := ht1
      have ZV4 : Aside _ := V4
      have ZU5 : Aside _ := U5
      have ZD6 : Aside _ := D6
      have ZD10 : Aside _ := D10
      have ZU11 : Aside _ := U11
      have Ze12 : Aside _ := e12
      have ZD16 : Aside _ := D16
      have ZU17 : Aside _ := U17
      have Ze18 : Aside _ := e18
      have ZD22 : Aside _ := D22
      have ZU23 : Aside _ := U23
      have Ze24 : Aside _ := e24
      have ZD28 : Aside _ := D28
      have ZU29 : Aside _ := U29
      have Ze30 : Aside _ := e30
      have Zht31 : Aside _ := ht31
      clear ht31 e30 U29 D28 e24 U23 D22 e18 U17 D16 e12 U11 D10 D6 U5 V4 ht1 D0 U0 hz1 hkK htn htr htb htw hMX hbd hmk hks hk hnd hlen
      go_wp2_with (go_at_call 43; refine M32.mono ?_)
      first | (intro e w33 hq V34; subst hq) | (rintro e w33 ⟨rfl, V34⟩)
      have hlen := Zhlen.out
      have hnd := Zhnd.out
      have hk := Zhk.out
      have hks := Zhks.out
      have hmk := Zhmk.out
      have hbd := Zhbd.out
      have hMX := ZhMX.out
      have htw := Zhtw.out
      have htb := Zhtb.out
      have htr := Zhtr.out
      have htn := Zhtn.out
      have hkK := ZhkK.out
      have hz1 := Zhz1.out
      have U0 := ZU0.out
      have D0 := ZD0.out
      have ht1 := Zht1.out
      have V4 := ZV4.out
      have U5 := ZU5.out
      have D6 := ZD6.out
      have D10 := ZD10.out
      have U11 := ZU11.out
      have e12 := Ze12.out
      have D16 := ZD16.out
      have U17 := ZU17.out
      have e18 := Ze18.out
      have D22 := ZD22.out
      have U23 := ZU23.out
      have e24 := Ze24.out
      have D28 := ZD28.out
      have U29 := ZU29.out
      have e30 := Ze30.out
      have ht31 := Zht31.out
      clear Zhlen Zhnd Zhk Zhks Zhmk Zhbd ZhMX Zhtw Zhtb Zhtr Zhtn ZhkK Zhz1 ZU0 ZD0 Zht1 ZV4 ZU5 ZD6 ZD10 ZU11 Ze12 ZD16 ZU17 Ze18 ZD22 ZU23 Ze24 ZD28 ZU29 Ze30 Zht31
      clear M32 f26 c25 f20 c19 f14 c13 f8 c7
      have U35 := V34.mono (bs' := b :: I) (by simp)
      have D36 := D28.same V34
      obtain ⟨⟨x39, c37⟩, f38⟩ := D36.cellA hlen (j := 4) (o := p.length * 7 + 4) (by simp [esz]) (by decide)
      obtain ⟨D40, U41⟩ := D36.setA hlen hnd (j := 4) (o := p.length * 7 + 4) (by simp [esz]) (by decide) (v := Value.string ⟨(mkT (((((k + 1) + 1) + 1) + 1))).toArray⟩) (u := .str (mkT (((((k + 1) + 1) + 1) + 1)))) (.str _ (Nat.le_trans (mkT_len (by simp only [totN_eq] at hkK; omega)) (by unfold MX; omega))) trivial (y := (⟨mkT (k), decide ((k + 1) % 3 = 0), ⟨((k + 1) + 1), (((k + 1) + 1) + 1), mkT (((((k + 1) + 1) + 1) + 1)), n.node.names, n.node.kids⟩⟩ : Chg)) rfl
      replace hlen : (p ++ (⟨mkT (k), decide ((k + 1) % 3 = 0), ⟨((k + 1) + 1), (((k + 1) + 1) + 1), mkT (((((k + 1) + 1) + 1) + 1)), n.node.names, n.node.kids⟩⟩ : Chg) :: r).length = N := by simpa using hlen
      have e42 : wrap64 (wrap64 (wrap64 (wrap64 (wrap64 (k + 1) + 1) + 1) + 1) + 1) = (((((k + 1) + 1) + 1) + 1) + 1) := by rw [e30]; exact wrap_1 (by omega) (by simp only [totN_eq] at hkK; omega)
      have ht43 : Tabs (w33.setCell ⟨b, p.length * 7 + 4, none⟩ (Value.string ⟨(mkT (((((k + 1) + 1) + 1) + 1))).toArray⟩)) := ((((((((U0).trans U5).trans U11).trans U17).trans U23).trans U29).trans U35).trans U41).tabs htw htb
      obtain ⟨x45, bs46, c47, hd48, hn49, hi50, ret51⟩ := D40.subA hlen hnd (j := 5) (o := p.length * 7 + 5) (by simp [esz]) (by decide) (v := .ps .str n.node.names) rfl
      have M44 : Calls Try.prog 44 #[x45, .int .i64 (wrap64 (wrap64 (wrap64 (wrap64 (wrap64 (k + 1) + 1) + 1) + 1) + 1))] (w33.setCell ⟨b, p.length * 7 + 4, none⟩ (Value.string ⟨(mkT (((((k + 1) + 1) + 1) + 1))).toArray⟩)) fun e w' => e = .returned (.int .i64 ((((((k + 1) + 1) + 1) + 1) + 1) + ((n.node.names.length : Nat) : Int))) ∧ Deep w' x45 (.ps .str (mkS n.node.names ((((((k + 1) + 1) + 1) + 1) + 1)))) bs46 ∧ Upd (w33.setCell ⟨b, p.length * 7 + 4, none⟩ (Value.string ⟨(mkT (((((k + 1) + 1) + 1) + 1))).toArray⟩)) w' bs46 := by rw [e42]; exact kmarkStringS n.node.names ((((((k + 1) + 1) + 1) + 1) + 1)) (w33.setCell ⟨b, p.length * 7 + 4, none⟩ (Value.string ⟨(mkT (((((k + 1) + 1) + 1) + 1))).toArray⟩)) x45 bs46 hd48 hn49 ht43 (fun c hc => htb c (List.mem_cons_of_mem _ (hi50 c hc))) (by omega) (by simp only [totN_eq] at hkK; omega)
      have Zhlen : Aside _ := hlen
      have Zhnd : Aside _ := hnd
      have Zhk : Aside _ := hk
      have Zhks : Aside _ := hks
      have Zhmk : Aside _ := hmk
      have Zhbd : Aside _ := hbd
      have ZhMX : Aside _ := hMX
      have Zhtw : Aside _ := htw
      have Zhtb : Aside _ := htb
      have Zhtr : Aside _ := htr
      have Zhtn : Aside _ := htn
      have ZhkK : Aside _ := hkK
      have Zhz1 : Aside _ := hz1
      have ZU0 : Aside _ := U0
      have ZD0 : Aside _ := D0
      have Zht1 : Aside _ := ht1
      have ZV4 : Aside _ := V4
      have ZU5 : Aside _ := U5
      have ZD6 : Aside _ := D6
      have ZD10 : Aside _ := D10
      have ZU11 : Aside _ := U11
      have Ze12 : Aside _ := e12
      have ZD16 : Aside _ := D16
      have ZU17 : Aside _ := U17
      have Ze18 : Aside _ := e18
      have ZD22 : Aside _ := D22
      have ZU23 : Aside _ := U23
      have Ze24 : Aside _ := e24
      have ZD28 : Aside _ := D28
      have ZU29 : Aside _ := U29
      have Ze30 : Aside _ := e30
      have Zht31 : Aside _ := ht31
      have ZV34 : Aside _ := V34
      have ZU35 : Aside _ := U35
      have ZD36 : Aside _ := D36
      have ZD40 : Aside _ := D40
      have ZU41 : Aside _ := U41
      have Ze42 : Aside _ := e42
      have Zht43 : Aside _ := ht43
      have Zhd48 : Aside _ := hd48
      have Zhn49 : Aside _ := hn49
      have Zhi50 : Aside _ := hi50
      have Zret51 : Aside _ := ret51
      clear ret51 hi50 hn49 hd48 ht43 e42 U41 D40 D36 U35 V34 ht31 e30 U29 D28 e24 U23 D22 e18 U17 D16 e12 U11 D10 D6 U5 V4 ht1 D0 U0 hz1 hkK htn htr htb htw hMX hbd hmk hks hk hnd hlen
      go_wp2_with (go_at_call 44; refine M44.mono ?_)
      first | (intro e w52 hq hd54 V53; subst hq) | (rintro e w52 ⟨rfl, hd54, V53⟩)
      have hlen := Zhlen.out
      have hnd := Zhnd.out
      have hk := Zhk.out
      have hks := Zhks.out
      have hmk := Zhmk.out
      have hbd := Zhbd.out
      have hMX := ZhMX.out
      have htw := Zhtw.out
      have htb := Zhtb.out
      have htr := Zhtr.out
      have htn := Zhtn.out
      have hkK := ZhkK.out
      have hz1 := Zhz1.out
      have U0 := ZU0.out
      have D0 := ZD0.out
      have ht1 := Zht1.out
      have V4 := ZV4.out
      have U5 := ZU5.out
      have D6 := ZD6.out
      have D10 := ZD10.out
      have U11 := ZU11.out
      have e12 := Ze12.out
      have D16 := ZD16.out
      have U17 := ZU17.out
      have e18 := Ze18.out
      have D22 := ZD22.out
      have U23 := ZU23.out
      have e24 := Ze24.out
      have D28 := ZD28.out
      have U29 := ZU29.out
      have e30 := Ze30.out
      have ht31 := Zht31.out
      have V34 := ZV34.out
      have U35 := ZU35.out
      have D36 := ZD36.out
      have D40 := ZD40.out
      have U41 := ZU41.out
      have e42 := Ze42.out
      have ht43 := Zht43.out
      have hd48 := Zhd48.out
      have hn49 := Zhn49.out
      have hi50 := Zhi50.out
      have ret51 := Zret51.out
      clear Zhlen Zhnd Zhk Zhks Zhmk Zhbd ZhMX Zhtw Zhtb Zhtr Zhtn ZhkK Zhz1 ZU0 ZD0 Zht1 ZV4 ZU5 ZD6 ZD10 ZU11 Ze12 ZD16 ZU17 Ze18 ZD22 ZU23 Ze24 ZD28 ZU29 Ze30 Zht31 ZV34 ZU35 ZD36 ZD40 ZU41 Ze42 Zht43 Zhd48 Zhn49 Zhi50 Zret51
      clear M44 c47 f38 c37
      have U55 := V53.mono (bs' := b :: I) (fun c hc => List.mem_cons_of_mem _ (hi50 c hc))
      have D56 := ret51 _ _ ((⟨mkT (k), decide ((k + 1) % 3 = 0), ⟨((k + 1) + 1), (((k + 1) + 1) + 1), mkT (((((k + 1) + 1) + 1) + 1)), mkS n.node.names ((((((k + 1) + 1) + 1) + 1) + 1)), n.node.kids⟩⟩ : Chg)) hd54 V53 rfl
      replace hlen : (p ++ (⟨mkT (k), decide ((k + 1) % 3 = 0), ⟨((k + 1) + 1), (((k + 1) + 1) + 1), mkT (((((k + 1) + 1) + 1) + 1)), mkS n.node.names ((((((k + 1) + 1) + 1) + 1) + 1)), n.node.kids⟩⟩ : Chg) :: r).length = N := by simpa using hlen
      have ht57 : Tabs w52 := (((((((((U0).trans U5).trans U11).trans U17).trans U23).trans U29).trans U35).trans U41).trans U55).tabs htw htb
      obtain ⟨x59, bs60, c61, hd62, hn63, hi64, ret65⟩ := D56.subA hlen hnd (j := 6) (o := p.length * 7 + 6) (by simp [esz]) (by decide) (v := .ps .node n.node.kids) rfl
      have M58 : Calls Try.prog 45 #[x59, .int .i64 (((((((k + 1) + 1) + 1) + 1) + 1) + ((n.node.names.length : Nat) : Int)))] w52 fun e w' => e = .returned (.int .i64 (((((((k + 1) + 1) + 1) + 1) + 1) + ((n.node.names.length : Nat) : Int)) + ((totNs n.node.kids : Nat) : Int))) ∧ Deep w' x59 (.ps .node (mkNs n.node.kids (((((((k + 1) + 1) + 1) + 1) + 1) + ((n.node.names.length : Nat) : Int))))) bs60 ∧ Upd w52 w' bs60 := by exact kmarkNodeS n.node.kids (((((((k + 1) + 1) + 1) + 1) + 1) + ((n.node.names.length : Nat) : Int))) w52 x59 bs60 hd62 hn63 ht57 (fun c hc => htb c (List.mem_cons_of_mem _ (hi64 c hc))) (by omega) (by simp only [totN_eq] at hkK; omega)
      have Zhlen : Aside _ := hlen
      have Zhnd : Aside _ := hnd
      have Zhk : Aside _ := hk
      have Zhks : Aside _ := hks
      have Zhmk : Aside _ := hmk
      have Zhbd : Aside _ := hbd
      have ZhMX : Aside _ := hMX
      have Zhtw : Aside _ := htw
      have Zhtb : Aside _ := htb
      have Zhtr : Aside _ := htr
      have Zhtn : Aside _ := htn
      have ZhkK : Aside _ := hkK
      have Zhz1 : Aside _ := hz1
      have ZU0 : Aside _ := U0
      have ZD0 : Aside _ := D0
      have Zht1 : Aside _ := ht1
      have ZV4 : Aside _ := V4
      have ZU5 : Aside _ := U5
      have ZD6 : Aside _ := D6
      have ZD10 : Aside _ := D10
      have ZU11 : Aside _ := U11
      have Ze12 : Aside _ := e12
      have ZD16 : Aside _ := D16
      have ZU17 : Aside _ := U17
      have Ze18 : Aside _ := e18
      have ZD22 : Aside _ := D22
      have ZU23 : Aside _ := U23
      have Ze24 : Aside _ := e24
      have ZD28 : Aside _ := D28
      have ZU29 : Aside _ := U29
      have Ze30 : Aside _ := e30
      have Zht31 : Aside _ := ht31
      have ZV34 : Aside _ := V34
      have ZU35 : Aside _ := U35
      have ZD36 : Aside _ := D36
      have ZD40 : Aside _ := D40
      have ZU41 : Aside _ := U41
      have Ze42 : Aside _ := e42
      have Zht43 : Aside _ := ht43
      have Zhd48 : Aside _ := hd48
      have Zhn49 : Aside _ := hn49
      have Zhi50 : Aside _ := hi50
      have Zret51 : Aside _ := ret51
      have Zhd54 : Aside _ := hd54
      have ZV53 : Aside _ := V53
      have ZU55 : Aside _ := U55
      have ZD56 : Aside _ := D56
      have Zht57 : Aside _ := ht57
      have Zhd62 : Aside _ := hd62
      have Zhn63 : Aside _ := hn63
      have Zhi64 : Aside _ := hi64
      have Zret65 : Aside _ := ret65
      clear ret65 hi64 hn63 hd62 ht57 D56 U55 V53 hd54 ret51 hi50 hn49 hd48 ht43 e42 U41 D40 D36 U35 V34 ht31 e30 U29 D28 e24 U23 D22 e18 U17 D16 e12 U11 D10 D6 U5 V4 ht1 D0 U0 hz1 hkK htn htr htb htw hMX hbd hmk hks hk hnd hlen
      go_wp2_with (go_at_call 45; refine M58.mono ?_)
      first | (intro e w66 hq hd68 V67; subst hq) | (rintro e w66 ⟨rfl, hd68, V67⟩)
      have hlen := Zhlen.out
      have hnd := Zhnd.out
      have hk := Zhk.out
      have hks := Zhks.out
      have hmk := Zhmk.out
      have hbd := Zhbd.out
      have hMX := ZhMX.out
      have htw := Zhtw.out
      have htb := Zhtb.out
      have htr := Zhtr.out
      have htn := Zhtn.out
      have hkK := ZhkK.out
      have hz1 := Zhz1.out
      have U0 := ZU0.out
      have D0 := ZD0.out
      have ht1 := Zht1.out
      have V4 := ZV4.out
      have U5 := ZU5.out
      have D6 := ZD6.out
      have D10 := ZD10.out
      have U11 := ZU11.out
      have e12 := Ze12.out
      have D16 := ZD16.out
      have U17 := ZU17.out
      have e18 := Ze18.out
      have D22 := ZD22.out
      have U23 := ZU23.out
      have e24 := Ze24.out
      have D28 := ZD28.out
      have U29 := ZU29.out
      have e30 := Ze30.out
      have ht31 := Zht31.out
      have V34 := ZV34.out
      have U35 := ZU35.out
      have D36 := ZD36.out
      have D40 := ZD40.out
      have U41 := ZU41.out
      have e42 := Ze42.out
      have ht43 := Zht43.out
      have hd48 := Zhd48.out
      have hn49 := Zhn49.out
      have hi50 := Zhi50.out
      have ret51 := Zret51.out
      have hd54 := Zhd54.out
      have V53 := ZV53.out
      have U55 := ZU55.out
      have D56 := ZD56.out
      have ht57 := Zht57.out
      have hd62 := Zhd62.out
      have hn63 := Zhn63.out
      have hi64 := Zhi64.out
      have ret65 := Zret65.out
      clear Zhlen Zhnd Zhk Zhks Zhmk Zhbd ZhMX Zhtw Zhtb Zhtr Zhtn ZhkK Zhz1 ZU0 ZD0 Zht1 ZV4 ZU5 ZD6 ZD10 ZU11 Ze12 ZD16 ZU17 Ze18 ZD22 ZU23 Ze24 ZD28 ZU29 Ze30 Zht31 ZV34 ZU35 ZD36 ZD40 ZU41 Ze42 Zht43 Zhd48 Zhn49 Zhi50 Zret51 Zhd54 ZV53 ZU55 ZD56 Zht57 Zhd62 Zhn63 Zhi64 Zret65
      clear M58 c61
      have U69 := V67.mono (bs' := b :: I) (fun c hc => List.mem_cons_of_mem _ (hi64 c hc))
      have D70 := ret65 _ _ ((⟨mkT (k), decide ((k + 1) % 3 = 0), ⟨((k + 1) + 1), (((k + 1) + 1) + 1), mkT (((((k + 1) + 1) + 1) + 1)), mkS n.node.names ((((((k + 1) + 1) + 1) + 1) + 1)), mkNs n.node.kids (((((((k + 1) + 1) + 1) + 1) + 1) + ((n.node.names.length : Nat) : Int)))⟩⟩ : Chg)) hd68 V67 rfl
      replace hlen : (p ++ (⟨mkT (k), decide ((k + 1) % 3 = 0), ⟨((k + 1) + 1), (((k + 1) + 1) + 1), mkT (((((k + 1) + 1) + 1) + 1)), mkS n.node.names ((((((k + 1) + 1) + 1) + 1) + 1)), mkNs n.node.kids (((((((k + 1) + 1) + 1) + 1) + 1) + ((n.node.names.length : Nat) : Int)))⟩⟩ : Chg) :: r).length = N := by simpa using hlen
      have Zhlen : Aside _ := hlen
      have Zhnd : Aside _ := hnd
      have Zhk : Aside _ := hk
      have Zhks : Aside _ := hks
      have Zhmk : Aside _ := hmk
      have Zhbd : Aside _ := hbd
      have ZhMX : Aside _ := hMX
      have Zhtw : Aside _ := htw
      have Zhtb : Aside _ := htb
      have Zhtr : Aside _ := htr
      have Zhtn : Aside _ := htn
      have ZhkK : Aside _ := hkK
      have Zhz1 : Aside _ := hz1
      have ZU0 : Aside _ := U0
      have ZD0 : Aside _ := D0
      have Zht1 : Aside _ := ht1
      have ZV4 : Aside _ := V4
      have ZU5 : Aside _ := U5
      have ZD6 : Aside _ := D6
      have ZD10 : Aside _ := D10
      have ZU11 : Aside _ := U11
      have Ze12 : Aside _ := e12
      have ZD16 : Aside _ := D16
      have ZU17 : Aside _ := U17
      have Ze18 : Aside _ := e18
      have ZD22 : Aside _ := D22
      have ZU23 : Aside _ := U23
      have Ze24 : Aside _ := e24
      have ZD28 : Aside _ := D28
      have ZU29 : Aside _ := U29
      have Ze30 : Aside _ := e30
      have Zht31 : Aside _ := ht31
      have ZV34 : Aside _ := V34
      have ZU35 : Aside _ := U35
      have ZD36 : Aside _ := D36
      have ZD40 : Aside _ := D40
      have ZU41 : Aside _ := U41
      have Ze42 : Aside _ := e42
      have Zht43 : Aside _ := ht43
      have Zhd48 : Aside _ := hd48
      have Zhn49 : Aside _ := hn49
      have Zhi50 : Aside _ := hi50
      have Zret51 : Aside _ := ret51
      have Zhd54 : Aside _ := hd54
      have ZV53 : Aside _ := V53
      have ZU55 : Aside _ := U55
      have ZD56 : Aside _ := D56
      have Zht57 : Aside _ := ht57
      have Zhd62 : Aside _ := hd62
      have Zhn63 : Aside _ := hn63
      have Zhi64 : Aside _ := hi64
      have Zret65 : Aside _ := ret65
      have Zhd68 : Aside _ := hd68
      have ZV67 : Aside _ := V67
      have ZU69 : Aside _ := U69
      have ZD70 : Aside _ := D70
      clear D70 U69 V67 hd68 ret65 hi64 hn63 hd62 ht57 D56 U55 V53 hd54 ret51 hi50 hn49 hd48 ht43 e42 U41 D40 D36 U35 V34 ht31 e30 U29 D28 e24 U23 D22 e18 U17 D16 e12 U11 D10 D6 U5 V4 ht1 D0 U0 hz1 hkK htn htr htb htw hMX hbd hmk hks hk hnd hlen
      go_wp2
      go_roundg r.length
      case measure => subst hg; simp
      case rel =>
        have hlen := Zhlen.out
        have hnd := Zhnd.out
        have hk := Zhk.out
        have hks := Zhks.out
        have hmk := Zhmk.out
        have hbd := Zhbd.out
        have hMX := ZhMX.out
        have htw := Zhtw.out
        have htb := Zhtb.out
        have htr := Zhtr.out
        have htn := Zhtn.out
        have hkK := ZhkK.out
        have hz1 := Zhz1.out
        have U0 := ZU0.out
        have D0 := ZD0.out
        have ht1 := Zht1.out
        have V4 := ZV4.out
        have U5 := ZU5.out
        have D6 := ZD6.out
        have D10 := ZD10.out
        have U11 := ZU11.out
        have e12 := Ze12.out
        have D16 := ZD16.out
        have U17 := ZU17.out
        have e18 := Ze18.out
        have D22 := ZD22.out
        have U23 := ZU23.out
        have e24 := Ze24.out
        have D28 := ZD28.out
        have U29 := ZU29.out
        have e30 := Ze30.out
        have ht31 := Zht31.out
        have V34 := ZV34.out
        have U35 := ZU35.out
        have D36 := ZD36.out
        have D40 := ZD40.out
        have U41 := ZU41.out
        have e42 := Ze42.out
        have ht43 := Zht43.out
        have hd48 := Zhd48.out
        have hn49 := Zhn49.out
        have hi50 := Zhi50.out
        have ret51 := Zret51.out
        have hd54 := Zhd54.out
        have V53 := ZV53.out
        have U55 := ZU55.out
        have D56 := ZD56.out
        have ht57 := Zht57.out
        have hd62 := Zhd62.out
        have hn63 := Zhn63.out
        have hi64 := Zhi64.out
        have ret65 := Zret65.out
        have hd68 := Zhd68.out
        have V67 := ZV67.out
        have U69 := ZU69.out
        have D70 := ZD70.out
        clear Zhlen Zhnd Zhk Zhks Zhmk Zhbd ZhMX Zhtw Zhtb Zhtr Zhtn ZhkK Zhz1 ZU0 ZD0 Zht1 ZV4 ZU5 ZD6 ZD10 ZU11 Ze12 ZD16 ZU17 Ze18 ZD22 ZU23 Ze24 ZD28 ZU29 Ze30 Zht31 ZV34 ZU35 ZD36 ZD40 ZU41 Ze42 Zht43 Zhd48 Zhn49 Zhi50 Zret51 Zhd54 ZV53 ZU55 ZD56 Zht57 Zhd62 Zhn63 Zhi64 Zret65 Zhd68 ZV67 ZU69 ZD70
        have hy : p ++ mkCs (n :: r) k = (p ++ [(⟨mkT (k), decide ((k + 1) % 3 = 0), ⟨((k + 1) + 1), (((k + 1) + 1) + 1), mkT (((((k + 1) + 1) + 1) + 1)), mkS n.node.names ((((((k + 1) + 1) + 1) + 1) + 1)), mkNs n.node.kids (((((((k + 1) + 1) + 1) + 1) + 1) + ((n.node.names.length : Nat) : Int)))⟩⟩ : Chg)]) ++ mkCs r ((((((((k + 1) + 1) + 1) + 1) + 1) + ((n.node.names.length : Nat) : Int)) + ((totNs n.node.kids : Nat) : Int))) := by simp [mkCs, mkN_eq, totN_eq, Int.add_assoc] <;> (first | omega | (congr 1 <;> omega) | (constructor <;> (first | omega | (congr 1 <;> omega))))
        exact ⟨p ++ [(⟨mkT (k), decide ((k + 1) % 3 = 0), ⟨((k + 1) + 1), (((k + 1) + 1) + 1), mkT (((((k + 1) + 1) + 1) + 1)), mkS n.node.names ((((((k + 1) + 1) + 1) + 1) + 1)), mkNs n.node.kids (((((((k + 1) + 1) + 1) + 1) + 1) + ((n.node.names.length : Nat) : Int)))⟩⟩ : Chg)], r, (((((((k + 1) + 1) + 1) + 1) + 1) + ((n.node.names.length : Nat) : Int)) + ((totNs n.node.kids : Nat) : Int)), rfl, rfl, by rw [hz1]; simp, ⟨by simpa using D70, (((((((((U0).trans U5).trans U11).trans U17).trans U23).trans U29).trans U35).trans U41).trans U55).trans U69⟩, by simpa using hlen, by omega, by simp only [totN_eq] at hks; omega, by rw [← hy]; exact hmk⟩
end Go.Rs

