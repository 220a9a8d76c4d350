import Derived.Test.YtmgheiagnleeiaaMJ
import Derived.Test.YtmgheiagnleeiaaKO
import Derived.Deep.LoopGhost
set_option linter.all false
set_option linter.unusedSimpArgs false
set_option linter.unusedVariables false
namespace Go.Rs
open Go.Proofs Go.RowKit
set_option maxRecDepth 100000

set_option maxHeartbeats 8000000 in
theorem kmarkRequestS (l : List Req) (k0 : Int) (w : World) (x : Value) (bs : List Nat) (hd : Deep w x (.ps .req l) bs) (hn : bs.Nodup) (ht : Tabs w) (htb : ∀ c ∈ bs, isTab c = false) (h0 : 0 ≤ k0) (hb : k0 + ((totRs l : Nat) : Int) ≤ 4611686018427387904) : Calls Try.prog 10 #[x, .int .i64 k0] w fun e w' => e = .returned (.int .i64 (k0 + ((totRs l : Nat) : Int))) ∧ Deep w' x (.ps .req (mkRs l k0)) bs ∧ Upd w w' bs := by
  rcases hd.inv_ps with ⟨rfl, rfl, a, cap, rfl⟩ | ⟨b, cap, xs, T, bss, h0', rfl, hM, hc, hb', hl, h1, hr, rfl⟩
  · go_enter Try.func10, Try.ntmps10
    go_wp2
    go_loopg [1, 5] 1 (fun g vk vi wr => vk = .int .i64 k0 ∧ vi = .int .i64 0 ∧ wr = w)
    case atStart => exact ⟨rfl, rfl, rfl⟩
    obtain ⟨rfl, rfl, rfl⟩ := hrel
    go_wp2
    go_ret
    exact ⟨by simp [totNs, totIs, totCs, totWs, totFs, totOs, totRs], by rw [show mkRs ([] : List Req) k0 = [] from by simp [mkRs]]; exact .nil .req a cap, .refl _ _⟩
  · generalize hN : l.length = N at *
    have A0 : Aside (k0 + ((totRs l : Nat) : Int) ≤ 4611686018427387904 ∧ N ≤ MX) := ⟨hb, hM⟩
    have A1 : Aside ((b :: inn (N * esz .req) bss).Nodup ∧ Tabs w ∧ ∀ c ∈ b :: inn (N * esz .req) bss, isTab c = false) := ⟨hn, ht, htb⟩
    clear hb hb' hl h1 hr hM hc hn ht htb
    generalize inn (N * esz .req) bss = I at *
    obtain ⟨K1, hK1⟩ : ∃ K1, K1 = k0 + ((totRs l : Nat) : Int) := ⟨_, rfl⟩
    rw [← hK1]
    have A2 : Aside (K1 = k0 + ((totRs l : Nat) : Int)) := hK1
    clear hK1
    go_enter Try.func10, Try.ntmps10
    go_wp2
    go_loopg [1, 5] N (fun g vk vi wr => ∃ (p r : List Req) (k : Int), g = r.length ∧ vk = .int .i64 k ∧ vi = .int .i64 p.length ∧ Aside (Deep wr (.slice (some ⟨b, 0, none⟩) N cap) (.ps .req (p ++ r)) (b :: I) ∧ Upd w wr (b :: I)) ∧ Aside ((p ++ r).length = N ∧ 0 ≤ k ∧ k + ((totRs r : Nat) : Int) = K1 ∧ p ++ mkRs r k = mkRs l k0))
    case atStart => exact ⟨[], l, k0, hN.symm, rfl, rfl, ⟨hd, .refl _ _⟩, hN, h0, A2.out.symm, rfl⟩
    obtain ⟨p, r, k, hg, rfl, rfl, H1, H2⟩ := hrel
    clear hd
    cases r with
    | nil =>
      have hlt : ¬ ((p.length : Int) < (N : Int)) := by have := H2.out.1; simp at this; omega
      go_wp2
      go_ret
      obtain ⟨H3, H4⟩ := H1.out
      obtain ⟨H5, H6, H7, H8⟩ := H2.out
      simp only [mkRs, List.append_nil] at H3 H8
      rw [H8] at H3
      have H7' : k = K1 := by simpa [totNs, totIs, totCs, totWs, totFs, totOs, totRs] using H7
      exact ⟨by simp [H7'], H3, H4⟩
    | cons n r =>
      have hlt : ((p.length : Int) < (N : Int)) := by have := H2.out.1; simp at this; omega
      obtain ⟨D0, U0⟩ := H1.out
      obtain ⟨hlen, hk, hks, hmk⟩ := H2.out
      obtain ⟨hbd, hMX⟩ := A0.out
      obtain ⟨hnd, htw, htb⟩ := A1.out
      have htr := U0.tabs htw htb
      have htn : ((totRs (n :: r) : Nat) : Int) = ((2 + n.want.length + n.avoid.length + totN n.body + totOs n.ops) : Nat) + ((totRs r : Nat) : Int) := by simp [totNs, totIs, totCs, totWs, totFs, totOs, totRs] <;> omega
      rw [htn] at hks
      have hkK : k + ((2 + n.want.length + n.avoid.length + totN n.body + totOs n.ops) : Nat) ≤ 4611686018427387904 := by have := A2.out; omega
      have hz1 : wrap64 ((p.length : Int) + 1) = (p.length : Int) + 1 := wrap_1 (by omega) (by unfold MX at hMX; omega)
      obtain ⟨⟨x3, c1⟩, f2⟩ := D0.cellA hlen (j := 0) (o := p.length * 10) (by simp [esz]) (by decide)
      obtain ⟨D4, U5⟩ := D0.setA hlen hnd (j := 0) (o := p.length * 10) (by simp [esz]) (by decide) (v := Value.int .i64 (k)) (u := .int .i64 (k)) (by exact .int _ _) trivial (y := (⟨k, n.name, n.want, n.avoid, ⟨n.body.kind, n.body.num, n.body.text, n.body.names, n.body.kids⟩, n.ops⟩ : Req)) rfl
      replace hlen : (p ++ (⟨k, n.name, n.want, n.avoid, ⟨n.body.kind, n.body.num, n.body.text, n.body.names, n.body.kids⟩, n.ops⟩ : Req) :: r).length = N := by simpa using hlen
      have e6 : wrap64 (k + 1) = (k + 1) := by exact wrap_1 (by omega) (by simp only [totN_eq] at hkK; omega)
      have ht7 : Tabs (wr.setCell ⟨b, p.length * 10, none⟩ (Value.int .i64 (k))) := ((U0).trans U5).tabs htw htb
      have M8 : Calls Try.prog 22 #[.int .i64 (wrap64 (k + 1))] (wr.setCell ⟨b, p.length * 10, none⟩ (Value.int .i64 (k))) fun e w' => e = .returned (.string ⟨(mkT ((k + 1))).toArray⟩) ∧ Upd (wr.setCell ⟨b, p.length * 10, none⟩ (Value.int .i64 (k))) w' [] := by rw [e6]; exact kmarkText _ _ ht7 (by simp only [totN_eq] at hkK; omega)
      have Zhlen : Aside _ := hlen
      have Zhnd : Aside _ := hnd
      have Zhk : Aside _ := hk
      have Zhks : Aside _ := hks
      have Zhmk : Aside _ := hmk
      have Zhbd : Aside _ := hbd
      have ZhMX : Aside _ := hMX
      have Zhtw : Aside _ := htw
      have Zhtb : Aside _ := htb
      have Zhtr : Aside _ := htr
      have Zhtn : Aside _ := htn
      have ZhkK : Aside _ := hkK
      have Zhz1 : Aside _ := hz1
      have ZU0 : Aside _ := U0
      have ZD0 : Aside _ := D0
      have ZD4 : Aside _ := D4
      have ZU5 : Aside _ := U5
      have Ze6 : Aside _ := e6
      have Zht7 : Aside _ := ht7
      clear ht7 e6 U5 D4 D0 U0 hz1 hkK htn htr htb htw hMX hbd hmk hks hk hnd hlen
      go_wp2_with (go_at_call 22; refine M8.mono ?_)
      first | (intro e w9 hq V10; subst hq) | (rintro e w9 ⟨rfl, V10⟩)
      have hlen := Zhlen.out
      have hnd := Zhnd.out
      have hk := Zhk.out
      have hks := Zhks.out
      have hmk := Zhmk.out
      have hbd := Zhbd.out
      have hMX := ZhMX.out
      have htw := Zhtw.out
      have htb := Zhtb.out
      have htr := Zhtr.out
      have htn := Zhtn.out
      have hkK := ZhkK.out
      have hz1 := Zhz1.out
      have U0 := ZU0.out
      have D0 := ZD0.out
      have D4 := ZD4.out
      have U5 := ZU5.out
      have e6 := Ze6.out
      have ht7 := Zht7.out
      clear Zhlen Zhnd Zhk Zhks Zhmk Zhbd ZhMX Zhtw Zhtb Zhtr Zhtn ZhkK Zhz1 ZU0 ZD0 ZD4 ZU5 Ze6 Zht7
      clear M8 f2 c1
      have U11 := V10.mono (bs' := b :: I) (by simp)
      have D12 := D4.same V10
      obtain ⟨⟨x15, c13⟩, f14⟩ := D12.cellA hlen (j := 1) (o := p.length * 10 + 1) (by simp [esz]) (by decide)
      obtain ⟨D16, U17⟩ := D12.setA hlen hnd (j := 1) (o := p.length * 10 + 1) (by simp [esz]) (by decide) (v := Value.string ⟨(mkT ((k + 1))).toArray⟩) (u := .str (mkT ((k + 1)))) (.str _ (Nat.le_trans (mkT_len (by simp only [totN_eq] at hkK; omega)) (by unfold MX; omega))) trivial (y := (⟨k, mkT ((k + 1)), n.want, n.avoid, ⟨n.body.kind, n.body.num, n.body.text, n.body.names, n.body.kids⟩, n.ops⟩ : Req)) rfl
      replace hlen : (p ++ (⟨k, mkT ((k + 1)), n.want, n.avoid, ⟨n.body.kind, n.body.num, n.body.text, n.body.names, n.body.kids⟩, n.ops⟩ : Req) :: r).length = N := by simpa using hlen
      have e18 : wrap64 (wrap64 (k + 1) + 1) = ((k + 1) + 1) := by rw [e6]; exact wrap_1 (by omega) (by simp only [totN_eq] at hkK; omega)
      have ht19 : Tabs (w9.setCell ⟨b, p.length * 10 + 1, none⟩ (Value.string ⟨(mkT ((k + 1))).toArray⟩)) := ((((U0).trans U5).trans U11).trans U17).tabs htw htb
      obtain ⟨x21, bs22, c23, hd24, hn25, hi26, ret27⟩ := D16.subA hlen hnd (j := 2) (o := p.length * 10 + 2) (by simp [esz]) (by decide) (v := .ps .str n.want) rfl
      have M20 : Calls Try.prog 11 #[x21, .int .i64 (wrap64 (wrap64 (k + 1) + 1))] (w9.setCell ⟨b, p.length * 10 + 1, none⟩ (Value.string ⟨(mkT ((k + 1))).toArray⟩)) fun e w' => e = .returned (.int .i64 (((k + 1) + 1) + ((n.want.length : Nat) : Int))) ∧ Deep w' x21 (.ps .str (mkS n.want (((k + 1) + 1)))) bs22 ∧ Upd (w9.setCell ⟨b, p.length * 10 + 1, none⟩ (Value.string ⟨(mkT ((k + 1))).toArray⟩)) w' bs22 := by rw [e18]; exact kmarkStringS n.want (((k + 1) + 1)) (w9.setCell ⟨b, p.length * 10 + 1, none⟩ (Value.string ⟨(mkT ((k + 1))).toArray⟩)) x21 bs22 hd24 hn25 ht19 (fun c hc => htb c (List.mem_cons_of_mem _ (hi26 c hc))) (by omega) (by simp only [totN_eq] at hkK; omega)
      have Zhlen : Aside _ := hlen
      have Zhnd : Aside _ := hnd
      have Zhk : Aside _ := hk
      have Zhks : Aside _ := hks
      have Zhmk : Aside _ := hmk
      have Zhbd : Aside _ := hbd
      have ZhMX : Aside _ := hMX
      have Zhtw : Aside _ := htw
      have Zhtb : Aside _ := htb
      have Zhtr : Aside _ := htr
      have Zhtn : Aside _ := htn
      have ZhkK : Aside _ := hkK
      have Zhz1 : Aside _ := hz1
      have ZU0 : Aside _ := U0
      have ZD0 : Aside _ := D0
      have ZD4 : Aside _ := D4
      have ZU5 : Aside _ := U5
      have Ze6 : Aside _ := e6
      have Zht7 : Aside _ := ht7
      have ZV10 : Aside _ := V10
      have ZU11 : Aside _ := U11
      have ZD12 : Aside _ := D12
      have ZD16 : Aside _ := D16
      have ZU17 : Aside _ := U17
      have Ze18 : Aside _ := e18
      have Zht19 : Aside _ := ht19
      have Zhd24 : Aside _ := hd24
      have Zhn25 : Aside _ := hn25
      have Zhi26 : Aside _ := hi26
      have Zret27 : Aside _ := ret27
      clear ret27 hi26 hn25 hd24 ht19 e18 U17 D16 D12 U11 V10 ht7 e6 U5 D4 D0 U0 hz1 hkK htn htr htb htw hMX hbd hmk hks hk hnd hlen
      go_wp2_with (go_at_call 11; refine M20.mono ?_)
      first | (intro e w28 hq hd30 V29; subst hq) | (rintro e w28 ⟨rfl, hd30, V29⟩)
      have hlen := Zhlen.out
      have hnd := Zhnd.out
      have hk := Zhk.out
      have hks := Zhks.out
      have hmk := Zhmk.out
      have hbd := Zhbd.out
      have hMX := ZhMX.out
      have htw := Zhtw.out
      have htb := Zhtb.out
      have htr := Zhtr.out
      have htn := Zhtn.out
      have hkK := ZhkK.out
      have hz1 := Zhz1.out
      have U0 := ZU0.out
      have D0 := ZD0.out
      have D4 := ZD4.out
      have U5 := ZU5.out
      have e6 := Ze6.out
      have ht7 := Zht7.out
      have V10 := ZV10.out
      have U11 := ZU11.out
      have D12 := ZD12.out
      have D16 := ZD16.out
      have U17 := ZU17.out
      have e18 := Ze18.out
      have ht19 := Zht19.out
      have hd24 := Zhd24.out
      have hn25 := Zhn25.out
      have hi26 := Zhi26.out
      have ret27 := Zret27.out
      clear Zhlen Zhnd Zhk Zhks Zhmk Zhbd ZhMX Zhtw Zhtb Zhtr Zhtn ZhkK Zhz1 ZU0 ZD0 ZD4 ZU5 Ze6 Zht7 ZV10 ZU11 ZD12 ZD16 ZU17 Ze18 Zht19 Zhd24 Zhn25 Zhi26 Zret27
      clear M20 c23 f14 c13
      have U31 := V29.mono (bs' := b :: I) (fun c hc => List.mem_cons_of_mem _ (hi26 c hc))
      have D32 := ret27 _ _ ((⟨k, mkT ((k + 1)), mkS n.want (((k + 1) + 1)), n.avoid, ⟨n.body.kind, n.body.num, n.body.text, n.body.names, n.body.kids⟩, n.ops⟩ : Req)) hd30 V29 rfl
      replace hlen : (p ++ (⟨k, mkT ((k + 1)), mkS n.want (((k + 1) + 1)), n.avoid, ⟨n.body.kind, n.body.num, n.body.text, n.body.names, n.body.kids⟩, n.ops⟩ : Req) :: r).length = N := by simpa using hlen
      have ht33 : Tabs w28 := (((((U0).trans U5).trans U11).trans U17).trans U31).tabs htw htb
      obtain ⟨x35, bs36, c37, hd38, hn39, hi40, ret41⟩ := D32.subA hlen hnd (j := 3) (o := p.length * 10 + 3) (by simp [esz]) (by decide) (v := .ps .str n.avoid) rfl
      have M34 : Calls Try.prog 11 #[x35, .int .i64 ((((k + 1) + 1) + ((n.want.length : Nat) : Int)))] w28 fun e w' => e = .returned (.int .i64 ((((k + 1) + 1) + ((n.want.length : Nat) : Int)) + ((n.avoid.length : Nat) : Int))) ∧ Deep w' x35 (.ps .str (mkS n.avoid ((((k + 1) + 1) + ((n.want.length : Nat) : Int))))) bs36 ∧ Upd w28 w' bs36 := by exact kmarkStringS n.avoid ((((k + 1) + 1) + ((n.want.length : Nat) : Int))) w28 x35 bs36 hd38 hn39 ht33 (fun c hc => htb c (List.mem_cons_of_mem _ (hi40 c hc))) (by omega) (by simp only [totN_eq] at hkK; omega)
      have Zhlen : Aside _ := hlen
      have Zhnd : Aside _ := hnd
      have Zhk : Aside _ := hk
      have Zhks : Aside _ := hks
      have Zhmk : Aside _ := hmk
      have Zhbd : Aside _ := hbd
      have ZhMX : Aside _ := hMX
      have Zhtw : Aside _ := htw
      have Zhtb : Aside _ := htb
      have Zhtr : Aside _ := htr
      have Zhtn : Aside _ := htn
      have ZhkK : Aside _ := hkK
      have Zhz1 : Aside _ := hz1
      have ZU0 : Aside _ := U0
      have ZD0 : Aside _ := D0
      have ZD4 : Aside _ := D4
      have ZU5 : Aside _ := U5
      have Ze6 : Aside _ := e6
      have Zht7 : Aside _ := ht7
      have ZV10 : Aside _ := V10
      have ZU11 : Aside _ := U11
      have ZD12 : Aside _ := D12
      have ZD16 : Aside _ := D16
      have ZU17 : Aside _ := U17
      have Ze18 : Aside _ := e18
      have Zht19 : Aside _ := ht19
      have Zhd24 : Aside _ := hd24
      have Zhn25 : Aside _ := hn25
      have Zhi26 : Aside _ := hi26
      have Zret27 : Aside _ := ret27
      have Zhd30 : Aside _ := hd30
      have ZV29 : Aside _ := V29
      have ZU31 : Aside _ := U31
      have ZD32 : Aside _ := D32
      have Zht33 : Aside _ := ht33
      have Zhd38 : Aside _ := hd38
      have Zhn39 : Aside _ := hn39
      have Zhi40 : Aside _ := hi40
      have Zret41 : Aside _ := ret41
      clear ret41 hi40 hn39 hd38 ht33 D32 U31 V29 hd30 ret27 hi26 hn25 hd24 ht19 e18 U17 D16 D12 U11 V10 ht7 e6 U5 D4 D0 U0 hz1 hkK htn htr htb htw hMX hbd hmk hks hk hnd hlen
      go_wp2_with (go_at_call 11; refine M34.mono ?_)
      first | (intro e w42 hq hd44 V43; subst hq) | (rintro e w42 ⟨rfl, hd44, V43⟩)
      have hlen := Zhlen.out
      have hnd := Zhnd.out
      have hk := Zhk.out
      have hks := Zhks.out
      have hmk := Zhmk.out
      have hbd := Zhbd.out
      have hMX := ZhMX.out
      have htw := Zhtw.out
      have htb := Zhtb.out
      have htr := Zhtr.out
      have htn := Zhtn.out
      have hkK := ZhkK.out
      have hz1 := Zhz1.out
      have U0 := ZU0.out
      have D0 := ZD0.out
      have D4 := ZD4.out
      have U5 := ZU5.out
      have e6 := Ze6.out
      have ht7 := Zht7.out
      have V10 := ZV10.out
      have U11 := ZU11.out
      have D12 := ZD12.out
      have D16 := ZD16.out
      have U17 := ZU17.out
      have e18 := Ze18.out
      have ht19 := Zht19.out
      have hd24 := Zhd24.out
      have hn25 := Zhn25.out
      have hi26 := Zhi26.out
      have ret27 := Zret27.out
      have hd30 := Zhd30.out
      have V29 := ZV29.out
      have U31 := ZU31.out
      have D32 := ZD32.out
      have ht33 := Zht33.out
      have hd38 := Zhd38.out
      have hn39 := Zhn39.out
      have hi40 := Zhi40.out
      have ret41 := Zret41.out
      clear Zhlen Zhnd Zhk Zhks Zhmk Zhbd ZhMX Zhtw Zhtb Zhtr Zhtn ZhkK Zhz1 ZU0 ZD0 ZD4 ZU5 Ze6 Zht7 ZV10 ZU11 ZD12 ZD16 ZU17 Ze18 Zht19 Zhd24 Zhn25 Zhi26 Zret27 Zhd30 ZV29 ZU31 ZD32 Zht33 Zhd38 Zhn39 Zhi40 Zret41
      clear M34 c37
      have U45 := V43.mono (bs' := b :: I) (fun c hc => List.mem_cons_of_mem _ (hi40 c hc))
      have D46 := ret41 _ _ ((⟨k, mkT ((k + 1)), mkS n.want (((k + 1) + 1)), mkS n.avoid ((((k + 1) + 1) + ((n.want.length : Nat) : Int))), ⟨n.body.kind, n.body.num, n.body.text, n.body.names, n.body.kids⟩, n.ops⟩ : Req)) hd44 V43 rfl
      replace hlen : (p ++ (⟨k, mkT ((k + 1)), mkS n.want (((k + 1) + 1)), mkS n.avoid ((((k + 1) + 1) + ((n.want.length : Nat) : Int))), ⟨n.body.kind, n.body.num, n.body.text, n.body.names, n.body.kids⟩, n.ops⟩ : Req) :: r).length = N := by simpa using hlen
      obtain ⟨⟨x49, c47⟩, f48⟩ := D46.cellA hlen (j := 4) (o := p.length * 10 + 4) (by simp [esz]) (by decide)
      obtain ⟨D50, U51⟩ := D46.setA hlen hnd (j := 4) (o := p.length * 10 + 4) (by simp [esz]) (by decide) (v := Value.int .i64 (((((k + 1) + 1) + ((n.want.length : Nat) : Int)) + ((n.avoid.length : Nat) : Int)))) (u := .int .i64 (((((k + 1) + 1) + ((n.want.length : Nat) : Int)) + ((n.avoid.length : Nat) : Int)))) (by exact .int _ _) trivial (y := (⟨k, mkT ((k + 1)), mkS n.want (((k + 1) + 1)), mkS n.avoid ((((k + 1) + 1) + ((n.want.length : Nat) : Int))), ⟨((((k + 1) + 1) + ((n.want.length : Nat) : Int)) + ((n.avoid.length : Nat) : Int)), n.body.num, n.body.text, n.body.names, n.body.kids⟩, n.ops⟩ : Req)) rfl
      replace hlen : (p ++ (⟨k, mkT ((k + 1)), mkS n.want (((k + 1) + 1)), mkS n.avoid ((((k + 1) + 1) + ((n.want.length : Nat) : Int))), ⟨((((k + 1) + 1) + ((n.want.length : Nat) : Int)) + ((n.avoid.length : Nat) : Int)), n.body.num, n.body.text, n.body.names, n.body.kids⟩, n.ops⟩ : Req) :: r).length = N := by simpa using hlen
      have e52 : wrap64 (((((k + 1) + 1) + ((n.want.length : Nat) : Int)) + ((n.avoid.length : Nat) : Int)) + 1) = (((((k + 1) + 1) + ((n.want.length : Nat) : Int)) + ((n.avoid.length : Nat) : Int)) + 1) := by exact wrap_1 (by omega) (by simp only [totN_eq] at hkK; omega)
      obtain ⟨⟨x55, c53⟩, f54⟩ := D50.cellA hlen (j := 5) (o := p.length * 10 + 5) (by simp [esz]) (by decide)
      obtain ⟨D56, U57⟩ := D50.setA hlen hnd (j := 5) (o := p.length * 10 + 5) (by simp [esz]) (by decide) (v := Value.int .i64 (wrap64 (((((k + 1) + 1) + ((n.want.length : Nat) : Int)) + ((n.avoid.length : Nat) : Int)) + 1))) (u := .int .i64 ((((((k + 1) + 1) + ((n.want.length : Nat) : Int)) + ((n.avoid.length : Nat) : Int)) + 1))) (by rw [e52]; exact .int _ _) trivial (y := (⟨k, mkT ((k + 1)), mkS n.want (((k + 1) + 1)), mkS n.avoid ((((k + 1) + 1) + ((n.want.length : Nat) : Int))), ⟨((((k + 1) + 1) + ((n.want.length : Nat) : Int)) + ((n.avoid.length : Nat) : Int)), (((((k + 1) + 1) + ((n.want.length : Nat) : Int)) + ((n.avoid.length : Nat) : Int)) + 1), n.body.text, n.body.names, n.body.kids⟩, n.ops⟩ : Req)) rfl
      replace hlen : (p ++ (⟨k, mkT ((k + 1)), mkS n.want (((k + 1) + 1)), mkS n.avoid ((((k + 1) + 1) + ((n.want.length : Nat) : Int))), ⟨((((k + 1) + 1) + ((n.want.length : Nat) : Int)) + ((n.avoid.length : Nat) : Int)), (((((k + 1) + 1) + ((n.want.length : Nat) : Int)) + ((n.avoid.length : Nat) : Int)) + 1), n.body.text, n.body.names, n.body.kids⟩, n.ops⟩ : Req) :: r).length = N := by simpa using hlen
      have e58 : wrap64 (wrap64 (((((k + 1) + 1) + ((n.want.length : Nat) : Int)) + ((n.avoid.length : Nat) : Int)) + 1) + 1) = ((((((k + 1) + 1) + ((n.want.length : Nat) : Int)) + ((n.avoid.length : Nat) : Int)) + 1) + 1) := by rw [e52]; exact wrap_1 (by omega) (by simp only [totN_eq] at hkK; omega)
      have ht59 : Tabs ((w42.setCell ⟨b, p.length * 10 + 4, none⟩ (Value.int .i64 (((((k + 1) + 1) + ((n.want.length : Nat) : Int)) + ((n.avoid.length : Nat) : Int))))).setCell ⟨b, p.length * 10 + 5, none⟩ (Value.int .i64 (wrap64 (((((k + 1) + 1) + ((n.want.length : Nat) : Int)) + ((n.avoid.length : Nat) : Int)) + 1)))) := ((((((((U0).trans U5).trans U11).trans U17).trans U31).trans U45).trans U51).trans U57).tabs htw htb
      have M60 : Calls Try.prog 22 #[.int .i64 (wrap64 (wrap64 (((((k + 1) + 1) + ((n.want.length : Nat) : Int)) + ((n.avoid.length : Nat) : Int)) + 1) + 1))] ((w42.setCell ⟨b, p.length * 10 + 4, none⟩ (Value.int .i64 (((((k + 1) + 1) + ((n.want.length : Nat) : Int)) + ((n.avoid.length : Nat) : Int))))).setCell ⟨b, p.length * 10 + 5, none⟩ (Value.int .i64 (wrap64 (((((k + 1) + 1) + ((n.want.length : Nat) : Int)) + ((n.avoid.length : Nat) : Int)) + 1)))) fun e w' => e = .returned (.string ⟨(mkT (((((((k + 1) + 1) + ((n.want.length : Nat) : Int)) + ((n.avoid.length : Nat) : Int)) + 1) + 1))).toArray⟩) ∧ Upd ((w42.setCell ⟨b, p.length * 10 + 4, none⟩ (Value.int .i64 (((((k + 1) + 1) + ((n.want.length : Nat) : Int)) + ((n.avoid.length : Nat) : Int))))).setCell ⟨b, p.length * 10 + 5, none⟩ (Value.int .i64 (wrap64 (((((k + 1) + 1) + ((n.want.length : Nat) : Int)) + ((n.avoid.length : Nat) : Int)) + 1)))) w' [] := by rw [e58]; exact kmarkText _ _ ht59 (by simp only [totN_eq] at hkK; omega)
      have Zhlen : Aside _ := hlen
      have Zhnd : Aside _ := hnd
      have Zhk : Aside _ := hk
      have Zhks : Aside _ := hks
      have Zhmk : Aside _ := hmk
      have Zhbd : Aside _ := hbd
      have ZhMX : Aside _ := hMX
      have Zhtw : Aside _ := htw
      have Zhtb : Aside _ := htb
      have Zhtr : Aside _ := htr
      have Zhtn : Aside _ := htn
      have ZhkK : Aside _ := hkK
      have Zhz1 : Aside _ := hz1
      have ZU0 : Aside _ := U0
      have ZD0 : Aside _ := D0
      have ZD4 : Aside _ := D4
      have ZU5 : Aside _ := U5
      have Ze6 : Aside _ := e6
      have Zht7 : Aside _ := ht7
      have ZV10 : Aside _ := V10
      have ZU11 : Aside _ := U11
      have ZD12 : Aside _ := D12
      have ZD16 : Aside _ := D16
      have ZU17 : Aside _ := U17
      have Ze18 : Aside _ := e18
      have Zht19 : Aside _ := ht19
      have Zhd24 : Aside _ := hd24
      have Zhn25 : Aside _ := hn25
      have Zhi26 : Aside _ := hi26
      have Zret27 : Aside _ := ret27
      have Zhd30 : Aside _ := hd30
      have ZV29 : Aside _ := V29
      have ZU31 : Aside _ := U31
      have ZD32 : Aside _ := D32
      have Zht33 : Aside _ := ht33
      have Zhd38 : Aside _ := hd38
      have Zhn39 : Aside _ := hn39
      have Zhi40 : Aside _ := hi40
      have Zret41 : Aside _ := ret41
      have Zhd44 : Aside _ := hd44
      have ZV43 : Aside _ := V43
      have ZU45 : Aside _ := U45
      have ZD46 : Aside _ := D46
      have ZD50 : Aside _ := D50
      have ZU51 : Aside _ := U51
      have Ze52 : Aside _ := e52
      have ZD56 : Aside _ := D56
      have ZU57 : Aside _ := U57
      have Ze58 : Aside _ := e58
      have Zht59 : Aside _ := ht59
      clear ht59 e58 U57 D56 e52 U51 D50 D46 U45 V43 hd44 ret41 hi40 hn39 hd38 ht33 D32 U31 V29 hd30 ret27 hi26 hn25 hd24 ht19 e18 U17 D16 D12 U11 V10 ht7 e6 U5 D4 D0 U0 hz1 hkK htn htr htb htw hMX hbd hmk hks hk hnd hlen
      go_wp2_with (go_at_call 22; refine M60.mono ?_)
      first | (intro e w61 hq V62; subst hq) | (rintro e w61 ⟨rfl, V62⟩)
      have hlen := Zhlen.out
      have hnd := Zhnd.out
      have hk := Zhk.out
      have hks := Zhks.out
      have hmk := Zhmk.out
      have hbd := Zhbd.out
      have hMX := ZhMX.out
      have htw := Zhtw.out
      have htb := Zhtb.out
      have htr := Zhtr.out
      have htn := Zhtn.out
      have hkK := ZhkK.out
      have hz1 := Zhz1.out
      have U0 := ZU0.out
      have D0 := ZD0.out
      have D4 := ZD4.out
      have U5 := ZU5.out
      have e6 := Ze6.out
      have ht7 := Zht7.out
      have V10 := ZV10.out
      have U11 := ZU11.out
      have D12 := ZD12.out
      have D16 := ZD16.out
      have U17 := ZU17.out
      have e18 := Ze18.out
      have ht19 := Zht19.out
      have hd24 := Zhd24.out
      have hn25 := Zhn25.out
      have hi26 := Zhi26.out
      have ret27 := Zret27.out
      have hd30 := Zhd30.out
      have V29 := ZV29.out
      have U31 := ZU31.out
      have D32 := ZD32.out
      have ht33 := Zht33.out
      have hd38 := Zhd38.out
      have hn39 := Zhn39.out
      have hi40 := Zhi40.out
      have ret41 := Zret41.out
      have hd44 := Zhd44.out
      have V43 := ZV43.out
      have U45 := ZU45.out
      have D46 := ZD46.out
      have D50 := ZD50.out
      have U51 := ZU51.out
      have e52 := Ze52.out
      have D56 := ZD56.out
      have U57 := ZU57.out
      have e58 := Ze58.out
      have ht59 := Zht59.out
      clear Zhlen Zhnd Zhk Zhks Zhmk Zhbd ZhMX Zhtw Zhtb Zhtr Zhtn ZhkK Zhz1 ZU0 ZD0 ZD4 ZU5 Ze6 Zht7 ZV10 ZU11 ZD12 ZD16 ZU17 Ze18 Zht19 Zhd24 Zhn25 Zhi26 Zret27 Zhd30 ZV29 ZU31 ZD32 Zht33 Zhd38 Zhn39 Zhi40 Zret41 Zhd44 ZV43 ZU45 ZD46 ZD50 ZU51 Ze52 ZD56 ZU57 Ze58 Zht59
      clear M60 f54 c53 f48 c47
      have U63 := V62.mono (bs' := b :: I) (by simp)
      have D64 := D56.same V62
      obtain ⟨⟨x67, c65⟩, f66⟩ := D64.cellA hlen (j := 6) (o := p.length * 10 + 6) (by simp [esz]) (by decide)
      obtain ⟨D68, U69⟩ := D64.setA hlen hnd (j := 6) (o := p.length * 10 + 6) (by simp [esz]) (by decide) (v := Value.string ⟨(mkT (((((((k + 1) + 1) + ((n.want.length : Nat) : Int)) + ((n.avoid.length : Nat) : Int)) + 1) + 1))).toArray⟩) (u := .str (mkT (((((((k + 1) + 1) + ((n.want.length : Nat) : Int)) + ((n.avoid.length : Nat) : Int)) + 1) + 1)))) (.str _ (Nat.le_trans (mkT_len (by simp only [totN_eq] at hkK; omega)) (by unfold MX; omega))) trivial (y := (⟨k, mkT ((k + 1)), mkS n.want (((k + 1) + 1)), mkS n.avoid ((((k + 1) + 1) + ((n.want.length : Nat) : Int))), ⟨((((k + 1) + 1) + ((n.want.length : Nat) : Int)) + ((n.avoid.length : Nat) : Int)), (((((k + 1) + 1) + ((n.want.length : Nat) : Int)) + ((n.avoid.length : Nat) : Int)) + 1), mkT (((((((k + 1) + 1) + ((n.want.length : Nat) : Int)) + ((n.avoid.length : Nat) : Int)) + 1) + 1)), n.body.names, n.body.kids⟩, n.ops⟩ : Req)) rfl
      replace hlen : (p ++ (⟨k, mkT ((k + 1)), mkS n.want (((k + 1) + 1)), mkS n.avoid ((((k + 1) + 1) + ((n.want.length : Nat) : Int))), ⟨((((k + 1) + 1) + ((n.want.length : Nat) : Int)) + ((n.avoid.length : Nat) : Int)), (((((k + 1) + 1) + ((n.want.length : Nat) : Int)) + ((n.avoid.length : Nat) : Int)) + 1), mkT (((((((k + 1) + 1) + ((n.want.length : Nat) : Int)) + ((n.avoid.length : Nat) : Int)) + 1) + 1)), n.body.names, n.body.kids⟩, n.ops⟩ : Req) :: r).length = N := by simpa using hlen
      have e70 : wrap64 (wrap64 (wrap64 (((((k + 1) + 1) + ((n.want.length : Nat) : Int)) + ((n.avoid.length : Nat) : Int)) + 1) + 1) + 1) = (((((((k + 1) + 1) + ((n.want.length : Nat) : Int)) + ((n.avoid.length : Nat) : Int)) + 1) + 1) + 1) := by rw [e58]; exact wrap_1 (by omega) (by simp only [totN_eq] at hkK; omega)
      have ht71 : Tabs (w61.setCell ⟨b, p.length * 10 + 6, none⟩ (Value.string ⟨(mkT (((((((k + 1) + 1) + ((n.want.length : Nat) : Int)) + ((n.avoid.length : Nat) : Int)) + 1) + 1))).toArray⟩)) := ((((((((((U0).trans U5).trans U11).trans U17).trans U31).trans U45).trans U51).trans U57).trans U63).trans U69).tabs htw htb
      obtain ⟨x73, bs74, c75, hd76, hn77, hi78, ret79⟩ := D68.subA hlen hnd (j := 7) (o := p.length * 10 + 7) (by simp [esz]) (by decide) (v := .ps .str n.body.names) rfl
      have M72 : Calls Try.prog 11 #[x73, .int .i64 (wrap64 (wrap64 (wrap64 (((((k + 1) + 1) + ((n.want.length : Nat) : Int)) + ((n.avoid.length : Nat) : Int)) + 1) + 1) + 1))] (w61.setCell ⟨b, p.length * 10 + 6, none⟩ (Value.string ⟨(mkT (((((((k + 1) + 1) + ((n.want.length : Nat) : Int)) + ((n.avoid.length : Nat) : Int)) + 1) + 1))).toArray⟩)) fun e w' => e = .returned (.int .i64 ((((((((k + 1) + 1) + ((n.want.length : Nat) : Int)) + ((n.avoid.length : Nat) : Int)) + 1) + 1) + 1) + ((n.body.names.length : Nat) : Int))) ∧ Deep w' x73 (.ps .str (mkS n.body.names ((((((((k + 1) + 1) + ((n.want.length : Nat) : Int)) + ((n.avoid.length : Nat) : Int)) + 1) + 1) + 1)))) bs74 ∧ Upd (w61.setCell ⟨b, p.length * 10 + 6, none⟩ (Value.string ⟨(mkT (((((((k + 1) + 1) + ((n.want.length : Nat) : Int)) + ((n.avoid.length : Nat) : Int)) + 1) + 1))).toArray⟩)) w' bs74 := by rw [e70]; exact kmarkStringS n.body.names ((((((((k + 1) + 1) + ((n.want.length : Nat) : Int)) + ((n.avoid.length : Nat) : Int)) + 1) + 1) + 1)) (w61.setCell ⟨b, p.length * 10 + 6, none⟩ (Value.string ⟨(mkT (((((((k + 1) + 1) + ((n.want.length : Nat) : Int)) + ((n.avoid.length : Nat) : Int)) + 1) + 1))).toArray⟩)) x73 bs74 hd76 hn77 ht71 (fun c hc => htb c (List.mem_cons_of_mem _ (hi78 c hc))) (by omega) (by simp only [totN_eq] at hkK; omega)
      have Zhlen : Aside _ := hlen
      have Zhnd : Aside _ := hnd
      have Zhk : Aside _ := hk
      have Zhks : Aside _ := hks
      have Zhmk : Aside _ := hmk
      have Zhbd : Aside _ := hbd
      have ZhMX : Aside _ := hMX
      have Zhtw : Aside _ := htw
      have Zhtb : Aside _ := htb
      have Zhtr : Aside _ := htr
      have Zhtn : Aside _ := htn
      have ZhkK : Aside _ := hkK
      have Zhz1 : Aside _ := hz1
      have ZU0 : Aside _ := U0
      have ZD0 : Aside _ := D0
      have ZD4 : Aside _ := D4
      have ZU5 : Aside _ := U5
      have Ze6 : Aside _ := e6
      have Zht7 : Aside _ := ht7
      have ZV10 : Aside _ := V10
      have ZU11 : Aside _ := U11
      have ZD12 : Aside _ := D12
      have ZD16 : Aside _ := D16
      have ZU17 : Aside _ := U17
      have Ze18 : Aside _ := e18
      have Zht19 : Aside _ := ht19
      have Zhd24 : Aside _ := hd24
      have Zhn25 : Aside _ := hn25
      have Zhi26 : Aside _ := hi26
      have Zret27 : Aside _ := ret27
      have Zhd30 : Aside _ := hd30
      have ZV29 : Aside _ := V29
      have ZU31 : Aside _ := U31
      have ZD32 : Aside _ := D32
      have Zht33 : Aside _ := ht33
      have Zhd38 : Aside _ := hd38
      have Zhn39 : Aside _ := hn39
      have Zhi40 : Aside _ := hi40
      have Zret41 : Aside _ := ret41
      have Zhd44 : Aside _ := hd44
      have ZV43 : Aside _ := V43
      have ZU45 : Aside _ := U45
      have ZD46 : Aside _ := D46
      have ZD50 : Aside _ := D50
      have ZU51 : Aside _ := U51
      have Ze52 : Aside _ := e52
      have ZD56 : Aside _ := D56
      have ZU57 : Aside _ := U57
      have Ze58 : Aside _ := e58
      have Zht59 : Aside _ := ht59
      have ZV62 : Aside _ := V62
      have ZU63 : Aside _ := U63
      have ZD64 : Aside _ := D64
      have ZD68 : Aside _ := D68
      have ZU69 : Aside _ := U69
      have Ze70 : Aside _ := e70
      have Zht71 : Aside _ := ht71
      have Zhd76 : Aside _ := hd76
      have Zhn77 : Aside _ := hn77
      have Zhi78 : Aside _ := hi78
      have Zret79 : Aside _ := ret79
      clear ret79 hi78 hn77 hd76 ht71 e70 U69 D68 D64 U63 V62 ht59 e58 U57 D56 e52 U51 D50 D46 U45 V43 hd44 ret41 hi40 hn39 hd38 ht33 D32 U31 V29 hd30 ret27 hi26 hn25 hd24 ht19 e18 U17 D16 D12 U11 V10 ht7 e6 U5 D4 D0 U0 hz1 hkK htn htr htb htw hMX hbd hmk hks hk hnd hlen
      go_wp2_with (go_at_call 11; refine M72.mono ?_)
      first | (intro e w80 hq hd82 V81; subst hq) | (rintro e w80 ⟨rfl, hd82, V81⟩)
      have hlen := Zhlen.out
      have hnd := Zhnd.out
      have hk := Zhk.out
      have hks := Zhks.out
      have hmk := Zhmk.out
      have hbd := Zhbd.out
      have hMX := ZhMX.out
      have htw := Zhtw.out
      have htb := Zhtb.out
      have htr := Zhtr.out
      have htn := Zhtn.out
      have hkK := ZhkK.out
      have hz1 := Zhz1.out
      have U0 := ZU0.out
      have D0 := ZD0.out
      have D4 := ZD4.out
      have U5 := ZU5.out
      have e6 := Ze6.out
      have ht7 := Zht7.out
      have V10 := ZV10.out
      have U11 := ZU11.out
      have D12 := ZD12.out
      have D16 := ZD16.out
      have U17 := ZU17.out
      have e18 := Ze18.out
      have ht19 := Zht19.out
      have hd24 := Zhd24.out
      have hn25 := Zhn25.out
      have hi26 := Zhi26.out
      have ret27 := Zret27.out
      have hd30 := Zhd30.out
      have V29 := ZV29.out
      have U31 := ZU31.out
      have D32 := ZD32.out
      have ht33 := Zht33.out
      have hd38 := Zhd38.out
      have hn39 := Zhn39.out
      have hi40 := Zhi40.out
      have ret41 := Zret41.out
      have hd44 := Zhd44.out
      have V43 := ZV43.out
      have U45 := ZU45.out
      have D46 := ZD46.out
      have D50 := ZD50.out
      have U51 := ZU51.out
      have e52 := Ze52.out
      have D56 := ZD56.out
      have U57 := ZU57.out
      have e58 := Ze58.out
      have ht59 := Zht59.out
      have V62 := ZV62.out
      have U63 := ZU63.out
      have D64 := ZD64.out
      have D68 := ZD68.out
      have U69 := ZU69.out
      have e70 := Ze70.out
      have ht71 := Zht71.out
      have hd76 := Zhd76.out
      have hn77 := Zhn77.out
      have hi78 := Zhi78.out
      have ret79 := Zret79.out
      clear Zhlen Zhnd Zhk Zhks Zhmk Zhbd ZhMX Zhtw Zhtb Zhtr Zhtn ZhkK Zhz1 ZU0 ZD0 ZD4 ZU5 Ze6 Zht7 ZV10 ZU11 ZD12 ZD16 ZU17 Ze18 Zht19 Zhd24 Zhn25 Zhi26 Zret27 Zhd30 ZV29 ZU31 ZD32 Zht33 Zhd38 Zhn39 Zhi40 Zret41 Zhd44 ZV43 ZU45 ZD46 ZD50 ZU51 Ze52 ZD56 ZU57 Ze58 Zht59 ZV62 ZU63 ZD64 ZD68 ZU69 Ze70 Zht71 Zhd76 Zhn77 Zhi78 Zret79
      clear M72 c75 f66 c65
      have U83 := V81.mono (bs' := b :: I) (fun c hc => List.mem_cons_of_mem _ (hi78 c hc))
      have D84 := ret79 _ _ ((⟨k, mkT ((k + 1)), mkS n.want (((k + 1) + 1)), mkS n.avoid ((((k + 1) + 1) + ((n.want.length : Nat) : Int))), ⟨((((k + 1) + 1) + ((n.want.length : Nat) : Int)) + ((n.avoid.length : Nat) : Int)), (((((k + 1) + 1) + ((n.want.length : Nat) : Int)) + ((n.avoid.length : Nat) : Int)) + 1), mkT (((((((k + 1) + 1) + ((n.want.length : Nat) : Int)) + ((n.avoid.length : Nat) : Int)) + 1) + 1)), mkS n.body.names ((((((((k + 1) + 1) + ((n.want.length : Nat) : Int)) + ((n.avoid.length : Nat) : Int)) + 1) + 1) + 1)), n.body.kids⟩, n.ops⟩ : Req)) hd82 V81 rfl
      replace hlen : (p ++ (⟨k, mkT ((k + 1)), mkS n.want (((k + 1) + 1)), mkS n.avoid ((((k + 1) + 1) + ((n.want.length : Nat) : Int))), ⟨((((k + 1) + 1) + ((n.want.length : Nat) : Int)) + ((n.avoid.length : Nat) : Int)), (((((k + 1) + 1) + ((n.want.length : Nat) : Int)) + ((n.avoid.length : Nat) : Int)) + 1), mkT (((((((k + 1) + 1) + ((n.want.length : Nat) : Int)) + ((n.avoid.length : Nat) : Int)) + 1) + 1)), mkS n.body.names ((((((((k + 1) + 1) + ((n.want.length : Nat) : Int)) + ((n.avoid.length : Nat) : Int)) + 1) + 1) + 1)), n.body.kids⟩, n.ops⟩ : Req) :: r).length = N := by simpa using hlen
      have ht85 : Tabs w80 := (((((((((((U0).trans U5).trans U11).trans U17).trans U31).trans U45).trans U51).trans U57).trans U63).trans U69).trans U83).tabs htw htb
      obtain ⟨x87, bs88, c89, hd90, hn91, hi92, ret93⟩ := D84.subA hlen hnd (j := 8) (o := p.length * 10 + 8) (by simp [esz]) (by decide) (v := .ps .node n.body.kids) rfl
      have M86 : Calls Try.prog 23 #[x87, .int .i64 (((((((((k + 1) + 1) + ((n.want.length : Nat) : Int)) + ((n.avoid.length : Nat) : Int)) + 1) + 1) + 1) + ((n.body.names.length : Nat) : Int)))] w80 fun e w' => e = .returned (.int .i64 (((((((((k + 1) + 1) + ((n.want.length : Nat) : Int)) + ((n.avoid.length : Nat) : Int)) + 1) + 1) + 1) + ((n.body.names.length : Nat) : Int)) + ((totNs n.body.kids : Nat) : Int))) ∧ Deep w' x87 (.ps .node (mkNs n.body.kids (((((((((k + 1) + 1) + ((n.want.length : Nat) : Int)) + ((n.avoid.length : Nat) : Int)) + 1) + 1) + 1) + ((n.body.names.length : Nat) : Int))))) bs88 ∧ Upd w80 w' bs88 := by exact kmarkNodeS n.body.kids (((((((((k + 1) + 1) + ((n.want.length : Nat) : Int)) + ((n.avoid.length : Nat) : Int)) + 1) + 1) + 1) + ((n.body.names.length : Nat) : Int))) w80 x87 bs88 hd90 hn91 ht85 (fun c hc => htb c (List.mem_cons_of_mem _ (hi92 c hc))) (by omega) (by simp only [totN_eq] at hkK; omega)
      have Zhlen : Aside _ := hlen
      have Zhnd : Aside _ := hnd
      have Zhk : Aside _ := hk
      have Zhks : Aside _ := hks
      have Zhmk : Aside _ := hmk
      have Zhbd : Aside _ := hbd
      have ZhMX : Aside _ := hMX
      have Zhtw : Aside _ := htw
      have Zhtb : Aside _ := htb
      have Zhtr : Aside _ := htr
      have Zhtn : Aside _ := htn
      have ZhkK : Aside _ := hkK
      have Zhz1 : Aside _ := hz1
      have ZU0 : Aside _ := U0
      have ZD0 : Aside _ := D0
      have ZD4 : Aside _ := D4
      have ZU5 : Aside _ := U5
      have Ze6 : Aside _ := e6
      have Zht7 : Aside _ := ht7
      have ZV10 : Aside _ := V10
      have ZU11 : Aside _ := U11
      have ZD12 : Aside _ := D12
      have ZD16 : Aside _ := D16
      have ZU17 : Aside _ := U17
      have Ze18 : Aside _ := e18
      have Zht19 : Aside _ := ht19
      have Zhd24 : Aside _ := hd24
      have Zhn25 : Aside _ := hn25
      have Zhi26 : Aside _ := hi26
      have Zret27 : Aside _ := ret27
      have Zhd30 : Aside _ := hd30
      have ZV29 : Aside _ := V29
      have ZU31 : Aside _ := U31
      have ZD32 : Aside _ := D32
      have Zht33 : Aside _ := ht33
      have Zhd38 : Aside _ := hd38
      have Zhn39 : Aside _ := hn39
      have Zhi40 : Aside _ := hi40
      have Zret41 : Aside _ := ret41
      have Zhd44 : Aside _ := hd44
      have ZV43 : Aside _ := V43
      have ZU45 : Aside _ := U45
      have ZD46 : Aside _ := D46
      have ZD50 : Aside _ := D50
      have ZU51 : Aside _ := U51
      have Ze52 : Aside _ := e52
      have ZD56 : Aside _ := D56
      have ZU57 : Aside _ := U57
      have Ze58 : Aside _ := e58
      have Zht59 : Aside _ := ht59
      have ZV62 : Aside _ := V62
      have ZU63 : Aside _ := U63
      have ZD64 : Aside _ := D64
      have ZD68 : Aside _ := D68
      have ZU69 : Aside _ := U69
      have Ze70 : Aside _ := e70
      have Zht71 : Aside _ := ht71
      have Zhd76 : Aside _ := hd76
      have Zhn77 : Aside _ := hn77
      have Zhi78 : Aside _ := hi78
      have Zret79 : Aside _ := ret79
      have Zhd82 : Aside _ := hd82
      have ZV81 : Aside _ := V81
      have ZU83 : Aside _ := U83
      have ZD84 : Aside _ := D84
      have Zht85 : Aside _ := ht85
      have Zhd90 : Aside _ := hd90
      have Zhn91 : Aside _ := hn91
      have Zhi92 : Aside _ := hi92
      have Zret93 : Aside _ := ret93
      clear ret93 hi92 hn91 hd90 ht85 D84 U83 V81 hd82 ret79 hi78 hn77 hd76 ht71 e70 U69 D68 D64 U63 V62 ht59 e58 U57 D56 e52 U51 D50 D46 U45 V43 hd44 ret41 hi40 hn39 hd38 ht33 D32 U31 V29 hd30 ret27 hi26 hn25 hd24 ht19 e18 U17 D16 D12 U11 V10 ht7 e6 U5 D4 D0 U0 hz1 hkK htn htr htb htw hMX hbd hmk hks hk hnd hlen
      go_wp2_with (go_at_call 23; refine M86.mono ?_)
      first | (intro e w94 hq hd96 V95; subst hq) | (rintro e w94 ⟨rfl, hd96, V95⟩)
      have hlen := Zhlen.out
      have hnd := Zhnd.out
      have hk := Zhk.out
      have hks := Zhks.out
      have hmk := Zhmk.out
      have hbd := Zhbd.out
      have hMX := ZhMX.out
      have htw := Zhtw.out
      have htb := Zhtb.out
      have htr := Zhtr.out
      have htn := Zhtn.out
      have hkK := ZhkK.out
      have hz1 := Zhz1.out
      have U0 := ZU0.out
      have D0 := ZD0.out
      have D4 := ZD4.out
      have U5 := ZU5.out
      have e6 := Ze6.out
      have ht7 := Zht7.out
      have V10 := ZV10.out
      have U11 := ZU11.out
      have D12 := ZD12.out
      have D16 := ZD16.out
      have U17 := ZU17.out
      have e18 := Ze18.out
      have ht19 := Zht19.out
      have hd24 := Zhd24.out
      have hn25 := Zhn25.out
      have hi26 := Zhi26.out
      have ret27 := Zret27.out
      have hd30 := Zhd30.out
      have V29 := ZV29.out
      have U31 := ZU31.out
      have D32 := ZD32.out
      have ht33 := Zht33.out
      have hd38 := Zhd38.out
      have hn39 := Zhn39.out
      have hi40 := Zhi40.out
      have ret41 := Zret41.out
      have hd44 := Zhd44.out
      have V43 := ZV43.out
      have U45 := ZU45.out
      have D46 := ZD46.out
      have D50 := ZD50.out
      have U51 := ZU51.out
      have e52 := Ze52.out
      have D56 := ZD56.out
      have U57 := ZU57.out
      have e58 := Ze58.out
      have ht59 := Zht59.out
      have V62 := ZV62.out
      have U63 := ZU63.out
      have D64 := ZD64.out
      have D68 := ZD68.out
      have U69 := ZU69.out
      have e70 := Ze70.out
      have ht71 := Zht71.out
      have hd76 := Zhd76.out
      have hn77 := Zhn77.out
      have hi78 := Zhi78.out
      have ret79 := Zret79.out
      have hd82 := Zhd82.out
      have V81 := ZV81.out
      have U83 := ZU83.out
      have D84 := ZD84.out
      have ht85 := Zht85.out
      have hd90 := Zhd90.out
      have hn91 := Zhn91.out
      have hi92 := Zhi92.out
      have ret93 := Zret93.out
      clear Zhlen Zhnd Zhk Zhks Zhmk Zhbd ZhMX Zhtw Zhtb Zhtr Zhtn ZhkK Zhz1 ZU0 ZD0 ZD4 ZU5 Ze6 Zht7 ZV10 ZU11 ZD12 ZD16 ZU17 Ze18 Zht19 Zhd24 Zhn25 Zhi26 Zret27 Zhd30 ZV29 ZU31 ZD32 Zht33 Zhd38 Zhn39 Zhi40 Zret41 Zhd44 ZV43 ZU45 ZD46 ZD50 ZU51 Ze52 ZD56 ZU57 Ze58 Zht59 ZV62 ZU63 ZD64 ZD68 ZU69 Ze70 Zht71 Zhd76 Zhn77 Zhi78 Zret79 Zhd82 ZV81 ZU83 ZD84 Zht85 Zhd90 Zhn91 Zhi92 Zret93
      clear M86 c89
      have U97 := V95.mono (bs' := b :: I) (fun c hc => List.mem_cons_of_mem _ (hi92 c hc))
      have D98 := ret93 _ _ ((⟨k, mkT ((k + 1)), mkS n.want (((k + 1) + 1)), mkS n.avoid ((((k + 1) + 1) + ((n.want.length : Nat) : Int))), ⟨((((k + 1) + 1) + ((n.want.length : Nat) : Int)) + ((n.avoid.length : Nat) : Int)), (((((k + 1) + 1) + ((n.want.length : Nat) : Int)) + ((n.avoid.length : Nat) : Int)) + 1), mkT (((((((k + 1) + 1) + ((n.want.length : Nat) : Int)) + ((n.avoid.length : Nat) : Int)) + 1) + 1)), mkS n.body.names ((((((((k + 1) + 1) + ((n.want.length : Nat) : Int)) + ((n.avoid.length : Nat) : Int)) + 1) + 1) + 1)), mkNs n.body.kids (((((((((k + 1) + 1) + ((n.want.length : Nat) : Int)) + ((n.avoid.length : Nat) : Int)) + 1) + 1) + 1) + ((n.body.names.length : Nat) : Int)))⟩, n.ops⟩ : Req)) hd96 V95 rfl
      replace hlen : (p ++ (⟨k, mkT ((k + 1)), mkS n.want (((k + 1) + 1)), mkS n.avoid ((((k + 1) + 1) + ((n.want.length : Nat) : Int))), ⟨((((k + 1) + 1) + ((n.want.length : Nat) : Int)) + ((n.avoid.length : Nat) : Int)), (((((k + 1) + 1) + ((n.want.length : Nat) : Int)) + ((n.avoid.length : Nat) : Int)) + 1), mkT (((((((k + 1) + 1) + ((n.want.length : Nat) : Int)) + ((n.avoid.length : Nat) : Int)) + 1) + 1)), mkS n.body.names ((((((((k + 1) + 1) + ((n.want.length : Nat) : Int)) + ((n.avoid.length : Nat) : Int)) + 1) + 1) + 1)), mkNs n.body.kids (((((((((k + 1) + 1) + ((n.want.length : Nat) : Int)) + ((n.avoid.length : Nat) : Int)) + 1) + 1) + 1) + ((n.body.names.length : Nat) : Int)))⟩, n.ops⟩ : Req) :: r).length = N := by simpa using hlen
      have ht99 : Tabs w94 := ((((((((((((U0).trans U5).trans U11).trans U17).trans U31).trans U45).trans U51).trans U57).trans U63).trans U69).trans U83).trans U97).tabs htw htb
      obtain ⟨x101, bs102, c103, hd104, hn105, hi106, ret107⟩ := D98.subA hlen hnd (j := 9) (o := p.length * 10 + 9) (by simp [esz]) (by decide) (v := .ps .opn n.ops) rfl
      have M100 : Calls Try.prog 24 #[x101, .int .i64 ((((((((((k + 1) + 1) + ((n.want.length : Nat) : Int)) + ((n.avoid.length : Nat) : Int)) + 1) + 1) + 1) + ((n.body.names.length : Nat) : Int)) + ((totNs n.body.kids : Nat) : Int)))] w94 fun e w' => e = .returned (.int .i64 ((((((((((k + 1) + 1) + ((n.want.length : Nat) : Int)) + ((n.avoid.length : Nat) : Int)) + 1) + 1) + 1) + ((n.body.names.length : Nat) : Int)) + ((totNs n.body.kids : Nat) : Int)) + ((totOs n.ops : Nat) : Int))) ∧ Deep w' x101 (.ps .opn (mkOs n.ops ((((((((((k + 1) + 1) + ((n.want.length : Nat) : Int)) + ((n.avoid.length : Nat) : Int)) + 1) + 1) + 1) + ((n.body.names.length : Nat) : Int)) + ((totNs n.body.kids : Nat) : Int))))) bs102 ∧ Upd w94 w' bs102 := by exact kmarkOpS n.ops ((((((((((k + 1) + 1) + ((n.want.length : Nat) : Int)) + ((n.avoid.length : Nat) : Int)) + 1) + 1) + 1) + ((n.body.names.length : Nat) : Int)) + ((totNs n.body.kids : Nat) : Int))) w94 x101 bs102 hd104 hn105 ht99 (fun c hc => htb c (List.mem_cons_of_mem _ (hi106 c hc))) (by omega) (by simp only [totN_eq] at hkK; omega)
      have Zhlen : Aside _ := hlen
      have Zhnd : Aside _ := hnd
      have Zhk : Aside _ := hk
      have Zhks : Aside _ := hks
      have Zhmk : Aside _ := hmk
      have Zhbd : Aside _ := hbd
      have ZhMX : Aside _ := hMX
      have Zhtw : Aside _ := htw
      have Zhtb : Aside _ := htb
      have Zhtr : Aside _ := htr
      have Zhtn : Aside _ := htn
      have ZhkK : Aside _ := hkK
      have Zhz1 : Aside _ := hz1
      have ZU0 : Aside _ := U0
      have ZD0 : Aside _ := D0
      have ZD4 : Aside _ := D4
      have ZU5 : Aside _ := U5
      have Ze6 : Aside _ := e6
      have Zht7 : Aside _ := ht7
      have ZV10 : Aside _ := V10
      have ZU11 : Aside _ := U11
      have ZD12 : Aside _ := D12
      have ZD16 : Aside _ := D16
      have ZU17 : Aside _ := U17
      have Ze18 : Aside _ := e18
      have Zht19 : Aside _ := ht19
      have Zhd24 : Aside _ := hd24
      have Zhn25 : Aside _ := hn25
      have Zhi26 : Aside _ := hi26
      have Zret27 : Aside _ := ret27
      have Zhd30 : Aside _ := hd30
      have ZV29 : Aside _ := V29
      have ZU31 : Aside _ := U31
      have ZD32 : Aside _ := D32
      have Zht33 : Aside _ := ht33
      have Zhd38 : Aside _ := hd38
      have Zhn39 : Aside _ := hn39
      have Zhi40 : Aside _ := hi40
      have Zret41 : Aside _ := ret41
      have Zhd44 : Aside _ := hd44
      have ZV43 : Aside _ := V43
      have ZU45 : Aside _ := U45
      have ZD46 : Aside _ := D46
      have ZD50 : Aside _ := D50
      have ZU51 : Aside _ := U51
      have Ze52 : Aside _ := e52
      have ZD56 : Aside _ := D56
      have ZU57 : Aside _ := U57
      have Ze58 : Aside _ := e58
      have Zht59 : Aside _ := ht59
      have ZV62 : Aside _ := V62
      have ZU63 : Aside _ := U63
      have ZD64 : Aside _ := D64
      have ZD68 : Aside _ := D68
      have ZU69 : Aside _ := U69
      have Ze70 : Aside _ := e70
      have Zht71 : Aside _ := ht71
      have Zhd76 : Aside _ := hd76
      have Zhn77 : Aside _ := hn77
      have Zhi78 : Aside _ := hi78
      have Zret79 : Aside _ := ret79
      have Zhd82 : Aside _ := hd82
      have ZV81 : Aside _ := V81
      have ZU83 : Aside _ := U83
      have ZD84 : Aside _ := D84
      have Zht85 : Aside _ := ht85
      have Zhd90 : Aside _ := hd90
      have Zhn91 : Aside _ := hn91
      have Zhi92 : Aside _ := hi92
      have Zret93 : Aside _ := ret93
      have Zhd96 : Aside _ := hd96
      have ZV95 : Aside _ := V95
      have ZU97 : Aside _ := U97
      have ZD98 : Aside _ := D98
      have Zht99 : Aside _ := ht99
      have Zhd104 : Aside _ := hd104
      have Zhn105 : Aside _ := hn105
      have Zhi106 : Aside _ := hi106
      have Zret107 : Aside _ := ret107
      clear ret107 hi106 hn105 hd104 ht99 D98 U97 V95 hd96 ret93 hi92 hn91 hd90 ht85 D84 U83 V81 hd82 ret79 hi78 hn77 hd76 ht71 e70 U69 D68 D64 U63 V62 ht59 e58 U57 D56 e52 U51 D50 D46 U45 V43 hd44 ret41 hi40 hn39 hd38 ht33 D32 U31 V29 hd30 ret27 hi26 hn25 hd24 ht19 e18 U17 D16 D12 U11 V10 ht7 e6 U5 D4 D0 U0 hz1 hkK htn htr htb htw hMX hbd hmk hks hk hnd hlen
      go_wp2_with (go_at_call 24; refine M100.mono ?_)
      first | (intro e w108 hq hd110 V109; subst hq) | (rintro e w108 ⟨rfl, hd110, V109⟩)
      have hlen := Zhlen.out
      have hnd := Zhnd.out
      have hk := Zhk.out
      have hks := Zhks.out
      have hmk := Zhmk.out
      have hbd := Zhbd.out
      have hMX := ZhMX.out
      have htw := Zhtw.out
      have htb := Zhtb.out
      have htr := Zhtr.out
      have htn := Zhtn.out
      have hkK := ZhkK.out
      have hz1 := Zhz1.out
      have U0 := ZU0.out
      have D0 := ZD0.out
      have D4 := ZD4.out
      have U5 := ZU5.out
      have e6 := Ze6.out
      have ht7 := Zht7.out
      have V10 := ZV10.out
      have U11 := ZU11.out
      have D12 := ZD12.out
      have D16 := ZD16.out
      have U17 := ZU17.out
      have e18 := Ze18.out
      have ht19 := Zht19.out
      have hd24 := Zhd24.out
      have hn25 := Zhn25.out
      have hi26 := Zhi26.out
      have ret27 := Zret27.out
      have hd30 := Zhd30.out
      have V29 := ZV29.out
      have U31 := ZU31.out
      have D32 := ZD32.out
      have ht33 := Zht33.out
      have hd38 := Zhd38.out
      have hn39 := Zhn39.out
      have hi40 := Zhi40.out
      have ret41 := Zret41.out
      have hd44 := Zhd44.out
      have V43 := ZV43.out
      have U45 := ZU45.out
      have D46 := ZD46.out
      have D50 := ZD50.out
      have U51 := ZU51.out
      have e52 := Ze52.out
      have D56 := ZD56.out
      have U57 := ZU57.out
      have e58 := Ze58.out
      have ht59 := Zht59.out
      have V62 := ZV62.out
      have U63 := ZU63.out
      have D64 := ZD64.out
      have D68 := ZD68.out
      have U69 := ZU69.out
      have e70 := Ze70.out
      have ht71 := Zht71.out
      have hd76 := Zhd76.out
      have hn77 := Zhn77.out
      have hi78 := Zhi78.out
      have ret79 := Zret79.out
      have hd82 := Zhd82.out
      have V81 := ZV81.out
      have U83 := ZU83.out
      have D84 := ZD84.out
      have ht85 := Zht85.out
      have hd90 := Zhd90.out
      have hn91 := Zhn91.out
      have hi92 := Zhi92.out
      have ret93 := Zret93.out
      have hd96 := Zhd96.out
      have V95 := ZV95.out
      have U97 := ZU97.out
      have D98 := ZD98.out
      have ht99 := Zht99.out
      have hd104 := Zhd104.out
      have hn105 := Zhn105.out
      have hi106 := Zhi106.out
      have ret107 := Zret107.out
      clear Zhlen Zhnd Zhk Zhks Zhmk Zhbd ZhMX Zhtw Zhtb Zhtr Zhtn ZhkK Zhz1 ZU0 ZD0 ZD4 ZU5 Ze6 Zht7 ZV10 ZU11 ZD12 ZD16 ZU17 Ze18 Zht19 Zhd24 Zhn25 Zhi26 Zret27 Zhd30 ZV29 ZU31 ZD32 Zht33 Zhd38 Zhn39 Zhi40 Zret41 Zhd44 ZV43 ZU45 ZD46 ZD50 ZU51 Ze52 ZD56 ZU57 Ze58 Zht59 ZV62 ZU63 ZD64 ZD68 ZU69 Ze70 Zht71 Zhd76 Zhn77 Zhi78 Zret79 Zhd82 ZV81 ZU83 ZD84 Zht85 Zhd90 Zhn91 Zhi92 Zret93 Zhd96 ZV95 ZU97 ZD98 Zht99 Zhd104 Zhn105 Zhi106 Zret107
      clear M100 c103
      have U111 := V109.mono (bs' := b :: I) (fun c hc => List.mem_cons_of_mem _ (hi106 c hc))
      have D112 := ret107 _ _ ((⟨k, mkT ((k + 1)), mkS n.want (((k + 1) + 1)), mkS n.avoid ((((k + 1) + 1) + ((n.want.length : Nat) : Int))), ⟨((((k + 1) + 1) + ((n.want.length : Nat) : Int)) + ((n.avoid.length : Nat) : Int)), (((((k + 1) + 1) + ((n.want.length : Nat) : Int)) + ((n.avoid.length : Nat) : Int)) + 1), mkT (((((((k + 1) + 1) + ((n.want.length : Nat) : Int)) + ((n.avoid.length : Nat) : Int)) + 1) + 1)), mkS n.body.names ((((((((k + 1) + 1) + ((n.want.length : Nat) : Int)) + ((n.avoid.length : Nat) : Int)) + 1) + 1) + 1)), mkNs n.body.kids (((((((((k + 1) + 1) + ((n.want.length : Nat) : Int)) + ((n.avoid.length : Nat) : Int)) + 1) + 1) + 1) + ((n.body.names.length : Nat) : Int)))⟩, mkOs n.ops ((((((((((k + 1) + 1) + ((n.want.length : Nat) : Int)) + ((n.avoid.length : Nat) : Int)) + 1) + 1) + 1) + ((n.body.names.length : Nat) : Int)) + ((totNs n.body.kids : Nat) : Int)))⟩ : Req)) hd110 V109 rfl
      replace hlen : (p ++ (⟨k, mkT ((k + 1)), mkS n.want (((k + 1) + 1)), mkS n.avoid ((((k + 1) + 1) + ((n.want.length : Nat) : Int))), ⟨((((k + 1) + 1) + ((n.want.length : Nat) : Int)) + ((n.avoid.length : Nat) : Int)), (((((k + 1) + 1) + ((n.want.length : Nat) : Int)) + ((n.avoid.length : Nat) : Int)) + 1), mkT (((((((k + 1) + 1) + ((n.want.length : Nat) : Int)) + ((n.avoid.length : Nat) : Int)) + 1) + 1)), mkS n.body.names ((((((((k + 1) + 1) + ((n.want.length : Nat) : Int)) + ((n.avoid.length : Nat) : Int)) + 1) + 1) + 1)), mkNs n.body.kids (((((((((k + 1) + 1) + ((n.want.length : Nat) : Int)) + ((n.avoid.length : Nat) : Int)) + 1) + 1) + 1) + ((n.body.names.length : Nat) : Int)))⟩, mkOs n.ops ((((((((((k + 1) + 1) + ((n.want.length : Nat) : Int)) + ((n.avoid.length : Nat) : Int)) + 1) + 1) + 1) + ((n.body.names.length : Nat) : Int)) + ((totNs n.body.kids : Nat) : Int)))⟩ : Req) :: r).length = N := by simpa using hlen
      have Zhlen : Aside _ := hlen
      have Zhnd : Aside _ := hnd
      have Zhk : Aside _ := hk
      have Zhks : Aside _ := hks
      have Zhmk : Aside _ := hmk
      have Zhbd : Aside _ := hbd
      have ZhMX : Aside _ := hMX
      have Zhtw : Aside _ := htw
      have Zhtb : Aside _ := htb
      have Zhtr : Aside _ := htr
      have Zhtn : Aside _ := htn
      have ZhkK : Aside _ := hkK
      have Zhz1 : Aside _ := hz1
      have ZU0 : Aside _ := U0
      have ZD0 : Aside _ := D0
      have ZD4 : Aside _ := D4
      have ZU5 : Aside _ := U5
      have Ze6 : Aside _ := e6
      have Zht7 : Aside _ := ht7
      have ZV10 : Aside _ := V10
      have ZU11 : Aside _ := U11
      have ZD12 : Aside _ := D12
      have ZD16 : Aside _ := D16
      have ZU17 : Aside _ := U17
      have Ze18 : Aside _ := e18
      have Zht19 : Aside _ := ht19
      have Zhd24 : Aside _ := hd24
      have Zhn25 : Aside _ := hn25
      have Zhi26 : Aside _ := hi26
      have Zret27 : Aside _ := ret27
      have Zhd30 : Aside _ := hd30
      have ZV29 : Aside _ := V29
      have ZU31 : Aside _ := U31
      have ZD32 : Aside _ := D32
      have Zht33 : Aside _ := ht33
      have Zhd38 : Aside _ := hd38
      have Zhn39 : Aside _ := hn39
      have Zhi40 : Aside _ := hi40
      have Zret41 : Aside _ := ret41
      have Zhd44 : Aside _ := hd44
      have ZV43 : Aside _ := V43
      have ZU45 : Aside _ := U45
      have ZD46 : Aside _ := D46
      have ZD50 : Aside _ := D50
      have ZU51 : Aside _ := U51
      have Ze52 : Aside _ := e52
      have ZD56 : Aside _ := D56
      have ZU57 : Aside _ := U57
      have Ze58 : Aside _ := e58
      have Zht59 : Aside _ := ht59
      have ZV62 : Aside _ := V62
      have ZU63 : Aside _ := U63
      have ZD64 : Aside _ := D64
      have ZD68 : Aside _ := D68
      have ZU69 : Aside _ := U69
      have Ze70 : Aside _ := e70
      have Zht71 : Aside _ := ht71
      have Zhd76 : Aside _ := hd76
      have Zhn77 : Aside _ := hn77
      have Zhi78 : Aside _ := hi78
      have Zret79 : Aside _ := ret79
      have Zhd82 : Aside _ := hd82
      have ZV81 : Aside _ := V81
      have ZU83 : Aside _ := U83
      have ZD84 : Aside _ := D84
      have Zht85 : Aside _ := ht85
      have Zhd90 : Aside _ := hd90
      have Zhn91 : Aside _ := hn91
      have Zhi92 : Aside _ := hi92
      have Zret93 : Aside _ := ret93
      have Zhd96 : Aside _ := hd96
      have ZV95 : Aside _ := V95
      have ZU97 : Aside _ := U97
      have ZD98 : Aside _ := D98
      have Zht99 : Aside _ := ht99
      have Zhd104 : Aside _ := hd104
      have Zhn105 : Aside _ := hn105
      have Zhi106 : Aside _ := hi106
      have Zret107 : Aside _ := ret107
      have Zhd110 : Aside _ := hd110
      have ZV109 : Aside _ := V109
      have ZU111 : Aside _ := U111
      have ZD112 : Aside _ := D112
      clear D112 U111 V109 hd110 ret107 hi106 hn105 hd104 ht99 D98 U97 V95 hd96 ret93 hi92 hn91 hd90 ht85 D84 U83 V81 hd82 ret79 hi78 hn77 hd76 ht71 e70 U69 D68 D64 U63 V62 ht59 e58 U57 D56 e52 U51 D50 D46 U45 V43 hd44 ret41 hi40 hn39 hd38 ht33 D32 U31 V29 hd30 ret27 hi26 hn25 hd24 ht19 e18 U17 D16 D12 U11 V10 ht7 e6 U5 D4 D0 U0 hz1 hkK htn htr htb htw hMX hbd hmk hks hk hnd hlen
      go_wp2
      go_roundg r.length
      case measure => subst hg; simp
      case rel =>
        have hlen := Zhlen.out
        have hnd := Zhnd.out
        have hk := Zhk.out
        have hks := Zhks.out
        have hmk := Zhmk.out
        have hbd := Zhbd.out
        have hMX := ZhMX.out
        have htw := Zhtw.out
        have htb := Zhtb.out
        have htr := Zhtr.out
        have htn := Zhtn.out
        have hkK := ZhkK.out
        have hz1 := Zhz1.out
        have U0 := ZU0.out
        have D0 := ZD0.out
        have D4 := ZD4.out
        have U5 := ZU5.out
        have e6 := Ze6.out
        have ht7 := Zht7.out
        have V10 := ZV10.out
        have U11 := ZU11.out
        have D12 := ZD12.out
        have D16 := ZD16.out
        have U17 := ZU17.out
        have e18 := Ze18.out
        have ht19 := Zht19.out
        have hd24 := Zhd24.out
        have hn25 := Zhn25.out
        have hi26 := Zhi26.out
        have ret27 := Zret27.out
        have hd30 := Zhd30.out
        have V29 := ZV29.out
        have U31 := ZU31.out
        have D32 := ZD32.out
        have ht33 := Zht33.out
        have hd38 := Zhd38.out
        have hn39 := Zhn39.out
        have hi40 := Zhi40.out
        have ret41 := Zret41.out
        have hd44 := Zhd44.out
        have V43 := ZV43.out
        have U45 := ZU45.out
        have D46 := ZD46.out
        have D50 := ZD50.out
        have U51 := ZU51.out
        have e52 := Ze52.out
        have D56 := ZD56.out
        have U57 := ZU57.out
        have e58 := Ze58.out
        have ht59 := Zht59.out
        have V62 := ZV62.out
        have U63 := ZU63.out
        have D64 := ZD64.out
        have D68 := ZD68.out
        have U69 := ZU69.out
        have e70 := Ze70.out
        have ht71 := Zht71.out
        have hd76 := Zhd76.out
        have hn77 := Zhn77.out
        have hi78 := Zhi78.out
        have ret79 := Zret79.out
        have hd82 := Zhd82.out
        have V81 := ZV81.out
        have U83 := ZU83.out
        have D84 := ZD84.out
        have ht85 := Zht85.out
        have hd90 := Zhd90.out
        have hn91 := Zhn91.out
        have hi92 := Zhi92.out
        have ret93 := Zret93.out
        have hd96 := Zhd96.out
        have V95 := ZV95.out
        have U97 := ZU97.out
        have D98 := ZD98.out
        have ht99 := Zht99.out
        have hd104 := Zhd104.out
        have hn105 := Zhn105.out
        have hi106 := Zhi106.out
        have ret107 := Zret107.out
        have hd110 := Zhd110.out
        have V109 := ZV109.out
        have U111 := ZU111.out
        have D112 := ZD112.out
        clear Zhlen Zhnd Zhk Zhks Zhmk Zhbd ZhMX Zhtw Zhtb Zhtr Zhtn ZhkK Zhz1 ZU0 ZD0 ZD4 ZU5 Ze6 Zht7 ZV10 ZU11 ZD12 ZD16 ZU17 Ze18 Zht19 Zhd24 Zhn25 Zhi26 Zret27 Zhd30 ZV29 ZU31 ZD32 Zht33 Zhd38 Zhn39 Zhi40 Zret41 Zhd44 ZV43 ZU45 ZD46 ZD50 ZU51 Ze52 ZD56 ZU57 Ze58 Zht59 ZV62 ZU63 ZD64 ZD68 ZU69 Ze70 Zht71 Zhd76 Zhn77 Zhi78 Zret79 Zhd82 ZV81 ZU83 ZD84 Zht85 Zhd90 Zhn91 Zhi92 Zret93 Zhd96 ZV95 ZU97 ZD98 Zht99 Zhd104 Zhn105 Zhi106 Zret107 Zhd110 ZV109 ZU111 ZD112
        have hy : p ++ mkRs (n :: r) k = (p ++ [(⟨k, mkT ((k + 1)), mkS n.want (((k + 1) + 1)), mkS n.avoid ((((k + 1) + 1) + ((n.want.length : Nat) : Int))), ⟨((((k + 1) + 1) + ((n.want.length : Nat) : Int)) + ((n.avoid.length : Nat) : Int)), (((((k + 1) + 1) + ((n.want.length : Nat) : Int)) + ((n.avoid.length : Nat) : Int)) + 1), mkT (((((((k + 1) + 1) + ((n.want.length : Nat) : Int)) + ((n.avoid.length : Nat) : Int)) + 1) + 1)), mkS n.body.names ((((((((k + 1) + 1) + ((n.want.length : Nat) : Int)) + ((n.avoid.length : Nat) : Int)) + 1) + 1) + 1)), mkNs n.body.kids (((((((((k + 1) + 1) + ((n.want.length : Nat) : Int)) + ((n.avoid.length : Nat) : Int)) + 1) + 1) + 1) + ((n.body.names.length : Nat) : Int)))⟩, mkOs n.ops ((((((((((k + 1) + 1) + ((n.want.length : Nat) : Int)) + ((n.avoid.length : Nat) : Int)) + 1) + 1) + 1) + ((n.body.names.length : Nat) : Int)) + ((totNs n.body.kids : Nat) : Int)))⟩ : Req)]) ++ mkRs r (((((((((((k + 1) + 1) + ((n.want.length : Nat) : Int)) + ((n.avoid.length : Nat) : Int)) + 1) + 1) + 1) + ((n.body.names.length : Nat) : Int)) + ((totNs n.body.kids : Nat) : Int)) + ((totOs n.ops : Nat) : Int))) := by simp [mkRs, mkN_eq, totN_eq, Int.add_assoc] <;> (first | omega | (congr 1 <;> omega) | (constructor <;> (first | omega | (congr 1 <;> omega))))
        exact ⟨p ++ [(⟨k, mkT ((k + 1)), mkS n.want (((k + 1) + 1)), mkS n.avoid ((((k + 1) + 1) + ((n.want.length : Nat) : Int))), ⟨((((k + 1) + 1) + ((n.want.length : Nat) : Int)) + ((n.avoid.length : Nat) : Int)), (((((k + 1) + 1) + ((n.want.length : Nat) : Int)) + ((n.avoid.length : Nat) : Int)) + 1), mkT (((((((k + 1) + 1) + ((n.want.length : Nat) : Int)) + ((n.avoid.length : Nat) : Int)) + 1) + 1)), mkS n.body.names ((((((((k + 1) + 1) + ((n.want.length : Nat) : Int)) + ((n.avoid.length : Nat) : Int)) + 1) + 1) + 1)), mkNs n.body.kids (((((((((k + 1) + 1) + ((n.want.length : Nat) : Int)) + ((n.avoid.length : Nat) : Int)) + 1) + 1) + 1) + ((n.body.names.length : Nat) : Int)))⟩, mkOs n.ops ((((((((((k + 1) + 1) + ((n.want.length : Nat) : Int)) + ((n.avoid.length : Nat) : Int)) + 1) + 1) + 1) + ((n.body.names.length : Nat) : Int)) + ((totNs n.body.kids : Nat) : Int)))⟩ : Req)], r, ((((((((((k + 1) + 1) + ((n.want.length : Nat) : Int)) + ((n.avoid.length : Nat) : Int)) + 1) + 1) + 1) + ((n.body.names.length : Nat) : Int)) + ((totNs n.body.kids : Nat) : Int)) + ((totOs n.ops : Nat) : Int)), rfl, rfl, by rw [hz1]; simp, ⟨by simpa using D112, ((((((((((((U0).trans U5).trans U11).trans U17).trans U31).trans U45).trans U51).trans U57).trans U63).trans U69).trans U83).trans U97).trans U111⟩, by simpa using hlen, by omega, by simp only [totN_eq] at hks; omega, by rw [← hy]; exact hmk⟩
end Go.Rs

