import Derived.Test.YtmgheiagnleeiaaEN
import Derived.Deep.LoopGhost
set_option linter.all false
set_option linter.unusedSimpArgs false
set_option linter.unusedVariables false
namespace Go.Rs
open Go.Proofs Go.RowKit
set_option maxRecDepth 100000

set_option maxHeartbeats 8000000 in
theorem kmarkNodeS0 : ∀ (m : Nat) (l : List Nd), SizeOf.sizeOf l ≤ m → ∀ (k0 : Int) (w : World) (x : Value) (bs : List Nat) (hd : Deep w x (.ps .node l) bs) (hn : bs.Nodup) (ht : Tabs w) (htb : ∀ c ∈ bs, isTab c = false) (h0 : 0 ≤ k0) (hb : k0 + ((totNs l : Nat) : Int) ≤ 4611686018427387904), Calls Try.prog 23 #[x, .int .i64 k0] w fun e w' => e = .returned (.int .i64 (k0 + ((totNs l : Nat) : Int))) ∧ Deep w' x (.ps .node (mkNs l k0)) bs ∧ Upd w w' bs
  | 0, l, hm, k0, w, x, bs, hd, hn, ht, htb, h0, hb => by cases l <;> simp at hm
  | m + 1, l, hm, k0, w, x, bs, hd, hn, ht, htb, h0, hb => by
    have ih := kmarkNodeS0 m
    rcases hd.inv_ps with ⟨rfl, rfl, a, cap, rfl⟩ | ⟨b, cap, xs, T, bss, h0', rfl, hM, hc, hb', hl, h1, hr, rfl⟩
    · go_enter Try.func23, Try.ntmps23
      go_wp2
      go_loopg [1, 5] 1 (fun g vk vi wr => vk = .int .i64 k0 ∧ vi = .int .i64 0 ∧ wr = w)
      case atStart => exact ⟨rfl, rfl, rfl⟩
      obtain ⟨rfl, rfl, rfl⟩ := hrel
      go_wp2
      go_ret
      exact ⟨by simp [totNs, totIs, totCs, totWs, totFs], by rw [show mkNs ([] : List Nd) k0 = [] from by simp [mkNs]]; exact .nil .node a cap, .refl _ _⟩
    · generalize hN : l.length = N at *
      have A0 : Aside (k0 + ((totNs l : Nat) : Int) ≤ 4611686018427387904 ∧ N ≤ MX ∧ SizeOf.sizeOf l ≤ m + 1) := ⟨hb, hM, hm⟩
      have A1 : Aside ((b :: inn (N * esz .node) bss).Nodup ∧ Tabs w ∧ ∀ c ∈ b :: inn (N * esz .node) bss, isTab c = false) := ⟨hn, ht, htb⟩
      clear hb hb' hl h1 hr hM hc hn ht htb hm
      generalize inn (N * esz .node) bss = I at *
      obtain ⟨K1, hK1⟩ : ∃ K1, K1 = k0 + ((totNs l : Nat) : Int) := ⟨_, rfl⟩
      rw [← hK1]
      have A2 : Aside (K1 = k0 + ((totNs l : Nat) : Int)) := hK1
      clear hK1
      go_enter Try.func23, Try.ntmps23
      go_wp2
      go_loopg [1, 5] N (fun g vk vi wr => ∃ (p r : List Nd) (k : Int), g = r.length ∧ vk = .int .i64 k ∧ vi = .int .i64 p.length ∧ Aside (Deep wr (.slice (some ⟨b, 0, none⟩) N cap) (.ps .node (p ++ r)) (b :: I) ∧ Upd w wr (b :: I)) ∧ Aside ((p ++ r).length = N ∧ 0 ≤ k ∧ k + ((totNs r : Nat) : Int) = K1 ∧ p ++ mkNs r k = mkNs l k0 ∧ SizeOf.sizeOf r ≤ m + 1))
      case atStart => exact ⟨[], l, k0, hN.symm, rfl, rfl, ⟨hd, .refl _ _⟩, hN, h0, A2.out.symm, rfl, A0.out.2.2⟩
      obtain ⟨p, r, k, hg, rfl, rfl, H1, H2⟩ := hrel
      clear hd
      cases r with
      | nil =>
        have hlt : ¬ ((p.length : Int) < (N : Int)) := by have := H2.out.1; simp at this; omega
        go_wp2
        go_ret
        obtain ⟨H3, H4⟩ := H1.out
        obtain ⟨H5, H6, H7, H8, -⟩ := H2.out
        simp only [mkNs, List.append_nil] at H3 H8
        rw [H8] at H3
        have H7' : k = K1 := by simpa [totNs, totIs, totCs, totWs, totFs] using H7
        exact ⟨by simp [H7'], H3, H4⟩
      | cons n r =>
        have hlt : ((p.length : Int) < (N : Int)) := by have := H2.out.1; simp at this; omega
        obtain ⟨D0, U0⟩ := H1.out
        obtain ⟨hlen, hk, hks, hmk, hsz⟩ := H2.out
        obtain ⟨hbd, hMX, -⟩ := A0.out
        obtain ⟨hnd, htw, htb⟩ := A1.out
        have htr := U0.tabs htw htb
        have htn : ((totNs (n :: r) : Nat) : Int) = (totN n : Nat) + ((totNs r : Nat) : Int) := by simp [totNs, totIs, totCs, totWs, totFs] <;> omega
        rw [htn] at hks
        have hkK : k + (totN n : Nat) ≤ 4611686018427387904 := by have := A2.out; omega
        have hz1 : wrap64 ((p.length : Int) + 1) = (p.length : Int) + 1 := wrap_1 (by omega) (by unfold MX at hMX; omega)
        obtain ⟨⟨x3, c1⟩, f2⟩ := D0.cellA hlen (j := 0) (o := p.length * 5) (by simp [esz]) (by decide)
        obtain ⟨D4, U5⟩ := D0.setA hlen hnd (j := 0) (o := p.length * 5) (by simp [esz]) (by decide) (v := Value.int .i64 (k)) (u := .int .i64 (k)) (by exact .int _ _) trivial (y := (⟨k, n.num, n.text, n.names, n.kids⟩ : Nd)) rfl
        replace hlen : (p ++ (⟨k, n.num, n.text, n.names, n.kids⟩ : Nd) :: r).length = N := by simpa using hlen
        have e6 : wrap64 (k + 1) = (k + 1) := by exact wrap_1 (by omega) (by simp only [totN_eq] at hkK; omega)
        obtain ⟨⟨x9, c7⟩, f8⟩ := D4.cellA hlen (j := 1) (o := p.length * 5 + 1) (by simp [esz]) (by decide)
        obtain ⟨D10, U11⟩ := D4.setA hlen hnd (j := 1) (o := p.length * 5 + 1) (by simp [esz]) (by decide) (v := Value.int .i64 (wrap64 (k + 1))) (u := .int .i64 ((k + 1))) (by rw [e6]; exact .int _ _) trivial (y := (⟨k, (k + 1), n.text, n.names, n.kids⟩ : Nd)) rfl
        replace hlen : (p ++ (⟨k, (k + 1), n.text, n.names, n.kids⟩ : Nd) :: r).length = N := by simpa using hlen
        have e12 : wrap64 (wrap64 (k + 1) + 1) = ((k + 1) + 1) := by rw [e6]; exact wrap_1 (by omega) (by simp only [totN_eq] at hkK; omega)
        have ht13 : Tabs ((wr.setCell ⟨b, p.length * 5, none⟩ (Value.int .i64 (k))).setCell ⟨b, p.length * 5 + 1, none⟩ (Value.int .i64 (wrap64 (k + 1)))) := (((U0).trans U5).trans U11).tabs htw htb
        have M14 : Calls Try.prog 22 #[.int .i64 (wrap64 (wrap64 (k + 1) + 1))] ((wr.setCell ⟨b, p.length * 5, none⟩ (Value.int .i64 (k))).setCell ⟨b, p.length * 5 + 1, none⟩ (Value.int .i64 (wrap64 (k + 1)))) fun e w' => e = .returned (.string ⟨(mkT (((k + 1) + 1))).toArray⟩) ∧ Upd ((wr.setCell ⟨b, p.length * 5, none⟩ (Value.int .i64 (k))).setCell ⟨b, p.length * 5 + 1, none⟩ (Value.int .i64 (wrap64 (k + 1)))) w' [] := by rw [e12]; exact kmarkText _ _ ht13 (by simp only [totN_eq] at hkK; omega)
        have Zhlen : Aside _ := hlen
        have Zhnd : Aside _ := hnd
        have Zhk : Aside _ := hk
        have Zhks : Aside _ := hks
        have Zhmk : Aside _ := hmk
        have Zhbd : Aside _ := hbd
        have ZhMX : Aside _ := hMX
        have Zhtw : Aside _ := htw
        have Zhtb : Aside _ := htb
        have Zhtr : Aside _ := htr
        have Zhtn : Aside _ := htn
        have ZhkK : Aside _ := hkK
        have Zhz1 : Aside _ := hz1
        have ZU0 : Aside _ := U0
        have Zhsz : Aside _ := hsz
        have ZD0 : Aside _ := D0
        have ZD4 : Aside _ := D4
        have ZU5 : Aside _ := U5
        have Ze6 : Aside _ := e6
        have ZD10 : Aside _ := D10
        have ZU11 : Aside _ := U11
        have Ze12 : Aside _ := e12
        have Zht13 : Aside _ := ht13
        clear ht13 e12 U11 D10 e6 U5 D4 D0 hsz U0 hz1 hkK htn htr htb htw hMX hbd hmk hks hk hnd hlen
        go_wp2_with (go_at_call 22; refine M14.mono ?_)
        first | (intro e w15 hq V16; subst hq) | (rintro e w15 ⟨rfl, V16⟩)
        have hlen := Zhlen.out
        have hnd := Zhnd.out
        have hk := Zhk.out
        have hks := Zhks.out
        have hmk := Zhmk.out
        have hbd := Zhbd.out
        have hMX := ZhMX.out
        have htw := Zhtw.out
        have htb := Zhtb.out
        have htr := Zhtr.out
        have htn := Zhtn.out
        have hkK := ZhkK.out
        have hz1 := Zhz1.out
        have U0 := ZU0.out
        have hsz := Zhsz.out
        have D0 := ZD0.out
        have D4 := ZD4.out
        have U5 := ZU5.out
        have e6 := Ze6.out
        have D10 := ZD10.out
        have U11 := ZU11.out
        have e12 := Ze12.out
        have ht13 := Zht13.out
        clear Zhlen Zhnd Zhk Zhks Zhmk Zhbd ZhMX Zhtw Zhtb Zhtr Zhtn ZhkK Zhz1 ZU0 Zhsz ZD0 ZD4 ZU5 Ze6 ZD10 ZU11 Ze12 Zht13
        clear M14 f8 c7 f2 c1
        have U17 := V16.mono (bs' := b :: I) (by simp)
        have D18 := D10.same V16
        obtain ⟨⟨x21, c19⟩, f20⟩ := D18.cellA hlen (j := 2) (o := p.length * 5 + 2) (by simp [esz]) (by decide)
        obtain ⟨D22, U23⟩ := D18.setA hlen hnd (j := 2) (o := p.length * 5 + 2) (by simp [esz]) (by decide) (v := Value.string ⟨(mkT (((k + 1) + 1))).toArray⟩) (u := .str (mkT (((k + 1) + 1)))) (.str _ (Nat.le_trans (mkT_len (by simp only [totN_eq] at hkK; omega)) (by unfold MX; omega))) trivial (y := (⟨k, (k + 1), mkT (((k + 1) + 1)), n.names, n.kids⟩ : Nd)) rfl
        replace hlen : (p ++ (⟨k, (k + 1), mkT (((k + 1) + 1)), n.names, n.kids⟩ : Nd) :: r).length = N := by simpa using hlen
        have e24 : wrap64 (wrap64 (wrap64 (k + 1) + 1) + 1) = (((k + 1) + 1) + 1) := by rw [e12]; exact wrap_1 (by omega) (by simp only [totN_eq] at hkK; omega)
        have ht25 : Tabs (w15.setCell ⟨b, p.length * 5 + 2, none⟩ (Value.string ⟨(mkT (((k + 1) + 1))).toArray⟩)) := (((((U0).trans U5).trans U11).trans U17).trans U23).tabs htw htb
        obtain ⟨x27, bs28, c29, hd30, hn31, hi32, ret33⟩ := D22.subA hlen hnd (j := 3) (o := p.length * 5 + 3) (by simp [esz]) (by decide) (v := .ps .str n.names) rfl
        have M26 : Calls Try.prog 11 #[x27, .int .i64 (wrap64 (wrap64 (wrap64 (k + 1) + 1) + 1))] (w15.setCell ⟨b, p.length * 5 + 2, none⟩ (Value.string ⟨(mkT (((k + 1) + 1))).toArray⟩)) fun e w' => e = .returned (.int .i64 ((((k + 1) + 1) + 1) + ((n.names.length : Nat) : Int))) ∧ Deep w' x27 (.ps .str (mkS n.names ((((k + 1) + 1) + 1)))) bs28 ∧ Upd (w15.setCell ⟨b, p.length * 5 + 2, none⟩ (Value.string ⟨(mkT (((k + 1) + 1))).toArray⟩)) w' bs28 := by rw [e24]; exact kmarkStringS n.names ((((k + 1) + 1) + 1)) (w15.setCell ⟨b, p.length * 5 + 2, none⟩ (Value.string ⟨(mkT (((k + 1) + 1))).toArray⟩)) x27 bs28 hd30 hn31 ht25 (fun c hc => htb c (List.mem_cons_of_mem _ (hi32 c hc))) (by omega) (by simp only [totN_eq] at hkK; omega)
        have Zhlen : Aside _ := hlen
        have Zhnd : Aside _ := hnd
        have Zhk : Aside _ := hk
        have Zhks : Aside _ := hks
        have Zhmk : Aside _ := hmk
        have Zhbd : Aside _ := hbd
        have ZhMX : Aside _ := hMX
        have Zhtw : Aside _ := htw
        have Zhtb : Aside _ := htb
        have Zhtr : Aside _ := htr
        have Zhtn : Aside _ := htn
        have ZhkK : Aside _ := hkK
        have Zhz1 : Aside _ := hz1
        have ZU0 : Aside _ := U0
        have Zhsz : Aside _ := hsz
        have ZD0 : Aside _ := D0
        have ZD4 : Aside _ := D4
        have ZU5 : Aside _ := U5
        have Ze6 : Aside _ := e6
        have ZD10 : Aside _ := D10
        have ZU11 : Aside _ := U11
        have Ze12 : Aside _ := e12
        have Zht13 : Aside _ := ht13
        have ZV16 : Aside _ := V16
        have ZU17 : Aside _ := U17
        have ZD18 : Aside _ := D18
        have ZD22 : Aside _ := D22
        have ZU23 : Aside _ := U23
        have Ze24 : Aside _ := e24
        have Zht25 : Aside _ := ht25
        have Zhd30 : Aside _ := hd30
        have Zhn31 : Aside _ := hn31
        have Zhi32 : Aside _ := hi32
        have Zret33 : Aside _ := ret33
        clear ret33 hi32 hn31 hd30 ht25 e24 U23 D22 D18 U17 V16 ht13 e12 U11 D10 e6 U5 D4 D0 hsz U0 hz1 hkK htn htr htb htw hMX hbd hmk hks hk hnd hlen
        go_wp2_with (go_at_call 11; refine M26.mono ?_)
        first | (intro e w34 hq hd36 V35; subst hq) | (rintro e w34 ⟨rfl, hd36, V35⟩)
        have hlen := Zhlen.out
        have hnd := Zhnd.out
        have hk := Zhk.out
        have hks := Zhks.out
        have hmk := Zhmk.out
        have hbd := Zhbd.out
        have hMX := ZhMX.out
        have htw := Zhtw.out
        have htb := Zhtb.out
        have htr := Zhtr.out
        have htn := Zhtn.out
        have hkK := ZhkK.out
        have hz1 := Zhz1.out
        have U0 := ZU0.out
        have hsz := Zhsz.out
        have D0 := ZD0.out
        have D4 := ZD4.out
        have U5 := ZU5.out
        have e6 := Ze6.out
        have D10 := ZD10.out
        have U11 := ZU11.out
        have e12 := Ze12.out
        have ht13 := Zht13.out
        have V16 := ZV16.out
        have U17 := ZU17.out
        have D18 := ZD18.out
        have D22 := ZD22.out
        have U23 := ZU23.out
        have e24 := Ze24.out
        have ht25 := Zht25.out
        have hd30 := Zhd30.out
        have hn31 := Zhn31.out
        have hi32 := Zhi32.out
        have ret33 := Zret33.out
        clear Zhlen Zhnd Zhk Zhks Zhmk Zhbd ZhMX Zhtw Zhtb Zhtr Zhtn ZhkK Zhz1 ZU0 Zhsz ZD0 ZD4 ZU5 Ze6 ZD10 ZU11 Ze12 Zht13 ZV16 ZU17 ZD18 ZD22 ZU23 Ze24 Zht25 Zhd30 Zhn31 Zhi32 Zret33
        clear M26 c29 f20 c19
        have U37 := V35.mono (bs' := b :: I) (fun c hc => List.mem_cons_of_mem _ (hi32 c hc))
        have D38 := ret33 _ _ ((⟨k, (k + 1), mkT (((k + 1) + 1)), mkS n.names ((((k + 1) + 1) + 1)), n.kids⟩ : Nd)) hd36 V35 rfl
        replace hlen : (p ++ (⟨k, (k + 1), mkT (((k + 1) + 1)), mkS n.names ((((k + 1) + 1) + 1)), n.kids⟩ : Nd) :: r).length = N := by simpa using hlen
        have ht39 : Tabs w34 := ((((((U0).trans U5).trans U11).trans U17).trans U23).trans U37).tabs htw htb
        obtain ⟨x41, bs42, c43, hd44, hn45, hi46, ret47⟩ := D38.subA hlen hnd (j := 4) (o := p.length * 5 + 4) (by simp [esz]) (by decide) (v := .ps .node n.kids) rfl
        have M40 : Calls Try.prog 23 #[x41, .int .i64 (((((k + 1) + 1) + 1) + ((n.names.length : Nat) : Int)))] w34 fun e w' => e = .returned (.int .i64 (((((k + 1) + 1) + 1) + ((n.names.length : Nat) : Int)) + ((totNs n.kids : Nat) : Int))) ∧ Deep w' x41 (.ps .node (mkNs n.kids (((((k + 1) + 1) + 1) + ((n.names.length : Nat) : Int))))) bs42 ∧ Upd w34 w' bs42 := by exact ih n.kids (by have := kids_size n; simp at hsz; omega) (((((k + 1) + 1) + 1) + ((n.names.length : Nat) : Int))) w34 x41 bs42 hd44 hn45 ht39 (fun c hc => htb c (List.mem_cons_of_mem _ (hi46 c hc))) (by omega) (by simp only [totN_eq] at hkK; omega)
        have Zhlen : Aside _ := hlen
        have Zhnd : Aside _ := hnd
        have Zhk : Aside _ := hk
        have Zhks : Aside _ := hks
        have Zhmk : Aside _ := hmk
        have Zhbd : Aside _ := hbd
        have ZhMX : Aside _ := hMX
        have Zhtw : Aside _ := htw
        have Zhtb : Aside _ := htb
        have Zhtr : Aside _ := htr
        have Zhtn : Aside _ := htn
        have ZhkK : Aside _ := hkK
        have Zhz1 : Aside _ := hz1
        have ZU0 : Aside _ := U0
        have Zhsz : Aside _ := hsz
        have ZD0 : Aside _ := D0
        have ZD4 : Aside _ := D4
        have ZU5 : Aside _ := U5
        have Ze6 : Aside _ := e6
        have ZD10 : Aside _ := D10
        have ZU11 : Aside _ := U11
        have Ze12 : Aside _ := e12
        have Zht13 : Aside _ := ht13
        have ZV16 : Aside _ := V16
        have ZU17 : Aside _ := U17
        have ZD18 : Aside _ := D18
        have ZD22 : Aside _ := D22
        have ZU23 : Aside _ := U23
        have Ze24 : Aside _ := e24
        have Zht25 : Aside _ := ht25
        have Zhd30 : Aside _ := hd30
        have Zhn31 : Aside _ := hn31
        have Zhi32 : Aside _ := hi32
        have Zret33 : Aside _ := ret33
        have Zhd36 : Aside _ := hd36
        have ZV35 : Aside _ := V35
        have ZU37 : Aside _ := U37
        have ZD38 : Aside _ := D38
        have Zht39 : Aside _ := ht39
        have Zhd44 : Aside _ := hd44
        have Zhn45 : Aside _ := hn45
        have Zhi46 : Aside _ := hi46
        have Zret47 : Aside _ := ret47
        clear ret47 hi46 hn45 hd44 ht39 D38 U37 V35 hd36 ret33 hi32 hn31 hd30 ht25 e24 U23 D22 D18 U17 V16 ht13 e12 U11 D10 e6 U5 D4 D0 hsz U0 hz1 hkK htn htr htb htw hMX hbd hmk hks hk hnd hlen
        go_wp2_with (go_at_call 23; refine M40.mono ?_)
        first | (intro e w48 hq hd50 V49; subst hq) | (rintro e w48 ⟨rfl, hd50, V49⟩)
        have hlen := Zhlen.out
        have hnd := Zhnd.out
        have hk := Zhk.out
        have hks := Zhks.out
        have hmk := Zhmk.out
        have hbd := Zhbd.out
        have hMX := ZhMX.out
        have htw := Zhtw.out
        have htb := Zhtb.out
        have htr := Zhtr.out
        have htn := Zhtn.out
        have hkK := ZhkK.out
        have hz1 := Zhz1.out
        have U0 := ZU0.out
        have hsz := Zhsz.out
        have D0 := ZD0.out
        have D4 := ZD4.out
        have U5 := ZU5.out
        have e6 := Ze6.out
        have D10 := ZD10.out
        have U11 := ZU11.out
        have e12 := Ze12.out
        have ht13 := Zht13.out
        have V16 := ZV16.out
        have U17 := ZU17.out
        have D18 := ZD18.out
        have D22 := ZD22.out
        have U23 := ZU23.out
        have e24 := Ze24.out
        have ht25 := Zht25.out
        have hd30 := Zhd30.out
        have hn31 := Zhn31.out
        have hi32 := Zhi32.out
        have ret33 := Zret33.out
        have hd36 := Zhd36.out
        have V35 := ZV35.out
        have U37 := ZU37.out
        have D38 := ZD38.out
        have ht39 := Zht39.out
        have hd44 := Zhd44.out
        have hn45 := Zhn45.out
        have hi46 := Zhi46.out
        have ret47 := Zret47.out
        clear Zhlen Zhnd Zhk Zhks Zhmk Zhbd ZhMX Zhtw Zhtb Zhtr Zhtn ZhkK Zhz1 ZU0 Zhsz ZD0 ZD4 ZU5 Ze6 ZD10 ZU11 Ze12 Zht13 ZV16 ZU17 ZD18 ZD22 ZU23 Ze24 Zht25 Zhd30 Zhn31 Zhi32 Zret33 Zhd36 ZV35 ZU37 ZD38 Zht39 Zhd44 Zhn45 Zhi46 Zret47
        clear M40 c43
        have U51 := V49.mono (bs' := b :: I) (fun c hc => List.mem_cons_of_mem _ (hi46 c hc))
        have D52 := ret47 _ _ ((⟨k, (k + 1), mkT (((k + 1) + 1)), mkS n.names ((((k + 1) + 1) + 1)), mkNs n.kids (((((k + 1) + 1) + 1) + ((n.names.length : Nat) : Int)))⟩ : Nd)) hd50 V49 rfl
        replace hlen : (p ++ (⟨k, (k + 1), mkT (((k + 1) + 1)), mkS n.names ((((k + 1) + 1) + 1)), mkNs n.kids (((((k + 1) + 1) + 1) + ((n.names.length : Nat) : Int)))⟩ : Nd) :: r).length = N := by simpa using hlen
        have Zhlen : Aside _ := hlen
        have Zhnd : Aside _ := hnd
        have Zhk : Aside _ := hk
        have Zhks : Aside _ := hks
        have Zhmk : Aside _ := hmk
        have Zhbd : Aside _ := hbd
        have ZhMX : Aside _ := hMX
        have Zhtw : Aside _ := htw
        have Zhtb : Aside _ := htb
        have Zhtr : Aside _ := htr
        have Zhtn : Aside _ := htn
        have ZhkK : Aside _ := hkK
        have Zhz1 : Aside _ := hz1
        have ZU0 : Aside _ := U0
        have Zhsz : Aside _ := hsz
        have ZD0 : Aside _ := D0
        have ZD4 : Aside _ := D4
        have ZU5 : Aside _ := U5
        have Ze6 : Aside _ := e6
        have ZD10 : Aside _ := D10
        have ZU11 : Aside _ := U11
        have Ze12 : Aside _ := e12
        have Zht13 : Aside _ := ht13
        have ZV16 : Aside _ := V16
        have ZU17 : Aside _ := U17
        have ZD18 : Aside _ := D18
        have ZD22 : Aside _ := D22
        have ZU23 : Aside _ := U23
        have Ze24 : Aside _ := e24
        have Zht25 : Aside _ := ht25
        have Zhd30 : Aside _ := hd30
        have Zhn31 : Aside _ := hn31
        have Zhi32 : Aside _ := hi32
        have Zret33 : Aside _ := ret33
        have Zhd36 : Aside _ := hd36
        have ZV35 : Aside _ := V35
        have ZU37 : Aside _ := U37
        have ZD38 : Aside _ := D38
        have Zht39 : Aside _ := ht39
        have Zhd44 : Aside _ := hd44
        have Zhn45 : Aside _ := hn45
        have Zhi46 : Aside _ := hi46
        have Zret47 : Aside _ := ret47
        have Zhd50 : Aside _ := hd50
        have ZV49 : Aside _ := V49
        have ZU51 : Aside _ := U51
        have ZD52 : Aside _ := D52
        clear D52 U51 V49 hd50 ret47 hi46 hn45 hd44 ht39 D38 U37 V35 hd36 ret33 hi32 hn31 hd30 ht25 e24 U23 D22 D18 U17 V16 ht13 e12 U11 D10 e6 U5 D4 D0 hsz U0 hz1 hkK htn htr htb htw hMX hbd hmk hks hk hnd hlen
        go_wp2
        go_roundg r.length
        case measure => subst hg; simp
        case rel =>
          have hlen := Zhlen.out
          have hnd := Zhnd.out
          have hk := Zhk.out
          have hks := Zhks.out
          have hmk := Zhmk.out
          have hbd := Zhbd.out
          have hMX := ZhMX.out
          have htw := Zhtw.out
          have htb := Zhtb.out
          have htr := Zhtr.out
          have htn := Zhtn.out
          have hkK := ZhkK.out
          have hz1 := Zhz1.out
          have U0 := ZU0.out
          have hsz := Zhsz.out
          have D0 := ZD0.out
          have D4 := ZD4.out
          have U5 := ZU5.out
          have e6 := Ze6.out
          have D10 := ZD10.out
          have U11 := ZU11.out
          have e12 := Ze12.out
          have ht13 := Zht13.out
          have V16 := ZV16.out
          have U17 := ZU17.out
          have D18 := ZD18.out
          have D22 := ZD22.out
          have U23 := ZU23.out
          have e24 := Ze24.out
          have ht25 := Zht25.out
          have hd30 := Zhd30.out
          have hn31 := Zhn31.out
          have hi32 := Zhi32.out
          have ret33 := Zret33.out
          have hd36 := Zhd36.out
          have V35 := ZV35.out
          have U37 := ZU37.out
          have D38 := ZD38.out
          have ht39 := Zht39.out
          have hd44 := Zhd44.out
          have hn45 := Zhn45.out
          have hi46 := Zhi46.out
          have ret47 := Zret47.out
          have hd50 := Zhd50.out
          have V49 := ZV49.out
          have U51 := ZU51.out
          have D52 := ZD52.out
          clear Zhlen Zhnd Zhk Zhks Zhmk Zhbd ZhMX Zhtw Zhtb Zhtr Zhtn ZhkK Zhz1 ZU0 Zhsz ZD0 ZD4 ZU5 Ze6 ZD10 ZU11 Ze12 Zht13 ZV16 ZU17 ZD18 ZD22 ZU23 Ze24 Zht25 Zhd30 Zhn31 Zhi32 Zret33 Zhd36 ZV35 ZU37 ZD38 Zht39 Zhd44 Zhn45 Zhi46 Zret47 Zhd50 ZV49 ZU51 ZD52
          have hy : p ++ mkNs (n :: r) k = (p ++ [(⟨k, (k + 1), mkT (((k + 1) + 1)), mkS n.names ((((k + 1) + 1) + 1)), mkNs n.kids (((((k + 1) + 1) + 1) + ((n.names.length : Nat) : Int)))⟩ : Nd)]) ++ mkNs r ((((((k + 1) + 1) + 1) + ((n.names.length : Nat) : Int)) + ((totNs n.kids : Nat) : Int))) := by simp [mkNs, mkN_eq, totN_eq, Int.add_assoc] <;> (first | omega | (congr 1 <;> omega) | (constructor <;> (first | omega | (congr 1 <;> omega))))
          exact ⟨p ++ [(⟨k, (k + 1), mkT (((k + 1) + 1)), mkS n.names ((((k + 1) + 1) + 1)), mkNs n.kids (((((k + 1) + 1) + 1) + ((n.names.length : Nat) : Int)))⟩ : Nd)], r, (((((k + 1) + 1) + 1) + ((n.names.length : Nat) : Int)) + ((totNs n.kids : Nat) : Int)), rfl, rfl, by rw [hz1]; simp, ⟨by simpa using D52, ((((((U0).trans U5).trans U11).trans U17).trans U23).trans U37).trans U51⟩, by simpa using hlen, by omega, by simp only [totN_eq] at hks; omega, by rw [← hy]; exact hmk, by simp at hsz; omega⟩
theorem kmarkNodeS (l : List Nd) (k0 : Int) (w : World) (x : Value) (bs : List Nat) (hd : Deep w x (.ps .node l) bs) (hn : bs.Nodup) (ht : Tabs w) (htb : ∀ c ∈ bs, isTab c = false) (h0 : 0 ≤ k0) (hb : k0 + ((totNs l : Nat) : Int) ≤ 4611686018427387904) : Calls Try.prog 23 #[x, .int .i64 k0] w fun e w' => e = .returned (.int .i64 (k0 + ((totNs l : Nat) : Int))) ∧ Deep w' x (.ps .node (mkNs l k0)) bs ∧ Upd w w' bs := kmarkNodeS0 _ l (Nat.le_refl _) k0 w x bs hd hn ht htb h0 hb
end Go.Rs

