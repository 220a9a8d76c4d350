import Derived.Test.YtgonjmlpomfihaaEN
import Derived.Deep.LoopGhost
set_option linter.all false
set_option linter.unusedSimpArgs false
set_option linter.unusedVariables false
namespace Go.Rs
open Go.Proofs Go.RowKit
set_option maxRecDepth 100000
set_option maxHeartbeats 4000000 in
theorem kmarkIntS (l : List Int) (k0 : Int) (w : World) (x : Value) (bs : List Nat) (hd : Deep w x (.ps .i64 l) bs) (hn : bs.Nodup) (ht : Tabs w) (htb : ∀ c ∈ bs, isTab c = false) (h0 : 0 ≤ k0) (hb : k0 + (l.length : Int) ≤ 4611686018427387904) :
    Calls Try.prog 14 #[x, .int .i64 k0] w fun e w' => e = .returned (.int .i64 (k0 + (l.length : Int))) ∧ Deep w' x (.ps .i64 (mkI l k0)) bs ∧ Upd w w' bs := by
  rcases hd.inv_ps with ⟨rfl, rfl, a, cap, rfl⟩ | ⟨b, cap, xs, T, bss, h0', rfl, hM, hc, hb', hl, h1, hr, rfl⟩
  · go_enter Try.func14, Try.ntmps14
    go_wp2
    go_loopg [1, 5] 1 (fun g vk vi wr => vk = .int .i64 k0 ∧ vi = .int .i64 0 ∧ wr = w)
    case atStart => exact ⟨rfl, rfl, rfl⟩
    obtain ⟨rfl, rfl, rfl⟩ := hrel
    go_wp2
    go_ret
    exact ⟨by simp, .nil .i64 a cap, .refl _ _⟩
  · generalize hN : l.length = N at *
    have A0 : Aside (k0 + (N : Int) ≤ 4611686018427387904 ∧ N ≤ MX) := ⟨hb, hM⟩
    have A1 : Aside ((b :: inn (N * esz .i64) bss).Nodup ∧ Tabs w ∧ ∀ c ∈ b :: inn (N * esz .i64) bss, isTab c = false) := ⟨hn, ht, htb⟩
    clear hb hb' hl h1 hr hM hc hn ht htb
    generalize inn (N * esz .i64) bss = I at *
    go_enter Try.func14, Try.ntmps14
    go_wp2
    go_loopg [1, 5] N (fun g vk vi wr => ∃ (p r : List Int) (k : Int), g = r.length ∧ vk = .int .i64 k ∧ vi = .int .i64 p.length ∧ Aside (Deep wr (.slice (some ⟨b, 0, none⟩) N cap) (.ps .i64 (p ++ r)) (b :: I) ∧ Upd w wr (b :: I)) ∧ Aside ((p ++ r).length = N ∧ 0 ≤ k ∧ k + r.length = k0 + N ∧ p ++ mkI r k = mkI l k0))
    case atStart => exact ⟨[], l, k0, hN.symm, rfl, rfl, ⟨hd, .refl _ _⟩, hN, h0, by rw [hN], rfl⟩
    obtain ⟨p, r, k, hg, rfl, rfl, H1, H2⟩ := hrel
    clear hd
    cases r with
    | nil =>
      have hlt : ¬ ((p.length : Int) < (N : Int)) := by have := H2.out.1; simp at this; omega
      go_wp2
      go_ret
      obtain ⟨H3, H4⟩ := H1.out
      obtain ⟨H5, H6, H7, H8⟩ := H2.out
      simp only [mkI, List.append_nil] at H3 H8
      rw [H8] at H3
      exact ⟨by simp at H7; simp [H7], H3, H4⟩
    | cons n r =>
      have hlt : ((p.length : Int) < (N : Int)) := by have := H2.out.1; simp at this; omega
      obtain ⟨D0, U0⟩ := H1.out
      obtain ⟨hlen, hk, hks, hmk⟩ := H2.out
      obtain ⟨hbd, hMX⟩ := A0.out
      obtain ⟨hnd, htw, htb⟩ := A1.out
      have htr := U0.tabs htw htb
      simp only [List.length_cons] at hks
      have B1 : Aside (wrap64 (k + 1) = k + 1) := wrap_1 hk (by omega)
      have B2 : Aside (wrap64 ((p.length : Int) + 1) = (p.length : Int) + 1) := wrap_1 (by omega) (by unfold MX at hMX; omega)
      have B3 : Aside (0 ≤ k ∧ k + ((r.length : Int) + 1) = k0 + N ∧ p ++ mkI (n :: r) k = mkI l k0 ∧ (p ++ n :: r).length = N) := ⟨hk, hks, hmk, hlen⟩
      have B4 : Aside (Upd w wr (b :: I) ∧ (b :: I).Nodup) := ⟨U0, hnd⟩
      have B6 : Aside (k ≤ 4611686018427387904) := (by omega : k ≤ 4611686018427387904)
      obtain ⟨⟨x1, c1⟩, f1⟩ := D0.cellA B3.out.2.2.2 (j := 0) (o := p.length) (by simp [esz]) (by decide)
      obtain ⟨D2, U2⟩ := D0.setA B3.out.2.2.2 B4.out.2 (j := 0) (o := p.length) (by simp [esz]) (by decide) (v := .int .i64 k) (u := .int .i64 k) (.int _ _) trivial (y := k) rfl
      have B5 : Aside (Deep (wr.setCell ⟨b, p.length, none⟩ (.int .i64 k)) (.slice (some ⟨b, 0, none⟩) N cap) (.ps .i64 (p ++ k :: r)) (b :: I) ∧ Upd wr (wr.setCell ⟨b, p.length, none⟩ (.int .i64 k)) (b :: I)) := ⟨D2, U2⟩
      clear H1 H2 hbd hMX hnd htw htb htr hk hks hmk hlen U0
      clear D0 D2 U2
      go_wp2
      go_roundg r.length
      case measure => subst hg; simp
      case rel =>
        obtain ⟨D2, U2⟩ := B5.out
        obtain ⟨a1, a2, a3, a4⟩ := B3.out
        exact ⟨p ++ [k], r, k + 1, rfl, by rw [B1.out], by rw [B2.out]; simp, ⟨by simpa using D2, B4.out.1.trans U2⟩, by simpa using a4, by omega, by omega, by simpa [mkI] using a3⟩
end Go.Rs

