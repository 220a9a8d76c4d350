import Derived.Test.YtmgheiagnleeiaaEM
import Derived.Deep.LoopGhost
set_option linter.all false
set_option linter.unusedSimpArgs false
set_option linter.unusedVariables false
namespace Go.Rs
open Go.Proofs Go.RowKit
set_option maxRecDepth 100000
theorem set_mid {β : Type} (p r : List β) (n y : β) : (p ++ n :: r).set p.length y = p ++ y :: r := by simp
theorem getD_mid {β : Type} (p r : List β) (n d : β) : (p ++ n :: r).getD p.length d = n := by simp
theorem Deep.setA {w : World} {E : El} {p r : List (ElT E)} {n : ElT E} {b N cap : Nat} {I : List Nat} (h : Deep w (.slice (some ⟨b, 0, none⟩) N cap) (.ps E (p ++ n :: r)) (b :: I)) (hN : (p ++ n :: r).length = N) (hn : (b :: I).Nodup) {j o : Nat} (ho : o = p.length * esz E + j) (hj : j < esz E) {v : Value} {u : AV}
    (hv : Deep w v u []) (hold : flatV ((enc E n).getD j .opq)) {y : ElT E} (hy : enc E y = (enc E n).set j u) :
    Deep (w.setCell ⟨b, o, none⟩ v) (.slice (some ⟨b, 0, none⟩) N cap) (.ps E (p ++ y :: r)) (b :: I) ∧ Upd w (w.setCell ⟨b, o, none⟩ v) (b :: I) := by
  subst hN ho
  have h1 := Deep.set h hn (i := p.length) (j := j) (by simp) hj hv (by rw [getD_mid]; exact hold) (y := y) (by rw [getD_mid]; exact hy)
  have e : (p ++ y :: r).length = (p ++ n :: r).length := by simp
  rwa [set_mid, e] at h1
theorem Deep.cellA {w : World} {E : El} {p r : List (ElT E)} {n : ElT E} {b N cap : Nat} {I : List Nat} (h : Deep w (.slice (some ⟨b, 0, none⟩) N cap) (.ps E (p ++ n :: r)) (b :: I)) (hN : (p ++ n :: r).length = N) {j o : Nat} (ho : o = p.length * esz E + j) (hj : j < esz E) :
    (∃ x, w.cell? ⟨b, o, none⟩ = some x) ∧ w.frozen? ⟨b, o, none⟩ = false := by
  subst hN ho
  rcases h.inv_ps with ⟨h0, -, -⟩ | ⟨b', cap', xs, T, bss, h0, e, hM, hc, hb, hl, h1, hr, e2⟩
  · simp at h0
  simp only [Value.slice.injEq, Option.some.injEq, Addr.mk.injEq, and_true, true_and] at e
  obtain ⟨rfl, rfl⟩ := e
  have hk := idx_lt (n := (p ++ n :: r).length) (i := p.length) (by simp) hj
  have hkx : p.length * esz E + j < xs.length := by
    have : (p ++ n :: r).length * esz E ≤ cap * esz E := Nat.mul_le_mul_right _ hc
    omega
  exact ⟨⟨_, cell_row hb hkx⟩, by simp [World.frozen?, hb]⟩
theorem Deep.subA {w : World} {E : El} {p r : List (ElT E)} {n : ElT E} {b N cap : Nat} {I : List Nat} (h : Deep w (.slice (some ⟨b, 0, none⟩) N cap) (.ps E (p ++ n :: r)) (b :: I)) (hN : (p ++ n :: r).length = N) (hn : (b :: I).Nodup) {j o : Nat} (ho : o = p.length * esz E + j) (hj : j < esz E) {v : AV} (hv : (enc E n).getD j .opq = v) :
    ∃ x bs, w.cell? ⟨b, o, none⟩ = some x ∧ Deep w x v bs ∧ bs.Nodup ∧ (∀ c ∈ bs, c ∈ I) ∧
      ∀ w' u y, Deep w' x u bs → Upd w w' bs → enc E y = (enc E n).set j u → Deep w' (.slice (some ⟨b, 0, none⟩) N cap) (.ps E (p ++ y :: r)) (b :: I) := by
  subst hN ho hv
  obtain ⟨x, bs, h1, h2, h3, h4, h5⟩ := Deep.sub h hn (i := p.length) (j := j) (by simp) hj
  rw [getD_mid] at h2 h5
  refine ⟨x, bs, h1, h2, h3, h4, fun w' u y a1 a2 a3 => ?_⟩
  have h6 := h5 w' u y a1 a2 a3
  have e : (p ++ y :: r).length = (p ++ n :: r).length := by simp
  rwa [set_mid, e] at h6
theorem Deep.same {w w' : World} {x : Value} {v : AV} {bs : List Nat} (h : Deep w x v bs) (hu : Upd w w' []) : Deep w' x v bs := h.upd hu (by simp)
theorem wrap_1 {k : Int} (h0 : 0 ≤ k) (h : k ≤ 4611686018427387904) : wrap64 (k + 1) = k + 1 := by unfold wrap64; omega
theorem kmarkText (k : Int) (w : World) (ht : Tabs w) (hk : k ≤ 4611686018427387904) :
    Calls Try.prog 22 #[.int .i64 k] w fun e w' => e = .returned (.string ⟨(mkT k).toArray⟩) ∧ Upd w w' [] := by
  refine Calls.mono (Snd.quiet (s22.1.2) (args := [.int .i64 k]) (xs := [.int .i64 k]) (r := .str (mkT k)) (.cons (S := []) (S' := []) (.val (.cell (.per (.int _ _) rfl))) .nil) ?_ trivial rfl ht) ?_
  · exact ⟨fun q hq => by cases hq; exact hk, rfl, rfl⟩
  · rintro e w' ⟨x, rfl, hr, hu⟩
    cases hr
    exact ⟨rfl, hu⟩
set_option maxHeartbeats 4000000 in
theorem kmarkStringS (l : List Bs) (k0 : Int) (w : World) (x : Value) (bs : List Nat) (hd : Deep w x (.ps .str l) bs) (hn : bs.Nodup) (ht : Tabs w) (htb : ∀ c ∈ bs, isTab c = false) (h0 : 0 ≤ k0) (hb : k0 + (l.length : Int) ≤ 4611686018427387904) :
    Calls Try.prog 11 #[x, .int .i64 k0] w fun e w' => e = .returned (.int .i64 (k0 + (l.length : Int))) ∧ Deep w' x (.ps .str (mkS l k0)) bs ∧ Upd w w' bs := by
  rcases hd.inv_ps with ⟨rfl, rfl, a, cap, rfl⟩ | ⟨b, cap, xs, T, bss, h0', rfl, hM, hc, hb', hl, h1, hr, rfl⟩
  · go_enter Try.func11, Try.ntmps11
    go_wp2
    go_loopg [1, 5] 1 (fun g vk vi wr => vk = .int .i64 k0 ∧ vi = .int .i64 0 ∧ wr = w)
    case atStart => exact ⟨rfl, rfl, rfl⟩
    obtain ⟨rfl, rfl, rfl⟩ := hrel
    go_wp2
    go_ret
    exact ⟨by simp, .nil .str a cap, .refl _ _⟩
  · generalize hN : l.length = N at *
    have A0 : Aside (k0 + (N : Int) ≤ 4611686018427387904 ∧ N ≤ MX) := ⟨hb, hM⟩
    have A1 : Aside ((b :: inn (N * esz .str) bss).Nodup ∧ Tabs w ∧ ∀ c ∈ b :: inn (N * esz .str) bss, isTab c = false) := ⟨hn, ht, htb⟩
    clear hb hb' hl h1 hr hM hc hn ht htb
    generalize inn (N * esz .str) bss = I at *
    go_enter Try.func11, Try.ntmps11
    go_wp2
    go_loopg [1, 5] N (fun g vk vi wr => ∃ (p r : List Bs) (k : Int), g = r.length ∧ vk = .int .i64 k ∧ vi = .int .i64 p.length ∧ Aside (Deep wr (.slice (some ⟨b, 0, none⟩) N cap) (.ps .str (p ++ r)) (b :: I) ∧ Upd w wr (b :: I)) ∧ Aside ((p ++ r).length = N ∧ 0 ≤ k ∧ k + r.length = k0 + N ∧ p ++ mkS r k = mkS l k0))
    case atStart => exact ⟨[], l, k0, hN.symm, rfl, rfl, ⟨hd, .refl _ _⟩, hN, h0, by rw [hN], rfl⟩
    obtain ⟨p, r, k, hg, rfl, rfl, H1, H2⟩ := hrel
    clear hd
    cases r with
    | nil =>
      have hlt : ¬ ((p.length : Int) < (N : Int)) := by have := H2.out.1; simp at this; omega
      go_wp2
      go_ret
      obtain ⟨H3, H4⟩ := H1.out
      obtain ⟨H5, H6, H7, H8⟩ := H2.out
      simp only [mkS, List.append_nil] at H3 H8
      rw [H8] at H3
      exact ⟨by simp at H7; simp [H7], H3, H4⟩
    | cons n r =>
      have hlt : ((p.length : Int) < (N : Int)) := by have := H2.out.1; simp at this; omega
      obtain ⟨D0, U0⟩ := H1.out
      obtain ⟨hlen, hk, hks, hmk⟩ := H2.out
      obtain ⟨hbd, hMX⟩ := A0.out
      obtain ⟨hnd, htw, htb⟩ := A1.out
      have htr := U0.tabs htw htb
      simp only [List.length_cons] at hks
      have B1 : Aside (wrap64 (k + 1) = k + 1) := wrap_1 hk (by omega)
      have B2 : Aside (wrap64 ((p.length : Int) + 1) = (p.length : Int) + 1) := wrap_1 (by omega) (by unfold MX at hMX; omega)
      have B3 : Aside (0 ≤ k ∧ k + ((r.length : Int) + 1) = k0 + N ∧ p ++ mkS (n :: r) k = mkS l k0 ∧ (p ++ n :: r).length = N) := ⟨hk, hks, hmk, hlen⟩
      have B4 : Aside (Upd w wr (b :: I) ∧ (b :: I).Nodup) := ⟨U0, hnd⟩
      have B6 : Aside (k ≤ 4611686018427387904) := (by omega : k ≤ 4611686018427387904)
      have M0 := kmarkText k wr htr B6.out
      clear H1 H2 hbd hMX hnd htw htb htr hk hks hmk hlen U0
      go_wp2_with (go_at_call 22; refine M0.mono ?_)
      rintro e w1 ⟨rfl, V1⟩
      have D1 := D0.same V1
      have U1 := V1.mono (bs' := b :: I) (by simp)
      obtain ⟨⟨x1, c1⟩, f1⟩ := D1.cellA B3.out.2.2.2 (j := 0) (o := p.length) (by simp [esz]) (by decide)
      obtain ⟨D2, U2⟩ := D1.setA B3.out.2.2.2 B4.out.2 (j := 0) (o := p.length) (by simp [esz]) (by decide) (v := .string ⟨(mkT k).toArray⟩) (u := .str (mkT k)) (.str _ (Nat.le_trans (mkT_len B6.out) (by unfold MX; omega))) trivial (y := mkT k) rfl
      have B5 : Aside (Deep (w1.setCell ⟨b, p.length, none⟩ (.string ⟨(mkT k).toArray⟩)) (.slice (some ⟨b, 0, none⟩) N cap) (.ps .str (p ++ mkT k :: r)) (b :: I) ∧ Upd wr (w1.setCell ⟨b, p.length, none⟩ (.string ⟨(mkT k).toArray⟩)) (b :: I)) := ⟨D2, U1.trans U2⟩
      clear D0 D1 D2 V1 U1 U2 M0
      go_wp2
      go_roundg r.length
      case measure => subst hg; simp
      case rel =>
        obtain ⟨D2, U2⟩ := B5.out
        obtain ⟨a1, a2, a3, a4⟩ := B3.out
        exact ⟨p ++ [mkT k], r, k + 1, rfl, by rw [B1.out], by rw [B2.out]; simp, ⟨by simpa using D2, B4.out.1.trans U2⟩, by simpa using a4, by omega, by omega, by simpa [mkS] using a3⟩
end Go.Rs

