/- A checked evaluator of the model's code, part H. -/
import Derived.Test.YtmgheiagnleeiaaFG
import Derived.Lib.Builder
import Derived.Lib.UnsafeStr
import Derived.Lib.AppendStr
import Derived.Deep.AppendSrc
import Derived.Laws.Rows
set_option linter.all false
section
/-! A row of bytes that grows, told to the sign: for the builder. -/
namespace Go.Rs
variable {P : Program}
inductive Buf (w : World) : Value → Bs → Option Nat → Prop
  | nil : Buf w (.slice none 0 0) [] none
  | row (g cap : Nat) (s : Bs) (xs : List Value) (h0 : cap ≠ 0) (hc : s.length ≤ cap) (hb : w.heap[g]? = some (.cells xs.toArray B8 (0, 0))) (h1 : ∀ x ∈ xs, x.oneCell' = true) (hl : xs.length = cap)
      (hr : ∀ i, i < s.length → xs.getD i undef = .int .u8 (s.getD i 0).toNat) : Buf w (.slice (some ⟨g, 0, none⟩) s.length cap) s (some g)
theorem Buf.keep {w w' : World} {v s o} (h : Buf w v s o) (hb : ∀ g, o = some g → w'.heap[g]? = w.heap[g]?) : Buf w' v s o := by
  cases h with
  | nil => exact .nil
  | row g cap s xs h0 hc hh h1 hl hr => exact .row g cap s xs h0 hc (by rw [hb g rfl]; exact hh) h1 hl hr
structure BW (b : Nat) (o : Option Nat) (w w' : World) : Prop where
  os : w'.os = w.os
  tape : w'.tape = w.tape
  output : w'.output = w.output
  size : w.heap.size ≤ w'.heap.size
  block : ∀ k, k < w.heap.size → k ≠ b → some k ≠ o → w'.heap[k]? = w.heap[k]?
theorem Buf.lt {w : World} {v s g} (h : Buf w v s (some g)) : g < w.heap.size := by
  cases h with
  | row g cap s xs h0 hc hb2 h1 hl hr => exact heap_lt hb2
theorem Buf.slice {w : World} {v s o} (h : Buf w v s o) : ∃ a cap, v = .slice a s.length cap := by
  cases h with
  | nil => exact ⟨none, 0, rfl⟩
  | row g cap s xs => exact ⟨_, _, rfl⟩
theorem BW.fr {γ : Nat → Nat} {w w' : World} {b : Nat} {o : Option Nat} (h : BW b o w w') (hf : ∀ b, w.heap.size ≤ b → γ b = 0) (g0 : γ b = 0) (g1 : ∀ g, o = some g → γ g = 0) : Fr (b :: o.toList) γ w γ w' :=
  ⟨h.os, h.tape, h.output, h.size, fun k hk hn => ⟨h.block k hk (fun e => hn (by simp [e])) (fun e => hn (by simp [← e])), rfl⟩, fun k hk => hf k (Nat.le_trans h.size hk), fun k hk => by
    have h0 : γ k = 0 := by
      rcases List.mem_cons.1 hk with rfl | hk
      · exact g0
      · exact g1 k (by simpa using hk)
    exact ⟨Nat.le_refl _, fun o ho => by rw [h0] at ho; omega⟩⟩
end Go.Rs
end
section
/-! Deep owned arrays in the library's insertion and deletion. -/
namespace Go.Rs
variable {γ : Nat → Nat} {w w' : World}
theorem InnerI.insert {E : El} {l v : List (ElT E)} {xs ys X : List Value} {bs1 bs2 : Nat → List Nat} {k : Nat} (hk : k ≤ l.length) (hv : v.length = 1) (h1 : InnerI γ w E l xs bs1) (h2 : InnerI γ w E v ys bs2)
    (hd : ∀ c ∈ inn (l.length * esz E) bs1, c ∉ inn (v.length * esz E) bs2)
    (hX : ∀ m j, m < l.length + 1 → j < esz E → X.getD (m * esz E + j) undef = if m < k then xs.getD (m * esz E + j) undef else if m = k then ys.getD j undef else xs.getD ((m - 1) * esz E + j) undef) :
    InnerI γ w E (l.take k ++ v ++ l.drop k) X (fun q => if q < k * esz E then bs1 q else if q < k * esz E + esz E then bs2 (q - k * esz E) else bs1 (q - esz E)) ∧
    ∀ c ∈ inn ((l.take k ++ v ++ l.drop k).length * esz E) (fun q => if q < k * esz E then bs1 q else if q < k * esz E + esz E then bs2 (q - k * esz E) else bs1 (q - esz E)), c ∈ inn (l.length * esz E) bs1 ∨ c ∈ inn (v.length * esz E) bs2 := by
  have hpos := esz_pos E
  have hlen : (l.take k ++ v ++ l.drop k).length = l.length + 1 := by simp; omega
  have hke : k * esz E ≤ l.length * esz E := Nat.mul_le_mul_right _ hk
  have hne : (l.length + 1) * esz E = l.length * esz E + esz E := by rw [Nat.add_mul]; omega
  have hv1 : v.length * esz E = esz E := by rw [hv]; omega
  have hmem : ∀ c ∈ inn ((l.take k ++ v ++ l.drop k).length * esz E) (fun q => if q < k * esz E then bs1 q else if q < k * esz E + esz E then bs2 (q - k * esz E) else bs1 (q - esz E)), c ∈ inn (l.length * esz E) bs1 ∨ c ∈ inn (v.length * esz E) bs2 := by
    intro c hc
    obtain ⟨q, hq, hc⟩ := inn_mem.1 hc
    rw [hlen, hne] at hq
    split at hc
    · exact .inl (inn_mem.2 ⟨q, by omega, hc⟩)
    · split at hc
      · exact .inr (inn_mem.2 ⟨_, by omega, hc⟩)
      · exact .inl (inn_mem.2 ⟨_, by omega, hc⟩)
  refine ⟨⟨fun m hm j hj => ?_, ?_, fun c hc => ?_⟩, hmem⟩
  · rw [hlen] at hm
    rw [hX m j hm hj]
    by_cases e1 : m < k
    · have e4 : m * esz E + j < k * esz E := idx_lt e1 hj
      rw [if_pos e1, if_pos e4]
      have e2 : (l.take k ++ v ++ l.drop k).getD m (elDef E) = l.getD m (elDef E) := by
        rw [List.getD_eq_getElem?_getD, List.append_assoc, List.getElem?_append_left (by simp; omega), List.getElem?_take_of_lt e1, List.getD_eq_getElem?_getD]
      rw [e2]; exact h1.deep m (by omega) j hj
    · have e4 : ¬ m * esz E + j < k * esz E := by
        have : k * esz E ≤ m * esz E := Nat.mul_le_mul_right _ (by omega)
        omega
      rw [if_neg e1, if_neg e4]
      by_cases e2 : m = k
      · subst e2
        rw [if_pos rfl, if_pos (by omega), Nat.add_sub_cancel_left]
        have e3 : (l.take m ++ v ++ l.drop m).getD m (elDef E) = v.getD 0 (elDef E) := by
          rw [List.getD_eq_getElem?_getD, List.getElem?_append_left (by simp; omega), List.getElem?_append_right (by simp; omega), List.getD_eq_getElem?_getD]
          congr 2
          simp; omega
        rw [e3]
        have := h2.deep 0 (by omega) j hj
        simpa using this
      · have e5 : (k + 1) * esz E ≤ m * esz E := Nat.mul_le_mul_right _ (by omega)
        rw [Nat.add_mul] at e5
        have e6 : m * esz E = (m - 1) * esz E + esz E := by
          have : m = (m - 1) + 1 := by omega
          calc m * esz E = ((m - 1) + 1) * esz E := by rw [← this]
            _ = (m - 1) * esz E + esz E := by rw [Nat.add_mul]; omega
        rw [if_neg e2, if_neg (by omega)]
        have e3 : (l.take k ++ v ++ l.drop k).getD m (elDef E) = l.getD (m - 1) (elDef E) := by
          rw [List.getD_eq_getElem?_getD, List.getElem?_append_right (by simp; omega), List.getElem?_drop, List.getD_eq_getElem?_getD]
          congr 2
          simp; omega
        have e7 : m * esz E + j - esz E = (m - 1) * esz E + j := by omega
        rw [e3, e7]; exact h1.deep (m - 1) (by omega) j hj
  · have n1 := inn_nodup.1 h1.nodup
    have n2 := inn_nodup.1 h2.nodup
    rw [hlen, hne]
    refine inn_nodup.2 ⟨fun q hq => ?_, fun p q hpq hq c hc1 hc2 => ?_⟩
    · split
      · exact n1.1 q (by omega)
      · split
        · exact n2.1 _ (by omega)
        · exact n1.1 _ (by omega)
    · split at hc1
      · split at hc2
        · exact n1.2 p q hpq (by omega) c hc1 hc2
        · split at hc2
          · exact hd c (inn_mem.2 ⟨p, by omega, hc1⟩) (inn_mem.2 ⟨_, by omega, hc2⟩)
          · exact n1.2 p (q - esz E) (by omega) (by omega) c hc1 hc2
      · split at hc1
        · split at hc2
          · omega
          · split at hc2
            · exact n2.2 (p - k * esz E) (q - k * esz E) (by omega) (by omega) c hc1 hc2
            · exact hd c (inn_mem.2 ⟨_, by omega, hc2⟩) (inn_mem.2 ⟨_, by omega, hc1⟩)
        · split at hc2
          · omega
          · split at hc2
            · omega
            · exact n1.2 (p - esz E) (q - esz E) (by omega) (by omega) c hc1 hc2
  · rcases hmem c hc with h | h
    · exact h1.full c h
    · exact h2.full c h
structure Bag (γ : Nat → Nat) (w : World) (S S0 I1 I2 : List Nat) : Prop where
  sub : ∀ b ∈ S0, b ∈ S
  s1 : ∀ c ∈ I1, c ∈ S
  s2 : ∀ c ∈ I2, c ∈ S
  p1 : ∀ c ∈ I1, 0 < γ c
  p2 : ∀ c ∈ I2, 0 < γ c
  dis : ∀ c ∈ I1, c ∉ I2
theorem Bag.two {b vb : Nat} {I1 I2 : List Nat} (hn : ((b :: I1) ++ ([] ++ ((vb :: I2) ++ []))).Nodup) (p1 : ∀ c ∈ I1, 0 < γ c) (p2 : ∀ c ∈ I2, 0 < γ c) : Bag γ w ((b :: I1) ++ ([] ++ ((vb :: I2) ++ []))) [b, vb] I1 I2 := by
  refine ⟨fun c hc => ?_, fun c hc => by simp [hc], fun c hc => by simp [hc], p1, p2, fun c h1 h2 => ?_⟩
  · simp at hc; rcases hc with rfl | rfl <;> simp
  · exact (List.nodup_append.1 hn).2.2 c (List.mem_cons_of_mem _ h1) c (by simp [h2]) rfl
theorem Bag.one {vb : Nat} {I2 : List Nat} (p2 : ∀ c ∈ I2, 0 < γ c) : Bag γ w ([] ++ ([] ++ ((vb :: I2) ++ []))) [vb] [] I2 := by
  refine ⟨fun c hc => ?_, by simp, fun c hc => by simp [hc], by simp, p2, by simp⟩
  simp at hc; subst hc; simp
theorem InnerI.lt {E : El} {l : List (ElT E)} {xs bss} (h : InnerI γ w E l xs bss) : ∀ c ∈ inn (l.length * esz E) bss, c < w.heap.size := fun c hc => by
  obtain ⟨i, j, hi, hj, h2⟩ := inn_ij hc
  exact (h.deep i hi j hj).lt h2
end Go.Rs
end
section
/-! Worlds in which trees are written anew: what changes, what stays. -/
namespace Go.Rs
variable {w w' w'' : World}
structure Upd (w w' : World) (bs : List Nat) : Prop where
  os : w'.os = w.os
  tape : w'.tape = w.tape
  output : w'.output = w.output
  size : w.heap.size ≤ w'.heap.size
  block : ∀ b, b < w.heap.size → b ∉ bs → w'.heap[b]? = w.heap[b]?
theorem Upd.refl (w : World) (bs : List Nat) : Upd w w bs := ⟨rfl, rfl, rfl, Nat.le_refl _, fun _ _ _ => rfl⟩
theorem Upd.trans {bs : List Nat} (h : Upd w w' bs) (h' : Upd w' w'' bs) : Upd w w'' bs :=
  ⟨h'.os.trans h.os, h'.tape.trans h.tape, h'.output.trans h.output, Nat.le_trans h.size h'.size, fun b hb hn => (h'.block b (Nat.lt_of_lt_of_le hb h.size) hn).trans (h.block b hb hn)⟩
theorem Upd.mono {bs bs' : List Nat} (h : Upd w w' bs) (hs : ∀ b ∈ bs, b ∈ bs') : Upd w w' bs' :=
  ⟨h.os, h.tape, h.output, h.size, fun b hb hn => h.block b hb fun h' => hn (hs b h')⟩
theorem Deep.upd {x : Value} {v : AV} {bs cs : List Nat} (h : Deep w x v bs) (hu : Upd w w' cs) (hd : ∀ c ∈ bs, c ∉ cs) : Deep w' x v bs := h.keep fun c hc => hu.block c (h.lt hc) (hd c hc)
theorem Deep.set {E : El} {l : List (ElT E)} {b cap : Nat} {I : List Nat} (h : Deep w (.slice (some ⟨b, 0, none⟩) l.length cap) (.ps E l) (b :: I)) (hn : (b :: I).Nodup) {i j : Nat} (hi : i < l.length) (hj : j < esz E) {v : Value} {u : AV} (hv : Deep w v u [])
    (hold : flatV ((enc E (l.getD i (elDef E))).getD j .opq)) {y : ElT E} (hy : enc E y = (enc E (l.getD i (elDef E))).set j u) :
    Deep (w.setCell ⟨b, i * esz E + j, none⟩ v) (.slice (some ⟨b, 0, none⟩) (l.set i y).length cap) (.ps E (l.set i y)) (b :: I) ∧ Upd w (w.setCell ⟨b, i * esz E + j, none⟩ v) (b :: I) := by
  have hlt := h.lt (List.mem_cons_self ..)
  rcases h.inv_ps with ⟨h0, -, -⟩ | ⟨b', cap', xs, T, bss, h0, e, hM, hc, hb, hl, h1, hr, e2⟩
  · subst h0; simp at hi
  simp only [Value.slice.injEq, Option.some.injEq, Addr.mk.injEq, and_true, true_and] at e
  obtain ⟨rfl, rfl⟩ := e
  simp only [List.cons.injEq, true_and] at e2
  subst e2
  have hk := idx_lt hi hj
  have hkx : i * esz E + j < xs.length := by
    have : l.length * esz E ≤ cap * esz E := Nat.mul_le_mul_right _ hc
    omega
  have hother : ∀ c, c ≠ b → (w.setCell ⟨b, i * esz E + j, none⟩ v).heap[c]? = w.heap[c]? := fun c hcb => Go.heap_setCell_other w ⟨b, _, none⟩ c v hcb
  have hsame : (w.setCell ⟨b, i * esz E + j, none⟩ v).heap[b]? = some (.cells (xs.set (i * esz E + j) v).toArray T (0, 0)) := by
    rw [Go.heap_setCell_same w b _ _ _ v hb]
    congr 2
    apply Array.ext'
    simp
  have hnI := (List.nodup_cons.1 hn).1
  have hflat : bss (i * esz E + j) = [] := by
    have h2 := hr i hi j hj
    have : ∀ {x u bs}, Deep w x u bs → flatV u → bs = [] := by
      intro x u bs h hf
      cases h with
      | sl E l b cap xs T bss hM hc h0 => exact absurd hf h0
      | _ => rfl
    exact this h2 hold
  refine ⟨?_, ⟨rfl, rfl, rfl, by simp, fun c _ hc => hother c (by rintro rfl; exact hc (List.mem_cons_self ..))⟩⟩
  have hlen : (l.set i y).length = l.length := List.length_set
  have h9 := Deep.sl (w := w.setCell ⟨b, i * esz E + j, none⟩ v) E (l.set i y) b cap (xs.set (i * esz E + j) v) T bss (by rw [hlen]; exact hM) (by rw [hlen]; exact hc) (by intro e; apply h0; apply List.length_eq_zero_iff.1; rw [← hlen, e]; rfl) hsame (by rw [List.length_set]; exact hl)
    (fun z hz => by
      rcases List.mem_or_eq_of_mem_set hz with hz | rfl
      · exact h1 z hz
      · exact hv.one)
    (fun m hm q hq => by
      rw [hlen] at hm
      have hmq := idx_lt hm hq
      by_cases e : m * esz E + q = i * esz E + j
      · have emi : m = i ∧ q = j := by
          have hpos := esz_pos E
          have a1 : (m * esz E + q) / esz E = m := by rw [Nat.mul_comm, Nat.mul_add_div hpos, Nat.div_eq_of_lt hq, Nat.add_zero]
          have a2 : (i * esz E + j) / esz E = i := by rw [Nat.mul_comm, Nat.mul_add_div hpos, Nat.div_eq_of_lt hj, Nat.add_zero]
          have : m = i := by rw [← a1, e, a2]
          subst this
          exact ⟨rfl, by omega⟩
        obtain ⟨rfl, rfl⟩ := emi
        have e1 : (xs.set (m * esz E + q) v).getD (m * esz E + q) undef = v := by simp [List.getD_eq_getElem?_getD, hkx]
        have e2 : (l.set m y).getD m (elDef E) = y := by simp [List.getD_eq_getElem?_getD, hm]
        have e3 : ((enc E (l.getD m (elDef E))).set q u).getD q .opq = u := by
          have : q < (enc E (l.getD m (elDef E))).length := by rw [enc_len]; exact hq
          rw [List.getD_eq_getElem?_getD, List.getElem?_set_self this]; rfl
        rw [e1, e2, hy, e3, hflat]
        exact hv.keep (by simp)
      · have e1 : (xs.set (i * esz E + j) v).getD (m * esz E + q) undef = xs.getD (m * esz E + q) undef := by
          simp [List.getD_eq_getElem?_getD, List.getElem?_set_ne (Ne.symm e)]
        have e4 : (enc E ((l.set i y).getD m (elDef E))).getD q .opq = (enc E (l.getD m (elDef E))).getD q .opq := by
          by_cases hmi : m = i
          · subst hmi
            have e2 : (l.set m y).getD m (elDef E) = y := by simp [List.getD_eq_getElem?_getD, hm]
            rw [e2, hy]
            simp [List.getD_eq_getElem?_getD, List.getElem?_set_ne (show j ≠ q by intro h; apply e; rw [h])]
          · simp [List.getD_eq_getElem?_getD, List.getElem?_set_ne (Ne.symm hmi)]
        rw [e1, e4]
        exact (hr m hm q hq).keep fun c hc' => hother c (by rintro rfl; exact hnI (inn_mem.2 ⟨_, hmq, hc'⟩)))
  rw [hlen] at h9
  rw [hlen]; exact h9
theorem Deep.sub {E : El} {l : List (ElT E)} {b cap : Nat} {I : List Nat} (h : Deep w (.slice (some ⟨b, 0, none⟩) l.length cap) (.ps E l) (b :: I)) (hn : (b :: I).Nodup) {i j : Nat} (hi : i < l.length) (hj : j < esz E) :
    ∃ x bs, w.cell? ⟨b, i * esz E + j, none⟩ = some x ∧ Deep w x ((enc E (l.getD i (elDef E))).getD j .opq) bs ∧ bs.Nodup ∧ (∀ c ∈ bs, c ∈ I) ∧
      ∀ w' u y, Deep w' x u bs → Upd w w' bs → enc E y = (enc E (l.getD i (elDef E))).set j u →
        Deep w' (.slice (some ⟨b, 0, none⟩) (l.set i y).length cap) (.ps E (l.set i y)) (b :: I) := by
  rcases h.inv_ps with ⟨h0, -, -⟩ | ⟨b', cap', xs, T, bss, h0, e, hM, hc, hb, hl, h1, hr, e2⟩
  · subst h0; simp at hi
  simp only [Value.slice.injEq, Option.some.injEq, Addr.mk.injEq, and_true, true_and] at e
  obtain ⟨rfl, rfl⟩ := e
  simp only [List.cons.injEq, true_and] at e2
  subst e2
  have hk := idx_lt hi hj
  have hkx : i * esz E + j < xs.length := by
    have : l.length * esz E ≤ cap * esz E := Nat.mul_le_mul_right _ hc
    omega
  have hnI := (List.nodup_cons.1 hn).1
  have hnd := inn_nodup.1 (List.nodup_cons.1 hn).2
  have hlt := fun c (hc : c ∈ b :: inn (l.length * esz E) bss) => h.lt hc
  refine ⟨xs.getD (i * esz E + j) undef, bss (i * esz E + j), cell_row hb hkx, hr i hi j hj, hnd.1 _ hk, fun c hc => inn_mem.2 ⟨_, hk, hc⟩, ?_⟩
  intro w' u y hd hu hy
  have hlen : (l.set i y).length = l.length := List.length_set
  have hother : ∀ c ∈ b :: inn (l.length * esz E) bss, c ∉ bss (i * esz E + j) → w'.heap[c]? = w.heap[c]? := fun c hc hn => hu.block c (hlt c hc) hn
  have h9 := Deep.sl (w := w') E (l.set i y) b cap xs T bss (by rw [hlen]; exact hM) (by rw [hlen]; exact hc) (by intro e; apply h0; apply List.length_eq_zero_iff.1; rw [← hlen, e]; rfl)
    (by rw [hother b (List.mem_cons_self ..) (fun h => hnI (inn_mem.2 ⟨_, hk, h⟩)), hb]) hl h1
    (fun m hm q hq => by
      rw [hlen] at hm
      have hmq := idx_lt hm hq
      by_cases e : m * esz E + q = i * esz E + j
      · have emi : m = i ∧ q = j := by
          have hpos := esz_pos E
          have a1 : (m * esz E + q) / esz E = m := by rw [Nat.mul_comm, Nat.mul_add_div hpos, Nat.div_eq_of_lt hq, Nat.add_zero]
          have a2 : (i * esz E + j) / esz E = i := by rw [Nat.mul_comm, Nat.mul_add_div hpos, Nat.div_eq_of_lt hj, Nat.add_zero]
          have : m = i := by rw [← a1, e, a2]
          subst this
          exact ⟨rfl, by omega⟩
        obtain ⟨rfl, rfl⟩ := emi
        have e2 : (l.set m y).getD m (elDef E) = y := by simp [List.getD_eq_getElem?_getD, hm]
        have e3 : ((enc E (l.getD m (elDef E))).set q u).getD q .opq = u := by
          have : q < (enc E (l.getD m (elDef E))).length := by rw [enc_len]; exact hq
          rw [List.getD_eq_getElem?_getD, List.getElem?_set_self this]; rfl
        rw [e2, hy, e3]
        exact hd
      · have e4 : (enc E ((l.set i y).getD m (elDef E))).getD q .opq = (enc E (l.getD m (elDef E))).getD q .opq := by
          by_cases hmi : m = i
          · subst hmi
            have e2 : (l.set m y).getD m (elDef E) = y := by simp [List.getD_eq_getElem?_getD, hm]
            rw [e2, hy]
            simp [List.getD_eq_getElem?_getD, List.getElem?_set_ne (show j ≠ q by intro h; apply e; rw [h])]
          · simp [List.getD_eq_getElem?_getD, List.getElem?_set_ne (Ne.symm hmi)]
        rw [e4]
        refine (hr m hm q hq).keep fun c hc' => hother c (List.mem_cons_of_mem _ (inn_mem.2 ⟨_, hmq, hc'⟩)) fun h2 => ?_
        rcases Nat.lt_or_gt_of_ne e with e | e
        · exact hnd.2 _ _ e hk c hc' h2
        · exact hnd.2 _ _ e hmq c h2 hc')
  rw [hlen] at h9
  rw [hlen]; exact h9
end Go.Rs
end
