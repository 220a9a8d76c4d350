/- A checked evaluator of the model's code, part H. -/
import Derived.Test.YtkalanmdpnapbaaDoorFG
import Derived.Lib.Builder
import Derived.Lib.UnsafeStr
import Derived.Lib.AppendStr
import Derived.Deep.AppendSrc
set_option linter.all false
section
/-! A row of bytes that grows, told to the sign: for the builder. -/
namespace Go.Rs
variable {P : Program}
theorem not_int {d : TypeDesc} (hd : ∀ k, d ≠ .int k) : (match d with | .int _ => true | _ => false) = false := by cases d <;> first | rfl | exact absurd rfl (hd _)
theorem run_append_lie2 {tx u ty e : Nat} {d : TypeDesc} {i : TypeInfo} {w w' : World} (ht : P.underlying tx = some (.slice e)) (hu : P.underlying u = some d) (hd : ∀ k, d ≠ .int k) (hi : P.info? e = some i) {sLen sCap : Nat} {base : Option Addr} {y : Value} {m : Nat} {news : List Value}
    (hlen : (Builtin.lenOf y).run P w = .ok m w) (hf : (Builtin.firstCells i.size m y).run P w = .ok news.toArray w) (hroom : sLen + m ≤ sCap)
    (hst : ∀ a, base = some a → (storeCells (a.add (sLen * i.size)) news 0).run P w = .ok () w') (hnone : base = none → w' = w) :
    (Builtin.append_ #[tx, u] ty #[.slice base sLen sCap, y]).run P w = .ok (.slice base (sLen + m) sCap) w' := by
  have hz := not_int hd
  cases base with
  | none => rw [hnone rfl]; simp [Builtin.append_, run_underlying' ht, run_underlying' hu, run_sizeOf hi, hlen, hroom, hf, hz]
  | some a => simp [Builtin.append_, run_underlying' ht, run_underlying' hu, run_sizeOf hi, hlen, hroom, hf, hst a rfl, hz]
theorem run_append_more2 {tx u ty e : Nat} {d : TypeDesc} {i : TypeInfo} {z : Value} {w : World} (ht : P.underlying tx = some (.slice e)) (hu : P.underlying u = some d) (hd : ∀ k, d ≠ .int k) (hi : P.info? e = some i) (hz : i.zero = some z) {sLen sCap : Nat} {base : Option Addr} {y : Value} {m : Nat} {olds news : List Value}
    (hlen : (Builtin.lenOf y).run P w = .ok m w) (hf : ∀ w', w'.heap = w.heap → (Builtin.firstCells i.size m y).run P w' = .ok news.toArray w')
    (hfo : ∀ w', w'.heap = w.heap → (Builtin.firstCells i.size sLen (.slice base sLen sCap)).run P w' = .ok olds.toArray w')
    (hg : sCap < sLen + m) (h63 : sLen + m ≤ 1073741824) (hb : i.bytes ≤ 256) :
    ∃ cap, sLen + m ≤ cap ∧ (Builtin.append_ #[tx, u] ty #[.slice base sLen sCap, y]).run P w =
      .ok (.slice (some ⟨w.heap.size, 0, none⟩) (sLen + m) cap) (w.drew.alloc (.cells (olds.toArray ++ news.toArray ++ Builtin.zeroCells z.cells (cap - (sLen + m))) e)) := by
  refine ⟨grownCap w (sLen + m) sCap e, by simp [grownCap, Question.cut], ?_⟩
  have hzz := not_int hd
  have hn : ¬ (sLen + m ≤ sCap) := by omega
  have h63' : ¬ (9223372036854775807 < ((sLen : Int) + (m : Int))) := by omega
  have hfit := growslice_fits (need := sLen + m) (old := sCap) (bytes := i.bytes) hg (by
    calc (sLen + m) * i.bytes ≤ 1073741824 * 256 := Nat.mul_le_mul h63 hb
      _ ≤ 140737488355328 := by decide)
  have h48' : ¬ (281474976710656 < Builtin.nextslicecap (sLen + m) sCap * i.bytes) := by omega
  have hf' := hf w.drew rfl
  have hfo' := hfo w.drew rfl
  simp [Builtin.append_, run_underlying' ht, run_underlying' hu, sizeOf, typeInfo, zeroValue, hi, hz, hlen, hn, h63', h48', Question.forced, hf', hfo', newRow, grownCap, hzz]
  congr 2
  apply Array.ext'
  simp [List.append_assoc]
def bC (m : Bs) : List Value := m.map fun c => .int .u8 c.toNat
theorem bC_len (m : Bs) : (bC m).length = m.length := by simp [bC]
theorem bC_one (m : Bs) : ∀ x ∈ bC m, x.oneCell' = true := by
  intro x hx
  simp only [bC, List.mem_map] at hx
  obtain ⟨c, -, rfl⟩ := hx
  rfl
theorem bC_get (m : Bs) {i : Nat} (h : i < m.length) : (bC m).getD i undef = .int .u8 (m.getD i 0).toNat := by
  simp [bC, List.getD_eq_getElem?_getD, h]
/-- A builder's bytes, and the block that bears them. -/
inductive Buf (w : World) : Value → Bs → Option Nat → Prop
  | nil : Buf w (.slice none 0 0) [] none
  | row (g cap : Nat) (s : Bs) (xs : List Value) (h0 : cap ≠ 0) (hc : s.length ≤ cap) (hb : w.heap[g]? = some (.cells xs.toArray B8 (0, 0))) (h1 : ∀ x ∈ xs, x.oneCell' = true) (hl : xs.length = cap)
      (hr : ∀ i, i < s.length → xs.getD i undef = .int .u8 (s.getD i 0).toNat) : Buf w (.slice (some ⟨g, 0, none⟩) s.length cap) s (some g)
theorem Buf.keep {w w' : World} {v s o} (h : Buf w v s o) (hb : ∀ g, o = some g → w'.heap[g]? = w.heap[g]?) : Buf w' v s o := by
  cases h with
  | nil => exact .nil
  | row g cap s xs h0 hc hh h1 hl hr => exact .row g cap s xs h0 hc (by rw [hb g rfl]; exact hh) h1 hl hr
theorem row_join {s m : Bs} {olds zs : List Value} (ho : olds.length = s.length) (hr : ∀ i, i < s.length → olds.getD i undef = .int .u8 (s.getD i 0).toNat) :
    ∀ i, i < (s ++ m).length → (olds ++ bC m ++ zs).getD i undef = .int .u8 ((s ++ m).getD i 0).toNat := by
  intro i hi
  rw [List.length_append] at hi
  rw [List.append_assoc]
  by_cases h : i < s.length
  · have e : (s ++ m).getD i 0 = s.getD i 0 := by simp [List.getD_eq_getElem?_getD, List.getElem?_append_left h]
    rw [e, ← hr i h]
    simp only [List.getD_eq_getElem?_getD]
    rw [List.getElem?_append_left (by omega)]
  · have e : (s ++ m).getD i 0 = m.getD (i - s.length) 0 := by simp [List.getD_eq_getElem?_getD, List.getElem?_append_right (show s.length ≤ i by omega)]
    rw [e, ← bC_get m (by omega)]
    simp only [List.getD_eq_getElem?_getD]
    rw [List.getElem?_append_right (by omega), List.getElem?_append_left (by rw [bC_len]; omega), ho]
theorem app8 {tx u ty : Nat} {d : TypeDesc} {i : TypeInfo} {w : World} (ht : P.underlying tx = some (.slice B8)) (hu : P.underlying u = some d) (hd : ∀ k, d ≠ .int k) (hi : P.info? B8 = some i) (hz : i.zero = some (.int .u8 0)) (hs : i.size = 1) (hby : i.bytes ≤ 256)
    {v : Value} {s : Bs} {o : Option Nat} (h : Buf w v s o) {y : Value} {m : Bs} (hlen : (Builtin.lenOf y).run P w = .ok m.length w) (hf : ∀ w', w'.heap = w.heap → (Builtin.firstCells 1 m.length y).run P w' = .ok (bC m).toArray w') (h63 : s.length + m.length ≤ 1073741824) :
    ∃ v' w' o', (Builtin.append_ #[tx, u] ty #[v, y]).run P w = .ok v' w' ∧ Buf w' v' (s ++ m) o' ∧ w'.os = w.os ∧ w'.tape = w.tape ∧ w'.output = w.output ∧ w.heap.size ≤ w'.heap.size ∧
      (∀ k, k < w.heap.size → some k ≠ o → w'.heap[k]? = w.heap[k]?) ∧ (∀ g, o' = some g → o = some g ∨ w.heap.size ≤ g) := by
  have hf' : ∀ w', w'.heap = w.heap → (Builtin.firstCells i.size m.length y).run P w' = .ok (bC m).toArray w' := by rw [hs]; exact hf
  have grow : ∀ {base : Option Addr} {cap : Nat} {olds : List Value}, olds.length = s.length → (∀ x ∈ olds, x.oneCell' = true) → (∀ i, i < s.length → olds.getD i undef = .int .u8 (s.getD i 0).toNat) →
      (∀ w', w'.heap = w.heap → (Builtin.firstCells i.size s.length (.slice base s.length cap)).run P w' = .ok olds.toArray w') → cap < s.length + m.length →
      ∃ v' w' o', (Builtin.append_ #[tx, u] ty #[.slice base s.length cap, y]).run P w = .ok v' w' ∧ Buf w' v' (s ++ m) o' ∧ w'.os = w.os ∧ w'.tape = w.tape ∧ w'.output = w.output ∧ w.heap.size ≤ w'.heap.size ∧
      (∀ k, k < w.heap.size → some k ≠ o → w'.heap[k]? = w.heap[k]?) ∧ (∀ g, o' = some g → o = some g ∨ w.heap.size ≤ g) := by
    intro base cap olds ho h1 hr hfo hg
    obtain ⟨c2, hc2, hrun⟩ := run_append_more2 (P := P) (w := w) (ty := ty) ht hu hd hi hz hlen hf' hfo hg h63 hby
    have hzl : (Builtin.zeroCells (Value.int .u8 0).cells (c2 - (s.length + m.length))).toList.length = c2 - (s.length + m.length) := by
      simp [Builtin.zeroCells, Value.cells]
    have hz1 := zeroCells_one (z := (Value.int .u8 0).cells) (by simp [Value.cells, Value.oneCell']) (by simp [Value.cells]) (c2 - (s.length + m.length))
    refine ⟨_, _, some w.heap.size, hrun, ?_, rfl, rfl, rfl, by simp, fun k hk _ => heap_alloc_old w.drew _ hk, fun g hg => .inr (by cases hg; exact Nat.le_refl _)⟩
    have := Buf.row (w := w.drew.alloc (.cells (olds.toArray ++ (bC m).toArray ++ Builtin.zeroCells (Value.int .u8 0).cells (c2 - (s.length + m.length))) B8)) w.heap.size c2 (s ++ m) (olds ++ bC m ++ (Builtin.zeroCells (Value.int .u8 0).cells (c2 - (s.length + m.length))).toList) (by omega) (by rw [List.length_append]; exact hc2)
      (by
        have := heap_alloc_new w.drew (.cells (olds.toArray ++ (bC m).toArray ++ Builtin.zeroCells (Value.int .u8 0).cells (c2 - (s.length + m.length))) B8)
        refine Eq.trans this ?_
        congr 2
        apply Array.ext'
        simp) (by
        intro x hx
        simp only [List.mem_append] at hx
        rcases hx with (hx | hx) | hx
        · exact h1 x hx
        · exact bC_one m x hx
        · exact hz1 x hx) (by simp only [List.length_append, hzl, bC_len, ho]; omega) (row_join ho hr)
    rw [List.length_append] at this
    exact this
  cases h with
  | nil =>
    by_cases hm : m = []
    · subst hm
      have hrun := run_append_lie2 (P := P) (w := w) (w' := w) (ty := ty) (base := none) (sLen := 0) (sCap := 0) (news := []) ht hu hd hi hlen (hf' w rfl) (by simp) (by intro a' _; simp [storeCells]) (fun _ => rfl)
      exact ⟨_, _, none, hrun, .nil, rfl, rfl, rfl, Nat.le_refl _, fun _ _ _ => rfl, by simp⟩
    · have hml : m.length ≠ 0 := fun e => hm (List.length_eq_zero_iff.1 e)
      have := grow (base := none) (cap := 0) (olds := []) rfl (by simp) (by simp) (by
        intro w' _
        simp [Builtin.firstCells, loadCells, loadCellsFrom]) (by simp only [List.length_nil]; omega)
      simpa using this
  | row g cap s xs h0 hc hb h1 hl hr =>
    by_cases hroom : s.length + m.length ≤ cap
    · have hbound : s.length + (bC m).length ≤ xs.length := by rw [bC_len, hl]; exact hroom
      have hsc := run_storeCells_at P g s.length B8 (bC m) 0 xs.toArray w hb (by simpa using hbound) (bC_one m)
      simp only [Nat.add_zero] at hsc
      have hrun := run_append_lie2 (P := P) (w := w) (w' := w.setRow g (xs.take s.length ++ bC m ++ xs.drop (s.length + (bC m).length)).toArray) (ty := ty) (base := some ⟨g, 0, none⟩) (sLen := s.length) (sCap := cap) ht hu hd hi hlen (hf' w rfl) hroom (by
        intro a' ha
        cases ha
        rw [hs, Nat.mul_one, Addr.add_mid, Nat.zero_add]
        simpa using hsc) (by intro h; cases h)
      obtain ⟨f1, f2, f3⟩ := setRow_facts (ys := xs.take s.length ++ bC m ++ xs.drop (s.length + (bC m).length)) hb
      refine ⟨_, _, some g, hrun, ?_, rfl, rfl, rfl, by rw [f3]; exact Nat.le_refl _, fun k _ hk => f1 k (fun e => hk (by rw [e])), fun g' hg => .inl hg⟩
      have := Buf.row (w := w.setRow g (xs.take s.length ++ bC m ++ xs.drop (s.length + (bC m).length)).toArray) g cap (s ++ m) _ h0 (by rw [List.length_append]; exact hroom) (f2 B8 hb) (by
        intro z hz
        simp only [List.mem_append] at hz
        rcases hz with (hz | hz) | hz
        · exact h1 z (List.mem_of_mem_take hz)
        · exact bC_one m z hz
        · exact h1 z (List.mem_of_mem_drop hz)) (by simp only [List.length_append, List.length_take, List.length_drop]; omega)
        (row_join (by simp only [List.length_take]; omega) (fun i hi => by
          rw [← hr i hi]
          simp only [List.getD_eq_getElem?_getD, List.getElem?_take, if_pos hi]))
      rw [List.length_append] at this
      exact this
    · refine grow (base := some ⟨g, 0, none⟩) (cap := cap) (olds := xs.take s.length) (by simp only [List.length_take]; omega) (fun x hx => h1 x (List.mem_of_mem_take hx)) (fun i hi => by
        rw [← hr i hi]
        simp only [List.getD_eq_getElem?_getD, List.getElem?_take, if_pos hi]) ?_ (by omega)
      intro w' hw'
      rw [hs]
      exact run_firstCells_some w' 1 s.length ⟨g, 0, none⟩ s.length cap (xs.take s.length) (by simp only [List.length_take]; omega) (fun j u hj => by
        have hj' : j < s.length := by
          rcases Nat.lt_or_ge j s.length with h | h
          · exact h
          · rw [List.getElem?_eq_none (by simp only [List.length_take]; omega)] at hj; cases hj
        rw [List.getElem?_take, if_pos hj'] at hj
        rw [Addr.add_mid, Nat.zero_add, cell_row (w := w') (xs := xs) (T := B8) (by rw [hw']; exact hb) (by omega), List.getD_eq_getElem?_getD, hj]
        rfl)
/-- What a writing method may turn. -/
structure BW (b : Nat) (o : Option Nat) (w w' : World) : Prop where
  os : w'.os = w.os
  tape : w'.tape = w.tape
  output : w'.output = w.output
  size : w.heap.size ≤ w'.heap.size
  block : ∀ k, k < w.heap.size → k ≠ b → some k ≠ o → w'.heap[k]? = w.heap[k]?
theorem heap_lt {w : World} {b : Nat} {x} (h : w.heap[b]? = some x) : b < w.heap.size := by
  rcases Nat.lt_or_ge b w.heap.size with h1 | h1
  · exact h1
  · rw [Array.getElem?_eq_none h1] at h; cases h
theorem Buf.lt {w : World} {v s g} (h : Buf w v s (some g)) : g < w.heap.size := by
  cases h with
  | row g cap s xs h0 hc hb2 h1 hl hr => exact heap_lt hb2
theorem Buf.slice {w : World} {v s o} (h : Buf w v s o) : ∃ a cap, v = .slice a s.length cap := by
  cases h with
  | nil => exact ⟨none, 0, rfl⟩
  | row g cap s xs => exact ⟨_, _, rfl⟩
theorem ia_int {γ : Nat → Nat} {w : World} {S x k n} (h : IA γ w S x (.int k n)) : S = [] ∧ x = .int k n := by
  cases h with
  | val h => cases h with
    | cell h => cases h with
      | per h _ => cases h; exact ⟨rfl, rfl⟩
theorem ia_rb {γ : Nat → Nat} {w : World} {S x s} (h : IA γ w S x (.rb s)) : ∃ b y v o, x = .pointer (some ⟨b, 0, none⟩) ∧ w.heap[b]? = some (.cells #[y, v] BT (0, 0)) ∧ (y = .pointer none ∨ y = .pointer (some ⟨b, 0, none⟩)) ∧
    Buf w v s o ∧ o ≠ some b ∧ S = b :: o.toList ∧ γ b = 0 ∧ (∀ g, o = some g → γ g = 0) ∧ s.length ≤ MX := by
  cases h with
  | val h => cases h with
    | cell h => cases h with
      | per h _ => cases h
  | rb0 b s x hrow hx hs =>
    obtain ⟨g0, _, T, hb⟩ := hrow
    have hsh := hx.2
    simp only [World.shape?, hb] at hsh
    simp at hsh
    obtain rfl := hsh
    subst hs
    exact ⟨b, x, _, none, rfl, hb, hx.1, .nil, by simp, rfl, g0, by simp, Nat.zero_le _⟩
  | rb b b' cap s x xs hrow hx hne hM h0 hc hrow' hl hr =>
    obtain ⟨g0, _, T, hb⟩ := hrow
    obtain ⟨g1, h1, T', hb'⟩ := hrow'
    have hsh := hx.2
    simp only [World.shape?, hb] at hsh
    simp at hsh
    obtain rfl := hsh
    obtain ⟨hne, n, hsh'⟩ := hne
    simp only [World.shape?, hb'] at hsh'
    simp at hsh'
    obtain ⟨rfl, -⟩ := hsh'
    exact ⟨b, x, _, some b', rfl, hb, hx.1, .row b' cap s xs h0 hc hb' h1 hl hr, by simpa using hne, rfl, g0, fun g hg => by cases hg; exact g1, hM⟩
theorem rb_ia {γ : Nat → Nat} {w : World} {b : Nat} {v : Value} {s : Bs} {o : Option Nat} (hb : w.heap[b]? = some (.cells #[.pointer (some ⟨b, 0, none⟩), v] BT (0, 0))) (hv : Buf w v s o) (ho : o ≠ some b) (g0 : γ b = 0) (g1 : ∀ g, o = some g → γ g = 0) (hM : s.length ≤ MX) :
    IA γ w (b :: o.toList) (.pointer (some ⟨b, 0, none⟩)) (.rb s) := by
  have hx : BX w b (.pointer (some ⟨b, 0, none⟩)) := ⟨.inr rfl, by simp [World.shape?, hb]⟩
  have one : v.oneCell' = true → ∀ y ∈ [.pointer (some ⟨b, 0, none⟩), v], Value.oneCell' y = true := by
    intro h y hy
    simp at hy
    rcases hy with rfl | rfl
    · rfl
    · exact h
  cases hv with
  | nil => exact .rb0 b [] _ ⟨g0, one rfl, _, hb⟩ hx rfl
  | row g cap s xs h0 hc hb2 h1 hl hr => exact .rb b g cap s _ xs ⟨g0, one rfl, _, hb⟩ hx ⟨fun e => ho (by rw [e]), xs.length, by simp [World.shape?, hb2]⟩ hM h0 hc ⟨g1 g rfl, h1, _, hb2⟩ hl hr
/-- A writing method's world as a frame. -/
theorem BW.fr {γ : Nat → Nat} {w w' : World} {b : Nat} {o : Option Nat} (h : BW b o w w') (hf : ∀ b, w.heap.size ≤ b → γ b = 0) : Fr (b :: o.toList) γ w γ w' :=
  ⟨h.os, h.tape, h.output, h.size, fun k hk hn => ⟨h.block k hk (fun e => hn (by simp [e])) (fun e => hn (by simp [← e])), rfl⟩, fun k hk => hf k (Nat.le_trans h.size hk)⟩
theorem nodup_bo {b : Nat} {o : Option Nat} (h : o ≠ some b) : (b :: o.toList).Nodup := by
  cases o with
  | none => simp
  | some g => simp; intro e; exact h (by rw [e])
def wbC : List AV → (AV → List AV → Prop) → Prop
  | [.rb s, .int .u8 c], K => Obl ((0 ≤ c ∧ c < 256) ∧ s.length + 1 ≤ 1073741824) (K .opq [.rb (s ++ [UInt8.ofNat c.toNat])])
  | _, _ => False
def wsC : List AV → (AV → List AV → Prop) → Prop
  | [.rb s, .str m], K => Obl (s.length + m.length ≤ 1073741824) (K (.tup [.int .i64 m.length, .opq]) [.rb (s ++ m)])
  | _, _ => False
def stC1 : List AV → (AV → List AV → Prop) → Prop
  | [.rb s], K => K (.str s) [.ref [.opq, .opq]]
  | _, _ => False
theorem snd_wr {γ : Nat → Nat} {w w' : World} {b : Nat} {o o' : Option Nat} {t : Bs} {v' : Value} {K : AV → List AV → Prop} {e : Ending} {x : Value} {r : AV} (hf : ∀ b, w.heap.size ≤ b → γ b = 0) (hlt : b < w.heap.size)
    (hb : w'.heap[b]? = some (.cells #[.pointer (some ⟨b, 0, none⟩), v'] BT (0, 0))) (hv : Buf w' v' t o') (ho : o' ≠ some b) (hw : BW b o w w') (hg : ∀ g, o' = some g → o = some g ∨ w.heap.size ≤ g) (g0 : γ b = 0) (g1 : ∀ g, o = some g → γ g = 0) (hM : t.length ≤ MX)
    (he : e = .returned x) (hr : IR γ w' [] x r) (hK : K r [.rb t]) :
    ∃ r rs x γ' Sr Sq, K r rs ∧ e = .returned x ∧ IR γ' w' Sr x r ∧ IAs γ' w' Sq [.pointer (some ⟨b, 0, none⟩)] rs ∧ (Sr ++ Sq).Nodup ∧ Fr (b :: o.toList) γ w γ' w' ∧ ∀ k ∈ Sr ++ Sq, k ∈ b :: o.toList ∨ w.heap.size ≤ k := by
  have g2 : ∀ g, o' = some g → γ g = 0 := fun g h => (hg g h).elim (g1 g) (hf g)
  refine ⟨r, _, x, γ, [], (b :: o'.toList) ++ [], hK, he, hr, .cons (rb_ia hb hv ho g0 g2 hM) .nil, by simpa using nodup_bo ho, hw.fr hf, ?_⟩
  intro k hk
  simp only [List.nil_append, List.append_nil, List.mem_cons, Option.mem_toList] at hk ⊢
  rcases hk with h | h
  · exact .inl (.inl h)
  · exact (hg k h).imp (fun h => .inr h) (fun h => h)
theorem snd_wb {f : Nat} (h : ∀ (b : Nat) (x v : Value) (s : Bs) (o : Option Nat) (c : UInt8) (w : World), w.heap[b]? = some (.cells #[x, v] BT (0, 0)) → (x = .pointer none ∨ x = .pointer (some ⟨b, 0, none⟩)) → Buf w v s o → o ≠ some b → s.length + 1 ≤ 1073741824 →
    Calls P f #[.pointer (some ⟨b, 0, none⟩), .int .u8 c.toNat] w fun e w' => e = .returned .nilIface ∧ ∃ v' o', w'.heap[b]? = some (.cells #[.pointer (some ⟨b, 0, none⟩), v'] BT (0, 0)) ∧ Buf w' v' (s ++ [c]) o' ∧ o' ≠ some b ∧ BW b o w w' ∧ (∀ g, o' = some g → o = some g ∨ w.heap.size ≤ g)) : Snd P f wbC := by
  intro args K hK w γ S xs hi hn hf ht hs
  unfold wbC at hK
  split at hK
  case h_2 => exact hK.elim
  rename_i s c
  obtain ⟨⟨⟨c0, c1⟩, h63⟩, hK⟩ := hK
  cases hi with
  | cons h1 h2 =>
    cases h2 with
    | cons h2 h3 =>
      cases h3
      obtain ⟨b, y, v, o, rfl, hb, hy, hv, ho, rfl, g0, g1, hM⟩ := ia_rb h1
      obtain ⟨rfl, rfl⟩ := ia_int h2
      have ec : (c : Int) = ((UInt8.ofNat c.toNat).toNat : Nat) := by
        rw [UInt8.toNat_ofNat']
        have : c.toNat < 256 := by omega
        rw [Nat.mod_eq_of_lt this]; omega
      have hc := h b y v s o (UInt8.ofNat c.toNat) w hb hy hv ho h63
      rw [← ec] at hc
      refine Calls.mono hc ?_
      rintro e w' ⟨he, v', o', hb', hv', ho', hw, hg⟩
      simp only [List.append_nil]
      exact snd_wr hf (heap_lt hb) hb' hv' ho' hw hg g0 g1 (by simp; unfold MX; omega) he (.one (.cell (.per (.opq _) rfl))) hK
theorem snd_ws {f : Nat} (h : ∀ (b : Nat) (x v : Value) (s : Bs) (o : Option Nat) (m : Bs) (w : World), w.heap[b]? = some (.cells #[x, v] BT (0, 0)) → (x = .pointer none ∨ x = .pointer (some ⟨b, 0, none⟩)) → Buf w v s o → o ≠ some b → s.length + m.length ≤ 1073741824 →
    Calls P f #[.pointer (some ⟨b, 0, none⟩), .string ⟨m.toArray⟩] w fun e w' => e = .returned (.tuple #[.int .i64 m.length, .nilIface]) ∧ ∃ v' o', w'.heap[b]? = some (.cells #[.pointer (some ⟨b, 0, none⟩), v'] BT (0, 0)) ∧ Buf w' v' (s ++ m) o' ∧ o' ≠ some b ∧ BW b o w w' ∧ (∀ g, o' = some g → o = some g ∨ w.heap.size ≤ g)) : Snd P f wsC := by
  intro args K hK w γ S xs hi hn hf ht hs
  unfold wsC at hK
  split at hK
  case h_2 => exact hK.elim
  rename_i s m
  obtain ⟨h63, hK⟩ := hK
  cases hi with
  | cons h1 h2 =>
    cases h2 with
    | cons h2 h3 =>
      cases h3
      obtain ⟨b, y, v, o, rfl, hb, hy, hv, ho, rfl, g0, g1, hM⟩ := ia_rb h1
      obtain ⟨rfl, rfl⟩ := ia_str h2
      refine Calls.mono (h b y v s o m w hb hy hv ho h63) ?_
      rintro e w' ⟨he, v', o', hb', hv', ho', hw, hg⟩
      simp only [List.append_nil]
      refine snd_wr hf (heap_lt hb) hb' hv' ho' hw hg g0 g1 (by simp; unfold MX; omega) he (.tup (xs := [_, _]) (S := []) ?_) hK
      exact IVs.cons (S := []) (S' := []) (.cell (.per (.int _ _) rfl)) (IVs.cons (S := []) (S' := []) (.cell (.per (.opq _) rfl)) .nil)
theorem snd_st {f : Nat} (h : ∀ (b : Nat) (x v : Value) (s : Bs) (o : Option Nat) (w : World), w.heap[b]? = some (.cells #[x, v] BT (0, 0)) → Buf w v s o → o ≠ some b → s.length ≤ 140737488355328 →
    Calls P f #[.pointer (some ⟨b, 0, none⟩)] w fun e w' => e = .returned (.string ⟨s.toArray⟩) ∧ w'.heap[b]? = some (.cells #[x, v] BT (0, 0)) ∧ BW b o w w') : Snd P f stC1 := by
  intro args K hK w γ S xs hi hn hf ht hs
  unfold stC1 at hK
  split at hK
  case h_2 => exact hK.elim
  rename_i s
  cases hi with
  | cons h1 h2 =>
      cases h2
      obtain ⟨b, y, v, o, rfl, hb, hy, hv, ho, rfl, g0, g1, hM⟩ := ia_rb h1
      refine Calls.mono (h b y v s o w hb hv ho hM) ?_
      rintro e w' ⟨he, hb', hw⟩
      simp only [List.append_nil]
      have y1 : y.oneCell' = true := by rcases hy with rfl | rfl <;> rfl
      obtain ⟨a, cap, rfl⟩ := hv.slice
      refine ⟨_, _, _, γ, [], [b], hK, he, .one (.cell (.per (.str s hM) rfl)), ?_, by simp, hw.fr hf, by simp⟩
      refine IAs.cons (S := [b]) (S' := []) (.ref (xs := [y, .slice a s.length cap]) (S := []) b ⟨g0, ?_, _, hb'⟩ ?_) .nil
      · intro z hz
        simp at hz
        rcases hz with rfl | rfl
        · exact y1
        · rfl
      · exact ICs.cons (S := []) (S' := []) (.per (.opq _) y1) (ICs.cons (S := []) (S' := []) (.per (.opq _) rfl) .nil)
end Go.Rs
end
