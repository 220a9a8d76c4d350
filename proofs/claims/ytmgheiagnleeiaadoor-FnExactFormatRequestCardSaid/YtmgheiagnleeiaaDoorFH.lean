/- A checked evaluator of the model's code, part H. -/
import Derived.Test.YtmgheiagnleeiaaDoorFG
import Derived.Lib.Builder
import Derived.Lib.UnsafeStr
import Derived.Lib.AppendStr
import Derived.Deep.AppendSrc
import Derived.Laws.Rows
set_option linter.all false
section
/-! A row of bytes that grows, told to the sign: for the builder. -/
namespace Go.Rs
variable {P : Program}
theorem not_int {d : TypeDesc} (hd : ∀ k, d ≠ .int k) : (match d with | .int _ => true | _ => false) = false := by cases d <;> first | rfl | exact absurd rfl (hd _)
theorem run_append_lie2 {tx u ty e : Nat} {d : TypeDesc} {i : TypeInfo} {w w' : World} (ht : P.underlying tx = some (.slice e)) (hu : P.underlying u = some d) (hd : ∀ k, d ≠ .int k) (hi : P.info? e = some i) {sLen sCap : Nat} {base : Option Addr} {y : Value} {m : Nat} {news : List Value}
    (hlen : (Builtin.lenOf y).run P w = .ok m w) (hf : (Builtin.firstCells i.size m y).run P w = .ok news.toArray w) (hroom : sLen + m ≤ sCap)
    (hst : ∀ a, base = some a → (storeCells (a.add (sLen * i.size)) news 0).run P w = .ok () w') (hnone : base = none → w' = w) :
    (Builtin.append_ #[tx, u] ty #[.slice base sLen sCap, y]).run P w = .ok (.slice base (sLen + m) sCap) w' := by
  have hz := not_int hd
  cases base with
  | none => rw [hnone rfl]; simp [Builtin.append_, run_underlying' ht, run_underlying' hu, run_sizeOf hi, hlen, hroom, hf, hz]
  | some a => simp [Builtin.append_, run_underlying' ht, run_underlying' hu, run_sizeOf hi, hlen, hroom, hf, hst a rfl, hz]
theorem run_append_more2 {tx u ty e : Nat} {d : TypeDesc} {i : TypeInfo} {z : Value} {w : World} (ht : P.underlying tx = some (.slice e)) (hu : P.underlying u = some d) (hd : ∀ k, d ≠ .int k) (hi : P.info? e = some i) (hz : i.zero = some z) {sLen sCap : Nat} {base : Option Addr} {y : Value} {m : Nat} {olds news : List Value}
    (hlen : (Builtin.lenOf y).run P w = .ok m w) (hf : ∀ w', w'.heap = w.heap → (Builtin.firstCells i.size m y).run P w' = .ok news.toArray w')
    (hfo : ∀ w', w'.heap = w.heap → (Builtin.firstCells i.size sLen (.slice base sLen sCap)).run P w' = .ok olds.toArray w')
    (hg : sCap < sLen + m) (h63 : sLen + m ≤ 1073741824) (hb : i.bytes ≤ 256) :
    ∃ cap, sLen + m ≤ cap ∧ (Builtin.append_ #[tx, u] ty #[.slice base sLen sCap, y]).run P w =
      .ok (.slice (some ⟨w.heap.size, 0, none⟩) (sLen + m) cap) (w.drew.alloc (.cells (olds.toArray ++ news.toArray ++ Builtin.zeroCells z.cells (cap - (sLen + m))) e)) := by
  refine ⟨grownCap w (sLen + m) sCap e, by simp [grownCap, Question.cut], ?_⟩
  have hzz := not_int hd
  have hn : ¬ (sLen + m ≤ sCap) := by omega
  have h63' : ¬ (9223372036854775807 < ((sLen : Int) + (m : Int))) := by omega
  have hfit := growslice_fits (need := sLen + m) (old := sCap) (bytes := i.bytes) hg (by
    calc (sLen + m) * i.bytes ≤ 1073741824 * 256 := Nat.mul_le_mul h63 hb
      _ ≤ 140737488355328 := by decide)
  have h48' : ¬ (281474976710656 < Builtin.nextslicecap (sLen + m) sCap * i.bytes) := by omega
  have hf' := hf w.drew rfl
  have hfo' := hfo w.drew rfl
  simp [Builtin.append_, run_underlying' ht, run_underlying' hu, sizeOf, typeInfo, zeroValue, hi, hz, hlen, hn, h63', h48', Question.forced, hf', hfo', newRow, grownCap, hzz]
  congr 2
  apply Array.ext'
  simp [List.append_assoc]
def bC (m : Bs) : List Value := m.map fun c => .int .u8 c.toNat
theorem bC_len (m : Bs) : (bC m).length = m.length := by simp [bC]
theorem bC_one (m : Bs) : ∀ x ∈ bC m, x.oneCell' = true := by
  intro x hx
  simp only [bC, List.mem_map] at hx
  obtain ⟨c, -, rfl⟩ := hx
  rfl
theorem bC_get (m : Bs) {i : Nat} (h : i < m.length) : (bC m).getD i undef = .int .u8 (m.getD i 0).toNat := by
  simp [bC, List.getD_eq_getElem?_getD, h]
inductive Buf (w : World) : Value → Bs → Option Nat → Prop
  | nil : Buf w (.slice none 0 0) [] none
  | row (g cap : Nat) (s : Bs) (xs : List Value) (h0 : cap ≠ 0) (hc : s.length ≤ cap) (hb : w.heap[g]? = some (.cells xs.toArray B8 (0, 0))) (h1 : ∀ x ∈ xs, x.oneCell' = true) (hl : xs.length = cap)
      (hr : ∀ i, i < s.length → xs.getD i undef = .int .u8 (s.getD i 0).toNat) : Buf w (.slice (some ⟨g, 0, none⟩) s.length cap) s (some g)
theorem Buf.keep {w w' : World} {v s o} (h : Buf w v s o) (hb : ∀ g, o = some g → w'.heap[g]? = w.heap[g]?) : Buf w' v s o := by
  cases h with
  | nil => exact .nil
  | row g cap s xs h0 hc hh h1 hl hr => exact .row g cap s xs h0 hc (by rw [hb g rfl]; exact hh) h1 hl hr
theorem row_join {s m : Bs} {olds zs : List Value} (ho : olds.length = s.length) (hr : ∀ i, i < s.length → olds.getD i undef = .int .u8 (s.getD i 0).toNat) :
    ∀ i, i < (s ++ m).length → (olds ++ bC m ++ zs).getD i undef = .int .u8 ((s ++ m).getD i 0).toNat := by
  intro i hi
  rw [List.length_append] at hi
  rw [List.append_assoc]
  by_cases h : i < s.length
  · have e : (s ++ m).getD i 0 = s.getD i 0 := by simp [List.getD_eq_getElem?_getD, List.getElem?_append_left h]
    rw [e, ← hr i h]
    simp only [List.getD_eq_getElem?_getD]
    rw [List.getElem?_append_left (by omega)]
  · have e : (s ++ m).getD i 0 = m.getD (i - s.length) 0 := by simp [List.getD_eq_getElem?_getD, List.getElem?_append_right (show s.length ≤ i by omega)]
    rw [e, ← bC_get m (by omega)]
    simp only [List.getD_eq_getElem?_getD]
    rw [List.getElem?_append_right (by omega), List.getElem?_append_left (by rw [bC_len]; omega), ho]
theorem app8 {tx u ty : Nat} {d : TypeDesc} {i : TypeInfo} {w : World} (ht : P.underlying tx = some (.slice B8)) (hu : P.underlying u = some d) (hd : ∀ k, d ≠ .int k) (hi : P.info? B8 = some i) (hz : i.zero = some (.int .u8 0)) (hs : i.size = 1) (hby : i.bytes ≤ 256)
    {v : Value} {s : Bs} {o : Option Nat} (h : Buf w v s o) {y : Value} {m : Bs} (hlen : (Builtin.lenOf y).run P w = .ok m.length w) (hf : ∀ w', w'.heap = w.heap → (Builtin.firstCells 1 m.length y).run P w' = .ok (bC m).toArray w') (h63 : s.length + m.length ≤ 1073741824) :
    ∃ v' w' o', (Builtin.append_ #[tx, u] ty #[v, y]).run P w = .ok v' w' ∧ Buf w' v' (s ++ m) o' ∧ w'.os = w.os ∧ w'.tape = w.tape ∧ w'.output = w.output ∧ w.heap.size ≤ w'.heap.size ∧
      (∀ k, k < w.heap.size → some k ≠ o → w'.heap[k]? = w.heap[k]?) ∧ (∀ g, o' = some g → o = some g ∨ w.heap.size ≤ g) := by
  have hf' : ∀ w', w'.heap = w.heap → (Builtin.firstCells i.size m.length y).run P w' = .ok (bC m).toArray w' := by rw [hs]; exact hf
  have grow : ∀ {base : Option Addr} {cap : Nat} {olds : List Value}, olds.length = s.length → (∀ x ∈ olds, x.oneCell' = true) → (∀ i, i < s.length → olds.getD i undef = .int .u8 (s.getD i 0).toNat) →
      (∀ w', w'.heap = w.heap → (Builtin.firstCells i.size s.length (.slice base s.length cap)).run P w' = .ok olds.toArray w') → cap < s.length + m.length →
      ∃ v' w' o', (Builtin.append_ #[tx, u] ty #[.slice base s.length cap, y]).run P w = .ok v' w' ∧ Buf w' v' (s ++ m) o' ∧ w'.os = w.os ∧ w'.tape = w.tape ∧ w'.output = w.output ∧ w.heap.size ≤ w'.heap.size ∧
      (∀ k, k < w.heap.size → some k ≠ o → w'.heap[k]? = w.heap[k]?) ∧ (∀ g, o' = some g → o = some g ∨ w.heap.size ≤ g) := by
    intro base cap olds ho h1 hr hfo hg
    obtain ⟨c2, hc2, hrun⟩ := run_append_more2 (P := P) (w := w) (ty := ty) ht hu hd hi hz hlen hf' hfo hg h63 hby
    have hzl : (Builtin.zeroCells (Value.int .u8 0).cells (c2 - (s.length + m.length))).toList.length = c2 - (s.length + m.length) := by
      simp [Builtin.zeroCells, Value.cells]
    have hz1 := zeroCells_one (z := (Value.int .u8 0).cells) (by simp [Value.cells, Value.oneCell']) (by simp [Value.cells]) (c2 - (s.length + m.length))
    refine ⟨_, _, some w.heap.size, hrun, ?_, rfl, rfl, rfl, by simp, fun k hk _ => heap_alloc_old w.drew _ hk, fun g hg => .inr (by cases hg; exact Nat.le_refl _)⟩
    have := Buf.row (w := w.drew.alloc (.cells (olds.toArray ++ (bC m).toArray ++ Builtin.zeroCells (Value.int .u8 0).cells (c2 - (s.length + m.length))) B8)) w.heap.size c2 (s ++ m) (olds ++ bC m ++ (Builtin.zeroCells (Value.int .u8 0).cells (c2 - (s.length + m.length))).toList) (by omega) (by rw [List.length_append]; exact hc2)
      (by
        have := heap_alloc_new w.drew (.cells (olds.toArray ++ (bC m).toArray ++ Builtin.zeroCells (Value.int .u8 0).cells (c2 - (s.length + m.length))) B8)
        refine Eq.trans this ?_
        congr 2
        apply Array.ext'
        simp) (by
        intro x hx
        simp only [List.mem_append] at hx
        rcases hx with (hx | hx) | hx
        · exact h1 x hx
        · exact bC_one m x hx
        · exact hz1 x hx) (by simp only [List.length_append, hzl, bC_len, ho]; omega) (row_join ho hr)
    rw [List.length_append] at this
    exact this
  cases h with
  | nil =>
    by_cases hm : m = []
    · subst hm
      have hrun := run_append_lie2 (P := P) (w := w) (w' := w) (ty := ty) (base := none) (sLen := 0) (sCap := 0) (news := []) ht hu hd hi hlen (hf' w rfl) (by simp) (by intro a' _; simp [storeCells]) (fun _ => rfl)
      exact ⟨_, _, none, hrun, .nil, rfl, rfl, rfl, Nat.le_refl _, fun _ _ _ => rfl, by simp⟩
    · have hml : m.length ≠ 0 := fun e => hm (List.length_eq_zero_iff.1 e)
      have := grow (base := none) (cap := 0) (olds := []) rfl (by simp) (by simp) (by
        intro w' _
        simp [Builtin.firstCells, loadCells, loadCellsFrom]) (by simp only [List.length_nil]; omega)
      simpa using this
  | row g cap s xs h0 hc hb h1 hl hr =>
    by_cases hroom : s.length + m.length ≤ cap
    · have hbound : s.length + (bC m).length ≤ xs.length := by rw [bC_len, hl]; exact hroom
      have hsc := run_storeCells_at P g s.length B8 (bC m) 0 xs.toArray w hb (by simpa using hbound) (bC_one m)
      simp only [Nat.add_zero] at hsc
      have hrun := run_append_lie2 (P := P) (w := w) (w' := w.setRow g (xs.take s.length ++ bC m ++ xs.drop (s.length + (bC m).length)).toArray) (ty := ty) (base := some ⟨g, 0, none⟩) (sLen := s.length) (sCap := cap) ht hu hd hi hlen (hf' w rfl) hroom (by
        intro a' ha
        cases ha
        rw [hs, Nat.mul_one, Addr.add_mid, Nat.zero_add]
        simpa using hsc) (by intro h; cases h)
      obtain ⟨f1, f2, f3⟩ := setRow_facts (ys := xs.take s.length ++ bC m ++ xs.drop (s.length + (bC m).length)) hb
      refine ⟨_, _, some g, hrun, ?_, rfl, rfl, rfl, by rw [f3]; exact Nat.le_refl _, fun k _ hk => f1 k (fun e => hk (by rw [e])), fun g' hg => .inl hg⟩
      have := Buf.row (w := w.setRow g (xs.take s.length ++ bC m ++ xs.drop (s.length + (bC m).length)).toArray) g cap (s ++ m) _ h0 (by rw [List.length_append]; exact hroom) (f2 B8 hb) (by
        intro z hz
        simp only [List.mem_append] at hz
        rcases hz with (hz | hz) | hz
        · exact h1 z (List.mem_of_mem_take hz)
        · exact bC_one m z hz
        · exact h1 z (List.mem_of_mem_drop hz)) (by simp only [List.length_append, List.length_take, List.length_drop]; omega)
        (row_join (by simp only [List.length_take]; omega) (fun i hi => by
          rw [← hr i hi]
          simp only [List.getD_eq_getElem?_getD, List.getElem?_take, if_pos hi]))
      rw [List.length_append] at this
      exact this
    · refine grow (base := some ⟨g, 0, none⟩) (cap := cap) (olds := xs.take s.length) (by simp only [List.length_take]; omega) (fun x hx => h1 x (List.mem_of_mem_take hx)) (fun i hi => by
        rw [← hr i hi]
        simp only [List.getD_eq_getElem?_getD, List.getElem?_take, if_pos hi]) ?_ (by omega)
      intro w' hw'
      rw [hs]
      exact run_firstCells_some w' 1 s.length ⟨g, 0, none⟩ s.length cap (xs.take s.length) (by simp only [List.length_take]; omega) (fun j u hj => by
        have hj' : j < s.length := by
          rcases Nat.lt_or_ge j s.length with h | h
          · exact h
          · rw [List.getElem?_eq_none (by simp only [List.length_take]; omega)] at hj; cases hj
        rw [List.getElem?_take, if_pos hj'] at hj
        rw [Addr.add_mid, Nat.zero_add, cell_row (w := w') (xs := xs) (T := B8) (by rw [hw']; exact hb) (by omega), List.getD_eq_getElem?_getD, hj]
        rfl)
structure BW (b : Nat) (o : Option Nat) (w w' : World) : Prop where
  os : w'.os = w.os
  tape : w'.tape = w.tape
  output : w'.output = w.output
  size : w.heap.size ≤ w'.heap.size
  block : ∀ k, k < w.heap.size → k ≠ b → some k ≠ o → w'.heap[k]? = w.heap[k]?
theorem Buf.lt {w : World} {v s g} (h : Buf w v s (some g)) : g < w.heap.size := by
  cases h with
  | row g cap s xs h0 hc hb2 h1 hl hr => exact heap_lt hb2
theorem Buf.slice {w : World} {v s o} (h : Buf w v s o) : ∃ a cap, v = .slice a s.length cap := by
  cases h with
  | nil => exact ⟨none, 0, rfl⟩
  | row g cap s xs => exact ⟨_, _, rfl⟩
theorem ia_int {γ : Nat → Nat} {w : World} {S x k n} (h : IA γ w S x (.int k n)) : S = [] ∧ x = .int k n := by
  cases h with
  | val h => cases h with
    | cell h => cases h with
      | per h _ => cases h; exact ⟨rfl, rfl⟩
theorem ia_rb {γ : Nat → Nat} {w : World} {S x s} (h : IA γ w S x (.rb s)) : ∃ b y v o, x = .pointer (some ⟨b, 0, none⟩) ∧ w.heap[b]? = some (.cells #[y, v] BT (0, 0)) ∧ (y = .pointer none ∨ y = .pointer (some ⟨b, 0, none⟩)) ∧
    Buf w v s o ∧ o ≠ some b ∧ S = b :: o.toList ∧ γ b = 0 ∧ (∀ g, o = some g → γ g = 0) ∧ s.length ≤ MX := by
  cases h with
  | val h => cases h with
    | cell h => cases h with
      | per h _ => cases h
  | rb0 b s x hrow hx hs =>
    obtain ⟨g0, _, T, hb⟩ := hrow
    have hsh := hx.2
    simp only [World.shape?, hb] at hsh
    simp at hsh
    obtain rfl := hsh
    subst hs
    exact ⟨b, x, _, none, rfl, hb, hx.1, .nil, by simp, rfl, g0, by simp, Nat.zero_le _⟩
  | rb b b' cap s x xs hrow hx hne hM h0 hc hrow' hl hr =>
    obtain ⟨g0, _, T, hb⟩ := hrow
    obtain ⟨g1, h1, T', hb'⟩ := hrow'
    have hsh := hx.2
    simp only [World.shape?, hb] at hsh
    simp at hsh
    obtain rfl := hsh
    obtain ⟨hne, n, hsh'⟩ := hne
    simp only [World.shape?, hb'] at hsh'
    simp at hsh'
    obtain ⟨rfl, -⟩ := hsh'
    exact ⟨b, x, _, some b', rfl, hb, hx.1, .row b' cap s xs h0 hc hb' h1 hl hr, by simpa using hne, rfl, g0, fun g hg => by cases hg; exact g1, hM⟩
theorem rb_ia {γ : Nat → Nat} {w : World} {b : Nat} {v : Value} {s : Bs} {o : Option Nat} (hb : w.heap[b]? = some (.cells #[.pointer (some ⟨b, 0, none⟩), v] BT (0, 0))) (hv : Buf w v s o) (ho : o ≠ some b) (g0 : γ b = 0) (g1 : ∀ g, o = some g → γ g = 0) (hM : s.length ≤ MX) :
    IA γ w (b :: o.toList) (.pointer (some ⟨b, 0, none⟩)) (.rb s) := by
  have hx : BX w b (.pointer (some ⟨b, 0, none⟩)) := ⟨.inr rfl, by simp [World.shape?, hb]⟩
  have one : v.oneCell' = true → ∀ y ∈ [.pointer (some ⟨b, 0, none⟩), v], Value.oneCell' y = true := by
    intro h y hy
    simp at hy
    rcases hy with rfl | rfl
    · rfl
    · exact h
  cases hv with
  | nil => exact .rb0 b [] _ ⟨g0, one rfl, _, hb⟩ hx rfl
  | row g cap s xs h0 hc hb2 h1 hl hr => exact .rb b g cap s _ xs ⟨g0, one rfl, _, hb⟩ hx ⟨fun e => ho (by rw [e]), xs.length, by simp [World.shape?, hb2]⟩ hM h0 hc ⟨g1 g rfl, h1, _, hb2⟩ hl hr
theorem BW.fr {γ : Nat → Nat} {w w' : World} {b : Nat} {o : Option Nat} (h : BW b o w w') (hf : ∀ b, w.heap.size ≤ b → γ b = 0) (g0 : γ b = 0) (g1 : ∀ g, o = some g → γ g = 0) : Fr (b :: o.toList) γ w γ w' :=
  ⟨h.os, h.tape, h.output, h.size, fun k hk hn => ⟨h.block k hk (fun e => hn (by simp [e])) (fun e => hn (by simp [← e])), rfl⟩, fun k hk => hf k (Nat.le_trans h.size hk), fun k hk => by
    have h0 : γ k = 0 := by
      rcases List.mem_cons.1 hk with rfl | hk
      · exact g0
      · exact g1 k (by simpa using hk)
    exact ⟨Nat.le_refl _, fun o ho => by rw [h0] at ho; omega⟩⟩
theorem nodup_bo {b : Nat} {o : Option Nat} (h : o ≠ some b) : (b :: o.toList).Nodup := by
  cases o with
  | none => simp
  | some g => simp; intro e; exact h (by rw [e])
def wbC : List AV → (AV → List AV → Prop) → Prop
  | [.rb s, .int .u8 c], K => Obl ((0 ≤ c ∧ c < 256) ∧ s.length + 1 ≤ 1073741824) (K .opq [.rb (s ++ [UInt8.ofNat c.toNat])])
  | _, _ => False
def wsC : List AV → (AV → List AV → Prop) → Prop
  | [.rb s, .str m], K => Obl (s.length + m.length ≤ 1073741824) (K (.tup [.int .i64 m.length, .opq]) [.rb (s ++ m)])
  | _, _ => False
def stC1 : List AV → (AV → List AV → Prop) → Prop
  | [.rb s], K => K (.str s) [.ref [.opq, .opq]]
  | _, _ => False
theorem snd_wr {γ : Nat → Nat} {w w' : World} {b : Nat} {o o' : Option Nat} {t : Bs} {v' : Value} {K : AV → List AV → Prop} {e : Ending} {x : Value} {r : AV} (hf : ∀ b, w.heap.size ≤ b → γ b = 0) (hlt : b < w.heap.size)
    (hb : w'.heap[b]? = some (.cells #[.pointer (some ⟨b, 0, none⟩), v'] BT (0, 0))) (hv : Buf w' v' t o') (ho : o' ≠ some b) (hw : BW b o w w') (hg : ∀ g, o' = some g → o = some g ∨ w.heap.size ≤ g) (g0 : γ b = 0) (g1 : ∀ g, o = some g → γ g = 0) (hM : t.length ≤ MX)
    (he : e = .returned x) (hr : IR γ w' [] x r) (hK : K r [.rb t]) :
    ∃ r rs x γ' Sr Sq, K r rs ∧ e = .returned x ∧ IR γ' w' Sr x r ∧ IAs γ' w' Sq [.pointer (some ⟨b, 0, none⟩)] rs ∧ (Sr ++ Sq).Nodup ∧ Fr (b :: o.toList) γ w γ' w' ∧ ∀ k ∈ Sr ++ Sq, k ∈ b :: o.toList ∨ w.heap.size ≤ k := by
  have g2 : ∀ g, o' = some g → γ g = 0 := fun g h => (hg g h).elim (g1 g) (hf g)
  refine ⟨r, _, x, γ, [], (b :: o'.toList) ++ [], hK, he, hr, .cons (rb_ia hb hv ho g0 g2 hM) .nil, by simpa using nodup_bo ho, hw.fr hf g0 g1, ?_⟩
  intro k hk
  simp only [List.nil_append, List.append_nil, List.mem_cons, Option.mem_toList] at hk ⊢
  rcases hk with h | h
  · exact .inl (.inl h)
  · exact (hg k h).imp (fun h => .inr h) (fun h => h)
theorem snd_wb {f : Nat} (h : ∀ (b : Nat) (x v : Value) (s : Bs) (o : Option Nat) (c : UInt8) (w : World), w.heap[b]? = some (.cells #[x, v] BT (0, 0)) → (x = .pointer none ∨ x = .pointer (some ⟨b, 0, none⟩)) → Buf w v s o → o ≠ some b → s.length + 1 ≤ 1073741824 →
    Calls P f #[.pointer (some ⟨b, 0, none⟩), .int .u8 c.toNat] w fun e w' => e = .returned .nilIface ∧ ∃ v' o', w'.heap[b]? = some (.cells #[.pointer (some ⟨b, 0, none⟩), v'] BT (0, 0)) ∧ Buf w' v' (s ++ [c]) o' ∧ o' ≠ some b ∧ BW b o w w' ∧ (∀ g, o' = some g → o = some g ∨ w.heap.size ≤ g)) : Snd P f wbC := by
  intro args K hK w γ S xs hi hn hf ht hs
  unfold wbC at hK
  split at hK
  case h_2 => exact hK.elim
  rename_i s c
  obtain ⟨⟨⟨c0, c1⟩, h63⟩, hK⟩ := hK
  cases hi with
  | cons h1 h2 =>
    cases h2 with
    | cons h2 h3 =>
      cases h3
      obtain ⟨b, y, v, o, rfl, hb, hy, hv, ho, rfl, g0, g1, hM⟩ := ia_rb h1
      obtain ⟨rfl, rfl⟩ := ia_int h2
      have ec : (c : Int) = ((UInt8.ofNat c.toNat).toNat : Nat) := by
        rw [UInt8.toNat_ofNat']
        have : c.toNat < 256 := by omega
        rw [Nat.mod_eq_of_lt this]; omega
      have hc := h b y v s o (UInt8.ofNat c.toNat) w hb hy hv ho h63
      rw [← ec] at hc
      refine Calls.mono hc ?_
      rintro e w' ⟨he, v', o', hb', hv', ho', hw, hg⟩
      simp only [List.append_nil]
      exact snd_wr hf (heap_lt hb) hb' hv' ho' hw hg g0 g1 (by simp; unfold MX; omega) he (.one (.cell (.per (.opq _) rfl))) hK
theorem snd_ws {f : Nat} (h : ∀ (b : Nat) (x v : Value) (s : Bs) (o : Option Nat) (m : Bs) (w : World), w.heap[b]? = some (.cells #[x, v] BT (0, 0)) → (x = .pointer none ∨ x = .pointer (some ⟨b, 0, none⟩)) → Buf w v s o → o ≠ some b → s.length + m.length ≤ 1073741824 →
    Calls P f #[.pointer (some ⟨b, 0, none⟩), .string ⟨m.toArray⟩] w fun e w' => e = .returned (.tuple #[.int .i64 m.length, .nilIface]) ∧ ∃ v' o', w'.heap[b]? = some (.cells #[.pointer (some ⟨b, 0, none⟩), v'] BT (0, 0)) ∧ Buf w' v' (s ++ m) o' ∧ o' ≠ some b ∧ BW b o w w' ∧ (∀ g, o' = some g → o = some g ∨ w.heap.size ≤ g)) : Snd P f wsC := by
  intro args K hK w γ S xs hi hn hf ht hs
  unfold wsC at hK
  split at hK
  case h_2 => exact hK.elim
  rename_i s m
  obtain ⟨h63, hK⟩ := hK
  cases hi with
  | cons h1 h2 =>
    cases h2 with
    | cons h2 h3 =>
      cases h3
      obtain ⟨b, y, v, o, rfl, hb, hy, hv, ho, rfl, g0, g1, hM⟩ := ia_rb h1
      obtain ⟨rfl, rfl⟩ := ia_str h2
      refine Calls.mono (h b y v s o m w hb hy hv ho h63) ?_
      rintro e w' ⟨he, v', o', hb', hv', ho', hw, hg⟩
      simp only [List.append_nil]
      refine snd_wr hf (heap_lt hb) hb' hv' ho' hw hg g0 g1 (by simp; unfold MX; omega) he (.tup (xs := [_, _]) (S := []) ?_) hK
      exact IVs.cons (S := []) (S' := []) (.cell (.per (.int _ _) rfl)) (IVs.cons (S := []) (S' := []) (.cell (.per (.opq _) rfl)) .nil)
theorem snd_st {f : Nat} (h : ∀ (b : Nat) (x v : Value) (s : Bs) (o : Option Nat) (w : World), w.heap[b]? = some (.cells #[x, v] BT (0, 0)) → Buf w v s o → o ≠ some b → s.length ≤ 140737488355328 →
    Calls P f #[.pointer (some ⟨b, 0, none⟩)] w fun e w' => e = .returned (.string ⟨s.toArray⟩) ∧ w'.heap[b]? = some (.cells #[x, v] BT (0, 0)) ∧ BW b o w w') : Snd P f stC1 := by
  intro args K hK w γ S xs hi hn hf ht hs
  unfold stC1 at hK
  split at hK
  case h_2 => exact hK.elim
  rename_i s
  cases hi with
  | cons h1 h2 =>
      cases h2
      obtain ⟨b, y, v, o, rfl, hb, hy, hv, ho, rfl, g0, g1, hM⟩ := ia_rb h1
      refine Calls.mono (h b y v s o w hb hv ho hM) ?_
      rintro e w' ⟨he, hb', hw⟩
      simp only [List.append_nil]
      have y1 : y.oneCell' = true := by rcases hy with rfl | rfl <;> rfl
      obtain ⟨a, cap, rfl⟩ := hv.slice
      refine ⟨_, _, _, γ, [], [b], hK, he, .one (.cell (.per (.str s hM) rfl)), ?_, by simp, hw.fr hf g0 g1, by simp⟩
      refine IAs.cons (S := [b]) (S' := []) (.ref (xs := [y, .slice a s.length cap]) (S := []) b ⟨g0, ?_, _, hb'⟩ ?_) .nil
      · intro z hz
        simp at hz
        rcases hz with rfl | rfl
        · exact y1
        · rfl
      · exact ICs.cons (S := []) (S' := []) (.per (.opq _) y1) (ICs.cons (S := []) (S' := []) (.per (.opq _) rfl) .nil)
end Go.Rs
end
section
/-! Deep owned arrays in the library's insertion and deletion. -/
namespace Go.Rs
variable {γ : Nat → Nat} {w w' : World}
theorem InnerI.insert {E : El} {l v : List (ElT E)} {xs ys X : List Value} {bs1 bs2 : Nat → List Nat} {k : Nat} (hk : k ≤ l.length) (hv : v.length = 1) (h1 : InnerI γ w E l xs bs1) (h2 : InnerI γ w E v ys bs2)
    (hd : ∀ c ∈ inn (l.length * esz E) bs1, c ∉ inn (v.length * esz E) bs2)
    (hX : ∀ m j, m < l.length + 1 → j < esz E → X.getD (m * esz E + j) undef = if m < k then xs.getD (m * esz E + j) undef else if m = k then ys.getD j undef else xs.getD ((m - 1) * esz E + j) undef) :
    InnerI γ w E (l.take k ++ v ++ l.drop k) X (fun q => if q < k * esz E then bs1 q else if q < k * esz E + esz E then bs2 (q - k * esz E) else bs1 (q - esz E)) ∧
    ∀ c ∈ inn ((l.take k ++ v ++ l.drop k).length * esz E) (fun q => if q < k * esz E then bs1 q else if q < k * esz E + esz E then bs2 (q - k * esz E) else bs1 (q - esz E)), c ∈ inn (l.length * esz E) bs1 ∨ c ∈ inn (v.length * esz E) bs2 := by
  have hpos := esz_pos E
  have hlen : (l.take k ++ v ++ l.drop k).length = l.length + 1 := by simp; omega
  have hke : k * esz E ≤ l.length * esz E := Nat.mul_le_mul_right _ hk
  have hne : (l.length + 1) * esz E = l.length * esz E + esz E := by rw [Nat.add_mul]; omega
  have hv1 : v.length * esz E = esz E := by rw [hv]; omega
  have hmem : ∀ c ∈ inn ((l.take k ++ v ++ l.drop k).length * esz E) (fun q => if q < k * esz E then bs1 q else if q < k * esz E + esz E then bs2 (q - k * esz E) else bs1 (q - esz E)), c ∈ inn (l.length * esz E) bs1 ∨ c ∈ inn (v.length * esz E) bs2 := by
    intro c hc
    obtain ⟨q, hq, hc⟩ := inn_mem.1 hc
    rw [hlen, hne] at hq
    split at hc
    · exact .inl (inn_mem.2 ⟨q, by omega, hc⟩)
    · split at hc
      · exact .inr (inn_mem.2 ⟨_, by omega, hc⟩)
      · exact .inl (inn_mem.2 ⟨_, by omega, hc⟩)
  refine ⟨⟨fun m hm j hj => ?_, ?_, fun c hc => ?_⟩, hmem⟩
  · rw [hlen] at hm
    rw [hX m j hm hj]
    by_cases e1 : m < k
    · have e4 : m * esz E + j < k * esz E := idx_lt e1 hj
      rw [if_pos e1, if_pos e4]
      have e2 : (l.take k ++ v ++ l.drop k).getD m (elDef E) = l.getD m (elDef E) := by
        rw [List.getD_eq_getElem?_getD, List.append_assoc, List.getElem?_append_left (by simp; omega), List.getElem?_take_of_lt e1, List.getD_eq_getElem?_getD]
      rw [e2]; exact h1.deep m (by omega) j hj
    · have e4 : ¬ m * esz E + j < k * esz E := by
        have : k * esz E ≤ m * esz E := Nat.mul_le_mul_right _ (by omega)
        omega
      rw [if_neg e1, if_neg e4]
      by_cases e2 : m = k
      · subst e2
        rw [if_pos rfl, if_pos (by omega), Nat.add_sub_cancel_left]
        have e3 : (l.take m ++ v ++ l.drop m).getD m (elDef E) = v.getD 0 (elDef E) := by
          rw [List.getD_eq_getElem?_getD, List.getElem?_append_left (by simp; omega), List.getElem?_append_right (by simp; omega), List.getD_eq_getElem?_getD]
          congr 2
          simp; omega
        rw [e3]
        have := h2.deep 0 (by omega) j hj
        simpa using this
      · have e5 : (k + 1) * esz E ≤ m * esz E := Nat.mul_le_mul_right _ (by omega)
        rw [Nat.add_mul] at e5
        have e6 : m * esz E = (m - 1) * esz E + esz E := by
          have : m = (m - 1) + 1 := by omega
          calc m * esz E = ((m - 1) + 1) * esz E := by rw [← this]
            _ = (m - 1) * esz E + esz E := by rw [Nat.add_mul]; omega
        rw [if_neg e2, if_neg (by omega)]
        have e3 : (l.take k ++ v ++ l.drop k).getD m (elDef E) = l.getD (m - 1) (elDef E) := by
          rw [List.getD_eq_getElem?_getD, List.getElem?_append_right (by simp; omega), List.getElem?_drop, List.getD_eq_getElem?_getD]
          congr 2
          simp; omega
        have e7 : m * esz E + j - esz E = (m - 1) * esz E + j := by omega
        rw [e3, e7]; exact h1.deep (m - 1) (by omega) j hj
  · have n1 := inn_nodup.1 h1.nodup
    have n2 := inn_nodup.1 h2.nodup
    rw [hlen, hne]
    refine inn_nodup.2 ⟨fun q hq => ?_, fun p q hpq hq c hc1 hc2 => ?_⟩
    · split
      · exact n1.1 q (by omega)
      · split
        · exact n2.1 _ (by omega)
        · exact n1.1 _ (by omega)
    · split at hc1
      · split at hc2
        · exact n1.2 p q hpq (by omega) c hc1 hc2
        · split at hc2
          · exact hd c (inn_mem.2 ⟨p, by omega, hc1⟩) (inn_mem.2 ⟨_, by omega, hc2⟩)
          · exact n1.2 p (q - esz E) (by omega) (by omega) c hc1 hc2
      · split at hc1
        · split at hc2
          · omega
          · split at hc2
            · exact n2.2 (p - k * esz E) (q - k * esz E) (by omega) (by omega) c hc1 hc2
            · exact hd c (inn_mem.2 ⟨_, by omega, hc2⟩) (inn_mem.2 ⟨_, by omega, hc1⟩)
        · split at hc2
          · omega
          · split at hc2
            · omega
            · exact n1.2 (p - esz E) (q - esz E) (by omega) (by omega) c hc1 hc2
  · rcases hmem c hc with h | h
    · exact h1.full c h
    · exact h2.full c h
structure Bag (γ : Nat → Nat) (w : World) (S S0 I1 I2 : List Nat) : Prop where
  sub : ∀ b ∈ S0, b ∈ S
  s1 : ∀ c ∈ I1, c ∈ S
  s2 : ∀ c ∈ I2, c ∈ S
  p1 : ∀ c ∈ I1, 0 < γ c
  p2 : ∀ c ∈ I2, 0 < γ c
  dis : ∀ c ∈ I1, c ∉ I2
theorem Bag.two {b vb : Nat} {I1 I2 : List Nat} (hn : ((b :: I1) ++ ([] ++ ((vb :: I2) ++ []))).Nodup) (p1 : ∀ c ∈ I1, 0 < γ c) (p2 : ∀ c ∈ I2, 0 < γ c) : Bag γ w ((b :: I1) ++ ([] ++ ((vb :: I2) ++ []))) [b, vb] I1 I2 := by
  refine ⟨fun c hc => ?_, fun c hc => by simp [hc], fun c hc => by simp [hc], p1, p2, fun c h1 h2 => ?_⟩
  · simp at hc; rcases hc with rfl | rfl <;> simp
  · exact (List.nodup_append.1 hn).2.2 c (List.mem_cons_of_mem _ h1) c (by simp [h2]) rfl
theorem Bag.one {vb : Nat} {I2 : List Nat} (p2 : ∀ c ∈ I2, 0 < γ c) : Bag γ w ([] ++ ([] ++ ((vb :: I2) ++ []))) [vb] [] I2 := by
  refine ⟨fun c hc => ?_, by simp, fun c hc => by simp [hc], by simp, p2, by simp⟩
  simp at hc; subst hc; simp
theorem InnerI.lt {E : El} {l : List (ElT E)} {xs bss} (h : InnerI γ w E l xs bss) : ∀ c ∈ inn (l.length * esz E) bss, c < w.heap.size := fun c hc => by
  obtain ⟨i, j, hi, hj, h2⟩ := inn_ij hc
  exact (h.deep i hi j hj).lt h2
end Go.Rs
end
section
/-! Worlds in which trees are written anew: what changes, what stays. -/
namespace Go.Rs
variable {w w' w'' : World}
structure Upd (w w' : World) (bs : List Nat) : Prop where
  os : w'.os = w.os
  tape : w'.tape = w.tape
  output : w'.output = w.output
  size : w.heap.size ≤ w'.heap.size
  block : ∀ b, b < w.heap.size → b ∉ bs → w'.heap[b]? = w.heap[b]?
theorem Upd.refl (w : World) (bs : List Nat) : Upd w w bs := ⟨rfl, rfl, rfl, Nat.le_refl _, fun _ _ _ => rfl⟩
theorem Upd.trans {bs : List Nat} (h : Upd w w' bs) (h' : Upd w' w'' bs) : Upd w w'' bs :=
  ⟨h'.os.trans h.os, h'.tape.trans h.tape, h'.output.trans h.output, Nat.le_trans h.size h'.size, fun b hb hn => (h'.block b (Nat.lt_of_lt_of_le hb h.size) hn).trans (h.block b hb hn)⟩
theorem Upd.mono {bs bs' : List Nat} (h : Upd w w' bs) (hs : ∀ b ∈ bs, b ∈ bs') : Upd w w' bs' :=
  ⟨h.os, h.tape, h.output, h.size, fun b hb hn => h.block b hb fun h' => hn (hs b h')⟩
theorem Deep.upd {x : Value} {v : AV} {bs cs : List Nat} (h : Deep w x v bs) (hu : Upd w w' cs) (hd : ∀ c ∈ bs, c ∉ cs) : Deep w' x v bs := h.keep fun c hc => hu.block c (h.lt hc) (hd c hc)
theorem Deep.set {E : El} {l : List (ElT E)} {b cap : Nat} {I : List Nat} (h : Deep w (.slice (some ⟨b, 0, none⟩) l.length cap) (.ps E l) (b :: I)) (hn : (b :: I).Nodup) {i j : Nat} (hi : i < l.length) (hj : j < esz E) {v : Value} {u : AV} (hv : Deep w v u [])
    (hold : flatV ((enc E (l.getD i (elDef E))).getD j .opq)) {y : ElT E} (hy : enc E y = (enc E (l.getD i (elDef E))).set j u) :
    Deep (w.setCell ⟨b, i * esz E + j, none⟩ v) (.slice (some ⟨b, 0, none⟩) (l.set i y).length cap) (.ps E (l.set i y)) (b :: I) ∧ Upd w (w.setCell ⟨b, i * esz E + j, none⟩ v) (b :: I) := by
  have hlt := h.lt (List.mem_cons_self ..)
  rcases h.inv_ps with ⟨h0, -, -⟩ | ⟨b', cap', xs, T, bss, h0, e, hM, hc, hb, hl, h1, hr, e2⟩
  · subst h0; simp at hi
  simp only [Value.slice.injEq, Option.some.injEq, Addr.mk.injEq, and_true, true_and] at e
  obtain ⟨rfl, rfl⟩ := e
  simp only [List.cons.injEq, true_and] at e2
  subst e2
  have hk := idx_lt hi hj
  have hkx : i * esz E + j < xs.length := by
    have : l.length * esz E ≤ cap * esz E := Nat.mul_le_mul_right _ hc
    omega
  have hother : ∀ c, c ≠ b → (w.setCell ⟨b, i * esz E + j, none⟩ v).heap[c]? = w.heap[c]? := fun c hcb => Go.heap_setCell_other w ⟨b, _, none⟩ c v hcb
  have hsame : (w.setCell ⟨b, i * esz E + j, none⟩ v).heap[b]? = some (.cells (xs.set (i * esz E + j) v).toArray T (0, 0)) := by
    rw [Go.heap_setCell_same w b _ _ _ v hb]
    congr 2
    apply Array.ext'
    simp
  have hnI := (List.nodup_cons.1 hn).1
  have hflat : bss (i * esz E + j) = [] := by
    have h2 := hr i hi j hj
    have : ∀ {x u bs}, Deep w x u bs → flatV u → bs = [] := by
      intro x u bs h hf
      cases h with
      | sl E l b cap xs T bss hM hc h0 => exact absurd hf h0
      | _ => rfl
    exact this h2 hold
  refine ⟨?_, ⟨rfl, rfl, rfl, by simp, fun c _ hc => hother c (by rintro rfl; exact hc (List.mem_cons_self ..))⟩⟩
  have hlen : (l.set i y).length = l.length := List.length_set
  have h9 := Deep.sl (w := w.setCell ⟨b, i * esz E + j, none⟩ v) E (l.set i y) b cap (xs.set (i * esz E + j) v) T bss (by rw [hlen]; exact hM) (by rw [hlen]; exact hc) (by intro e; apply h0; apply List.length_eq_zero_iff.1; rw [← hlen, e]; rfl) hsame (by rw [List.length_set]; exact hl)
    (fun z hz => by
      rcases List.mem_or_eq_of_mem_set hz with hz | rfl
      · exact h1 z hz
      · exact hv.one)
    (fun m hm q hq => by
      rw [hlen] at hm
      have hmq := idx_lt hm hq
      by_cases e : m * esz E + q = i * esz E + j
      · have emi : m = i ∧ q = j := by
          have hpos := esz_pos E
          have a1 : (m * esz E + q) / esz E = m := by rw [Nat.mul_comm, Nat.mul_add_div hpos, Nat.div_eq_of_lt hq, Nat.add_zero]
          have a2 : (i * esz E + j) / esz E = i := by rw [Nat.mul_comm, Nat.mul_add_div hpos, Nat.div_eq_of_lt hj, Nat.add_zero]
          have : m = i := by rw [← a1, e, a2]
          subst this
          exact ⟨rfl, by omega⟩
        obtain ⟨rfl, rfl⟩ := emi
        have e1 : (xs.set (m * esz E + q) v).getD (m * esz E + q) undef = v := by simp [List.getD_eq_getElem?_getD, hkx]
        have e2 : (l.set m y).getD m (elDef E) = y := by simp [List.getD_eq_getElem?_getD, hm]
        have e3 : ((enc E (l.getD m (elDef E))).set q u).getD q .opq = u := by
          have : q < (enc E (l.getD m (elDef E))).length := by rw [enc_len]; exact hq
          rw [List.getD_eq_getElem?_getD, List.getElem?_set_self this]; rfl
        rw [e1, e2, hy, e3, hflat]
        exact hv.keep (by simp)
      · have e1 : (xs.set (i * esz E + j) v).getD (m * esz E + q) undef = xs.getD (m * esz E + q) undef := by
          simp [List.getD_eq_getElem?_getD, List.getElem?_set_ne (Ne.symm e)]
        have e4 : (enc E ((l.set i y).getD m (elDef E))).getD q .opq = (enc E (l.getD m (elDef E))).getD q .opq := by
          by_cases hmi : m = i
          · subst hmi
            have e2 : (l.set m y).getD m (elDef E) = y := by simp [List.getD_eq_getElem?_getD, hm]
            rw [e2, hy]
            simp [List.getD_eq_getElem?_getD, List.getElem?_set_ne (show j ≠ q by intro h; apply e; rw [h])]
          · simp [List.getD_eq_getElem?_getD, List.getElem?_set_ne (Ne.symm hmi)]
        rw [e1, e4]
        exact (hr m hm q hq).keep fun c hc' => hother c (by rintro rfl; exact hnI (inn_mem.2 ⟨_, hmq, hc'⟩)))
  rw [hlen] at h9
  rw [hlen]; exact h9
theorem Deep.sub {E : El} {l : List (ElT E)} {b cap : Nat} {I : List Nat} (h : Deep w (.slice (some ⟨b, 0, none⟩) l.length cap) (.ps E l) (b :: I)) (hn : (b :: I).Nodup) {i j : Nat} (hi : i < l.length) (hj : j < esz E) :
    ∃ x bs, w.cell? ⟨b, i * esz E + j, none⟩ = some x ∧ Deep w x ((enc E (l.getD i (elDef E))).getD j .opq) bs ∧ bs.Nodup ∧ (∀ c ∈ bs, c ∈ I) ∧
      ∀ w' u y, Deep w' x u bs → Upd w w' bs → enc E y = (enc E (l.getD i (elDef E))).set j u →
        Deep w' (.slice (some ⟨b, 0, none⟩) (l.set i y).length cap) (.ps E (l.set i y)) (b :: I) := by
  rcases h.inv_ps with ⟨h0, -, -⟩ | ⟨b', cap', xs, T, bss, h0, e, hM, hc, hb, hl, h1, hr, e2⟩
  · subst h0; simp at hi
  simp only [Value.slice.injEq, Option.some.injEq, Addr.mk.injEq, and_true, true_and] at e
  obtain ⟨rfl, rfl⟩ := e
  simp only [List.cons.injEq, true_and] at e2
  subst e2
  have hk := idx_lt hi hj
  have hkx : i * esz E + j < xs.length := by
    have : l.length * esz E ≤ cap * esz E := Nat.mul_le_mul_right _ hc
    omega
  have hnI := (List.nodup_cons.1 hn).1
  have hnd := inn_nodup.1 (List.nodup_cons.1 hn).2
  have hlt := fun c (hc : c ∈ b :: inn (l.length * esz E) bss) => h.lt hc
  refine ⟨xs.getD (i * esz E + j) undef, bss (i * esz E + j), cell_row hb hkx, hr i hi j hj, hnd.1 _ hk, fun c hc => inn_mem.2 ⟨_, hk, hc⟩, ?_⟩
  intro w' u y hd hu hy
  have hlen : (l.set i y).length = l.length := List.length_set
  have hother : ∀ c ∈ b :: inn (l.length * esz E) bss, c ∉ bss (i * esz E + j) → w'.heap[c]? = w.heap[c]? := fun c hc hn => hu.block c (hlt c hc) hn
  have h9 := Deep.sl (w := w') E (l.set i y) b cap xs T bss (by rw [hlen]; exact hM) (by rw [hlen]; exact hc) (by intro e; apply h0; apply List.length_eq_zero_iff.1; rw [← hlen, e]; rfl)
    (by rw [hother b (List.mem_cons_self ..) (fun h => hnI (inn_mem.2 ⟨_, hk, h⟩)), hb]) hl h1
    (fun m hm q hq => by
      rw [hlen] at hm
      have hmq := idx_lt hm hq
      by_cases e : m * esz E + q = i * esz E + j
      · have emi : m = i ∧ q = j := by
          have hpos := esz_pos E
          have a1 : (m * esz E + q) / esz E = m := by rw [Nat.mul_comm, Nat.mul_add_div hpos, Nat.div_eq_of_lt hq, Nat.add_zero]
          have a2 : (i * esz E + j) / esz E = i := by rw [Nat.mul_comm, Nat.mul_add_div hpos, Nat.div_eq_of_lt hj, Nat.add_zero]
          have : m = i := by rw [← a1, e, a2]
          subst this
          exact ⟨rfl, by omega⟩
        obtain ⟨rfl, rfl⟩ := emi
        have e2 : (l.set m y).getD m (elDef E) = y := by simp [List.getD_eq_getElem?_getD, hm]
        have e3 : ((enc E (l.getD m (elDef E))).set q u).getD q .opq = u := by
          have : q < (enc E (l.getD m (elDef E))).length := by rw [enc_len]; exact hq
          rw [List.getD_eq_getElem?_getD, List.getElem?_set_self this]; rfl
        rw [e2, hy, e3]
        exact hd
      · have e4 : (enc E ((l.set i y).getD m (elDef E))).getD q .opq = (enc E (l.getD m (elDef E))).getD q .opq := by
          by_cases hmi : m = i
          · subst hmi
            have e2 : (l.set m y).getD m (elDef E) = y := by simp [List.getD_eq_getElem?_getD, hm]
            rw [e2, hy]
            simp [List.getD_eq_getElem?_getD, List.getElem?_set_ne (show j ≠ q by intro h; apply e; rw [h])]
          · simp [List.getD_eq_getElem?_getD, List.getElem?_set_ne (Ne.symm hmi)]
        rw [e4]
        refine (hr m hm q hq).keep fun c hc' => hother c (List.mem_cons_of_mem _ (inn_mem.2 ⟨_, hmq, hc'⟩)) fun h2 => ?_
        rcases Nat.lt_or_gt_of_ne e with e | e
        · exact hnd.2 _ _ e hk c hc' h2
        · exact hnd.2 _ _ e hmq c h2 hc')
  rw [hlen] at h9
  rw [hlen]; exact h9
end Go.Rs
end
