/- A checked evaluator of the model's code, part B. -/
import Derived.Test.YtmgheiagnleeiaaDoorFA
import Derived.Maps.Own
import Derived.Maps.Views
import Derived.Laws.BytesArg
import Derived.Laws.AppendOwn
import Derived.Laws.MakeOwn
set_option linter.all false
section
namespace Go.Rs
variable {P : Program} {U : Nat → Bool} {ν : Nat → Value} {γ : Nat → Nat} {w : World}
theorem rep_cells {x : Value} {v : AV} (h : Rep U ν γ w x v) (hv : v ≠ .opq) (ht : ∀ l, v ≠ .tup l) :
    x.cells.toList.length = (cellsOf v).length ∧ (∀ y ∈ x.cells.toList, y.oneCell' = true) ∧ ∀ i, i < (cellsOf v).length → Rep U ν γ w (x.cells.toList.getD i undef) ((cellsOf v).getD i .opq) := by
  have one : ∀ {x v}, Rep U ν γ w x v → x.oneCell' = true → cellsOf v = [v] → x.cells = #[x] → x.cells.toList.length = (cellsOf v).length ∧ (∀ y ∈ x.cells.toList, y.oneCell' = true) ∧ ∀ i, i < (cellsOf v).length → Rep U ν γ w (x.cells.toList.getD i undef) ((cellsOf v).getD i .opq) := by
    intro x v h h1 hc hx
    rw [hc, hx]
    refine ⟨rfl, by simpa using h1, fun i hi => ?_⟩
    have : i = 0 := by simp at hi; omega
    subst this
    simpa using h
  cases h with
  | opq => exact absurd rfl hv
  | st xs cs hl h1 h => exact ⟨by simpa [Value.cells, cellsOf] using hl, by simpa [Value.cells] using h1, by simpa [Value.cells, cellsOf] using h⟩
  | tup xs cs hl h => exact absurd rfl (ht _)
  | ls id hu ho =>
    have := ho
    exact one (.ls id hu ho) this rfl (by revert this; cases ν id <;> simp [Value.cells, Value.oneCell'])
  | int k n => exact one (.int k n) rfl rfl rfl
  | bool b => exact one (.bool b) rfl rfl rfl
  | str s hM => exact one (.str s hM) rfl rfl rfl
  | ps E l a cap c hM hc ha h1 hr => exact one (.ps E l a cap c hM hc ha h1 hr) rfl rfl rfl
  | niln => exact one .niln rfl rfl rfl
  | ifc0 => exact one .ifc0 rfl rfl rfl
  | ifc1 te pe => exact one (.ifc1 te pe) rfl rfl rfl
  | nils E => exact one (.nils E) rfl rfl rfl
  | lp id off b hu h => exact one (.lp id off b hu h) rfl rfl rfl
  | ep E l i off b o len cap hs h0 h1 => exact one (.ep E l i off b o len cap hs h0 h1) rfl rfl rfl
  | ap E id i off b len cap hu h h0 h1 => exact one (.ap E id i off b len cap hu h h0 h1) rfl rfl rfl
  | nilp => exact one .nilp rfl rfl rfl
  | fn f caps xs hl h => exact one (.fn f caps xs hl h) rfl rfl rfl
theorem drop_cons {α : Type} {l : List α} {n : Nat} {x : α} {r : List α} (h : l.drop n = x :: r) : n < l.length ∧ ∀ d, l.getD n d = x := by
  have hn : n < l.length := by
    rcases Nat.lt_or_ge n l.length with h' | h'
    · exact h'
    · rw [List.drop_of_length_le h'] at h; cases h
  refine ⟨hn, fun d => ?_⟩
  have h2 := congrArg List.head? h
  have h3 : l[n]? = some x := by simpa using h2
  simp [List.getD_eq_getElem?_getD, h3]
theorem run_loadVar_cells {t : Nat} {ti : TI} (hT : TIOK P t ti) {cs : List AV} {off : Nat} {O v} (hq : loadR ti cs off = some (O, v)) (b o : Nat) (xs : Nat → Value)
    (hx : ∀ k, k < cs.length → w.cell? ⟨b, o + k, none⟩ = some (xs k)) (h1 : ∀ k, k < cs.length → (xs k).oneCell' = true) (hr : ∀ k, k < cs.length → Rep U ν γ w (xs k) (cs.getD k .opq)) :
    O = none ∧ ∃ x, (loadVar t ⟨b, o + off, none⟩).run P w = .ok x w ∧ Rep U ν γ w x v := by
  have one : ∀ d, P.underlying t = some d → d.isRow = false → (match cs.drop off with | v :: _ => some ((none : Option Prop), v) | [] => none) = some (O, v) →
      O = none ∧ ∃ x, (loadVar t ⟨b, o + off, none⟩).run P w = .ok x w ∧ Rep U ν γ w x v := by
    intro d hd hrow hq
    split at hq
    · rename_i v' r hdrop
      simp only [Option.some.injEq, Prod.mk.injEq] at hq
      obtain ⟨rfl, rfl⟩ := hq
      obtain ⟨hlt, hg⟩ := drop_cons hdrop
      refine ⟨rfl, xs off, ?_, by have := hr off hlt; rwa [hg] at this⟩
      have hagg : (isAgg t).run P w = .ok false w := by
        simp [isAgg, run_underlying' hd]
        cases d <;> simp_all [TypeDesc.isRow]
      simp [loadVar, hagg, hx off hlt]
    · cases hq
  cases ti with
  | st fs z =>
    obtain ⟨i, fields, zs, hi, hs, -, -, -, -, hu, -, -⟩ := hT
    simp only [loadR, seqV_eq] at hq
    split at hq
    · rename_i hlen
      simp only [Option.some.injEq, Prod.mk.injEq] at hq
      obtain ⟨rfl, rfl⟩ := hq
      have hlen' : (cutC cs off z.length).length = z.length := Nat.eq_of_beq_eq_true hlen
      have hoff : off + z.length ≤ cs.length ∨ z.length = 0 := by
        simp only [cutC, List.length_take, List.length_drop] at hlen'
        omega
      refine ⟨rfl, .agg ((List.range z.length).map fun k => xs (off + k)).toArray, ?_, ?_⟩
      · have := run_loadVar_mid (P := P) w b (o + off) t ((List.range z.length).map fun k => xs (off + k)) (.struct fields) (by
          intro j v hj
          simp only [List.getElem?_map] at hj
          rcases Nat.lt_or_ge j z.length with hjl | hjl
          · rw [List.getElem?_range hjl] at hj
            simp at hj
            subst hj
            rw [Nat.add_assoc]
            exact hx (off + j) (by omega)
          · rw [List.getElem?_eq_none (by simpa using hjl)] at hj; simp at hj) hu rfl (by rw [hi]; simp [hs])
        exact this
      · refine .st _ _ (by simp [hlen']) ?_ ?_
        · intro x hxm
          simp only [List.mem_map, List.mem_range] at hxm
          obtain ⟨k, hk, rfl⟩ := hxm
          exact h1 _ (by omega)
        · intro k hk
          rw [hlen'] at hk
          have := hr (off + k) (by omega)
          have e1 : ((List.range z.length).map fun k => xs (off + k)).getD k undef = xs (off + k) := by
            simp [List.getD_eq_getElem?_getD, List.getElem?_range hk]
          have e2 : (cutC cs off z.length).getD k .opq = cs.getD (off + k) .opq := by
            simp [cutC, List.getD_eq_getElem?_getD, hk, List.getElem?_drop]
          rw [e1, e2]; exact this
    · cases hq
  | other => simp [loadR] at hq
  | mp => obtain ⟨i, kt, et, -, -, hu, -⟩ := hT; exact one _ hu rfl hq
  | ifc => obtain ⟨i, ms, -, -, hu⟩ := hT; exact one _ hu rfl hq
  | int k => obtain ⟨i, -, -, -, hu⟩ := hT; exact one _ hu rfl hq
  | bool => obtain ⟨i, -, -, -, hu⟩ := hT; exact one _ hu rfl hq
  | str => obtain ⟨i, -, -, -, hu⟩ := hT; exact one _ hu rfl hq
  | sl E => obtain ⟨i, e, ei, z, -, -, -, hu, -⟩ := hT; exact one _ hu rfl hq
  | ptr => obtain ⟨i, e, -, -, hu⟩ := hT; exact one _ hu rfl hq
  | fn => obtain ⟨i, a, b, c, -, -, hu⟩ := hT; exact one _ hu rfl hq
structure SliceIs (U : Nat → Bool) (ν : Nat → Value) (γ : Nat → Nat) (w : World) (x : Value) (E : El) (l : List (ElT E)) : Prop where
  mx : l.length ≤ MX
  out : ∃ a cap, x = .slice a l.length cap ∧ l.length ≤ cap ∧ (l = [] ∨ ∃ (b off : Nat) (c : Nat → Value), a = some ⟨b, off, none⟩ ∧ (∀ k, k < l.length * esz E → w.cell? ⟨b, off + k, none⟩ = some (c k)) ∧
    (∀ k, k < l.length * esz E → (c k).oneCell' = true) ∧ ∀ i, i < l.length → ∀ j, j < esz E → Rep U ν γ w (c (i * esz E + j)) ((enc E (l.getD i (elDef E))).getD j .opq))
theorem SliceIs.of_ps {x : Value} {E l} (h : Rep U ν γ w x (.ps E l)) : SliceIs U ν γ w x E l := by
  cases h with
  | ps E l a cap c hM hc ha h1 hr =>
    refine ⟨hM, a, cap, rfl, hc, ?_⟩
    rcases ha with ha | ⟨b, off, e, -, hcell⟩
    · exact .inl ha
    · exact .inr ⟨b, off, c, e, hcell, h1, hr⟩
theorem cell_row {xs : List Value} {T} {b k} (h : w.heap[b]? = some (.cells xs.toArray T (0, 0))) (hk : k < xs.length) : w.cell? ⟨b, k, none⟩ = some (xs.getD k undef) := by
  simp [World.cell?, h, List.getD_eq_getElem?_getD, hk]
theorem esz_pos (E : El) : 0 < esz E := by cases E <;> decide
theorem mem_getD {xs : List Value} {k : Nat} (hk : k < xs.length) : xs.getD k undef ∈ xs := by
  simp only [List.getD_eq_getElem?_getD, List.getElem?_eq_getElem hk, Option.getD_some]
  exact List.getElem_mem hk
theorem idx_lt {i n j e : Nat} (hi : i < n) (hj : j < e) : i * e + j < n * e := by
  calc i * e + j < i * e + e := by omega
    _ = (i + 1) * e := by rw [Nat.add_mul]; omega
    _ ≤ n * e := Nat.mul_le_mul_right e hi
theorem inn_mem {n : Nat} {bss : Nat → List Nat} {c : Nat} : c ∈ inn n bss ↔ ∃ k, k < n ∧ c ∈ bss k := by simp [inn]
theorem inn_ij {m e : Nat} {bss : Nat → List Nat} {c : Nat} (h : c ∈ inn (m * e) bss) : ∃ i j, i < m ∧ j < e ∧ c ∈ bss (i * e + j) := by
  obtain ⟨k, hk, hc⟩ := inn_mem.1 h
  have he : 0 < e := by rcases Nat.eq_zero_or_pos e with h | h; subst h; simp at hk; exact h
  refine ⟨k / e, k % e, (Nat.div_lt_iff_lt_mul he).2 hk, Nat.mod_lt _ he, ?_⟩
  rw [Nat.mul_comm, Nat.div_add_mod]; exact hc
theorem inn_congr {n : Nat} {f g : Nat → List Nat} (h : ∀ k, k < n → f k = g k) : inn n f = inn n g := by
  induction n with
  | zero => rfl
  | succ n ih =>
    have h1 := ih fun k hk => h k (by omega)
    unfold inn at h1 ⊢
    rw [List.range_succ, List.flatMap_append, List.flatMap_append, h1]
    simp [h n (by omega)]
theorem Deep.rep {x v bs} (h : Deep w x v bs) (hf : ∀ c ∈ bs, full γ w c) : Rep U ν γ w x v := by
  induction h with
  | int k n => exact .int _ _
  | bool b => exact .bool _
  | str s hM => exact .str s hM
  | nil E a cap => exact .ps E [] a cap (fun _ => undef) (Nat.zero_le _) (Nat.zero_le _) (.inl rfl) (by simp) (by simp)
  | sl E l b cap xs T bss hM hc h0 hb hl h1 hr ih =>
    have hle : l.length * esz E ≤ xs.length := by rw [hl]; exact Nat.mul_le_mul_right _ hc
    refine .ps E l _ cap (fun k => xs.getD k undef) hM hc (.inr ⟨b, 0, rfl, ?_, fun k hk => by rw [Nat.zero_add]; exact cell_row hb (by omega)⟩) (fun k hk => h1 _ (mem_getD (by omega))) (fun i hi j hj => ih i hi j hj fun c hc' => hf c (List.mem_cons_of_mem _ (inn_mem.2 ⟨_, idx_lt hi hj, hc'⟩)))
    have := hf b (by simp) _ _ _ hb
    simp at this; omega
theorem Deep.keep {w' : World} {x v bs} (h : Deep w x v bs) (hk : ∀ c ∈ bs, w'.heap[c]? = w.heap[c]?) : Deep w' x v bs := by
  induction h with
  | int k n => exact .int _ _
  | bool b => exact .bool _
  | str s hM => exact .str s hM
  | nil E a cap => exact .nil E a cap
  | sl E l b cap xs T bss hM hc h0 hb hl h1 hr ih =>
    exact .sl E l b cap xs T bss hM hc h0 (by rw [hk b (by simp), hb]) hl h1 fun i hi j hj => ih i hi j hj fun c hc' => hk c (List.mem_cons_of_mem _ (inn_mem.2 ⟨_, idx_lt hi hj, hc'⟩))
theorem Deep.inv_ps {x : Value} {E : El} {l : List (ElT E)} {bs} (h : Deep w x (.ps E l) bs) : (l = [] ∧ bs = [] ∧ ∃ a cap, x = .slice a 0 cap) ∨
    ∃ (b cap : Nat) (xs : List Value) (T : Nat) (bss : Nat → List Nat), l ≠ [] ∧ x = .slice (some ⟨b, 0, none⟩) l.length cap ∧ l.length ≤ MX ∧ l.length ≤ cap ∧ w.heap[b]? = some (.cells xs.toArray T (0, 0)) ∧ xs.length = cap * esz E ∧ (∀ x ∈ xs, x.oneCell' = true) ∧
      (∀ i, i < l.length → ∀ j, j < esz E → Deep w (xs.getD (i * esz E + j) undef) ((enc E (l.getD i (elDef E))).getD j .opq) (bss (i * esz E + j))) ∧ bs = b :: inn (l.length * esz E) bss := by
  cases h with
  | nil E a cap => exact .inl ⟨rfl, rfl, a, cap, rfl⟩
  | sl E l b cap xs T bss hM hc h0 hb hl h1 hr => exact .inr ⟨b, cap, xs, T, bss, h0, rfl, hM, hc, hb, hl, h1, hr, rfl⟩
theorem Deep.det {x v bs} (h : Deep w x v bs) : ∀ {bs'}, Deep w x v bs' → bs' = bs := by
  induction h with
  | int k n => intro bs' h'; cases h'; rfl
  | bool b => intro bs' h'; cases h'; rfl
  | str s hM => intro bs' h'; generalize Value.string _ = y at h'; cases h'; rfl
  | nil E a cap =>
    intro bs' h'
    rcases h'.inv_ps with ⟨-, h, -⟩ | ⟨b, cap', xs, T, bss, h0, -⟩
    · exact h
    · exact absurd rfl h0
  | sl E l b cap xs T bss hM hc h0 hb hl h1 hr ih =>
    intro bs' h'
    rcases h'.inv_ps with ⟨h, -, -⟩ | ⟨b', cap', xs', T', bss', -, e, -, -, hb', hl', -, hr', e'⟩
    · exact absurd h h0
    · simp only [Value.slice.injEq, Option.some.injEq, Addr.mk.injEq, and_true, true_and] at e
      obtain ⟨rfl, rfl⟩ := e
      rw [hb] at hb'
      simp only [Option.some.injEq, Obj.cells.injEq] at hb'
      have exs : xs = xs' := by simpa using congrArg Array.toList hb'.1
      subst exs
      rw [e']
      congr 1
      refine inn_congr fun k hk => ?_
      have he := esz_pos E
      have h2 := ih (k / esz E) ((Nat.div_lt_iff_lt_mul he).2 hk) (k % esz E) (Nat.mod_lt _ he) (bs' := bss' (k / esz E * esz E + k % esz E)) (hr' (k / esz E) ((Nat.div_lt_iff_lt_mul he).2 hk) (k % esz E) (Nat.mod_lt _ he))
      rwa [Nat.mul_comm, Nat.div_add_mod] at h2
theorem Deep.one {x v bs} (h : Deep w x v bs) : x.oneCell' = true := by cases h <;> rfl
theorem Deep.block {x v bs} (h : Deep w x v bs) : ∀ c ∈ bs, ∃ ys T, w.heap[c]? = some (.cells ys T (0, 0)) ∧ 0 < ys.size := by
  induction h with
  | sl E l b cap xs T bss hM hc h0 hb hl h1 hr ih =>
    intro c hc'
    rcases List.mem_cons.1 hc' with rfl | hc'
    · refine ⟨_, T, hb, ?_⟩
      have h2 := esz_pos E
      have h3 : 0 < l.length := List.length_pos_iff.2 h0
      have h4 : 1 * 1 ≤ cap * esz E := Nat.mul_le_mul (by omega) (by omega)
      simp; omega
    · obtain ⟨i, j, hi, hj, h2⟩ := inn_ij hc'
      exact ih i hi j hj c h2
  | _ => intro c hc'; simp at hc'
theorem Deep.pos {x v bs} (h : Deep w x v bs) {c} (hc : c ∈ bs) (hf : full γ w c) : 0 < γ c := by
  obtain ⟨ys, T, h1, h2⟩ := h.block c hc
  have := hf ys T _ h1
  omega
theorem heap_lt {b : Nat} {o : Obj} (h : w.heap[b]? = some o) : b < w.heap.size := by
  rcases Nat.lt_or_ge b w.heap.size with h' | h'
  · exact h'
  · rw [Array.getElem?_eq_none h'] at h; cases h
theorem Deep.lt {x v bs} (h : Deep w x v bs) {c} (hc : c ∈ bs) : c < w.heap.size := by
  obtain ⟨ys, T, h1, h2⟩ := h.block c hc
  exact heap_lt h1
theorem Inner.rep {B : Base} {E : El} {l : List (ElT E)} {xs bss} (h : Inner B γ w E l xs bss) : ∀ i, i < l.length → ∀ j, j < esz E → Rep U ν γ w (xs.getD (i * esz E + j) undef) ((enc E (l.getD i (elDef E))).getD j .opq) :=
  fun i hi j hj => (h.deep i hi j hj).rep fun c hc => (h.ok c (inn_mem.2 ⟨_, idx_lt hi hj, hc⟩)).2
theorem LocOK.tree_arr {B : Base} {id E l} (h : LocOK B U ν γ w id (.tree E l)) : LocOK B U ν γ w id (.arr E l) := by
  obtain ⟨a, cap, e, hM, hc, h⟩ := h
  refine ⟨a, cap, e, hM, hc, ?_⟩
  rcases h with h | ⟨b, xs, bss, ea, hrow, hlen, hin⟩
  · exact .inl h
  · exact .inr ⟨b, xs, ea, hrow, hlen, hin.rep⟩
theorem SliceIs.of_arr {B : Base} {id E l} (h : LocOK B U ν γ w id (.arr E l)) : SliceIs U ν γ w (ν id) E l := by
  obtain ⟨a, cap, e, hM, hc, h⟩ := h
  refine ⟨hM, a, cap, e, hc, ?_⟩
  rcases h with h | ⟨b, xs, ea, hrow, hlen, hr⟩
  · left; rw [h] at hc; exact List.length_eq_zero_iff.1 (by omega)
  · right
    obtain ⟨-, -, h1, T, hb⟩ := hrow
    have hle : l.length * esz E ≤ xs.length := by rw [hlen]; exact Nat.mul_le_mul_right _ hc
    refine ⟨b, 0, fun k => xs.getD k undef, ea, fun k hk => ?_, fun k hk => ?_, hr⟩
    · rw [Nat.zero_add]; exact cell_row hb (by omega)
    · exact h1 _ (mem_getD (by omega))
theorem rdSl_sound {B : Base} {L : Locs} (hL : LocsOK B U ν γ w L) {x : Value} {v : AV} (h : Rep U ν γ w x v) {E l} (hr : rdSl L v = some ⟨E, l⟩) : SliceIs U ν γ w x E l := by
  unfold rdSl at hr
  split at hr
  · cases hr; exact .of_ps h
  · cases hr; cases h; exact ⟨Nat.zero_le _, none, 0, rfl, Nat.le_refl _, .inl rfl⟩
  · cases h
    rename_i id hu ho
    split at hr
    · rename_i hid; cases hr; exact .of_arr (hL.ok _ _ hid)
    · rename_i hid; cases hr; exact .of_ps (hL.ok _ _ hid)
    · rename_i hid; cases hr; exact .of_arr (hL.ok _ _ hid).tree_arr
    · cases hr
  · cases hr
theorem qLoad_sound {B : Base} {L : Locs} (hL : LocsOK B U ν γ w L) {t : Nat} {ti : TI} (hT : TIOK P t ti) {x : Value} {v : AV} (h : Rep U ν γ w x v) {O r} (hq : qLoad ti L v = some (O, r)) :
    O = none ∧ ∃ y, (Instr.loadAt t x).run P w = .ok y w ∧ Rep U ν γ w y r := by
  have at_slice : ∀ {E l b o len cap} {i : Int} {off : Nat}, SliceIs U ν γ w (.slice (some ⟨b, o, none⟩) len cap) E l → 0 ≤ i → i < l.length →
      loadR ti (enc E (l.getD i.toNat (elDef E))) off = some (O, r) → O = none ∧ ∃ y, (loadVar t ⟨b, o + (i.toNat * esz E + off), none⟩).run P w = .ok y w ∧ Rep U ν γ w y r := by
    intro E l b o len cap i off hs h0 h1 hq
    obtain ⟨a, cap', e, -, hs⟩ := hs.out
    rcases hs with rfl | ⟨b', off', c, e2, hc, h1', hr⟩
    · simp at h1; omega
    · simp only [Value.slice.injEq] at e
      obtain ⟨rfl, -, -⟩ := e
      simp only [Option.some.injEq, Addr.mk.injEq, and_true] at e2
      obtain ⟨rfl, rfl⟩ := e2
      have hi : i.toNat < l.length := by omega
      have hl := enc_len E (l.getD i.toNat (elDef E))
      have := run_loadVar_cells (w := w) (U := U) (ν := ν) (γ := γ) hT hq b (o + i.toNat * esz E) (fun k => c (i.toNat * esz E + k)) (by
        intro k hk; rw [hl] at hk
        have := hc (i.toNat * esz E + k) (idx_lt hi hk)
        rwa [← Nat.add_assoc] at this) (by intro k hk; rw [hl] at hk; exact h1' _ (idx_lt hi hk)) (by intro k hk; rw [hl] at hk; exact hr _ hi _ hk)
      rwa [Nat.add_assoc] at this
  unfold qLoad at hq
  split at hq
  · cases h with
    | lp id off b hu hν =>
      split at hq
      · rename_i cs hid
        obtain ⟨b', xs, hν', ⟨-, -, h1, T, hb⟩, hlen, hr⟩ := hL.ok _ _ hid
        rw [hν] at hν'
        simp only [Value.pointer.injEq, Option.some.injEq, Addr.mk.injEq, and_true] at hν'
        subst hν'
        have := run_loadVar_cells (w := w) (U := U) (ν := ν) (γ := γ) hT hq b 0 (fun k => xs.getD k undef) (fun k hk => by rw [Nat.zero_add]; exact cell_row hb (by omega))
          (fun k hk => h1 _ (mem_getD (by omega))) (fun k hk => hr k hk)
        rw [Nat.zero_add] at this
        simpa [Instr.loadAt, Instr.sureAddr] using this
      · cases hq
  · cases h with
    | ep E l i off b o len cap hs h0 h1 =>
      have := at_slice (SliceIs.of_ps hs) h0 h1 hq
      simpa [Instr.loadAt, Instr.sureAddr] using this
  · rename_i E id i off
    cases h with
    | ap _ _ _ _ b len cap hu hν h0 h1 =>
      split at hq
      · rename_i E' l hid
        split at hq
        · rename_i hE
          have hE' : E = E' := of_decide_eq_true hE
          subst hE'
          have hs := SliceIs.of_arr (hL.ok _ _ hid)
          rw [hν] at hs
          have hlen : len = l.length := by obtain ⟨a, cap', e, -⟩ := hs.out; simp at e; exact e.2.1
          have := at_slice hs h0 (by omega) hq
          rw [Nat.zero_add] at this
          simpa [Instr.loadAt, Instr.sureAddr] using this
        · cases hq
      · rename_i E' l hid
        split at hq
        · rename_i hE
          have hE' : E = E' := of_decide_eq_true hE
          subst hE'
          have hs := SliceIs.of_ps (hL.ok _ _ hid)
          rw [hν] at hs
          have hlen : len = l.length := by obtain ⟨a, cap', e, -⟩ := hs.out; simp at e; exact e.2.1
          have := at_slice hs h0 (by omega) hq
          rw [Nat.zero_add] at this
          simpa [Instr.loadAt, Instr.sureAddr] using this
        · cases hq
      · rename_i E' l hid
        split at hq
        · rename_i hE
          have hE' : E = E' := of_decide_eq_true hE
          subst hE'
          have hs := SliceIs.of_arr (hL.ok _ _ hid).tree_arr
          rw [hν] at hs
          have hlen : len = l.length := by obtain ⟨a, cap', e, -⟩ := hs.out; simp at e; exact e.2.1
          have := at_slice hs h0 (by omega) hq
          rw [Nat.zero_add] at this
          simpa [Instr.loadAt, Instr.sureAddr] using this
        · cases hq
      · cases hq
  · cases hq
theorem run_sizeOf {t : Nat} {i : TypeInfo} (h : P.info? t = some i) : (sizeOf t).run P w = .ok i.size w := by simp [sizeOf, typeInfo, h]
theorem Addr.add_off (b o n : Nat) : (⟨b, o, none⟩ : Addr).add n = ⟨b, o + n, none⟩ := Addr.add_mid b o n
theorem qField_sound {t : Nat} {fs z} (hT : TIOK P t (.st fs z)) {f : Nat} {x : Value} {v : AV} (h : Rep U ν γ w x v) {O r} (hq : qField fs f v = some (O, r)) :
    O = none ∧ ∃ y, (Instr.fieldAt t x f).run P w = .ok y w ∧ Rep U ν γ w y r := by
  obtain ⟨i, fields, zs, -, -, -, -, -, -, hu, hfs, hsz⟩ := hT
  have key : ∀ {o ty rest} {b k : Nat}, fs.drop f = (o, ty) :: rest → x = .pointer (some ⟨b, k, none⟩) → (Instr.fieldAt t x f).run P w = .ok (.pointer (some ⟨b, k + o, none⟩)) w := by
    intro o ty rest b k hd hx
    obtain ⟨hlt, hg⟩ := drop_cons hd
    rw [hfs] at hlt hg
    have hlt' : f < fields.size := by simpa using hlt
    have hg' := hg (0, 0)
    simp [List.getD_eq_getElem?_getD, hlt'] at hg'
    obtain ⟨ii, hii, hnz⟩ := hsz fields[f] (Array.getElem_mem hlt')
    subst hx
    simp [Instr.fieldAt, run_underlying' hu, hlt', Instr.sureAddr, fieldPlace, run_sizeOf hii, hnz, Addr.add_off, hg'.1]
  unfold qField at hq
  split at hq
  · split at hq
    · rename_i hd
      cases h with
      | lp id off b hu hν =>
        simp only [Option.some.injEq, Prod.mk.injEq] at hq; obtain ⟨rfl, rfl⟩ := hq
        exact ⟨rfl, _, key hd rfl, .lp _ _ _ hu hν⟩
    · cases hq
  · split at hq
    · rename_i hd
      cases h with
      | ep E l i off b o len cap hs h0 h1 =>
        simp only [Option.some.injEq, Prod.mk.injEq] at hq; obtain ⟨rfl, rfl⟩ := hq
        refine ⟨rfl, _, key hd rfl, ?_⟩
        rw [Nat.add_assoc, Nat.add_assoc]
        exact .ep _ _ _ _ _ _ _ _ hs h0 h1
    · cases hq
  · split at hq
    · rename_i hd
      cases h with
      | ap E id i off b len cap hu hν h0 h1 =>
        simp only [Option.some.injEq, Prod.mk.injEq] at hq; obtain ⟨rfl, rfl⟩ := hq
        refine ⟨rfl, _, key hd rfl, ?_⟩
        rw [Nat.add_assoc]
        exact .ap _ _ _ _ _ _ _ hu hν h0 h1
    · cases hq
  · cases hq
end Go.Rs
end
section
namespace Go.Rs
variable {P : Program} {U : Nat → Bool} {ν : Nat → Value} {γ : Nat → Nat} {w : World}
theorem spliceC_len : ∀ (vs cs : List AV) (off : Nat), (spliceC cs off vs).length = cs.length
  | [], cs, off => rfl
  | v :: vs, cs, off => by unfold spliceC; rw [spliceC_len vs]; simp
theorem spliceC_getD : ∀ (vs cs : List AV) (off k : Nat), off + vs.length ≤ cs.length →
    (spliceC cs off vs).getD k .opq = if off ≤ k ∧ k < off + vs.length then vs.getD (k - off) .opq else cs.getD k .opq
  | [], cs, off, k, _ => by rw [if_neg (by simp only [List.length_nil]; omega)]; rfl
  | v :: vs, cs, off, k, h => by
    unfold spliceC
    have h' : off + (vs.length + 1) ≤ cs.length := h
    rw [spliceC_getD vs (cs.set off v) (off + 1) k (by simp; omega)]
    simp only [List.length_cons]
    by_cases h1 : off + 1 ≤ k ∧ k < off + 1 + vs.length
    · rw [if_pos h1, if_pos (by omega)]
      have e : k - off = (k - (off + 1)) + 1 := by omega
      rw [e]; rfl
    · rw [if_neg h1]
      by_cases h2 : k = off
      · subst h2
        rw [if_pos (by omega)]
        simp [List.getD_eq_getElem?_getD, List.getElem?_set_self (show k < cs.length by omega)]
      · rw [if_neg (by omega)]
        simp [List.getD_eq_getElem?_getD, List.getElem?_set_ne (show off ≠ k by omega)]
theorem fold_set (vs : List Value) : ∀ (off n : Nat) (cs : Array Value) (k : Nat),
    ((vs.zipIdx n).foldl (fun cs (x : Value × Nat) => cs.setIfInBounds (off + x.2) x.1) cs)[k]? = if off + n ≤ k ∧ k < off + n + vs.length ∧ k < cs.size then vs[k - (off + n)]? else cs[k]? := by
  induction vs with
  | nil => intro off n cs k; simp; omega
  | cons v vs ih =>
    intro off n cs k
    simp only [List.zipIdx_cons, List.foldl_cons]
    rw [ih]
    simp only [Array.size_setIfInBounds, List.length_cons]
    by_cases h1 : off + (n + 1) ≤ k ∧ k < off + (n + 1) + vs.length ∧ k < cs.size
    · rw [if_pos h1, if_pos (by omega)]
      have e : k - (off + n) = (k - (off + (n + 1))) + 1 := by omega
      rw [e]; rfl
    · rw [if_neg h1]
      by_cases h2 : k = off + n
      · subst h2
        by_cases h3 : off + n < cs.size
        · rw [if_pos (by omega)]
          simp [h3]
        · rw [if_neg (by omega)]
          simp [h3]
      · rw [if_neg (by omega)]
        rw [Array.getElem?_setIfInBounds_ne (by omega)]
theorem fold_size (vs : List Value) : ∀ (off n : Nat) (cs : Array Value),
    ((vs.zipIdx n).foldl (fun cs (x : Value × Nat) => cs.setIfInBounds (off + x.2) x.1) cs).size = cs.size := by
  induction vs with
  | nil => intro off n cs; rfl
  | cons v vs ih => intro off n cs; simp only [List.zipIdx_cons, List.foldl_cons]; rw [ih]; simp
structure CellsIs (U : Nat → Bool) (ν : Nat → Value) (γ : Nat → Nat) (w : World) (xs : List Value) (cs : List AV) : Prop where
  len : xs.length = cs.length
  one : ∀ x ∈ xs, x.oneCell' = true
  rep : ∀ i, i < cs.length → Rep U ν γ w (xs.getD i undef) (cs.getD i .opq)
theorem CellsIs.of_cells {x : Value} {v : AV} (h : Rep U ν γ w x v) (hv : cellsOf v ≠ []) : CellsIs U ν γ w x.cells.toList (cellsOf v) := by
  have := rep_cells h (by rintro rfl; exact hv rfl) (by rintro l rfl; exact hv rfl)
  exact ⟨this.1, this.2.1, this.2.2⟩
theorem CellsIs.splice {xs ys : List Value} {cs vs : List AV} (hx : CellsIs U ν γ w xs cs) (hy : CellsIs U ν γ w ys vs) {off : Nat} (hle : off + vs.length ≤ cs.length) {zs : List Value}
    (hz : ∀ k, zs[k]? = if off ≤ k ∧ k < off + ys.length then ys[k - off]? else xs[k]?) : CellsIs U ν γ w zs (spliceC cs off vs) := by
  have hlen : zs.length = xs.length := by
    have hx' := hx.len; have hy' := hy.len
    apply Nat.le_antisymm
    · rcases Nat.lt_or_ge xs.length zs.length with h | h
      · exfalso
        have := hz xs.length
        rw [if_neg (by omega), List.getElem?_eq_getElem h, List.getElem?_eq_none (Nat.le_refl _)] at this
        cases this
      · exact h
    · rcases Nat.lt_or_ge zs.length xs.length with h | h
      · exfalso
        have := hz zs.length
        rw [List.getElem?_eq_none (Nat.le_refl zs.length)] at this
        split at this
        · rw [List.getElem?_eq_getElem (by omega)] at this; cases this
        · rw [List.getElem?_eq_getElem h] at this; cases this
      · exact h
  have hy' := hy.len
  refine ⟨by rw [hlen, spliceC_len, hx.len], ?_, ?_⟩
  · intro x hxm
    obtain ⟨k, hk⟩ := List.mem_iff_getElem?.1 hxm
    rw [hz k] at hk
    split at hk
    · exact hy.one _ (List.mem_of_getElem? hk)
    · exact hx.one _ (List.mem_of_getElem? hk)
  · intro k hk
    rw [spliceC_len] at hk
    rw [spliceC_getD _ _ _ _ hle]
    have e := hz k
    rw [hy'] at e
    rw [List.getD_eq_getElem?_getD, e]
    split
    · rename_i h
      have := hy.rep (k - off) (by omega)
      rwa [List.getD_eq_getElem?_getD] at this
    · have := hx.rep k hk
      rwa [List.getD_eq_getElem?_getD] at this
theorem ti_info {t : Nat} {ti : TI} (hT : TIOK P t ti) (h : 1 ≤ ti.size) : ∃ i, P.info? t = some i ∧ i.size = ti.size := by
  cases ti with
  | other => simp [TI.size] at h
  | mp => obtain ⟨i, kt, et, hi, hs, -⟩ := hT; exact ⟨i, hi, hs⟩
  | ifc => obtain ⟨i, ms, hi, hs, -⟩ := hT; exact ⟨i, hi, hs⟩
  | int k => obtain ⟨i, hi, hs, -⟩ := hT; exact ⟨i, hi, hs⟩
  | bool => obtain ⟨i, hi, hs, -⟩ := hT; exact ⟨i, hi, hs⟩
  | str => obtain ⟨i, hi, hs, -⟩ := hT; exact ⟨i, hi, hs⟩
  | st fs z => obtain ⟨i, f, zs, hi, hs, -⟩ := hT; exact ⟨i, hi, hs⟩
  | sl E => obtain ⟨i, e, ei, z, hi, hs, -⟩ := hT; exact ⟨i, hi, hs⟩
  | ptr => obtain ⟨i, e, hi, hs, -⟩ := hT; exact ⟨i, hi, hs⟩
  | fn => obtain ⟨i, a, b, c, hi, hs, -⟩ := hT; exact ⟨i, hi, hs⟩
theorem fill_sound {T : Tab} {s : AS} {fields : Array Field} {fs : List (Nat × Nat)} (hfs : fs = fields.toList.map fun f => (f.offset, f.type))
    (place : Nat → Option (Nat × Nat)) (hpl : ∀ i f, fields[i]? = some f → ∃ n, place i = some (f.offset, n) ∧ ∀ ii, P.info? f.type = some ii → n = ii.size) (hT : TabOK P T) (ρ : Operand → Value) :
    ∀ (parts : List (Nat × Operand)) (cs cs' : List AV) (xs : Array Value), (∀ p ∈ parts, Rep U ν γ w (ρ p.2) (s.rd p.2)) → CellsIs U ν γ w xs.toList cs → qBuild T fs s cs parts = some cs' →
      ∃ ys, Instr.fill place xs (parts.map fun p => (p.1, ρ p.2)) = some ys ∧ CellsIs U ν γ w ys.toList cs' := by
  intro parts
  induction parts with
  | nil => intro cs cs' xs _ hx hq; simp only [qBuild, Option.some.injEq] at hq; subst hq; exact ⟨xs, rfl, hx⟩
  | cons p r ih =>
    obtain ⟨i, x⟩ := p
    intro cs cs' xs hr hx hq
    simp only [qBuild] at hq
    split at hq
    · rename_i o ty rest hd
      simp only [seqV_eq, seqL_eq] at hq
      split at hq
      · rename_i h1 h2 h3
        have h1' := Nat.eq_of_beq_eq_true h1
        have h2' := Nat.le_of_ble_eq_true h2
        have h3' := Nat.le_of_ble_eq_true h3
        obtain ⟨hlt, hg⟩ := drop_cons hd
        rw [hfs] at hlt hg
        have hlt' : i < fields.size := by simpa using hlt
        have hg' := hg (0, 0)
        simp [List.getD_eq_getElem?_getD, hlt'] at hg'
        obtain ⟨ho, hty⟩ := hg'
        obtain ⟨n, hp, hn⟩ := hpl i fields[i] (by simp [hlt'])
        have hrx : Rep U ν γ w (ρ x) (fixT (T ty) (s.rd x)) := rep_fixT (hr (i, x) (by simp)) _
        have hcx := CellsIs.of_cells hrx (by intro e; rw [e] at h3'; simp at h3')
        have hsz : n = (T ty).size := by
          obtain ⟨ii, hii, hs⟩ := ti_info (hT ty) (by omega)
          rw [hty] at hn
          rw [hn ii hii, hs]
        have hcl := hcx.len
        have hxl := hx.len
        have hsize : (ρ x).cells.size = (cellsOf (fixT (T ty) (s.rd x))).length := by simpa using hcl
        have hxsize : xs.size = cs.length := by simpa using hxl
        have hfill : Instr.fill place xs (((i, x) :: r).map fun p => (p.1, ρ p.2)) =
            Instr.fill place ((ρ x).cells.zipIdx.foldl (fun cs (c, j) => cs.setIfInBounds (o + j) c) xs) (r.map fun p => (p.1, ρ p.2)) := by
          simp only [List.map_cons, Instr.fill, hp]
          rw [if_neg]
          · rw [ho]
          · simp only [Bool.or_eq_true, ne_eq, decide_eq_true_eq, not_or, Nat.not_lt]
            rw [hsize, hsz, h1', hxsize, ho]
            rw [h1'] at h2'
            exact ⟨fun h => h rfl, h2'⟩
        rw [hfill]
        refine ih _ _ _ (fun p hp => hr p (by simp [hp])) (hx.splice hcx h2' ?_) hq
        intro k
        have := fold_set (ρ x).cells.toList o 0 xs k
        have e : (ρ x).cells.zipIdx.foldl (fun cs (x : Value × Nat) => cs.setIfInBounds (o + x.2) x.1) xs = ((ρ x).cells.toList.zipIdx 0).foldl (fun cs (x : Value × Nat) => cs.setIfInBounds (o + x.2) x.1) xs := by
          rw [← Array.foldl_toList, Array.toList_zipIdx]
        rw [← e] at this
        rw [Array.getElem?_toList, Array.getElem?_toList]
        refine this.trans ?_
        rw [hcl, hxsize, Nat.add_zero]
        by_cases hk : o ≤ k ∧ k < o + (cellsOf (fixT (T ty) (s.rd x))).length
        · rw [if_pos (by omega), if_pos hk, Array.getElem?_toList]
        · rw [if_neg (by omega), if_neg hk]; exact (Array.getElem?_toList ..).symm
      · cases hq
    · cases hq
def fieldP (f : Field) : Sem (Nat × Nat) := do
  let n ← sizeOf f.type
  pure (f.offset, n)
theorem mapM_fields (fs : Array Field) (h : ∀ f ∈ fs, ∃ i, P.info? f.type = some i) : 
    ∃ ps : Array (Nat × Nat), (fs.mapM fieldP).run P w = .ok ps w ∧
      ∀ (i : Nat) (f : Field), fs[i]? = some f → ∃ n, ps[i]? = some (f.offset, n) ∧ ∀ ii, P.info? f.type = some ii → n = ii.size := by
  obtain ⟨l⟩ := fs
  rw [Array.mapM_eq_mapM_toList]
  simp only [List.mem_toArray] at h
  have key : ∀ l : List Field, (∀ f ∈ l, ∃ i, P.info? f.type = some i) → ∃ ps : List (Nat × Nat), (l.mapM fieldP).run P w = .ok ps w ∧
      ∀ (i : Nat) (f : Field), l[i]? = some f → ∃ n, ps[i]? = some (f.offset, n) ∧ ∀ ii, P.info? f.type = some ii → n = ii.size := by
    intro l
    induction l with
    | nil => intro _; exact ⟨[], rfl, by simp⟩
    | cons f l ih =>
      intro h
      obtain ⟨i, hi⟩ := h f (by simp)
      obtain ⟨ps, hps, hp⟩ := ih (fun f hf => h f (by simp [hf]))
      refine ⟨(f.offset, i.size) :: ps, ?_, ?_⟩
      · simp only [List.mapM_cons, fieldP, Sem.run_bind, run_sizeOf hi, Result.andThen_ok, Sem.run_pure, hps]
      · intro k g hk
        cases k with
        | zero => simp at hk; subst hk; exact ⟨i.size, rfl, fun ii hii => by rw [hi] at hii; cases hii; rfl⟩
        | succ k => simpa using hp k g (by simpa using hk)
  obtain ⟨ps, h1, h2⟩ := key l h
  refine ⟨ps.toArray, ?_, ?_⟩
  · simp [h1]
  · simpa using h2
theorem qBuild_sound {T : Tab} (hT : TabOK P T) {s : AS} {t : Nat} {fs z} (ht : T t = .st fs z) {parts : List (Nat × Operand)} {cs : List AV} (hq : qBuild T fs s z parts = some cs) (ρ : Operand → Value)
    (hr : ∀ p ∈ parts, Rep U ν γ w (ρ p.2) (s.rd p.2)) :
    ∃ x, (Instr.build t (parts.toArray.map fun (i, x) => (i, ρ x))).run P w = .ok x w ∧ Rep U ν γ w x (.st cs) := by
  have h := hT t
  rw [ht] at h
  obtain ⟨i, fields, zs, hi, hs, hz, hzl, hz1, hzr, hu, hfs, hsz⟩ := h
  obtain ⟨ps, hps, hp⟩ := mapM_fields (P := P) (w := w) fields (fun f hf => by obtain ⟨i, h, -⟩ := hsz f hf; exact ⟨i, h⟩)
  obtain ⟨ys, hy, hcs⟩ := fill_sound (U := U) (ν := ν) (γ := γ) (w := w) (P := P) hfs (ps[·]?) hp hT ρ parts z cs zs hr ⟨by simpa using hzl, hz1, fun k hk => hzr U ν γ w k hk⟩ hq
  refine ⟨.agg ys, ?_, ?_⟩
  · have e : (parts.toArray.map fun (i, x) => (i, ρ x)).toList = parts.map fun p => (p.1, ρ p.2) := by simp
    simp only [Instr.build, Sem.run_bind, run_underlying' hu, zeroValue, typeInfo, Sem.run_bind, run_program, Result.andThen_ok, hi, hz, Sem.run_pure, show (fields.mapM fun f => (do pure (f.offset, ← sizeOf f.type) : Sem (Nat × Nat))) = fields.mapM fieldP from rfl, hps, e, Value.cells, hy]
  · have := Rep.st (U := U) (ν := ν) (γ := γ) (w := w) ys.toList cs hcs.len hcs.one hcs.rep
    simpa using this
end Go.Rs
end
section
/-! Maps of texts to numbers. -/
namespace Go.Rs
variable {P : Program} {w : World}
open Go.WideElems (rd rg Fit)
open Go.ChangeMaps (putKey notKey setBlock heap_setBlock_same)
open Go.MapKept
theorem key_of {kt : Nat} (hk : P.underlying kt = some .string) {s : Bs} (hs : s.length ≤ MX) : keyOf P kt (.string ⟨s.toArray⟩) = some (.string s) := by
  have := Go.WideMaps.keyOf_string_mk (P := P) hk (s := ⟨s.toArray⟩) (by rw [bs_size]; unfold MX at hs; unfold maxLen; omega)
  simpa using this
theorem wf_of_inK {z : Int} (h : inK .i64 z) : (Lit.int .i64 z).wf = true := by
  simp only [inK] at h
  have h0 : IntKind.i64.min = -9223372036854775808 := by decide
  have h1 : IntKind.i64.max = 9223372036854775807 := by decide
  simp only [Lit.wf, Bool.and_eq_true, decide_eq_true_eq, h0, h1]
  omega
theorem str_inj {s t : Bs} (h : Value.string ⟨s.toArray⟩ = .string ⟨t.toArray⟩) : s = t := by
  simpa using h
theorem fit_of {kt et : Nat} (hk : P.underlying kt = some .string) (he : P.underlying et = some (.int .i64)) {es : Array MapEntry} {clock : Nat} {l : List (Bs × Int)} (h : MapIs es clock l) (hM : l.length ≤ MX) :
    Fit P kt (plainElem (H := Unit) P et) es clock := by
  refine ⟨by have := h.sz; unfold MX at hM; unfold maxLen; omega, h.st, fun x hx => ?_⟩
  obtain ⟨s, z, h1, h2, h3, h4, -⟩ := h.e x hx
  refine ⟨(.string s, .lit (.int .i64 z)), ?_⟩
  simp [rd, h1, key_of hk h2, h3, plainElem_int he h4]
theorem map_look {t kt et b : Nat} (hu : P.underlying t = some (.map kt et)) (hk : P.underlying kt = some .string) (he : P.underlying et = some (.int .i64)) (hz : ∃ ie, P.info? et = some ie ∧ ie.zero = some (.int .i64 0))
    {es : Array MapEntry} {clock : Nat} {l : List (Bs × Int)} (hb : w.heap[b]? = some (.map es clock)) (h : MapIs es clock l) (hM : l.length ≤ MX) {s : Bs} (hs : s.length ≤ MX) :
    (Instr.lookup t (.map (some b)) (.string ⟨s.toArray⟩) false).run P w = .ok (.int .i64 ((mget l s).getD 0)) w := by
  obtain ⟨ie, h1, h2⟩ := hz
  have hz' : (zeroValue et).run P w = .ok (.int .i64 0) w := by simp [zeroValue, typeInfo, h1, h2]
  rcases Go.Maps.fit_look (H := Unit) false (Go.Maps.string_keyed hk) hu hz' hb (fit_of hk he h hM) (key_of hk hs) with ⟨hr, hn, -⟩ | ⟨e0, y, hm, hke, hr, -⟩
  · have : mget l s = none := by
      cases e : mget l s with
      | none => rfl
      | some z => obtain ⟨x, hx, hxk⟩ := h.m s z e; exact absurd hxk (hn x hx)
    rw [this]; simpa using hr
  · obtain ⟨s', z, h3, h4, h5, h6, h7⟩ := h.e e0 hm
    have : s' = s := str_inj (h3.symm.trans hke)
    subst this
    rw [h7, hr]; simp [h5]
theorem map_set {t kt et b : Nat} (hu : P.underlying t = some (.map kt et)) (hk : P.underlying kt = some .string) (he : P.underlying et = some (.int .i64)) (hz : ∃ ie, P.info? et = some ie ∧ ie.zero = some (.int .i64 0))
    {es : Array MapEntry} {clock : Nat} {l : List (Bs × Int)} (hb : w.heap[b]? = some (.map es clock)) (h : MapIs es clock l) {s : Bs} (hs : s.length ≤ MX) {z : Int} (hi : inK .i64 z) (hl : l.length < 1073741824) :
    ∃ es' clock', (Instr.mapUpdate t (.map (some b)) (.string ⟨s.toArray⟩) (.int .i64 z)).run P w = .ok () (setBlock w b (.map es' clock')) ∧ MapIs es' clock' ((s, z) :: l) := by
  have hM : l.length ≤ MX := by unfold MX; omega
  have hw := wf_of_inK hi
  have F := fit_of hk he h hM
  obtain ⟨ie, hi1, hi2⟩ := hz
  have hz' : ∀ w : World, (zeroValue et).run P w = .ok (.int .i64 0) w := fun w => by simp [zeroValue, typeInfo, hi1, hi2]
  obtain ⟨es', ck', hr, F', hput, -, -, hx'⟩ := Go.Maps.fit_store (R' := plainElem (H := Unit) P et) (Go.Maps.string_keyed hk) hu hb F (by have := h.sz; unfold maxLen; omega) (fun _ _ _ _ h => h) (key_of hk hs) (plainElem_int he hw)
  refine ⟨es', ck', hr, F'.stamped, ?_, ?_, ?_⟩
  · have e1 : es'.size = ((es'.toList.map (rg P kt (plainElem (H := Unit) P et))).foldr DataW.insert []).length := by rw [length_sorted]; simp
    rw [e1, hput]
    unfold putKey
    rw [length_insert]
    have h3 := List.length_filter_le (notKey (Lit.string s)) ((es.toList.map (rg P kt (plainElem (H := Unit) P et))).foldr DataW.insert [])
    rw [length_sorted] at h3
    have := h.sz
    simp at h3 ⊢
    omega
  · intro x hx
    rcases hx' x hx with ⟨hxo, hne⟩ | ⟨h1, h2⟩
    · obtain ⟨s1, z1, a1, a2, a3, a4, a5⟩ := h.e x hxo
      refine ⟨s1, z1, a1, a2, a3, a4, ?_⟩
      have : s ≠ s1 := by rintro rfl; exact hne a1
      simp [mget, this, a5]
    · exact ⟨s, z, h1, hs, h2, hw, by simp [mget]⟩
  · intro s2 z2 h2
    have hs2 : s2.length ≤ MX ∧ (s2 ≠ s → ∃ x ∈ es.toList, x.key = .string ⟨s2.toArray⟩) := by
      by_cases e : s = s2
      · subst e; exact ⟨hs, fun h => absurd rfl h⟩
      · simp only [mget, e, if_false] at h2
        obtain ⟨x, hx, hxk⟩ := h.m s2 z2 h2
        obtain ⟨s3, z3, a1, a2, -⟩ := h.e x hx
        have : s3 = s2 := str_inj (a1.symm.trans hxk)
        subst this
        exact ⟨a2, fun _ => ⟨x, hx, hxk⟩⟩
    have hb' : (setBlock w b (.map es' ck')).heap[b]? = some (.map es' ck') := heap_setBlock_same hb _
    rcases Go.Maps.fit_look (H := Unit) false (Go.Maps.string_keyed hk) hu (hz' _) hb' F' (key_of hk hs2.1) with ⟨-, -, hat⟩ | ⟨e0, y, hm, hke, -⟩
    · exfalso
      rw [hput] at hat
      by_cases e : s2 = s
      · subst e
        have := hat .nil
        rw [← DataW.put_eq, Go.Maps.atKey_put_same (k := Lit.string s2) ⟨_, rfl⟩ trivial] at this
        cases this
      · obtain ⟨x, hx, hxk⟩ := hs2.2 e
        rcases Go.Maps.fit_look (H := Unit) false (Go.Maps.string_keyed hk) hu (hz' w) hb F (key_of hk hs2.1) with ⟨-, hn, -⟩ | ⟨e0, y, -, -, -, -, hat2, -⟩
        · exact hn x hx hxk
        · have h3 := hat .nil
          have h4 := hat (.agg [])
          rw [← DataW.put_eq, Go.Maps.atKey_put_other (by simpa using e), hat2] at h3 h4
          rw [h3] at h4
          cases h4
    · exact ⟨e0, hm, hke⟩
end Go.Rs
end
section
namespace Go.Rs
variable {P : Program} {U : Nat → Bool} {ν : Nat → Value} {γ : Nat → Nat} {w : World}
def Readable (U : Nat → Bool) (ν : Nat → Value) (γ : Nat → Nat) (w : World) (s : AS) (ρ : Operand → Value) : Op → Prop
  | .pick c a b => Rep U ν γ w (ρ c) (s.rd c) ∧ (ρ c = .bool true → Rep U ν γ w (ρ a) (s.rd a)) ∧ (ρ c = .bool false → Rep U ν γ w (ρ b) (s.rd b))
  | op => ∀ x ∈ op.operands.toList, Rep U ν γ w (ρ x) (s.rd x)
theorem run_v (e : Sem Value) {x : Value} (h : e.run P w = .ok x w) : ((do pure (Next.value (← e))) : Sem Next).run P w = .ok (.value x) w := by
  rw [Sem.run_bind, h]; rfl
theorem eqGuard_ok {op t X Y} {a b : AV} {x y : Value} (ha : Rep U ν γ w x a) (hb : Rep U ν γ w y b) {ti O v} (hq : qBin ti op a b = some (O, v)) : (eqGuard op t X Y x y).run P w = .ok () w := by
  unfold qBin at hq
  split at hq
  · rw [rep_int ha, rep_int hb]; cases op <;> rfl
  · rw [rep_int ha, rep_int hb]; cases op <;> rfl
  · rw [rep_int ha, rep_int hb]; cases op <;> rfl
  · rw [rep_str ha, rep_str hb]; cases op <;> rfl
  · rw [rep_bool ha, rep_bool hb]; cases op <;> rfl
  · cases hq
theorem run_ifc_equalIn {t ms} {a : Value} {b : Bool} (d : Nat) (hu : P.underlying t = some (.interface ms)) (h : Rep U ν γ w a (.ifc b)) : (Op.equalIn (d + 1) t a .nilIface).run P w = .ok b w := by
  cases h with
  | ifc0 => simp [Op.equalIn, run_underlying' hu]
  | ifc1 te pe => simp [Op.equalIn, run_underlying' hu]
theorem run_ifc_equal {t ms} {a : Value} {b : Bool} (hu : P.underlying t = some (.interface ms)) (h : Rep U ν γ w a (.ifc b)) : (Op.equal t a .nilIface).run P w = .ok b w := run_ifc_equalIn 9999 hu h
theorem run_ifc_eql {t ms} {a : Value} {b : Bool} (hu : P.underlying t = some (.interface ms)) (h : Rep U ν γ w a (.ifc b)) : (binOp .eql t a .nilIface).run P w = .ok (.bool b) w := by
  have e := run_ifc_equal (P := P) hu h
  cases h with
  | ifc0 =>
    show ((do pure (Value.bool (← Op.equal t .nilIface .nilIface))) : Sem Value).run P w = _
    rw [Sem.run_bind, e]; rfl
  | ifc1 te pe =>
    show ((do pure (Value.bool (← Op.equal t (.iface te pe) .nilIface))) : Sem Value).run P w = _
    rw [Sem.run_bind, e]; rfl
theorem run_ifc_neq {t ms} {a : Value} {b : Bool} (hu : P.underlying t = some (.interface ms)) (h : Rep U ν γ w a (.ifc b)) : (binOp .neq t a .nilIface).run P w = .ok (.bool (!b)) w := by
  have e := run_ifc_equal (P := P) hu h
  cases h with
  | ifc0 =>
    show ((do pure (Value.bool (!(← Op.equal t .nilIface .nilIface)))) : Sem Value).run P w = _
    rw [Sem.run_bind, e]; rfl
  | ifc1 te pe =>
    show ((do pure (Value.bool (!(← Op.equal t (.iface te pe) .nilIface)))) : Sem Value).run P w = _
    rw [Sem.run_bind, e]; rfl
theorem ifc_guard {op t X} {a : Value} {b : Bool} (h : Rep U ν γ w a (.ifc b)) : (eqGuard op t X (.const .nilIface) a .nilIface).run P w = .ok () w := by
  cases h with
  | ifc0 => cases op <;> simp [eqGuard]
  | ifc1 te pe => cases op <;> rfl
theorem qIfc_sound {T : Tab} (hT : TabOK P T) {op t} {X Y : Operand} {s : AS} {x y : Value} {O v} (hq : qIfc (T t) op (s.rd X) Y = some (O, v)) (hx : Rep U ν γ w x (s.rd X)) (hy : Rep U ν γ w y (s.rd Y)) :
    ∃ r, ((do eqGuard op t X Y x y; binOp op t x y) : Sem Value).run P w = .ok r w ∧ Rep U ν γ w r v := by
  unfold qIfc at hq
  split at hq
  case h_2 => cases hq
  have ey : y = .nilIface := by
    have : Rep U ν γ w y (.ifc true) := hy
    cases this; rfl
  subst ey
  split at hq
  · rename_i b ht e
    rw [e] at hx
    have h := hT t
    rw [ht] at h
    obtain ⟨i, ms, -, -, hu⟩ := h
    simp only [Option.some.injEq, Prod.mk.injEq] at hq; obtain ⟨rfl, rfl⟩ := hq
    refine ⟨.bool b, ?_, .bool _⟩
    rw [Sem.run_bind, ifc_guard hx]
    exact run_ifc_eql hu hx
  · rename_i b ht e
    rw [e] at hx
    have h := hT t
    rw [ht] at h
    obtain ⟨i, ms, -, -, hu⟩ := h
    simp only [Option.some.injEq, Prod.mk.injEq] at hq; obtain ⟨rfl, rfl⟩ := hq
    refine ⟨.bool (!b), ?_, .bool _⟩
    rw [Sem.run_bind, ifc_guard hx]
    exact run_ifc_neq hu hx
  · cases hq
theorem optI_sound {s : AS} {ρ : Operand → Value} {d : Int} {x : Option Operand} (h : ∀ y, x = some y → Rep U ν γ w (ρ y) (s.rd y)) {n : Int} (hq : optI s d x = some n) :
    (x = none ∧ n = d) ∨ ∃ y k, x = some y ∧ ρ y = .int k n := by
  cases x with
  | none => simp [optI] at hq; exact .inl ⟨rfl, hq.symm⟩
  | some y =>
    right
    simp only [optI] at hq
    have := h y rfl
    split at hq
    · rename_i k m hm; rw [hm] at this; cases hq; exact ⟨y, k, rfl, rep_int this⟩
    · cases hq
theorem run_sliceBound {k : IntKind} {n : Int} {y : Nat} {c} (h : 0 ≤ n ∧ n ≤ y) : (Instr.sliceBound (.int k n) y c).run P w = .ok n.toNat w := by
  simp [Instr.sliceBound, asIntOf, h]
theorem run_sliceBounds {s : AS} {ρ : Operand → Value} {sl : Bool} {len cap : Nat} {lo hi : Option Operand} {l h : Int} (hlo : ∀ y, lo = some y → Rep U ν γ w (ρ y) (s.rd y)) (hhi : ∀ y, hi = some y → Rep U ν γ w (ρ y) (s.rd y))
    (el : optI s 0 lo = some l) (eh : optI s len hi = some h) (hO : 0 ≤ l ∧ l ≤ h ∧ h ≤ len) (hc : len ≤ cap) :
    (Instr.sliceBounds sl len cap (lo.map ρ) (hi.map ρ) none).run P w = .ok (l.toNat, h.toNat, cap) w := by
  rcases optI_sound hlo el with ⟨rfl, rfl⟩ | ⟨y, k, rfl, ey⟩ <;> rcases optI_sound hhi eh with ⟨rfl, rfl⟩ | ⟨z, k', rfl, ez⟩
  · simp [Instr.sliceBounds]
  · have := run_sliceBound (P := P) (w := w) (k := k') (n := h) (y := cap) (c := if sl then .sliceAcap else .sliceAlen) (by omega)
    simp [Instr.sliceBounds, ez, this]
  · have := run_sliceBound (P := P) (w := w) (k := k) (n := l) (y := len) (c := .sliceB) (by omega)
    simp [Instr.sliceBounds, ey, this]
  · have h1 := run_sliceBound (P := P) (w := w) (k := k') (n := h) (y := cap) (c := if sl then .sliceAcap else .sliceAlen) (by omega)
    have h2 := run_sliceBound (P := P) (w := w) (k := k) (n := l) (y := h.toNat) (c := .sliceB) (by omega)
    simp [Instr.sliceBounds, ey, ez, h1, h2]
theorem rep_ps {x : Value} {E : El} {l : List (ElT E)} (h : Rep U ν γ w x (.ps E l)) : ∃ (a : Option Addr) (cap : Nat) (c : Nat → Value), x = .slice a l.length cap ∧ l.length ≤ MX ∧ l.length ≤ cap ∧
    (l = [] ∨ ∃ b off, a = some ⟨b, off, none⟩ ∧ off + l.length * esz E ≤ γ b ∧ ∀ k, k < l.length * esz E → w.cell? ⟨b, off + k, none⟩ = some (c k)) ∧
    (∀ k, k < l.length * esz E → (c k).oneCell' = true) ∧ (∀ i, i < l.length → ∀ j, j < esz E → Rep U ν γ w (c (i * esz E + j)) ((enc E (l.getD i (elDef E))).getD j .opq)) := by
  cases h with
  | ps _ _ a cap c hM hc ha h1 hr => exact ⟨a, cap, c, rfl, hM, hc, ha, h1, hr⟩
theorem rep_subslice {E : El} {l : List (ElT E)} {a : Option Addr} {cap : Nat} (hr : Rep U ν γ w (.slice a l.length cap) (.ps E l)) {i j : Nat} (hij : i ≤ j) (hj : j ≤ l.length) :
    Rep U ν γ w (.slice (if cap = i then a else a.map (·.add (i * esz E))) (j - i) (cap - i)) (.ps E ((l.take j).drop i)) := by
  obtain ⟨a', cap', c, e, hM, hc, ha, h1, hr'⟩ := rep_ps hr
  simp only [Value.slice.injEq, true_and] at e
  obtain ⟨rfl, rfl⟩ := e
  · have hlen : ((l.take j).drop i).length = j - i := by simp; omega
    rw [← hlen]
    by_cases he : j = i
    · subst he
      have e0 : (l.take j).drop j = [] := by apply List.drop_of_length_le; simp; omega
      rw [e0]
      exact .ps E [] _ _ (fun _ => undef) (Nat.zero_le _) (by simp) (.inl rfl) (by intro k hk; simp at hk) (by intro k hk; simp at hk)
    · rcases ha with rfl | ⟨b, off, rfl, hle, hcell⟩
      · simp at hj; omega
      · rw [if_neg (by omega)]
        simp only [Option.map_some, Addr.add_off]
        have hm : ∀ k, k < (j - i) * esz E → i * esz E + k < l.length * esz E := by
          intro k hk
          have : (i + (j - i)) * esz E ≤ l.length * esz E := Nat.mul_le_mul_right _ (by omega)
          rw [Nat.add_mul] at this
          omega
        refine .ps E _ _ _ (fun k => c (i * esz E + k)) (by rw [hlen]; omega) (by rw [hlen]; omega) (.inr ⟨b, off + i * esz E, rfl, ?_, ?_⟩) ?_ ?_
        · rw [hlen]
          have : (i + (j - i)) * esz E ≤ l.length * esz E := Nat.mul_le_mul_right _ (by omega)
          rw [Nat.add_mul] at this
          omega
        · intro k hk; rw [hlen] at hk; rw [Nat.add_assoc]; exact hcell _ (hm k hk)
        · intro k hk; rw [hlen] at hk; exact h1 _ (hm k hk)
        · intro k hk m hm'
          rw [hlen] at hk
          have := hr' (i + k) (by omega) m hm'
          have e1 : ((l.take j).drop i).getD k (elDef E) = l.getD (i + k) (elDef E) := by
            simp [List.getD_eq_getElem?_getD, List.getElem?_drop, show i + k < j by omega]
          rw [e1]
          have e2 : i * esz E + (k * esz E + m) = (i + k) * esz E + m := by rw [Nat.add_mul]; omega
          rw [e2]; exact this
theorem qSlice_sound {T : Tab} (hT : TabOK P T) {s : AS} {ρ : Operand → Value} {t : Nat} {x : Value} {v : AV} {lo hi : Option Operand} (h : Rep U ν γ w x v)
    (hlo : ∀ y, lo = some y → Rep U ν γ w (ρ y) (s.rd y)) (hhi : ∀ y, hi = some y → Rep U ν γ w (ρ y) (s.rd y)) {O r} (hq : qSlice (T t) s v lo hi = some (O, r)) (hO : ∀ p, O = some p → p) :
    ∃ y, (Instr.sliceAt t x (lo.map ρ) (hi.map ρ) none).run P w = .ok y w ∧ Rep U ν γ w y r := by
  have hTt := hT t
  unfold qSlice at hq
  split at hq
  · rename_i b heq
    rw [heq] at hTt
    obtain ⟨i, -, -, -, hu⟩ := hTt
    split at hq
    · rename_i l hh el eh
      simp only [Option.some.injEq, Prod.mk.injEq] at hq
      obtain ⟨rfl, rfl⟩ := hq
      have hO' := hO _ rfl
      rw [rep_str h]
      have hb := run_sliceBounds (P := P) (sl := false) (cap := b.length) hlo hhi el eh hO' (Nat.le_refl _)
      refine ⟨.string ((ByteArray.mk b.toArray).extract l.toNat hh.toNat), ?_, ?_⟩
      · simp [Instr.sliceAt, Instr.slice, run_underlying' hu, bs_size, hb]
      · have e : (ByteArray.mk b.toArray).extract l.toNat hh.toNat = ⟨((b.take hh.toNat).drop l.toNat).toArray⟩ := by
          apply ByteArray.ext
          simp [ByteArray.data_extract, List.extract_toArray, List.drop_take]
        rw [e]; exact .str _ (by have := rep_str_le h; simp only [List.length_drop, List.length_take]; omega)
    · cases hq
  · rename_i E' E b heq
    rw [heq] at hTt
    obtain ⟨i, e, ei, z, -, -, -, hu, hei, hes, -⟩ := hTt
    split at hq
    · rename_i l hh hd el eh
      have hE := of_decide_eq_true hd
      subst hE
      simp only [Option.some.injEq, Prod.mk.injEq] at hq
      obtain ⟨rfl, rfl⟩ := hq
      have hO' := hO _ rfl
      have h0 := h
      cases h with
      | ps _ _ a cap c hM hc ha h1 hr =>
        have hb := run_sliceBounds (P := P) (sl := true) (cap := cap) hlo hhi el eh hO' hc
        refine ⟨_, ?_, rep_subslice h0 (i := l.toNat) (j := hh.toNat) (by omega) (by omega)⟩
        simp [Instr.sliceAt, Instr.slice, run_underlying' hu, hb, run_sizeOf hei, hes]
    · cases hq
  · cases hq
theorem qConv_sound {T : Tab} (hT : TabOK P T) {B : Base} {L : Locs} (hL : LocsOK B U ν γ w L) {src dst : Nat} {x : Value} {v : AV} (h : Rep U ν γ w x v) {O r} (hq : qConv L (T src) (T dst) v = some (O, r)) (hO : ∀ p, O = some p → p) :
    ∃ y, (convert src dst x).run P w = .ok y w ∧ Rep U ν γ w y r := by
  have hs := hT src
  have hd := hT dst
  unfold qConv at hq
  split at hq
  · rename_i k' k n es ed
    rw [es] at hs; rw [ed] at hd
    obtain ⟨-, -, -, -, hus⟩ := hs
    obtain ⟨-, -, -, -, hud⟩ := hd
    simp only [Option.some.injEq, Prod.mk.injEq] at hq
    obtain ⟨rfl, rfl⟩ := hq
    rw [rep_int h]
    refine ⟨_, ?_, .int _ _⟩
    simp [convert, run_underlying' hus, run_underlying' hud, Conv.intToInt, inK_wrap (k := .i64) (hO _ rfl)]
  · rename_i k' k n es ed
    rw [es] at hs; rw [ed] at hd
    obtain ⟨-, -, -, -, hus⟩ := hs
    obtain ⟨-, -, -, -, hud⟩ := hd
    simp only [Option.some.injEq, Prod.mk.injEq] at hq
    obtain ⟨rfl, rfl⟩ := hq
    rw [rep_int h]
    refine ⟨_, ?_, .int _ _⟩
    simp [convert, run_underlying' hus, run_underlying' hud, Conv.intToInt, inK_wrap (k := .u8) (hO _ rfl)]
  · rename_i k' k n es ed
    rw [es] at hs; rw [ed] at hd
    obtain ⟨-, -, -, -, hus⟩ := hs
    obtain ⟨-, -, -, -, hud⟩ := hd
    simp only [Option.some.injEq, Prod.mk.injEq] at hq
    obtain ⟨rfl, rfl⟩ := hq
    rw [rep_int h]
    refine ⟨_, ?_, .int _ _⟩
    simp [convert, run_underlying' hus, run_underlying' hud, Conv.intToInt, inK_wrap (k := .u64) (hO _ rfl)]
  · rename_i es ed
    rw [es] at hs; rw [ed] at hd
    obtain ⟨i, e, ei, z, -, -, -, hus, hei, hes, -, -, -, -, -, -, hu8⟩ := hs
    obtain ⟨-, -, -, -, hud⟩ := hd
    split at hq
    · rename_i l hr
      simp only [Option.some.injEq, Prod.mk.injEq] at hq
      obtain ⟨rfl, rfl⟩ := hq
      have hsl := rdSl_sound hL h hr
      have hmx := hsl.mx
      obtain ⟨a, cap, rfl, hc, hsl⟩ := hsl.out
      have hue := hu8 rfl
      refine ⟨.string ⟨(l.map fun n => UInt8.ofNat n.toNat).toArray⟩, ?_, .str _ (by simpa using hmx)⟩
      rcases hsl with rfl | ⟨b, off, c, rfl, hcell, -, hrep⟩
      · rw [run_convert_bytes_string w src dst e _ _ _ hus hue hud]
        cases a with
        | none => simp [Conv.bytesToString]; rfl
        | some a =>
          have := run_bytesToString (P := P) w a 0 cap [] (by simp [loadCells, loadCellsFrom])
          exact this
      · have := run_convert_bytes_arg (P := P) w src e hus hue b off l.length cap l rfl (fun i hi => by
          rw [hcell i (by simpa [esz] using hi)]
          have := hrep i hi 0 (by decide)
          simp only [esz, Nat.mul_one, Nat.add_zero] at this
          have h2 := rep_int (k := .u8) (n := l.getD i (0 : Int)) this
          exact congrArg some h2) dst hud
        exact this
    · cases hq
  · cases hq
theorem qIdx_sound {T : Tab} (hT : TabOK P T) {B : Base} {s : AS} (hL : LocsOK B U ν γ w s.locs) {t : Nat} {x y : Value} {v : AV} {k : IntKind} {n : Int} (hy : Rep U ν γ w y (.int k n)) (h : Rep U ν γ w x v) {O r} (hq : qIdx T s t n v = some (O, r)) (hO : ∀ p, O = some p → p) :
    ∃ z, (Instr.indexAt t x y).run P w = .ok z w ∧ Rep U ν γ w z r := by
  have hTt := hT t
  rw [rep_int hy]
  have key : ∀ {E e ei} {a : Option Addr} {b o len cap : Nat}, P.underlying t = some (.slice e) → P.info? e = some ei → ei.size = esz E → a = some ⟨b, o, none⟩ → 0 ≤ n → n < (len : Int) →
      (Instr.indexAt t (.slice a len cap) (.int k n)).run P w = .ok (.pointer (some ⟨b, o + n.toNat * esz E, none⟩)) w := by
    intro E e ei a b o len cap hu hei hes ha h0 h1
    subst ha
    simp [Instr.indexAt, asIntOf, run_underlying' hu, h0, h1, run_sizeOf hei, hes, Addr.add_off]
  have of_slice : ∀ {E} {l : List (ElT E)} {X : Value}, T t = .sl E → Rep U ν γ w X (.ps E l) → 0 ≤ n ∧ n < (l.length : Int) → ∃ z, (Instr.indexAt t X (.int k n)).run P w = .ok z w ∧ Rep U ν γ w z (.ep E l n 0) := by
    intro E l X hE hr hn
    rw [hE] at hTt
    obtain ⟨i, e, ei, z, -, -, -, hu, hei, hes, -⟩ := hTt
    obtain ⟨a, cap, c, rfl, hM, hc, ha, h1, hr'⟩ := rep_ps hr
    rcases ha with rfl | ⟨b, off, rfl, -, -⟩
    · simp at hn; omega
    · exact ⟨_, key hu hei hes rfl hn.1 hn.2, .ep E l n 0 b off _ _ hr hn.1 hn.2⟩
  unfold qIdx at hq
  split at hq
  · rename_i E l
    split at hq
    · rename_i E' hE
      split at hq
      · rename_i hd
        have := of_decide_eq_true hd; subst this
        simp only [Option.some.injEq, Prod.mk.injEq] at hq
        obtain ⟨rfl, rfl⟩ := hq
        exact of_slice hE h (hO _ rfl)
      · cases hq
    · cases hq
  · rename_i id
    split at hq
    · rename_i E l E' hid hE
      split at hq
      · rename_i hd
        have := of_decide_eq_true hd; subst this
        simp only [Option.some.injEq, Prod.mk.injEq] at hq
        obtain ⟨rfl, rfl⟩ := hq
        have hn := hO _ rfl
        rw [hE] at hTt
        obtain ⟨i, e, ei, z, -, -, -, hu, hei, hes, -⟩ := hTt
        obtain ⟨a, cap, hν, hMX, hc, harr⟩ := hL.ok _ _ hid
        cases h with
        | ls _ hu' ho =>
          rcases harr with hz | ⟨b, xs, rfl, -⟩
          · exfalso; omega
          · rw [hν]
            refine ⟨_, key hu hei hes rfl hn.1 hn.2, ?_⟩
            rw [Nat.zero_add]
            exact .ap E' id n 0 b l.length cap hu' hν hn.1 hn.2
      · cases hq
    · rename_i E l E' hid hE
      split at hq
      · rename_i hd
        have := of_decide_eq_true hd; subst this
        simp only [Option.some.injEq, Prod.mk.injEq] at hq
        obtain ⟨rfl, rfl⟩ := hq
        have hn := hO _ rfl
        cases h with
        | ls _ hu' ho => exact of_slice hE (hL.ok _ _ hid) hn
      · cases hq
    · rename_i E l E' hid hE
      split at hq
      · rename_i hd
        have := of_decide_eq_true hd; subst this
        simp only [Option.some.injEq, Prod.mk.injEq] at hq
        obtain ⟨rfl, rfl⟩ := hq
        have hn := hO _ rfl
        rw [hE] at hTt
        obtain ⟨i, e, ei, z, -, -, -, hu, hei, hes, -⟩ := hTt
        obtain ⟨a, cap, hν, hMX, hc, harr⟩ := (hL.ok _ _ hid).tree_arr
        cases h with
        | ls _ hu' ho =>
          rcases harr with hz | ⟨b, xs, rfl, -⟩
          · exfalso; omega
          · rw [hν]
            refine ⟨_, key hu hei hes rfl hn.1 hn.2, ?_⟩
            rw [Nat.zero_add]
            exact .ap E' id n 0 b l.length cap hu' hν hn.1 hn.2
      · cases hq
    · cases hq
  · cases hq
theorem qLen_sound {T : Tab} (hT : TabOK P T) {B : Base} {L : Locs} (hL : LocsOK B U ν γ w L) {t ty : Nat} {x : Value} {v : AV} (h : Rep U ν γ w x v) {O r} (hq : qLen L (T t) v = some (O, r)) :
    O = none ∧ ∃ y, (Builtin.len_ #[t] ty #[x]).run P w = .ok y w ∧ Rep U ν γ w y r := by
  have hTt := hT t
  unfold qLen at hq
  split at hq
  · rename_i b heq
    rw [heq] at hTt
    obtain ⟨i, -, -, -, hu⟩ := hTt
    simp only [Option.some.injEq, Prod.mk.injEq] at hq
    obtain ⟨rfl, rfl⟩ := hq
    rw [rep_str h]
    refine ⟨rfl, _, ?_, .int _ _⟩
    simp [Builtin.len_, run_underlying' hu, goInt, bs_size]
  · rename_i E heq
    rw [heq] at hTt
    obtain ⟨i, e, ei, z, -, -, -, hu, -⟩ := hTt
    split at hq
    · rename_i E' l hr
      simp only [Option.some.injEq, Prod.mk.injEq] at hq
      obtain ⟨rfl, rfl⟩ := hq
      obtain ⟨a, cap, rfl, -⟩ := (rdSl_sound hL h hr).out
      refine ⟨rfl, _, ?_, .int _ _⟩
      simp [Builtin.len_, run_underlying' hu, goInt]
    · cases hq
  · cases hq
theorem rep_cap {xs : Array Operand} {s : AS} {ρ : Operand → Value} (h : ∀ x ∈ xs.toList, Rep U ν γ w (ρ x) (s.rd x)) :
    ∀ i, i < (xs.toList.map s.rd).length → Rep U ν γ w ((xs.toList.map ρ).getD i undef) ((xs.toList.map s.rd).getD i .opq) := by
  intro i hi
  have hi' : i < xs.toList.length := by simpa using hi
  have := h _ (List.getElem_mem hi')
  simpa [List.getD_eq_getElem?_getD, List.getElem?_eq_getElem hi'] using this
theorem neg_wrap {n : Int} (h : inK .i64 n) : IntKind.i64.wrap (0 - n) = if n = -9223372036854775808 then n else -n := by
  simp only [inK] at h
  split
  · rename_i e; subst e; decide
  · rw [inK_wrap (k := .i64) (by simp only [inK]; omega)]; omega
theorem part_sound {t : Nat} {ti : TI} (hT : TIOK P t ti) {cs : List AV} {off : Nat} {O v} (hq : loadR ti cs off = some (O, v)) (xs : List Value) (hl : xs.length = cs.length)
    (hr : ∀ k, k < cs.length → Rep U ν γ w (xs.getD k undef) (cs.getD k .opq)) (h1 : ∀ x ∈ xs, x.oneCell' = true) :
    O = none ∧ ∃ x, (part t xs.toArray off).run P w = .ok x w ∧ Rep U ν γ w x v := by
  have one : ∀ d, P.underlying t = some d → d.isRow = false → (match cs.drop off with | v :: _ => some ((none : Option Prop), v) | [] => none) = some (O, v) →
      O = none ∧ ∃ x, (part t xs.toArray off).run P w = .ok x w ∧ Rep U ν γ w x v := by
    intro d hd hrow hq
    split at hq
    · rename_i v' r hdrop
      simp only [Option.some.injEq, Prod.mk.injEq] at hq
      obtain ⟨rfl, rfl⟩ := hq
      obtain ⟨hlt, hg⟩ := drop_cons hdrop
      refine ⟨rfl, xs.getD off undef, ?_, by have := hr off hlt; rwa [hg] at this⟩
      have hagg : (isAgg t).run P w = .ok false w := by
        simp [isAgg, run_underlying' hd]
        cases d <;> simp_all [TypeDesc.isRow]
      have hlx : off < xs.length := by omega
      simp [part, hagg, hlx, List.getD_eq_getElem?_getD]
    · cases hq
  cases ti with
  | st fs z =>
    obtain ⟨i, fields, zs, hi, hs, -, -, -, -, hu, -, -⟩ := hT
    simp only [loadR, seqV_eq] at hq
    split at hq
    · rename_i hlen
      simp only [Option.some.injEq, Prod.mk.injEq] at hq
      obtain ⟨rfl, rfl⟩ := hq
      have hlen' : (cutC cs off z.length).length = z.length := Nat.eq_of_beq_eq_true hlen
      have hagg : (isAgg t).run P w = .ok true w := by simp [isAgg, run_underlying' hu]
      refine ⟨rfl, .agg ((xs.drop off).take z.length).toArray, ?_, ?_⟩
      · simp only [part, Sem.run_bind, hagg, Result.andThen_ok, if_true, run_sizeOf hi, Sem.run_pure, hs]
        congr 2
        simp [List.extract_toArray]
      · refine .st _ _ ?_ ?_ ?_
        · simp only [cutC, List.length_take, List.length_drop, hl]
        · intro x hx; exact h1 x (List.mem_of_mem_drop (List.mem_of_mem_take hx))
        · intro k hk
          rw [hlen'] at hk
          have hk2 : off + k < cs.length := by simp only [cutC, List.length_take, List.length_drop] at hlen'; omega
          have := hr (off + k) hk2
          have e1 : ((xs.drop off).take z.length).getD k undef = xs.getD (off + k) undef := by
            simp [List.getD_eq_getElem?_getD, hk, List.getElem?_drop]
          have e2 : (cutC cs off z.length).getD k .opq = cs.getD (off + k) .opq := by
            simp [cutC, List.getD_eq_getElem?_getD, hk, List.getElem?_drop]
          rw [e1, e2]; exact this
    · cases hq
  | other => simp [loadR] at hq
  | mp => obtain ⟨i, kt, et, -, -, hu, -⟩ := hT; exact one _ hu rfl hq
  | ifc => obtain ⟨i, ms, -, -, hu⟩ := hT; exact one _ hu rfl hq
  | int k => obtain ⟨i, -, -, -, hu⟩ := hT; exact one _ hu rfl hq
  | bool => obtain ⟨i, -, -, -, hu⟩ := hT; exact one _ hu rfl hq
  | str => obtain ⟨i, -, -, -, hu⟩ := hT; exact one _ hu rfl hq
  | sl E => obtain ⟨i, e, ei, z, -, -, -, hu, -⟩ := hT; exact one _ hu rfl hq
  | ptr => obtain ⟨i, e, -, -, hu⟩ := hT; exact one _ hu rfl hq
  | fn => obtain ⟨i, a, b, c, -, -, hu⟩ := hT; exact one _ hu rfl hq
theorem qval_sound {T : Tab} (hT : TabOK P T) {B : Base} {s : AS} (hL : LocsOK B U ν γ w s.locs) {o : Oper} {O v} (hq : qval T s o = some (O, v)) (hO : ∀ p, O = some p → p) {ρ : Operand → Value}
    (hR : Readable U ν γ w s ρ o.op) : ∃ x, (execOp ρ o).run P w = .ok (.value x) w ∧ Rep U ν γ w x v := by
  obtain ⟨dst, op, type, pos, after, guard⟩ := o
  unfold qval at hq
  simp only at hq hR
  split at hq
  · -- move
    simp only [Option.some.injEq, Prod.mk.injEq] at hq; obtain ⟨rfl, rfl⟩ := hq
    rename_i x
    exact ⟨ρ x, rfl, rep_fixT (hR x (by simp [Op.operands])) _⟩
  · -- assign
    simp only [Option.some.injEq, Prod.mk.injEq] at hq; obtain ⟨rfl, rfl⟩ := hq
    rename_i x
    exact ⟨ρ x, rfl, rep_fixT (hR x (by simp [Op.operands])) _⟩
  · -- pick
    rename_i c a b
    obtain ⟨hc, ha, hb⟩ := hR
    split at hq
    · rename_i c' a' b' ec ea eb
      rw [ec] at hc; rw [ea] at ha; rw [eb] at hb
      have hc' := rep_bool hc
      have hx : ∃ x, (execOp ρ ⟨dst, .pick c a b, type, pos, after, guard⟩).run P w = .ok (.value x) w ∧ x = .bool (cond c' a' b') := by
        cases c'
        · have h2 := rep_bool (hb hc')
          exact ⟨ρ b, by simp [execOp, hc', asBool], h2⟩
        · have h2 := rep_bool (ha hc')
          exact ⟨ρ a, by simp [execOp, hc', asBool], h2⟩
      obtain ⟨x, hx, rfl⟩ := hx
      split at hq
      · rename_i hta
        simp only [Option.some.injEq, Prod.mk.injEq] at hq; obtain ⟨rfl, rfl⟩ := hq
        have : a' = true := by
          unfold isTrue at hta
          split at hta
          · simp [AS.rd, ofConst] at ea; exact ea
          · cases hta
        subst this
        refine ⟨_, hx, ?_⟩
        have e : cond c' true b' = (c' || b') := by cases c' <;> rfl
        rw [e]; exact .bool _
      · split at hq
        · rename_i hfb
          simp only [Option.some.injEq, Prod.mk.injEq] at hq; obtain ⟨rfl, rfl⟩ := hq
          have : b' = false := by
            unfold isFalse at hfb
            split at hfb
            · simp [AS.rd, ofConst] at eb; exact eb
            · cases hfb
          subst this
          refine ⟨_, hx, ?_⟩
          have e : cond c' a' false = (c' && a') := by cases c' <;> rfl
          rw [e]; exact .bool _
        · simp only [Option.some.injEq, Prod.mk.injEq] at hq; obtain ⟨rfl, rfl⟩ := hq
          exact ⟨_, hx, .bool _⟩
    · cases hq
  · -- nilCheck
    rename_i x
    have hx := hR x (by simp [Op.operands])
    split at hq
    · rename_i id off e
      rw [e] at hx
      simp only [Option.some.injEq, Prod.mk.injEq] at hq; obtain ⟨rfl, rfl⟩ := hq
      refine ⟨ρ x, ?_, hx⟩
      simp only [execOp]
      generalize ρ x = X at hx ⊢
      cases hx
      rfl
    · rename_i E id i off e
      rw [e] at hx
      simp only [Option.some.injEq, Prod.mk.injEq] at hq; obtain ⟨rfl, rfl⟩ := hq
      refine ⟨ρ x, ?_, hx⟩
      simp only [execOp]
      generalize ρ x = X at hx ⊢
      cases hx
      rfl
    · rename_i E l i off e
      rw [e] at hx
      simp only [Option.some.injEq, Prod.mk.injEq] at hq; obtain ⟨rfl, rfl⟩ := hq
      refine ⟨ρ x, ?_, hx⟩
      simp only [execOp]
      generalize ρ x = X at hx ⊢
      cases hx
      rfl
    · cases hq
  · -- binOp
    rename_i op t x y yt
    have hx := hR x (by simp [Op.operands])
    have hy := hR y (by simp [Op.operands])
    split at hq
    · rename_i r0 hq0
      cases hq
      obtain ⟨r, hr, hrr⟩ := qBin_sound (P := P) T hT hq0 hO hx hy
      refine ⟨r, ?_, hrr⟩
      refine run_v _ ?_
      rw [Sem.run_bind, eqGuard_ok hx hy hq0]
      exact hr
    · obtain ⟨r, hr, hrr⟩ := qIfc_sound (P := P) hT hq hx hy
      exact ⟨r, run_v _ hr, hrr⟩
  · -- not
    rename_i x y
    have hx := hR y (by simp [Op.operands])
    split at hq
    · rename_i b e
      rw [e] at hx
      simp only [Option.some.injEq, Prod.mk.injEq] at hq; obtain ⟨rfl, rfl⟩ := hq
      refine ⟨.bool (!b), ?_, .bool _⟩
      refine run_v _ ?_
      simp [rep_bool hx, Op.unary]
    · cases hq
  · -- neg
    rename_i x y
    have hx := hR y (by simp [Op.operands])
    split at hq
    · rename_i n e
      rw [e] at hx
      simp only [Option.some.injEq, Prod.mk.injEq] at hq; obtain ⟨rfl, rfl⟩ := hq
      refine ⟨_, run_v _ ?_, .int _ _⟩
      simp only [rep_int hx, Op.unary, Op.intArith, Sem.run_pure, Result.ok.injEq, and_true, Value.int.injEq, true_and]
      have := hO _ rfl
      exact neg_wrap this
    · cases hq
  · -- convert
    rename_i src dst x
    obtain ⟨y, h1, h2⟩ := qConv_sound (P := P) hT hL (hR x (by simp [Op.operands])) hq hO
    exact ⟨y, run_v _ h1, h2⟩
  · -- makeFunc
    rename_i fn first caps
    split at hq
    case h_2 => cases hq
    rename_i f ef
    have hf0 : first = #[] := by simpa using ef
    subst hf0
    simp only [Option.some.injEq, Prod.mk.injEq] at hq; obtain ⟨rfl, rfl⟩ := hq
    refine ⟨.func (.func f) #[] (caps.map ρ), by simp [execOp, Instr.makeFunc], ?_⟩
    have := Rep.fn (U := U) (ν := ν) (γ := γ) (w := w) f (caps.toList.map s.rd) (caps.toList.map ρ) (by simp) (rep_cap (fun x hx => hR x (by simp [Op.operands] at hx ⊢; exact hx)))
    have e : (caps.toList.map ρ).toArray = caps.map ρ := by rw [← Array.toList_map, Array.toArray_toList]
    rw [← e]; exact this
  · -- slice
    rename_i t x lo hi
    obtain ⟨y, h1, h2⟩ := qSlice_sound (P := P) hT (hR x (by simp [Op.operands])) (fun y hy => hR y (by subst hy; simp [Op.operands])) (fun y hy => hR y (by subst hy; simp [Op.operands])) hq hO
    exact ⟨y, run_v _ h1, h2⟩
  · -- fieldAddr
    rename_i t x f
    split at hq
    · rename_i fs z ht
      have hTt := hT t
      rw [ht] at hTt
      obtain ⟨-, y, h1, h2⟩ := qField_sound (P := P) hTt (hR x (by simp [Op.operands])) hq
      exact ⟨y, run_v _ h1, h2⟩
    · cases hq
  · -- field
    rename_i t x f
    have hx := hR x (by simp [Op.operands])
    split at hq
    · rename_i fs z cs ht e
      rw [e] at hx
      have hTt := hT t
      rw [ht] at hTt
      split at hq
      · rename_i off ty rest hd
        obtain ⟨_, fields, zs, -, -, -, -, -, -, hu, hfs, hsz⟩ := hTt
        obtain ⟨hlt, hg⟩ := drop_cons hd
        rw [hfs] at hlt hg
        have hlt' : f < fields.size := by simpa using hlt
        have hg' := hg (0, 0)
        simp [List.getD_eq_getElem?_getD, hlt'] at hg'
        generalize hX : ρ x = X at hx
        cases hx with
        | st xs _ hl h1 hr =>
          obtain ⟨-, y, hy1, hy2⟩ := part_sound (P := P) (hT ty) hq xs hl hr h1
          refine ⟨y, run_v _ ?_, hy2⟩
          simp only [hX, Instr.field, Sem.run_bind, run_underlying' hu, Result.andThen_ok, Array.getElem?_eq_getElem hlt', asAgg, Sem.run_pure, hg'.1, hg'.2]
          exact hy1
      · cases hq
    · cases hq
  · -- indexAddr
    rename_i t x i
    have hx := hR x (by simp [Op.operands])
    have hi := hR i (by simp [Op.operands])
    split at hq
    · rename_i k n e
      rw [e] at hi
      obtain ⟨y, h1, h2⟩ := qIdx_sound (P := P) hT hL hi hx hq hO
      exact ⟨y, run_v _ h1, h2⟩
    · cases hq
  · -- index
    rename_i t x i
    have hx := hR x (by simp [Op.operands])
    have hi := hR i (by simp [Op.operands])
    split at hq
    · rename_i k n b ht ei ex
      rw [ei] at hi; rw [ex] at hx
      have hTt := hT t
      rw [ht] at hTt
      obtain ⟨_, -, -, -, hu⟩ := hTt
      simp only [Option.some.injEq, Prod.mk.injEq] at hq; obtain ⟨rfl, rfl⟩ := hq
      obtain ⟨h0, h1⟩ := hO _ rfl
      refine ⟨_, run_v _ ?_, .int _ _⟩
      rw [rep_int hi, rep_str hx]
      obtain ⟨m, rfl⟩ := Int.eq_ofNat_of_zero_le h0
      have hm : m < b.length := by omega
      have hg : (ByteArray.mk b.toArray)[m]? = some (b.getD m 0) := by
        rw [ByteArray.getElem?_lt' (ByteArray.mk b.toArray) m (by rw [bs_size]; exact hm)]
        have e : b.getD m 0 = b[m] := by simp [List.getD_eq_getElem?_getD, hm]
        rw [e]; rfl
      simp only [Instr.index, asIntOf, Sem.run_bind, Sem.run_pure, Result.andThen_ok, run_underlying' hu, h0, if_true, Int.toNat_natCast, hg]
    · cases hq
  · -- extract
    rename_i t i
    have ht := hR t (by simp [Op.operands])
    split at hq
    · rename_i l e
      rw [e] at ht
      split at hq
      · rename_i v' r hd
        simp only [Option.some.injEq, Prod.mk.injEq] at hq; obtain ⟨rfl, rfl⟩ := hq
        obtain ⟨hlt, hg⟩ := drop_cons hd
        generalize hX : ρ t = X at ht
        cases ht with
        | tup xs cs hl h =>
          have h1 := h i hlt
          rw [hg] at h1
          refine ⟨xs.getD i undef, run_v _ ?_, h1⟩
          have hlx : i < xs.length := by omega
          simp [hX, Instr.extract, List.getD_eq_getElem?_getD, hlx]
      · cases hq
    · cases hq
  · -- load
    rename_i t x
    obtain ⟨-, y, h1, h2⟩ := qLoad_sound (P := P) hL (hT t) (hR x (by simp [Op.operands])) hq
    exact ⟨y, run_v _ h1, h2⟩
  · -- build
    rename_i t parts
    split at hq
    · rename_i fs z ht
      simp only [seqL_eq] at hq
      split at hq
      · rename_i cs hb
        simp only [Option.some.injEq, Prod.mk.injEq] at hq; obtain ⟨rfl, rfl⟩ := hq
        obtain ⟨y, h1, h2⟩ := qBuild_sound (P := P) (U := U) (ν := ν) (γ := γ) (w := w) hT ht hb ρ (fun p hp => hR p.2 (by simp [Op.operands]; exact ⟨p.1, by simpa using hp⟩))
        refine ⟨y, run_v _ ?_, h2⟩
        simpa using h1
      · cases hq
    · cases hq
  · -- call
    rename_i c
    obtain ⟨callee, args, ats⟩ := c
    simp only at hq
    split at hq
    · split at hq
      · rename_i x t ex et
        have hargs : args = #[x] := by simpa using congrArg List.toArray ex
        have hats : ats = #[t] := by simpa using congrArg List.toArray et
        subst hargs; subst hats
        have hx := hR x (by simp [Op.operands, Call.operands])
        obtain ⟨-, y, h1, h2⟩ := qLen_sound (P := P) (ty := type) hT hL hx hq
        refine ⟨y, ?_, h2⟩
        simp [execOp, resolve, invoke, builtin, h1]
      · cases hq
    · split at hq
      · rename_i x t ex et
        have hargs : args = #[x] := by simpa using congrArg List.toArray ex
        have hats : ats = #[t] := by simpa using congrArg List.toArray et
        subst hargs; subst hats
        have hx := hR x (by simp [Op.operands, Call.operands])
        split at hq
        · rename_i E E' et2 ex2
          rw [ex2] at hx
          simp only [Option.some.injEq, Prod.mk.injEq] at hq; obtain ⟨rfl, rfl⟩ := hq
          have hTt := hT t
          rw [et2] at hTt
          obtain ⟨i, e, ei, z, -, -, -, hu, -⟩ := hTt
          have hx0 : ρ x = .slice none 0 0 := by generalize ρ x = y at hx; cases hx; rfl
          refine ⟨_, ?_, .int _ _⟩
          simp [execOp, resolve, invoke, builtin, hx0, Builtin.cap_, run_underlying' hu, goInt]
          try rfl
        · cases hq
      · cases hq
    · split at hq
      · rename_i x y ex
        have hargs : args = #[x, y] := by simpa using congrArg List.toArray ex
        subst hargs
        have hx := hR x (by simp [Op.operands, Call.operands])
        have hy := hR y (by simp [Op.operands, Call.operands])
        split at hq
        · rename_i a b ea eb
          rw [ea] at hx; rw [eb] at hy
          simp only [Option.some.injEq, Prod.mk.injEq] at hq; obtain ⟨rfl, rfl⟩ := hq
          refine ⟨_, ?_, .int _ _⟩
          simp [execOp, resolve, invoke, builtin, rep_int hx, rep_int hy, Builtin.max_, Builtin.max2]
        · cases hq
      · cases hq
    · split at hq
      · rename_i x y ex
        have hargs : args = #[x, y] := by simpa using congrArg List.toArray ex
        subst hargs
        have hx := hR x (by simp [Op.operands, Call.operands])
        have hy := hR y (by simp [Op.operands, Call.operands])
        split at hq
        · rename_i a b ea eb
          rw [ea] at hx; rw [eb] at hy
          simp only [Option.some.injEq, Prod.mk.injEq] at hq; obtain ⟨rfl, rfl⟩ := hq
          refine ⟨_, ?_, .int _ _⟩
          simp [execOp, resolve, invoke, builtin, rep_int hx, rep_int hy, Builtin.min_, Builtin.min2]
        · cases hq
      · cases hq
    · cases hq
  · -- lookup
    rename_i t m k
    have hm := hR m (by simp [Op.operands])
    have hk := hR k (by simp [Op.operands])
    split at hq
    · rename_i id b et em ek
      rw [em] at hm; rw [ek] at hk
      split at hq
      · rename_i l hl
        simp only [Option.some.injEq, Prod.mk.injEq] at hq; obtain ⟨rfl, rfl⟩ := hq
        have hti := hT t
        rw [et] at hti
        obtain ⟨i, kt, et', -, -, hu, hks, hes, hz⟩ := hti
        obtain ⟨hM, b', es, ck, hν, -, -, hb, hi⟩ := hL.ok _ _ hl
        have hs := rep_str_le hk
        have hkv := rep_str hk
        refine ⟨_, ?_, .int _ _⟩
        have hmv : ρ m = .map (some b') := by
          generalize ρ m = X at hm ⊢
          cases hm
          exact hν
        have := map_look (w := w) hu hks hes hz hb hi hM hs
        simp only [execOp, hmv, hkv]
        exact run_v _ this
      · cases hq
    · cases hq
  · cases hq
end Go.Rs
end
section
namespace Go.Rs
variable {P : Program} {B : Base} {U U' U'' : Nat → Bool} {ν ν' ν'' : Nat → Value} {γ γ' γ'' : Nat → Nat} {w w' w'' : World} {L L' L'' : Locs}
theorem Row.lt {b : Nat} {xs} (h : Row B γ w b xs) : b < w.heap.size := by
  obtain ⟨-, -, -, T, hb⟩ := h
  rcases Nat.lt_or_ge b w.heap.size with h | h
  · exact h
  · rw [Array.getElem?_eq_none h] at hb; cases hb
theorem Row.keep {b : Nat} {xs} (h : Row B γ w b xs) (hb : w'.heap[b]? = w.heap[b]?) (hg : γ' b = γ b) : Row B γ' w' b xs := by
  obtain ⟨h1, h2, h3, T, h4⟩ := h
  exact ⟨h1, by rw [hg, h2], h3, T, by rw [hb, h4]⟩
structure Step (B : Base) (U : Nat → Bool) (ν : Nat → Value) (γ : Nat → Nat) (w : World) (U' : Nat → Bool) (ν' : Nat → Value) (γ' : Nat → Nat) (w' : World) (L' : Locs) : Prop where
  mem : Mem B γ' w'
  locs : LocsOK B U' ν' γ' w' L'
  keeps : Keeps γ w γ' w'
  used : ∀ id, U id = true → U' id = true
  names : ∀ id, U id = true → ν' id = ν id
theorem Step.refl (hm : Mem B γ w) (hl : LocsOK B U ν γ w L) : Step B U ν γ w U ν γ w L := ⟨hm, hl, .refl _ _, fun _ h => h, fun _ _ => rfl⟩
theorem Step.trans {L1 L2} (h : Step B U ν γ w U' ν' γ' w' L1) (h' : Step B U' ν' γ' w' U'' ν'' γ'' w'' L2) : Step B U ν γ w U'' ν'' γ'' w'' L2 :=
  ⟨h'.mem, h'.locs, h.keeps.trans h'.keeps, fun id hi => h'.used id (h.used id hi), fun id hi => (h'.names id (h.used id hi)).trans (h.names id hi)⟩
theorem Step.rep {x v} (h : Step B U ν γ w U' ν' γ' w' L') (hr : Rep U ν γ w x v) : Rep U' ν' γ' w' x v := hr.keep h.keeps h.used h.names
theorem cell_eq {b o : Nat} (h : w'.heap[b]? = w.heap[b]?) : w'.cell? ⟨b, o, none⟩ = w.cell? ⟨b, o, none⟩ := by
  simp only [World.cell?, h]
theorem BX.keep {b x} (h : BX w b x) (hb : w'.heap[b]? = w.heap[b]?) : BX w' b x := ⟨h.1, by simp only [World.shape?, hb]; exact h.2⟩
theorem BN.keep {b' b} (h : BN w b' b) (hb : w'.heap[b']? = w.heap[b']?) : BN w' b' b := ⟨h.1, by simp only [World.shape?, hb]; exact h.2⟩
theorem LocOK.tree_deep {id E l} (h : LocOK B U ν γ w id (.tree E l)) : ∃ bs, Deep w (ν id) (.ps E l) bs := by
  obtain ⟨a, cap, e, hM, hc, h⟩ := h
  rw [e]
  by_cases h0 : l = []
  · subst h0; exact ⟨[], .nil E a cap⟩
  · rcases h with h | ⟨b, xs, bss, ea, hrow, hlen, hin⟩
    · exact absurd (List.length_eq_zero_iff.1 (by omega)) h0
    · subst ea
      obtain ⟨-, -, h1, T, hb⟩ := hrow
      exact ⟨_, .sl E l b cap xs T bss hM hc h0 hb hlen h1 hin.deep⟩
theorem Inner.keep {E : El} {l : List (ElT E)} {xs bss} (h : Inner B γ w E l xs bss) (hk : ∀ c ∈ inn (l.length * esz E) bss, w'.heap[c]? = w.heap[c]? ∧ γ' c = γ c) : Inner B γ' w' E l xs bss :=
  ⟨fun i hi j hj => (h.deep i hi j hj).keep fun c hc => (hk c (inn_mem.2 ⟨_, idx_lt hi hj, hc⟩)).1, h.nodup, fun c hc => ⟨(h.ok c hc).1, fun ys T fz hh => by rw [(hk c hc).2]; exact (h.ok c hc).2 ys T fz (by rw [← (hk c hc).1]; exact hh)⟩⟩
theorem Inner.owns {id : Nat} {E : El} {l : List (ElT E)} {b cap : Nat} {xs bss} (h : Inner B γ w E l xs bss) (e : ν id = .slice (some ⟨b, 0, none⟩) l.length cap) (hM : l.length ≤ MX) (hc : l.length ≤ cap) (hrow : Row B γ w b xs) (hlen : xs.length = cap * esz E) :
    ∀ c ∈ inn (l.length * esz E) bss, Owns ν w id (.tree E l) c := by
  intro c hcm
  obtain ⟨-, -, h1, T, hb⟩ := hrow
  refine .inr ⟨b :: inn (l.length * esz E) bss, ?_, List.mem_cons_of_mem _ hcm⟩
  rw [e]
  refine .sl E l b cap xs T bss hM hc ?_ hb hlen h1 h.deep
  rintro rfl
  simp [inn] at hcm
theorem LocOK.lt {id c b} (h : LocOK B U ν γ w id c) (ho : Owns ν w id c b) : b < w.heap.size := by
  cases c with
  | box cs => obtain ⟨b', xs, e, hr, -⟩ := h; rw [show ν id = _ from ho] at e; cases e; exact hr.lt
  | arr E l =>
    obtain ⟨a, cap, e, hM, hc, h⟩ := h
    obtain ⟨len, cap', e', hne⟩ := ho
    rw [e'] at e; cases e
    rcases h with h | ⟨b', xs, e2, hr, -⟩
    · exact absurd h hne
    · cases e2; exact hr.lt
  | frz E l => exact ho.elim
  | tree E l =>
    rcases ho with ⟨len, cap', e', hne⟩ | ⟨bs, hd, hb⟩
    · obtain ⟨a, cap, e, hM, hc, h⟩ := h.tree_arr
      rw [e'] at e; cases e
      rcases h with h | ⟨b', xs, e2, hr, -⟩
      · exact absurd h hne
      · cases e2; exact hr.lt
    · exact hd.lt hb
  | raw E l => obtain ⟨bs, hd, hb⟩ := ho; exact hd.lt hb
  | bld s =>
    obtain ⟨hM, b', x, v, e, hr, hx, a, cap, hv, hc, h⟩ := h
    rcases ho with ho | ⟨b0, len, cap', e0, hcell, hne⟩
    · rw [ho] at e; cases e; exact hr.lt
    · rw [e0] at e; cases e
      obtain ⟨-, -, -, T, hb⟩ := hr
      have := cell_row (k := 1) hb (by simp)
      rw [hcell] at this
      simp at this
      subst this
      cases hv
      rcases h with h | ⟨b'', xs, e2, -, hr2, -⟩
      · exact absurd h.1 hne
      · cases e2; exact hr2.lt
  | mp l =>
    obtain ⟨-, b', es, ck, e, -, -, hb, -⟩ := h
    rw [show ν id = _ from ho] at e; cases e
    exact (Array.getElem?_eq_some_iff.1 hb).1
theorem LocOK.keep {id c} (h : LocOK B U ν γ w id c) (hk : Keeps γ w γ' w') (hU : ∀ id, U id = true → U' id = true) (hν : ∀ id, U id = true → ν' id = ν id) (hid : U id = true)
    (hb : ∀ b, Owns ν w id c b → w'.heap[b]? = w.heap[b]? ∧ γ' b = γ b) : LocOK B U' ν' γ' w' id c := by
  cases c with
  | box cs =>
    obtain ⟨b, xs, e, hr, hl, hrep⟩ := h
    obtain ⟨h1, h2⟩ := hb b e
    exact ⟨b, xs, (hν id hid).trans e, hr.keep h1 h2, hl, fun i hi => (hrep i hi).keep hk hU hν⟩
  | arr E l =>
    obtain ⟨a, cap, e, hM, hc, h⟩ := h
    refine ⟨a, cap, (hν id hid).trans e, hM, hc, ?_⟩
    rcases h with h | ⟨b, xs, e2, hr, hl, hrep⟩
    · exact .inl h
    · subst e2
      by_cases hz : cap = 0
      · exact .inl hz
      · obtain ⟨h1, h2⟩ := hb b ⟨_, _, e, hz⟩
        exact .inr ⟨b, xs, rfl, hr.keep h1 h2, hl, fun i hi j hj => (hrep i hi j hj).keep hk hU hν⟩
  | frz E l =>
    show Rep _ _ _ _ _ _
    rw [hν id hid]
    exact Rep.keep h hk hU hν
  | tree E l =>
    obtain ⟨a, cap, e, hM, hc, h⟩ := h
    refine ⟨a, cap, (hν id hid).trans e, hM, hc, ?_⟩
    rcases h with h | ⟨b, xs, bss, e2, hr, hl, hin⟩
    · exact .inl h
    · subst e2
      by_cases hz : cap = 0
      · exact .inl hz
      · have ht := hb b (.inl ⟨_, _, e, hz⟩)
        exact .inr ⟨b, xs, bss, rfl, hr.keep ht.1 ht.2, hl, hin.keep fun c hc' => hb c (hin.owns e hM hc hr hl c hc')⟩
  | raw E l =>
    obtain ⟨bs, hd, hn, hz⟩ := h
    refine ⟨bs, ?_, hn, fun c hc => ⟨(hz c hc).1, by rw [(hb c ⟨bs, hd, hc⟩).2]; exact (hz c hc).2⟩⟩
    rw [hν id hid]
    exact hd.keep fun c hc => (hb c ⟨bs, hd, hc⟩).1
  | bld s =>
    obtain ⟨hM, b, x, v, e, hr, hx, a, cap, hv, hc, h⟩ := h
    obtain ⟨h1, h2⟩ := hb b (.inl e)
    refine ⟨hM, b, x, v, (hν id hid).trans e, hr.keep h1 h2, hx.keep h1, a, cap, hv, hc, ?_⟩
    rcases h with h | ⟨b', xs, e2, hne, hr2, hl, hrep, hz⟩
    · exact .inl h
    · subst hv; subst e2
      obtain ⟨-, -, -, T, hbb⟩ := hr
      have := cell_row (k := 1) hbb (by simp)
      obtain ⟨h3, h4⟩ := hb b' (.inr ⟨b, _, _, e, this, hz⟩)
      exact .inr ⟨b', xs, rfl, hne.keep h3, hr2.keep h3 h4, hl, hrep, hz⟩
  | mp l =>
    obtain ⟨hM, b, es, ck, e, hok, hg, hh, hi⟩ := h
    obtain ⟨h1, h2⟩ := hb b e
    exact ⟨hM, b, es, ck, (hν id hid).trans e, hok, by rw [h2]; exact hg, h1.trans hh, hi⟩
theorem Owns.keep {id c b} (h : LocOK B U ν γ w id c) (hν : ν' id = ν id) (hb : ∀ b, Owns ν w id c b → w'.heap[b]? = w.heap[b]?) (ho : Owns ν' w' id c b) : Owns ν w id c b := by
  cases c with
  | box cs => exact hν.symm.trans ho
  | arr E l => obtain ⟨len, cap, e, hne⟩ := ho; exact ⟨len, cap, hν.symm.trans e, hne⟩
  | frz E l => exact ho
  | tree E l =>
    rcases ho with ⟨len, cap, e, hne⟩ | ⟨bs, hd, hbm⟩
    · exact .inl ⟨len, cap, hν.symm.trans e, hne⟩
    · obtain ⟨bs0, hd0⟩ := h.tree_deep
      have h1 : Deep w' (ν' id) (.ps E l) bs0 := by rw [hν]; exact hd0.keep fun c hc => hb c (.inr ⟨bs0, hd0, hc⟩)
      have h2 := h1.det hd
      subst h2
      exact .inr ⟨_, hd0, hbm⟩
  | raw E l =>
    obtain ⟨bs, hd, hbm⟩ := ho
    obtain ⟨bs0, hd0, -, -⟩ := h
    have h1 : Deep w' (ν' id) (.ps E l) bs0 := by rw [hν]; exact hd0.keep fun c hc => hb c ⟨bs0, hd0, hc⟩
    have h2 := h1.det hd
    subst h2
    exact ⟨_, hd0, hbm⟩
  | bld s =>
    rcases ho with ho | ⟨b0, len, cap', e0, hcell, hne⟩
    · exact .inl (hν.symm.trans ho)
    · have e1 := hν.symm.trans e0
      have := hb b0 (.inl e1)
      rw [cell_eq this] at hcell
      exact .inr ⟨b0, len, cap', e1, hcell, hne⟩
  | mp l => exact hν.symm.trans ho
theorem LocsOK.keepAll (h : LocsOK B U ν γ w L) (hk : Keeps γ w γ' w') (hU : ∀ id, U id = true → U' id = true) (hν : ∀ id, U id = true → ν' id = ν id)
    (hb : ∀ id c b, L id = some c → Owns ν w id c b → w'.heap[b]? = w.heap[b]? ∧ γ' b = γ b) : LocsOK B U' ν' γ' w' L := by
  refine ⟨fun id c hc => (h.ok id c hc).keep hk hU hν (h.used id c hc) (fun b ho => hb id c b hc ho), fun id c hc => hU id (h.used id c hc), ?_⟩
  intro i j c d b hi hj hoi hoj
  have h1 := Owns.keep (h.ok i c hi) (hν i (h.used i c hi)) (fun b ho => (hb i c b hi ho).1) hoi
  have h2 := Owns.keep (h.ok j d hj) (hν j (h.used j d hj)) (fun b ho => (hb j d b hj ho).1) hoj
  exact h.apart i j c d b hi hj h1 h2
theorem upd_same {β : Type} (f : Nat → β) (d : Nat) (v : β) : upd f d v d = v := by
  unfold upd; rw [show Nat.beq d d = true from Nat.beq_refl d]
theorem upd_ne {β : Type} (f : Nat → β) {d t : Nat} (v : β) (h : t ≠ d) : upd f d v t = f t := by
  unfold upd
  cases e : Nat.beq t d with
  | true => exact absurd (Nat.eq_of_beq_eq_true e) h
  | false => rfl
theorem upd_cases {β : Type} {f : Nat → Option β} {d t : Nat} {v : Option β} {y : β} (h : upd f d v t = some y) : (t = d ∧ v = some y) ∨ (t ≠ d ∧ f t = some y) := by
  by_cases e : t = d
  · subst e; rw [upd_same] at h; exact .inl ⟨rfl, h⟩
  · rw [upd_ne _ _ e] at h; exact .inr ⟨e, h⟩
theorem LocsOK.drop (h : LocsOK B U ν γ w L) (id : Nat) : LocsOK B U ν γ w (upd L id none) := by
  refine ⟨fun i c hc => ?_, fun i c hc => ?_, fun i j c d b hi hj hoi hoj => ?_⟩
  · rcases upd_cases hc with ⟨_, h'⟩ | ⟨_, h'⟩
    · cases h'
    · exact h.ok i c h'
  · rcases upd_cases hc with ⟨_, h'⟩ | ⟨_, h'⟩
    · cases h'
    · exact h.used i c h'
  · rcases upd_cases hi with ⟨_, h'⟩ | ⟨_, h'⟩
    · cases h'
    · rcases upd_cases hj with ⟨_, h''⟩ | ⟨_, h''⟩
      · cases h''
      · exact h.apart i j c d b h' h'' hoi hoj
theorem LocsOK.add (h : LocsOK B U ν γ w L) {d : Nat} {c : LC} (hd : U d = true) (hc : LocOK B U ν γ w d c) (hap : ∀ b, Owns ν w d c b → ∀ j e, L j = some e → j ≠ d → ¬ Owns ν w j e b) :
    LocsOK B U ν γ w (upd L d (some c)) := by
  refine ⟨fun i c' hc' => ?_, fun i c' hc' => ?_, fun i j c' d' b hi hj hoi hoj => ?_⟩
  · rcases upd_cases hc' with ⟨rfl, h'⟩ | ⟨_, h'⟩
    · cases h'; exact hc
    · exact h.ok i c' h'
  · rcases upd_cases hc' with ⟨rfl, h'⟩ | ⟨_, h'⟩
    · exact hd
    · exact h.used i c' h'
  · rcases upd_cases hi with ⟨rfl, h1⟩ | ⟨n1, h1⟩ <;> rcases upd_cases hj with ⟨rfl, h2⟩ | ⟨n2, h2⟩
    · rfl
    · cases h1; exact absurd hoj (hap b hoi j d' h2 n2)
    · cases h2; exact absurd hoi (hap b hoj i c' h1 n1)
    · exact h.apart i j c' d' b h1 h2 hoi hoj
theorem gt_lt (hm : Mem B γ w) {b o : Nat} (h : o < γ b) : b < w.heap.size := by
  rcases Nat.lt_or_ge b w.heap.size with h' | h'
  · exact h'
  · rw [hm.fresh b h'] at h; omega
structure Frz (B : Base) (U : Nat → Bool) (ν : Nat → Value) (γ : Nat → Nat) (w : World) (L : Locs) (γ' : Nat → Nat) (L' : Locs) : Prop where
  step : Step B U ν γ w U ν γ' w L'
  gam : ∀ b, (∀ id c, L id = some c → ¬ Owns ν w id c b) → γ' b = γ b
  sub : ∀ id c, L' id = some c → ∃ c0, L id = some c0 ∧ ∀ b, Owns ν w id c b → Owns ν w id c0 b
theorem Frz.refl (hm : Mem B γ w) (hl : LocsOK B U ν γ w L) : Frz B U ν γ w L γ L := ⟨.refl hm hl, fun _ _ => rfl, fun _ c h => ⟨c, h, fun _ h => h⟩⟩
theorem Frz.trans {L1 L2} (h : Frz B U ν γ w L γ' L1) (h' : Frz B U ν γ' w L1 γ'' L2) : Frz B U ν γ w L γ'' L2 := by
  refine ⟨h.step.trans h'.step, fun b hb => ?_, fun id c hc => ?_⟩
  · refine (h'.gam b fun id c hc ho => ?_).trans (h.gam b hb)
    obtain ⟨c0, h0, h1⟩ := h.sub id c hc
    exact hb id c0 h0 (h1 b ho)
  · obtain ⟨c1, h1, h2⟩ := h'.sub id c hc
    obtain ⟨c0, h3, h4⟩ := h.sub id c1 h1
    exact ⟨c0, h3, fun b ho => h4 b (h2 b ho)⟩
theorem Frz.freezeC (hm : Mem B γ w) (hl : LocsOK B U ν γ w L) {id : Nat} {E : El} {l : List (ElT E)} {c : LC} (hid : L id = some c) (hcc : c = .arr E l ∨ c = .tree E l) :
    ∃ γ', Frz B U ν γ w L γ' (upd L id (some (.frz E l))) ∧ Rep U ν γ' w (ν id) (.ps E l) := by
  have hsub : ∀ j c, upd L id (some (LC.frz E l)) j = some c → ∃ c0, L j = some c0 ∧ ∀ b, Owns ν w j c b → Owns ν w j c0 b := by
    intro j c hj
    rcases upd_cases hj with ⟨rfl, h⟩ | ⟨_, h⟩
    · cases h; exact ⟨_, hid, fun b ho => ho.elim⟩
    · exact ⟨c, h, fun _ h => h⟩
  have hka : LocOK B U ν γ w id (.arr E l) := by
    have := hl.ok _ _ hid
    rcases hcc with rfl | rfl
    · exact this
    · exact this.tree_arr
  obtain ⟨a, cap, e, hM, hc, h⟩ := hka
  by_cases hz : cap = 0
  · have he : l = [] := List.length_eq_zero_iff.1 (by omega)
    have hr : Rep U ν γ w (ν id) (.ps E l) := by
      rw [e]
      exact .ps E l a cap (fun _ => undef) hM hc (.inl he) (by intro k hk; rw [he] at hk; simp at hk) (by intro i hi; rw [he] at hi; simp at hi)
    refine ⟨γ, ⟨⟨hm, ?_, .refl _ _, fun _ h => h, fun _ _ => rfl⟩, fun _ _ => rfl, hsub⟩, hr⟩
    exact hl.add (hl.used _ _ hid) hr (fun b ho => ho.elim)
  · rcases h with h | ⟨b, xs, ea, hrow, hlen, hrep⟩
    · exact absurd h hz
    · subst ea
      have hrow0 := hrow
      obtain ⟨hok, hg0, h1, T, hb⟩ := hrow
      have hown : Owns ν w id c b := by
        rcases hcc with rfl | rfl
        · exact ⟨_, _, e, hz⟩
        · exact .inl ⟨_, _, e, hz⟩
      have hk : Keeps γ w (upd γ b (l.length * esz E)) w := by
        refine ⟨fun b' => ?_, fun _ _ _ => rfl⟩
        by_cases hbb : b' = b
        · subst hbb; rw [hg0]; exact Nat.zero_le _
        · rw [upd_ne _ _ hbb]; exact Nat.le_refl _
      have hle : l.length * esz E ≤ xs.length := by rw [hlen]; exact Nat.mul_le_mul_right _ hc
      have hr : Rep U ν (upd γ b (l.length * esz E)) w (ν id) (.ps E l) := by
        rw [e]
        refine .ps E l _ cap (fun k => xs.getD k undef) hM hc (.inr ⟨b, 0, rfl, ?_, ?_⟩) ?_ ?_
        · rw [upd_same]; omega
        · intro k hk; rw [Nat.zero_add]; exact cell_row hb (by omega)
        · intro k hk; exact h1 _ (mem_getD (by omega))
        · intro i hi j hj; exact (hrep i hi j hj).keep hk (fun _ h => h) (fun _ _ => rfl)
      refine ⟨upd γ b (l.length * esz E), ⟨⟨⟨hm.os, hm.tape, hm.output, hm.size, ?_, ?_, hm.keeps.trans hk⟩, ?_, hk, fun _ h => h, fun _ _ => rfl⟩, ?_, hsub⟩, hr⟩
      rotate_right
      · intro b' hb'
        have : b' ≠ b := by rintro rfl; exact hb' id _ hid hown
        rw [upd_ne _ _ this]
      · intro b' hb' hmay
        have : b' ≠ b := by
          rintro rfl
          rcases hok with h | h
          · omega
          · exact hmay h
        rw [upd_ne _ _ this]; exact hm.block b' hb' hmay
      · intro b' hb'
        have : b' ≠ b := by rintro rfl; have := hrow0.lt; omega
        rw [upd_ne _ _ this]; exact hm.fresh b' hb'
      · have hothers : LocsOK B U ν (upd γ b (l.length * esz E)) w (upd L id none) := by
          refine (hl.drop id).keepAll hk (fun _ h => h) (fun _ _ => rfl) ?_
          intro j c b' hj ho
          rcases upd_cases hj with ⟨_, h'⟩ | ⟨hne, h'⟩
          · cases h'
          · refine ⟨rfl, ?_⟩
            have : b' ≠ b := by rintro rfl; exact hne (hl.apart j id c _ b' h' hid ho hown)
            rw [upd_ne _ _ this]
        have := hothers.add (d := id) (c := .frz E l) (hl.used _ _ hid) hr (fun b ho => ho.elim)
        have e2 : upd (upd L id none) id (some (LC.frz E l)) = upd L id (some (.frz E l)) := by
          funext t
          by_cases ht : t = id
          · subst ht; rw [upd_same, upd_same]
          · rw [upd_ne _ _ ht, upd_ne _ _ ht, upd_ne _ _ ht]
        rwa [e2] at this
theorem Frz.freeze (hm : Mem B γ w) (hl : LocsOK B U ν γ w L) {id : Nat} {E : El} {l : List (ElT E)} (hid : L id = some (.arr E l)) :
    ∃ γ', Frz B U ν γ w L γ' (upd L id (some (.frz E l))) ∧ Rep U ν γ' w (ν id) (.ps E l) := Frz.freezeC hm hl hid (.inl rfl)
def capG (w : World) (b : Nat) : Nat := match w.heap[b]? with
  | some (.cells cs _ _) => cs.size
  | _ => 0
theorem Frz.freezeR (hm : Mem B γ w) (hl : LocsOK B U ν γ w L) {id : Nat} {E : El} {l : List (ElT E)} (hid : L id = some (.raw E l)) :
    ∃ γ', Frz B U ν γ w L γ' (upd L id (some (.frz E l))) ∧ Rep U ν γ' w (ν id) (.ps E l) := by
  have hsub : ∀ j c, upd L id (some (LC.frz E l)) j = some c → ∃ c0, L j = some c0 ∧ ∀ b, Owns ν w j c b → Owns ν w j c0 b := by
    intro j c hj
    rcases upd_cases hj with ⟨rfl, h⟩ | ⟨_, h⟩
    · cases h; exact ⟨_, hid, fun b ho => ho.elim⟩
    · exact ⟨c, h, fun _ h => h⟩
  obtain ⟨bs, hd, hn, hz⟩ := hl.ok _ _ hid
  let γ1 : Nat → Nat := fun c => if c ∈ bs then capG w c else γ c
  have g1 : ∀ c, c ∉ bs → γ1 c = γ c := fun c hc => if_neg hc
  have g2 : ∀ c, c ∈ bs → γ1 c = capG w c := fun c hc => if_pos hc
  have hk : Keeps γ w γ1 w := by
    refine ⟨fun c => ?_, fun _ _ _ => rfl⟩
    by_cases hc : c ∈ bs
    · rw [(hz c hc).2]; exact Nat.zero_le _
    · rw [g1 c hc]; exact Nat.le_refl _
  have hfull : ∀ c ∈ bs, full γ1 w c := by
    intro c hc ys T fz hh
    rw [g2 c hc]; unfold capG; rw [hh]; exact Nat.le_refl _
  have hr : Rep U ν γ1 w (ν id) (.ps E l) := hd.rep hfull
  have hown : ∀ c ∈ bs, Owns ν w id (.raw E l) c := fun c hc => ⟨bs, hd, hc⟩
  refine ⟨γ1, ⟨⟨⟨hm.os, hm.tape, hm.output, hm.size, ?_, ?_, hm.keeps.trans hk⟩, ?_, hk, fun _ h => h, fun _ _ => rfl⟩, ?_, hsub⟩, hr⟩
  rotate_right
  · intro b' hb'
    exact g1 b' fun h => hb' id _ hid (hown b' h)
  · intro b' hb' hmay
    have : b' ∉ bs := by
      intro h
      rcases (hz b' h).1 with h | h
      · omega
      · exact hmay h
    rw [g1 b' this]; exact hm.block b' hb' hmay
  · intro b' hb'
    have : b' ∉ bs := fun h => by have := hd.lt h; omega
    rw [g1 b' this]; exact hm.fresh b' hb'
  · have hothers : LocsOK B U ν γ1 w (upd L id none) := by
      refine (hl.drop id).keepAll hk (fun _ h => h) (fun _ _ => rfl) ?_
      intro j c b' hj ho
      rcases upd_cases hj with ⟨_, h'⟩ | ⟨hne, h'⟩
      · cases h'
      · exact ⟨rfl, g1 b' fun h => hne (hl.apart j id c _ b' h' hid ho (hown b' h))⟩
    have := hothers.add (d := id) (c := .frz E l) (hl.used _ _ hid) hr (fun b ho => ho.elim)
    have e2 : upd (upd L id none) id (some (LC.frz E l)) = upd L id (some (.frz E l)) := by
      funext t
      by_cases ht : t = id
      · subst ht; rw [upd_same, upd_same]
      · rw [upd_ne _ _ ht, upd_ne _ _ ht, upd_ne _ _ ht]
    rwa [e2] at this
theorem persist_frz (hm : Mem B γ w) (hl : LocsOK B U ν γ w L) {x v v'} (hr : Rep U ν γ w x v) (hp : persist L v = some (v', L')) :
    ∃ γ', Frz B U ν γ w L γ' L' ∧ Rep U ν γ' w x v' := by
  unfold persist at hp
  split at hp
  case h_1 =>
    split at hp
    · rename_i hid; cases hp
      cases hr
      exact Frz.freeze hm hl hid
    · rename_i hid; cases hp
      cases hr
      exact ⟨γ, .refl hm hl, hl.ok _ _ hid⟩
    · rename_i hid; cases hp
      cases hr
      exact Frz.freezeC hm hl hid (.inr rfl)
    · rename_i hid; cases hp
      cases hr
      exact Frz.freezeR hm hl hid
    · cases hp
  case h_2 => cases hp; cases hr; exact ⟨γ, .refl hm hl, .ps _ [] none 0 (fun _ => undef) (Nat.zero_le _) (Nat.le_refl _) (.inl rfl) (by intro k hk; simp at hk) (by intro k hk; simp at hk)⟩
  all_goals first | (cases hp; exact ⟨γ, .refl hm hl, hr⟩) | cases hp
theorem persist_sound (hm : Mem B γ w) (hl : LocsOK B U ν γ w L) {x v v'} (hr : Rep U ν γ w x v) (hp : persist L v = some (v', L')) :
    ∃ γ', Step B U ν γ w U ν γ' w L' ∧ Rep U ν γ' w x v' := by
  obtain ⟨γ', h, h'⟩ := persist_frz hm hl hr hp
  exact ⟨γ', h.step, h'⟩
end Go.Rs
end
section
namespace Go.Rs
variable {P : Program} {B : Base} {U U' U'' : Nat → Bool} {ν ν' ν'' : Nat → Value} {γ γ' γ'' : Nat → Nat} {w w' w'' : World} {L L' L'' : Locs}
theorem cell_push {b o : Nat} {ob : Obj} (hh : w'.heap = w.heap.push ob) (hb : b < w.heap.size) : w'.cell? ⟨b, o, none⟩ = w.cell? ⟨b, o, none⟩ :=
  cell_eq (by rw [hh, Array.getElem?_push]; rw [if_neg (by omega)])
theorem Step.push (hm : Mem B γ w) (hl : LocsOK B U ν γ w L) {d : Nat} (hd : U d = false) {xs : List Value} {T : Nat} (hh : w'.heap = w.heap.push (.cells xs.toArray T (0, 0)))
    (hos : w'.os = w.os) (htp : w'.tape = w.tape) (hou : w'.output = w.output) (h1 : ∀ x ∈ xs, x.oneCell' = true) (v : Value) (c : LC)
    (hc : Row B γ w' w.heap.size xs → Keeps γ w γ w' → LocOK B (upd U d true) (upd ν d v) γ w' d c) (hown : ∀ b, Owns (upd ν d v) w' d c b → b = w.heap.size) :
    Step B U ν γ w (upd U d true) (upd ν d v) γ w' (upd L d (some c)) := by
  have hk : Keeps γ w γ w' := ⟨fun _ => Nat.le_refl _, fun b o ho => cell_push hh (gt_lt hm ho)⟩
  have hmem : Mem B γ w' := by
    refine ⟨hos.trans hm.os, htp.trans hm.tape, hou.trans hm.output, by rw [hh]; simp; have := hm.size; omega, ?_, ?_, hm.keeps.trans hk⟩
    · intro b hb hmay
      have := hm.block b hb hmay
      rw [hh, Array.getElem?_push, if_neg (by have := hm.size; omega)]
      exact this
    · intro b hb; rw [hh] at hb; simp at hb; exact hm.fresh b (by omega)
  have hU : ∀ id, U id = true → upd U d true id = true := by
    intro id hi
    by_cases e : id = d
    · subst e; rw [hd] at hi; cases hi
    · rw [upd_ne _ _ e]; exact hi
  have hν : ∀ id, U id = true → upd ν d v id = ν id := by
    intro id hi
    by_cases e : id = d
    · subst e; rw [hd] at hi; cases hi
    · rw [upd_ne _ _ e]
  have hrow : Row B γ w' w.heap.size xs := by
    refine ⟨.inl hm.size, hm.fresh _ (Nat.le_refl _), h1, T, ?_⟩
    rw [hh, Array.getElem?_push, if_pos rfl]
  refine ⟨hmem, ?_, hk, hU, hν⟩
  have hall : LocsOK B (upd U d true) (upd ν d v) γ w' L := hl.keepAll hk hU hν (fun id c b hc ho => by
    have := (hl.ok id c hc).lt ho
    exact ⟨by rw [hh, Array.getElem?_push, if_neg (by omega)], rfl⟩)
  refine hall.add (upd_same _ _ _) (hc hrow hk) ?_
  intro b hb j e hj hne ho
  have := hown b hb
  have h2 := Owns.keep (hl.ok j e hj) (hν j (hl.used j e hj)) (fun b ho => by
    have := (hl.ok j e hj).lt ho
    rw [hh, Array.getElem?_push, if_neg (by omega)]) ho
  have := (hl.ok j e hj).lt h2
  omega
theorem Step.write (hm : Mem B γ w) (hl : LocsOK B U ν γ w L) {id b : Nat} {c c' : LC} {xs : List Value} (hid : L id = some c) (hrow : Row B γ w b xs) (hown : Owns ν w id c b) {ys : List Value}
    (h1 : ∀ x ∈ ys, x.oneCell' = true) (hh : ∀ b', b' ≠ b → w'.heap[b']? = w.heap[b']?) (hT : ∀ T, w.heap[b]? = some (.cells xs.toArray T (0, 0)) → w'.heap[b]? = some (.cells ys.toArray T (0, 0)))
    (hs : w'.heap.size = w.heap.size) (hos : w'.os = w.os) (htp : w'.tape = w.tape) (hou : w'.output = w.output)
    (hc : Row B γ w' b ys → Keeps γ w γ w' → LocOK B U ν γ w' id c') (hown' : ∀ b', Owns ν w' id c' b' → Owns ν w id c b') :
    Step B U ν γ w U ν γ w' (upd L id (some c')) := by
  obtain ⟨hok, hg0, -, T, hb⟩ := hrow
  have hk : Keeps γ w γ w' := by
    refine ⟨fun _ => Nat.le_refl _, fun b' o ho => cell_eq (hh b' ?_)⟩
    rintro rfl; rw [hg0] at ho; omega
  have hmem : Mem B γ w' := by
    refine ⟨hos.trans hm.os, htp.trans hm.tape, hou.trans hm.output, by rw [hs]; exact hm.size, ?_, ?_, hm.keeps.trans hk⟩
    · intro b' hb' hmay
      have : b' ≠ b := by
        rintro rfl
        rcases hok with h | h
        · omega
        · exact hmay h
      rw [hh b' this]; exact hm.block b' hb' hmay
    · intro b' hb'; rw [hs] at hb'; exact hm.fresh b' hb'
  refine ⟨hmem, ?_, hk, fun _ h => h, fun _ _ => rfl⟩
  have hne : ∀ j c b', upd L id none j = some c → Owns ν w j c b' → b' ≠ b := by
    intro j c2 b' hj ho
    rcases upd_cases hj with ⟨_, h'⟩ | ⟨hne, h'⟩
    · cases h'
    · rintro rfl; exact hne (hl.apart j id c2 c b' h' hid ho hown)
  have hothers : LocsOK B U ν γ w' (upd L id none) := by
    refine (hl.drop id).keepAll hk (fun _ h => h) (fun _ _ => rfl) ?_
    intro j c2 b' hj ho
    exact ⟨hh b' (hne j c2 b' hj ho), rfl⟩
  have := hothers.add (d := id) (c := c') (hl.used _ _ hid) (hc ⟨hok, hg0, h1, T, hT T hb⟩ hk) (by
    intro b' hb' j e hj hne' ho
    have h2 := Owns.keep ((hl.drop id).ok j e hj) rfl (fun b'' ho => hh b'' (hne j e b'' hj ho)) ho
    rcases upd_cases hj with ⟨_, h'⟩ | ⟨hne2, h'⟩
    · cases h'
    · exact hne2 (hl.apart j id e c b' h' hid h2 (hown' b' hb')))
  have e2 : upd (upd L id none) id (some c') = upd L id (some c') := by
    funext t
    by_cases ht : t = id
    · subst ht; rw [upd_same, upd_same]
    · rw [upd_ne _ _ ht, upd_ne _ _ ht, upd_ne _ _ ht]
  rwa [e2] at this
def LSound (P : Program) (B : Base) (s : AS) (ν : Nat → Value) (γ : Nat → Nat) (w : World) (e : Sem Next) (d : Option Nat) (r : Option Prop × AV × Locs × (Nat → Bool)) : Prop :=
  ∃ ν' γ' w', Step B s.used ν γ w r.2.2.2 ν' γ' w' r.2.2.1 ∧
    ((∃ x, e.run P w = .ok (.value x) w' ∧ Rep r.2.2.2 ν' γ' w' x r.2.1) ∨ (d = none ∧ r.2.1 = .opq ∧ e.run P w = .ok .skip w'))
theorem fresh_some {s : AS} {d : Nat} {k : LR} {r} (h : fresh s d k = some r) : s.used d = false ∧ k = some r := by
  unfold fresh at h
  split at h
  · rename_i hu _; exact ⟨hu, h⟩
  · cases h
theorem boxed (hm : Mem B γ w) {s : AS} (hl : LocsOK B s.used ν γ w s.locs) {d : Nat} (hd : s.used d = false) {xs : List Value} {cs : List AV} (hcs : CellsIs s.used ν γ w xs cs) (T : Nat) (O : Option Prop) {e : Sem Next}
    (he : e.run P w = .ok (.value (.pointer (some ⟨w.heap.size, 0, none⟩))) { w with heap := w.heap.push (.cells xs.toArray T (0, 0)) }) (d' : Option Nat) :
    LSound P B s ν γ w e d' (O, .lp d 0, upd s.locs d (some (.box cs)), upd s.used d true) := by
  have hU : ∀ id, s.used id = true → upd s.used d true id = true := by
    intro id hi
    by_cases e : id = d
    · subst e; rw [hd] at hi; cases hi
    · rw [upd_ne _ _ e]; exact hi
  have hν : ∀ id, s.used id = true → upd ν d (.pointer (some ⟨w.heap.size, 0, none⟩)) id = ν id := by
    intro id hi
    by_cases e : id = d
    · subst e; rw [hd] at hi; cases hi
    · rw [upd_ne _ _ e]
  have hst := Step.push (w' := { w with heap := w.heap.push (.cells xs.toArray T (0, 0)) }) hm hl hd (xs := xs) (T := T) rfl rfl rfl rfl hcs.one (.pointer (some ⟨w.heap.size, 0, none⟩)) (.box cs)
    (fun hr hk => ⟨w.heap.size, xs, upd_same _ _ _, hr, hcs.len, fun i hi => (hcs.rep i hi).keep hk hU hν⟩)
    (fun b hb => by
      have : (upd ν d (.pointer (some ⟨w.heap.size, 0, none⟩))) d = .pointer (some ⟨b, 0, none⟩) := hb
      rw [upd_same] at this; simp at this; exact this.symm)
  exact ⟨_, _, _, hst, .inl ⟨_, he, .lp d 0 _ (upd_same _ _ _) (upd_same _ _ _)⟩⟩
theorem run_w (e : Sem Value) {x : Value} (h : e.run P w = .ok x w') : ((do pure (Next.value (← e))) : Sem Next).run P w = .ok (.value x) w' := by
  rw [Sem.run_bind, h]; rfl
theorem lBox_sound (hm : Mem B γ w) {s : AS} (hl : LocsOK B s.used ν γ w s.locs) {d t : Nat} {x : Value} {v : AV} (hr : Rep s.used ν γ w x v) {r} (hq : lBox s d v = some r) (d' : Option Nat) :
    LSound P B s ν γ w (do pure (.value (← Instr.box t x))) d' r := by
  simp only [lBox, seqV_eq] at hq
  split at hq
  · cases hq
  · rename_i c rest hc
    obtain ⟨hd, hq⟩ := fresh_some hq
    cases hq
    have hcs := CellsIs.of_cells hr (by rw [hc]; simp)
    rw [hc] at hcs
    have he : (Instr.box t x).run P w = .ok (.pointer (some ⟨w.heap.size, 0, none⟩)) { w with heap := w.heap.push (.cells x.cells.toList.toArray t (0, 0)) } := by
      simp [Instr.box, newVar, newRow]
    exact boxed hm hl hd hcs t _ (run_w _ he) d'
theorem zero_cells {t : Nat} {ti : TI} (hT : TIOK P t ti) (hz : zeroOf ti ≠ []) : ∃ i z, P.info? t = some i ∧ i.zero = some z ∧ CellsIs U ν γ w z.cells.toList (zeroOf ti) := by
  have one : ∀ {z : Value} {v : AV}, Rep U ν γ w z v → z.oneCell' = true → z.cells = #[z] → CellsIs U ν γ w z.cells.toList [v] := by
    intro z v hr h1 hc
    rw [hc]
    refine ⟨rfl, by simpa using h1, fun i hi => ?_⟩
    have : i = 0 := by simp at hi; omega
    subst this
    simpa using hr
  cases ti with
  | int k => obtain ⟨i, hi, -, hz, -⟩ := hT; exact ⟨i, _, hi, hz, one (.int _ _) rfl rfl⟩
  | bool => obtain ⟨i, hi, -, hz, -⟩ := hT; exact ⟨i, _, hi, hz, one (.bool _) rfl rfl⟩
  | str => obtain ⟨i, hi, -, hz, -⟩ := hT; exact ⟨i, _, hi, hz, one (.str [] (Nat.zero_le _)) rfl rfl⟩
  | sl E => obtain ⟨i, e, ei, z, hi, -, hz, -⟩ := hT; exact ⟨i, _, hi, hz, one (.nils _) rfl rfl⟩
  | st fs z => obtain ⟨i, f, zs, hi, -, hz, hzl, h1, hr, -⟩ := hT; exact ⟨i, _, hi, hz, ⟨by simpa [Value.cells, zeroOf] using hzl, by simpa [Value.cells] using h1, fun k hk => hr U ν γ w k hk⟩⟩
  | ptr => exact absurd rfl hz
  | fn => exact absurd rfl hz
  | mp => exact absurd rfl hz
  | ifc => exact absurd rfl hz
  | other => exact absurd rfl hz
theorem run_zeroValue {t : Nat} {i : TypeInfo} {z : Value} (hi : P.info? t = some i) (hz : i.zero = some z) : (zeroValue t).run P w = .ok z w := by
  simp [zeroValue, typeInfo, hi, hz]
theorem isB_cells {t : Nat} {xs : List Value} {cs : List AV} (hb : isB t cs = true) (h : CellsIs U ν γ w xs cs) : t = BT ∧ xs = [.pointer none, .slice none 0 0] := by
  unfold isB at hb
  split at hb
  · have h0 := h.rep 0 (by simp)
    have h1 := h.rep 1 (by simp)
    have hl := h.len
    match xs, hl with
    | [x, y], _ =>
      simp at h0 h1
      cases h0; cases h1; exact ⟨Nat.eq_of_beq_eq_true hb, rfl⟩
  · cases hb
theorem built (hm : Mem B γ w) {s : AS} (hl : LocsOK B s.used ν γ w s.locs) {d : Nat} (hd : s.used d = false) (T : Nat) (hT : T = BT) (O : Option Prop) {e : Sem Next}
    (he : e.run P w = .ok (.value (.pointer (some ⟨w.heap.size, 0, none⟩))) { w with heap := w.heap.push (.cells #[.pointer none, .slice none 0 0] T (0, 0)) }) (d' : Option Nat) :
    LSound P B s ν γ w e d' (O, .lp d 0, upd s.locs d (some (.bld [])), upd s.used d true) := by
  have hst := Step.push (w' := { w with heap := w.heap.push (.cells #[.pointer none, .slice none 0 0] T (0, 0)) }) hm hl hd (xs := [.pointer none, .slice none 0 0]) (T := T) rfl rfl rfl rfl (by simp [Value.oneCell']) (.pointer (some ⟨w.heap.size, 0, none⟩)) (.bld [])
    (fun hr hk => ⟨Nat.zero_le _, w.heap.size, _, _, upd_same _ _ _, hr, ⟨.inl rfl, by simp [World.shape?, hT]⟩, none, 0, rfl, Nat.le_refl _, .inl ⟨rfl, rfl⟩⟩)
    (fun b hb => by
      have key : (upd ν d (.pointer (some ⟨w.heap.size, 0, none⟩))) d = .pointer (some ⟨w.heap.size, 0, none⟩) := upd_same _ _ _
      rcases hb with hb | ⟨b0, len, cap, hb, hc, hne⟩
      · rw [key] at hb; simp at hb; exact hb.symm
      · rw [key] at hb; simp at hb; subst hb
        have hh : ({ w with heap := w.heap.push (.cells #[.pointer none, .slice none 0 0] T (0, 0)) } : World).heap[w.heap.size]? = some (.cells [Value.pointer none, .slice none 0 0].toArray T (0, 0)) := by simp
        have h2 := cell_row (k := 1) hh (by simp)
        rw [h2] at hc
        simp at hc)
  exact ⟨_, _, _, hst, .inl ⟨_, he, .lp d 0 _ (upd_same _ _ _) (upd_same _ _ _)⟩⟩
theorem lAlloc_sound (hm : Mem B γ w) {s : AS} (hl : LocsOK B s.used ν γ w s.locs) {d t : Nat} {ti : TI} (hT : TIOK P t ti) {r} (hq : lAlloc s d t ti = some r) (d' : Option Nat) :
    LSound P B s ν γ w (do pure (.value (← Instr.alloc t true (.tuple #[])))) d' r := by
  simp only [lAlloc, seqV_eq] at hq
  split at hq
  · rename_i hb
    obtain ⟨hd, hq⟩ := fresh_some hq
    cases hq
    obtain ⟨i, z, hi, hz, hcs⟩ := zero_cells (U := s.used) (ν := ν) (γ := γ) (w := w) hT (by intro e; rw [e] at hb; simp [isB] at hb)
    obtain ⟨hT', hzc⟩ := isB_cells hb hcs
    have he : (Instr.alloc t true (.tuple #[])).run P w = .ok (.pointer (some ⟨w.heap.size, 0, none⟩)) { w with heap := w.heap.push (.cells z.cells.toList.toArray t (0, 0)) } := by
      simp [Instr.alloc, run_zeroValue hi hz, newVar, newRow]
    rw [hzc] at he
    exact built hm hl hd t hT' _ (run_w _ he) d'
  split at hq
  · cases hq
  · rename_i c rest hc
    obtain ⟨hd, hq⟩ := fresh_some hq
    cases hq
    obtain ⟨i, z, hi, hz, hcs⟩ := zero_cells (U := s.used) (ν := ν) (γ := γ) (w := w) hT (by rw [hc]; simp)
    rw [hc] at hcs
    have he : (Instr.alloc t true (.tuple #[])).run P w = .ok (.pointer (some ⟨w.heap.size, 0, none⟩)) { w with heap := w.heap.push (.cells z.cells.toList.toArray t (0, 0)) } := by
      simp [Instr.alloc, run_zeroValue hi hz, newVar, newRow]
    exact boxed hm hl hd hcs t _ (run_w _ he) d'
end Go.Rs
end
section
namespace Go.Rs
variable {P : Program} {B : Base} {U U' U'' : Nat → Bool} {ν ν' ν'' : Nat → Value} {γ γ' γ'' : Nat → Nat} {w w' w'' : World} {L L' L'' : Locs}
structure Given (B : Base) (ν : Nat → Value) (w : World) (γ : Nat → Nat) (L L' : Locs) (S : List Nat) : Prop where
  sub : ∀ id c, L' id = some c → ∃ c0, L id = some c0 ∧ ∀ b, Owns ν w id c b → Owns ν w id c0 b
  own : ∀ b ∈ S, ∃ id c, L id = some c ∧ Owns ν w id c b
  out : ∀ b ∈ S, ∀ id c, L' id = some c → ¬ Owns ν w id c b
  ok : ∀ b ∈ S, B.ok b
  nodup : S.Nodup
theorem Given.nil : Given B ν w γ L L [] := ⟨fun _ c h => ⟨c, h, fun _ h => h⟩, by simp, by simp, by simp, .nil⟩
theorem Given.trans {L1 S1 L2 S2} (h : Given B ν w γ L L1 S1) (h' : Given B ν w γ' L1 L2 S2) : Given B ν w γ' L L2 (S1 ++ S2) := by
  refine ⟨fun id c hc => ?_, fun b hb => ?_, fun b hb id c hc ho => ?_, fun b hb => ?_, ?_⟩
  · obtain ⟨c1, h1, h2⟩ := h'.sub id c hc
    obtain ⟨c0, h3, h4⟩ := h.sub id c1 h1
    exact ⟨c0, h3, fun b ho => h4 b (h2 b ho)⟩
  · rcases List.mem_append.1 hb with hb | hb
    · exact h.own b hb
    · obtain ⟨id, c, hc, ho⟩ := h'.own b hb
      obtain ⟨c0, h3, h4⟩ := h.sub id c hc
      exact ⟨id, c0, h3, h4 b ho⟩
  · rcases List.mem_append.1 hb with hb | hb
    · obtain ⟨c1, h1, h2⟩ := h'.sub id c hc
      exact h.out b hb id c1 h1 (h2 b ho)
    · exact h'.out b hb id c hc ho
  · rcases List.mem_append.1 hb with hb | hb
    · exact h.ok b hb
    · exact h'.ok b hb
  · refine List.nodup_append.2 ⟨h.nodup, h'.nodup, fun a ha b hb e => ?_⟩
    subst e
    obtain ⟨id, c, hc, ho⟩ := h'.own a hb
    exact h.out a ha id c hc ho
theorem Given.of_frz {γ'} (h : Frz B U ν γ w L γ' L') : Given B ν w γ' L L' [] := ⟨h.sub, by simp, by simp, by simp, .nil⟩
theorem Given.drop_own {id : Nat} {c : LC} {S} (h : Given B ν w γ L L' S) (hl : LocsOK B U ν γ w L) (hid : L id = some c) {T : List Nat} (hT : ∀ b ∈ T, Owns ν w id c b ∧ B.ok b ∧ b ∉ S) (hn : T.Nodup) :
    Given B ν w γ L (upd L' id none) (T ++ S) := by
  refine ⟨fun j c' hj => ?_, fun b hb => ?_, fun b hb j c' hj ho => ?_, fun b hb => ?_, ?_⟩
  · rcases upd_cases hj with ⟨_, h'⟩ | ⟨_, h'⟩
    · cases h'
    · exact h.sub j c' h'
  · rcases List.mem_append.1 hb with hb | hb
    · exact ⟨id, c, hid, (hT b hb).1⟩
    · exact h.own b hb
  · rcases upd_cases hj with ⟨_, h'⟩ | ⟨hne, h'⟩
    · cases h'
    · rcases List.mem_append.1 hb with hb | hb
      · obtain ⟨c0, h0, h1⟩ := h.sub j c' h'
        exact hne (hl.apart j id c0 c b h0 hid (h1 b ho) (hT b hb).1)
      · exact h.out b hb j c' h' ho
  · rcases List.mem_append.1 hb with hb | hb
    · exact (hT b hb).2.1
    · exact h.ok b hb
  · refine List.nodup_append.2 ⟨hn, h.nodup, fun a ha b hb e => ?_⟩
    subst e
    exact (hT a ha).2.2 hb
structure Handed (B : Base) (U : Nat → Bool) (ν : Nat → Value) (γ : Nat → Nat) (w : World) (L : Locs) (γ' : Nat → Nat) (L' : Locs) (S : List Nat) : Prop where
  mem : Mem B γ' w
  locs : LocsOK B U ν γ' w L'
  keeps : Keeps γ w γ' w
  gam : ∀ b, (∀ id c, L id = some c → ¬ Owns ν w id c b) → γ' b = γ b
  given : Given B ν w γ' L L' S
theorem Handed.of_frz (h : Frz B U ν γ w L γ' L') : Handed B U ν γ w L γ' L' [] := ⟨h.step.mem, h.step.locs, h.step.keeps, h.gam, .of_frz h⟩
theorem Handed.trans {L1 L2 S1 S2} (h : Handed B U ν γ w L γ' L1 S1) (h' : Handed B U ν γ' w L1 γ'' L2 S2) : Handed B U ν γ w L γ'' L2 (S1 ++ S2) := by
  refine ⟨h'.mem, h'.locs, h.keeps.trans h'.keeps, fun b hb => ?_, h.given.trans h'.given⟩
  refine (h'.gam b fun id c hc ho => ?_).trans (h.gam b hb)
  obtain ⟨c0, h0, h1⟩ := h.given.sub id c hc
  exact hb id c0 h0 (h1 b ho)

theorem Handed.step {S} (h : Handed B U ν γ w L γ' L' S) : Step B U ν γ w U ν γ' w L' := ⟨h.mem, h.locs, h.keeps, fun _ h => h, fun _ _ => rfl⟩
theorem cells_one {x : Value} (h : x.oneCell' = true) : x.cells = #[x] := by
  revert h; cases x <;> simp [Value.cells, Value.oneCell']
def flatV : AV → Prop
  | .int _ _ | .bool _ | .str _ => True
  | .ps _ l => l = []
  | _ => False
theorem flat_deep {x : Value} {v : AV} (h : Rep U ν γ w x v) (hf : flatV v) : Deep w x v [] := by
  cases h with
  | int k n => exact .int _ _
  | bool b => exact .bool _
  | str s hM => exact .str s hM
  | ps E l a cap c hM hc ha h1 hr =>
    have hf' : l = [] := hf
    subst hf'; exact .nil E a cap
  | _ => exact hf.elim
theorem enc_flat {E : El} (hE : flatE E = true) (x : ElT E) (j : Nat) (hj : j < esz E) : flatV ((enc E x).getD j .opq) := by
  cases E <;> simp [flatE] at hE <;> simp [esz] at hj <;> subst hj <;> trivial
theorem enc_zero (E : El) (j : Nat) (hj : j < esz E) (hE : deepE E = true) : flatV ((enc E (elDef E)).getD j .opq) := by
  have h : ∀ v ∈ enc E (elDef E), flatV v := by
    cases E <;> simp [deepE] at hE <;> simp [enc, elDef, ndC, default, instInhabitedNd, flatV]
  rw [List.getD_eq_getElem?_getD, List.getElem?_eq_getElem (by rw [enc_len]; exact hj)]
  exact h _ (List.getElem_mem _)
theorem inn_none {n : Nat} {f : Nat → List Nat} (h : ∀ k, k < n → f k = []) : inn n f = [] := by
  induction n with
  | zero => rfl
  | succ n ih =>
    have h1 := ih fun k hk => h k (by omega)
    unfold inn at h1 ⊢
    rw [List.range_succ, List.flatMap_append, h1]
    simp [h n (by omega)]
theorem inn_snoc (n : Nat) (f : Nat → List Nat) : inn (n + 1) f = inn n f ++ f n := by
  unfold inn
  rw [List.range_succ, List.flatMap_append]
  simp
theorem inn_cons (n : Nat) (f : Nat → List Nat) : inn (n + 1) f = f 0 ++ inn n (fun k => f (k + 1)) := by
  unfold inn
  rw [List.range_succ_eq_map, List.flatMap_cons, List.flatMap_map]
theorem inn_nodup {n : Nat} {f : Nat → List Nat} : (inn n f).Nodup ↔ (∀ k, k < n → (f k).Nodup) ∧ ∀ j k, j < k → k < n → ∀ c ∈ f j, c ∉ f k := by
  induction n with
  | zero => simp [inn]
  | succ n ih =>
    rw [inn_snoc, List.nodup_append, ih]
    constructor
    · rintro ⟨⟨h1, h2⟩, h3, h4⟩
      refine ⟨fun k hk => ?_, fun j k hj hk c hc hc' => ?_⟩
      · rcases Nat.lt_succ_iff_lt_or_eq.1 hk with h | rfl
        · exact h1 k h
        · exact h3
      · rcases Nat.lt_succ_iff_lt_or_eq.1 hk with h | rfl
        · exact h2 j k hj h c hc hc'
        · exact h4 c (inn_mem.2 ⟨j, hj, hc⟩) c hc' rfl
    · rintro ⟨h1, h2⟩
      refine ⟨⟨fun k hk => h1 k (by omega), fun j k hj hk => h2 j k hj (by omega)⟩, h1 n (by omega), fun c hc c' hc' e => ?_⟩
      subst e
      obtain ⟨j, hj, hcj⟩ := inn_mem.1 hc
      exact h2 j n hj (by omega) c hcj hc'
theorem Handed.absorbRow (hm : Mem B γ w) (hl : LocsOK B U ν γ w L) {id b : Nat} {c : LC} {xs : List Value} {I : List Nat} (hid : L id = some c) (hrow : Row B γ w b xs) (hown : Owns ν w id c b)
    (hI : ∀ c' ∈ I, Owns ν w id c c' ∧ B.ok c' ∧ 0 < γ c') (hn : I.Nodup) : Handed B U ν γ w L (upd γ b xs.length) (upd L id none) (b :: I) := by
  have hrow0 := hrow
  obtain ⟨hok, hg0, h1, T, hb⟩ := hrow
  have hne : ∀ c' ∈ I, c' ≠ b := by rintro c' hc rfl; have := (hI c' hc).2.2; omega
  have hk : Keeps γ w (upd γ b xs.length) w := by
    refine ⟨fun b' => ?_, fun _ _ _ => rfl⟩
    by_cases hbb : b' = b
    · subst hbb; rw [hg0]; exact Nat.zero_le _
    · rw [upd_ne _ _ hbb]; exact Nat.le_refl _
  refine ⟨⟨hm.os, hm.tape, hm.output, hm.size, fun b' hb' hmay => ?_, fun b' hb' => ?_, hm.keeps.trans hk⟩, ?_, hk, fun b' hb' => ?_, ?_⟩
  · have : b' ≠ b := by
      rintro rfl
      rcases hok with h | h
      · omega
      · exact hmay h
    rw [upd_ne _ _ this]; exact hm.block b' hb' hmay
  · have : b' ≠ b := by rintro rfl; have := hrow0.lt; omega
    rw [upd_ne _ _ this]; exact hm.fresh b' hb'
  · refine (hl.drop id).keepAll hk (fun _ h => h) (fun _ _ => rfl) ?_
    intro j c2 b' hj ho
    rcases upd_cases hj with ⟨_, h'⟩ | ⟨hne2, h'⟩
    · cases h'
    · refine ⟨rfl, ?_⟩
      have : b' ≠ b := by rintro rfl; exact hne2 (hl.apart j id c2 c b' h' hid ho hown)
      rw [upd_ne _ _ this]
  · have : b' ≠ b := by rintro rfl; exact hb' id _ hid hown
    rw [upd_ne _ _ this]
  · have := (Given.nil (B := B) (ν := ν) (w := w) (γ := upd γ b xs.length) (L := L))
    refine ⟨fun j c' hj => ?_, fun b' hb' => ?_, fun b' hb' j c' hj ho => ?_, fun b' hb' => ?_, ?_⟩
    · rcases upd_cases hj with ⟨_, h'⟩ | ⟨_, h'⟩
      · cases h'
      · exact ⟨c', h', fun _ h => h⟩
    · rcases List.mem_cons.1 hb' with rfl | hb'
      · exact ⟨id, c, hid, hown⟩
      · exact ⟨id, c, hid, (hI b' hb').1⟩
    · have hob : Owns ν w id c b' := by
        rcases List.mem_cons.1 hb' with rfl | hb'
        · exact hown
        · exact (hI b' hb').1
      rcases upd_cases hj with ⟨_, h'⟩ | ⟨hne2, h'⟩
      · cases h'
      · exact hne2 (hl.apart j id c' c b' h' hid ho hob)
    · rcases List.mem_cons.1 hb' with rfl | hb'
      · exact hok
      · exact (hI b' hb').2.1
    · exact List.nodup_cons.2 ⟨fun h => hne b h rfl, hn⟩
theorem Handed.dropId (hm : Mem B γ w) (hl : LocsOK B U ν γ w L) (id : Nat) : Handed B U ν γ w L γ (upd L id none) [] := by
  refine ⟨hm, hl.drop id, .refl _ _, fun _ _ => rfl, ⟨fun j c' hj => ?_, by simp, by simp, by simp, .nil⟩⟩
  rcases upd_cases hj with ⟨_, h'⟩ | ⟨_, h'⟩
  · cases h'
  · exact ⟨c', h', fun _ h => h⟩
theorem full_upd {b c : Nat} {xs : List Value} {T : Nat} (hb : w.heap[b]? = some (.cells xs.toArray T (0, 0))) (h : c ≠ b → full γ w c) : full (upd γ b xs.length) w c := by
  by_cases e : c = b
  · subst e
    intro ys T' fz hh
    rw [hb] at hh
    simp only [Option.some.injEq, Obj.cells.injEq] at hh
    rw [upd_same, ← hh.1]; simp
  · intro ys T' fz hh
    rw [upd_ne _ _ e]
    exact h e ys T' fz hh
theorem full_le {c : Nat} (h : full γ w c) (hk : γ c ≤ γ' c) : full γ' w c := fun ys T fz hh => Nat.le_trans (h ys T fz hh) hk
theorem absorb_sound (hm : Mem B γ w) (hl : LocsOK B U ν γ w L) {x v v'} (hr : Rep U ν γ w x v) (hp : absorb L v = some (v', L')) :
    ∃ γ' S, Handed B U ν γ w L γ' L' S ∧ Deep w x v' S ∧ (∀ c ∈ S, full γ' w c) ∧ cellsOf v' = [v'] := by
  have triv : flatV v → cellsOf v = [v] → absorb L v = some (v, L) → ∃ γ' S, Handed B U ν γ w L γ' L' S ∧ Deep w x v' S ∧ (∀ c ∈ S, full γ' w c) ∧ cellsOf v' = [v'] := by
    intro hf hc he
    rw [he] at hp
    simp only [Option.some.injEq, Prod.mk.injEq] at hp; obtain ⟨rfl, rfl⟩ := hp
    exact ⟨γ, [], .of_frz (.refl hm hl), flat_deep hr hf, by simp, hc⟩
  cases v with
  | int k n => exact triv trivial rfl rfl
  | bool b => exact triv trivial rfl rfl
  | str b => exact triv trivial rfl rfl
  | nils E =>
    simp only [absorb, Option.some.injEq, Prod.mk.injEq] at hp; obtain ⟨rfl, rfl⟩ := hp
    cases hr
    exact ⟨γ, [], .of_frz (.refl hm hl), .nil E none 0, by simp, rfl⟩
  | ls id =>
    simp only [absorb] at hp
    cases hr
    split at hp
    · rename_i E l hid
      split at hp
      case h_2 => cases hp
      rename_i hE
      simp only [Option.some.injEq, Prod.mk.injEq] at hp; obtain ⟨rfl, rfl⟩ := hp
      obtain ⟨a, cap, e, hMX, hc, harr⟩ := hl.ok _ _ hid
      by_cases h0 : l = []
      · subst h0
        refine ⟨γ, [], .dropId hm hl id, ?_, by simp, rfl⟩
        rw [e]; exact .nil E a cap
      · rcases harr with h | ⟨b, xs, rfl, hrow, hlen, hrep⟩
        · exact absurd (List.length_eq_zero_iff.1 (by omega)) h0
        · have hz : cap ≠ 0 := by rintro rfl; exact h0 (List.length_eq_zero_iff.1 (by omega))
          have hh := Handed.absorbRow (I := []) hm hl hid hrow (show Owns ν w id (.arr E l) b from ⟨_, _, e, hz⟩) (by simp) .nil
          obtain ⟨-, -, h1, T, hb⟩ := hrow
          refine ⟨_, [b], hh, ?_, fun c hc' => full_upd hb fun h => absurd (by simpa using hc') h, rfl⟩
          have hd := Deep.sl E l b cap xs T (fun _ => []) hMX hc h0 hb hlen h1 fun i hi j hj => flat_deep (hrep i hi j hj) (enc_flat hE _ _ hj)
          rw [inn_none (fun _ _ => rfl)] at hd
          rw [e]; exact hd
    · rename_i E l hid
      simp only [Option.some.injEq, Prod.mk.injEq] at hp; obtain ⟨rfl, rfl⟩ := hp
      obtain ⟨a, cap, e, hMX, hc, harr⟩ := hl.ok _ _ hid
      by_cases h0 : l = []
      · subst h0
        refine ⟨γ, [], .dropId hm hl id, ?_, by simp, rfl⟩
        rw [e]; exact .nil E a cap
      · rcases harr with h | ⟨b, xs, bss, rfl, hrow, hlen, hin⟩
        · exact absurd (List.length_eq_zero_iff.1 (by omega)) h0
        · have hz : cap ≠ 0 := by rintro rfl; exact h0 (List.length_eq_zero_iff.1 (by omega))
          have hh := Handed.absorbRow (I := inn (l.length * esz E) bss) hm hl hid hrow (show Owns ν w id (.tree E l) b from .inl ⟨_, _, e, hz⟩) (fun c hc' => ⟨hin.owns e hMX hc hrow hlen c hc', (hin.ok c hc').1, by
            obtain ⟨i, j, hi, hj, h2⟩ := inn_ij hc'
            exact (hin.deep i hi j hj).pos h2 (hin.ok c hc').2⟩) hin.nodup
          obtain ⟨-, -, h1, T, hb⟩ := hrow
          refine ⟨_, _, hh, ?_, fun c hc' => full_upd hb fun h => ?_, rfl⟩
          · rw [e]; exact .sl E l b cap xs T bss hMX hc h0 hb hlen h1 hin.deep
          · rcases List.mem_cons.1 hc' with rfl | hc'
            · exact absurd rfl h
            · exact (hin.ok c hc').2
    · cases hp
  | _ => simp [absorb] at hp
structure CellsD (w : World) (xs : List Value) (cs : List AV) (ss : Nat → List Nat) : Prop where
  len : xs.length = cs.length
  one : ∀ x ∈ xs, x.oneCell' = true
  deep : ∀ i, i < cs.length → Deep w (xs.getD i undef) (cs.getD i .opq) (ss i)
theorem absorbL_sound : ∀ (vs vs' : List AV) (xs : List Value) (γ : Nat → Nat) (L L' : Locs), Mem B γ w → LocsOK B U ν γ w L → CellsIs U ν γ w xs vs → absorbL L vs = some (vs', L') →
    ∃ γ' ss, Handed B U ν γ w L γ' L' (inn vs'.length ss) ∧ CellsD w xs vs' ss ∧ ∀ c ∈ inn vs'.length ss, full γ' w c
  | [], vs', xs, γ, L, L', hm, hl, hr, hp => by
    simp only [absorbL, Option.some.injEq, Prod.mk.injEq] at hp; obtain ⟨rfl, rfl⟩ := hp
    exact ⟨γ, fun _ => [], by simpa [inn] using Handed.of_frz (.refl hm hl), ⟨hr.len, hr.one, fun i hi => by simp at hi⟩, by simp [inn]⟩
  | v :: r, vs', xs, γ, L, L', hm, hl, hr, hp => by
    simp only [absorbL] at hp
    split at hp
    case h_2 => cases hp
    rename_i v' L1 h1
    split at hp
    case h_2 => cases hp
    rename_i r' L2 h2
    simp only [Option.some.injEq, Prod.mk.injEq] at hp; obtain ⟨rfl, rfl⟩ := hp
    cases xs with
    | nil => exact absurd hr.len (by simp)
    | cons x xs =>
      have hv := hr.rep 0 (by simp)
      simp at hv
      obtain ⟨γ1, S1, g1, d1, f1, -⟩ := absorb_sound hm hl hv h1
      have hr1 : CellsIs U ν γ1 w xs r := ⟨by have := hr.len; simp at this; exact this, fun y hy => hr.one y (by simp [hy]), fun i hi => by
        have := (hr.rep (i + 1) (by simpa using hi)).keep g1.keeps (fun _ h => h) (fun _ _ => rfl)
        simpa using this⟩
      obtain ⟨γ2, ss2, g2, d2, f2⟩ := absorbL_sound r r' xs γ1 L1 L2 g1.mem g1.locs hr1 h2
      refine ⟨γ2, fun | 0 => S1 | k + 1 => ss2 k, ?_, ⟨by have := d2.len; simp [this], hr.one, fun i hi => ?_⟩, fun c hc => ?_⟩
      · rw [List.length_cons, inn_cons]; exact g1.trans g2
      · cases i with
        | zero => simpa using d1
        | succ i => simpa using d2.deep i (by simpa using hi)
      · rw [List.length_cons, inn_cons] at hc
        rcases List.mem_append.1 hc with hc | hc
        · exact full_le (f1 c hc) (g2.keeps.le c)
        · exact f2 c hc
theorem absorbS_sound (hm : Mem B γ w) (hl : LocsOK B U ν γ w L) {x v v'} (hr : Rep U ν γ w x v) (hp : absorbS L v = some (v', L')) :
    ∃ γ' ss, Handed B U ν γ w L γ' L' (inn (cellsOf v').length ss) ∧ CellsD w x.cells.toList (cellsOf v') ss ∧ ∀ c ∈ inn (cellsOf v').length ss, full γ' w c := by
  unfold absorbS at hp
  split at hp
  · rename_i cs
    split at hp
    case h_2 => cases hp
    rename_i cs' L1 h1
    simp only [Option.some.injEq, Prod.mk.injEq] at hp; obtain ⟨rfl, rfl⟩ := hp
    cases hr with
    | st xs _ hl' h1' hr =>
      obtain ⟨γ', ss, g, d, f⟩ := absorbL_sound cs cs' xs γ L L1 hm hl ⟨hl', h1', hr⟩ h1
      exact ⟨γ', ss, g, by simpa [Value.cells, cellsOf] using d, f⟩
  · obtain ⟨γ', S, g, d, f, hc⟩ := absorb_sound hm hl hr hp
    have hx := cells_one d.one
    refine ⟨γ', fun _ => S, ?_, ?_, ?_⟩
    · rw [hc]; simpa [inn] using g
    · rw [hc, hx]
      refine ⟨rfl, by simpa using d.one, fun i hi => ?_⟩
      have : i = 0 := by simp at hi; omega
      subst this
      simpa using d
    · rw [hc]; simpa [inn] using f
theorem Step.pushS (hm : Mem B γ w) (hl : LocsOK B U ν γ w L) {d : Nat} (hd : U d = false) {S : List Nat} (hS : ∀ b ∈ S, b < w.heap.size ∧ ∀ j e, L j = some e → ¬ Owns ν w j e b) {xs : List Value} {T : Nat} (hh : w'.heap = w.heap.push (.cells xs.toArray T (0, 0)))
    (hos : w'.os = w.os) (htp : w'.tape = w.tape) (hou : w'.output = w.output) (h1 : ∀ x ∈ xs, x.oneCell' = true) (v : Value) (c : LC)
    (hc : Row B γ w' w.heap.size xs → Keeps γ w γ w' → (∀ b, b < w.heap.size → w'.heap[b]? = w.heap[b]?) → LocOK B (upd U d true) (upd ν d v) γ w' d c) (hown : ∀ b, Owns (upd ν d v) w' d c b → b = w.heap.size ∨ b ∈ S) :
    Step B U ν γ w (upd U d true) (upd ν d v) γ w' (upd L d (some c)) := by
  have hk : Keeps γ w γ w' := ⟨fun _ => Nat.le_refl _, fun b o ho => cell_push hh (gt_lt hm ho)⟩
  have hold : ∀ b, b < w.heap.size → w'.heap[b]? = w.heap[b]? := fun b hb => by rw [hh, Array.getElem?_push, if_neg (by omega)]
  have hmem : Mem B γ w' := by
    refine ⟨hos.trans hm.os, htp.trans hm.tape, hou.trans hm.output, by rw [hh]; simp; have := hm.size; omega, ?_, ?_, hm.keeps.trans hk⟩
    · intro b hb hmay
      have := hm.block b hb hmay
      rw [hold b (by have := hm.size; omega)]
      exact this
    · intro b hb; rw [hh] at hb; simp at hb; exact hm.fresh b (by omega)
  have hU : ∀ id, U id = true → upd U d true id = true := by
    intro id hi
    by_cases e : id = d
    · subst e; rw [hd] at hi; cases hi
    · rw [upd_ne _ _ e]; exact hi
  have hν : ∀ id, U id = true → upd ν d v id = ν id := by
    intro id hi
    by_cases e : id = d
    · subst e; rw [hd] at hi; cases hi
    · rw [upd_ne _ _ e]
  have hrow : Row B γ w' w.heap.size xs := by
    refine ⟨.inl hm.size, hm.fresh _ (Nat.le_refl _), h1, T, ?_⟩
    rw [hh, Array.getElem?_push, if_pos rfl]
  refine ⟨hmem, ?_, hk, hU, hν⟩
  have hall : LocsOK B (upd U d true) (upd ν d v) γ w' L := hl.keepAll hk hU hν (fun id c b hc ho => ⟨hold b ((hl.ok id c hc).lt ho), rfl⟩)
  refine hall.add (upd_same _ _ _) (hc hrow hk hold) ?_
  intro b hb j e hj hne ho
  have h2 := Owns.keep (hl.ok j e hj) (hν j (hl.used j e hj)) (fun b ho => hold b ((hl.ok j e hj).lt ho)) ho
  have h3 := (hl.ok j e hj).lt h2
  rcases hown b hb with rfl | hbS
  · omega
  · exact (hS b hbS).2 j e hj h2
theorem Step.writeS (hm : Mem B γ w) (hl : LocsOK B U ν γ w L) {id b : Nat} {c c' : LC} {xs : List Value} {S : List Nat} (hS : ∀ b ∈ S, ∀ j e, L j = some e → ¬ Owns ν w j e b) (hid : L id = some c) (hrow : Row B γ w b xs) (hown : Owns ν w id c b) {ys : List Value}
    (h1 : ∀ x ∈ ys, x.oneCell' = true) (hh : ∀ b', b' ≠ b → w'.heap[b']? = w.heap[b']?) (hT : ∀ T, w.heap[b]? = some (.cells xs.toArray T (0, 0)) → w'.heap[b]? = some (.cells ys.toArray T (0, 0)))
    (hs : w'.heap.size = w.heap.size) (hos : w'.os = w.os) (htp : w'.tape = w.tape) (hou : w'.output = w.output)
    (hc : Row B γ w' b ys → Keeps γ w γ w' → LocOK B U ν γ w' id c') (hown' : ∀ b', Owns ν w' id c' b' → Owns ν w id c b' ∨ b' ∈ S) :
    Step B U ν γ w U ν γ w' (upd L id (some c')) := by
  obtain ⟨hok, hg0, -, T, hb⟩ := hrow
  have hk : Keeps γ w γ w' := by
    refine ⟨fun _ => Nat.le_refl _, fun b' o ho => cell_eq (hh b' ?_)⟩
    rintro rfl; rw [hg0] at ho; omega
  have hmem : Mem B γ w' := by
    refine ⟨hos.trans hm.os, htp.trans hm.tape, hou.trans hm.output, by rw [hs]; exact hm.size, ?_, ?_, hm.keeps.trans hk⟩
    · intro b' hb' hmay
      have : b' ≠ b := by
        rintro rfl
        rcases hok with h | h
        · omega
        · exact hmay h
      rw [hh b' this]; exact hm.block b' hb' hmay
    · intro b' hb'; rw [hs] at hb'; exact hm.fresh b' hb'
  refine ⟨hmem, ?_, hk, fun _ h => h, fun _ _ => rfl⟩
  have hne : ∀ j c b', upd L id none j = some c → Owns ν w j c b' → b' ≠ b := by
    intro j c2 b' hj ho
    rcases upd_cases hj with ⟨_, h'⟩ | ⟨hne, h'⟩
    · cases h'
    · rintro rfl; exact hne (hl.apart j id c2 c b' h' hid ho hown)
  have hothers : LocsOK B U ν γ w' (upd L id none) := by
    refine (hl.drop id).keepAll hk (fun _ h => h) (fun _ _ => rfl) ?_
    intro j c2 b' hj ho
    exact ⟨hh b' (hne j c2 b' hj ho), rfl⟩
  have := hothers.add (d := id) (c := c') (hl.used _ _ hid) (hc ⟨hok, hg0, h1, T, hT T hb⟩ hk) (by
    intro b' hb' j e hj hne' ho
    have h2 := Owns.keep ((hl.drop id).ok j e hj) rfl (fun b'' ho => hh b'' (hne j e b'' hj ho)) ho
    rcases upd_cases hj with ⟨_, h'⟩ | ⟨hne2, h'⟩
    · cases h'
    · rcases hown' b' hb' with h3 | h3
      · exact hne2 (hl.apart j id e c b' h' hid h2 h3)
      · exact hS b' h3 j e h' h2)
  have e2 : upd (upd L id none) id (some c') = upd L id (some c') := by
    funext t
    by_cases ht : t = id
    · subst ht; rw [upd_same, upd_same]
    · rw [upd_ne _ _ ht, upd_ne _ _ ht, upd_ne _ _ ht]
  rwa [e2] at this
theorem Step.rewriteS (hm : Mem B γ w) (hl : LocsOK B U ν γ w L) {id b d : Nat} {c c' : LC} {xs : List Value} {S : List Nat} (hS : ∀ b ∈ S, ∀ j e, L j = some e → ¬ Owns ν w j e b) (hid : L id = some c) (hd : U d = false) (hrow : Row B γ w b xs) (hown : Owns ν w id c b) {ys : List Value} {v : Value}
    (h1 : ∀ x ∈ ys, x.oneCell' = true) (hh : ∀ b', b' ≠ b → w'.heap[b']? = w.heap[b']?) (hT : ∀ T, w.heap[b]? = some (.cells xs.toArray T (0, 0)) → w'.heap[b]? = some (.cells ys.toArray T (0, 0)))
    (hs : w'.heap.size = w.heap.size) (hos : w'.os = w.os) (htp : w'.tape = w.tape) (hou : w'.output = w.output)
    (hc : Row B γ w' b ys → Keeps γ w γ w' → LocOK B (upd U d true) (upd ν d v) γ w' d c') (hown' : ∀ b', Owns (upd ν d v) w' d c' b' → Owns ν w id c b' ∨ b' ∈ S) :
    Step B U ν γ w (upd U d true) (upd ν d v) γ w' (upd (upd L id none) d (some c')) := by
  obtain ⟨hok, hg0, -, T, hb⟩ := hrow
  have hk : Keeps γ w γ w' := by
    refine ⟨fun _ => Nat.le_refl _, fun b' o ho => cell_eq (hh b' ?_)⟩
    rintro rfl; rw [hg0] at ho; omega
  have hmem : Mem B γ w' := by
    refine ⟨hos.trans hm.os, htp.trans hm.tape, hou.trans hm.output, by rw [hs]; exact hm.size, ?_, ?_, hm.keeps.trans hk⟩
    · intro b' hb' hmay
      have : b' ≠ b := by
        rintro rfl
        rcases hok with h | h
        · omega
        · exact hmay h
      rw [hh b' this]; exact hm.block b' hb' hmay
    · intro b' hb'; rw [hs] at hb'; exact hm.fresh b' hb'
  have hU : ∀ id, U id = true → upd U d true id = true := by
    intro id hi
    by_cases e : id = d
    · subst e; rw [hd] at hi; cases hi
    · rw [upd_ne _ _ e]; exact hi
  have hν : ∀ id, U id = true → upd ν d v id = ν id := by
    intro id hi
    by_cases e : id = d
    · subst e; rw [hd] at hi; cases hi
    · rw [upd_ne _ _ e]
  refine ⟨hmem, ?_, hk, hU, hν⟩
  have hne : ∀ j c b', upd L id none j = some c → Owns ν w j c b' → b' ≠ b := by
    intro j c2 b' hj ho
    rcases upd_cases hj with ⟨_, h'⟩ | ⟨hne, h'⟩
    · cases h'
    · rintro rfl; exact hne (hl.apart j id c2 c b' h' hid ho hown)
  have hothers : LocsOK B (upd U d true) (upd ν d v) γ w' (upd L id none) := by
    refine (hl.drop id).keepAll hk hU hν ?_
    intro j c2 b' hj ho
    exact ⟨hh b' (hne j c2 b' hj ho), rfl⟩
  refine hothers.add (upd_same _ _ _) (hc ⟨hok, hg0, h1, T, hT T hb⟩ hk) ?_
  intro b' hb' j e hj hne' ho
  have h2 := Owns.keep ((hl.drop id).ok j e hj) (hν j ((hl.drop id).used j e hj)) (fun b'' ho => hh b'' (hne j e b'' hj ho)) ho
  rcases upd_cases hj with ⟨_, h'⟩ | ⟨hne2, h'⟩
  · cases h'
  · rcases hown' b' hb' with h3 | h3
    · exact hne2 (hl.apart j id e c b' h' hid h2 h3)
    · exact hS b' h3 j e h' h2
theorem Inner.owned {id : Nat} {E : El} {l : List (ElT E)} {b cap c : Nat} {xs bss} (h : Inner B γ w E l xs bss) (e : ν id = .slice (some ⟨b, 0, none⟩) l.length cap) (hM : l.length ≤ MX) (hc : l.length ≤ cap) (hrow : Row B γ w b xs) (hlen : xs.length = cap * esz E)
    (ho : Owns ν w id (.tree E l) c) : c = b ∨ c ∈ inn (l.length * esz E) bss := by
  rcases ho with ⟨len, cap', e', -⟩ | ⟨bs, hd, hcm⟩
  · rw [e] at e'; simp at e'; exact .inl e'.1.symm
  · rw [e] at hd
    by_cases h0 : l = []
    · rcases hd.inv_ps with ⟨-, h1, -⟩ | ⟨_, _, _, _, _, h1, -⟩
      · rw [h1] at hcm; simp at hcm
      · exact absurd h0 h1
    · obtain ⟨-, -, h1, T, hb⟩ := hrow
      have := (Deep.sl E l b cap xs T bss hM hc h0 hb hlen h1 h.deep).det hd
      rw [this] at hcm
      exact List.mem_cons.1 hcm
end Go.Rs
end
section
namespace Go.Rs
variable {P : Program} {B : Base} {U U' U'' : Nat → Bool} {ν ν' ν'' : Nat → Value} {γ γ' γ'' : Nat → Nat} {w w' w'' : World} {L L' L'' : Locs}
theorem persistL_frz : ∀ (vs vs' : List AV) (xs : List Value) (γ : Nat → Nat) (L L' : Locs), Mem B γ w → LocsOK B U ν γ w L → CellsIs U ν γ w xs vs → persistL L vs = some (vs', L') →
    ∃ γ', Frz B U ν γ w L γ' L' ∧ CellsIs U ν γ' w xs vs'
  | [], vs', xs, γ, L, L', hm, hl, hr, hp => by simp only [persistL, Option.some.injEq, Prod.mk.injEq] at hp; obtain ⟨rfl, rfl⟩ := hp; exact ⟨γ, .refl hm hl, hr⟩
  | v :: r, vs', xs, γ, L, L', hm, hl, hr, hp => by
    simp only [persistL] at hp
    split at hp
    · rename_i v' L1 h1
      split at hp
      · rename_i r' L2 h2
        simp only [Option.some.injEq, Prod.mk.injEq] at hp; obtain ⟨rfl, rfl⟩ := hp
        cases xs with
        | nil => exact absurd hr.len (by simp)
        | cons x xs =>
          have hv := hr.rep 0 (by simp)
          simp at hv
          obtain ⟨γ1, s1, hv1⟩ := persist_frz hm hl hv h1
          have hr1 : CellsIs U ν γ1 w xs r := ⟨by have := hr.len; simp at this; exact this, fun y hy => hr.one y (by simp [hy]), fun i hi => by
            have := s1.step.rep (hr.rep (i + 1) (by simpa using hi))
            simpa using this⟩
          obtain ⟨γ2, s2, hr2⟩ := persistL_frz r r' xs γ1 L1 L2 s1.step.mem s1.step.locs hr1 h2
          refine ⟨γ2, s1.trans s2, ⟨by have := hr2.len; simp [this], hr.one, fun i hi => ?_⟩⟩
          cases i with
          | zero => simpa using s2.step.rep hv1
          | succ i => simpa using hr2.rep i (by simpa using hi)
      · cases hp
    · cases hp
theorem persistS_frz (hm : Mem B γ w) (hl : LocsOK B U ν γ w L) {x v v'} (hr : Rep U ν γ w x v) (hp : persistS L v = some (v', L')) :
    ∃ γ', Frz B U ν γ w L γ' L' ∧ Rep U ν γ' w x v' := by
  unfold persistS at hp
  split at hp
  · rename_i cs
    split at hp
    · rename_i cs' L1 h1
      simp only [Option.some.injEq, Prod.mk.injEq] at hp; obtain ⟨rfl, rfl⟩ := hp
      cases hr with
      | st xs _ hl' h1' hr =>
        obtain ⟨γ', s, hc⟩ := persistL_frz cs cs' xs γ L L1 hm hl ⟨hl', h1', hr⟩ h1
        exact ⟨γ', s, .st xs cs' hc.len hc.one hc.rep⟩
    · cases hp
  · exact persist_frz hm hl hr hp
theorem persistS_sound (hm : Mem B γ w) (hl : LocsOK B U ν γ w L) {x v v'} (hr : Rep U ν γ w x v) (hp : persistS L v = some (v', L')) :
    ∃ γ', Step B U ν γ w U ν γ' w L' ∧ Rep U ν γ' w x v' := by
  obtain ⟨γ', h, h'⟩ := persistS_frz hm hl hr hp
  exact ⟨γ', h.step, h'⟩
theorem lSlice_sound {T : Tab} (hT : TabOK P T) (hm : Mem B γ w) {s : AS} (hl : LocsOK B s.used ν γ w s.locs) {ρ : Operand → Value} {t : Nat} {x : Value} {v : AV} {lo hi : Option Operand} (h : Rep s.used ν γ w x v)
    (hlo : ∀ y, lo = some y → Rep s.used ν γ w (ρ y) (s.rd y)) (hhi : ∀ y, hi = some y → Rep s.used ν γ w (ρ y) (s.rd y)) {r} (hq : lSlice s (T t) v lo hi = some r) (hO : ∀ p, r.1 = some p → p) (d : Option Nat) :
    LSound P B s ν γ w (do pure (.value (← Instr.sliceAt t x (lo.map ρ) (hi.map ρ) none))) d r := by
  unfold lSlice at hq
  split at hq
  · rename_i v' L' hp
    obtain ⟨γ', st, hr'⟩ := persist_sound hm hl h hp
    split at hq
    · rename_i O r' hq'
      cases hq
      obtain ⟨y, h1, h2⟩ := qSlice_sound (P := P) hT hr' (fun y hy => st.rep (hlo y hy)) (fun y hy => st.rep (hhi y hy)) hq' hO
      exact ⟨ν, γ', w, st, .inl ⟨y, run_v _ h1, h2⟩⟩
    · cases hq
  · cases hq
theorem Step.rename (hm : Mem B γ w) (hl : LocsOK B U ν γ w L) {id d : Nat} {c c' : LC} {v : Value} (hid : L id = some c) (hd : U d = false) (hc : LocOK B (upd U d true) (upd ν d v) γ w d c') (hown : ∀ b, Owns (upd ν d v) w d c' b → Owns ν w id c b) :
    Step B U ν γ w (upd U d true) (upd ν d v) γ w (upd (upd L id none) d (some c')) := by
  have hU : ∀ id, U id = true → upd U d true id = true := by
    intro id hi
    by_cases e : id = d
    · subst e; rw [hd] at hi; cases hi
    · rw [upd_ne _ _ e]; exact hi
  have hν : ∀ id, U id = true → upd ν d v id = ν id := by
    intro id hi
    by_cases e : id = d
    · subst e; rw [hd] at hi; cases hi
    · rw [upd_ne _ _ e]
  refine ⟨hm, ?_, .refl _ _, hU, hν⟩
  have hothers : LocsOK B (upd U d true) (upd ν d v) γ w (upd L id none) := (hl.drop id).keepAll (.refl _ _) hU hν fun _ _ _ _ _ => ⟨rfl, rfl⟩
  refine hothers.add (upd_same _ _ _) hc ?_
  intro b' hb' j e hj hne' ho
  have h2 := Owns.keep ((hl.drop id).ok j e hj) (hν j ((hl.drop id).used j e hj)) (fun _ _ => rfl) ho
  rcases upd_cases hj with ⟨_, h'⟩ | ⟨hne2, h'⟩
  · cases h'
  · exact hne2 (hl.apart j id e c b' h' hid h2 (hown b' hb'))
theorem lSliceD_sound {T : Tab} (hT : TabOK P T) (hm : Mem B γ w) {s : AS} (hl : LocsOK B s.used ν γ w s.locs) {ρ : Operand → Value} {t d0 : Nat} {x : Value} {v : AV} {lo hi : Option Operand} (h : Rep s.used ν γ w x v)
    (hlo : ∀ y, lo = some y → Rep s.used ν γ w (ρ y) (s.rd y)) (hhi : ∀ y, hi = some y → Rep s.used ν γ w (ρ y) (s.rd y)) {r} (hq : lSliceD s d0 (T t) v lo hi = some r) (hO : ∀ p, r.1 = some p → p) (d : Option Nat) :
    LSound P B s ν γ w (do pure (.value (← Instr.sliceAt t x (lo.map ρ) (hi.map ρ) none))) d r := by
  have old : lSlice s (T t) v lo hi = some r → LSound P B s ν γ w (do pure (.value (← Instr.sliceAt t x (lo.map ρ) (hi.map ρ) none))) d r := fun h' => lSlice_sound (P := P) hT hm hl h hlo hhi h' hO d
  have hTt := hT t
  unfold lSliceD at hq
  split at hq
  · rename_i x0 x1 x2 x3 E' id hD hTE
    split at hq
    · rename_i E l hh hid hop
      split at hq
      · rename_i y hde
        have hE := of_decide_eq_true hde; subst hE
        obtain ⟨hd, hq⟩ := fresh_some hq
        cases hq
        obtain ⟨h0, h1⟩ := hO _ rfl
        rw [hTE] at hTt
        obtain ⟨i, e, ei, z, -, -, -, hu, hei, hes, -⟩ := hTt
        obtain ⟨a, cap, hν, hMX, hc, harr⟩ := hl.ok _ _ hid
        have hxv : x = ν id := by cases h; rfl
        have hop2 : optI s l.length (some y) = some hh := hop
        have hb := run_sliceBounds (P := P) (U := s.used) (ν := ν) (γ := γ) (w := w) (sl := true) (len := l.length) (cap := cap) (lo := none) (hi := some y) (ρ := ρ) (l := 0) hlo hhi rfl hop2 ⟨Int.le_refl _, h0, h1⟩ hc
        have hlt : (l.take hh.toNat).length = hh.toNat := by simp; omega
        have ea : (if cap = 0 then a else a.map (·.add (0 * ei.size))) = a := by
          split
          · rfl
          · cases a <;> simp [Addr.add]
        have hrun : (Instr.sliceAt t (.slice a l.length cap) ((none : Option Operand).map ρ) ((some y).map ρ) none).run P w = .ok (.slice a hh.toNat cap) w := by
          simp only [Int.toNat_zero] at hb
          simp [Instr.sliceAt, Instr.slice, run_underlying' hu, run_sizeOf hei]
          simp at hb
          simp [hb]
          simpa using ea
        have hst := Step.rename hm hl hid hd (c' := .arr E' (l.take hh.toNat)) (v := .slice a hh.toNat cap) ⟨a, cap, by rw [upd_same, hlt], by rw [hlt]; omega, by rw [hlt]; omega, by
            rcases harr with hz | ⟨b, xs, ea, hrow, hlen, hrep⟩
            · exact .inl hz
            · refine .inr ⟨b, xs, ea, hrow, hlen, fun k hk j hj => ?_⟩
              rw [hlt] at hk
              have e3 : (l.take hh.toNat).getD k (elDef E') = l.getD k (elDef E') := by simp [List.getD_eq_getElem?_getD, hk]
              rw [e3]
              exact (hrep k (by omega) j hj).keep (.refl _ _) (fun id hi => by
                by_cases e : id = d0
                · subst e; rw [hd] at hi; cases hi
                · rw [upd_ne _ _ e]; exact hi) (fun id hi => by
                by_cases e : id = d0
                · subst e; rw [hd] at hi; cases hi
                · rw [upd_ne _ _ e])⟩
          (fun b ho => by
            obtain ⟨len, cap', e, hne⟩ := ho
            rw [upd_same] at e
            simp only [Value.slice.injEq] at e
            obtain ⟨rfl, rfl, rfl⟩ := e
            exact ⟨_, _, hν, hne⟩)
        refine ⟨_, γ, w, hst, .inl ⟨.slice a hh.toNat cap, run_v _ (by rw [hxv, hν]; exact hrun), ?_⟩⟩
        have := Rep.ls (U := upd s.used d0 true) (ν := upd ν d0 (.slice a hh.toNat cap)) (γ := γ) (w := w) d0 (upd_same _ _ _) (by rw [upd_same]; rfl)
        rw [upd_same] at this; exact this
      · exact old hq
    · exact old hq
  · rename_i x0 x1 x2 x3 E' E hD hTE
    split at hq
    case h_2 => cases hq
    rename_i hh hop
    cases hq
    obtain ⟨h0, h1⟩ := hO _ rfl
    rw [hTE] at hTt
    obtain ⟨i, e, ei, z, -, -, -, hu, hei, hes, -⟩ := hTt
    have hxv : x = .slice none 0 0 := by cases h; rfl
    have hb := run_sliceBounds (P := P) (U := s.used) (ν := ν) (γ := γ) (w := w) (sl := true) (len := 0) (cap := 0) (lo := none) (hi := hi) (ρ := ρ) (l := 0) hlo hhi rfl hop ⟨Int.le_refl _, h0, h1⟩ (Nat.le_refl _)
    have hh0 : hh.toNat = 0 := by omega
    rw [hh0] at hb
    refine ⟨ν, γ, w, .refl hm hl, .inl ⟨.slice none 0 0, run_v _ ?_, .nils _⟩⟩
    rw [hxv]
    simp only [Int.toNat_zero] at hb
    simp [Instr.sliceAt, Instr.slice, run_underlying' hu, run_sizeOf hei]
    simp at hb
    simp [hb]
  · exact old hq
theorem splice_get (xs ys : List Value) (off : Nat) (h : off + ys.length ≤ xs.length) (k : Nat) :
    (xs.take off ++ ys ++ xs.drop (off + ys.length))[k]? = if off ≤ k ∧ k < off + ys.length then ys[k - off]? else xs[k]? := by
  by_cases h1 : k < off
  · rw [if_neg (by omega), List.append_assoc, List.getElem?_append_left (by simp; omega)]
    simp [h1]
  · by_cases h2 : k < off + ys.length
    · rw [if_pos (by omega), List.getElem?_append_left (by simp; omega), List.getElem?_append_right (by simp; omega)]
      simp [show min off xs.length = off by omega]
    · rw [if_neg (by omega), List.getElem?_append_right (by simp; omega), List.getElem?_drop]
      congr 1
      simp; omega
theorem run_storeVar {t : Nat} {i : TypeInfo} (hi : P.info? t = some i) {b off : Nat} {xs : List Value} {T : Nat} (hb : w.heap[b]? = some (.cells xs.toArray T (0, 0))) {v : Value} (hs : v.cells.size = i.size)
    (hle : off + v.cells.toList.length ≤ xs.length) (h1 : ∀ x ∈ v.cells.toList, x.oneCell' = true) :
    (storeVar t ⟨b, off, none⟩ v).run P w = .ok () (w.setRow b (xs.take off ++ v.cells.toList ++ xs.drop (off + v.cells.toList.length)).toArray) := by
  have := run_storeCells_at P b off T v.cells.toList 0 xs.toArray w hb (by simpa using hle) h1
  simp only [Nat.add_zero] at this
  simp [storeVar, run_sizeOf hi, hs, this]
theorem run_u (e : Sem Unit) (h : e.run P w = .ok () w') : ((do e; pure Next.skip) : Sem Next).run P w = .ok .skip w' := by
  rw [Sem.run_bind, h]; rfl
theorem setRow_facts {b : Nat} {xs ys : List Value} {T : Nat} (_hb : w.heap[b]? = some (.cells xs.toArray T (0, 0))) :
    (∀ b', b' ≠ b → (w.setRow b ys.toArray).heap[b']? = w.heap[b']?) ∧ (∀ T, w.heap[b]? = some (.cells xs.toArray T (0, 0)) → (w.setRow b ys.toArray).heap[b]? = some (.cells ys.toArray T (0, 0))) ∧ (w.setRow b ys.toArray).heap.size = w.heap.size :=
  ⟨fun b' h => setRow_other w b b' _ h, fun T h => setRow_heap w b _ _ T _ h, setRow_size w b _⟩
theorem lStoreT_sound {t : Nat} {ti : TI} (hT : TIOK P t ti) (hm : Mem B γ w) {s : AS} (hl : LocsOK B s.used ν γ w s.locs) {x y : Value} {E : El} {id : Nat} {i : Int} {off : Nat} {v : AV} (hx : Rep s.used ν γ w x (.ap E id i off)) (hy : Rep s.used ν γ w y v)
    {r} (hq : lStoreT s ti E id i off v = some r) : LSound P B s ν γ w (do Instr.storeAt t x y; pure .skip) none r := by
  unfold lStoreT at hq
  split at hq
  case h_2 => cases hq
  rename_i v' L' hp
  obtain ⟨γ', ss, hg, hd, hf⟩ := absorbS_sound hm hl hy hp
  have hx' := hg.step.rep hx
  cases hx' with
  | ap _ _ _ _ b len cap hu hν h0 hi1 =>
    split at hq
    case h_2 => cases hq
    rename_i E' l hid
    split at hq
    case h_2 => cases hq
    rename_i hE
    have := of_decide_eq_true hE; subst this
    simp only [seqV_eq] at hq
    split at hq
    case h_2 => cases hq
    rename_i h1 h2 h3
    split at hq
    case h_2 => cases hq
    rename_i elt hdec
    cases hq
    have h1' := Nat.eq_of_beq_eq_true h1
    have h2' := Nat.le_of_ble_eq_true h2
    have h3' := Nat.le_of_ble_eq_true h3
    obtain ⟨a', cap', e, hMX, hc, harr⟩ := hg.locs.ok _ _ hid
    rw [hν] at e
    simp only [Value.slice.injEq] at e
    obtain ⟨rfl, rfl, rfl⟩ := e
    rcases harr with hz | ⟨b', xs, bss, e2, hrow, hlen, hin⟩
    · exfalso; omega
    · simp only [Option.some.injEq, Addr.mk.injEq, and_true] at e2
      subst e2
      obtain ⟨ii, hii, hsz⟩ := ti_info hT (by omega)
      have hrow0 := hrow
      obtain ⟨hok, hg0, ho1, T, hb⟩ := hrow
      have hyl := hd.len
      have hil : i.toNat < l.length := by omega
      have hpos := esz_pos E'
      have hbound : i.toNat * esz E' + off + (cellsOf v').length ≤ xs.length := by
        have h4 : (i.toNat + 1) * esz E' ≤ cap * esz E' := Nat.mul_le_mul_right _ (by omega)
        rw [Nat.add_mul] at h4
        rw [hlen]; omega
      have hrun := run_storeVar (P := P) hii hb (off := i.toNat * esz E' + off) (v := y) (by rw [hsz, ← h1', ← hyl]; simp) (by rw [hyl]; exact hbound) hd.one
      have hget := splice_get xs y.cells.toList (i.toNat * esz E' + off) (by rw [hyl]; exact hbound)
      obtain ⟨f1, f2, f3⟩ := setRow_facts (ys := xs.take (i.toNat * esz E' + off) ++ y.cells.toList ++ xs.drop (i.toNat * esz E' + off + y.cells.toList.length)) hb
      have hone : ∀ z ∈ xs.take (i.toNat * esz E' + off) ++ y.cells.toList ++ xs.drop (i.toNat * esz E' + off + y.cells.toList.length), z.oneCell' = true := by
        intro z hz
        simp only [List.mem_append] at hz
        rcases hz with (hz | hz) | hz
        · exact ho1 z (List.mem_of_mem_take hz)
        · exact hd.one z hz
        · exact ho1 z (List.mem_of_mem_drop hz)
      have hother : ∀ c, 0 < γ' c → (w.setRow b (xs.take (i.toNat * esz E' + off) ++ y.cells.toList ++ xs.drop (i.toNat * esz E' + off + y.cells.toList.length)).toArray).heap[c]? = w.heap[c]? :=
        fun c hcp => f1 c (by rintro rfl; omega)
      have hpI : ∀ c ∈ inn (l.length * esz E') bss, 0 < γ' c := fun c hc' => by
        obtain ⟨k, j, hk, hj, hcm⟩ := inn_ij hc'
        exact (hin.deep k hk j hj).pos hcm (hin.ok c hc').2
      have hpS : ∀ c ∈ inn (cellsOf v').length ss, 0 < γ' c := fun c hc' => by
        obtain ⟨k, hk, hcm⟩ := inn_mem.1 hc'
        exact (hd.deep k hk).pos hcm (hf c hc')
      have hlset : (l.set i.toNat elt).length = l.length := List.length_set
      -- the new row of elements
      have hIn : Inner B γ' (w.setRow b (xs.take (i.toNat * esz E' + off) ++ y.cells.toList ++ xs.drop (i.toNat * esz E' + off + y.cells.toList.length)).toArray) E' (l.set i.toNat elt)
          (xs.take (i.toNat * esz E' + off) ++ y.cells.toList ++ xs.drop (i.toNat * esz E' + off + y.cells.toList.length))
          (fun k => if i.toNat * esz E' + off ≤ k ∧ k < i.toNat * esz E' + off + (cellsOf v').length then ss (k - (i.toNat * esz E' + off)) else bss k) := by
        have hmem : ∀ c, c ∈ inn ((l.set i.toNat elt).length * esz E') (fun k => if i.toNat * esz E' + off ≤ k ∧ k < i.toNat * esz E' + off + (cellsOf v').length then ss (k - (i.toNat * esz E' + off)) else bss k) →
            c ∈ inn (cellsOf v').length ss ∨ c ∈ inn (l.length * esz E') bss := by
          intro c hcm
          obtain ⟨k, hk, hcm⟩ := inn_mem.1 hcm
          rw [hlset] at hk
          try simp only at hcm
          split at hcm
          · exact .inl (inn_mem.2 ⟨_, by omega, hcm⟩)
          · exact .inr (inn_mem.2 ⟨k, hk, hcm⟩)
        refine ⟨fun k hk' j hj => ?_, ?_, fun c hcm => ?_⟩
        · rw [List.length_set] at hk'
          rw [List.getD_eq_getElem?_getD, hget (k * esz E' + j)]
          by_cases hki : k = i.toNat
          · subst hki
            have eset : (l.set i.toNat elt).getD i.toNat (elDef E') = elt := by simp [List.getD_eq_getElem?_getD, hil]
            rw [eset, dec_enc hdec, spliceC_getD _ _ _ _ (by rw [enc_len]; exact h2')]
            by_cases hj2 : off ≤ j ∧ j < off + (cellsOf v').length
            · rw [if_pos (by omega), if_pos hj2, if_pos (by omega)]
              have h5 := (hd.deep (j - off) (by omega)).keep (w' := w.setRow b (xs.take (i.toNat * esz E' + off) ++ y.cells.toList ++ xs.drop (i.toNat * esz E' + off + y.cells.toList.length)).toArray) fun c hc' => hother c (hpS c (inn_mem.2 ⟨_, by omega, hc'⟩))
              rw [List.getD_eq_getElem?_getD] at h5
              have e3 : i.toNat * esz E' + j - (i.toNat * esz E' + off) = j - off := by omega
              rw [e3]; exact h5
            · rw [if_neg (by omega), if_neg hj2, if_neg (by omega)]
              have h5 := (hin.deep i.toNat hil j hj).keep (w' := w.setRow b (xs.take (i.toNat * esz E' + off) ++ y.cells.toList ++ xs.drop (i.toNat * esz E' + off + y.cells.toList.length)).toArray) fun c hc' => hother c (hpI c (inn_mem.2 ⟨_, idx_lt hil hj, hc'⟩))
              rwa [List.getD_eq_getElem?_getD] at h5
          · have eset : (l.set i.toNat elt).getD k (elDef E') = l.getD k (elDef E') := by
              simp [List.getD_eq_getElem?_getD, List.getElem?_set_ne (Ne.symm hki)]
            rw [eset]
            have hout : ¬ (i.toNat * esz E' + off ≤ k * esz E' + j ∧ k * esz E' + j < i.toNat * esz E' + off + (cellsOf v').length) := by
              rcases Nat.lt_or_ge k i.toNat with h | h
              · have : (k + 1) * esz E' ≤ i.toNat * esz E' := Nat.mul_le_mul_right _ h
                rw [Nat.add_mul] at this; omega
              · have : (i.toNat + 1) * esz E' ≤ k * esz E' := Nat.mul_le_mul_right _ (by omega)
                rw [Nat.add_mul] at this; omega
            rw [if_neg (by rw [hyl]; exact hout), if_neg hout]
            have h5 := (hin.deep k hk' j hj).keep (w' := w.setRow b (xs.take (i.toNat * esz E' + off) ++ y.cells.toList ++ xs.drop (i.toNat * esz E' + off + y.cells.toList.length)).toArray) fun c hc' => hother c (hpI c (inn_mem.2 ⟨_, idx_lt hk' hj, hc'⟩))
            rwa [List.getD_eq_getElem?_getD] at h5
        · rw [hlset]
          have hn1 := inn_nodup.1 hin.nodup
          have hn2 := inn_nodup.1 hg.given.nodup
          have hdis : ∀ c ∈ inn (cellsOf v').length ss, c ∉ inn (l.length * esz E') bss := fun c hc1 hc2 => hg.given.out c hc1 id _ hid (hin.owns hν hMX hc hrow0 hlen c hc2)
          refine inn_nodup.2 ⟨fun k hk => ?_, fun j k hj hk c hc1 hc2 => ?_⟩
          · try simp only
            split
            · exact hn2.1 _ (by omega)
            · exact hn1.1 k hk
          · try simp only at hc1 hc2
            split at hc1 <;> split at hc2
            · exact hn2.2 (j - (i.toNat * esz E' + off)) (k - (i.toNat * esz E' + off)) (by omega) (by omega) c hc1 hc2
            · exact hdis c (inn_mem.2 ⟨_, by omega, hc1⟩) (inn_mem.2 ⟨k, hk, hc2⟩)
            · exact hdis c (inn_mem.2 ⟨_, by omega, hc2⟩) (inn_mem.2 ⟨j, by omega, hc1⟩)
            · exact hn1.2 j k hj hk c hc1 hc2
        · rcases hmem c hcm with h | h
          · exact ⟨hg.given.ok c h, fun ys T fz hh => hf c h ys T fz (by rw [← hother c (hpS c h)]; exact hh)⟩
          · exact ⟨(hin.ok c h).1, fun ys T fz hh => (hin.ok c h).2 ys T fz (by rw [← hother c (hpI c h)]; exact hh)⟩
      have hlen2 : (xs.take (i.toNat * esz E' + off) ++ y.cells.toList ++ xs.drop (i.toNat * esz E' + off + y.cells.toList.length)).length = cap * esz E' := by
        rw [← hlen]
        have := hbound
        simp only [List.length_append, List.length_take, List.length_drop, hyl]
        omega
      have hν2 : ν id = .slice (some ⟨b, 0, none⟩) (l.set i.toNat elt).length cap := by rw [hν, hlset]
      have hst := Step.writeS hg.mem hg.locs (S := inn (cellsOf v').length ss) (fun c hcm => hg.given.out c hcm) hid hrow0 (show Owns ν w id (.tree E' l) b from .inl ⟨_, _, hν, by omega⟩) hone f1 f2 f3 rfl rfl rfl (c' := .tree E' (l.set i.toNat elt))
        (fun hr _ => ⟨some ⟨b, 0, none⟩, cap, hν2, by rw [hlset]; exact hMX, by rw [hlset]; exact hc, .inr ⟨b, _, _, rfl, hr, hlen2, hIn⟩⟩)
        (fun c ho => by
          rcases hIn.owned hν2 (by rw [hlset]; exact hMX) (by rw [hlset]; exact hc) ⟨hok, hg0, hone, T, f2 T hb⟩ hlen2 ho with rfl | h
          · exact .inl (.inl ⟨_, _, hν, by omega⟩)
          · obtain ⟨k, hk, hcm⟩ := inn_mem.1 h
            rw [hlset] at hk
            try simp only at hcm
            split at hcm
            · exact .inr (inn_mem.2 ⟨_, by omega, hcm⟩)
            · exact .inl (hin.owns hν hMX hc hrow0 hlen c (inn_mem.2 ⟨k, hk, hcm⟩)))
      exact ⟨ν, γ', _, hg.step.trans hst, .inr ⟨rfl, rfl, run_u _ (by simpa [Instr.storeAt, Instr.sureAddr] using hrun)⟩⟩
theorem lStore_sound {t : Nat} {ti : TI} (hT : TIOK P t ti) (hm : Mem B γ w) {s : AS} (hl : LocsOK B s.used ν γ w s.locs) {x y : Value} {a v : AV} (hx : Rep s.used ν γ w x a) (hy : Rep s.used ν γ w y v)
    {r} (hq : lStore s ti a v = some r) : LSound P B s ν γ w (do Instr.storeAt t x y; pure .skip) none r := by
  unfold lStore at hq
  split at hq
  · rename_i id off
    cases hx with
    | lp _ _ b hu hν =>
      split at hq
      · rename_i cs hid
        simp only [seqV_eq] at hq
        split at hq
        · rename_i h1 h2 h3
          cases hq
          have h1' := Nat.eq_of_beq_eq_true h1
          have h2' := Nat.le_of_ble_eq_true h2
          have h3' := Nat.le_of_ble_eq_true h3
          obtain ⟨b', xs, hν', hrow, hlen, hrep⟩ := hl.ok _ _ hid
          rw [hν] at hν'
          simp only [Value.pointer.injEq, Option.some.injEq, Addr.mk.injEq, and_true] at hν'
          subst hν'
          obtain ⟨i, hi, hsz⟩ := ti_info hT (by omega)
          have hcy := CellsIs.of_cells hy (by intro e; rw [e] at h3'; simp at h3')
          have hrow0 := hrow
          obtain ⟨-, -, ho1, T, hb⟩ := hrow
          have hyl := hcy.len
          have hrun := run_storeVar (P := P) hi hb (off := off) (v := y) (by rw [hsz, ← h1', ← hyl]; simp) (by rw [hyl, hlen]; exact h2') hcy.one
          have hz := (CellsIs.mk (U := s.used) (ν := ν) (γ := γ) (w := w) hlen ho1 hrep).splice hcy h2' (fun k => splice_get xs y.cells.toList off (by rw [hyl, hlen]; exact h2') k)
          obtain ⟨f1, f2, f3⟩ := setRow_facts (ys := xs.take off ++ y.cells.toList ++ xs.drop (off + y.cells.toList.length)) hb
          have hst := Step.write hm hl hid hrow0 (show Owns ν w id (.box cs) b from hν) hz.one f1 f2 f3 rfl rfl rfl (c' := .box (spliceC cs off (cellsOf v)))
            (fun hr hk => ⟨b, _, hν, hr, hz.len, fun i hi => (hz.rep i hi).keep hk (fun _ h => h) (fun _ _ => rfl)⟩) (fun b' h => h)
          exact ⟨ν, γ, _, hst, .inr ⟨rfl, rfl, run_u _ (by simpa [Instr.storeAt, Instr.sureAddr] using hrun)⟩⟩
        · cases hq
      · cases hq
  · rename_i E id i off
    split at hq
    · exact lStoreT_sound hT hm hl hx hy hq
    split at hq
    · rename_i v' L' hp
      obtain ⟨γ', st, hy'⟩ := persistS_sound hm hl hy hp
      have hx' := st.rep hx
      cases hx' with
      | ap _ _ _ _ b len cap hu hν h0 hi1 =>
        split at hq
        · rename_i E' l hid
          split at hq
          · rename_i hE
            have := of_decide_eq_true hE; subst this
            simp only [seqV_eq] at hq
            split at hq
            · rename_i h1 h2 h3
              split at hq
              · rename_i elt hdec
                cases hq
                have h1' := Nat.eq_of_beq_eq_true h1
                have h2' := Nat.le_of_ble_eq_true h2
                have h3' := Nat.le_of_ble_eq_true h3
                obtain ⟨a', cap', e, hMX, hc, harr⟩ := st.locs.ok _ _ hid
                rw [hν] at e
                simp only [Value.slice.injEq] at e
                obtain ⟨rfl, rfl, rfl⟩ := e
                rcases harr with hz | ⟨b', xs, e2, hrow, hlen, hrep⟩
                · exfalso; omega
                · simp only [Option.some.injEq, Addr.mk.injEq, and_true] at e2
                  subst e2
                  obtain ⟨ii, hii, hsz⟩ := ti_info hT (by omega)
                  have hcy := CellsIs.of_cells hy' (by intro e; rw [e] at h3'; simp at h3')
                  have hrow0 := hrow
                  obtain ⟨-, -, ho1, T, hb⟩ := hrow
                  have hyl := hcy.len
                  have hil : i.toNat < l.length := by omega
                  have hbound : i.toNat * esz E' + off + (cellsOf v').length ≤ xs.length := by
                    have h4 : (i.toNat + 1) * esz E' ≤ cap * esz E' := Nat.mul_le_mul_right _ (by omega)
                    rw [Nat.add_mul] at h4
                    rw [hlen]; omega
                  have hrun := run_storeVar (P := P) hii hb (off := i.toNat * esz E' + off) (v := y) (by rw [hsz, ← h1', ← hyl]; simp) (by rw [hyl]; exact hbound) hcy.one
                  have hget := splice_get xs y.cells.toList (i.toNat * esz E' + off) (by rw [hyl]; exact hbound)
                  obtain ⟨f1, f2, f3⟩ := setRow_facts (ys := xs.take (i.toNat * esz E' + off) ++ y.cells.toList ++ xs.drop (i.toNat * esz E' + off + y.cells.toList.length)) hb
                  have hone : ∀ z ∈ xs.take (i.toNat * esz E' + off) ++ y.cells.toList ++ xs.drop (i.toNat * esz E' + off + y.cells.toList.length), z.oneCell' = true := by
                    intro z hz
                    simp only [List.mem_append] at hz
                    rcases hz with (hz | hz) | hz
                    · exact ho1 z (List.mem_of_mem_take hz)
                    · exact hcy.one z hz
                    · exact ho1 z (List.mem_of_mem_drop hz)
                  have hst := Step.write st.mem st.locs hid hrow0 (show Owns ν w id (.arr E' l) b from ⟨_, _, hν, by omega⟩) hone f1 f2 f3 rfl rfl rfl (c' := .arr E' (l.set i.toNat elt))
                    (fun hr hk => by
                      refine ⟨some ⟨b, 0, none⟩, cap, by rw [hν]; simp, by simpa using hMX, by simpa using hc, .inr ⟨b, _, rfl, hr, ?_, ?_⟩⟩
                      · rw [← hlen]
                        have := hbound
                        simp only [List.length_append, List.length_take, List.length_drop, hyl]
                        omega
                      · intro k hk' j hj
                        rw [List.length_set] at hk'
                        rw [List.getD_eq_getElem?_getD, hget (k * esz E' + j)]
                        by_cases hki : k = i.toNat
                        · subst hki
                          have eset : (l.set i.toNat elt).getD i.toNat (elDef E') = elt := by simp [List.getD_eq_getElem?_getD, hil]
                          rw [eset, dec_enc hdec, spliceC_getD _ _ _ _ (by rw [enc_len]; exact h2')]
                          by_cases hj2 : off ≤ j ∧ j < off + (cellsOf v').length
                          · rw [if_pos (by omega), if_pos hj2]
                            have := (hcy.rep (j - off) (by omega)).keep hk (fun _ h => h) (fun _ _ => rfl)
                            rw [List.getD_eq_getElem?_getD] at this
                            have e3 : i.toNat * esz E' + j - (i.toNat * esz E' + off) = j - off := by omega
                            rw [e3]; exact this
                          · rw [if_neg (by omega), if_neg hj2]
                            have := (hrep i.toNat hil j hj).keep hk (fun _ h => h) (fun _ _ => rfl)
                            rwa [List.getD_eq_getElem?_getD] at this
                        · have eset : (l.set i.toNat elt).getD k (elDef E') = l.getD k (elDef E') := by
                            simp [List.getD_eq_getElem?_getD, List.getElem?_set_ne (Ne.symm hki)]
                          rw [eset]
                          have hout : ¬ (i.toNat * esz E' + off ≤ k * esz E' + j ∧ k * esz E' + j < i.toNat * esz E' + off + y.cells.toList.length) := by
                            rw [hyl]
                            rcases Nat.lt_or_ge k i.toNat with h | h
                            · have : (k + 1) * esz E' ≤ i.toNat * esz E' := Nat.mul_le_mul_right _ h
                              rw [Nat.add_mul] at this; omega
                            · have : (i.toNat + 1) * esz E' ≤ k * esz E' := Nat.mul_le_mul_right _ (by omega)
                              rw [Nat.add_mul] at this; omega
                          rw [if_neg hout]
                          have := (hrep k hk' j hj).keep hk (fun _ h => h) (fun _ _ => rfl)
                          rwa [List.getD_eq_getElem?_getD] at this)
                    (fun b' h => by obtain ⟨a1, a2, a3, a4⟩ := h; exact ⟨a1, a2, a3, a4⟩)
                  exact ⟨ν, γ', _, st.trans hst, .inr ⟨rfl, rfl, run_u _ (by simpa [Instr.storeAt, Instr.sureAddr] using hrun)⟩⟩
              · cases hq
            · cases hq
          · cases hq
        · cases hq
    · cases hq
  · cases hq
end Go.Rs
end
section
namespace Go.Rs
variable {P : Program} {B : Base} {U U' U'' : Nat → Bool} {ν ν' ν'' : Nat → Value} {γ γ' γ'' : Nat → Nat} {w w' w'' : World} {L L' L'' : Locs}
theorem heap_cell {b o : Nat} (h : w'.heap = w.heap) : w'.cell? ⟨b, o, none⟩ = w.cell? ⟨b, o, none⟩ := cell_eq (by rw [h])
theorem SliceIs.first {x : Value} {E l} (h : SliceIs U ν γ w x E l) : ∃ news : List Value, news.length = l.length * esz E ∧ (∀ x ∈ news, x.oneCell' = true) ∧
    (∀ i, i < l.length → ∀ j, j < esz E → Rep U ν γ w (news.getD (i * esz E + j) undef) ((enc E (l.getD i (elDef E))).getD j .opq)) ∧
    (∀ n, n ≤ l.length → ∀ w', w'.heap = w.heap → (Builtin.firstCells (esz E) n x).run P w' = .ok (news.take (n * esz E)).toArray w') ∧ (Builtin.lenOf x).run P w = .ok l.length w := by
  obtain ⟨a, cap, rfl, hc, h⟩ := h.out
  rcases h with rfl | ⟨b, off, c, rfl, hcell, h1, hr⟩
  · refine ⟨[], by simp, by simp, by simp, fun n hn w' _ => ?_, rfl⟩
    have : n = 0 := by simpa using hn
    subst this
    cases a <;> simp [Builtin.firstCells, loadCells, loadCellsFrom]
  · refine ⟨(List.range (l.length * esz E)).map c, by simp, ?_, ?_, ?_, rfl⟩
    · intro x hx
      simp only [List.mem_map, List.mem_range] at hx
      obtain ⟨k, hk, rfl⟩ := hx
      exact h1 k hk
    · intro i hi j hj
      have : ((List.range (l.length * esz E)).map c).getD (i * esz E + j) undef = c (i * esz E + j) := by
        simp [List.getD_eq_getElem?_getD, List.getElem?_range (idx_lt hi hj)]
      rw [this]; exact hr i hi j hj
    · intro n hn w' hw'
      have hle : n * esz E ≤ l.length * esz E := Nat.mul_le_mul_right _ hn
      have := run_firstCells_some (P := P) w' (esz E) n ⟨b, off, none⟩ l.length cap (((List.range (l.length * esz E)).map c).take (n * esz E)) (by simp only [List.length_take, List.length_map, List.length_range]; omega) (by
        intro j v hj
        have hjn : j < n * esz E := by
          rcases Nat.lt_or_ge j (n * esz E) with h | h
          · exact h
          · rw [List.getElem?_eq_none (by simp only [List.length_take, List.length_map, List.length_range]; omega)] at hj; cases hj
        rw [List.getElem?_take_of_lt hjn, List.getElem?_map, List.getElem?_range (by omega)] at hj
        simp at hj
        subst hj
        rw [Addr.add_mid, heap_cell hw']
        exact hcell j (by omega))
      exact this
theorem run_append_lie {tx ty e : Nat} {i : TypeInfo} (ht : P.underlying tx = some (.slice e)) (hi : P.info? e = some i) {sLen sCap : Nat} {base : Option Addr} {y : Value} {m : Nat} {news : List Value}
    (hlen : (Builtin.lenOf y).run P w = .ok m w) (hf : (Builtin.firstCells i.size m y).run P w = .ok news.toArray w) (hroom : sLen + m ≤ sCap)
    (hst : ∀ a, base = some a → (storeCells (a.add (sLen * i.size)) news 0).run P w = .ok () w') (hnone : base = none → w' = w) :
    (Builtin.append_ #[tx, tx] ty #[.slice base sLen sCap, y]).run P w = .ok (.slice base (sLen + m) sCap) w' := by
  cases base with
  | none => rw [hnone rfl]; simp [Builtin.append_, run_underlying' ht, run_sizeOf hi, hlen, hroom, hf]
  | some a => simp [Builtin.append_, run_underlying' ht, run_sizeOf hi, hlen, hroom, hf, hst a rfl]
theorem run_append_more {tx ty e : Nat} {i : TypeInfo} {z : Value} (ht : P.underlying tx = some (.slice e)) (hi : P.info? e = some i) (hz : i.zero = some z) {sLen sCap : Nat} {base : Option Addr} {y : Value} {m : Nat} {olds news : List Value}
    (hlen : (Builtin.lenOf y).run P w = .ok m w) (hf : ∀ w', w'.heap = w.heap → (Builtin.firstCells i.size m y).run P w' = .ok news.toArray w')
    (hfo : ∀ w', w'.heap = w.heap → (Builtin.firstCells i.size sLen (.slice base sLen sCap)).run P w' = .ok olds.toArray w')
    (hg : sCap < sLen + m) (h63 : sLen + m ≤ 1073741824) (hb : i.bytes ≤ 256) :
    ∃ cap, sLen + m ≤ cap ∧ (Builtin.append_ #[tx, tx] ty #[.slice base sLen sCap, y]).run P w =
      .ok (.slice (some ⟨w.heap.size, 0, none⟩) (sLen + m) cap) (w.drew.alloc (.cells (olds.toArray ++ news.toArray ++ Builtin.zeroCells z.cells (cap - (sLen + m))) e)) := by
  refine ⟨grownCap w (sLen + m) sCap e, by simp [grownCap, Question.cut], ?_⟩
  have hn : ¬ (sLen + m ≤ sCap) := by omega
  have h63' : ¬ (9223372036854775807 < ((sLen : Int) + (m : Int))) := by omega
  have hfit := growslice_fits (need := sLen + m) (old := sCap) (bytes := i.bytes) hg (by
    calc (sLen + m) * i.bytes ≤ 1073741824 * 256 := Nat.mul_le_mul h63 hb
      _ ≤ 140737488355328 := by decide)
  have h48' : ¬ (281474976710656 < Builtin.nextslicecap (sLen + m) sCap * i.bytes) := by omega
  have hf' := hf w.drew rfl
  have hfo' := hfo w.drew rfl
  simp [Builtin.append_, run_underlying' ht, sizeOf, typeInfo, zeroValue, hi, hz, hlen, hn, h63', h48', Question.forced, hf', hfo', newRow, grownCap]
  congr 2
  apply Array.ext'
  simp [List.append_assoc]
theorem zeroCells_get (z : Array Value) (hz : z.size ≠ 0) (n k : Nat) (h : k < n * z.size) : (Builtin.zeroCells z n).toList.getD k undef = z.toList.getD (k % z.size) undef := by
  have hm : k % z.size < z.size := Nat.mod_lt _ (by omega)
  simp [Builtin.zeroCells, List.getD_eq_getElem?_getD, h, hm]
theorem zeroCells_one {z : Array Value} (h1 : ∀ x ∈ z.toList, x.oneCell' = true) (hz : z.size ≠ 0) (n : Nat) : ∀ x ∈ (Builtin.zeroCells z n).toList, x.oneCell' = true := by
  intro x hx
  obtain ⟨k, hk⟩ := List.mem_iff_getElem?.1 hx
  have hlt : k < (Builtin.zeroCells z n).toList.length := by
    rcases Nat.lt_or_ge k (Builtin.zeroCells z n).toList.length with h | h
    · exact h
    · rw [List.getElem?_eq_none h] at hk; cases hk
  have hlt' : k < n * z.size := by simpa [Builtin.zeroCells] using hlt
  have := zeroCells_get z hz n k hlt'
  rw [List.getD_eq_getElem?_getD, hk] at this
  simp at this
  rw [this]
  have hm : k % z.size < z.toList.length := by simpa using Nat.mod_lt _ (by omega)
  have e : z[k % z.size]?.getD undef = z.toList.getD (k % z.size) undef := by simp [List.getD_eq_getElem?_getD]
  rw [e]
  exact h1 _ (mem_getD hm)
theorem castE_eq {E E' : El} {l : List (ElT E')} {m} (h : castE E E' l = some m) : ∃ e : E' = E, e ▸ l = m := by
  cases E <;> cases E' <;> first | (cases h; exact ⟨rfl, rfl⟩) | cases h
theorem arr_new {d : Nat} (hd : U d = false) {E : El} {l : List (ElT E)} {xs : List Value} {cap : Nat} (hMX : l.length ≤ MX) (hcap : l.length ≤ cap) (hlen : xs.length = cap * esz E)
    (hrep : ∀ i, i < l.length → ∀ j, j < esz E → Rep U ν γ w (xs.getD (i * esz E + j) undef) ((enc E (l.getD i (elDef E))).getD j .opq)) (hm : Mem B γ w) (hl : LocsOK B U ν γ w L) {T : Nat}
    (hh : w'.heap = w.heap.push (.cells xs.toArray T (0, 0))) (hos : w'.os = w.os) (htp : w'.tape = w.tape) (hou : w'.output = w.output) (h1 : ∀ x ∈ xs, x.oneCell' = true) :
    Step B U ν γ w (upd U d true) (upd ν d (.slice (some ⟨w.heap.size, 0, none⟩) l.length cap)) γ w' (upd L d (some (.arr E l))) := by
  have hU : ∀ id, U id = true → upd U d true id = true := by
    intro id hi
    by_cases e : id = d
    · subst e; rw [hd] at hi; cases hi
    · rw [upd_ne _ _ e]; exact hi
  have hν : ∀ id, U id = true → upd ν d (.slice (some ⟨w.heap.size, 0, none⟩) l.length cap) id = ν id := by
    intro id hi
    by_cases e : id = d
    · subst e; rw [hd] at hi; cases hi
    · rw [upd_ne _ _ e]
  refine Step.push hm hl hd hh hos htp hou h1 _ _ ?_ ?_
  · intro hr hk
    exact ⟨_, cap, upd_same _ _ _, hMX, hcap, .inr ⟨w.heap.size, xs, rfl, hr, hlen, fun i hi j hj => (hrep i hi j hj).keep hk hU hν⟩⟩
  · rintro b ⟨len, cap', e, -⟩
    rw [upd_same] at e
    simp at e
    exact e.1.symm
theorem zeroEl {t : Nat} {E : El} (hT : TIOK P t (.sl E)) : ∃ e ei z, P.underlying t = some (.slice e) ∧ P.info? e = some ei ∧ ei.size = esz E ∧ ei.zero = some z ∧ z.cells.size = esz E ∧ (∀ x ∈ z.cells.toList, x.oneCell' = true) ∧
    (∀ U ν γ w j, j < esz E → Rep U ν γ w (z.cells.toList.getD j undef) ((enc E (elDef E)).getD j .opq)) ∧ 0 < ei.bytes ∧ ei.bytes ≤ 256 := by
  obtain ⟨i, e, ei, z, -, -, -, h1, h2, h3, h4, h5, h6, h7, h8, h9, -⟩ := hT
  exact ⟨e, ei, z, h1, h2, h3, h4, h5, h6, h7, h8, h9⟩
theorem getD_app_left {xs ys : List Value} {k : Nat} (h : k < xs.length) : (xs ++ ys).getD k undef = xs.getD k undef := by
  simp [List.getD_eq_getElem?_getD, List.getElem?_append_left h]
theorem getD_app_right {xs ys : List Value} {k : Nat} (h : xs.length ≤ k) : (xs ++ ys).getD k undef = ys.getD (k - xs.length) undef := by
  simp [List.getD_eq_getElem?_getD, List.getElem?_append_right h]
theorem append_reps {E : El} {l m : List (ElT E)} {olds news zs : List Value} (hn : news.length = m.length * esz E) (hol : olds.length = l.length * esz E)
    (hro : ∀ i, i < l.length → ∀ j, j < esz E → Rep U ν γ w (olds.getD (i * esz E + j) undef) ((enc E (l.getD i (elDef E))).getD j .opq))
    (hrn : ∀ i, i < m.length → ∀ j, j < esz E → Rep U ν γ w (news.getD (i * esz E + j) undef) ((enc E (m.getD i (elDef E))).getD j .opq)) :
    ∀ i, i < (l ++ m).length → ∀ j, j < esz E → Rep U ν γ w ((olds ++ news ++ zs).getD (i * esz E + j) undef) ((enc E ((l ++ m).getD i (elDef E))).getD j .opq) := by
  intro i hi j hj
  rw [List.length_append] at hi
  by_cases h : i < l.length
  · have h1 := idx_lt h hj
    rw [getD_app_left (by simp; omega), getD_app_left (by omega)]
    have e : (l ++ m).getD i (elDef E) = l.getD i (elDef E) := by simp [List.getD_eq_getElem?_getD, List.getElem?_append_left h]
    rw [e]; exact hro i h j hj
  · have h2 : i - l.length < m.length := by omega
    have h1 := idx_lt h2 hj
    have e3 : i * esz E + j - l.length * esz E = (i - l.length) * esz E + j := by
      have : i * esz E = (l.length + (i - l.length)) * esz E := by congr 1; omega
      rw [this, Nat.add_mul]; omega
    have hge : l.length * esz E ≤ i * esz E := Nat.mul_le_mul_right _ (by omega)
    rw [getD_app_left (by simp; omega), getD_app_right (by omega), hol, e3]
    have e : (l ++ m).getD i (elDef E) = m.getD (i - l.length) (elDef E) := by simp [List.getD_eq_getElem?_getD, List.getElem?_append_right (show l.length ≤ i by omega)]
    rw [e]; exact hrn _ h2 j hj
theorem Step.rewrite (hm : Mem B γ w) (hl : LocsOK B U ν γ w L) {id b d : Nat} {c c' : LC} {xs : List Value} (hid : L id = some c) (hd : U d = false) (hrow : Row B γ w b xs) (hown : Owns ν w id c b) {ys : List Value} {v : Value}
    (h1 : ∀ x ∈ ys, x.oneCell' = true) (hh : ∀ b', b' ≠ b → w'.heap[b']? = w.heap[b']?) (hT : ∀ T, w.heap[b]? = some (.cells xs.toArray T (0, 0)) → w'.heap[b]? = some (.cells ys.toArray T (0, 0)))
    (hs : w'.heap.size = w.heap.size) (hos : w'.os = w.os) (htp : w'.tape = w.tape) (hou : w'.output = w.output)
    (hc : Row B γ w' b ys → Keeps γ w γ w' → LocOK B (upd U d true) (upd ν d v) γ w' d c') (hown' : ∀ b', Owns (upd ν d v) w' d c' b' → Owns ν w id c b') :
    Step B U ν γ w (upd U d true) (upd ν d v) γ w' (upd (upd L id none) d (some c')) := by
  obtain ⟨hok, hg0, -, T, hb⟩ := hrow
  have hk : Keeps γ w γ w' := by
    refine ⟨fun _ => Nat.le_refl _, fun b' o ho => cell_eq (hh b' ?_)⟩
    rintro rfl; rw [hg0] at ho; omega
  have hmem : Mem B γ w' := by
    refine ⟨hos.trans hm.os, htp.trans hm.tape, hou.trans hm.output, by rw [hs]; exact hm.size, ?_, ?_, hm.keeps.trans hk⟩
    · intro b' hb' hmay
      have : b' ≠ b := by
        rintro rfl
        rcases hok with h | h
        · omega
        · exact hmay h
      rw [hh b' this]; exact hm.block b' hb' hmay
    · intro b' hb'; rw [hs] at hb'; exact hm.fresh b' hb'
  have hU : ∀ id, U id = true → upd U d true id = true := by
    intro id hi
    by_cases e : id = d
    · subst e; rw [hd] at hi; cases hi
    · rw [upd_ne _ _ e]; exact hi
  have hν : ∀ id, U id = true → upd ν d v id = ν id := by
    intro id hi
    by_cases e : id = d
    · subst e; rw [hd] at hi; cases hi
    · rw [upd_ne _ _ e]
  refine ⟨hmem, ?_, hk, hU, hν⟩
  have hne : ∀ j c b', upd L id none j = some c → Owns ν w j c b' → b' ≠ b := by
    intro j c2 b' hj ho
    rcases upd_cases hj with ⟨_, h'⟩ | ⟨hne, h'⟩
    · cases h'
    · rintro rfl; exact hne (hl.apart j id c2 c b' h' hid ho hown)
  have hothers : LocsOK B (upd U d true) (upd ν d v) γ w' (upd L id none) := by
    refine (hl.drop id).keepAll hk hU hν ?_
    intro j c2 b' hj ho
    exact ⟨hh b' (hne j c2 b' hj ho), rfl⟩
  refine hothers.add (upd_same _ _ _) (hc ⟨hok, hg0, h1, T, hT T hb⟩ hk) ?_
  intro b' hb' j e hj hne' ho
  have h2 := Owns.keep ((hl.drop id).ok j e hj) (hν j ((hl.drop id).used j e hj)) (fun b'' ho => hh b'' (hne j e b'' hj ho)) ho
  rcases upd_cases hj with ⟨_, h'⟩ | ⟨hne2, h'⟩
  · cases h'
  · exact hne2 (hl.apart j id e c b' h' hid h2 (hown' b' hb'))
theorem lAppend0_sound {tx ty : Nat} {ti : TI} (hT : TIOK P tx ti) (hm : Mem B γ w) {s : AS} (hl : LocsOK B s.used ν γ w s.locs) {d : Nat} {x y : Value} {a b : AV} (hx : Rep s.used ν γ w x a) (hy : Rep s.used ν γ w y b)
    {r} (hq : lAppend0 s d ti a b = some r) (hO : ∀ p, r.1 = some p → p) (d' : Option Nat) : LSound P B s ν γ w (do pure (.value (← Builtin.append_ #[tx, tx] ty #[x, y]))) d' r := by
  unfold lAppend0 at hq
  split at hq
  case h_2 => cases hq
  rename_i E E' m hrd
  split at hq
  case h_2 => cases hq
  rename_i m' hcast
  obtain ⟨e0, hcm⟩ := castE_eq hcast
  subst e0
  simp only at hcm
  subst hcm
  have hy' := rdSl_sound hl hy hrd
  obtain ⟨news, hnl, hn1, hnr, hnf, hnlen⟩ := hy'.first
  obtain ⟨e, ei, z, hu, hei, hes, hez, hzs, hz1, hzr, hb0, hb1⟩ := zeroEl hT
  have hzne : z.cells.size ≠ 0 := by rw [hzs]; have := esz_pos E'; omega
  have hnf' : ∀ w', w'.heap = w.heap → (Builtin.firstCells ei.size m.length y).run P w' = .ok news.toArray w' := by
    intro w' hw'
    have := hnf m.length (Nat.le_refl _) w' hw'
    rw [hes, this, ← hnl, List.take_length]
  have grow : ∀ {l : List (ElT E')} {base : Option Addr} {sCap : Nat} {olds : List Value}, s.used d = false → olds.length = l.length * esz E' → (∀ x ∈ olds, x.oneCell' = true) →
      (∀ i, i < l.length → ∀ j, j < esz E' → Rep s.used ν γ w (olds.getD (i * esz E' + j) undef) ((enc E' (l.getD i (elDef E'))).getD j .opq)) →
      (∀ w', w'.heap = w.heap → (Builtin.firstCells ei.size l.length (.slice base l.length sCap)).run P w' = .ok olds.toArray w') → sCap < l.length + m.length → l.length + m.length ≤ 1073741824 →
      ∀ (s2 : Locs), LocsOK B s.used ν γ w s2 → ∃ ν' w', Step B s.used ν γ w (upd s.used d true) ν' γ w' (upd s2 d (some (.arr E' (l ++ m)))) ∧
        ∃ X, (Builtin.append_ #[tx, tx] ty #[.slice base l.length sCap, y]).run P w = .ok X w' ∧ X = ν' d ∧ X.oneCell' = true := by
    intro l base sCap olds hd hol ho1 hro hfo hg h63 s2 hl2
    obtain ⟨cap, hcap, hrun⟩ := run_append_more (P := P) (w := w) (ty := ty) hu hei hez hnlen hnf' hfo hg h63 hb1
    have hlen2 : (l ++ m).length = l.length + m.length := by simp
    have hxs : (olds ++ news ++ (Builtin.zeroCells z.cells (cap - (l.length + m.length))).toList).length = cap * esz E' := by
      simp only [List.length_append, hol, hnl, Array.length_toList, Builtin.zeroCells, Array.size_map, Array.size_range, hzs]
      rw [← Nat.add_mul, ← Nat.add_mul]
      congr 1; omega
    have hst := arr_new (B := B) (L := s2) (w' := w.drew.alloc (.cells (olds ++ news ++ (Builtin.zeroCells z.cells (cap - (l.length + m.length))).toList).toArray e)) hd (by rw [hlen2]; simp only [MX]; omega) (by rw [hlen2]; exact hcap) hxs
      (append_reps hnl hol hro hnr) hm hl2 (T := e) rfl rfl rfl rfl (by
        intro x hx
        simp only [List.mem_append] at hx
        rcases hx with (hx | hx) | hx
        · exact ho1 x hx
        · exact hn1 x hx
        · exact zeroCells_one hz1 hzne _ x hx)
    refine ⟨_, _, hst, .slice (some ⟨w.heap.size, 0, none⟩) (l.length + m.length) cap, ?_, by rw [upd_same, hlen2], rfl⟩
    rw [hrun]
    congr 2
    congr 1
    apply Array.ext'
    simp
  split at hq
  · -- nil
    rename_i E0
    split at hq
    case h_2 => cases hq
    rename_i hE
    have := of_decide_eq_true hE; subst this
    obtain ⟨hd, hq⟩ := fresh_some hq
    cases hq
    cases hx
    have hO' := hO _ rfl
    by_cases hz : m.length = 0
    · -- nothing
      have hm0 : m = [] := List.length_eq_zero_iff.1 hz
      have hnews : news = [] := List.length_eq_zero_iff.1 (by rw [hnl, hz]; simp)
      have hrun := run_append_lie (P := P) (w := w) (w' := w) (ty := ty) (base := none) (sLen := 0) (sCap := 0) hu hei hnlen (hnf' w rfl) (by omega) (by intro a h; cases h) (fun _ => rfl)
      have hU : ∀ id, s.used id = true → upd s.used d true id = true := by
        intro id hi
        by_cases e : id = d
        · subst e; rw [hd] at hi; cases hi
        · rw [upd_ne _ _ e]; exact hi
      have hν : ∀ id, s.used id = true → upd ν d (.slice none 0 0) id = ν id := by
        intro id hi
        by_cases e : id = d
        · subst e; rw [hd] at hi; cases hi
        · rw [upd_ne _ _ e]
      have hall := hl.keepAll (U' := upd s.used d true) (ν' := upd ν d (.slice none 0 0)) (.refl γ w) hU hν (fun _ _ _ _ _ => ⟨rfl, rfl⟩)
      have hadd := hall.add (d := d) (c := .arr E0 m) (upd_same _ _ _) ⟨none, 0, by rw [upd_same, hz], by simp only [MX]; omega, by omega, .inl rfl⟩ (by
        rintro b ⟨len, cap, e, hne⟩
        rw [upd_same] at e; cases e)
      refine ⟨upd ν d (.slice none 0 0), γ, w, ⟨hm, hadd, .refl _ _, hU, hν⟩, .inl ⟨.slice none 0 0, ?_, ?_⟩⟩
      · refine run_w _ ?_
        rw [hrun, hz]
      · have := Rep.ls (U := upd s.used d true) (ν := upd ν d (.slice none 0 0)) (γ := γ) (w := w) d (upd_same _ _ _) (by rw [upd_same]; rfl)
        rw [upd_same] at this; exact this
    · obtain ⟨ν', w', hst, X, hrun, hX, hX1⟩ := grow (l := []) (base := none) (sCap := 0) (olds := []) hd (by simp) (by simp) (by simp) (by
        intro w' _; simp [Builtin.firstCells]) (by simp; omega) (by simpa using hO') s.locs hl
      refine ⟨ν', γ, w', by simpa using hst, .inl ⟨X, run_w _ (by simpa using hrun), ?_⟩⟩
      rw [hX]
      exact .ls d (upd_same _ _ _) (by rw [← hX]; exact hX1)
  · -- own
    rename_i id
    split at hq
    case h_2 => cases hq
    rename_i E0 l hid
    split at hq
    case h_2 => cases hq
    rename_i l' hcast2
    obtain ⟨e0, hcm⟩ := castE_eq hcast2
    subst e0
    simp only at hcm
    subst hcm
    obtain ⟨hd, hq⟩ := fresh_some hq
    cases hq
    have hO' := hO _ rfl
    cases hx with
    | ls _ hu' ho =>
      have hsl := SliceIs.of_arr (hl.ok _ _ hid)
      obtain ⟨a, cap, hν, hMX, hc, harr⟩ := hl.ok _ _ hid
      obtain ⟨olds, hol, ho1, hro, hfo, -⟩ := hsl.first
      rw [hν] at hfo
      have hfo' : ∀ w', w'.heap = w.heap → (Builtin.firstCells ei.size l.length (.slice a l.length cap)).run P w' = .ok olds.toArray w' := by
        intro w' hw'
        have := hfo l.length (Nat.le_refl _) w' hw'
        rw [hes, this, ← hol, List.take_length]
      by_cases hroom : l.length + m.length ≤ cap
      · by_cases hz : cap = 0
        · -- both are empty
          have hl0 : l.length = 0 := by omega
          have hm0 : m.length = 0 := by omega
          have hrun := run_append_lie (P := P) (w := w) (w' := w) (ty := ty) (base := a) (sLen := l.length) (sCap := cap) hu hei hnlen (hnf' w rfl) hroom (by
            intro a' _
            have hnews : news = [] := List.length_eq_zero_iff.1 (by rw [hnl, hm0]; simp)
            rw [hnews]; rfl) (fun _ => rfl)
          have hU : ∀ id, s.used id = true → upd s.used d true id = true := by
            intro id hi
            by_cases e : id = d
            · subst e; rw [hd] at hi; cases hi
            · rw [upd_ne _ _ e]; exact hi
          have hν' : ∀ id, s.used id = true → upd ν d (.slice a 0 cap) id = ν id := by
            intro id hi
            by_cases e : id = d
            · subst e; rw [hd] at hi; cases hi
            · rw [upd_ne _ _ e]
          have hall := (hl.drop id).keepAll (U' := upd s.used d true) (ν' := upd ν d (.slice a 0 cap)) (.refl γ w) hU hν' (fun _ _ _ _ _ => ⟨rfl, rfl⟩)
          have hadd := hall.add (d := d) (c := .arr E0 (l ++ m)) (upd_same _ _ _) ⟨a, cap, by rw [upd_same, List.length_append, hl0, hm0], by rw [List.length_append]; simp only [MX]; omega, by rw [List.length_append]; omega, .inl hz⟩ (by
            rintro b ⟨len, cap', e, hne⟩
            rw [upd_same] at e; simp at e; omega)
          refine ⟨upd ν d (.slice a 0 cap), γ, w, ⟨hm, hadd, .refl _ _, hU, hν'⟩, .inl ⟨.slice a 0 cap, ?_, ?_⟩⟩
          · refine run_w _ ?_
            rw [hν, hrun, hl0, hm0]
          · have := Rep.ls (U := upd s.used d true) (ν := upd ν d (.slice a 0 cap)) (γ := γ) (w := w) d (upd_same _ _ _) (by rw [upd_same]; rfl)
            rw [upd_same] at this; exact this
        · rcases harr with hz' | ⟨b', xs, rfl, hrow, hxl, hxr⟩
          · exact absurd hz' hz
          · have hrow0 := hrow
            obtain ⟨-, -, hx1, T, hb⟩ := hrow
            have hbound : l.length * esz E0 + news.length ≤ xs.length := by
              rw [hnl, hxl, ← Nat.add_mul]; exact Nat.mul_le_mul_right _ hroom
            have hsc := run_storeCells_at P b' (l.length * esz E0) T news 0 xs.toArray w hb (by simpa using hbound) hn1
            simp only [Nat.add_zero] at hsc
            have hrun := run_append_lie (P := P) (w := w) (w' := w.setRow b' (xs.take (l.length * esz E0) ++ news ++ xs.drop (l.length * esz E0 + news.length)).toArray) (ty := ty) (base := some ⟨b', 0, none⟩) (sLen := l.length) (sCap := cap) hu hei hnlen (hnf' w rfl) hroom (by
              intro a' ha
              cases ha
              rw [Addr.add_mid, Nat.zero_add, hes]
              simpa using hsc) (by intro h; cases h)
            obtain ⟨f1, f2, f3⟩ := setRow_facts (ys := xs.take (l.length * esz E0) ++ news ++ xs.drop (l.length * esz E0 + news.length)) hb
            have hone : ∀ z ∈ xs.take (l.length * esz E0) ++ news ++ xs.drop (l.length * esz E0 + news.length), z.oneCell' = true := by
              intro z hz
              simp only [List.mem_append] at hz
              rcases hz with (hz | hz) | hz
              · exact hx1 z (List.mem_of_mem_take hz)
              · exact hn1 z hz
              · exact hx1 z (List.mem_of_mem_drop hz)
            have hst := Step.rewrite hm hl hid hd hrow0 (show Owns ν w id (.arr E0 l) b' from ⟨_, _, hν, hz⟩) hone f1 f2 f3 rfl rfl rfl (c' := .arr E0 (l ++ m)) (v := .slice (some ⟨b', 0, none⟩) (l.length + m.length) cap)
              (fun hr hk => by
                have hU : ∀ id, s.used id = true → upd s.used d true id = true := by
                  intro id hi
                  by_cases e : id = d
                  · subst e; rw [hd] at hi; cases hi
                  · rw [upd_ne _ _ e]; exact hi
                have hν' : ∀ id, s.used id = true → upd ν d (.slice (some ⟨b', 0, none⟩) (l.length + m.length) cap) id = ν id := by
                  intro id hi
                  by_cases e : id = d
                  · subst e; rw [hd] at hi; cases hi
                  · rw [upd_ne _ _ e]
                refine ⟨some ⟨b', 0, none⟩, cap, by rw [upd_same, List.length_append], by rw [List.length_append]; simp only [MX]; omega, by rw [List.length_append]; exact hroom, .inr ⟨b', _, rfl, hr, ?_, ?_⟩⟩
                · simp only [List.length_append, List.length_take, List.length_drop]; omega
                · intro i hi j hj
                  have hle : l.length * esz E0 ≤ xs.length := by omega
                  exact (append_reps (olds := xs.take (l.length * esz E0)) (zs := xs.drop (l.length * esz E0 + news.length)) hnl (by simp only [List.length_take]; omega) (fun i hi j hj => by
                    have h4 := idx_lt hi hj
                    have e5 : (xs.take (l.length * esz E0)).getD (i * esz E0 + j) undef = xs.getD (i * esz E0 + j) undef := by
                      simp [List.getD_eq_getElem?_getD, List.getElem?_take_of_lt h4]
                    rw [e5]; exact hxr i hi j hj) hnr i hi j hj).keep hk hU hν')
              (fun b'' h => by
                obtain ⟨len, cap', e, hne⟩ := h
                rw [upd_same] at e
                simp only [Value.slice.injEq, Option.some.injEq, Addr.mk.injEq, and_true] at e
                obtain ⟨rfl, rfl, rfl⟩ := e
                exact ⟨_, _, hν, hne⟩)
            refine ⟨_, γ, _, hst, .inl ⟨.slice (some ⟨b', 0, none⟩) (l.length + m.length) cap, run_w _ (by rw [hν]; exact hrun), ?_⟩⟩
            have := Rep.ls (U := upd s.used d true) (ν := upd ν d (.slice (some ⟨b', 0, none⟩) (l.length + m.length) cap)) (γ := γ) (w := w.setRow b' (xs.take (l.length * esz E0) ++ news ++ xs.drop (l.length * esz E0 + news.length)).toArray) d (upd_same _ _ _) (by rw [upd_same]; rfl)
            rw [upd_same] at this; exact this
      · obtain ⟨ν', w', hst, X, hrun, hX, hX1⟩ := grow (l := l) (base := a) (sCap := cap) hd hol ho1 hro hfo' (by omega) hO' (upd s.locs id none) (hl.drop id)
        refine ⟨ν', γ, w', hst, .inl ⟨X, run_w _ (by rw [hν]; exact hrun), ?_⟩⟩
        rw [hX]
        exact .ls d (upd_same _ _ _) (by rw [← hX]; exact hX1)
  · cases hq
theorem tree_new {d : Nat} (hd : U d = false) {E : El} {l : List (ElT E)} {xs : List Value} {cap : Nat} {bss : Nat → List Nat} (hMX : l.length ≤ MX) (hcap : l.length ≤ cap) (hlen : xs.length = cap * esz E)
    (hin : Inner B γ w E l xs bss) (hS : ∀ c ∈ inn (l.length * esz E) bss, ∀ j e, L j = some e → ¬ Owns ν w j e c) (hm : Mem B γ w) (hl : LocsOK B U ν γ w L) {T : Nat}
    (hh : w'.heap = w.heap.push (.cells xs.toArray T (0, 0))) (hos : w'.os = w.os) (htp : w'.tape = w.tape) (hou : w'.output = w.output) (h1 : ∀ x ∈ xs, x.oneCell' = true) :
    Step B U ν γ w (upd U d true) (upd ν d (.slice (some ⟨w.heap.size, 0, none⟩) l.length cap)) γ w' (upd L d (some (.tree E l))) := by
  have hlt : ∀ c ∈ inn (l.length * esz E) bss, c < w.heap.size := fun c hc => by
    obtain ⟨i, j, hi, hj, h⟩ := inn_ij hc
    exact (hin.deep i hi j hj).lt h
  have hold : ∀ b, b < w.heap.size → w'.heap[b]? = w.heap[b]? := fun b hb => by rw [hh, Array.getElem?_push, if_neg (by omega)]
  have hin' : Inner B γ w' E l xs bss := hin.keep fun c hc => ⟨hold c (hlt c hc), rfl⟩
  have hrow : Row B γ w' w.heap.size xs := ⟨.inl hm.size, hm.fresh _ (Nat.le_refl _), h1, T, by rw [hh, Array.getElem?_push, if_pos rfl]⟩
  refine Step.pushS hm hl hd (S := inn (l.length * esz E) bss) (fun c hc => ⟨hlt c hc, hS c hc⟩) hh hos htp hou h1 _ _ ?_ ?_
  · intro hr hk _
    exact ⟨_, cap, upd_same _ _ _, hMX, hcap, .inr ⟨w.heap.size, xs, bss, rfl, hr, hlen, hin'⟩⟩
  · intro b hb
    exact hin'.owned (upd_same _ _ _) hMX hcap hrow hlen hb
theorem Inner.none {E : El} {l : List (ElT E)} {xs : List Value} (h : ∀ i, i < l.length → ∀ j, j < esz E → Deep w (xs.getD (i * esz E + j) undef) ((enc E (l.getD i (elDef E))).getD j .opq) []) : Inner B γ w E l xs (fun _ => []) := by
  refine ⟨h, ?_, ?_⟩
  · rw [inn_none (fun _ _ => rfl)]; exact .nil
  · rw [inn_none (fun _ _ => rfl)]; simp
theorem tree_first {id : Nat} {E : El} {m : List (ElT E)} (h : LocOK B U ν γ w id (.tree E m)) : ∃ news bss, news.length = m.length * esz E ∧ (∀ x ∈ news, x.oneCell' = true) ∧ Inner B γ w E m news bss ∧
    (∀ c ∈ inn (m.length * esz E) bss, Owns ν w id (.tree E m) c) ∧
    (∀ w', w'.heap = w.heap → (Builtin.firstCells (esz E) m.length (ν id)).run P w' = .ok news.toArray w') ∧ (Builtin.lenOf (ν id)).run P w = .ok m.length w := by
  obtain ⟨a, cap, e, hMX, hc, harr⟩ := h
  by_cases h0 : m = []
  · subst h0
    refine ⟨[], fun _ => [], by simp, by simp, .none (by simp), by simp [inn], fun w' _ => ?_, by rw [e]; rfl⟩
    rw [e]
    cases a <;> simp [Builtin.firstCells, loadCells, loadCellsFrom]
  · rcases harr with hz | ⟨b, xs, bss, rfl, hrow, hlen, hin⟩
    · exact absurd (List.length_eq_zero_iff.1 (by omega)) h0
    · have hle : m.length * esz E ≤ xs.length := by rw [hlen]; exact Nat.mul_le_mul_right _ hc
      have hown := hin.owns e hMX hc hrow hlen
      obtain ⟨-, -, h1, T, hb⟩ := hrow
      have hg : ∀ k, k < m.length * esz E → (xs.take (m.length * esz E)).getD k undef = xs.getD k undef := fun k hk => by
        simp [List.getD_eq_getElem?_getD, List.getElem?_take_of_lt hk]
      refine ⟨xs.take (m.length * esz E), bss, by simp; omega, fun x hx => h1 x (List.mem_of_mem_take hx), ⟨fun i hi j hj => ?_, hin.nodup, hin.ok⟩, hown, fun w' hw' => ?_, by rw [e]; rfl⟩
      · rw [hg _ (idx_lt hi hj)]; exact hin.deep i hi j hj
      · rw [e]
        refine run_firstCells_some (P := P) w' (esz E) m.length ⟨b, 0, none⟩ m.length cap (xs.take (m.length * esz E)) (by simp; omega) ?_
        intro j v hj
        have hjn : j < m.length * esz E := by
          rcases Nat.lt_or_ge j (m.length * esz E) with h | h
          · exact h
          · rw [List.getElem?_eq_none (by simp; omega)] at hj; cases hj
        rw [Addr.add_mid, heap_cell hw', Nat.zero_add, cell_row hb (by omega)]
        rw [← hg j hjn, List.getD_eq_getElem?_getD, hj]; rfl
theorem Inner.append {E : El} {l m : List (ElT E)} {olds news zs : List Value} {bs1 bs2 : Nat → List Nat} (hol : olds.length = l.length * esz E) (hnl : news.length = m.length * esz E)
    (h1 : Inner B γ w E l olds bs1) (h2 : Inner B γ w E m news bs2) (hd : ∀ c ∈ inn (l.length * esz E) bs1, c ∉ inn (m.length * esz E) bs2) :
    Inner B γ w E (l ++ m) (olds ++ news ++ zs) (fun k => if k < l.length * esz E then bs1 k else bs2 (k - l.length * esz E)) ∧
    ∀ c ∈ inn ((l ++ m).length * esz E) (fun k => if k < l.length * esz E then bs1 k else bs2 (k - l.length * esz E)), c ∈ inn (l.length * esz E) bs1 ∨ c ∈ inn (m.length * esz E) bs2 := by
  have hsum : (l ++ m).length * esz E = l.length * esz E + m.length * esz E := by rw [List.length_append, Nat.add_mul]
  have hmem : ∀ c ∈ inn ((l ++ m).length * esz E) (fun k => if k < l.length * esz E then bs1 k else bs2 (k - l.length * esz E)), c ∈ inn (l.length * esz E) bs1 ∨ c ∈ inn (m.length * esz E) bs2 := by
    intro c hc
    obtain ⟨k, hk, hc⟩ := inn_mem.1 hc
    rw [hsum] at hk
    split at hc
    · rename_i h; exact .inl (inn_mem.2 ⟨k, h, hc⟩)
    · exact .inr (inn_mem.2 ⟨_, by omega, hc⟩)
  refine ⟨⟨fun i hi j hj => ?_, ?_, fun c hc => ?_⟩, hmem⟩
  · rw [List.length_append] at hi
    by_cases h : i < l.length
    · have h5 := idx_lt h hj
      rw [getD_app_left (by simp; omega), getD_app_left (by omega), if_pos h5]
      have e : (l ++ m).getD i (elDef E) = l.getD i (elDef E) := by simp [List.getD_eq_getElem?_getD, List.getElem?_append_left h]
      rw [e]; exact h1.deep i h j hj
    · have h2' : i - l.length < m.length := by omega
      have h5 := idx_lt h2' hj
      have e3 : i * esz E + j - l.length * esz E = (i - l.length) * esz E + j := by
        have : i * esz E = (l.length + (i - l.length)) * esz E := by congr 1; omega
        rw [this, Nat.add_mul]; omega
      have hge : l.length * esz E ≤ i * esz E := Nat.mul_le_mul_right _ (by omega)
      rw [getD_app_left (by simp; omega), getD_app_right (by omega), hol, e3, if_neg (by omega)]
      have e : (l ++ m).getD i (elDef E) = m.getD (i - l.length) (elDef E) := by simp [List.getD_eq_getElem?_getD, List.getElem?_append_right (show l.length ≤ i by omega)]
      rw [e]; exact h2.deep _ h2' j hj
  · rw [hsum]
    have n1 := inn_nodup.1 h1.nodup
    have n2 := inn_nodup.1 h2.nodup
    refine inn_nodup.2 ⟨fun k hk => ?_, fun j k hj hk c hc1 hc2 => ?_⟩
    · split
      · rename_i h; exact n1.1 k h
      · exact n2.1 _ (by omega)
    · split at hc1 <;> split at hc2
      · rename_i h3 h4; exact n1.2 j k hj h4 c hc1 hc2
      · rename_i h3 h4; exact hd c (inn_mem.2 ⟨j, h3, hc1⟩) (inn_mem.2 ⟨_, by omega, hc2⟩)
      · omega
      · exact n2.2 (j - l.length * esz E) (k - l.length * esz E) (by omega) (by omega) c hc1 hc2
  · rcases hmem c hc with h | h
    · exact h1.ok c h
    · exact h2.ok c h
theorem lAppendT_sound {tx ty : Nat} {ti : TI} (hT : TIOK P tx ti) (hm : Mem B γ w) {s : AS} (hl : LocsOK B s.used ν γ w s.locs) {d id2 : Nat} {x y : Value} {a : AV} (hx : Rep s.used ν γ w x a) (hy : Rep s.used ν γ w y (.ls id2))
    {r} (hq : lAppendT s d ti a id2 = some r) (hO : ∀ p, r.1 = some p → p) (d' : Option Nat) : LSound P B s ν γ w (do pure (.value (← Builtin.append_ #[tx, tx] ty #[x, y]))) d' r := by
  unfold lAppendT at hq
  split at hq
  case h_2 => cases hq
  rename_i E E' m hid2
  split at hq
  case h_2 => cases hq
  rename_i m' hcast
  obtain ⟨e0, hcm⟩ := castE_eq hcast
  subst e0
  simp only at hcm
  subst hcm
  obtain ⟨news, bs2, hnl, hn1, hin2, hown2, hnf, hnlen⟩ := tree_first (P := P) (hl.ok _ _ hid2)
  have hyv : y = ν id2 := by cases hy; rfl
  rw [← hyv] at hnf hnlen
  obtain ⟨e, ei, z, hu, hei, hes, hez, hzs, hz1, hzr, hb0, hb1⟩ := zeroEl hT
  have hzne : z.cells.size ≠ 0 := by rw [hzs]; have := esz_pos E'; omega
  have hl2 : LocsOK B s.used ν γ w (upd s.locs id2 none) := hl.drop id2
  have hun : ∀ c ∈ inn (m.length * esz E') bs2, ∀ j e, upd s.locs id2 none j = some e → ¬ Owns ν w j e c := by
    intro c hc j e hj ho
    rcases upd_cases hj with ⟨_, h⟩ | ⟨hne, h⟩
    · cases h
    · exact hne (hl.apart j id2 e _ c h hid2 ho (hown2 c hc))
  have hnf' : ∀ w', w'.heap = w.heap → (Builtin.firstCells ei.size m.length y).run P w' = .ok news.toArray w' := fun w' hw' => by rw [hes]; exact hnf w' hw'
  have grow : ∀ {l : List (ElT E')} {base : Option Addr} {sCap : Nat} {olds : List Value} {bs1 : Nat → List Nat}, s.used d = false → olds.length = l.length * esz E' → (∀ x ∈ olds, x.oneCell' = true) → Inner B γ w E' l olds bs1 →
      (∀ c ∈ inn (l.length * esz E') bs1, c ∉ inn (m.length * esz E') bs2) →
      (∀ w', w'.heap = w.heap → (Builtin.firstCells ei.size l.length (.slice base l.length sCap)).run P w' = .ok olds.toArray w') → sCap < l.length + m.length → l.length + m.length ≤ 1073741824 →
      ∀ (s2 : Locs), LocsOK B s.used ν γ w s2 → (∀ c, (c ∈ inn (l.length * esz E') bs1 ∨ c ∈ inn (m.length * esz E') bs2) → ∀ j e, s2 j = some e → ¬ Owns ν w j e c) →
      ∃ ν' w', Step B s.used ν γ w (upd s.used d true) ν' γ w' (upd s2 d (some (.tree E' (l ++ m)))) ∧
        ∃ X, (Builtin.append_ #[tx, tx] ty #[.slice base l.length sCap, y]).run P w = .ok X w' ∧ X = ν' d ∧ X.oneCell' = true := by
    intro l base sCap olds bs1 hd hol ho1 hin1 hdis hfo hg h63 s2 hs2 hun2
    obtain ⟨cap, hcap, hrun⟩ := run_append_more (P := P) (w := w) (ty := ty) hu hei hez hnlen hnf' hfo hg h63 hb1
    have hlen2 : (l ++ m).length = l.length + m.length := by simp
    have hxs : (olds ++ news ++ (Builtin.zeroCells z.cells (cap - (l.length + m.length))).toList).length = cap * esz E' := by
      simp only [List.length_append, hol, hnl, Array.length_toList, Builtin.zeroCells, Array.size_map, Array.size_range, hzs]
      rw [← Nat.add_mul, ← Nat.add_mul]
      congr 1; omega
    obtain ⟨hin, hmem⟩ := Inner.append (zs := (Builtin.zeroCells z.cells (cap - (l.length + m.length))).toList) hol hnl hin1 hin2 hdis
    have hst := tree_new (B := B) (L := s2) (w' := w.drew.alloc (.cells (olds ++ news ++ (Builtin.zeroCells z.cells (cap - (l.length + m.length))).toList).toArray e)) hd (by rw [hlen2]; simp only [MX]; omega) (by rw [hlen2]; exact hcap) hxs
      hin (fun c hc => hun2 c (hmem c hc)) hm hs2 (T := e) rfl rfl rfl rfl (by
        intro x hx
        simp only [List.mem_append] at hx
        rcases hx with (hx | hx) | hx
        · exact ho1 x hx
        · exact hn1 x hx
        · exact zeroCells_one hz1 hzne _ x hx)
    refine ⟨_, _, hst, .slice (some ⟨w.heap.size, 0, none⟩) (l.length + m.length) cap, ?_, by rw [upd_same, hlen2], rfl⟩
    rw [hrun]
    congr 2
    congr 1
    apply Array.ext'
    simp
  have hUd : s.used d = false → ∀ id, s.used id = true → upd s.used d true id = true := by
    intro hd id hi
    by_cases e : id = d
    · subst e; rw [hd] at hi; cases hi
    · rw [upd_ne _ _ e]; exact hi
  have hνd : ∀ v, s.used d = false → ∀ id, s.used id = true → upd ν d v id = ν id := by
    intro v hd id hi
    by_cases e : id = d
    · subst e; rw [hd] at hi; cases hi
    · rw [upd_ne _ _ e]
  split at hq
  · -- nil
    rename_i E0
    split at hq
    case h_2 => cases hq
    rename_i hE
    have := of_decide_eq_true hE; subst this
    obtain ⟨hd, hq⟩ := fresh_some hq
    cases hq
    cases hx
    have hO' := hO _ rfl
    by_cases hz : m.length = 0
    · have hm0 : m = [] := List.length_eq_zero_iff.1 hz
      have hrun := run_append_lie (P := P) (w := w) (w' := w) (ty := ty) (base := none) (sLen := 0) (sCap := 0) hu hei hnlen (hnf' w rfl) (by omega) (by intro a h; cases h) (fun _ => rfl)
      have hall := hl2.keepAll (U' := upd s.used d true) (ν' := upd ν d (.slice none 0 0)) (.refl γ w) (hUd hd) (hνd _ hd) (fun _ _ _ _ _ => ⟨rfl, rfl⟩)
      have hadd := hall.add (d := d) (c := .tree E0 m) (upd_same _ _ _) ⟨none, 0, by rw [upd_same, hz], by simp only [MX]; omega, by omega, .inl rfl⟩ (by
        intro b ho
        rcases ho with ⟨len, cap, e, hne⟩ | ⟨bs, hdp, hb⟩
        · rw [upd_same] at e; cases e
        · rcases hdp.inv_ps with ⟨-, h, -⟩ | ⟨_, _, _, _, _, h, -⟩
          · rw [h] at hb; simp at hb
          · exact absurd hm0 h)
      refine ⟨upd ν d (.slice none 0 0), γ, w, ⟨hm, hadd, .refl _ _, hUd hd, hνd _ hd⟩, .inl ⟨.slice none 0 0, ?_, ?_⟩⟩
      · refine run_w _ ?_
        rw [hrun, hz]
      · have := Rep.ls (U := upd s.used d true) (ν := upd ν d (.slice none 0 0)) (γ := γ) (w := w) d (upd_same _ _ _) (by rw [upd_same]; rfl)
        rw [upd_same] at this; exact this
    · obtain ⟨ν', w', hst, X, hrun, hX, hX1⟩ := grow (l := []) (base := none) (sCap := 0) (olds := []) (bs1 := fun _ => []) hd (by simp) (by simp) (.none (by simp)) (by simp [inn]) (by
        intro w' _; simp [Builtin.firstCells]) (by simp; omega) (by simpa using hO') _ hl2 (by
        intro c hc
        rcases hc with hc | hc
        · simp [inn] at hc
        · exact hun c hc)
      refine ⟨ν', γ, w', by simpa using hst, .inl ⟨X, run_w _ (by simpa using hrun), ?_⟩⟩
      rw [hX]
      exact .ls d (upd_same _ _ _) (by rw [← hX]; exact hX1)
  · -- own
    rename_i id
    split at hq
    case h_2 => cases hq
    rename_i E0 l hid'
    split at hq
    case h_2 => cases hq
    rename_i l' hcast2
    obtain ⟨e0, hcm⟩ := castE_eq hcast2
    subst e0
    simp only at hcm
    subst hcm
    obtain ⟨hd, hq⟩ := fresh_some hq
    cases hq
    have hO' := hO _ rfl
    cases hx with
    | ls _ hu' ho =>
      obtain ⟨olds, bs1, hol, ho1, hin1, hown1, hfo, -⟩ := tree_first (P := P) (hl2.ok _ _ hid')
      obtain ⟨a, cap, hν, hMX, hc, harr⟩ := hl2.ok _ _ hid'
      rw [hν] at hfo
      have hfo' : ∀ w', w'.heap = w.heap → (Builtin.firstCells ei.size l.length (.slice a l.length cap)).run P w' = .ok olds.toArray w' := fun w' hw' => by rw [hes]; exact hfo w' hw'
      have hdis : ∀ c ∈ inn (l.length * esz E0) bs1, c ∉ inn (m.length * esz E0) bs2 := fun c hc1 hc2 => hun c hc2 id _ hid' (hown1 c hc1)
      by_cases hroom : l.length + m.length ≤ cap
      · by_cases hz : cap = 0
        · have hl0 : l.length = 0 := by omega
          have hm0 : m.length = 0 := by omega
          have hrun := run_append_lie (P := P) (w := w) (w' := w) (ty := ty) (base := a) (sLen := l.length) (sCap := cap) hu hei hnlen (hnf' w rfl) hroom (by
            intro a' _
            have hnews : news = [] := List.length_eq_zero_iff.1 (by rw [hnl, hm0]; simp)
            rw [hnews]; rfl) (fun _ => rfl)
          have hst := Step.rename hm hl2 hid' hd (c' := .tree E0 (l ++ m)) (v := .slice a 0 cap) ⟨a, cap, by rw [upd_same, List.length_append, hl0, hm0], by rw [List.length_append]; simp only [MX]; omega, by rw [List.length_append]; omega, .inl hz⟩ (by
            intro b ho
            rcases ho with ⟨len, cap', e, hne⟩ | ⟨bs, hdp, hb⟩
            · rw [upd_same] at e; simp at e; omega
            · rcases hdp.inv_ps with ⟨-, h, -⟩ | ⟨_, _, _, _, _, h, -⟩
              · rw [h] at hb; simp at hb
              · exact absurd (List.length_eq_zero_iff.1 (by rw [List.length_append]; omega)) h)
          refine ⟨upd ν d (.slice a 0 cap), γ, w, hst, .inl ⟨.slice a 0 cap, ?_, ?_⟩⟩
          · refine run_w _ ?_
            rw [hν, hrun, hl0, hm0]
          · have := Rep.ls (U := upd s.used d true) (ν := upd ν d (.slice a 0 cap)) (γ := γ) (w := w) d (upd_same _ _ _) (by rw [upd_same]; rfl)
            rw [upd_same] at this; exact this
        · rcases harr with hz' | ⟨b', xs, bs1', rfl, hrow, hxl, hin1'⟩
          · exact absurd hz' hz
          · have hrow0 := hrow
            obtain ⟨hok, hg0, hx1, T, hb⟩ := hrow
            have hbound : l.length * esz E0 + news.length ≤ xs.length := by
              rw [hnl, hxl, ← Nat.add_mul]; exact Nat.mul_le_mul_right _ hroom
            have hsc := run_storeCells_at P b' (l.length * esz E0) T news 0 xs.toArray w hb (by simpa using hbound) hn1
            simp only [Nat.add_zero] at hsc
            have hrun := run_append_lie (P := P) (w := w) (w' := w.setRow b' (xs.take (l.length * esz E0) ++ news ++ xs.drop (l.length * esz E0 + news.length)).toArray) (ty := ty) (base := some ⟨b', 0, none⟩) (sLen := l.length) (sCap := cap) hu hei hnlen (hnf' w rfl) hroom (by
              intro a' ha
              cases ha
              rw [Addr.add_mid, Nat.zero_add, hes]
              simpa using hsc) (by intro h; cases h)
            obtain ⟨f1, f2, f3⟩ := setRow_facts (ys := xs.take (l.length * esz E0) ++ news ++ xs.drop (l.length * esz E0 + news.length)) hb
            have hone : ∀ z ∈ xs.take (l.length * esz E0) ++ news ++ xs.drop (l.length * esz E0 + news.length), z.oneCell' = true := by
              intro z hz
              simp only [List.mem_append] at hz
              rcases hz with (hz | hz) | hz
              · exact hx1 z (List.mem_of_mem_take hz)
              · exact hn1 z hz
              · exact hx1 z (List.mem_of_mem_drop hz)
            have hle : l.length * esz E0 ≤ xs.length := by omega
            have htl : (xs.take (l.length * esz E0)).length = l.length * esz E0 := by simp; omega
            have hin1t : Inner B γ w E0 l (xs.take (l.length * esz E0)) bs1' := ⟨fun i hi j hj => by
              have e5 : (xs.take (l.length * esz E0)).getD (i * esz E0 + j) undef = xs.getD (i * esz E0 + j) undef := by
                simp [List.getD_eq_getElem?_getD, List.getElem?_take_of_lt (idx_lt hi hj)]
              rw [e5]; exact hin1'.deep i hi j hj, hin1'.nodup, hin1'.ok⟩
            have hown1' := hin1'.owns hν hMX hc hrow0 hxl
            have hdis' : ∀ c ∈ inn (l.length * esz E0) bs1', c ∉ inn (m.length * esz E0) bs2 := fun c hc1 hc2 => hun c hc2 id _ hid' (hown1' c hc1)
            obtain ⟨hinA, hmemA⟩ := Inner.append (zs := xs.drop (l.length * esz E0 + news.length)) htl hnl hin1t hin2 hdis'
            have hinW := hinA.keep (w' := w.setRow b' (xs.take (l.length * esz E0) ++ news ++ xs.drop (l.length * esz E0 + news.length)).toArray) (γ' := γ) fun c hc' => by
              refine ⟨f1 c ?_, rfl⟩
              rintro rfl
              obtain ⟨i, j, hi, hj, h⟩ := inn_ij hc'
              have := (hinA.deep i hi j hj).pos h (hinA.ok _ hc').2
              omega
            have hlenA : (xs.take (l.length * esz E0) ++ news ++ xs.drop (l.length * esz E0 + news.length)).length = cap * esz E0 := by
              simp only [List.length_append, List.length_take, List.length_drop]; omega
            have hMA : (l ++ m).length ≤ MX := by rw [List.length_append]; simp only [MX]; omega
            have hcA : (l ++ m).length ≤ cap := by rw [List.length_append]; exact hroom
            have hst := Step.rewriteS hm hl2 (S := inn (m.length * esz E0) bs2) hun hid' hd hrow0 (show Owns ν w id (.tree E0 l) b' from .inl ⟨_, _, hν, hz⟩) hone f1 f2 f3 rfl rfl rfl (c' := .tree E0 (l ++ m)) (v := .slice (some ⟨b', 0, none⟩) (l.length + m.length) cap)
              (fun hr hk => ⟨some ⟨b', 0, none⟩, cap, by rw [upd_same, List.length_append], hMA, hcA, .inr ⟨b', _, _, rfl, hr, hlenA, hinW⟩⟩)
              (fun b'' h => by
                rcases hinW.owned (ν := upd ν d (.slice (some ⟨b', 0, none⟩) (l.length + m.length) cap)) (by rw [upd_same, List.length_append]) hMA hcA ⟨hok, hg0, hone, T, f2 T hb⟩ hlenA h with rfl | h
                · exact .inl (.inl ⟨_, _, hν, hz⟩)
                · rcases hmemA _ h with h | h
                  · exact .inl (hown1' _ h)
                  · exact .inr h)
            refine ⟨_, γ, _, hst, .inl ⟨.slice (some ⟨b', 0, none⟩) (l.length + m.length) cap, run_w _ (by rw [hν]; exact hrun), ?_⟩⟩
            have := Rep.ls (U := upd s.used d true) (ν := upd ν d (.slice (some ⟨b', 0, none⟩) (l.length + m.length) cap)) (γ := γ) (w := w.setRow b' (xs.take (l.length * esz E0) ++ news ++ xs.drop (l.length * esz E0 + news.length)).toArray) d (upd_same _ _ _) (by rw [upd_same]; rfl)
            rw [upd_same] at this; exact this
      · obtain ⟨ν', w', hst, X, hrun, hX, hX1⟩ := grow (l := l) (base := a) (sCap := cap) hd hol ho1 hin1 hdis hfo' (by omega) hO' (upd (upd s.locs id2 none) id none) (hl2.drop id) (by
          intro c hc j e hj ho
          rcases upd_cases hj with ⟨_, h⟩ | ⟨hne, h⟩
          · cases h
          · rcases hc with hc | hc
            · exact hne (hl2.apart j id e _ c h hid' ho (hown1 c hc))
            · exact hun c hc j e h ho)
        refine ⟨ν', γ, w', hst, .inl ⟨X, run_w _ (by rw [hν]; exact hrun), ?_⟩⟩
        rw [hX]
        exact .ls d (upd_same _ _ _) (by rw [← hX]; exact hX1)
  · cases hq
theorem lAppend_sound {tx ty : Nat} {ti : TI} (hT : TIOK P tx ti) (hm : Mem B γ w) {s : AS} (hl : LocsOK B s.used ν γ w s.locs) {d : Nat} {x y : Value} {a b : AV} (hx : Rep s.used ν γ w x a) (hy : Rep s.used ν γ w y b)
    {r} (hq : lAppend s d ti a b = some r) (hO : ∀ p, r.1 = some p → p) (d' : Option Nat) : LSound P B s ν γ w (do pure (.value (← Builtin.append_ #[tx, tx] ty #[x, y]))) d' r := by
  unfold lAppend at hq
  split at hq
  · split at hq
    · exact lAppendT_sound hT hm hl hx hy hq hO d'
    · exact lAppend0_sound hT hm hl hx hy hq hO d'
  · exact lAppend0_sound hT hm hl hx hy hq hO d'
theorem run_make' {tx e : Nat} {ei : TypeInfo} {z : Value} (hu : P.underlying tx = some (.slice e)) (hei : P.info? e = some ei) (hez : ei.zero = some z) {k k' : IntKind} {n m : Int} (h0 : 0 ≤ n) (h1 : n ≤ m) (h2 : m ≤ 1073741824) (hb : ei.bytes ≤ 256)
    (hzs : z.cells.size = ei.size) :
    (Instr.makeSlice tx (.int k n) (.int k' m)).run P w = .ok (.slice (some ⟨w.heap.size, 0, none⟩) n.toNat m.toNat) (w.alloc (.cells (Builtin.zeroCells z.cells m.toNat) e)) := by
  have hbm : (ei.bytes : Int) * m ≤ 281474976710656 := by
    calc (ei.bytes : Int) * m ≤ 256 * 1073741824 := Int.mul_le_mul (by omega) h2 (by omega) (by omega)
      _ ≤ 281474976710656 := by decide
  have := run_make (P := P) w tx e ei z hu hei hez k k' n m h0 h1 hbm (by omega)
  rw [this, ← hzs]
  congr 2
theorem lMake_sound {tx : Nat} {ti : TI} (hT : TIOK P tx ti) (hm : Mem B γ w) {s : AS} (hl : LocsOK B s.used ν γ w s.locs) {d : Nat} {x y : Value} {a b : AV} (hx : Rep s.used ν γ w x a) (hy : Rep s.used ν γ w y b)
    {r} (hq : lMake s d ti a b = some r) (hO : ∀ p, r.1 = some p → p) (d' : Option Nat) : LSound P B s ν γ w (do pure (.value (← Instr.makeSlice tx x y))) d' r := by
  unfold lMake at hq
  split at hq
  case h_2 => cases hq
  rename_i E k n k' m
  split at hq
  · rename_i hD hE
    obtain ⟨hd, hq⟩ := fresh_some hq
    cases hq
    obtain ⟨h0, h1, h2⟩ := hO _ rfl
    obtain ⟨e, ei, z, hu, hei, hes, hez, hzs, hz1, hzr, hb0, hb1⟩ := zeroEl hT
    have hpos := esz_pos E
    have hzne : z.cells.size ≠ 0 := by omega
    rw [rep_int hx, rep_int hy]
    have hrun := run_make' (P := P) (w := w) (k := k) (k' := k') hu hei hez h0 h1 h2 hb1 (by rw [hzs, hes])
    have hlen : (List.replicate n.toNat (elDef E)).length = n.toNat := List.length_replicate
    have hin : Inner B γ w E (List.replicate n.toNat (elDef E)) (Builtin.zeroCells z.cells m.toNat).toList (fun _ => []) := .none fun i hi j hj => by
      rw [hlen] at hi
      have hb := idx_lt (show i < m.toNat by omega) hj
      rw [zeroCells_get _ hzne _ _ (by rw [hzs]; exact hb), hzs]
      have e1 : (i * esz E + j) % esz E = j := by rw [Nat.add_comm, Nat.add_mul_mod_self_right, Nat.mod_eq_of_lt hj]
      have e2 : (List.replicate n.toNat (elDef E)).getD i (elDef E) = elDef E := by simp [List.getD_eq_getElem?_getD, hi]
      rw [e1, e2]; exact flat_deep (hzr s.used ν γ w j hj) (enc_zero E j hj hE)
    have hst := tree_new (B := B) (L := s.locs) (l := List.replicate n.toNat (elDef E)) (xs := (Builtin.zeroCells z.cells m.toNat).toList) (cap := m.toNat) (w' := w.alloc (.cells (Builtin.zeroCells z.cells m.toNat).toList.toArray e)) hd (by rw [hlen]; simp only [MX]; omega) (by rw [hlen]; omega)
      (by simp [Builtin.zeroCells, hzs]) hin (by rw [inn_none (fun _ _ => rfl)]; simp) hm hl (T := e) rfl rfl rfl rfl (zeroCells_one hz1 hzne _)
    refine ⟨_, γ, _, hst, .inl ⟨_, run_w _ (by simpa using hrun), ?_⟩⟩
    have := Rep.ls (U := upd s.used d true) (ν := upd ν d (.slice (some ⟨w.heap.size, 0, none⟩) (List.replicate n.toNat (elDef E)).length m.toNat)) (γ := γ) (w := w.alloc (.cells (Builtin.zeroCells z.cells m.toNat).toList.toArray e)) d (upd_same _ _ _) (by rw [upd_same]; rfl)
    rw [upd_same, hlen] at this
    simpa [hlen] using this
  obtain ⟨hd, hq⟩ := fresh_some hq
  cases hq
  obtain ⟨h0, h1, h2⟩ := hO _ rfl
  obtain ⟨e, ei, z, hu, hei, hes, hez, hzs, hz1, hzr, hb0, hb1⟩ := zeroEl hT
  have hpos := esz_pos E
  have hzne : z.cells.size ≠ 0 := by omega
  rw [rep_int hx, rep_int hy]
  have hrun := run_make' (P := P) (w := w) (k := k) (k' := k') hu hei hez h0 h1 h2 hb1 (by rw [hzs, hes])
  have hlen : (List.replicate n.toNat (elDef E)).length = n.toNat := List.length_replicate
  have hst := arr_new (B := B) (L := s.locs) (l := List.replicate n.toNat (elDef E)) (xs := (Builtin.zeroCells z.cells m.toNat).toList) (cap := m.toNat) (w' := w.alloc (.cells (Builtin.zeroCells z.cells m.toNat).toList.toArray e)) hd (by rw [hlen]; simp only [MX]; omega) (by rw [hlen]; omega)
    (by simp [Builtin.zeroCells, hzs]) (fun i hi j hj => by
      rw [hlen] at hi
      have hb := idx_lt (show i < m.toNat by omega) hj
      rw [zeroCells_get _ hzne _ _ (by rw [hzs]; exact hb), hzs]
      have e1 : (i * esz E + j) % esz E = j := by rw [Nat.add_comm, Nat.add_mul_mod_self_right, Nat.mod_eq_of_lt hj]
      have e2 : (List.replicate n.toNat (elDef E)).getD i (elDef E) = elDef E := by simp [List.getD_eq_getElem?_getD, hi]
      rw [e1, e2]; exact hzr _ _ _ _ j hj) hm hl (T := e) rfl rfl rfl rfl (zeroCells_one hz1 hzne _)
  refine ⟨_, γ, _, hst, .inl ⟨_, run_w _ (by simpa using hrun), ?_⟩⟩
  have := Rep.ls (U := upd s.used d true) (ν := upd ν d (.slice (some ⟨w.heap.size, 0, none⟩) (List.replicate n.toNat (elDef E)).length m.toNat)) (γ := γ) (w := w.alloc (.cells (Builtin.zeroCells z.cells m.toNat).toList.toArray e)) d (upd_same _ _ _) (by rw [upd_same]; rfl)
  rw [upd_same, hlen] at this
  simpa [hlen] using this
end Go.Rs
end
section
namespace Go.Rs
variable {P : Program} {B : Base} {U U' U'' : Nat → Bool} {ν ν' ν'' : Nat → Value} {γ γ' γ'' : Nat → Nat} {w w' w'' : World} {L L' L'' : Locs}
theorem run_copy {tx e : Nat} {i : TypeInfo} (hu : P.underlying tx = some (.slice e)) (hi : P.info? e = some i) {ats : List Nat} {ty : Nat} {base : Option Addr} {dLen dCap m : Nat} {y : Value} {news : List Value}
    (hlen : (Builtin.lenOf y).run P w = .ok m w) (hf : (Builtin.firstCells i.size (Nat.min m dLen) y).run P w = .ok news.toArray w) (hst : ∀ a, base = some a → (storeCells a news 0).run P w = .ok () w') (hnone : base = none → w' = w) :
    (Builtin.copy_ (tx :: ats).toArray ty #[.slice base dLen dCap, y]).run P w = .ok (goInt (Nat.min m dLen)) w' := by
  have hf' : (Builtin.firstCells i.size (min m dLen) y).run P w = .ok news.toArray w := hf
  cases base with
  | none => rw [hnone rfl]; simp [Builtin.copy_, run_underlying' hu, run_sizeOf hi, hlen, hf']
  | some a => simp [Builtin.copy_, run_underlying' hu, run_sizeOf hi, hlen, hf', hst a rfl]
theorem lCopy_sound {tx : Nat} {ti : TI} (hT : TIOK P tx ti) (hm : Mem B γ w) {s : AS} (hl : LocsOK B s.used ν γ w s.locs) {ats : List Nat} {ty : Nat} {x y : Value} {a b : AV} (hx : Rep s.used ν γ w x a) (hy : Rep s.used ν γ w y b)
    {r} (hq : lCopy s ti a b = some r) (d' : Option Nat) : LSound P B s ν γ w (do pure (.value (← Builtin.copy_ (tx :: ats).toArray ty #[x, y]))) d' r := by
  unfold lCopy at hq
  split at hq
  case h_2 => cases hq
  rename_i E id E' m
  split at hq
  case h_2 => cases hq
  rename_i m' hcast
  obtain ⟨e0, hcm⟩ := castE_eq hcast
  subst e0
  simp only at hcm
  subst hcm
  split at hq
  case h_2 => cases hq
  rename_i E0 l hid
  split at hq
  case h_2 => cases hq
  rename_i l' hcast2
  obtain ⟨e0, hcm⟩ := castE_eq hcast2
  subst e0
  simp only at hcm
  subst hcm
  cases hq
  obtain ⟨e, ei, z, hu, hei, hes, hez, hzs, hz1, hzr, hb0, hb1⟩ := zeroEl hT
  obtain ⟨news0, hnl, hn1, hnr, hnf, hnlen⟩ := (SliceIs.of_ps hy).first
  cases hx with
  | ls _ hu' ho =>
    obtain ⟨a, cap, hν, hMX, hc, harr⟩ := hl.ok _ _ hid
    have hminle : Nat.min m.length l.length ≤ m.length := Nat.min_le_left _ _
    have hminle2 : Nat.min m.length l.length ≤ l.length := Nat.min_le_right _ _
    have hf := hnf (Nat.min m.length l.length) hminle w rfl
    rw [← hes] at hf
    have hnewsl : (news0.take (Nat.min m.length l.length * ei.size)).length = Nat.min m.length l.length * esz E0 := by
      rw [hes, List.length_take, hnl]
      have : Nat.min m.length l.length * esz E0 ≤ m.length * esz E0 := Nat.mul_le_mul_right _ hminle
      omega
    have hcopylen : (m.take l.length ++ l.drop m.length).length = l.length := by simp; omega
    by_cases hz : cap = 0
    · have hl0 : l = [] := List.length_eq_zero_iff.1 (by omega)
      have hz0 : Nat.min m.length l.length = 0 := by rw [hl0]; simp
      have hrun := run_copy (P := P) (w := w) (w' := w) (ty := ty) (ats := ats) (base := a) (dCap := cap) hu hei hnlen hf (by
        intro a' _
        have : news0.take (Nat.min m.length l.length * ei.size) = [] := by rw [hz0]; simp
        rw [this]; rfl) (fun _ => rfl)
      have e1 : m.take l.length ++ l.drop m.length = l := by rw [hl0]; simp
      have e2 : upd s.locs id (some (LC.arr E0 (m.take l.length ++ l.drop m.length))) = s.locs := by
        rw [e1]
        funext t
        by_cases ht : t = id
        · subst ht; rw [upd_same, hid]
        · rw [upd_ne _ _ ht]
      have hst : Step B s.used ν γ w s.used ν γ w (upd s.locs id (some (LC.arr E0 (m.take l.length ++ l.drop m.length)))) := by rw [e2]; exact .refl hm hl
      exact ⟨ν, γ, w, hst, .inl ⟨_, run_w _ (by rw [hν]; exact hrun), .int _ _⟩⟩
    · rcases harr with hz' | ⟨b', xs, rfl, hrow, hxl, hxr⟩
      · exact absurd hz' hz
      · have hrow0 := hrow
        obtain ⟨-, -, hx1, T, hb⟩ := hrow
        have hlx : l.length * esz E0 ≤ xs.length := by rw [hxl]; exact Nat.mul_le_mul_right _ hc
        have hmx : Nat.min m.length l.length * esz E0 ≤ l.length * esz E0 := Nat.mul_le_mul_right _ hminle2
        have hnone1 : ∀ x ∈ news0.take (Nat.min m.length l.length * ei.size), x.oneCell' = true := fun x hx => hn1 x (List.mem_of_mem_take hx)
        have hsc := run_storeCells_at P b' 0 T (news0.take (Nat.min m.length l.length * ei.size)) 0 xs.toArray w hb (by simp only [hnewsl, List.size_toArray]; omega) hnone1
        simp only [Nat.zero_add, Nat.add_zero] at hsc
        generalize hnews : news0.take (Nat.min m.length l.length * ei.size) = news at *
        have hrun := run_copy (P := P) (w := w) (w' := w.setRow b' (xs.take 0 ++ news ++ xs.drop (0 + news.length)).toArray) (ty := ty) (ats := ats) (base := some ⟨b', 0, none⟩) (dCap := cap) hu hei hnlen hf (by
          intro a' ha; cases ha; simpa using hsc) (by intro h; cases h)
        obtain ⟨f1, f2, f3⟩ := setRow_facts (ys := xs.take 0 ++ news ++ xs.drop (0 + news.length)) hb
        have hone : ∀ z ∈ xs.take 0 ++ news ++ xs.drop (0 + news.length), z.oneCell' = true := by
          intro z hz
          simp only [List.mem_append] at hz
          rcases hz with (hz | hz) | hz
          · exact hx1 z (List.mem_of_mem_take hz)
          · exact hnone1 z hz
          · exact hx1 z (List.mem_of_mem_drop hz)
        have hget := splice_get xs news 0 (by omega)
        have hst := Step.write hm hl hid hrow0 (show Owns ν w id (.arr E0 l) b' from ⟨_, _, hν, hz⟩) hone f1 f2 f3 rfl rfl rfl (c' := .arr E0 (m.take l.length ++ l.drop m.length))
          (fun hr hk => by
            refine ⟨some ⟨b', 0, none⟩, cap, by rw [hν, hcopylen], by rw [hcopylen]; exact hMX, by rw [hcopylen]; exact hc, .inr ⟨b', _, rfl, hr, ?_, ?_⟩⟩
            · simp only [List.length_append, List.length_take, List.length_drop]; omega
            · intro i hi j hj
              rw [hcopylen] at hi
              rw [List.getD_eq_getElem?_getD, hget]
              by_cases him : i < m.length
              · have h4 := idx_lt (show i < Nat.min m.length l.length from Nat.lt_min.2 ⟨him, hi⟩) hj
                rw [if_pos (by omega)]
                have e1 : (m.take l.length ++ l.drop m.length).getD i (elDef E0) = m.getD i (elDef E0) := by
                  rw [List.getD_eq_getElem?_getD, List.getElem?_append_left (by simp; omega), List.getElem?_take_of_lt hi, List.getD_eq_getElem?_getD]
                have e3 : news[i * esz E0 + j]? = news0[i * esz E0 + j]? := by rw [← hnews, List.getElem?_take_of_lt (by rw [hes]; exact h4)]
                rw [e1, Nat.sub_zero, e3]
                have := (hnr i him j hj).keep hk (fun _ h => h) (fun _ _ => rfl)
                rwa [List.getD_eq_getElem?_getD] at this
              · have hmin : Nat.min m.length l.length = m.length := Nat.min_eq_left (by omega)
                have hge : m.length * esz E0 ≤ i * esz E0 := Nat.mul_le_mul_right _ (by omega)
                rw [hmin] at hnewsl
                rw [if_neg (by omega)]
                have e1 : (m.take l.length ++ l.drop m.length).getD i (elDef E0) = l.getD i (elDef E0) := by
                  rw [List.getD_eq_getElem?_getD, List.getElem?_append_right (by simp; omega), List.getElem?_drop, List.getD_eq_getElem?_getD]
                  congr 2
                  simp; omega
                rw [e1]
                have := (hxr i hi j hj).keep hk (fun _ h => h) (fun _ _ => rfl)
                rwa [List.getD_eq_getElem?_getD] at this)
          (fun b'' h => by obtain ⟨a1, a2, a3, a4⟩ := h; exact ⟨a1, a2, a3, a4⟩)
        exact ⟨ν, γ, _, hst, .inl ⟨_, run_w _ (by rw [hν]; exact hrun), .int _ _⟩⟩
theorem fill_row {T : Tab} (hT : TabOK P T) {s : AS} {ρ : Operand → Value} {E : El} {n : Nat} : ∀ (parts : List (Nat × Operand)) (k : Nat) (L L' : Locs) (γ : Nat → Nat) (xs : Array Value) (l : List (ElT E)),
    Mem B γ w → LocsOK B s.used ν γ w L → (∀ p ∈ parts, Rep s.used ν γ w (ρ p.2) (s.rd p.2)) → partsOf s k L parts E = some (l, L') → k + l.length = n → xs.size = n * esz E → (∀ x ∈ xs.toList, x.oneCell' = true) →
    ∃ γ' ys, Step B s.used ν γ w s.used ν γ' w L' ∧ Instr.fill (fun i => some (i * esz E, esz E)) xs (parts.map fun p => (p.1, ρ p.2)) = some ys ∧ ys.size = xs.size ∧ (∀ x ∈ ys.toList, x.oneCell' = true) ∧
      (∀ j, j < k * esz E → ys.toList.getD j undef = xs.toList.getD j undef) ∧ ∀ i, i < l.length → ∀ j, j < esz E → Rep s.used ν γ' w (ys.toList.getD ((k + i) * esz E + j) undef) ((enc E (l.getD i (elDef E))).getD j .opq)
  | [], k, L, L', γ, xs, l, hm, hl, hr, hp, hn, hx, h1 => by
    simp only [partsOf, Option.some.injEq, Prod.mk.injEq] at hp; obtain ⟨rfl, rfl⟩ := hp
    exact ⟨γ, xs, .refl hm hl, rfl, rfl, h1, fun _ _ => rfl, by intro i hi; simp at hi⟩
  | (i, x) :: r, k, L, L', γ, xs, l, hm, hl, hr, hp, hn, hx, h1 => by
    simp only [partsOf] at hp
    split at hp
    case h_2 => cases hp
    rename_i hik
    have := Nat.eq_of_beq_eq_true hik; subst this
    split at hp
    case h_2 => cases hp
    rename_i v L1 hps
    simp only [seqV_eq] at hp
    split at hp
    case h_2 => cases hp
    rename_i elt hdec
    split at hp
    case h_2 => cases hp
    rename_i ys0 L2 hrest
    simp only [Option.some.injEq, Prod.mk.injEq] at hp; obtain ⟨rfl, rfl⟩ := hp
    obtain ⟨γ1, s1, hv⟩ := persistS_sound hm hl (hr (i, x) (by simp)) hps
    have henc := dec_enc hdec
    have hclen : (cellsOf v).length = esz E := by rw [← henc, enc_len]
    have hpos := esz_pos E
    have hcv := CellsIs.of_cells hv (by intro e; rw [e] at hclen; simp at hclen; omega)
    have hcl := hcv.len
    simp only [List.length_cons] at hn
    have hsz : (ρ x).cells.size = esz E := by rw [← hclen, ← hcl]; simp
    have hbound : i * esz E + esz E ≤ xs.size := by
      have : (i + 1) * esz E ≤ n * esz E := Nat.mul_le_mul_right _ (by omega)
      rw [Nat.add_mul] at this; omega
    have e1 : (ρ x).cells.zipIdx.foldl (fun cs (c, j) => cs.setIfInBounds (i * esz E + j) c) xs = ((ρ x).cells.toList.zipIdx 0).foldl (fun cs (x : Value × Nat) => cs.setIfInBounds (i * esz E + x.2) x.1) xs := by
      rw [← Array.foldl_toList, Array.toList_zipIdx]
    have hfill : Instr.fill (fun i => some (i * esz E, esz E)) xs (((i, x) :: r).map fun p => (p.1, ρ p.2)) =
        Instr.fill (fun i => some (i * esz E, esz E)) (((ρ x).cells.toList.zipIdx 0).foldl (fun cs (x : Value × Nat) => cs.setIfInBounds (i * esz E + x.2) x.1) xs) (r.map fun p => (p.1, ρ p.2)) := by
      simp only [List.map_cons, Instr.fill]
      rw [if_neg, e1]
      simp only [Bool.or_eq_true, ne_eq, decide_eq_true_eq, not_or, Nat.not_lt, hsz]
      exact ⟨fun h => h trivial, hbound⟩
    rw [hfill]
    generalize hxs2 : ((ρ x).cells.toList.zipIdx 0).foldl (fun cs (x : Value × Nat) => cs.setIfInBounds (i * esz E + x.2) x.1) xs = xs2
    have hget : ∀ k, xs2[k]? = if i * esz E ≤ k ∧ k < i * esz E + esz E then (ρ x).cells.toList[k - i * esz E]? else xs[k]? := by
      intro k
      rw [← hxs2, fold_set]
      rw [hcl, hclen, Nat.add_zero]
      by_cases hk : i * esz E ≤ k ∧ k < i * esz E + esz E
      · rw [if_pos (by omega), if_pos hk]
      · rw [if_neg (by omega), if_neg hk]
    have hsize2 : xs2.size = xs.size := by rw [← hxs2, fold_size]
    have hone2 : ∀ z ∈ xs2.toList, z.oneCell' = true := by
      intro z hz
      obtain ⟨k, hk⟩ := List.mem_iff_getElem?.1 hz
      rw [Array.getElem?_toList, hget] at hk
      split at hk
      · exact hcv.one z (List.mem_of_getElem? hk)
      · rw [← Array.getElem?_toList] at hk; exact h1 z (List.mem_of_getElem? hk)
    obtain ⟨γ2, ys, s2, hf, hys, hone3, hlow, hrep⟩ := fill_row (n := n) hT r (i + 1) L1 L2 γ1 xs2 ys0 s1.mem s1.locs (fun p hp => s1.rep (hr p (by simp [hp]))) hrest (by omega) (hsize2.trans hx) hone2
    refine ⟨γ2, ys, s1.trans s2, hf, by rw [hys, hsize2], hone3, ?_, ?_⟩
    · intro j hj
      rw [hlow j (by rw [Nat.add_mul]; omega)]
      rw [List.getD_eq_getElem?_getD, Array.getElem?_toList, hget, if_neg (by omega), List.getD_eq_getElem?_getD, Array.getElem?_toList]
    · intro q hq j hj
      cases q with
      | zero =>
        rw [Nat.add_zero, hlow _ (by rw [Nat.add_mul]; omega)]
        have := s2.rep (hcv.rep j (by omega))
        rw [← henc] at this
        rw [List.getD_eq_getElem?_getD, Array.getElem?_toList, hget, if_pos (by omega)]
        rw [List.getD_eq_getElem?_getD] at this
        simpa using this
      | succ q =>
        have := hrep q (by simpa using hq) j hj
        have e : i + 1 + q = i + (q + 1) := by omega
        rw [e] at this
        simpa using this
theorem inn_add (a b : Nat) (f : Nat → List Nat) : inn (a + b) f = inn a f ++ inn b (fun k => f (a + k)) := by
  induction b with
  | zero => simp [inn]
  | succ b ih => rw [← Nat.add_assoc, inn_snoc, ih, inn_snoc, List.append_assoc]
theorem fill_rowT {s : AS} {ρ : Operand → Value} {E : El} {n : Nat} : ∀ (parts : List (Nat × Operand)) (k : Nat) (L L' : Locs) (γ : Nat → Nat) (xs : Array Value) (l : List (ElT E)),
    Mem B γ w → LocsOK B s.used ν γ w L → (∀ p ∈ parts, Rep s.used ν γ w (ρ p.2) (s.rd p.2)) → partsT s k L parts E = some (l, L') → k + l.length = n → xs.size = n * esz E → (∀ x ∈ xs.toList, x.oneCell' = true) →
    ∃ γ' ys bss, Handed B s.used ν γ w L γ' L' (inn (l.length * esz E) bss) ∧ Instr.fill (fun i => some (i * esz E, esz E)) xs (parts.map fun p => (p.1, ρ p.2)) = some ys ∧ ys.size = xs.size ∧ (∀ x ∈ ys.toList, x.oneCell' = true) ∧
      (∀ j, j < k * esz E → ys.toList.getD j undef = xs.toList.getD j undef) ∧ (∀ i, i < l.length → ∀ j, j < esz E → Deep w (ys.toList.getD ((k + i) * esz E + j) undef) ((enc E (l.getD i (elDef E))).getD j .opq) (bss (i * esz E + j))) ∧
      ∀ c ∈ inn (l.length * esz E) bss, full γ' w c
  | [], k, L, L', γ, xs, l, hm, hl, hr, hp, hn, hx, h1 => by
    simp only [partsT, Option.some.injEq, Prod.mk.injEq] at hp; obtain ⟨rfl, rfl⟩ := hp
    exact ⟨γ, xs, fun _ => [], by simpa [inn] using Handed.of_frz (.refl hm hl), rfl, rfl, h1, fun _ _ => rfl, by intro i hi; simp at hi, by simp [inn]⟩
  | (i, x) :: r, k, L, L', γ, xs, l, hm, hl, hr, hp, hn, hx, h1 => by
    simp only [partsT] at hp
    split at hp
    case h_2 => cases hp
    rename_i hik
    have := Nat.eq_of_beq_eq_true hik; subst this
    split at hp
    case h_2 => cases hp
    rename_i v L1 hps
    simp only [seqV_eq] at hp
    split at hp
    case h_2 => cases hp
    rename_i elt hdec
    split at hp
    case h_2 => cases hp
    rename_i ys0 L2 hrest
    simp only [Option.some.injEq, Prod.mk.injEq] at hp; obtain ⟨rfl, rfl⟩ := hp
    obtain ⟨γ1, ss, g1, hcv, hf1⟩ := absorbS_sound hm hl (hr (i, x) (by simp)) hps
    have henc := dec_enc hdec
    have hclen : (cellsOf v).length = esz E := by rw [← henc, enc_len]
    have hpos := esz_pos E
    have hcl := hcv.len
    rw [hclen] at g1 hf1
    simp only [List.length_cons] at hn
    have hsz : (ρ x).cells.size = esz E := by rw [← hclen, ← hcl]; simp
    have hbound : i * esz E + esz E ≤ xs.size := by
      have : (i + 1) * esz E ≤ n * esz E := Nat.mul_le_mul_right _ (by omega)
      rw [Nat.add_mul] at this; omega
    have e1 : (ρ x).cells.zipIdx.foldl (fun cs (c, j) => cs.setIfInBounds (i * esz E + j) c) xs = ((ρ x).cells.toList.zipIdx 0).foldl (fun cs (x : Value × Nat) => cs.setIfInBounds (i * esz E + x.2) x.1) xs := by
      rw [← Array.foldl_toList, Array.toList_zipIdx]
    have hfill : Instr.fill (fun i => some (i * esz E, esz E)) xs (((i, x) :: r).map fun p => (p.1, ρ p.2)) =
        Instr.fill (fun i => some (i * esz E, esz E)) (((ρ x).cells.toList.zipIdx 0).foldl (fun cs (x : Value × Nat) => cs.setIfInBounds (i * esz E + x.2) x.1) xs) (r.map fun p => (p.1, ρ p.2)) := by
      simp only [List.map_cons, Instr.fill]
      rw [if_neg, e1]
      simp only [Bool.or_eq_true, ne_eq, decide_eq_true_eq, not_or, Nat.not_lt, hsz]
      exact ⟨fun h => h trivial, hbound⟩
    rw [hfill]
    generalize hxs2 : ((ρ x).cells.toList.zipIdx 0).foldl (fun cs (x : Value × Nat) => cs.setIfInBounds (i * esz E + x.2) x.1) xs = xs2
    have hget : ∀ k, xs2[k]? = if i * esz E ≤ k ∧ k < i * esz E + esz E then (ρ x).cells.toList[k - i * esz E]? else xs[k]? := by
      intro k
      rw [← hxs2, fold_set]
      rw [hcl, hclen, Nat.add_zero]
      by_cases hk : i * esz E ≤ k ∧ k < i * esz E + esz E
      · rw [if_pos (by omega), if_pos hk]
      · rw [if_neg (by omega), if_neg hk]
    have hsize2 : xs2.size = xs.size := by rw [← hxs2, fold_size]
    have hone2 : ∀ z ∈ xs2.toList, z.oneCell' = true := by
      intro z hz
      obtain ⟨k, hk⟩ := List.mem_iff_getElem?.1 hz
      rw [Array.getElem?_toList, hget] at hk
      split at hk
      · exact hcv.one z (List.mem_of_getElem? hk)
      · rw [← Array.getElem?_toList] at hk; exact h1 z (List.mem_of_getElem? hk)
    obtain ⟨γ2, ys, bss2, g2, hf, hys, hone3, hlow, hdeep, hf2⟩ := fill_rowT (n := n) r (i + 1) L1 L2 γ1 xs2 ys0 g1.mem g1.locs (fun p hp => g1.step.rep (hr p (by simp [hp]))) hrest (by omega) (hsize2.trans hx) hone2
    have einn : inn ((elt :: ys0).length * esz E) (fun k => if k < esz E then ss k else bss2 (k - esz E)) = inn (esz E) ss ++ inn (ys0.length * esz E) bss2 := by
      rw [List.length_cons, show (ys0.length + 1) * esz E = esz E + ys0.length * esz E by rw [Nat.add_mul]; omega, inn_add]
      congr 1
      · exact inn_congr fun k hk => by simp only [if_pos hk]
      · exact inn_congr fun k hk => by simp only [if_neg (show ¬ esz E + k < esz E by omega), Nat.add_sub_cancel_left]
    refine ⟨γ2, ys, fun k => if k < esz E then ss k else bss2 (k - esz E), ?_, hf, by rw [hys, hsize2], hone3, ?_, ?_, ?_⟩
    · rw [einn]; exact g1.trans g2
    · intro j hj
      rw [hlow j (by rw [Nat.add_mul]; omega)]
      rw [List.getD_eq_getElem?_getD, Array.getElem?_toList, hget, if_neg (by omega), List.getD_eq_getElem?_getD, Array.getElem?_toList]
    · intro q hq j hj
      cases q with
      | zero =>
        rw [Nat.add_zero, hlow _ (by rw [Nat.add_mul]; omega)]
        simp only [Nat.zero_mul, Nat.zero_add, if_pos hj]
        have := hcv.deep j (by omega)
        rw [← henc] at this
        rw [List.getD_eq_getElem?_getD, Array.getElem?_toList, hget, if_pos (by omega)]
        rw [List.getD_eq_getElem?_getD] at this
        simpa using this
      | succ q =>
        have := hdeep q (by simpa using hq) j hj
        have e : i + 1 + q = i + (q + 1) := by omega
        rw [e] at this
        have e2 : (q + 1) * esz E + j - esz E = q * esz E + j := by rw [Nat.add_mul]; omega
        have e4 : ¬ (q + 1) * esz E + j < esz E := by rw [Nat.add_mul]; omega
        simp only [if_neg e4, e2]
        simpa using this
    · intro c hc
      rw [einn] at hc
      rcases List.mem_append.1 hc with hc | hc
      · exact full_le (hf1 c hc) (g2.keeps.le c)
      · exact hf2 c hc
theorem run_buildSlice {t e n : Nat} {ei : TypeInfo} {z : Value} {E : El} {ρ : Operand → Value} {parts : List (Nat × Operand)} {ys : Array Value} (hu : P.underlying t = some (.slice e)) (hei : P.info? e = some ei) (hes : ei.size = esz E) (hez : ei.zero = some z) (hzs : z.cells.size = esz E)
    (hnb : n * esz E ≤ 10000) (hpz : n = 0 → parts = []) (hys : ys.size = (Builtin.zeroCells z.cells n).size) (hsz0 : (Builtin.zeroCells z.cells n).size = n * esz E)
    (hf : Instr.fill (fun i => some (i * esz E, esz E)) (Builtin.zeroCells z.cells n) (parts.map fun p => (p.1, ρ p.2)) = some ys) :
    (Instr.buildSlice t n (parts.toArray.map fun (i, x) => (i, ρ x))).run P w = .ok (.slice (some ⟨w.heap.size, 0, none⟩) n n) (w.alloc (.cells ys e)) := by
  have hpos := esz_pos E
  have hcells : (Array.range (n * ei.size)).map (z.cells[· % z.cells.size]!) = Builtin.zeroCells z.cells n := by
    rw [hes, ← hzs]; rfl
  have e2 : (parts.toArray.map fun (i, x) => (i, ρ x)).toList = parts.map fun p => (p.1, ρ p.2) := by simp
  have hlim : ¬ (2 ^ 24 < n * ei.size) := by rw [hes]; omega
  by_cases hn0 : n * ei.size = 0
  · have hn : n = 0 := by
      rcases Nat.mul_eq_zero.1 hn0 with h | h
      · exact h
      · omega
    subst hn
    have hparts : parts = [] := hpz rfl
    subst hparts
    have hr0 : Array.range 0 = #[] := rfl
    have hy0 : ys = #[] := by
      apply Array.eq_empty_of_size_eq_zero
      rw [hys, hsz0, Nat.zero_mul]
    subst hy0
    simp [Instr.buildSlice, run_underlying' hu, run_sizeOf hei, Instr.fill, newRow, hr0]
  · simp only [Instr.buildSlice, Sem.run_bind, run_underlying' hu, Result.andThen_ok, run_sizeOf hei, gt_iff_lt, hlim, if_false, hn0, run_zeroValue hei hez, Sem.run_pure, hcells, e2, Sem.run_ite]
    rw [hes, hf]
    simp [newRow]
theorem lBuildSlice0_sound {T : Tab} (hT : TabOK P T) (hm : Mem B γ w) {s : AS} (hl : LocsOK B s.used ν γ w s.locs) {ρ : Operand → Value} {d t n : Nat} {parts : List (Nat × Operand)} (hr : ∀ p ∈ parts, Rep s.used ν γ w (ρ p.2) (s.rd p.2))
    {r} (hq : lBuildSlice0 s d (T t) n parts = some r) (d' : Option Nat) : LSound P B s ν γ w (do pure (.value (← Instr.buildSlice t n (parts.toArray.map fun (i, x) => (i, ρ x))))) d' r := by
  have hTt := hT t
  unfold lBuildSlice0 at hq
  split at hq
  case h_2 => cases hq
  rename_i E hE
  rw [hE] at hTt
  split at hq
  case h_2 => cases hq
  rename_i l L' hp
  split at hq
  case h_2 => cases hq
  rename_i h1 h2
  have h1' := Nat.eq_of_beq_eq_true h1
  have h2' := Nat.le_of_ble_eq_true h2
  obtain ⟨hd, hq⟩ := fresh_some hq
  cases hq
  obtain ⟨e, ei, z, hu, hei, hes, hez, hzs, hz1, hzr, hb0, hb1⟩ := zeroEl hTt
  have hpos := esz_pos E
  have hzne : z.cells.size ≠ 0 := by omega
  have hsz0 : (Builtin.zeroCells z.cells n).size = n * esz E := by simp [Builtin.zeroCells, hzs]
  obtain ⟨γ', ys, st, hf, hys, hone, -, hrep⟩ := fill_row (ρ := ρ) (n := n) hT parts 0 s.locs L' γ (Builtin.zeroCells z.cells n) l hm hl hr hp (by omega) hsz0 (zeroCells_one hz1 hzne _)
  have hesz : esz E ≤ 10 := by cases E <;> decide
  have hnb : n * esz E ≤ 10000 := by
    calc n * esz E ≤ 1000 * 10 := Nat.mul_le_mul h2' hesz
      _ = 10000 := rfl
  have hrun : (Instr.buildSlice t n (parts.toArray.map fun (i, x) => (i, ρ x))).run P w = .ok (.slice (some ⟨w.heap.size, 0, none⟩) n n) (w.alloc (.cells ys e)) := by
    have hcells : (Array.range (n * ei.size)).map (z.cells[· % z.cells.size]!) = Builtin.zeroCells z.cells n := by
      rw [hes, ← hzs]; rfl
    have e2 : (parts.toArray.map fun (i, x) => (i, ρ x)).toList = parts.map fun p => (p.1, ρ p.2) := by simp
    have hlim : ¬ (2 ^ 24 < n * ei.size) := by rw [hes]; omega
    by_cases hn0 : n * ei.size = 0
    · have hn : n = 0 := by
        rcases Nat.mul_eq_zero.1 hn0 with h | h
        · exact h
        · omega
      subst hn
      have hl0 : l = [] := List.length_eq_zero_iff.1 h1'
      have hparts : parts = [] := by
        cases parts with
        | nil => rfl
        | cons p r =>
          obtain ⟨i, x⟩ := p
          simp only [partsOf] at hp
          split at hp
          · split at hp
            · simp only [seqV_eq] at hp
              split at hp
              · split at hp
                · simp only [Option.some.injEq, Prod.mk.injEq] at hp
                  rw [← hp.1] at hl0; cases hl0
                · cases hp
              · cases hp
            · cases hp
          · cases hp
      subst hparts
      have hr0 : Array.range 0 = #[] := rfl
      have hy0 : ys = #[] := by
        apply Array.eq_empty_of_size_eq_zero
        rw [hys, hsz0, Nat.zero_mul]
      subst hy0
      simp [Instr.buildSlice, run_underlying' hu, run_sizeOf hei, Instr.fill, newRow, hr0]
    · simp only [Instr.buildSlice, Sem.run_bind, run_underlying' hu, Result.andThen_ok, run_sizeOf hei, gt_iff_lt, hlim, if_false, hn0, run_zeroValue hei hez, Sem.run_pure, hcells, e2, Sem.run_ite]
      rw [hes, hf]
      simp [newRow]
  have hst := arr_new (B := B) (L := L') (l := l) (xs := ys.toList) (cap := n) (w' := w.alloc (.cells ys.toList.toArray e)) hd (by simp only [MX]; omega) (by omega) (by simp [hys, hsz0]) (fun i hi j hj => by
    have := hrep i hi j hj
    rwa [Nat.zero_add] at this) st.mem st.locs (T := e) rfl rfl rfl rfl hone
  refine ⟨_, γ', _, st.trans hst, .inl ⟨_, run_w _ (by simpa using hrun), ?_⟩⟩
  have := Rep.ls (U := upd s.used d true) (ν := upd ν d (.slice (some ⟨w.heap.size, 0, none⟩) l.length n)) (γ := γ') (w := w.alloc (.cells ys.toList.toArray e)) d (upd_same _ _ _) (by rw [upd_same]; rfl)
  rw [upd_same, h1'] at this
  simpa [h1'] using this
theorem lBuildSlice_sound {T : Tab} (hT : TabOK P T) (hm : Mem B γ w) {s : AS} (hl : LocsOK B s.used ν γ w s.locs) {ρ : Operand → Value} {d t n : Nat} {parts : List (Nat × Operand)} (hr : ∀ p ∈ parts, Rep s.used ν γ w (ρ p.2) (s.rd p.2))
    {r} (hq : lBuildSlice s d (T t) n parts = some r) (d' : Option Nat) : LSound P B s ν γ w (do pure (.value (← Instr.buildSlice t n (parts.toArray.map fun (i, x) => (i, ρ x))))) d' r := by
  have old : lBuildSlice0 s d (T t) n parts = some r → LSound P B s ν γ w (do pure (.value (← Instr.buildSlice t n (parts.toArray.map fun (i, x) => (i, ρ x))))) d' r := fun h => lBuildSlice0_sound hT hm hl hr h d'
  have hTt := hT t
  unfold lBuildSlice at hq
  split at hq
  · rename_i E hD hE
    split at hq
    · rename_i hdE
      split at hq
      case h_2 => cases hq
      rename_i l L' hp
      split at hq
      case h_2 => cases hq
      rename_i h1 h2
      have h1' := Nat.eq_of_beq_eq_true h1
      have h2' := Nat.le_of_ble_eq_true h2
      obtain ⟨hd, hq⟩ := fresh_some hq
      cases hq
      rw [hE] at hTt
      obtain ⟨e, ei, z, hu, hei, hes, hez, hzs, hz1, hzr, hb0, hb1⟩ := zeroEl hTt
      have hpos := esz_pos E
      have hzne : z.cells.size ≠ 0 := by omega
      have hsz0 : (Builtin.zeroCells z.cells n).size = n * esz E := by simp [Builtin.zeroCells, hzs]
      obtain ⟨γ', ys, bss, hg, hf, hys, hone, -, hdeep, hfull⟩ := fill_rowT (ρ := ρ) (n := n) parts 0 s.locs L' γ (Builtin.zeroCells z.cells n) l hm hl hr hp (by omega) hsz0 (zeroCells_one hz1 hzne _)
      have hesz : esz E ≤ 10 := by cases E <;> decide
      have hnb : n * esz E ≤ 10000 := by
        calc n * esz E ≤ 1000 * 10 := Nat.mul_le_mul h2' hesz
          _ = 10000 := rfl
      have hrun := run_buildSlice (P := P) (w := w) (ρ := ρ) (parts := parts) (n := n) hu hei hes hez hzs hnb (by
        intro hn
        have hl0 : l = [] := List.length_eq_zero_iff.1 (by omega)
        cases parts with
        | nil => rfl
        | cons p r =>
          obtain ⟨i, x⟩ := p
          simp only [partsT] at hp
          split at hp
          · split at hp
            · simp only [seqV_eq] at hp
              split at hp
              · split at hp
                · simp only [Option.some.injEq, Prod.mk.injEq] at hp
                  rw [← hp.1] at hl0; cases hl0
                · cases hp
              · cases hp
            · cases hp
          · cases hp) hys hsz0 hf
      have hst := tree_new (B := B) (L := L') (l := l) (xs := ys.toList) (cap := n) (bss := bss) (w' := w.alloc (.cells ys.toList.toArray e)) hd (by simp only [MX]; omega) (by omega) (by simp [hys, hsz0]) ⟨fun i hi j hj => by
        have := hdeep i hi j hj
        rwa [Nat.zero_add] at this, hg.given.nodup, fun c hc => ⟨hg.given.ok c hc, hfull c hc⟩⟩ (fun c hc => hg.given.out c hc) hg.mem hg.locs (T := e) rfl rfl rfl rfl hone
      refine ⟨_, γ', _, hg.step.trans hst, .inl ⟨_, run_w _ (by simpa using hrun), ?_⟩⟩
      have := Rep.ls (U := upd s.used d true) (ν := upd ν d (.slice (some ⟨w.heap.size, 0, none⟩) l.length n)) (γ := γ') (w := w.alloc (.cells ys.toList.toArray e)) d (upd_same _ _ _) (by rw [upd_same]; rfl)
      rw [upd_same, h1'] at this
      simpa [h1'] using this
    · exact old hq
  · exact old hq
end Go.Rs
end
section
namespace Go.Rs
variable {P : Program} {B : Base} {U U' U'' : Nat → Bool} {ν ν' ν'' : Nat → Value} {γ γ' γ'' : Nat → Nat} {w w' w'' : World} {L L' L'' : Locs}
theorem Step.pushM (hm : Mem B γ w) (hl : LocsOK B U ν γ w L) {d : Nat} (hd : U d = false) (hh : w'.heap = w.heap.push (.map #[] 0)) (hos : w'.os = w.os) (htp : w'.tape = w.tape) (hou : w'.output = w.output) :
    Step B U ν γ w (upd U d true) (upd ν d (.map (some w.heap.size))) γ w' (upd L d (some (.mp []))) := by
  have hk : Keeps γ w γ w' := ⟨fun _ => Nat.le_refl _, fun b o ho => cell_push hh (gt_lt hm ho)⟩
  have hmem : Mem B γ w' := by
    refine ⟨hos.trans hm.os, htp.trans hm.tape, hou.trans hm.output, by rw [hh]; simp; have := hm.size; omega, ?_, ?_, hm.keeps.trans hk⟩
    · intro b hb hmay
      have := hm.block b hb hmay
      rw [hh, Array.getElem?_push, if_neg (by have := hm.size; omega)]
      exact this
    · intro b hb; rw [hh] at hb; simp at hb; exact hm.fresh b (by omega)
  have hU : ∀ id, U id = true → upd U d true id = true := by
    intro id hi
    by_cases e : id = d
    · subst e; rw [hd] at hi; cases hi
    · rw [upd_ne _ _ e]; exact hi
  have hν : ∀ id, U id = true → upd ν d (.map (some w.heap.size)) id = ν id := by
    intro id hi
    by_cases e : id = d
    · subst e; rw [hd] at hi; cases hi
    · rw [upd_ne _ _ e]
  refine ⟨hmem, ?_, hk, hU, hν⟩
  have hall : LocsOK B (upd U d true) (upd ν d (.map (some w.heap.size))) γ w' L := hl.keepAll hk hU hν (fun id c b hc ho => by
    have := (hl.ok id c hc).lt ho
    exact ⟨by rw [hh, Array.getElem?_push, if_neg (by omega)], rfl⟩)
  refine hall.add (upd_same _ _ _) ⟨Nat.zero_le _, w.heap.size, #[], 0, upd_same _ _ _, .inl hm.size, hm.fresh _ (Nat.le_refl _), by rw [hh, Array.getElem?_push, if_pos rfl], Go.MapKept.stamped_empty 0, Nat.le_refl _, fun x hx => by simp at hx, fun s z h => by cases h⟩ ?_
  intro b hb j e hj hne ho
  have : b = w.heap.size := by
    have h1 : upd ν d (.map (some w.heap.size)) d = .map (some b) := hb
    rw [upd_same] at h1; simp at h1; exact h1.symm
  have h2 := Owns.keep (hl.ok j e hj) (hν j (hl.used j e hj)) (fun b ho => by
    have := (hl.ok j e hj).lt ho
    rw [hh, Array.getElem?_push, if_neg (by omega)]) ho
  have := (hl.ok j e hj).lt h2
  omega
theorem Step.writeM (hm : Mem B γ w) (hl : LocsOK B U ν γ w L) {id b : Nat} {l l' : List (Bs × Int)} (hid : L id = some (.mp l)) (hν : ν id = .map (some b)) (hok : B.ok b) (hg0 : γ b = 0) {es' : Array MapEntry} {ck' : Nat}
    (hh : ∀ b', b' ≠ b → w'.heap[b']? = w.heap[b']?) (hT : w'.heap[b]? = some (.map es' ck')) (hs : w'.heap.size = w.heap.size) (hos : w'.os = w.os) (htp : w'.tape = w.tape) (hou : w'.output = w.output) (hM : l'.length ≤ MX) (hi : MapIs es' ck' l') :
    Step B U ν γ w U ν γ w' (upd L id (some (.mp l'))) := by
  have hown : Owns ν w id (.mp l) b := hν
  have hk : Keeps γ w γ w' := by
    refine ⟨fun _ => Nat.le_refl _, fun b' o ho => cell_eq (hh b' ?_)⟩
    rintro rfl; rw [hg0] at ho; omega
  have hmem : Mem B γ w' := by
    refine ⟨hos.trans hm.os, htp.trans hm.tape, hou.trans hm.output, by rw [hs]; exact hm.size, ?_, ?_, hm.keeps.trans hk⟩
    · intro b' hb' hmay
      have : b' ≠ b := by
        rintro rfl
        rcases hok with h | h
        · omega
        · exact hmay h
      rw [hh b' this]; exact hm.block b' hb' hmay
    · intro b' hb'; rw [hs] at hb'; exact hm.fresh b' hb'
  refine ⟨hmem, ?_, hk, fun _ h => h, fun _ _ => rfl⟩
  have hne : ∀ j c b', upd L id none j = some c → Owns ν w j c b' → b' ≠ b := by
    intro j c2 b' hj ho
    rcases upd_cases hj with ⟨_, h'⟩ | ⟨hne, h'⟩
    · cases h'
    · rintro rfl; exact hne (hl.apart j id c2 _ b' h' hid ho hown)
  have hothers : LocsOK B U ν γ w' (upd L id none) := by
    refine (hl.drop id).keepAll hk (fun _ h => h) (fun _ _ => rfl) ?_
    intro j c2 b' hj ho
    exact ⟨hh b' (hne j c2 b' hj ho), rfl⟩
  have := hothers.add (d := id) (c := .mp l') (hl.used _ _ hid) ⟨hM, b, es', ck', hν, hok, hg0, hT, hi⟩ (by
    intro b' hb' j e hj hne' ho
    have h2 := Owns.keep ((hl.drop id).ok j e hj) rfl (fun b'' ho => hh b'' (hne j e b'' hj ho)) ho
    rcases upd_cases hj with ⟨_, h'⟩ | ⟨hne2, h'⟩
    · cases h'
    · exact hne2 (hl.apart j id e _ b' h' hid h2 (show Owns ν w id (.mp l) b' from hb')))
  have e2 : upd (upd L id none) id (some (.mp l')) = upd L id (some (.mp l')) := by
    funext t
    by_cases ht : t = id
    · subst ht; rw [upd_same, upd_same]
    · rw [upd_ne _ _ ht, upd_ne _ _ ht, upd_ne _ _ ht]
  rwa [e2] at this
theorem lval_sound {T : Tab} (hT : TabOK P T) (hm : Mem B γ w) {s : AS} (hl : LocsOK B s.used ν γ w s.locs) {o : Oper} {r} (hq : lval T s o = some r) (hO : ∀ p, r.1 = some p → p) {ρ : Operand → Value}
    (hR : ∀ x ∈ o.op.operands.toList, Rep s.used ν γ w (ρ x) (s.rd x)) : LSound P B s ν γ w (execOp ρ o) o.dst r := by
  obtain ⟨dst, op, type, pos, after, guard⟩ := o
  unfold lval at hq
  simp only at hq hR
  split at hq
  · rename_i t x d
    exact lBox_sound hm hl (rep_fixT (hR x (by simp [Op.operands])) _) hq _
  · rename_i t d
    exact lAlloc_sound hm hl (hT t) hq _
  · rename_i t n parts d
    have := lBuildSlice_sound (P := P) (ρ := ρ) (n := n) hT hm hl (parts := parts.toList) (fun p hp => hR p.2 (by simp [Op.operands]; exact ⟨p.1, by simpa using hp⟩)) hq (some d)
    simpa [execOp] using this
  · rename_i t x y
    exact lStore_sound (hT t) hm hl (hR x (by simp [Op.operands])) (rep_fixT (hR y (by simp [Op.operands])) _) hq
  · rename_i t x y d
    exact lMake_sound (hT t) hm hl (hR x (by simp [Op.operands])) (hR y (by simp [Op.operands])) hq hO _
  · rename_i t x lo hi d
    exact lSliceD_sound hT hm hl (hR x (by simp [Op.operands])) (fun y hy => hR y (by subst hy; simp [Op.operands])) (fun y hy => hR y (by subst hy; simp [Op.operands])) hq hO _
  · rename_i c d
    obtain ⟨callee, args, ats⟩ := c
    simp only at hq hR
    split at hq
    · rename_i x y tx ty ha ht
      have hargs : args = #[x, y] := by simpa using congrArg List.toArray ha
      have hats : ats = #[tx, ty] := by simpa using congrArg List.toArray ht
      subst hargs; subst hats
      split at hq
      · rename_i he
        have := of_decide_eq_true he; subst this
        have := lAppend_sound (P := P) (ty := type) (hT tx) hm hl (hR x (by simp [Op.operands, Call.operands])) (hR y (by simp [Op.operands, Call.operands])) hq hO (some d)
        simpa [execOp, resolve, invoke, builtin] using this
      · cases hq
    · rename_i x y tx ats' ha ht
      have hargs : args = #[x, y] := by simpa using congrArg List.toArray ha
      have hats : ats = (tx :: ats').toArray := by rw [← ht]
      subst hargs; subst hats
      have := lCopy_sound (P := P) (ats := ats') (ty := type) (hT tx) hm hl (hR x (by simp [Op.operands, Call.operands])) (hR y (by simp [Op.operands, Call.operands])) hq (some d)
      simpa [execOp, resolve, invoke, builtin] using this
    · cases hq
  · rename_i t d
    simp only [lMakeMap] at hq
    split at hq
    case h_2 => cases hq
    obtain ⟨hd, hq⟩ := fresh_some hq
    cases hq
    have hst := Step.pushM (w' := w.alloc (.map #[] 0)) hm hl hd rfl rfl rfl rfl
    exact ⟨_, _, _, hst, .inl ⟨_, run_w _ rfl, by
      have := Rep.ls (U := upd s.used d true) (ν := upd ν d (.map (some w.heap.size))) (γ := γ) (w := w.alloc (.map #[] 0)) d (upd_same _ _ _) (by rw [upd_same]; rfl)
      rwa [upd_same] at this⟩⟩
  · rename_i t m k v
    have h1 := hR m (by simp [Op.operands])
    have h2 := hR k (by simp [Op.operands])
    have h3 := hR v (by simp [Op.operands])
    simp only [lMapSet] at hq
    split at hq
    case h_2 => cases hq
    rename_i id b z et em ek ev
    rw [em] at h1; rw [ek] at h2; rw [ev] at h3
    split at hq
    case h_2 => cases hq
    rename_i l hid
    cases hq
    obtain ⟨ho1, ho2⟩ := hO _ rfl
    have hti := hT t
    rw [et] at hti
    obtain ⟨i, kt, et', -, -, hu, hks, hes, hz⟩ := hti
    obtain ⟨hM, b', es, ck, hν, hok, hg, hb, hi⟩ := hl.ok _ _ hid
    obtain ⟨es', ck', hrun, hi'⟩ := map_set (w := w) hu hks hes hz hb hi (rep_str_le h2) ho2 ho1
    have hmv : ρ m = .map (some b') := by
      generalize ρ m = X at h1 ⊢
      cases h1
      exact hν
    have hst := Step.writeM (w' := Go.ChangeMaps.setBlock w b' (.map es' ck')) hm hl hid hν hok hg (fun b2 h => Go.ChangeMaps.heap_setBlock_other hb _ h) (Go.ChangeMaps.heap_setBlock_same hb _) (by simp [Go.ChangeMaps.setBlock]) rfl rfl rfl (by simp only [List.length_cons]; unfold MX; omega) hi'
    refine ⟨ν, γ, _, hst, .inr ⟨rfl, rfl, ?_⟩⟩
    simp only [execOp, hmv, rep_str h2, rep_int h3]
    exact run_u _ hrun
  · cases hq
end Go.Rs
end
