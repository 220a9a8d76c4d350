import Derived.Test.YtoailaifflbomaaBase
import Derived.WalkKit
import Derived.Lib.Walk
import Derived.Lib.SliceRun
import Derived.Lib.JoinLaws
import Derived.Lib.AppendZeros
import Derived.Lib.Overlaps
import Derived.Laws.Externs
import Derived.Laws.IdiomCopy
import Derived.Shelf.RegionOpenPlain
set_option linter.all false
set_option linter.unusedSimpArgs false
set_option linter.unusedVariables false
namespace Go.Rs
open Go.Proofs Go.RowKit Go.Lib
theorem wp_copyI {P : Program} (w : World) {o : Oper} {a : Act} {K : Act → World → Prop} {Q : Exit → Act → World → Prop} (d s : Operand) (t t' : TypeId)
    (ho : o.op = .call { callee := .builtin .copy, args := #[d, s], argTypes := #[t, t'] }) (v u : Value) (hd : a.eval d = v) (hs : a.eval s = u) {v' : Value} {w' : World}
    (hr : (Builtin.copy_ #[t, t'] o.type #[v, u]).run P w = .ok v' w') (h : K (a.put o.dst v') w') : o.wp P a w K Q := by
  unfold Oper.wp execOp
  simp only [ho, resolve, invoke, builtin, Sem.run_bind, Sem.run_pure, Result.andThen_ok, List.map_toArray, List.map_cons, List.map_nil, hd, hs, hr]
  exact h
theorem wpList_copyI {P : Program} (w : World) {ops : Array Oper} {rest : List Oper} {o : Oper} {a : Act} {Q : Exit → Act → World → Prop} (hgd : o.guard = none) (d s : Operand) (t t' : TypeId)
    (ho : o.op = .call { callee := .builtin .copy, args := #[d, s], argTypes := #[t, t'] }) (v u : Value) (hd : a.eval d = v) (hs : a.eval s = u) {v' : Value} {w' : World}
    (hr : (Builtin.copy_ #[t, t'] o.type #[v, u]).run P w = .ok v' w') (h : wpList P ops Q rest (a.put o.dst v') w') : wpList P ops Q (o :: rest) a w :=
  wpList_plain hgd fun _ hK => wp_copyI w d s t t' ho v u hd hs hr (hK _ _ h)
theorem step_copyI {P : Program} {ops : Array Oper} {o : Oper} {a : Act} {w : World} {K : Act → World → Prop} {Q : Exit → Act → World → Prop} {E : Prop}
    (hg : o.guard = none) (d x : Operand) (dT sT : TypeId) (hop : o.op = Op.call { callee := Callee.builtin Builtin.copy, args := #[d, x], argTypes := #[dT, sT] })
    (v u : Value) (hd : a.eval d = v) (hx : a.eval x = u) {v' : Value} {w' : World} (hr : (Builtin.copy_ #[dT, sT] o.type #[v, u]).run P w = .ok v' w') (hK : K (a.put o.dst v') w') :
    if Region.wanted o (yielded ops a.tmps) = true then Oper.wp P o a w K Q else E := by
  have hw : Region.wanted o (yielded ops a.tmps) = true := by simp [Region.wanted, hg]
  rw [if_pos hw]
  unfold Oper.wp
  simp [execOp, hop, resolve, invoke, builtin, hd, hx, hr, Result.andThen]
  exact hK
theorem copy_row {P : Program} {w : World} {tx e z : Nat} {i : TypeInfo} (hu : P.underlying tx = some (.slice e)) (hi : P.info? e = some i) (hz : i.size = z) {ats : List Nat} {ty : Nat}
    {b o dLen dCap T : Nat} {xs : List Value} (hb : w.heap[b]? = some (.cells xs.toArray T (0, 0))) (s : Addr) (sLen sCap : Nat) (cs : List Value) (hl : cs.length = Nat.min sLen dLen * z)
    (hcs : ∀ j v, cs[j]? = some v → w.cell? (s.add j) = some v) (h1 : ∀ v ∈ cs, v.oneCell' = true) (hfit : o + cs.length ≤ xs.length) :
    (Builtin.copy_ (tx :: ats).toArray ty #[.slice (some ⟨b, o, none⟩) dLen dCap, .slice (some s) sLen sCap]).run P w = .ok (goInt (Nat.min sLen dLen)) (w.setRow b (xs.take o ++ cs ++ xs.drop (o + cs.length)).toArray) := by
  refine run_copy hu hi (by simp [Builtin.lenOf]) (news := cs) ?_ ?_ (by intro h; cases h)
  · rw [hz]
    exact run_firstCells_some w z (Nat.min sLen dLen) s sLen sCap cs hl hcs
  · intro a ha
    cases ha
    have hsc := run_storeCells_at P b o T cs 0 xs.toArray w hb (by simp only [List.size_toArray]; omega) h1
    simp only [Nat.zero_add, Nat.add_zero] at hsc
    simpa using hsc
theorem row_cell {w : World} {b T : Nat} {xs : List Value} (hb : w.heap[b]? = some (.cells xs.toArray T (0, 0))) (o : Nat) : w.cell? ⟨b, o, none⟩ = xs[o]? := by
  simp [World.cell?, hb]
theorem row_at {w : World} {b T : Nat} {xs : List Value} (hb : w.heap[b]? = some (.cells xs.toArray T (0, 0))) (o j : Nat) : w.cell? ((⟨b, o, none⟩ : Addr).add j) = xs[o + j]? := by
  rw [Addr.add_mid]; exact row_cell hb _
theorem row_shape {w : World} {b T : Nat} {xs : List Value} (hb : w.heap[b]? = some (.cells xs.toArray T (0, 0))) : w.shape? b = some (T, xs.length) := by
  simp [World.shape?, hb]
theorem row_frozen {w : World} {b T : Nat} {xs : List Value} (hb : w.heap[b]? = some (.cells xs.toArray T (0, 0))) (o : Nat) : w.frozen? ⟨b, o, none⟩ = false := by
  simp [World.frozen?, hb]
theorem alloc_new {w : World} {o : Obj} : (w.drew.alloc o).heap[w.heap.size]? = some o := by
  show (w.heap.push o)[w.heap.size]? = _
  rw [Array.getElem?_push, if_pos rfl]
theorem alloc_old {w : World} {o : Obj} {k : Nat} (h : k < w.heap.size) : (w.drew.alloc o).heap[k]? = w.heap[k]? := by
  show (w.heap.push o)[k]? = _
  rw [Array.getElem?_push, if_neg (by omega)]
theorem ins_get {l v : List It} {i i' : Nat} (hi : i ≤ l.length) (hv : v.length = 1) (h : i' < l.length + 1) :
    (l.take i ++ v ++ l.drop i).getD i' default = if i' < i then l.getD i' default else if i' = i then v.getD 0 default else l.getD (i' - 1) default := by
  obtain ⟨x, rfl⟩ := List.length_eq_one_iff.1 hv
  have e : (l.take i).length = i := by simp; omega
  simp only [List.getD_eq_getElem?_getD]
  rw [List.append_assoc]
  by_cases h1 : i' < i
  · rw [if_pos h1, List.getElem?_append_left (by rw [e]; exact h1), List.getElem?_take_of_lt h1]
  · rw [if_neg h1, List.getElem?_append_right (by rw [e]; omega), e]
    by_cases h2 : i' = i
    · subst h2; simp
    · have e2 : i' - i = (i' - i - 1) + 1 := by omega
      have e3 : i + (i' - i - 1) = i' - 1 := by omega
      rw [if_neg h2, e2]
      simp only [List.singleton_append, List.getElem?_cons_succ, List.getElem?_drop]
      rw [e3]
theorem ins_fin {w w' : World} {γ γ' : Nat → Nat} {l v : List It} {i cap' b' T : Nat} {xs ys X : List Value} (hi : i ≤ l.length) (hv : v.length = 1) (hl : l.length ≤ 2097152)
    (hxr : ∀ k, k < l.length → ∀ j, j < 7 → Rep noU noν γ w (xs.getD (k * 7 + j) undef) ((enc .item (l.getD k default)).getD j .opq))
    (hyr : ∀ j, j < 7 → Rep noU noν γ w (ys.getD j undef) ((enc .item (v.getD 0 default)).getD j .opq))
    (hX : ∀ k j, k < l.length + 1 → j < 7 → X.getD (k * 7 + j) undef = if k < i then xs.getD (k * 7 + j) undef else if k = i then ys.getD j undef else xs.getD ((k - 1) * 7 + j) undef)
    (hXl : X.length = cap' * 7) (hcap : l.length + 1 ≤ cap') (hX1 : ∀ x ∈ X, x.oneCell' = true)
    (hb : w'.heap[b']? = some (.cells X.toArray T (0, 0))) (hγ : γ' b' = 0) (hk : Keeps γ w γ' w') :
    IR γ' w' [b'] (.slice (some ⟨b', 0, none⟩) (l.length + 1) cap') (.own .item (l.take i ++ v ++ l.drop i)) := by
  have hlen : (l.take i ++ v ++ l.drop i).length = l.length + 1 := by simp [hv]; omega
  have := IC.own (γ := γ') (w := w') .item (l.take i ++ v ++ l.drop i) b' cap' X (by rw [hlen]; unfold MX; omega) (by rw [hlen]; exact hcap) (by omega) ⟨hγ, hX1, T, hb⟩ hXl (by
    intro k hkk j hj
    rw [hlen] at hkk
    have hj7 : j < 7 := hj
    show Rep noU noν γ' w' (X.getD (k * 7 + j) undef) ((enc .item ((l.take i ++ v ++ l.drop i).getD k default)).getD j .opq)
    rw [hX k j hkk hj7, ins_get hi hv hkk]
    split
    · exact (hxr k (by omega) j hj7).keep hk (fun _ h => h) (fun _ _ => rfl)
    · split
      · exact (hyr j hj7).keep hk (fun _ h => h) (fun _ _ => rfl)
      · exact (hxr (k - 1) (by omega) j hj7).keep hk (fun _ h => h) (fun _ _ => rfl))
  rw [hlen] at this
  exact .one (.cell this)
def insX (xs ys X : List Value) (i n : Nat) : Prop := ∀ k j, k < n + 1 → j < 7 → X[k * 7 + j]? = if k < i then xs[k * 7 + j]? else if k = i then ys[j]? else xs[(k - 1) * 7 + j]?
theorem insX.get {xs ys X : List Value} {i n : Nat} (h : insX xs ys X i n) : ∀ k j, k < n + 1 → j < 7 → X.getD (k * 7 + j) undef = if k < i then xs.getD (k * 7 + j) undef else if k = i then ys.getD j undef else xs.getD ((k - 1) * 7 + j) undef := by
  intro k j hk hj
  simp only [List.getD_eq_getElem?_getD]
  rw [h k j hk hj]
  split
  · rfl
  · split <;> rfl
theorem y7 {ys : List Value} (h : 7 ≤ ys.length) : (ys.take 7).length = 7 := by simp; omega
theorem splice7 {xs ys : List Value} {o : Nat} (hy : 7 ≤ ys.length) (h : o + 7 ≤ xs.length) (m : Nat) : (xs.take o ++ ys.take 7 ++ xs.drop (o + 7))[m]? = if o ≤ m ∧ m < o + 7 then ys[m - o]? else xs[m]? := by
  have := splice_get xs (ys.take 7) o (by rw [y7 hy]; exact h) m
  rw [y7 hy] at this
  rw [this]
  split
  · rw [List.getElem?_take_of_lt (by omega)]
  · rfl
theorem spliceRow {xs zs : List Value} {i n o : Nat} (hz : n * 7 ≤ zs.length) (hi : i ≤ n) (h : o + (n - i) * 7 ≤ xs.length) (m : Nat) :
    (xs.take o ++ (zs.drop (i * 7)).take ((n - i) * 7) ++ xs.drop (o + (n - i) * 7))[m]? = if o ≤ m ∧ m < o + (n - i) * 7 then zs[i * 7 + (m - o)]? else xs[m]? := by
  have hcl : ((zs.drop (i * 7)).take ((n - i) * 7)).length = (n - i) * 7 := by simp; omega
  have := splice_get xs ((zs.drop (i * 7)).take ((n - i) * 7)) o (by rw [hcl]; exact h) m
  rw [hcl] at this
  rw [this]
  split
  · rw [List.getElem?_take_of_lt (by omega), List.getElem?_drop]
  · rfl
theorem insX_shift {xs ys X1 X2 : List Value} {i n c : Nat} (hi : i < n) (hc : n + 1 ≤ c) (hx : xs.length = c * 7) (hy : 7 ≤ ys.length)
    (h1 : X1 = xs.take ((i + 1) * 7) ++ (xs.drop (i * 7)).take ((n - i) * 7) ++ xs.drop ((i + 1) * 7 + (n - i) * 7)) (h2 : X2 = X1.take (i * 7) ++ ys.take 7 ++ X1.drop (i * 7 + 7)) :
    X2.length = c * 7 ∧ insX xs ys X2 i n := by
  have hl1 : X1.length = c * 7 := by rw [h1]; simp only [List.length_append, List.length_take, List.length_drop]; omega
  refine ⟨by rw [h2]; simp only [List.length_append, List.length_take, List.length_drop]; omega, fun k j hk hj => ?_⟩
  rw [h2, splice7 hy (by omega)]
  by_cases e : k = i
  · subst e
    rw [if_pos (by omega), if_neg (by omega), if_pos rfl]
    congr 1; omega
  · rw [if_neg (by omega), h1, spliceRow (by omega) (by omega) (by omega)]
    by_cases hk2 : k < i
    · rw [if_neg (by omega), if_pos hk2]
    · rw [if_pos (by omega), if_neg hk2, if_neg e]
      congr 1; omega
theorem insX_grow {xs ys R X1 X2 Z : List Value} {i n c G : Nat} (hi : i < n) (hc : n ≤ c) (hG : n + 1 ≤ G) (hx : xs.length = c * 7) (hy : 7 ≤ ys.length) (hR : R = xs.take (i * 7) ++ Z) (hRl : R.length = G * 7)
    (h1 : X1 = R.take (i * 7) ++ ys.take 7 ++ R.drop (i * 7 + 7)) (h2 : X2 = X1.take ((i + 1) * 7) ++ (xs.drop (i * 7)).take ((n - i) * 7) ++ X1.drop ((i + 1) * 7 + (n - i) * 7)) :
    X2.length = G * 7 ∧ insX xs ys X2 i n := by
  have hl1 : X1.length = G * 7 := by rw [h1]; simp only [List.length_append, List.length_take, List.length_drop]; omega
  refine ⟨by rw [h2]; simp only [List.length_append, List.length_take, List.length_drop]; omega, fun k j hk hj => ?_⟩
  rw [h2, spliceRow (by omega) (by omega) (by omega)]
  by_cases hk2 : i < k
  · rw [if_pos (by omega), if_neg (by omega), if_neg (by omega)]
    congr 1; omega
  · rw [if_neg (by omega), h1, splice7 hy (by omega)]
    by_cases e : k = i
    · subst e
      rw [if_pos (by omega), if_neg (by omega), if_pos rfl]
      congr 1; omega
    · rw [if_neg (by omega), if_pos (by omega), hR, List.getElem?_append_left (by simp; omega), List.getElem?_take_of_lt (by omega)]
theorem insX_end {xs ys X : List Value} {n c : Nat} (hc : n + 1 ≤ c) (hx : xs.length = c * 7) (hy : 7 ≤ ys.length) (h : X = xs.take (n * 7) ++ ys.take 7 ++ xs.drop (n * 7 + 7)) : X.length = c * 7 ∧ insX xs ys X n n := by
  refine ⟨by rw [h]; simp only [List.length_append, List.length_take, List.length_drop]; omega, fun k j hk hj => ?_⟩
  rw [h, splice7 hy (by omega)]
  by_cases e : k = n
  · subst e
    rw [if_pos (by omega), if_neg (by omega), if_pos rfl]
    congr 1; omega
  · rw [if_neg (by omega), if_pos (by omega)]
theorem insX_more {xs ys olds X Z : List Value} {n : Nat} (ho : olds.length = n * 7) (hx : ∀ m, m < n * 7 → olds[m]? = xs[m]?) (hy : 7 ≤ ys.length) (h : X = olds ++ ys.take 7 ++ Z) : insX xs ys X n n := by
  intro k j hk hj
  rw [h, List.append_assoc]
  by_cases e : k = n
  · subst e
    rw [List.getElem?_append_right (by omega), ho, List.getElem?_append_left (by rw [y7 hy]; omega), List.getElem?_take_of_lt (by omega), if_neg (by omega), if_pos rfl]
    congr 1; omega
  · rw [List.getElem?_append_left (by omega), hx _ (by omega), if_pos (by omega)]
theorem fr_of {w w' : World} {γ γ' : Nat → Nat} {S : List Nat} (hos : w'.os = w.os) (ht : w'.tape = w.tape) (ho : w'.output = w.output) (hs : w.heap.size ≤ w'.heap.size)
    (hb : ∀ b, b < w.heap.size → b ∉ S → w'.heap[b]? = w.heap[b]?) (hγ : γ' = γ) (hf : ∀ b, w.heap.size ≤ b → γ b = 0) (hk : Keeps γ w γ w') : Fr S γ w γ' w' := by
  subst hγ
  exact ⟨hos, ht, ho, hs, fun b h1 h2 => ⟨hb b h1 h2, rfl⟩, fun b h => hf b (by omega), fun b _ => ⟨hk.le b, fun o ho => hk.cell b o ho⟩⟩
theorem keeps_of {w w' : World} {γ : Nat → Nat} {S : List Nat} (hb : ∀ b, b < w.heap.size → b ∉ S → w'.heap[b]? = w.heap[b]?) (hS : ∀ b ∈ S, γ b = 0) (hf : ∀ b, w.heap.size ≤ b → γ b = 0) : Keeps γ w γ w' := by
  refine ⟨fun _ => Nat.le_refl _, fun b o ho => ?_⟩
  have h1 : b ∉ S := fun h => by rw [hS b h] at ho; omega
  have h2 : b < w.heap.size := by
    rcases Nat.lt_or_ge b w.heap.size with h | h
    · exact h
    · rw [hf b h] at ho; omega
  unfold World.cell?
  rw [hb b h2 h1]
theorem road_fin {w w' : World} {γ : Nat → Nat} {l v : List It} {k cap' b' T : Nat} {K : AV → List AV → Prop} {S : List Nat} {xs ys X : List Value} {e : Ending} (hi : k ≤ l.length) (hv : v.length = 1) (hl : l.length ≤ 2097152)
    (hxr : ∀ i, i < l.length → ∀ j, j < 7 → Rep noU noν γ w (xs.getD (i * 7 + j) undef) ((enc .item (l.getD i default)).getD j .opq))
    (hyr : ∀ j, j < 7 → Rep noU noν γ w (ys.getD j undef) ((enc .item (v.getD 0 default)).getD j .opq))
    (hX : insX xs ys X k l.length) (hXl : X.length = cap' * 7) (hcap : l.length + 1 ≤ cap') (hX1 : ∀ x ∈ X, x.oneCell' = true)
    (hb : w'.heap[b']? = some (.cells X.toArray T (0, 0))) (hγ : γ b' = 0) (hos : w'.os = w.os) (ht : w'.tape = w.tape) (ho : w'.output = w.output) (hs : w.heap.size ≤ w'.heap.size)
    (hheap : ∀ b, b < w.heap.size → b ∉ S → w'.heap[b]? = w.heap[b]?) (hS : ∀ b ∈ S, γ b = 0) (hf : ∀ b, w.heap.size ≤ b → γ b = 0) (hin : b' ∈ S ∨ w.heap.size ≤ b')
    (he : e = .returned (.slice (some ⟨b', 0, none⟩) (l.length + 1) cap')) (hK : K (.own .item (l.take k ++ v ++ l.drop k)) []) :
    ∃ r rs x γ' Sr Sq, K r rs ∧ e = .returned x ∧ IR γ' w' Sr x r ∧ IAs γ' w' Sq [] rs ∧ (Sr ++ Sq).Nodup ∧ Fr S γ w γ' w' ∧ ∀ b ∈ Sr ++ Sq, b ∈ S ∨ w.heap.size ≤ b := by
  have hkeep : Keeps γ w γ w' := keeps_of hheap hS hf
  have hir := ins_fin (i := k) (cap' := cap') (b' := b') (T := T) (γ' := γ) (w' := w') hi hv hl hxr hyr hX.get hXl hcap hX1 hb hγ hkeep
  exact ⟨_, [], _, γ, [b'], [], hK, he, hir, .nil, by simp, fr_of hos ht ho hs hheap rfl hf hkeep, fun b h => by simp at h; subst h; exact hin⟩
theorem one_app {a b c : List Value} (h1 : ∀ x ∈ a, x.oneCell' = true) (h2 : ∀ x ∈ b, x.oneCell' = true) (h3 : ∀ x ∈ c, x.oneCell' = true) : ∀ x ∈ a ++ b ++ c, x.oneCell' = true := by
  intro x hx
  simp only [List.mem_append] at hx
  rcases hx with (h | h) | h
  · exact h1 x h
  · exact h2 x h
  · exact h3 x h
theorem one_take {a : List Value} (h : ∀ x ∈ a, x.oneCell' = true) (n : Nat) : ∀ x ∈ a.take n, x.oneCell' = true := fun x hx => h x (List.mem_of_mem_take hx)
theorem one_drop {a : List Value} (h : ∀ x ∈ a, x.oneCell' = true) (n : Nat) : ∀ x ∈ a.drop n, x.oneCell' = true := fun x hx => h x (List.mem_of_mem_drop hx)
end Go.Rs

