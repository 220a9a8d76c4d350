import Derived.Test.YtbaknkjebncbbaaDoorDC
import Derived.Test.YtbaknkjebncbbaaDoorCU
import Derived.Test.YtbaknkjebncbbaaDoorCR
set_option linter.all false
namespace Go.Rs
open Go.Proofs
set_option maxRecDepth 100000
set_option linter.unusedVariables false
set_option linter.unusedSimpArgs false
def shM : Nd → Sh
  | ⟨k, _, _, names, kids⟩ => ⟨k, names, names.map fun _ => true, go names kids⟩
where go : List Bs → List Nd → List Sh
  | _ :: ns, x :: xs => shM x :: go ns xs
  | _, _ => []
theorem shM_eq (n : Nd) : shM n = ⟨n.kind, n.names, n.names.map fun _ => true, shM.go n.names n.kids⟩ := by cases n; rw [shM]
theorem shgo_take : ∀ (ns : List Bs) (xs : List Nd) (i : Nat), i < ns.length → i < xs.length → shM.go (ns.take (i + 1)) (xs.take (i + 1)) = shM.go (ns.take i) (xs.take i) ++ [shM (xs.getD i default)]
  | _ :: ns, x :: xs, 0, _, _ => by simp [shM.go]
  | _ :: ns, x :: xs, i + 1, h1, h2 => by
    have := shgo_take ns xs i (by simpa using h1) (by simpa using h2)
    simp only [List.take_succ_cons, shM.go, this, List.getD_cons_succ, List.cons_append]
  | [], _, _, h1, _ => by simp at h1
  | _ :: _, [], _, _, h2 => by simp at h2
theorem shgo_len : ∀ (ns : List Bs) (xs : List Nd), ns.length ≤ xs.length → (shM.go ns xs).length = ns.length
  | [], _, _ => by rw [shM.go]; rfl; intro _ _ _ _ e; cases e
  | _ :: ns, x :: xs, h => by simp only [shM.go, List.length_cons]; rw [shgo_len ns xs (by simpa using h)]
  | _ :: ns, [], h => by simp at h
theorem shgo_cut : ∀ (ns : List Bs) (xs : List Nd), shM.go ns (xs.take ns.length) = shM.go ns xs
  | [], xs => by rw [shM.go, shM.go] <;> (intro _ _ _ _ e; cases e)
  | _ :: ns, [] => by simp
  | _ :: ns, x :: xs => by simp only [List.length_cons, List.take_succ_cons, shM.go, shgo_cut ns xs]
theorem map_take1 {l : List Bs} {i : Nat} (h : i < l.length) : ((l.take (i + 1)).map fun _ => true) = ((l.take i).map fun _ => true) ++ [true] := by
  rw [← take_snoc [] h, List.map_append]; rfl
theorem names_kids {n : Nd} (h : okN n) : n.names.length ≤ n.kids.length := by
  have h1 := okN_names h
  by_cases hk : n.kind = 4
  · rw [h1.2.1 hk]; exact Nat.le_refl _
  · rw [h1.2.2 hk]; simp
noncomputable def c24 (n : Nd) (K : AV → List AV → Prop) : Prop :=
    Obl (okN n) (K (.st [.int .i64 n.kind, .own .str n.names, .own .bool (n.names.map fun _ => true), .own .shape (shM.go n.names n.kids)]) [])
noncomputable def m24 (n : Nd) : Nat := SizeOf.sizeOf n
noncomputable def C24 : List AV → (AV → List AV → Prop) → Prop
  | [.st [.int .i64 n_0, .int .i64 n_1, .str n_2, .ps .str n_3, .ps .node n_4]], K => c24 ⟨n_0, n_1, n_2, n_3, n_4⟩ K
  | _, _ => False
noncomputable def Ck24 (k : Nat) : List AV → (AV → List AV → Prop) → Prop
  | [.st [.int .i64 n_0, .int .i64 n_1, .str n_2, .ps .str n_3, .ps .node n_4]], K => Obl (m24 ⟨n_0, n_1, n_2, n_3, n_4⟩ < k) (c24 ⟨n_0, n_1, n_2, n_3, n_4⟩ K)
  | _, _ => False
noncomputable def E24 (k : Nat) : Ctx := mkE tab [(24, .gen .ow (Ck24 k))]
noncomputable def O24 : Nat → List DI := ordL [(1, [.q 0, .q 1, .q 3, .q 4, .a 2, .l 5 [1], .a 6, .a 7, .q 8, .a 9, .l 10 []]), (6, [.q 0, .q 1, .q 2, .q 3, .q 4, .q 5, .q 6, .l 7 [1], .l 8 [1], .l 9 [], .q 10, .l 11 []])]
theorem a24 (k : Nat) (n : Nd) (hm : m24 n < k + 1) (hb : BdAs [.st (ndC n)]) (K : AV → List AV → Prop) (h : c24 n K) : abody (E24 k) O24 .ow Tryd.f24 (Tryd.f24.body.getD .skip) [.st (ndC n)] K := by
  simp only [BdAs, BdA, BdL, BdC, MX, ndC, shC, itC, stC, opC, chC, nwC, flC, rqC, rsC, enc, List.cons_append, List.nil_append, and_true, true_and] at hb
  unfold c24 at h
  unfold m24 at hm
  obtain ⟨hn, hK⟩ := h
  have hnk := names_kids hn
  have hn6 := (okN_names hn).1
  have hg0 : shM.go [] [] = [] := by rw [shM.go]; intro _ _ _ _ e; cases e
  conv => whnf
  repeat' first
    | (refine Cnd.mk (fun h => ?_) (fun h => ?_) <;> (try simp [etas, elDef, -List.getD_eq_getElem?_getD] at h) <;> conv => whnf)
    | (refine Obl.mk (by first | omega | rfl | exact inK_byte _ | (simp only [inK, Int.toNat_natCast, etas, elDef, m24, m24] <;> first | omega | grind) | grind [inK, m24, m24]) ?_ <;> conv => whnf)
    | (refine OblG.mk (by conv => whnf
                          repeat (first | (refine Bx.mk ?_) | (intro h; (try simp [etas, elDef, -List.getD_eq_getElem?_getD] at h); conv => whnf))
                          first | omega | rfl | exact inK_byte _ | (simp only [inK, Int.toNat_natCast, etas, elDef, m24, m24] <;> first | omega | grind) | grind [inK, m24, m24]) ?_ <;> conv => whnf)
    | (refine Gd.mk (fun h => ?_) <;> (try simp [etas, elDef, -List.getD_eq_getElem?_getD] at h) <;> conv => whnf)
    | (refine And.intro ?_ ?_ <;> conv => whnf)
    | exact True.intro
    | (intro; conv => whnf)
  refine aloop_intro (Nat × List Bool × List Sh) (fun ⟨i, bs, ks⟩ => i ≤ n.names.length ∧ bs = (n.names.take i).map (fun _ => true) ∧ ks = shM.go (n.names.take i) (n.kids.take i)) (fun ⟨i, bs, ks⟩ => n.names.length - i) (fun ⟨i, bs, ks⟩ => [(4, .int .i64 i)]) (fun ⟨i, bs, ks⟩ => [(3, .box [.int .i64 n.kind, .ls 900, .ls 901, .ls 902]), (900, .arr .str n.names), (901, .arr .bool bs), (902, .arr .shape ks)]) [1, 2] (0, [], []) [(900, 10), (901, 11), (902, 12)] [] ?_ ?_ (by exact sgOk_of (by rfl)) ?_
  · first | (simp; done) | (simp; assumption) | (simp only; grind)
  · (conv => whnf); (repeat' (first | exact trivial | rfl | (refine nilEq ?_; first | rfl | (simp only [*]; done) | (simp [*]; done) | grind) | apply And.intro | ((first | refine intEq ?_ | refine boolEq ?_ | refine strEq ?_ | refine psEq ?_ | refine nilEq ?_ | refine arrEq ?_); (try simp only [Int.toNat_natCast, etas, elDef]); first | done | omega | grind | (simp only [*]; done) | (simp [*]; done)))); (all_goals (conv => whnf)); (repeat' (first | exact trivial | rfl | (refine nilEq ?_; first | rfl | (simp only [*]; done) | (simp [*]; done) | grind) | apply And.intro | ((first | refine intEq ?_ | refine boolEq ?_ | refine strEq ?_ | refine psEq ?_ | refine nilEq ?_ | refine arrEq ?_); (try simp only [Int.toNat_natCast, etas, elDef]); first | done | omega | grind | (simp only [*]; done) | (simp [*]; done)) | ((try simp only [Int.toNat_natCast, etas, elDef]); first | done | omega | grind | (simp only [*]; done) | (simp [*]; done))))
  rintro ⟨i, bs, ks⟩ hinv
  dsimp only at hinv
  conv => whnf
  obtain ⟨hi, hbs, hks⟩ := hinv
  have hbl : bs.length = i := by rw [hbs]; simp; omega
  have hkl : ks.length = i := by rw [hks, shgo_len]; simp; omega; simp; omega
  have hks2 := fun (h : i < n.kids.length) => kid_size h
  have hko := fun (h : i < n.kids.length) => okN_kid hn h
  have hst := fun h1 h2 => shgo_take n.names n.kids i h1 h2
  have hmt := fun h => map_take1 (l := n.names) (i := i) h
  have hb1 : bs.length + [true].length ≤ 1073741824 := by simp; omega
  have hk1 : ks.length + [(default : Sh)].length ≤ 1073741824 := by simp; omega
  repeat' first
    | (refine Cnd.mk (fun h => ?_) (fun h => ?_) <;> (try simp [etas, elDef, -List.getD_eq_getElem?_getD] at h) <;> conv => whnf)
    | (refine Obl.mk (by first | omega | rfl | exact inK_byte _ | (simp only [inK, Int.toNat_natCast, etas, elDef, m24, m24] <;> first | omega | grind) | grind [inK, m24, m24]) ?_ <;> conv => whnf)
    | (refine OblG.mk (by conv => whnf
                          repeat (first | (refine Bx.mk ?_) | (intro h; (try simp [etas, elDef, -List.getD_eq_getElem?_getD] at h); conv => whnf))
                          first | omega | rfl | exact inK_byte _ | (simp only [inK, Int.toNat_natCast, etas, elDef, m24, m24] <;> first | omega | grind) | grind [inK, m24, m24]) ?_ <;> conv => whnf)
    | (refine Gd.mk (fun h => ?_) <;> (try simp [etas, elDef, -List.getD_eq_getElem?_getD] at h) <;> conv => whnf)
    | (refine And.intro ?_ ?_ <;> conv => whnf)
    | exact True.intro
    | (intro; conv => whnf)
  · exact ⟨(i + 1, bs ++ [true], ks ++ [shM (n.kids.getD i default)]), [(901, 24), (902, 35)], [], ⟨by omega, by rw [hmt h, ← hbs], by rw [hst h (by omega), ← hks]⟩, by show n.names.length - (i + 1) < n.names.length - i; omega, by (conv => whnf); (repeat' (first | exact trivial | rfl | (refine nilEq ?_; first | rfl | (simp only [*]; done) | (simp [*]; done) | grind) | apply And.intro | ((first | refine intEq ?_ | refine boolEq ?_ | refine strEq ?_ | refine psEq ?_ | refine nilEq ?_ | refine arrEq ?_); (try simp only [Int.toNat_natCast, etas, elDef]); first | done | omega | (rw [shM_eq]; done) | (rw [shM_eq]) | grind))); (all_goals (conv => whnf)); (repeat' (first | exact trivial | rfl | (refine nilEq ?_; first | rfl | (simp only [*]; done) | (simp [*]; done) | grind) | apply And.intro | ((first | refine intEq ?_ | refine boolEq ?_ | refine strEq ?_ | refine psEq ?_ | refine nilEq ?_ | refine arrEq ?_); (try simp only [Int.toNat_natCast, etas, elDef]); first | done | omega | (rw [shM_eq]; done) | (rw [shM_eq]) | grind) | ((try simp only [Int.toNat_natCast, etas, elDef]); first | done | omega | (rw [shM_eq]; done) | (rw [shM_eq]) | grind))), (by exact sgOk_of (by rfl))⟩
  · obtain rfl : i = n.names.length := by omega
    exact leafV hK (by rw [hbs, hks, List.take_length, shgo_cut])
theorem r24 : ∀ k, (CtrOK Tryd.prog 24 (.gen .ow (Ck24 k)) ∧ Callable Tryd.prog 24) := by
  intro k
  induction k with
  | zero =>
    exact ⟨fun args K h => by
        unfold Ck24 at h; split at h
        · exact absurd h.o (Nat.not_lt_zero _)
        · exact h.elim, callable Tryd.func24 rfl (by rfl)⟩
  | succ k ih =>
    refine gen_ok (E := E24 k) (mkE_cons ih (mkE_nil tab_ok)) mix (O := O24) (C := (Ck24 (k + 1))) (own := .ow) Tryd.func24 rfl (by rfl) (by kernel_rfl) (fun args K h hbd => ?_)
    unfold Ck24 at h; split at h
    case h_2 => exact h.elim
    exact ⟨Nat.le_of_ble_eq_true rfl, a24 k ⟨_, _, _, _, _⟩ h.o (by exact hbd) _ h.k⟩
theorem s24 : (CtrOK Tryd.prog 24 (.gen .ow C24) ∧ Callable Tryd.prog 24) := by
  refine ⟨fun args K h => ?_, (r24 0).2⟩
  unfold C24 at h; split at h
  · exact (r24 (m24 ⟨_, _, _, _, _⟩ + 1)).1 _ K ⟨Nat.lt_succ_self _, h⟩
  · exact h.elim
end Go.Rs

