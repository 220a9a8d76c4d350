import Derived.Test.YtbaknkjebncbbaaDoorDD
import Derived.Test.YtbaknkjebncbbaaDoorDI
import Derived.Test.YtbaknkjebncbbaaDoorCZ
import Derived.Test.YtbaknkjebncbbaaDoorCU
import Derived.Test.YtbaknkjebncbbaaDoorCR
set_option linter.all false
namespace Go.Rs
open Go.Proofs
set_option maxRecDepth 100000
set_option linter.unusedVariables false
set_option linter.unusedSimpArgs false
theorem sh_ext {a b : Sh} (h1 : a.kind = b.kind) (h2 : a.names = b.names) (h3 : a.needs = b.needs) (h4 : a.kids = b.kids) : a = b := by
  cases a; cases b; simp only at h1 h2 h3 h4; subst h1; subst h2; subst h3; subst h4; rfl
theorem shgo_get : ∀ (ns : List Bs) (xs : List Nd) (i : Nat), i < ns.length → i < xs.length → (shM.go ns xs).getD i default = shM (xs.getD i default)
  | _ :: ns, x :: xs, 0, _, _ => by simp [shM.go]
  | _ :: ns, x :: xs, i + 1, h1, h2 => by
    simp only [shM.go, List.getD_cons_succ]
    exact shgo_get ns xs i (by simpa using h1) (by simpa using h2)
  | [], _, _, h1, _ => by simp at h1
  | _ :: _, [], _, _, h2 => by simp at h2
theorem shgo_nil (xs : List Nd) : shM.go [] xs = [] := by rw [shM.go]; intro _ _ _ _ e; cases e
theorem sh_parts (n : Nd) : (shM n).kind = n.kind ∧ (shM n).names = n.names ∧ (shM n).needs = (n.names.map fun _ => true) ∧ (shM n).kids = shM.go n.names n.kids := by rw [shM_eq]; exact ⟨rfl, rfl, rfl, rfl⟩
theorem sh_shp : ∀ (d : Nat) {n : Nd}, d ≤ 5 → shapeM d n = true → shpM d (shM n) = true
  | 0, n, _, h => by cases h
  | d + 1, n, hd, h => by
    have hn : okN n := ⟨d + 1, hd, h⟩
    obtain ⟨p1, p2, p3, p4⟩ := sh_parts n
    have h0 := okN_kind hn
    have hnm := okN_names hn
    have hlen := shgo_len n.names n.kids (names_kids hn)
    have harea : areNamesM n.names = true := by
      by_cases hk : n.kind = 4
      · exact okN_areNames hn hk
      · rw [hnm.2.2 hk]; decide
    have ht : topS (shM n) = true := by
      unfold topS
      rw [p1, p2, p3, p4, harea, hlen]
      by_cases hk : n.kind = 4
      · simp [hk]
      · simp [hnm.2.2 hk, h0]
    have hkids : ∀ j, j < (shM n).kids.length → shpM d ((shM n).kids.getD j default) = true := by
      intro j hj
      rw [p4] at hj ⊢
      rw [hlen] at hj
      have hj2 : j < n.kids.length := Nat.lt_of_lt_of_le hj (names_kids hn)
      rw [shgo_get _ _ _ hj hj2]
      exact sh_shp d (by omega) (shape_kid h (getD_mem hj2))
    simp only [shpM, Bool.and_eq_true]
    exact ⟨ht, (allS_iff _ _).2 hkids⟩
theorem sh_valid {n : Nd} (h : okN n) : validS (shM n) = true := sh_shp 5 (Nat.le_refl _) (okN_shape h)
/-- A node has what a shape's names ask for. -/
theorem sh_fit : ∀ (s : Nat) {n m : Nd}, SizeOf.sizeOf n ≤ s → okN n → m.kind = n.kind → (∀ i, i < n.names.length → 0 ≤ placeM m (n.names.getD i []) ∧ m.kids.getD (placeM m (n.names.getD i [])).toNat default = n.kids.getD i default) → misM (shM n) m = none
  | 0, n, m, hs, _, _, _ => by cases n; simp at hs
  | s + 1, n, m, hs, hn, hk, hp => by
    obtain ⟨p1, p2, p3, p4⟩ := sh_parts n
    have hnk := names_kids hn
    have hlen := shgo_len n.names n.kids hnk
    rw [misM_eq]
    split
    · rfl
    rw [if_pos (by rw [p1, hk])]
    rw [← misK_zero]
    have key : ∀ k i, i + k = n.names.length → misK (shM n) m i = none := by
      intro k
      induction k with
      | zero => intro i hi; exact misK_end (by rw [p2]; omega)
      | succ k ih =>
        intro i hi
        have hi2 : i < n.names.length := by omega
        rw [misK_step (by rw [p2]; exact hi2) (by rw [p2, p3]; simp) (by rw [p2, p4, hlen]), p2]
        obtain ⟨h1, h2⟩ := hp i hi2
        rw [if_neg (by omega), p4, shgo_get _ _ _ hi2 (by omega), h2]
        have hkid := okN_kid hn (j := i) (by omega)
        have hsz := kid_size (n := n) (j := i) (by omega)
        rw [sh_fit s (by omega) hkid rfl fun j hj => ?_]
        · exact ih (i + 1) (by omega)
        · by_cases h4 : (n.kids.getD i default).kind = 4
          · have hb := base_look hkid h4 hj
            obtain ⟨q1, q2⟩ := place_base hkid h4 ((n.kids.getD i default).names.getD j [])
            have h0 : 0 ≤ placeM (n.kids.getD i default) ((n.kids.getD i default).names.getD j []) := Int.not_lt.1 fun e => by rw [q1.1 e] at hb; cases hb
            have := q2 h0
            rw [hb] at this
            simp only [Option.some.injEq, It.mk.injEq, true_and] at this
            exact ⟨h0, this.symm⟩
          · rw [(okN_names hkid).2.2 h4] at hj; simp at hj
    exact key n.names.length 0 (by omega)
theorem more_law {n m v : Nd} {b : Bs} (hk : n.kind = 4) (hb : b ∉ n.names) (h : addNodeM n [b] v = some m) : validS (shM n) = true ∧ validM m = true ∧ misM (shM n) m = none := by
  obtain ⟨h1, h2, h3, h4, h5⟩ := addNode_some h
  have hn := validM_ok h1
  refine ⟨sh_valid hn, h4, ?_⟩
  obtain ⟨x, y, hx, hy, hs⟩ := addAt_some (by simp) h5
  have e1 : x = n := by
    have : findM n ([b].take ([b].length - 1)) = some n := rfl
    rw [this] at hx; exact (Option.some.inj hx).symm
  subst e1
  have e2 : m = y := by
    have : setAtM x ([b].take ([b].length - 1)) y = some y := rfl
    rw [this] at hs; exact (Option.some.inj hs).symm
  subst e2
  have hl : lastD [b] = b := rfl
  rw [hl, add_map hn hk] at hy
  obtain rfl := (Option.some.inj hy).symm
  have hf := base_facts hn
  have ha : ascI (putL (baseI x) ⟨b, 0, v⟩) := put_asc hf.1
  refine sh_fit _ (Nat.le_refl _) hn hk.symm fun i hi => ?_
  have hne : b ≠ x.names.getD i [] := fun e => hb (by rw [e, getD_get hi]; exact List.getElem_mem hi)
  have hlk : lookI (putL (baseI x) ⟨b, 0, v⟩) (x.names.getD i []) = some ⟨x.names.getD i [], 0, x.kids.getD i default⟩ := by
    rw [lookI_put _ _ _ hf.1, if_neg hne, base_look hn hk hi]
  have h0 : 0 ≤ placeM (ndOf (putL (baseI x) ⟨b, 0, v⟩)) (x.names.getD i []) := Int.not_lt.1 fun e => by
    have h6 := (place_ndOf_lt ha _).1 e
    rw [lookI_found ha, h6] at hlk
    simp at hlk
  refine ⟨h0, ?_⟩
  rw [kid_ndOf ha h0, kidOf_some hlk]
def nlW (E : El) : List (ElT E) → AV
  | [] => .nils E
  | _ :: _ => .ls 901
def nlM (E : El) : List (ElT E) → List (Nat × LC)
  | [] => []
  | a :: l => [(901, .arr E (a :: l))]
noncomputable def c22 (n : Nd) (K : AV → List AV → Prop) : Prop :=
    Obl (okN n) (K (.st [.int .i64 n.kind, .own .str n.names, .own .bool (n.names.map fun _ => true), .own .shape (shM.go n.names n.kids)]) [])
noncomputable def m22 (n : Nd) : Nat := SizeOf.sizeOf n
noncomputable def C22 : List AV → (AV → List AV → Prop) → Prop
  | [.st [.int .i64 n_0, .int .i64 n_1, .str n_2, .ps .str n_3, .ps .node n_4]], K => c22 ⟨n_0, n_1, n_2, n_3, n_4⟩ K
  | _, _ => False
noncomputable def Ck22 (k : Nat) : List AV → (AV → List AV → Prop) → Prop
  | [.st [.int .i64 n_0, .int .i64 n_1, .str n_2, .ps .str n_3, .ps .node n_4]], K => Obl (m22 ⟨n_0, n_1, n_2, n_3, n_4⟩ < k) (c22 ⟨n_0, n_1, n_2, n_3, n_4⟩ K)
  | _, _ => False
noncomputable def E22 (k : Nat) : Ctx := mkE tab [(22, .gen .ow (Ck22 k)), (47, .gen .ow C47)]
noncomputable def O22 : Nat → List DI := ordL [(9, [.q 0, .q 1, .q 2, .l 3 [1], .l 4 [1], .l 5 [], .q 6, .l 7 []])]
theorem a22 (k : Nat) (n : Nd) (hm : m22 n < k + 1) (hb : BdAs [.st (ndC n)]) (K : AV → List AV → Prop) (h : c22 n K) : abody (E22 k) O22 .ow Tryd.f22 (Tryd.f22.body.getD .skip) [.st (ndC n)] K := by
  simp only [BdAs, BdA, BdL, BdC, MX, ndC, shC, itC, stC, opC, chC, nwC, flC, rqC, rsC, enc, List.cons_append, List.nil_append, and_true, true_and] at hb
  unfold c22 at h
  unfold m22 at hm
  obtain ⟨hn, hK⟩ := h
  have hnk := names_kids hn
  have hn6 := (okN_names hn).1
  have h6 := okN_kids hn
  have hev := (okN_names hn).2.1
  have hno := (okN_names hn).2.2
  conv => whnf
  repeat' first
    | (refine Cnd.mk (fun h => ?_) (fun h => ?_) <;> (try simp [etas, elDef, -List.getD_eq_getElem?_getD] at h) <;> conv => whnf)
    | (refine Obl.mk (by first | omega | rfl | exact inK_byte _ | (simp only [inK, Int.toNat_natCast, etas, elDef, m22, m22] <;> first | omega | grind) | grind [inK, m22, m22]) ?_ <;> conv => whnf)
    | (refine OblG.mk (by conv => whnf
                          repeat (first | (refine Bx.mk ?_) | (intro h; (try simp [etas, elDef, -List.getD_eq_getElem?_getD] at h); conv => whnf))
                          first | omega | rfl | exact inK_byte _ | (simp only [inK, Int.toNat_natCast, etas, elDef, m22, m22] <;> first | omega | grind) | grind [inK, m22, m22]) ?_ <;> conv => whnf)
    | (refine Gd.mk (fun h => ?_) <;> (try simp [etas, elDef, -List.getD_eq_getElem?_getD] at h) <;> conv => whnf)
    | (refine And.intro ?_ ?_ <;> conv => whnf)
    | exact True.intro
    | (intro; conv => whnf)
  · have e := hno h
    exact leafV hK (by rw [e, shgo_nil]; rfl)
  have hk := h
  have hl4 := hev h
  refine aloop_intro (Nat × List Bool × List Sh) (fun q => q.1 ≤ n.names.length ∧ q.2.1 = (n.names.take q.1).map (fun _ => true) ∧ q.2.2 = shM.go (n.names.take q.1) (n.kids.take q.1)) (fun q => n.names.length - q.1) (fun q => [(20, .int .i64 q.1)]) (fun q => (3, .box [.int .i64 n.kind, .ls 902, nlV .bool q.2.1, nlW .shape q.2.2]) :: (902, .arr .str n.names) :: (nlL .bool q.2.1 ++ nlM .shape q.2.2)) [1, 2] (0, [], []) [(902, 16000)] [] ?_ ?_ (by exact sgOk_of (by rfl)) ?_
  · exact ⟨by simp, by simp, by rw [List.take_zero, shgo_nil]⟩
  · (conv => whnf); (repeat' (first | exact trivial | rfl | (refine nilEq ?_; first | rfl | (simp only [*]; done) | (simp [*]; done) | grind) | apply And.intro | ((first | refine intEq ?_ | refine boolEq ?_ | refine strEq ?_ | refine psEq ?_ | refine nilEq ?_ | refine arrEq ?_); (try simp only [Int.toNat_natCast, etas, elDef]); first | done | omega | grind | (simp only [*]; done) | (simp [*]; done)))); (all_goals (conv => whnf)); (repeat' (first | exact trivial | rfl | (refine nilEq ?_; first | rfl | (simp only [*]; done) | (simp [*]; done) | grind) | apply And.intro | ((first | refine intEq ?_ | refine boolEq ?_ | refine strEq ?_ | refine psEq ?_ | refine nilEq ?_ | refine arrEq ?_); (try simp only [Int.toNat_natCast, etas, elDef]); first | done | omega | grind | (simp only [*]; done) | (simp [*]; done)) | ((try simp only [Int.toNat_natCast, etas, elDef]); first | done | omega | grind | (simp only [*]; done) | (simp [*]; done))))
  rintro ⟨i, bs, ks⟩ ⟨hi, hbs, hks⟩
  dsimp only at hi hbs hks
  have hbl : bs.length = i := by rw [hbs]; simp; omega
  have hkl : ks.length = i := by rw [hks, shgo_len]; simp; omega; simp; omega
  have hks2 := fun (h : i < n.kids.length) => kid_size h
  have hko := fun (h : i < n.kids.length) => okN_kid hn h
  have hst := fun h1 h2 => shgo_take n.names n.kids i h1 h2
  have hmt := fun h => map_take1 (l := n.names) (i := i) h
  have hb1 : bs.length + [true].length ≤ 1073741824 := by simp; omega
  have hk1 : ks.length + [(default : Sh)].length ≤ 1073741824 := by simp; omega
  rcases bs with _ | ⟨b, bs⟩ <;> rcases ks with _ | ⟨k0, ks⟩
  · conv => whnf
    repeat' first
      | (refine Cnd.mk (fun h => ?_) (fun h => ?_) <;> (try simp [etas, elDef, -List.getD_eq_getElem?_getD] at h) <;> conv => whnf)
      | (refine Obl.mk (by first | omega | rfl | exact inK_byte _ | (simp only [inK, Int.toNat_natCast, etas, elDef, m22, m22] <;> first | omega | grind) | grind [inK, m22, m22]) ?_ <;> conv => whnf)
      | (refine OblG.mk (by conv => whnf
                            repeat (first | (refine Bx.mk ?_) | (intro h; (try simp [etas, elDef, -List.getD_eq_getElem?_getD] at h); conv => whnf))
                            first | omega | rfl | exact inK_byte _ | (simp only [inK, Int.toNat_natCast, etas, elDef, m22, m22] <;> first | omega | grind) | grind [inK, m22, m22]) ?_ <;> conv => whnf)
      | (refine Gd.mk (fun h => ?_) <;> (try simp [etas, elDef, -List.getD_eq_getElem?_getD] at h) <;> conv => whnf)
      | (refine And.intro ?_ ?_ <;> conv => whnf)
      | exact True.intro
      | (intro; conv => whnf)
    · exact ⟨(i + 1, [true], [shM (n.kids.getD i default)]), [(900, 27), (901, 34)], [], ⟨by simp only; omega, by simp only; rw [hmt (by omega), ← hbs]; rfl, by simp only; rw [hst (by omega) h, ← hks]; rfl⟩, by show n.names.length - (i + 1) < n.names.length - i; omega, by (conv => whnf); (repeat' (first | exact trivial | rfl | (refine nilEq ?_; first | rfl | (simp only [*]; done) | (simp [*]; done) | grind) | apply And.intro | ((first | refine intEq ?_ | refine boolEq ?_ | refine strEq ?_ | refine psEq ?_ | refine nilEq ?_ | refine arrEq ?_); (try simp only [Int.toNat_natCast, etas, elDef]); first | done | omega | (rw [shM_eq]; done) | (rw [shM_eq]) | grind))); (all_goals (conv => whnf)); (repeat' (first | exact trivial | rfl | (refine nilEq ?_; first | rfl | (simp only [*]; done) | (simp [*]; done) | grind) | apply And.intro | ((first | refine intEq ?_ | refine boolEq ?_ | refine strEq ?_ | refine psEq ?_ | refine nilEq ?_ | refine arrEq ?_); (try simp only [Int.toNat_natCast, etas, elDef]); first | done | omega | (rw [shM_eq]; done) | (rw [shM_eq]) | grind) | ((try simp only [Int.toNat_natCast, etas, elDef]); first | done | omega | (rw [shM_eq]; done) | (rw [shM_eq]) | grind))), (by exact sgOk_of (by rfl))⟩
    · have e : n.names = [] := List.length_eq_zero_iff.1 (by simp at hbl; omega)
      exact leafV hK (by rw [e, shgo_nil]; rfl)
  · exfalso; simp at hbl hkl; omega
  · exfalso; simp at hbl hkl; omega
  · conv => whnf
    repeat' first
      | (refine Cnd.mk (fun h => ?_) (fun h => ?_) <;> (try simp [etas, elDef, -List.getD_eq_getElem?_getD] at h) <;> conv => whnf)
      | (refine Obl.mk (by first | omega | rfl | exact inK_byte _ | (simp only [inK, Int.toNat_natCast, etas, elDef, m22, m22] <;> first | omega | grind) | grind [inK, m22, m22]) ?_ <;> conv => whnf)
      | (refine OblG.mk (by conv => whnf
                            repeat (first | (refine Bx.mk ?_) | (intro h; (try simp [etas, elDef, -List.getD_eq_getElem?_getD] at h); conv => whnf))
                            first | omega | rfl | exact inK_byte _ | (simp only [inK, Int.toNat_natCast, etas, elDef, m22, m22] <;> first | omega | grind) | grind [inK, m22, m22]) ?_ <;> conv => whnf)
      | (refine Gd.mk (fun h => ?_) <;> (try simp [etas, elDef, -List.getD_eq_getElem?_getD] at h) <;> conv => whnf)
      | (refine And.intro ?_ ?_ <;> conv => whnf)
      | exact True.intro
      | (intro; conv => whnf)
    · exact ⟨(i + 1, b :: bs ++ [true], k0 :: ks ++ [shM (n.kids.getD i default)]), [(900, 27), (901, 34)], [], ⟨by simp only; omega, by simp only; rw [hmt (by omega), ← hbs], by simp only; rw [hst (by omega) h, ← hks]⟩, by show n.names.length - (i + 1) < n.names.length - i; omega, by (conv => whnf); (repeat' (first | exact trivial | rfl | (refine nilEq ?_; first | rfl | (simp only [*]; done) | (simp [*]; done) | grind) | apply And.intro | ((first | refine intEq ?_ | refine boolEq ?_ | refine strEq ?_ | refine psEq ?_ | refine nilEq ?_ | refine arrEq ?_); (try simp only [Int.toNat_natCast, etas, elDef]); first | done | omega | (rw [shM_eq]; done) | (rw [shM_eq]) | grind))); (all_goals (conv => whnf)); (repeat' (first | exact trivial | rfl | (refine nilEq ?_; first | rfl | (simp only [*]; done) | (simp [*]; done) | grind) | apply And.intro | ((first | refine intEq ?_ | refine boolEq ?_ | refine strEq ?_ | refine psEq ?_ | refine nilEq ?_ | refine arrEq ?_); (try simp only [Int.toNat_natCast, etas, elDef]); first | done | omega | (rw [shM_eq]; done) | (rw [shM_eq]) | grind) | ((try simp only [Int.toNat_natCast, etas, elDef]); first | done | omega | (rw [shM_eq]; done) | (rw [shM_eq]) | grind))), (by exact sgOk_of (by rfl))⟩
    · have e : i = n.names.length := by omega
      exact leafV hK (by rw [hbs, hks, e, List.take_length, shgo_cut])
theorem r22 : ∀ k, (CtrOK Tryd.prog 22 (.gen .ow (Ck22 k)) ∧ Callable Tryd.prog 22) := by
  intro k
  induction k with
  | zero =>
    exact ⟨fun args K h => by
        unfold Ck22 at h; split at h
        · exact absurd h.o (Nat.not_lt_zero _)
        · exact h.elim, callable Tryd.func22 rfl (by rfl)⟩
  | succ k ih =>
    refine gen_ok (E := E22 k) (mkE_cons ih (mkE_cons s47 (mkE_nil tab_ok))) mix (O := O22) (C := (Ck22 (k + 1))) (own := .ow) Tryd.func22 rfl (by rfl) (by kernel_rfl) (fun args K h hbd => ?_)
    unfold Ck22 at h; split at h
    case h_2 => exact h.elim
    exact ⟨Nat.le_of_ble_eq_true rfl, a22 k ⟨_, _, _, _, _⟩ h.o (by exact hbd) _ h.k⟩
theorem s22 : (CtrOK Tryd.prog 22 (.gen .ow C22) ∧ Callable Tryd.prog 22) := by
  refine ⟨fun args K h => ?_, (r22 0).2⟩
  unfold C22 at h; split at h
  · exact (r22 (m22 ⟨_, _, _, _, _⟩ + 1)).1 _ K ⟨Nat.lt_succ_self _, h⟩
  · exact h.elim
noncomputable def v8 (a : Sh) (b : Sh) : AV := .bool (eqD a b)
noncomputable def o8 (a : Sh) (b : Sh) : Prop := True
noncomputable def m8 (a : Sh) (b : Sh) : Nat := SizeOf.sizeOf a
noncomputable def F8 : List AV → QR
  | [.st [.int .i64 a_0, .ps .str a_1, .ps .bool a_2, .ps .shape a_3], .st [.int .i64 b_0, .ps .str b_1, .ps .bool b_2, .ps .shape b_3]] => some (none, v8 ⟨a_0, a_1, a_2, a_3⟩ ⟨b_0, b_1, b_2, b_3⟩)
  | _ => none
noncomputable def Fk8 (k : Nat) : List AV → QR
  | [.st [.int .i64 a_0, .ps .str a_1, .ps .bool a_2, .ps .shape a_3], .st [.int .i64 b_0, .ps .str b_1, .ps .bool b_2, .ps .shape b_3]] => some (some (m8 ⟨a_0, a_1, a_2, a_3⟩ ⟨b_0, b_1, b_2, b_3⟩ < k ∧ o8 ⟨a_0, a_1, a_2, a_3⟩ ⟨b_0, b_1, b_2, b_3⟩), v8 ⟨a_0, a_1, a_2, a_3⟩ ⟨b_0, b_1, b_2, b_3⟩)
  | _ => none
noncomputable def E8 (k : Nat) : Ctx := mkE tab [(8, .pure (Fk8 k)), (18, .pure F18)]
noncomputable def O8 : Nat → List DI := ordL [(6, [.q 0, .q 1, .q 2, .q 3, .q 4, .q 5, .q 6, .q 7, .q 8, .q 9, .q 10]), (11, [.q 0, .q 1, .q 2, .q 3, .q 4, .q 5, .q 6, .q 7, .q 8, .q 9, .q 10, .q 11])]
theorem a8 (k : Nat) (a : Sh) (b : Sh) (hm : m8 a b < k + 1) (hb : BdAs [.st (shC a), .st (shC b)]) (ho : o8 a b) (K : AV → List AV → Prop) (hK : K (v8 a b) []) : abody (E8 k) O8 .ps Tryd.f8 (Tryd.f8.body.getD .skip) [.st (shC a), .st (shC b)] K := by
  simp only [BdAs, BdA, BdL, BdC, MX, ndC, shC, itC, stC, opC, chC, nwC, flC, rqC, rsC, enc, List.cons_append, List.nil_append, and_true, true_and] at hb
  unfold v8 at hK
  unfold m8 at hm
  have hkid : ∀ j, j < a.kids.length → SizeOf.sizeOf (a.kids.getD j default) < k := fun j hj => by have := kidS_size hj; omega
  conv => whnf
  repeat' first
    | (refine Cnd.mk (fun h => ?_) (fun h => ?_) <;> (try simp [etas, elDef, -List.getD_eq_getElem?_getD] at h) <;> conv => whnf)
    | (refine Obl.mk (by first | omega | rfl | exact inK_byte _ | (simp only [inK, Int.toNat_natCast, etas, elDef, m8, o8, m8] <;> first | omega | grind) | grind [inK, m8, o8, m8]) ?_ <;> conv => whnf)
    | (refine OblG.mk (by conv => whnf
                          repeat (first | (refine Bx.mk ?_) | (intro h; (try simp [etas, elDef, -List.getD_eq_getElem?_getD] at h); conv => whnf))
                          first | omega | rfl | exact inK_byte _ | (simp only [inK, Int.toNat_natCast, etas, elDef, m8, o8, m8] <;> first | omega | grind) | grind [inK, m8, o8, m8]) ?_ <;> conv => whnf)
    | (refine Gd.mk (fun h => ?_) <;> (try simp [etas, elDef, -List.getD_eq_getElem?_getD] at h) <;> conv => whnf)
    | (refine And.intro ?_ ?_ <;> conv => whnf)
    | exact True.intro
    | (intro; conv => whnf)
  · refine leafB hK (eqD_no.2 fun e => ?_)
    subst e
    simp [eqD_iff.2 rfl] at h
  have hall := h
  refine aloop_intro Nat (fun k => k ≤ a.needs.length ∧ ∀ j, j < k → a.needs.getD j false = b.needs.getD j false) (fun k => a.needs.length - k) (fun k => [(5, .int .i64 k)]) (fun _ => []) [2, 3] 0 [] [] (by simp) ?_ (by exact sgOk_of (by rfl)) ?_
  · (conv => whnf); (repeat' (first | exact trivial | rfl | (refine nilEq ?_; first | rfl | (simp only [*]; done) | (simp [*]; done) | grind) | apply And.intro | ((first | refine intEq ?_ | refine boolEq ?_ | refine strEq ?_ | refine psEq ?_ | refine nilEq ?_ | refine arrEq ?_); (try simp only [Int.toNat_natCast, etas, elDef]); first | done | omega | grind | (simp only [*]; done) | (simp [*]; done)))); (all_goals (conv => whnf)); (repeat' (first | exact trivial | rfl | (refine nilEq ?_; first | rfl | (simp only [*]; done) | (simp [*]; done) | grind) | apply And.intro | ((first | refine intEq ?_ | refine boolEq ?_ | refine strEq ?_ | refine psEq ?_ | refine nilEq ?_ | refine arrEq ?_); (try simp only [Int.toNat_natCast, etas, elDef]); first | done | omega | grind | (simp only [*]; done) | (simp [*]; done)) | ((try simp only [Int.toNat_natCast, etas, elDef]); first | done | omega | grind | (simp only [*]; done) | (simp [*]; done))))
  rintro i ⟨hi, hj⟩
  conv => whnf
  repeat' first
    | (refine Cnd.mk (fun h => ?_) (fun h => ?_) <;> (try simp [etas, elDef, -List.getD_eq_getElem?_getD] at h) <;> conv => whnf)
    | (refine Obl.mk (by first | omega | rfl | exact inK_byte _ | (simp only [inK, Int.toNat_natCast, etas, elDef, m8, o8, m8] <;> first | omega | grind) | grind [inK, m8, o8, m8]) ?_ <;> conv => whnf)
    | (refine OblG.mk (by conv => whnf
                          repeat (first | (refine Bx.mk ?_) | (intro h; (try simp [etas, elDef, -List.getD_eq_getElem?_getD] at h); conv => whnf))
                          first | omega | rfl | exact inK_byte _ | (simp only [inK, Int.toNat_natCast, etas, elDef, m8, o8, m8] <;> first | omega | grind) | grind [inK, m8, o8, m8]) ?_ <;> conv => whnf)
    | (refine Gd.mk (fun h => ?_) <;> (try simp [etas, elDef, -List.getD_eq_getElem?_getD] at h) <;> conv => whnf)
    | (refine And.intro ?_ ?_ <;> conv => whnf)
    | exact True.intro
    | (intro; conv => whnf)
  · refine leafB hK (eqD_no.2 fun e => ?_)
    subst e
    simp at h
  · exact ⟨i + 1, [], [], ⟨by omega, by grind⟩, by omega, by (conv => whnf); (repeat' (first | exact trivial | rfl | (refine nilEq ?_; first | rfl | (simp only [*]; done) | (simp [*]; done) | grind) | apply And.intro | ((first | refine intEq ?_ | refine boolEq ?_ | refine strEq ?_ | refine psEq ?_ | refine nilEq ?_ | refine arrEq ?_); (try simp only [Int.toNat_natCast, etas, elDef]); first | done | omega | grind | (simp only [*]; done) | (simp [*]; done)))); (all_goals (conv => whnf)); (repeat' (first | exact trivial | rfl | (refine nilEq ?_; first | rfl | (simp only [*]; done) | (simp [*]; done) | grind) | apply And.intro | ((first | refine intEq ?_ | refine boolEq ?_ | refine strEq ?_ | refine psEq ?_ | refine nilEq ?_ | refine arrEq ?_); (try simp only [Int.toNat_natCast, etas, elDef]); first | done | omega | grind | (simp only [*]; done) | (simp [*]; done)) | ((try simp only [Int.toNat_natCast, etas, elDef]); first | done | omega | grind | (simp only [*]; done) | (simp [*]; done)))), (by exact sgOk_of (by rfl))⟩
  · have hneeds := hj
    have hil := h
    refine aloop_intro Nat (fun k => k ≤ a.kids.length ∧ ∀ j, j < k → a.kids.getD j default = b.kids.getD j default) (fun k => a.kids.length - k) (fun k => [(6, .int .i64 k)]) (fun _ => []) [2, 3] 0 [] [] (by simp) ?_ (by exact sgOk_of (by rfl)) ?_
    · (conv => whnf); (repeat' (first | exact trivial | rfl | (refine nilEq ?_; first | rfl | (simp only [*]; done) | (simp [*]; done) | grind) | apply And.intro | ((first | refine intEq ?_ | refine boolEq ?_ | refine strEq ?_ | refine psEq ?_ | refine nilEq ?_ | refine arrEq ?_); (try simp only [Int.toNat_natCast, etas, elDef]); first | done | omega | grind | (simp only [*]; done) | (simp [*]; done)))); (all_goals (conv => whnf)); (repeat' (first | exact trivial | rfl | (refine nilEq ?_; first | rfl | (simp only [*]; done) | (simp [*]; done) | grind) | apply And.intro | ((first | refine intEq ?_ | refine boolEq ?_ | refine strEq ?_ | refine psEq ?_ | refine nilEq ?_ | refine arrEq ?_); (try simp only [Int.toNat_natCast, etas, elDef]); first | done | omega | grind | (simp only [*]; done) | (simp [*]; done)) | ((try simp only [Int.toNat_natCast, etas, elDef]); first | done | omega | grind | (simp only [*]; done) | (simp [*]; done))))
    rintro q ⟨hq, hqj⟩
    conv => whnf
    repeat' first
      | (refine Cnd.mk (fun h => ?_) (fun h => ?_) <;> (try simp [etas, elDef, -List.getD_eq_getElem?_getD] at h) <;> conv => whnf)
      | (refine Obl.mk (by first | omega | rfl | exact inK_byte _ | (simp only [inK, Int.toNat_natCast, etas, elDef, m8, o8, m8] <;> first | omega | grind) | grind [inK, m8, o8, m8]) ?_ <;> conv => whnf)
      | (refine OblG.mk (by conv => whnf
                            repeat (first | (refine Bx.mk ?_) | (intro h; (try simp [etas, elDef, -List.getD_eq_getElem?_getD] at h); conv => whnf))
                            first | omega | rfl | exact inK_byte _ | (simp only [inK, Int.toNat_natCast, etas, elDef, m8, o8, m8] <;> first | omega | grind) | grind [inK, m8, o8, m8]) ?_ <;> conv => whnf)
      | (refine Gd.mk (fun h => ?_) <;> (try simp [etas, elDef, -List.getD_eq_getElem?_getD] at h) <;> conv => whnf)
      | (refine And.intro ?_ ?_ <;> conv => whnf)
      | exact True.intro
      | (intro; conv => whnf)
    · refine leafB hK (eqD_no.2 fun e => ?_)
      subst e
      simp [eqD_no] at h
    · exact ⟨q + 1, [], [], ⟨by omega, by grind [eqD_iff]⟩, by omega, by (conv => whnf); (repeat' (first | exact trivial | rfl | (refine nilEq ?_; first | rfl | (simp only [*]; done) | (simp [*]; done) | grind) | apply And.intro | ((first | refine intEq ?_ | refine boolEq ?_ | refine strEq ?_ | refine psEq ?_ | refine nilEq ?_ | refine arrEq ?_); (try simp only [Int.toNat_natCast, etas, elDef]); first | done | omega | grind | (simp only [*]; done) | (simp [*]; done)))); (all_goals (conv => whnf)); (repeat' (first | exact trivial | rfl | (refine nilEq ?_; first | rfl | (simp only [*]; done) | (simp [*]; done) | grind) | apply And.intro | ((first | refine intEq ?_ | refine boolEq ?_ | refine strEq ?_ | refine psEq ?_ | refine nilEq ?_ | refine arrEq ?_); (try simp only [Int.toNat_natCast, etas, elDef]); first | done | omega | grind | (simp only [*]; done) | (simp [*]; done)) | ((try simp only [Int.toNat_natCast, etas, elDef]); first | done | omega | grind | (simp only [*]; done) | (simp [*]; done)))), (by exact sgOk_of (by rfl))⟩
    · refine leafB hK (eqD_iff.2 (sh_ext hall.1.1.1 (eqD_iff.1 hall.1.1.2) (listEq false (by have := hall.1.2; omega) (fun j hj2 => hneeds j (by omega))) (listEq default (by have := hall.2; omega) (fun j hj2 => hqj j (by omega)))))
theorem r8 : ∀ k, (CtrOK Tryd.prog 8 (.pure (Fk8 k)) ∧ Callable Tryd.prog 8) := by
  intro k
  induction k with
  | zero =>
    exact ⟨⟨fun args o v h => by unfold Fk8 at h; split at h <;> cases h; first | trivial | (simp [v8, Scalar, Scalar2, Scalar1, stC, ndC, itC, chC, nwC]), fun args K h => by
        unfold pureC Fk8 at h; split at h
        · rename_i h1; split at h1 <;> cases h1; exact absurd (h.1 _ rfl).1 (Nat.not_lt_zero _)
        · exact h.elim⟩, callable Tryd.func8 rfl (by rfl)⟩
  | succ k ih =>
    refine pure_ok (E := E8 k) (mkE_cons ih (mkE_cons s18 (mkE_nil tab_ok))) mix (O := O8) (F := (Fk8 (k + 1))) Tryd.func8 rfl (by rfl) (by kernel_rfl) (fun args o v h => ?_) (fun args o v h => ?_) (fun args o v h hbd hp K hK => ?_)
    · unfold Fk8 at h; split at h <;> cases h; first | trivial | (simp [v8, Scalar, Scalar2, Scalar1, stC, ndC, itC, chC, nwC])
    · unfold Fk8 at h; split at h <;> cases h; exact Nat.le_of_ble_eq_true rfl
    · unfold Fk8 at h; split at h
      case h_2 => cases h
      cases h
      exact a8 k ⟨_, _, _, _⟩ ⟨_, _, _, _⟩ (hp _ rfl).1 (by exact hbd) (hp _ rfl).2 K hK
theorem s8 : (CtrOK Tryd.prog 8 (.pure F8) ∧ Callable Tryd.prog 8) := by
  refine ⟨⟨fun args o v h => ?_, fun args K h => ?_⟩, (r8 0).2⟩
  · unfold F8 at h; split at h <;> cases h; first | trivial | (simp [v8, Scalar, Scalar2, Scalar1, stC, ndC, itC, chC, nwC])
  · unfold pureC F8 at h; split at h
    · rename_i h1; split at h1 <;> cases h1
      exact (r8 (m8 ⟨_, _, _, _⟩ ⟨_, _, _, _⟩ + 1)).1.2 _ K ⟨fun p hp => by cases hp; exact ⟨Nat.lt_succ_self _, trivial⟩, h.2⟩
    · exact h.elim
noncomputable def c6 (n : Nd) (K : AV → List AV → Prop) : Prop :=
    K (.tup [.st (shC (if validM n then shM n else default)), .bool (validM n)]) []
noncomputable def C6 : List AV → (AV → List AV → Prop) → Prop
  | [.st [.int .i64 n_0, .int .i64 n_1, .str n_2, .ps .str n_3, .ps .node n_4]], K => c6 ⟨n_0, n_1, n_2, n_3, n_4⟩ K
  | _, _ => False
noncomputable def E6 : Ctx := mkE tab [(21, .pure F21), (22, .gen .ow C22)]
noncomputable def O6 : Nat → List DI := ordL []
theorem a6 (n : Nd) (hb : BdAs [.st (ndC n)]) (K : AV → List AV → Prop) (h : c6 n K) : abody E6 O6 .ps Tryd.f6 (Tryd.f6.body.getD .skip) [.st (ndC n)] K := by
  simp only [BdAs, BdA, BdL, BdC, MX, ndC, shC, itC, stC, opC, chC, nwC, flC, rqC, rsC, enc, List.cons_append, List.nil_append, and_true, true_and] at hb
  unfold c6 at h
  have h1 := fun h => validM_ok (n := n) h
  have hK := h
  conv => whnf
  repeat' first
    | (refine Cnd.mk (fun h => ?_) (fun h => ?_) <;> (try simp [etas, elDef, -List.getD_eq_getElem?_getD] at h) <;> conv => whnf)
    | (refine Obl.mk (by first | omega | rfl | exact inK_byte _ | (simp only [inK, Int.toNat_natCast, etas, elDef, m22] <;> first | omega | grind) | grind [inK, m22]) ?_ <;> conv => whnf)
    | (refine OblG.mk (by conv => whnf
                          repeat (first | (refine Bx.mk ?_) | (intro h; (try simp [etas, elDef, -List.getD_eq_getElem?_getD] at h); conv => whnf))
                          first | omega | rfl | exact inK_byte _ | (simp only [inK, Int.toNat_natCast, etas, elDef, m22] <;> first | omega | grind) | grind [inK, m22]) ?_ <;> conv => whnf)
    | (refine Gd.mk (fun h => ?_) <;> (try simp [etas, elDef, -List.getD_eq_getElem?_getD] at h) <;> conv => whnf)
    | (refine And.intro ?_ ?_ <;> conv => whnf)
    | exact True.intro
    | (intro; conv => whnf)
  · exact leafV hK (by rw [h]; rfl)
  · exact leafV hK (by rw [h, if_pos rfl, shM_eq]; simp only [nd_eta]; rfl)
theorem s6 : (CtrOK Tryd.prog 6 (.gen .ps C6) ∧ Callable Tryd.prog 6) := by
  refine gen_ok (E := E6) (mkE_cons s21 (mkE_cons s22 (mkE_nil tab_ok))) mix (O := O6) (C := C6) (own := .ps) Tryd.func6 rfl (by rfl) (by kernel_rfl) (fun args K h hbd => ?_)
  unfold C6 at h; split at h
  case h_2 => exact h.elim
  exact ⟨Nat.le_of_ble_eq_true rfl, a6 ⟨_, _, _, _, _⟩ (by exact hbd) _ h⟩
noncomputable def c7 (n : Nd) (K : AV → List AV → Prop) : Prop :=
    K (.tup [.st (shC (if validM n then shM n else default)), .bool (validM n)]) []
noncomputable def C7 : List AV → (AV → List AV → Prop) → Prop
  | [.st [.int .i64 n_0, .int .i64 n_1, .str n_2, .ps .str n_3, .ps .node n_4]], K => c7 ⟨n_0, n_1, n_2, n_3, n_4⟩ K
  | _, _ => False
noncomputable def E7 : Ctx := mkE tab [(23, .pure F23), (24, .gen .ow C24)]
noncomputable def O7 : Nat → List DI := ordL []
theorem a7 (n : Nd) (hb : BdAs [.st (ndC n)]) (K : AV → List AV → Prop) (h : c7 n K) : abody E7 O7 .ps Tryd.f7 (Tryd.f7.body.getD .skip) [.st (ndC n)] K := by
  simp only [BdAs, BdA, BdL, BdC, MX, ndC, shC, itC, stC, opC, chC, nwC, flC, rqC, rsC, enc, List.cons_append, List.nil_append, and_true, true_and] at hb
  unfold c7 at h
  have h1 := fun h => validM_ok (n := n) h
  have hK := h
  conv => whnf
  repeat' first
    | (refine Cnd.mk (fun h => ?_) (fun h => ?_) <;> (try simp [etas, elDef, -List.getD_eq_getElem?_getD] at h) <;> conv => whnf)
    | (refine Obl.mk (by first | omega | rfl | exact inK_byte _ | (simp only [inK, Int.toNat_natCast, etas, elDef, m24] <;> first | omega | grind) | grind [inK, m24]) ?_ <;> conv => whnf)
    | (refine OblG.mk (by conv => whnf
                          repeat (first | (refine Bx.mk ?_) | (intro h; (try simp [etas, elDef, -List.getD_eq_getElem?_getD] at h); conv => whnf))
                          first | omega | rfl | exact inK_byte _ | (simp only [inK, Int.toNat_natCast, etas, elDef, m24] <;> first | omega | grind) | grind [inK, m24]) ?_ <;> conv => whnf)
    | (refine Gd.mk (fun h => ?_) <;> (try simp [etas, elDef, -List.getD_eq_getElem?_getD] at h) <;> conv => whnf)
    | (refine And.intro ?_ ?_ <;> conv => whnf)
    | exact True.intro
    | (intro; conv => whnf)
  · exact leafV hK (by rw [h]; rfl)
  · exact leafV hK (by rw [h, if_pos rfl, shM_eq]; simp only [nd_eta]; rfl)
theorem s7 : (CtrOK Tryd.prog 7 (.gen .ps C7) ∧ Callable Tryd.prog 7) := by
  refine gen_ok (E := E7) (mkE_cons s23 (mkE_cons s24 (mkE_nil tab_ok))) mix (O := O7) (C := C7) (own := .ps) Tryd.func7 rfl (by rfl) (by kernel_rfl) (fun args K h hbd => ?_)
  unfold C7 at h; split at h
  case h_2 => exact h.elim
  exact ⟨Nat.le_of_ble_eq_true rfl, a7 ⟨_, _, _, _, _⟩ (by exact hbd) _ h⟩
noncomputable def c11  (K : AV → List AV → Prop) : Prop :=
    K (.st (ndC zeroN)) []
noncomputable def C11 : List AV → (AV → List AV → Prop) → Prop
  | [], K => c11  K
  | _, _ => False
noncomputable def E11 : Ctx := mkE tab []
noncomputable def O11 : Nat → List DI := ordL []
theorem a11  (hb : BdAs []) (K : AV → List AV → Prop) (h : c11  K) : abody E11 O11 .ps Tryd.f11 (Tryd.f11.body.getD .skip) [] K := by
  simp only [BdAs, BdA, BdL, BdC, MX, ndC, shC, itC, stC, opC, chC, nwC, flC, rqC, rsC, enc, List.cons_append, List.nil_append, and_true, true_and] at hb
  unfold c11 at h
  have hK := h
  conv => whnf
  repeat' first
    | (refine Cnd.mk (fun h => ?_) (fun h => ?_) <;> (try simp [etas, elDef, -List.getD_eq_getElem?_getD] at h) <;> conv => whnf)
    | (refine Obl.mk (by first | omega | rfl | exact inK_byte _ | (simp only [inK, Int.toNat_natCast, etas, elDef] <;> first | omega | grind) | grind [inK]) ?_ <;> conv => whnf)
    | (refine OblG.mk (by conv => whnf
                          repeat (first | (refine Bx.mk ?_) | (intro h; (try simp [etas, elDef, -List.getD_eq_getElem?_getD] at h); conv => whnf))
                          first | omega | rfl | exact inK_byte _ | (simp only [inK, Int.toNat_natCast, etas, elDef] <;> first | omega | grind) | grind [inK]) ?_ <;> conv => whnf)
    | (refine Gd.mk (fun h => ?_) <;> (try simp [etas, elDef, -List.getD_eq_getElem?_getD] at h) <;> conv => whnf)
    | (refine And.intro ?_ ?_ <;> conv => whnf)
    | exact True.intro
    | (intro; conv => whnf)
  exact hK
theorem s11 : (CtrOK Tryd.prog 11 (.gen .ps C11) ∧ Callable Tryd.prog 11) := by
  refine gen_ok (E := E11) (mkE_nil tab_ok) mix (O := O11) (C := C11) (own := .ps) Tryd.func11 rfl (by rfl) (by kernel_rfl) (fun args K h hbd => ?_)
  unfold C11 at h; split at h
  case h_2 => exact h.elim
  exact ⟨Nat.le_of_ble_eq_true rfl, a11  (by exact hbd) _ h⟩
noncomputable def c5 (code : List Int) (K : AV → List AV → Prop) : Prop :=
    Obl (byOk code) (∀ (n : Nd), K (.st (ndC n)) [])
noncomputable def C5 : List AV → (AV → List AV → Prop) → Prop
  | [.ps .u8 code], K => c5 code K
  | _, _ => False
noncomputable def E5 : Ctx := mkE tab [(19, .gen .ps C19), (20, .gen .ow C20)]
noncomputable def O5 : Nat → List DI := ordL []
theorem a5 (code : List Int) (hb : BdAs [.ps .u8 code]) (K : AV → List AV → Prop) (h : c5 code K) : abody E5 O5 .ps Tryd.f5 (Tryd.f5.body.getD .skip) [.ps .u8 code] K := by
  simp only [BdAs, BdA, BdL, BdC, MX, ndC, shC, itC, stC, opC, chC, nwC, flC, rqC, rsC, enc, List.cons_append, List.nil_append, and_true, true_and] at hb
  unfold c5 at h
  obtain ⟨ho, hK⟩ := h
  conv => whnf
  repeat' first
    | (refine Cnd.mk (fun h => ?_) (fun h => ?_) <;> (try simp [etas, elDef, -List.getD_eq_getElem?_getD] at h) <;> conv => whnf)
    | (refine Obl.mk (by first | omega | rfl | exact inK_byte _ | (simp only [inK, Int.toNat_natCast, etas, elDef] <;> first | omega | grind) | grind [inK]) ?_ <;> conv => whnf)
    | (refine OblG.mk (by conv => whnf
                          repeat (first | (refine Bx.mk ?_) | (intro h; (try simp [etas, elDef, -List.getD_eq_getElem?_getD] at h); conv => whnf))
                          first | omega | rfl | exact inK_byte _ | (simp only [inK, Int.toNat_natCast, etas, elDef] <;> first | omega | grind) | grind [inK]) ?_ <;> conv => whnf)
    | (refine Gd.mk (fun h => ?_) <;> (try simp [etas, elDef, -List.getD_eq_getElem?_getD] at h) <;> conv => whnf)
    | (refine And.intro ?_ ?_ <;> conv => whnf)
    | exact True.intro
    | (intro; conv => whnf)
  all_goals exact hK ⟨_, _, _, _, _⟩
theorem s5 : (CtrOK Tryd.prog 5 (.gen .ps C5) ∧ Callable Tryd.prog 5) := by
  refine gen_ok (E := E5) (mkE_cons s19 (mkE_cons s20 (mkE_nil tab_ok))) mix (O := O5) (C := C5) (own := .ps) Tryd.func5 rfl (by rfl) (by kernel_rfl) (fun args K h hbd => ?_)
  unfold C5 at h; split at h
  case h_2 => exact h.elim
  exact ⟨Nat.le_of_ble_eq_true rfl, a5 _ (by exact hbd) _ h⟩
end Go.Rs

