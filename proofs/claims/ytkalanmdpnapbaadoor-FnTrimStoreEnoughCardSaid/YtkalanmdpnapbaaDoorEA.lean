import Derived.Test.YtkalanmdpnapbaaDoorCY
import Derived.Test.YtkalanmdpnapbaaDoorCK
import Derived.Test.YtkalanmdpnapbaaDoorCQ
import Derived.Test.YtkalanmdpnapbaaDoorMF
import Derived.Shelf.LaysM
import Derived.Shelf.Strconv.Itoa3
set_option linter.all false
namespace Go.Proofs
open Go.Shelf
def Tryd.laysM171_ren : Go.Shelf.Ren := ⟨fun | 171 => 79 | 243 => 102 | 246 => 115 | 283 => 118 | 284 => 119 | 285 => 120 | 286 => 121 | 129 => 123 | 317 => 122 | 318 => 124 | 319 => 125 | 320 => 126 | 337 => 127 | 338 => 128 | n => n, fun | 3 => 3 | 9 => 9 | 2 => 2 | 4 => 4 | 171 => 128 | 0 => 0 | 53 => 129 | 37 => 22 | 5 => 5 | 173 => 132 | 212 => 134 | 51 => 135 | 20 => 20 | 213 => 136 | 46 => 111 | 232 => 139 | 233 => 140 | n => n, fun | 17 => 1 | 18 => 2 | 19 => 3 | n => n⟩
theorem Tryd.laysM171 : Go.Proofs.LaysM.n171 Tryd.prog Tryd.laysM171_ren := {
  mixed := by kernel_rfl
  f129 := Tryd.func123.trans (congrArg some (by kernel_rfl))
  f171 := Tryd.func79.trans (congrArg some (by kernel_rfl))
  f243 := Tryd.func102.trans (congrArg some (by kernel_rfl))
  f246 := Tryd.func115.trans (congrArg some (by kernel_rfl))
  f283 := Tryd.func118.trans (congrArg some (by kernel_rfl))
  f284 := Tryd.func119.trans (congrArg some (by kernel_rfl))
  f285 := Tryd.func120.trans (congrArg some (by kernel_rfl))
  f286 := Tryd.func121.trans (congrArg some (by kernel_rfl))
  f317 := Tryd.func122.trans (congrArg some (by kernel_rfl))
  f318 := Tryd.func124.trans (congrArg some (by kernel_rfl))
  f319 := Tryd.func125.trans (congrArg some (by kernel_rfl))
  f320 := Tryd.func126.trans (congrArg some (by kernel_rfl))
  f337 := Tryd.func127.trans (congrArg some (by kernel_rfl))
  f338 := Tryd.func128.trans (congrArg some (by kernel_rfl))
  t0 := Tryd.underlying0
  a0 := Tryd.isAgg0
  z0 := Tryd.sizeOf0
  v0 := Tryd.zeroValue0
  t2 := Tryd.underlying2
  a2 := Tryd.isAgg2
  z2 := Tryd.sizeOf2
  v2 := Tryd.zeroValue2
  t3 := Tryd.underlying3
  a3 := Tryd.isAgg3
  z3 := Tryd.sizeOf3
  v3 := Tryd.zeroValue3
  t4 := Tryd.underlying4
  a4 := Tryd.isAgg4
  z4 := Tryd.sizeOf4
  v4 := Tryd.zeroValue4
  t5 := Tryd.underlying5
  a5 := Tryd.isAgg5
  z5 := Tryd.sizeOf5
  v5 := Tryd.zeroValue5
  t9 := Tryd.underlying9
  a9 := Tryd.isAgg9
  z9 := Tryd.sizeOf9
  v9 := Tryd.zeroValue9
  t20 := Tryd.underlying20
  a20 := Tryd.isAgg20
  z20 := Tryd.sizeOf20
  v20 := Tryd.zeroValue20
  t37 := Tryd.underlying22
  a37 := Tryd.isAgg22
  z37 := Tryd.sizeOf22
  v37 := Tryd.zeroValue22
  t46 := Tryd.underlying111
  a46 := Tryd.isAgg111
  z46 := Tryd.sizeOf111
  v46 := Tryd.zeroValue111
  t51 := Tryd.underlying135
  a51 := Tryd.isAgg135
  z51 := Tryd.sizeOf135
  v51 := Tryd.zeroValue135
  t53 := Tryd.underlying129
  a53 := Tryd.isAgg129
  z53 := Tryd.sizeOf129
  v53 := Tryd.zeroValue129
  t171 := Tryd.underlying128
  a171 := Tryd.isAgg128
  z171 := Tryd.sizeOf128
  v171 := Tryd.zeroValue128
  t173 := Tryd.underlying132
  a173 := Tryd.isAgg132
  z173 := Tryd.sizeOf132
  v173 := Tryd.zeroValue132
  t212 := Tryd.underlying134
  a212 := Tryd.isAgg134
  z212 := Tryd.sizeOf134
  v212 := Tryd.zeroValue134
  t213 := Tryd.underlying136
  a213 := Tryd.isAgg136
  z213 := Tryd.sizeOf136
  t232 := Tryd.underlying139
  a232 := Tryd.isAgg139
  z232 := Tryd.sizeOf139
  v232 := Tryd.zeroValue139
  t233 := Tryd.underlying140
  a233 := Tryd.isAgg140
  z233 := Tryd.sizeOf140
  v233 := Tryd.zeroValue140
  g17 := by kernel_rfl
  g18 := by kernel_rfl
  g19 := by kernel_rfl
  i0 := by kernel_rfl
  i2 := by kernel_rfl
  i3 := by kernel_rfl
  i4 := by kernel_rfl
  i5 := by kernel_rfl
  i9 := by kernel_rfl
  i20 := by kernel_rfl
  i37 := by kernel_rfl
  i46 := by kernel_rfl
  i51 := by kernel_rfl
  i53 := by kernel_rfl
  i171 := by kernel_rfl
  i173 := by kernel_rfl
  i212 := by kernel_rfl
  i232 := by kernel_rfl
  i233 := by kernel_rfl
  m17 := by kernel_rfl
  m18 := by kernel_rfl
  m19 := by kernel_rfl }
end Go.Proofs
namespace Go.Rs
open Go.Proofs Go.RowKit Go.Sort
set_option maxRecDepth 100000
set_option linter.unusedVariables false
set_option linter.unusedSimpArgs false
-- 50
theorem leafQ {K : AV → List AV → Prop} {v : AV} {a b : Bs} (hK : K v [.rb a]) (h : a = b) : K v [.rb b] := h ▸ hK
theorem dec_eq (n : Nat) : Lib.decDigits n = decM n := by
  induction n using Nat.strongRecOn with
  | _ n ih =>
    rw [Lib.decDigits]
    by_cases h : n < 10
    · rw [dif_pos h, decM_lt h]
    · rw [dif_neg h, decM_ge h, ih _ (by omega)]
theorem itoa_eq (n : Int) : Lib.itoa n = numM n := by
  unfold Lib.itoa numM
  by_cases h : n < 0
  · rw [if_pos h, if_pos h, dec_eq, show n.natAbs = (-n).toNat by omega]
  · rw [if_neg h, if_neg h, dec_eq]
theorem numM_len20 {z : Int} (h1 : -9223372036854775808 ≤ z) (h2 : z ≤ 9223372036854775807) : (numM z).length ≤ 21 := by
  have e : (10 : Nat) ^ 20 = 100000000000000000000 := rfl
  unfold numM
  split
  · have := decM_len_le 19 (-z).toNat (by omega)
    simp; omega
  · have := decM_len_le 19 z.toNat (by omega)
    omega
theorem tab_is {w : World} (ht : Tabs w) {nm : String} (hg : Tryd.prog.globalNamed nm = some 1) : Lib.TabIs Tryd.prog w nm .u64 Lib.pow10Tab := by
  obtain ⟨T, fz, h⟩ := ht.tab 1 rfl
  unfold Lib.TabIs World.var?
  rw [hg]
  simp only [Option.bind_some, h]
  rfl
theorem itoa_call (n : Int) (h0 : -9223372036854775808 ≤ n) (h1 : n ≤ 9223372036854775807) (w : World) (ht : Tabs w) :
    Calls Tryd.prog 79 #[.int .i64 n] w fun e w' => e = .returned (.string ⟨(numM n).toArray⟩) ∧ ∃ k os, w' = grow (w.drewN k) os := by
  rw [← itoa_eq]
  exact Any.strconv_Itoa Tryd.laysM171 n h0 h1 w (tab_is ht (by kernel_rfl))
noncomputable def v79z (n : Int) : AV := .str (numM n)
noncomputable def o79z (n : Int) : Prop := -9223372036854775808 ≤ n ∧ n ≤ 9223372036854775807
noncomputable def F79z : List AV → QR
  | [.int .i64 n] => some (some (o79z n), v79z n)
  | _ => none
theorem s79z : CtrOK Tryd.prog 79 (.pure F79z) ∧ Callable Tryd.prog 79 := by
  refine ⟨⟨fun args o v h => ?_, fun args K hK w γ S xs hi hn hf ht hs => ?_⟩, callable Tryd.func79 rfl (by rfl)⟩
  · unfold F79z at h; split at h <;> cases h; trivial
  · unfold pureC F79z at hK
    split at hK
    case h_2 => exact hK.elim
    rename_i O v hq
    split at hq
    case h_2 => cases hq
    rename_i n
    cases hq
    obtain ⟨h0, h1⟩ := hK.1 _ rfl
    cases hi with
    | cons h2 h3 =>
      cases h3
      obtain ⟨rfl, rfl⟩ := ia_int h2
      refine Calls.mono (itoa_call n h0 h1 w ht) ?_
      rintro e w' ⟨rfl, k, os, rfl⟩
      have hl := numM_len20 h0 h1
      refine ⟨_, [], _, γ, [], [], hK.2, rfl, .one (.cell (.per (.str _ (by unfold MX; omega)) rfl)), .nil, by simp, ⟨rfl, rfl, rfl, ?_, fun b hb _ => ⟨?_, rfl⟩, fun b hb => hf b ?_⟩, by simp⟩
      · simp [grow, World.drewN]
      · simp only [grow, World.drewN]
        rw [Array.getElem?_append_left hb]
      · simp only [grow, World.drewN, Array.size_append] at hb
        omega
noncomputable def v84z (n : Int) : AV := .str (numM n)
noncomputable def o84z (n : Int) : Prop := -1000000000000 ≤ n ∧ n ≤ 1000000000000
noncomputable def F84z : List AV → QR
  | [.int .i64 n] => some (some (o84z n), v84z n)
  | _ => none
noncomputable def E84z : Ctx := mkE tab [(84, .pure F84)]
noncomputable def O84z : Nat → List DI := ordL [(7, [.q 0, .q 1, .q 2, .q 3, .q 4, .q 5, .q 6, .l 7 [2], .q 8, .q 9, .q 10])]
theorem a84z (n : Int) (hb : BdAs [.int .i64 n]) (ho : o84z n) (K : AV → List AV → Prop) (hK : K (v84z n) []) : abody E84z O84z .ps Tryd.f84 (Tryd.f84.body.getD .skip) [.int .i64 n] K := by
  simp only [BdAs, BdA, BdL, BdC, MX, ndC, shC, itC, stC, opC, chC, nwC, flC, rqC, rsC, enc, List.cons_append, List.nil_append, and_true, true_and] at hb
  unfold o84z at ho
  unfold v84z at hK
  have h1 := fun h => decM_lt (n := n.toNat) h
  have h2 := fun h => decM_ge (n := n.toNat) h
  have h3 := decM_len (n / 10).toNat
  have h4 := decM_len (-n).toNat
  conv => whnf
  repeat' first
    | (refine Cnd.mk (fun h => ?_) (fun h => ?_) <;> (try simp [etas, elDef, -List.getD_eq_getElem?_getD] at h) <;> conv => whnf)
    | (refine Obl.mk (by first | omega | rfl | exact inK_byte _ | (simp only [inK, Int.toNat_natCast, etas, elDef, o84, m84] <;> first | omega | grind) | grind [inK, o84, m84]) ?_ <;> conv => whnf)
    | (refine OblG.mk (by conv => whnf
                          repeat (first | (refine Bx.mk ?_) | (intro h; (try simp [etas, elDef, -List.getD_eq_getElem?_getD] at h); conv => whnf))
                          first | omega | rfl | exact inK_byte _ | (simp only [inK, Int.toNat_natCast, etas, elDef, o84, m84] <;> first | omega | grind) | grind [inK, o84, m84]) ?_ <;> conv => whnf)
    | (refine Gd.mk (fun h => ?_) <;> (try simp [etas, elDef, -List.getD_eq_getElem?_getD] at h) <;> conv => whnf)
    | (refine And.intro ?_ ?_ <;> conv => whnf)
    | exact True.intro
    | (intro; conv => whnf)
  · exfalso; omega
  · rename_i h5
    exact leafS hK (by unfold numM; rw [if_pos h, if_neg (by omega)]; rfl)
  · exact leafS hK (by unfold numM; rw [if_neg (by omega), h1 (by omega)]; simp only [List.map_cons, List.map_nil]; rw [show (48 + n).toNat = 48 + n.toNat by omega])
  · exact leafS hK (by unfold numM; rw [if_neg (by omega), h2 (by omega)]; simp only [List.map_cons, List.map_nil]; rw [show (48 + n % 10).toNat = 48 + n.toNat % 10 by omega, show (n / 10).toNat = n.toNat / 10 by omega])
theorem s84z : (CtrOK Tryd.prog 84 (.pure F84z) ∧ Callable Tryd.prog 84) := by
  refine pure_ok (E := E84z) (mkE_cons s84 (mkE_nil tab_ok)) mix (O := O84z) (F := F84z) Tryd.func84 rfl (by rfl) (by kernel_rfl) (fun args o v h => ?_) (fun args o v h => ?_) (fun args o v h hbd hp K hK => ?_)
  · unfold F84z at h; split at h <;> cases h; first | trivial | (simp [v84z, Scalar, Scalar2, Scalar1, stC, ndC, itC, chC, nwC])
  · unfold F84z at h; split at h <;> cases h; exact Nat.le_of_ble_eq_true rfl
  · unfold F84z at h; split at h
    case h_2 => cases h
    cases h
    exact a84z _ (by exact hbd) (hp _ rfl) K hK
noncomputable def c80 (a : Bs) (s : Bs) (K : AV → List AV → Prop) : Prop :=
    Obl (a.length + 2 * s.length + 2 ≤ 1000000000) (K (.tup []) [.rb (a ++ quoteM s)])
noncomputable def C80 : List AV → (AV → List AV → Prop) → Prop
  | [.rb a, .str s], K => c80 a s K
  | _, _ => False
noncomputable def E80 : Ctx := mkE tab [(81, .gen .ps C81)]
noncomputable def O80 : Nat → List DI := ordL []
theorem a80 (a : Bs) (s : Bs) (hb : BdAs [.rb a, .str s]) (K : AV → List AV → Prop) (h : c80 a s K) : abody E80 O80 .ps Tryd.f80 (Tryd.f80.body.getD .skip) [.rb a, .str s] K := by
  simp only [BdAs, BdA, BdL, BdC, MX, ndC, shC, itC, stC, opC, chC, nwC, flC, rqC, rsC, enc, List.cons_append, List.nil_append, and_true, true_and] at hb
  unfold c80 at h
  obtain ⟨ho, hK⟩ := h
  conv => whnf
  repeat' first
    | (refine Cnd.mk (fun h => ?_) (fun h => ?_) <;> (try simp [etas, elDef, -List.getD_eq_getElem?_getD] at h) <;> conv => whnf)
    | (refine Obl.mk (by first | omega | rfl | exact inK_byte _ | (simp only [inK, Int.toNat_natCast, etas, elDef] <;> first | omega | grind) | grind [inK]) ?_ <;> conv => whnf)
    | (refine OblG.mk (by conv => whnf
                          repeat (first | (refine Bx.mk ?_) | (intro h; (try simp [etas, elDef, -List.getD_eq_getElem?_getD] at h); conv => whnf))
                          first | omega | rfl | exact inK_byte _ | (simp only [inK, Int.toNat_natCast, etas, elDef] <;> first | omega | grind) | grind [inK]) ?_ <;> conv => whnf)
    | (refine Gd.mk (fun h => ?_) <;> (try simp [etas, elDef, -List.getD_eq_getElem?_getD] at h) <;> conv => whnf)
    | (refine And.intro ?_ ?_ <;> conv => whnf)
    | exact True.intro
    | (intro; conv => whnf)
  refine aloop_intro Nat (fun k => k ≤ s.length ∧ True) (fun k => s.length - k) (fun k => [(4, .int .i64 k)]) (fun k => [(1000000, .bld (a ++ 34 :: escsM (s.take k)))]) [] 0 [] [] ?_ ?_ (by exact sgOk_of (by rfl)) ?_
  · first | (simp; done) | (simp; assumption)
  · (conv => whnf); (repeat' (first | exact trivial | rfl | (refine nilEq ?_; first | rfl | (simp only [*]; done) | (simp [*]; done) | grind) | apply And.intro | ((first | refine intEq ?_ | refine boolEq ?_ | refine strEq ?_ | refine psEq ?_ | refine nilEq ?_ | refine arrEq ?_); (try simp only [Int.toNat_natCast, etas, elDef]); first | done | omega | grind | (simp only [*]; done) | (simp [*]; done)))); (all_goals (conv => whnf)); (repeat' (first | exact trivial | rfl | (refine nilEq ?_; first | rfl | (simp only [*]; done) | (simp [*]; done) | grind) | apply And.intro | ((first | refine intEq ?_ | refine boolEq ?_ | refine strEq ?_ | refine psEq ?_ | refine nilEq ?_ | refine arrEq ?_); (try simp only [Int.toNat_natCast, etas, elDef]); first | done | omega | grind | (simp only [*]; done) | (simp [*]; done)) | ((try simp only [Int.toNat_natCast, etas, elDef]); first | done | omega | grind | (simp only [*]; done) | (simp [*]; done))))
  rintro i ⟨hi, hj⟩
  conv => whnf
  have hl := escs_take_len s i
  have hs := fun (h : i < s.length) => escs_take h
  have h8 := fun (c : UInt8) => (show c.toNat < 256 from c.toNat_lt)
  repeat' first
    | (refine Cnd.mk (fun h => ?_) (fun h => ?_) <;> (try simp [etas, elDef, -List.getD_eq_getElem?_getD] at h) <;> conv => whnf)
    | (refine Obl.mk (by first | omega | rfl | exact inK_byte _ | (simp only [inK, Int.toNat_natCast, etas, elDef] <;> first | omega | grind) | grind [inK]) ?_ <;> conv => whnf)
    | (refine OblG.mk (by conv => whnf
                          repeat (first | (refine Bx.mk ?_) | (intro h; (try simp [etas, elDef, -List.getD_eq_getElem?_getD] at h); conv => whnf))
                          first | omega | rfl | exact inK_byte _ | (simp only [inK, Int.toNat_natCast, etas, elDef] <;> first | omega | grind) | grind [inK]) ?_ <;> conv => whnf)
    | (refine Gd.mk (fun h => ?_) <;> (try simp [etas, elDef, -List.getD_eq_getElem?_getD] at h) <;> conv => whnf)
    | (refine And.intro ?_ ?_ <;> conv => whnf)
    | exact True.intro
    | (intro; conv => whnf)
  · rename_i h5
    have e2 : escsM (s.take (i + 1)) = escsM (s.take i) ++ [92, s.getD i 0] := by rw [hs h5, esc_yes h]
    exact ⟨i + 1, [], [], ⟨by omega, by grind⟩, by omega, by (conv => whnf); (repeat' (first | exact trivial | rfl | (refine nilEq ?_; first | rfl | (simp only [*]; done) | (simp [*]; done) | grind) | apply And.intro | ((first | refine intEq ?_ | refine boolEq ?_ | refine strEq ?_ | refine psEq ?_ | refine nilEq ?_ | refine arrEq ?_); (try simp only [Int.toNat_natCast, etas, elDef]); first | done | omega | simp [e2]))); (all_goals (conv => whnf)); (repeat' (first | exact trivial | rfl | (refine nilEq ?_; first | rfl | (simp only [*]; done) | (simp [*]; done) | grind) | apply And.intro | ((first | refine intEq ?_ | refine boolEq ?_ | refine strEq ?_ | refine psEq ?_ | refine nilEq ?_ | refine arrEq ?_); (try simp only [Int.toNat_natCast, etas, elDef]); first | done | omega | simp [e2]) | ((try simp only [Int.toNat_natCast, etas, elDef]); first | done | omega | simp [e2]))), (by exact sgOk_of (by rfl))⟩
  · rename_i h5
    have e2 : escsM (s.take (i + 1)) = escsM (s.take i) ++ [s.getD i 0] := by rw [hs h5, esc_no h]
    exact ⟨i + 1, [], [], ⟨by omega, by grind⟩, by omega, by (conv => whnf); (repeat' (first | exact trivial | rfl | (refine nilEq ?_; first | rfl | (simp only [*]; done) | (simp [*]; done) | grind) | apply And.intro | ((first | refine intEq ?_ | refine boolEq ?_ | refine strEq ?_ | refine psEq ?_ | refine nilEq ?_ | refine arrEq ?_); (try simp only [Int.toNat_natCast, etas, elDef]); first | done | omega | simp [e2]))); (all_goals (conv => whnf)); (repeat' (first | exact trivial | rfl | (refine nilEq ?_; first | rfl | (simp only [*]; done) | (simp [*]; done) | grind) | apply And.intro | ((first | refine intEq ?_ | refine boolEq ?_ | refine strEq ?_ | refine psEq ?_ | refine nilEq ?_ | refine arrEq ?_); (try simp only [Int.toNat_natCast, etas, elDef]); first | done | omega | simp [e2]) | ((try simp only [Int.toNat_natCast, etas, elDef]); first | done | omega | simp [e2]))), (by exact sgOk_of (by rfl))⟩
  · rw [List.take_of_length_le h] at *
    exact leafQ hK (by simp [quoteM])
theorem s80 : (CtrOK Tryd.prog 80 (.gen .ps C80) ∧ Callable Tryd.prog 80) := by
  refine gen_ok (E := E80) (mkE_cons s81 (mkE_nil tab_ok)) mix (O := O80) (C := C80) (own := .ps) Tryd.func80 rfl (by rfl) (by kernel_rfl) (fun args K h hbd => ?_)
  unfold C80 at h; split at h
  case h_2 => exact h.elim
  exact ⟨Nat.le_of_ble_eq_true rfl, a80 _ _ (by exact hbd) _ h⟩
noncomputable def c50 (a : Bs) (n : Nd) (K : AV → List AV → Prop) : Prop :=
    Obl (okN n ∧ a.length + 64 * countM n ≤ 900000000) (K (.tup []) [.rb (a ++ fmtM n)])
noncomputable def m50 (a : Bs) (n : Nd) : Nat := SizeOf.sizeOf n
noncomputable def C50 : List AV → (AV → List AV → Prop) → Prop
  | [.rb a, .st [.int .i64 n_0, .int .i64 n_1, .str n_2, .ps .str n_3, .ps .node n_4]], K => c50 a ⟨n_0, n_1, n_2, n_3, n_4⟩ K
  | _, _ => False
noncomputable def Ck50 (k : Nat) : List AV → (AV → List AV → Prop) → Prop
  | [.rb a, .st [.int .i64 n_0, .int .i64 n_1, .str n_2, .ps .str n_3, .ps .node n_4]], K => Obl (m50 a ⟨n_0, n_1, n_2, n_3, n_4⟩ < k) (c50 a ⟨n_0, n_1, n_2, n_3, n_4⟩ K)
  | _, _ => False
noncomputable def E50 (k : Nat) : Ctx := mkE tab [(50, .gen .ps (Ck50 k)), (78, .gen .ps C78), (79, .pure F79z), (80, .gen .ps C80), (81, .gen .ps C81)]
noncomputable def O50 : Nat → List DI := ordL []
theorem a50 (k : Nat) (a : Bs) (n : Nd) (hm : m50 a n < k + 1) (hb : BdAs [.rb a, .st (ndC n)]) (K : AV → List AV → Prop) (h : c50 a n K) : abody (E50 k) O50 .ps Tryd.f50 (Tryd.f50.body.getD .skip) [.rb a, .st (ndC n)] K := by
  simp only [BdAs, BdA, BdL, BdC, MX, ndC, shC, itC, stC, opC, chC, nwC, flC, rqC, rsC, enc, List.cons_append, List.nil_append, and_true, true_and] at hb
  unfold c50 at h
  unfold m50 at hm
  obtain ⟨⟨hn, ho⟩, hK⟩ := h
  have hkid : ∀ j, j < n.kids.length → SizeOf.sizeOf (n.kids.getD j default) < k := fun j hj => by have := kid_size hj; omega
  have h6 := okN_kids hn
  have h7 := okN_num hn
  have ht := okN_text hn
  have hnm := (okN_names hn).2.1
  have hq := fun j (hj : j < n.names.length) => okN_name_len hn hj
  have hk0 := okN_kind hn
  have hf := okN_fmt hn
  have hfn := numM_len h7.1 h7.2
  conv => whnf
  repeat' first
    | (refine Cnd.mk (fun h => ?_) (fun h => ?_) <;> (try simp [etas, elDef, -List.getD_eq_getElem?_getD] at h) <;> conv => whnf)
    | (refine Obl.mk (by first | omega | rfl | exact inK_byte _ | (simp only [inK, Int.toNat_natCast, etas, elDef, m50, m50, o79z] <;> first | omega | grind) | grind [inK, m50, m50, o79z]) ?_ <;> conv => whnf)
    | (refine OblG.mk (by conv => whnf
                          repeat (first | (refine Bx.mk ?_) | (intro h; (try simp [etas, elDef, -List.getD_eq_getElem?_getD] at h); conv => whnf))
                          first | omega | rfl | exact inK_byte _ | (simp only [inK, Int.toNat_natCast, etas, elDef, m50, m50, o79z] <;> first | omega | grind) | grind [inK, m50, m50, o79z]) ?_ <;> conv => whnf)
    | (refine Gd.mk (fun h => ?_) <;> (try simp [etas, elDef, -List.getD_eq_getElem?_getD] at h) <;> conv => whnf)
    | (refine And.intro ?_ ?_ <;> conv => whnf)
    | exact True.intro
    | (intro; conv => whnf)
  · exact leafQ hK (by rw [fmt_none h])
  · exact leafQ hK (by rw [fmt_num h])
  · exact leafQ hK (by rw [fmt_text h])
  · have hk := h
    refine aloop_intro Nat (fun k => k ≤ n.kids.length ∧ True) (fun k => n.kids.length - k) (fun k => [(34, .int .i64 k)]) (fun k => [(1000000, .bld (a ++ 91 :: joinM n k))]) [3] 0 [] [] ?_ ?_ (by exact sgOk_of (by rfl)) ?_
    · first | (simp; done) | (simp; assumption)
    · (conv => whnf); (repeat' (first | exact trivial | rfl | (refine nilEq ?_; first | rfl | (simp only [*]; done) | (simp [*]; done) | grind) | apply And.intro | ((first | refine intEq ?_ | refine boolEq ?_ | refine strEq ?_ | refine psEq ?_ | refine nilEq ?_ | refine arrEq ?_); (try simp only [Int.toNat_natCast, etas, elDef]); first | done | omega | grind | (simp only [*]; done) | (simp [*]; done)))); (all_goals (conv => whnf)); (repeat' (first | exact trivial | rfl | (refine nilEq ?_; first | rfl | (simp only [*]; done) | (simp [*]; done) | grind) | apply And.intro | ((first | refine intEq ?_ | refine boolEq ?_ | refine strEq ?_ | refine psEq ?_ | refine nilEq ?_ | refine arrEq ?_); (try simp only [Int.toNat_natCast, etas, elDef]); first | done | omega | grind | (simp only [*]; done) | (simp [*]; done)) | ((try simp only [Int.toNat_natCast, etas, elDef]); first | done | omega | grind | (simp only [*]; done) | (simp [*]; done))))
    rintro i ⟨hi, hj⟩
    conv => whnf
    have e1 := fun h => joinM_succ (n := n) (i := i) h
    have e2 := fun h => join_room hn (i := i) h
    have e3 := join_end hn (i := i) hi
    have e4 := fun h => okN_kid hn (j := i) h
    repeat' first
      | (refine Cnd.mk (fun h => ?_) (fun h => ?_) <;> (try simp [etas, elDef, -List.getD_eq_getElem?_getD] at h) <;> conv => whnf)
      | (refine Obl.mk (by first | omega | rfl | exact inK_byte _ | (simp only [inK, Int.toNat_natCast, etas, elDef, m50, m50, o79z] <;> first | omega | grind) | grind [inK, m50, m50, o79z]) ?_ <;> conv => whnf)
      | (refine OblG.mk (by conv => whnf
                            repeat (first | (refine Bx.mk ?_) | (intro h; (try simp [etas, elDef, -List.getD_eq_getElem?_getD] at h); conv => whnf))
                            first | omega | rfl | exact inK_byte _ | (simp only [inK, Int.toNat_natCast, etas, elDef, m50, m50, o79z] <;> first | omega | grind) | grind [inK, m50, m50, o79z]) ?_ <;> conv => whnf)
      | (refine Gd.mk (fun h => ?_) <;> (try simp [etas, elDef, -List.getD_eq_getElem?_getD] at h) <;> conv => whnf)
      | (refine And.intro ?_ ?_ <;> conv => whnf)
      | exact True.intro
      | (intro; conv => whnf)
    · rename_i h5
      have e5 : joinM n (i + 1) = joinM n i ++ [44] ++ fmtM (n.kids.getD i default) := by
        rw [e1 h5]; unfold leadM; rw [if_pos h, hk]; simp
      exact ⟨i + 1, [], [], ⟨by omega, by grind⟩, by omega, by (conv => whnf); (repeat' (first | exact trivial | rfl | (refine nilEq ?_; first | rfl | (simp only [*]; done) | (simp [*]; done) | grind) | apply And.intro | ((first | refine intEq ?_ | refine boolEq ?_ | refine strEq ?_ | refine psEq ?_ | refine nilEq ?_ | refine arrEq ?_); (try simp only [Int.toNat_natCast, etas, elDef]); first | done | omega | simp [e5]))); (all_goals (conv => whnf)); (repeat' (first | exact trivial | rfl | (refine nilEq ?_; first | rfl | (simp only [*]; done) | (simp [*]; done) | grind) | apply And.intro | ((first | refine intEq ?_ | refine boolEq ?_ | refine strEq ?_ | refine psEq ?_ | refine nilEq ?_ | refine arrEq ?_); (try simp only [Int.toNat_natCast, etas, elDef]); first | done | omega | simp [e5]) | ((try simp only [Int.toNat_natCast, etas, elDef]); first | done | omega | simp [e5]))), (by exact sgOk_of (by rfl))⟩
    · rename_i h5
      have e5 : joinM n (i + 1) = joinM n i ++ fmtM (n.kids.getD i default) := by
        rw [e1 h5]; unfold leadM; rw [if_neg (by omega), hk]; simp
      exact ⟨i + 1, [], [], ⟨by omega, by grind⟩, by omega, by (conv => whnf); (repeat' (first | exact trivial | rfl | (refine nilEq ?_; first | rfl | (simp only [*]; done) | (simp [*]; done) | grind) | apply And.intro | ((first | refine intEq ?_ | refine boolEq ?_ | refine strEq ?_ | refine psEq ?_ | refine nilEq ?_ | refine arrEq ?_); (try simp only [Int.toNat_natCast, etas, elDef]); first | done | omega | simp [e5]))); (all_goals (conv => whnf)); (repeat' (first | exact trivial | rfl | (refine nilEq ?_; first | rfl | (simp only [*]; done) | (simp [*]; done) | grind) | apply And.intro | ((first | refine intEq ?_ | refine boolEq ?_ | refine strEq ?_ | refine psEq ?_ | refine nilEq ?_ | refine arrEq ?_); (try simp only [Int.toNat_natCast, etas, elDef]); first | done | omega | simp [e5]) | ((try simp only [Int.toNat_natCast, etas, elDef]); first | done | omega | simp [e5]))), (by exact sgOk_of (by rfl))⟩
    · have e5 : i = n.kids.length := by omega
      subst e5
      exact leafQ hK (by rw [fmt_list hk]; simp)
  · have hk := h
    have hnl := hnm hk
    refine aloop_intro Nat (fun k => k ≤ n.kids.length ∧ True) (fun k => n.kids.length - k) (fun k => [(56, .int .i64 k)]) (fun k => [(1000000, .bld (a ++ 123 :: joinM n k))]) [3] 0 [] [] ?_ ?_ (by exact sgOk_of (by rfl)) ?_
    · first | (simp; done) | (simp; assumption)
    · (conv => whnf); (repeat' (first | exact trivial | rfl | (refine nilEq ?_; first | rfl | (simp only [*]; done) | (simp [*]; done) | grind) | apply And.intro | ((first | refine intEq ?_ | refine boolEq ?_ | refine strEq ?_ | refine psEq ?_ | refine nilEq ?_ | refine arrEq ?_); (try simp only [Int.toNat_natCast, etas, elDef]); first | done | omega | grind | (simp only [*]; done) | (simp [*]; done)))); (all_goals (conv => whnf)); (repeat' (first | exact trivial | rfl | (refine nilEq ?_; first | rfl | (simp only [*]; done) | (simp [*]; done) | grind) | apply And.intro | ((first | refine intEq ?_ | refine boolEq ?_ | refine strEq ?_ | refine psEq ?_ | refine nilEq ?_ | refine arrEq ?_); (try simp only [Int.toNat_natCast, etas, elDef]); first | done | omega | grind | (simp only [*]; done) | (simp [*]; done)) | ((try simp only [Int.toNat_natCast, etas, elDef]); first | done | omega | grind | (simp only [*]; done) | (simp [*]; done))))
    rintro i ⟨hi, hj⟩
    conv => whnf
    have e1 := fun h => joinM_succ (n := n) (i := i) h
    have e2 := fun h => join_room hn (i := i) h
    have e3 := join_end hn (i := i) hi
    have e4 := fun h => okN_kid hn (j := i) h
    have e6 := hq i
    have e7 := quote_len (n.names.getD i [])
    repeat' first
      | (refine Cnd.mk (fun h => ?_) (fun h => ?_) <;> (try simp [etas, elDef, -List.getD_eq_getElem?_getD] at h) <;> conv => whnf)
      | (refine Obl.mk (by first | omega | rfl | exact inK_byte _ | (simp only [inK, Int.toNat_natCast, etas, elDef, m50, m50, o79z] <;> first | omega | grind) | grind [inK, m50, m50, o79z]) ?_ <;> conv => whnf)
      | (refine OblG.mk (by conv => whnf
                            repeat (first | (refine Bx.mk ?_) | (intro h; (try simp [etas, elDef, -List.getD_eq_getElem?_getD] at h); conv => whnf))
                            first | omega | rfl | exact inK_byte _ | (simp only [inK, Int.toNat_natCast, etas, elDef, m50, m50, o79z] <;> first | omega | grind) | grind [inK, m50, m50, o79z]) ?_ <;> conv => whnf)
      | (refine Gd.mk (fun h => ?_) <;> (try simp [etas, elDef, -List.getD_eq_getElem?_getD] at h) <;> conv => whnf)
      | (refine And.intro ?_ ?_ <;> conv => whnf)
      | exact True.intro
      | (intro; conv => whnf)
    · rename_i h5
      have e5 : joinM n (i + 1) = joinM n i ++ [44] ++ quoteM (n.names.getD i []) ++ [58] ++ fmtM (n.kids.getD i default) := by
        rw [e1 h5]; unfold leadM; rw [if_pos h, hk]; simp
      exact ⟨i + 1, [], [], ⟨by omega, by grind⟩, by omega, by (conv => whnf); (repeat' (first | exact trivial | rfl | (refine nilEq ?_; first | rfl | (simp only [*]; done) | (simp [*]; done) | grind) | apply And.intro | ((first | refine intEq ?_ | refine boolEq ?_ | refine strEq ?_ | refine psEq ?_ | refine nilEq ?_ | refine arrEq ?_); (try simp only [Int.toNat_natCast, etas, elDef]); first | done | omega | simp [e5]))); (all_goals (conv => whnf)); (repeat' (first | exact trivial | rfl | (refine nilEq ?_; first | rfl | (simp only [*]; done) | (simp [*]; done) | grind) | apply And.intro | ((first | refine intEq ?_ | refine boolEq ?_ | refine strEq ?_ | refine psEq ?_ | refine nilEq ?_ | refine arrEq ?_); (try simp only [Int.toNat_natCast, etas, elDef]); first | done | omega | simp [e5]) | ((try simp only [Int.toNat_natCast, etas, elDef]); first | done | omega | simp [e5]))), (by exact sgOk_of (by rfl))⟩
    · rename_i h5
      have e5 : joinM n (i + 1) = joinM n i ++ quoteM (n.names.getD i []) ++ [58] ++ fmtM (n.kids.getD i default) := by
        rw [e1 h5]; unfold leadM; rw [if_neg (by omega), hk]; simp
      exact ⟨i + 1, [], [], ⟨by omega, by grind⟩, by omega, by (conv => whnf); (repeat' (first | exact trivial | rfl | (refine nilEq ?_; first | rfl | (simp only [*]; done) | (simp [*]; done) | grind) | apply And.intro | ((first | refine intEq ?_ | refine boolEq ?_ | refine strEq ?_ | refine psEq ?_ | refine nilEq ?_ | refine arrEq ?_); (try simp only [Int.toNat_natCast, etas, elDef]); first | done | omega | simp [e5]))); (all_goals (conv => whnf)); (repeat' (first | exact trivial | rfl | (refine nilEq ?_; first | rfl | (simp only [*]; done) | (simp [*]; done) | grind) | apply And.intro | ((first | refine intEq ?_ | refine boolEq ?_ | refine strEq ?_ | refine psEq ?_ | refine nilEq ?_ | refine arrEq ?_); (try simp only [Int.toNat_natCast, etas, elDef]); first | done | omega | simp [e5]) | ((try simp only [Int.toNat_natCast, etas, elDef]); first | done | omega | simp [e5]))), (by exact sgOk_of (by rfl))⟩
    · have e5 : i = n.kids.length := by omega
      subst e5
      exact leafQ hK (by rw [fmt_map hk]; simp)
  · exfalso; omega
theorem r50 : ∀ k, (CtrOK Tryd.prog 50 (.gen .ps (Ck50 k)) ∧ Callable Tryd.prog 50) := by
  intro k
  induction k with
  | zero =>
    exact ⟨fun args K h => by
        unfold Ck50 at h; split at h
        · exact absurd h.o (Nat.not_lt_zero _)
        · exact h.elim, callable Tryd.func50 rfl (by rfl)⟩
  | succ k ih =>
    refine gen_ok (E := E50 k) (mkE_cons ih (mkE_cons s78 (mkE_cons s79z (mkE_cons s80 (mkE_cons s81 (mkE_nil tab_ok)))))) mix (O := O50) (C := (Ck50 (k + 1))) (own := .ps) Tryd.func50 rfl (by rfl) (by kernel_rfl) (fun args K h hbd => ?_)
    unfold Ck50 at h; split at h
    case h_2 => exact h.elim
    exact ⟨Nat.le_of_ble_eq_true rfl, a50 k _ ⟨_, _, _, _, _⟩ h.o (by exact hbd) _ h.k⟩
theorem s50 : (CtrOK Tryd.prog 50 (.gen .ps C50) ∧ Callable Tryd.prog 50) := by
  refine ⟨fun args K h => ?_, (r50 0).2⟩
  unfold C50 at h; split at h
  · exact (r50 (m50 _ ⟨_, _, _, _, _⟩ + 1)).1 _ K ⟨Nat.lt_succ_self _, h⟩
  · exact h.elim
noncomputable def v21 (n : Nd) : AV := .str (textM n)
noncomputable def o21 (n : Nd) : Prop := True
noncomputable def F21 : List AV → QR
  | [.st [.int .i64 n_0, .int .i64 n_1, .str n_2, .ps .str n_3, .ps .node n_4]] => some (none, v21 ⟨n_0, n_1, n_2, n_3, n_4⟩)
  | _ => none
noncomputable def E21 : Ctx := mkE tab [(34, .pure F34), (50, .gen .ps C50), (51, .gen .ps C51)]
noncomputable def O21 : Nat → List DI := ordL []
theorem a21 (n : Nd) (hb : BdAs [.st (ndC n)]) (ho : o21 n) (K : AV → List AV → Prop) (hK : K (v21 n) []) : abody E21 O21 .ps Tryd.f21 (Tryd.f21.body.getD .skip) [.st (ndC n)] K := by
  simp only [BdAs, BdA, BdL, BdC, MX, ndC, shC, itC, stC, opC, chC, nwC, flC, rqC, rsC, enc, List.cons_append, List.nil_append, and_true, true_and] at hb
  unfold v21 at hK
  have h1 := fun h => validM_ok (n := n) h
  have h2 := fun h => (validM_iff (n := n).1 h).2
  conv => whnf
  repeat' first
    | (refine Cnd.mk (fun h => ?_) (fun h => ?_) <;> (try simp [etas, elDef, -List.getD_eq_getElem?_getD] at h) <;> conv => whnf)
    | (refine Obl.mk (by first | omega | rfl | exact inK_byte _ | (simp only [inK, Int.toNat_natCast, etas, elDef, m50] <;> first | omega | grind) | grind [inK, m50]) ?_ <;> conv => whnf)
    | (refine OblG.mk (by conv => whnf
                          repeat (first | (refine Bx.mk ?_) | (intro h; (try simp [etas, elDef, -List.getD_eq_getElem?_getD] at h); conv => whnf))
                          first | omega | rfl | exact inK_byte _ | (simp only [inK, Int.toNat_natCast, etas, elDef, m50] <;> first | omega | grind) | grind [inK, m50]) ?_ <;> conv => whnf)
    | (refine Gd.mk (fun h => ?_) <;> (try simp [etas, elDef, -List.getD_eq_getElem?_getD] at h) <;> conv => whnf)
    | (refine And.intro ?_ ?_ <;> conv => whnf)
    | exact True.intro
    | (intro; conv => whnf)
  · exact leafS hK (by unfold textM; rw [if_neg (by simp [h])])
  · exact leafS hK (by unfold textM; rw [if_pos h]; simp [nd_eta])
theorem s21 : (CtrOK Tryd.prog 21 (.pure F21) ∧ Callable Tryd.prog 21) := by
  refine pure_ok (E := E21) (mkE_cons s34 (mkE_cons s50 (mkE_cons s51 (mkE_nil tab_ok)))) mix (O := O21) (F := F21) Tryd.func21 rfl (by rfl) (by kernel_rfl) (fun args o v h => ?_) (fun args o v h => ?_) (fun args o v h hbd hp K hK => ?_)
  · unfold F21 at h; split at h <;> cases h; first | trivial | (simp [v21, Scalar, Scalar2, Scalar1, stC, ndC, itC, chC, nwC])
  · unfold F21 at h; split at h <;> cases h; exact Nat.le_of_ble_eq_true rfl
  · unfold F21 at h; split at h
    case h_2 => cases h
    cases h
    exact a21 ⟨_, _, _, _, _⟩ (by exact hbd) trivial K hK
noncomputable def v12 (n : Nd) : AV := .int .i64 (sizeTM n)
noncomputable def o12 (n : Nd) : Prop := True
noncomputable def F12 : List AV → QR
  | [.st [.int .i64 n_0, .int .i64 n_1, .str n_2, .ps .str n_3, .ps .node n_4]] => some (none, v12 ⟨n_0, n_1, n_2, n_3, n_4⟩)
  | _ => none
noncomputable def E12 : Ctx := mkE tab [(21, .pure F21), (34, .pure F34)]
noncomputable def O12 : Nat → List DI := ordL []
theorem a12 (n : Nd) (hb : BdAs [.st (ndC n)]) (ho : o12 n) (K : AV → List AV → Prop) (hK : K (v12 n) []) : abody E12 O12 .ps Tryd.f12 (Tryd.f12.body.getD .skip) [.st (ndC n)] K := by
  simp only [BdAs, BdA, BdL, BdC, MX, ndC, shC, itC, stC, opC, chC, nwC, flC, rqC, rsC, enc, List.cons_append, List.nil_append, and_true, true_and] at hb
  unfold v12 at hK
  conv => whnf
  repeat' first
    | (refine Cnd.mk (fun h => ?_) (fun h => ?_) <;> (try simp [etas, elDef, -List.getD_eq_getElem?_getD] at h) <;> conv => whnf)
    | (refine Obl.mk (by first | omega | rfl | exact inK_byte _ | (simp only [inK, Int.toNat_natCast, etas, elDef] <;> first | omega | grind) | grind [inK]) ?_ <;> conv => whnf)
    | (refine OblG.mk (by conv => whnf
                          repeat (first | (refine Bx.mk ?_) | (intro h; (try simp [etas, elDef, -List.getD_eq_getElem?_getD] at h); conv => whnf))
                          first | omega | rfl | exact inK_byte _ | (simp only [inK, Int.toNat_natCast, etas, elDef] <;> first | omega | grind) | grind [inK]) ?_ <;> conv => whnf)
    | (refine Gd.mk (fun h => ?_) <;> (try simp [etas, elDef, -List.getD_eq_getElem?_getD] at h) <;> conv => whnf)
    | (refine And.intro ?_ ?_ <;> conv => whnf)
    | exact True.intro
    | (intro; conv => whnf)
  · exact leafI hK (by unfold sizeTM; rw [if_neg (by simp [h])])
  · exact leafI hK (by simp only [nd_eta]; unfold sizeTM textM; rw [if_pos h, if_pos h])
theorem s12 : (CtrOK Tryd.prog 12 (.pure F12) ∧ Callable Tryd.prog 12) := by
  refine pure_ok (E := E12) (mkE_cons s21 (mkE_cons s34 (mkE_nil tab_ok))) mix (O := O12) (F := F12) Tryd.func12 rfl (by rfl) (by kernel_rfl) (fun args o v h => ?_) (fun args o v h => ?_) (fun args o v h hbd hp K hK => ?_)
  · unfold F12 at h; split at h <;> cases h; first | trivial | (simp [v12, Scalar, Scalar2, Scalar1, stC, ndC, itC, chC, nwC])
  · unfold F12 at h; split at h <;> cases h; exact Nat.le_of_ble_eq_true rfl
  · unfold F12 at h; split at h
    case h_2 => cases h
    cases h
    exact a12 ⟨_, _, _, _, _⟩ (by exact hbd) trivial K hK
noncomputable def v85 (s : Bs) : AV := .str (quoteM s)
noncomputable def o85 (s : Bs) : Prop := s.length ≤ 1000000
noncomputable def F85 : List AV → QR
  | [.str s] => some (some (o85 s), v85 s)
  | _ => none
noncomputable def E85 : Ctx := mkE tab []
noncomputable def O85 : Nat → List DI := ordL []
theorem a85 (s : Bs) (hb : BdAs [.str s]) (ho : o85 s) (K : AV → List AV → Prop) (hK : K (v85 s) []) : abody E85 O85 .ps Tryd.f85 (Tryd.f85.body.getD .skip) [.str s] K := by
  simp only [BdAs, BdA, BdL, BdC, MX, ndC, shC, itC, stC, opC, chC, nwC, flC, rqC, rsC, enc, List.cons_append, List.nil_append, and_true, true_and] at hb
  unfold o85 at ho
  unfold v85 at hK
  conv => whnf
  repeat' first
    | (refine Cnd.mk (fun h => ?_) (fun h => ?_) <;> (try simp [etas, elDef, -List.getD_eq_getElem?_getD] at h) <;> conv => whnf)
    | (refine Obl.mk (by first | omega | rfl | exact inK_byte _ | (simp only [inK, Int.toNat_natCast, etas, elDef] <;> first | omega | grind) | grind [inK]) ?_ <;> conv => whnf)
    | (refine OblG.mk (by conv => whnf
                          repeat (first | (refine Bx.mk ?_) | (intro h; (try simp [etas, elDef, -List.getD_eq_getElem?_getD] at h); conv => whnf))
                          first | omega | rfl | exact inK_byte _ | (simp only [inK, Int.toNat_natCast, etas, elDef] <;> first | omega | grind) | grind [inK]) ?_ <;> conv => whnf)
    | (refine Gd.mk (fun h => ?_) <;> (try simp [etas, elDef, -List.getD_eq_getElem?_getD] at h) <;> conv => whnf)
    | (refine And.intro ?_ ?_ <;> conv => whnf)
    | exact True.intro
    | (intro; conv => whnf)
  refine aloop_intro Nat (fun k => k ≤ s.length ∧ True) (fun k => s.length - k) (fun k => [(4, .int .i64 k), (3, .str (34 :: escsM (s.take k)))]) (fun k => []) [] 0 [] [] ?_ ?_ (by exact sgOk_of (by rfl)) ?_
  · first | (simp; done) | (simp; assumption)
  · (conv => whnf); (repeat' (first | exact trivial | rfl | (refine nilEq ?_; first | rfl | (simp only [*]; done) | (simp [*]; done) | grind) | apply And.intro | ((first | refine intEq ?_ | refine boolEq ?_ | refine strEq ?_ | refine psEq ?_ | refine nilEq ?_ | refine arrEq ?_); (try simp only [Int.toNat_natCast, etas, elDef]); first | done | omega | grind | (simp only [*]; done) | (simp [*]; done)))); (all_goals (conv => whnf)); (repeat' (first | exact trivial | rfl | (refine nilEq ?_; first | rfl | (simp only [*]; done) | (simp [*]; done) | grind) | apply And.intro | ((first | refine intEq ?_ | refine boolEq ?_ | refine strEq ?_ | refine psEq ?_ | refine nilEq ?_ | refine arrEq ?_); (try simp only [Int.toNat_natCast, etas, elDef]); first | done | omega | grind | (simp only [*]; done) | (simp [*]; done)) | ((try simp only [Int.toNat_natCast, etas, elDef]); first | done | omega | grind | (simp only [*]; done) | (simp [*]; done))))
  rintro i ⟨hi, hj⟩
  conv => whnf
  have hl := escs_take_len s i
  have hs := fun (h : i < s.length) => escs_take h
  have h9 := fun (h : i < s.length) => char_slice h
  repeat' first
    | (refine Cnd.mk (fun h => ?_) (fun h => ?_) <;> (try simp [etas, elDef, -List.getD_eq_getElem?_getD] at h) <;> conv => whnf)
    | (refine Obl.mk (by first | omega | rfl | exact inK_byte _ | (simp only [inK, Int.toNat_natCast, etas, elDef] <;> first | omega | grind) | grind [inK]) ?_ <;> conv => whnf)
    | (refine OblG.mk (by conv => whnf
                          repeat (first | (refine Bx.mk ?_) | (intro h; (try simp [etas, elDef, -List.getD_eq_getElem?_getD] at h); conv => whnf))
                          first | omega | rfl | exact inK_byte _ | (simp only [inK, Int.toNat_natCast, etas, elDef] <;> first | omega | grind) | grind [inK]) ?_ <;> conv => whnf)
    | (refine Gd.mk (fun h => ?_) <;> (try simp [etas, elDef, -List.getD_eq_getElem?_getD] at h) <;> conv => whnf)
    | (refine And.intro ?_ ?_ <;> conv => whnf)
    | exact True.intro
    | (intro; conv => whnf)
  · rename_i h5
    have e2 : escsM (s.take (i + 1)) = escsM (s.take i) ++ [92, s.getD i 0] := by rw [hs h5, esc_yes h]
    exact ⟨i + 1, [], [], ⟨by omega, by grind⟩, by omega, by (conv => whnf); (repeat' (first | exact trivial | rfl | (refine nilEq ?_; first | rfl | (simp only [*]; done) | (simp [*]; done) | grind) | apply And.intro | ((first | refine intEq ?_ | refine boolEq ?_ | refine strEq ?_ | refine psEq ?_ | refine nilEq ?_ | refine arrEq ?_); (try simp only [Int.toNat_natCast, etas, elDef]); first | done | omega | simp [e2, h9 h5]))); (all_goals (conv => whnf)); (repeat' (first | exact trivial | rfl | (refine nilEq ?_; first | rfl | (simp only [*]; done) | (simp [*]; done) | grind) | apply And.intro | ((first | refine intEq ?_ | refine boolEq ?_ | refine strEq ?_ | refine psEq ?_ | refine nilEq ?_ | refine arrEq ?_); (try simp only [Int.toNat_natCast, etas, elDef]); first | done | omega | simp [e2, h9 h5]) | ((try simp only [Int.toNat_natCast, etas, elDef]); first | done | omega | simp [e2, h9 h5]))), (by exact sgOk_of (by rfl))⟩
  · rename_i h5
    have e2 : escsM (s.take (i + 1)) = escsM (s.take i) ++ [s.getD i 0] := by rw [hs h5, esc_no h]
    exact ⟨i + 1, [], [], ⟨by omega, by grind⟩, by omega, by (conv => whnf); (repeat' (first | exact trivial | rfl | (refine nilEq ?_; first | rfl | (simp only [*]; done) | (simp [*]; done) | grind) | apply And.intro | ((first | refine intEq ?_ | refine boolEq ?_ | refine strEq ?_ | refine psEq ?_ | refine nilEq ?_ | refine arrEq ?_); (try simp only [Int.toNat_natCast, etas, elDef]); first | done | omega | simp [e2, h9 h5]))); (all_goals (conv => whnf)); (repeat' (first | exact trivial | rfl | (refine nilEq ?_; first | rfl | (simp only [*]; done) | (simp [*]; done) | grind) | apply And.intro | ((first | refine intEq ?_ | refine boolEq ?_ | refine strEq ?_ | refine psEq ?_ | refine nilEq ?_ | refine arrEq ?_); (try simp only [Int.toNat_natCast, etas, elDef]); first | done | omega | simp [e2, h9 h5]) | ((try simp only [Int.toNat_natCast, etas, elDef]); first | done | omega | simp [e2, h9 h5]))), (by exact sgOk_of (by rfl))⟩
  · exact leafS hK (by rw [List.take_of_length_le h]; simp [quoteM])
theorem s85 : (CtrOK Tryd.prog 85 (.pure F85) ∧ Callable Tryd.prog 85) := by
  refine pure_ok (E := E85) (mkE_nil tab_ok) mix (O := O85) (F := F85) Tryd.func85 rfl (by rfl) (by kernel_rfl) (fun args o v h => ?_) (fun args o v h => ?_) (fun args o v h hbd hp K hK => ?_)
  · unfold F85 at h; split at h <;> cases h; first | trivial | (simp [v85, Scalar, Scalar2, Scalar1, stC, ndC, itC, chC, nwC])
  · unfold F85 at h; split at h <;> cases h; exact Nat.le_of_ble_eq_true rfl
  · unfold F85 at h; split at h
    case h_2 => cases h
    cases h
    exact a85 _ (by exact hbd) (hp _ rfl) K hK
noncomputable def v63 (n : Nd) : AV := .str (fmtM n)
noncomputable def o63 (n : Nd) : Prop := okN n
noncomputable def m63 (n : Nd) : Nat := SizeOf.sizeOf n
noncomputable def F63 : List AV → QR
  | [.st [.int .i64 n_0, .int .i64 n_1, .str n_2, .ps .str n_3, .ps .node n_4]] => some (some (o63 ⟨n_0, n_1, n_2, n_3, n_4⟩), v63 ⟨n_0, n_1, n_2, n_3, n_4⟩)
  | _ => none
noncomputable def Fk63 (k : Nat) : List AV → QR
  | [.st [.int .i64 n_0, .int .i64 n_1, .str n_2, .ps .str n_3, .ps .node n_4]] => some (some (m63 ⟨n_0, n_1, n_2, n_3, n_4⟩ < k ∧ o63 ⟨n_0, n_1, n_2, n_3, n_4⟩), v63 ⟨n_0, n_1, n_2, n_3, n_4⟩)
  | _ => none
noncomputable def E63 (k : Nat) : Ctx := mkE tab [(63, .pure (Fk63 k)), (84, .pure F84z), (85, .pure F85)]
noncomputable def O63 : Nat → List DI := ordL []
theorem a63 (k : Nat) (n : Nd) (hm : m63 n < k + 1) (hb : BdAs [.st (ndC n)]) (ho : o63 n) (K : AV → List AV → Prop) (hK : K (v63 n) []) : abody (E63 k) O63 .ps Tryd.f63 (Tryd.f63.body.getD .skip) [.st (ndC n)] K := by
  simp only [BdAs, BdA, BdL, BdC, MX, ndC, shC, itC, stC, opC, chC, nwC, flC, rqC, rsC, enc, List.cons_append, List.nil_append, and_true, true_and] at hb
  unfold o63 at ho
  unfold v63 at hK
  unfold m63 at hm
  have hkid : ∀ j, j < n.kids.length → SizeOf.sizeOf (n.kids.getD j default) < k := fun j hj => by have := kid_size hj; omega
  have h6 := okN_kids ho
  have h7 := okN_num ho
  have ht := okN_text ho
  have hnm := (okN_names ho).2.1
  have hq := fun j (hj : j < n.names.length) => okN_name_len ho hj
  have hk0 := okN_kind ho
  have hf := okN_fmt ho
  have hc := okN_count ho
  conv => whnf
  repeat' first
    | (refine Cnd.mk (fun h => ?_) (fun h => ?_) <;> (try simp [etas, elDef, -List.getD_eq_getElem?_getD] at h) <;> conv => whnf)
    | (refine Obl.mk (by first | omega | rfl | exact inK_byte _ | (simp only [inK, Int.toNat_natCast, etas, elDef, m63, o63, m63, o84z, o85] <;> first | omega | grind) | grind [inK, m63, o63, m63, o84z, o85]) ?_ <;> conv => whnf)
    | (refine OblG.mk (by conv => whnf
                          repeat (first | (refine Bx.mk ?_) | (intro h; (try simp [etas, elDef, -List.getD_eq_getElem?_getD] at h); conv => whnf))
                          first | omega | rfl | exact inK_byte _ | (simp only [inK, Int.toNat_natCast, etas, elDef, m63, o63, m63, o84z, o85] <;> first | omega | grind) | grind [inK, m63, o63, m63, o84z, o85]) ?_ <;> conv => whnf)
    | (refine Gd.mk (fun h => ?_) <;> (try simp [etas, elDef, -List.getD_eq_getElem?_getD] at h) <;> conv => whnf)
    | (refine And.intro ?_ ?_ <;> conv => whnf)
    | exact True.intro
    | (intro; conv => whnf)
  · exact leafS hK (fmt_num h)
  · exact leafS hK (fmt_text h)
  · exact leafS hK (fmt_none h)
  · refine aloop_intro Nat (fun k => k ≤ n.kids.length ∧ True) (fun k => n.kids.length - k) (fun k => [(4, .int .i64 k), (3, .str (joinM n k))]) (fun k => []) [1] 0 [] [] ?_ ?_ (by exact sgOk_of (by rfl)) ?_
    · first | (simp; done) | (simp; assumption)
    · (conv => whnf); (repeat' (first | exact trivial | rfl | (refine nilEq ?_; first | rfl | (simp only [*]; done) | (simp [*]; done) | grind) | apply And.intro | ((first | refine intEq ?_ | refine boolEq ?_ | refine strEq ?_ | refine psEq ?_ | refine nilEq ?_ | refine arrEq ?_); (try simp only [Int.toNat_natCast, etas, elDef]); first | done | omega | grind | (simp only [*]; done) | (simp [*]; done)))); (all_goals (conv => whnf)); (repeat' (first | exact trivial | rfl | (refine nilEq ?_; first | rfl | (simp only [*]; done) | (simp [*]; done) | grind) | apply And.intro | ((first | refine intEq ?_ | refine boolEq ?_ | refine strEq ?_ | refine psEq ?_ | refine nilEq ?_ | refine arrEq ?_); (try simp only [Int.toNat_natCast, etas, elDef]); first | done | omega | grind | (simp only [*]; done) | (simp [*]; done)) | ((try simp only [Int.toNat_natCast, etas, elDef]); first | done | omega | grind | (simp only [*]; done) | (simp [*]; done))))
    rintro i ⟨hi, hj⟩
    conv => whnf
    have e1 := fun h => joinM_succ (n := n) (i := i) h
    have e2 := fun h => join_room ho (i := i) h
    have e3 := join_end ho (i := i) hi
    have e4 := fun h => okN_kid ho (j := i) h
    have e6 := hq i
    have e7 := quote_len (n.names.getD i [])
    have e8 := fun h => okN_fmt (okN_kid ho (j := i) h)
    repeat' first
      | (refine Cnd.mk (fun h => ?_) (fun h => ?_) <;> (try simp [etas, elDef, -List.getD_eq_getElem?_getD] at h) <;> conv => whnf)
      | (refine Obl.mk (by first | omega | rfl | exact inK_byte _ | (simp only [inK, Int.toNat_natCast, etas, elDef, m63, o63, m63, o84z, o85] <;> first | omega | grind) | grind [inK, m63, o63, m63, o84z, o85]) ?_ <;> conv => whnf)
      | (refine OblG.mk (by conv => whnf
                            repeat (first | (refine Bx.mk ?_) | (intro h; (try simp [etas, elDef, -List.getD_eq_getElem?_getD] at h); conv => whnf))
                            first | omega | rfl | exact inK_byte _ | (simp only [inK, Int.toNat_natCast, etas, elDef, m63, o63, m63, o84z, o85] <;> first | omega | grind) | grind [inK, m63, o63, m63, o84z, o85]) ?_ <;> conv => whnf)
      | (refine Gd.mk (fun h => ?_) <;> (try simp [etas, elDef, -List.getD_eq_getElem?_getD] at h) <;> conv => whnf)
      | (refine And.intro ?_ ?_ <;> conv => whnf)
      | exact True.intro
      | (intro; conv => whnf)
    · rename_i h5 h50
      have e5 : joinM n (i + 1) = joinM n i ++ [44] ++ quoteM (n.names.getD i []) ++ [58] ++ fmtM (n.kids.getD i default) := by
        rw [e1 h5]; unfold leadM; rw [if_pos h50, if_pos h]; simp
      exact ⟨i + 1, [], [], ⟨by omega, by grind⟩, by omega, by (conv => whnf); (repeat' (first | exact trivial | rfl | (refine nilEq ?_; first | rfl | (simp only [*]; done) | (simp [*]; done) | grind) | apply And.intro | ((first | refine intEq ?_ | refine boolEq ?_ | refine strEq ?_ | refine psEq ?_ | refine nilEq ?_ | refine arrEq ?_); (try simp only [Int.toNat_natCast, etas, elDef]); first | done | omega | simp [e5]))); (all_goals (conv => whnf)); (repeat' (first | exact trivial | rfl | (refine nilEq ?_; first | rfl | (simp only [*]; done) | (simp [*]; done) | grind) | apply And.intro | ((first | refine intEq ?_ | refine boolEq ?_ | refine strEq ?_ | refine psEq ?_ | refine nilEq ?_ | refine arrEq ?_); (try simp only [Int.toNat_natCast, etas, elDef]); first | done | omega | simp [e5]) | ((try simp only [Int.toNat_natCast, etas, elDef]); first | done | omega | simp [e5]))), (by exact sgOk_of (by rfl))⟩
    · rename_i h5 h50
      have e5 : joinM n (i + 1) = joinM n i ++ [44] ++ fmtM (n.kids.getD i default) := by
        rw [e1 h5]; unfold leadM; rw [if_pos h50, if_neg h]; simp
      exact ⟨i + 1, [], [], ⟨by omega, by grind⟩, by omega, by (conv => whnf); (repeat' (first | exact trivial | rfl | (refine nilEq ?_; first | rfl | (simp only [*]; done) | (simp [*]; done) | grind) | apply And.intro | ((first | refine intEq ?_ | refine boolEq ?_ | refine strEq ?_ | refine psEq ?_ | refine nilEq ?_ | refine arrEq ?_); (try simp only [Int.toNat_natCast, etas, elDef]); first | done | omega | simp [e5]))); (all_goals (conv => whnf)); (repeat' (first | exact trivial | rfl | (refine nilEq ?_; first | rfl | (simp only [*]; done) | (simp [*]; done) | grind) | apply And.intro | ((first | refine intEq ?_ | refine boolEq ?_ | refine strEq ?_ | refine psEq ?_ | refine nilEq ?_ | refine arrEq ?_); (try simp only [Int.toNat_natCast, etas, elDef]); first | done | omega | simp [e5]) | ((try simp only [Int.toNat_natCast, etas, elDef]); first | done | omega | simp [e5]))), (by exact sgOk_of (by rfl))⟩
    · rename_i h5 h50
      have e5 : joinM n (i + 1) = joinM n i ++ quoteM (n.names.getD i []) ++ [58] ++ fmtM (n.kids.getD i default) := by
        rw [e1 h5]; unfold leadM; rw [if_neg (by omega), if_pos h]; simp
      exact ⟨i + 1, [], [], ⟨by omega, by grind⟩, by omega, by (conv => whnf); (repeat' (first | exact trivial | rfl | (refine nilEq ?_; first | rfl | (simp only [*]; done) | (simp [*]; done) | grind) | apply And.intro | ((first | refine intEq ?_ | refine boolEq ?_ | refine strEq ?_ | refine psEq ?_ | refine nilEq ?_ | refine arrEq ?_); (try simp only [Int.toNat_natCast, etas, elDef]); first | done | omega | simp [e5]))); (all_goals (conv => whnf)); (repeat' (first | exact trivial | rfl | (refine nilEq ?_; first | rfl | (simp only [*]; done) | (simp [*]; done) | grind) | apply And.intro | ((first | refine intEq ?_ | refine boolEq ?_ | refine strEq ?_ | refine psEq ?_ | refine nilEq ?_ | refine arrEq ?_); (try simp only [Int.toNat_natCast, etas, elDef]); first | done | omega | simp [e5]) | ((try simp only [Int.toNat_natCast, etas, elDef]); first | done | omega | simp [e5]))), (by exact sgOk_of (by rfl))⟩
    · rename_i h5 h50
      have e5 : joinM n (i + 1) = joinM n i ++ fmtM (n.kids.getD i default) := by
        rw [e1 h5]; unfold leadM; rw [if_neg (by omega), if_neg h]; simp
      exact ⟨i + 1, [], [], ⟨by omega, by grind⟩, by omega, by (conv => whnf); (repeat' (first | exact trivial | rfl | (refine nilEq ?_; first | rfl | (simp only [*]; done) | (simp [*]; done) | grind) | apply And.intro | ((first | refine intEq ?_ | refine boolEq ?_ | refine strEq ?_ | refine psEq ?_ | refine nilEq ?_ | refine arrEq ?_); (try simp only [Int.toNat_natCast, etas, elDef]); first | done | omega | simp [e5]))); (all_goals (conv => whnf)); (repeat' (first | exact trivial | rfl | (refine nilEq ?_; first | rfl | (simp only [*]; done) | (simp [*]; done) | grind) | apply And.intro | ((first | refine intEq ?_ | refine boolEq ?_ | refine strEq ?_ | refine psEq ?_ | refine nilEq ?_ | refine arrEq ?_); (try simp only [Int.toNat_natCast, etas, elDef]); first | done | omega | simp [e5]) | ((try simp only [Int.toNat_natCast, etas, elDef]); first | done | omega | simp [e5]))), (by exact sgOk_of (by rfl))⟩
    · have hk := h
      have e5 : i = n.kids.length := by omega
      subst e5
      exact leafS hK (by rw [fmt_map hk]; simp)
    · have hk : n.kind = 3 := by omega
      have e5 : i = n.kids.length := by omega
      subst e5
      exact leafS hK (by rw [fmt_list hk]; simp)
theorem r63 : ∀ k, (CtrOK Tryd.prog 63 (.pure (Fk63 k)) ∧ Callable Tryd.prog 63) := by
  intro k
  induction k with
  | zero =>
    exact ⟨⟨fun args o v h => by unfold Fk63 at h; split at h <;> cases h; first | trivial | (simp [v63, Scalar, Scalar2, Scalar1, stC, ndC, itC, chC, nwC]), fun args K h => by
        unfold pureC Fk63 at h; split at h
        · rename_i h1; split at h1 <;> cases h1; exact absurd (h.1 _ rfl).1 (Nat.not_lt_zero _)
        · exact h.elim⟩, callable Tryd.func63 rfl (by rfl)⟩
  | succ k ih =>
    refine pure_ok (E := E63 k) (mkE_cons ih (mkE_cons s84z (mkE_cons s85 (mkE_nil tab_ok)))) mix (O := O63) (F := (Fk63 (k + 1))) Tryd.func63 rfl (by rfl) (by kernel_rfl) (fun args o v h => ?_) (fun args o v h => ?_) (fun args o v h hbd hp K hK => ?_)
    · unfold Fk63 at h; split at h <;> cases h; first | trivial | (simp [v63, Scalar, Scalar2, Scalar1, stC, ndC, itC, chC, nwC])
    · unfold Fk63 at h; split at h <;> cases h; exact Nat.le_of_ble_eq_true rfl
    · unfold Fk63 at h; split at h
      case h_2 => cases h
      cases h
      exact a63 k ⟨_, _, _, _, _⟩ (hp _ rfl).1 (by exact hbd) (hp _ rfl).2 K hK
theorem s63 : (CtrOK Tryd.prog 63 (.pure F63) ∧ Callable Tryd.prog 63) := by
  refine ⟨⟨fun args o v h => ?_, fun args K h => ?_⟩, (r63 0).2⟩
  · unfold F63 at h; split at h <;> cases h; first | trivial | (simp [v63, Scalar, Scalar2, Scalar1, stC, ndC, itC, chC, nwC])
  · unfold pureC F63 at h; split at h
    · rename_i h1; split at h1 <;> cases h1
      exact (r63 (m63 ⟨_, _, _, _, _⟩ + 1)).1.2 _ K ⟨fun p hp => by cases hp; exact ⟨Nat.lt_succ_self _, (h.1 _ rfl)⟩, h.2⟩
    · exact h.elim
end Go.Rs

