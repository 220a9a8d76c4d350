import Derived.Test.YtmgheiagnleeiaaDoorCY
import Derived.Test.YtmgheiagnleeiaaDoorCK
import Derived.Test.YtmgheiagnleeiaaDoorCP
import Derived.Test.YtmgheiagnleeiaaDoorMF
import Derived.Shelf.LaysM
import Derived.Shelf.Strconv.Itoa3
set_option linter.all false
set_option linter.unusedSimpArgs false
set_option linter.unusedVariables false
namespace Go.Proofs
open Go.Shelf
def Tryd.laysM171_ren : Go.Shelf.Ren := ⟨fun | 171 => 68 | 243 => 79 | 246 => 85 | 283 => 87 | 284 => 88 | 285 => 89 | 286 => 90 | 129 => 92 | 317 => 91 | 318 => 93 | 319 => 94 | 320 => 95 | 337 => 96 | 338 => 97 | n => n, fun | 3 => 3 | 9 => 9 | 2 => 2 | 4 => 4 | 171 => 104 | 0 => 0 | 53 => 105 | 37 => 77 | 5 => 5 | 173 => 108 | 212 => 112 | 51 => 113 | 20 => 20 | 213 => 114 | 46 => 116 | 232 => 119 | 233 => 120 | n => n, fun | 17 => 1 | 18 => 2 | 19 => 3 | n => n⟩
theorem Tryd.laysM171 : Go.Proofs.LaysM.n171 Tryd.prog Tryd.laysM171_ren := {
  mixed := by kernel_rfl
  f129 := Tryd.func92.trans (congrArg some (by kernel_rfl))
  f171 := Tryd.func68.trans (congrArg some (by kernel_rfl))
  f243 := Tryd.func79.trans (congrArg some (by kernel_rfl))
  f246 := Tryd.func85.trans (congrArg some (by kernel_rfl))
  f283 := Tryd.func87.trans (congrArg some (by kernel_rfl))
  f284 := Tryd.func88.trans (congrArg some (by kernel_rfl))
  f285 := Tryd.func89.trans (congrArg some (by kernel_rfl))
  f286 := Tryd.func90.trans (congrArg some (by kernel_rfl))
  f317 := Tryd.func91.trans (congrArg some (by kernel_rfl))
  f318 := Tryd.func93.trans (congrArg some (by kernel_rfl))
  f319 := Tryd.func94.trans (congrArg some (by kernel_rfl))
  f320 := Tryd.func95.trans (congrArg some (by kernel_rfl))
  f337 := Tryd.func96.trans (congrArg some (by kernel_rfl))
  f338 := Tryd.func97.trans (congrArg some (by kernel_rfl))
  t0 := Tryd.underlying0
  a0 := Tryd.isAgg0
  z0 := Tryd.sizeOf0
  v0 := Tryd.zeroValue0
  t2 := Tryd.underlying2
  a2 := Tryd.isAgg2
  z2 := Tryd.sizeOf2
  v2 := Tryd.zeroValue2
  t3 := Tryd.underlying3
  a3 := Tryd.isAgg3
  z3 := Tryd.sizeOf3
  v3 := Tryd.zeroValue3
  t4 := Tryd.underlying4
  a4 := Tryd.isAgg4
  z4 := Tryd.sizeOf4
  v4 := Tryd.zeroValue4
  t5 := Tryd.underlying5
  a5 := Tryd.isAgg5
  z5 := Tryd.sizeOf5
  v5 := Tryd.zeroValue5
  t9 := Tryd.underlying9
  a9 := Tryd.isAgg9
  z9 := Tryd.sizeOf9
  v9 := Tryd.zeroValue9
  t20 := Tryd.underlying20
  a20 := Tryd.isAgg20
  z20 := Tryd.sizeOf20
  v20 := Tryd.zeroValue20
  t37 := Tryd.underlying77
  a37 := Tryd.isAgg77
  z37 := Tryd.sizeOf77
  v37 := Tryd.zeroValue77
  t46 := Tryd.underlying116
  a46 := Tryd.isAgg116
  z46 := Tryd.sizeOf116
  v46 := Tryd.zeroValue116
  t51 := Tryd.underlying113
  a51 := Tryd.isAgg113
  z51 := Tryd.sizeOf113
  v51 := Tryd.zeroValue113
  t53 := Tryd.underlying105
  a53 := Tryd.isAgg105
  z53 := Tryd.sizeOf105
  v53 := Tryd.zeroValue105
  t171 := Tryd.underlying104
  a171 := Tryd.isAgg104
  z171 := Tryd.sizeOf104
  v171 := Tryd.zeroValue104
  t173 := Tryd.underlying108
  a173 := Tryd.isAgg108
  z173 := Tryd.sizeOf108
  v173 := Tryd.zeroValue108
  t212 := Tryd.underlying112
  a212 := Tryd.isAgg112
  z212 := Tryd.sizeOf112
  v212 := Tryd.zeroValue112
  t213 := Tryd.underlying114
  a213 := Tryd.isAgg114
  z213 := Tryd.sizeOf114
  t232 := Tryd.underlying119
  a232 := Tryd.isAgg119
  z232 := Tryd.sizeOf119
  v232 := Tryd.zeroValue119
  t233 := Tryd.underlying120
  a233 := Tryd.isAgg120
  z233 := Tryd.sizeOf120
  v233 := Tryd.zeroValue120
  g17 := by kernel_rfl
  g18 := by kernel_rfl
  g19 := by kernel_rfl
  i0 := by kernel_rfl
  i2 := by kernel_rfl
  i3 := by kernel_rfl
  i4 := by kernel_rfl
  i5 := by kernel_rfl
  i9 := by kernel_rfl
  i20 := by kernel_rfl
  i37 := by kernel_rfl
  i46 := by kernel_rfl
  i51 := by kernel_rfl
  i53 := by kernel_rfl
  i171 := by kernel_rfl
  i173 := by kernel_rfl
  i212 := by kernel_rfl
  i232 := by kernel_rfl
  i233 := by kernel_rfl
  m17 := by kernel_rfl
  m18 := by kernel_rfl
  m19 := by kernel_rfl }
end Go.Proofs
namespace Go.Rs
open Go.Proofs Go.RowKit Go.Sort
set_option maxRecDepth 100000
-- 49
theorem leafQ {K : AV → List AV → Prop} {v : AV} {a b : Bs} (hK : K v [.rb a]) (h : a = b) : K v [.rb b] := h ▸ hK
theorem dec_eq (n : Nat) : Lib.decDigits n = decM n := by
  induction n using Nat.strongRecOn with
  | _ n ih =>
    rw [Lib.decDigits]
    by_cases h : n < 10
    · rw [dif_pos h, decM_lt h]
    · rw [dif_neg h, decM_ge h, ih _ (by omega)]
theorem itoa_eq (n : Int) : Lib.itoa n = numM n := by
  unfold Lib.itoa numM
  by_cases h : n < 0
  · rw [if_pos h, if_pos h, dec_eq, show n.natAbs = (-n).toNat by omega]
  · rw [if_neg h, if_neg h, dec_eq]
theorem numM_len20 {z : Int} (h1 : -9223372036854775808 ≤ z) (h2 : z ≤ 9223372036854775807) : (numM z).length ≤ 21 := by
  have e : (10 : Nat) ^ 20 = 100000000000000000000 := rfl
  unfold numM
  split
  · have := decM_len_le 19 (-z).toNat (by omega)
    simp; omega
  · have := decM_len_le 19 z.toNat (by omega)
    omega
theorem tab_is {w : World} (ht : Tabs w) {nm : String} (hg : Tryd.prog.globalNamed nm = some 1) : Lib.TabIs Tryd.prog w nm .u64 Lib.pow10Tab := by
  obtain ⟨T, fz, h⟩ := ht.tab 1 rfl
  unfold Lib.TabIs World.var?
  rw [hg]
  simp only [Option.bind_some, h]
  rfl
theorem itoa_call (n : Int) (h0 : -9223372036854775808 ≤ n) (h1 : n ≤ 9223372036854775807) (w : World) (ht : Tabs w) :
    Calls Tryd.prog 68 #[.int .i64 n] w fun e w' => e = .returned (.string ⟨(numM n).toArray⟩) ∧ ∃ k os, w' = grow (w.drewN k) os := by
  rw [← itoa_eq]
  exact Any.strconv_Itoa Tryd.laysM171 n h0 h1 w (tab_is ht (by kernel_rfl))
noncomputable def v68z (n : Int) : AV := .str (numM n)
noncomputable def o68z (n : Int) : Prop := -9223372036854775808 ≤ n ∧ n ≤ 9223372036854775807
noncomputable def F68z : List AV → QR
  | [.int .i64 n] => some (some (o68z n), v68z n)
  | _ => none
theorem s68z : CtrOK Tryd.prog 68 (.pure F68z) ∧ Callable Tryd.prog 68 := by
  refine ⟨⟨fun args o v h => ?_, fun args K hK w γ S xs hi hn hf ht hs => ?_⟩, callable Tryd.func68 rfl (by rfl)⟩
  · unfold F68z at h; split at h <;> cases h; trivial
  · unfold pureC F68z at hK
    split at hK
    case h_2 => exact hK.elim
    rename_i O v hq
    split at hq
    case h_2 => cases hq
    rename_i n
    cases hq
    obtain ⟨h0, h1⟩ := hK.1 _ rfl
    cases hi with
    | cons h2 h3 =>
      cases h3
      obtain ⟨rfl, rfl⟩ := ia_int h2
      refine Calls.mono (itoa_call n h0 h1 w ht) ?_
      rintro e w' ⟨rfl, k, os, rfl⟩
      have hl := numM_len20 h0 h1
      refine ⟨_, [], _, γ, [], [], hK.2, rfl, .one (.cell (.per (.str _ (by unfold MX; omega)) rfl)), .nil, by simp, ⟨rfl, rfl, rfl, ?_, fun b hb _ => ⟨?_, rfl⟩, fun b hb => hf b ?_, by simp⟩, by simp⟩
      · simp [grow, World.drewN]
      · simp only [grow, World.drewN]
        rw [Array.getElem?_append_left hb]
      · simp only [grow, World.drewN, Array.size_append] at hb
        omega
noncomputable def v63z (n : Int) : AV := .str (numM n)
noncomputable def o63z (n : Int) : Prop := -1000000000000 ≤ n ∧ n ≤ 1000000000000
noncomputable def F63z : List AV → QR
  | [.int .i64 n] => some (some (o63z n), v63z n)
  | _ => none
noncomputable def E63z : Ctx := mkE tab [(63, .pure F63)]
noncomputable def O63z : Nat → List DI := ordL [(7, [.q 0, .q 1, .q 2, .q 3, .q 4, .q 5, .q 6, .l 7 [2], .q 8, .q 9, .q 10])]
theorem a63z (n : Int) (hb : BdAs [.int .i64 n]) (ho : o63z n) (K : AV → List AV → Prop) (hK : K (v63z n) []) : abody E63z O63z .ps Tryd.f63 (Tryd.f63.body.getD .skip) [.int .i64 n] K := by
  simp only [BdAs, BdA, BdL, BdC, MX, ndC, shC, itC, stC, opC, chC, nwC, flC, rqC, rsC, enc, List.cons_append, List.nil_append, and_true, true_and] at hb
  unfold o63z at ho
  unfold v63z at hK
  have h1 := fun h => decM_lt (n := n.toNat) h
  have h2 := fun h => decM_ge (n := n.toNat) h
  have h3 := decM_len (n / 10).toNat
  have h4 := decM_len (-n).toNat
  conv => whnf
  repeat' first|((first|refine Cnd.mk (fun h=>?_) (fun h=>?_)|refine Gd.mk (fun h=>?_))<;>(try simp [etas,elDef,-List.getD_eq_getElem?_getD] at h)<;>conv=>whnf)|((first|refine Obl.mk (by first|omega|rfl|exact inK_byte _|(simp only [inK,Int.toNat_natCast,etas,elDef,o63,m63]<;>first|omega|grind)|grind [inK,o63,m63]) ?_|refine OblG.mk (by ((conv=>whnf);(repeat (first|refine Bx.mk ?_|(intro h;(try simp [etas,elDef,-List.getD_eq_getElem?_getD] at h);conv=>whnf)));(first|omega|rfl|exact inK_byte _|(simp only [inK,Int.toNat_natCast,etas,elDef,o63,m63]<;>first|omega|grind)|grind [inK,o63,m63]))) ?_|refine And.intro ?_ ?_)<;>conv=>whnf)|exact True.intro|(intro;conv=>whnf)
  · exfalso; omega
  · rename_i h5
    exact leafS hK (by unfold numM; rw [if_pos h, if_neg (by omega)]; rfl)
  · exact leafS hK (by unfold numM; rw [if_neg (by omega), h1 (by omega)]; simp only [List.map_cons, List.map_nil]; rw [show (48 + n).toNat = 48 + n.toNat by omega])
  · exact leafS hK (by unfold numM; rw [if_neg (by omega), h2 (by omega)]; simp only [List.map_cons, List.map_nil]; rw [show (48 + n % 10).toNat = 48 + n.toNat % 10 by omega, show (n / 10).toNat = n.toNat / 10 by omega])
theorem s63z : (CtrOK Tryd.prog 63 (.pure F63z) ∧ Callable Tryd.prog 63) := by
  refine pure_ok (E := E63z) (mkE_cons s63 (mkE_nil tab_ok)) mix (O := O63z) (F := F63z) Tryd.func63 rfl (by rfl) (by kernel_rfl) (fun args o v h => ?_) (fun args o v h => ?_) (fun args o v h hbd hp K hK => ?_)
  · unfold F63z at h; split at h <;> cases h; first | trivial | (simp [v63z, Scalar, Scalar2, Scalar1, stC, ndC, itC, chC, nwC])
  · unfold F63z at h; split at h <;> cases h; exact Nat.le_of_ble_eq_true rfl
  · unfold F63z at h; split at h
    case h_2 => cases h
    cases h
    exact a63z _ (by exact hbd) (hp _ rfl) K hK
noncomputable def c55 (a : Bs) (s : Bs) (K : AV → List AV → Prop) : Prop :=
    Obl (a.length + 2 * s.length + 2 ≤ 1000000000) (K (.tup []) [.rb (a ++ quoteM s)])
noncomputable def C55 : List AV → (AV → List AV → Prop) → Prop
  | [.rb a, .str s], K => c55 a s K
  | _, _ => False
noncomputable def E55 : Ctx := mkE tab [(52, .gen .ps C52)]
noncomputable def O55 : Nat → List DI := ordL []
theorem a55 (a : Bs) (s : Bs) (hb : BdAs [.rb a, .str s]) (K : AV → List AV → Prop) (h : c55 a s K) : abody E55 O55 .ps Tryd.f55 (Tryd.f55.body.getD .skip) [.rb a, .str s] K := by
  simp only [BdAs, BdA, BdL, BdC, MX, ndC, shC, itC, stC, opC, chC, nwC, flC, rqC, rsC, enc, List.cons_append, List.nil_append, and_true, true_and] at hb
  unfold c55 at h
  obtain ⟨ho, hK⟩ := h
  conv => whnf
  repeat' first|((first|refine Cnd.mk (fun h=>?_) (fun h=>?_)|refine Gd.mk (fun h=>?_))<;>(try simp [etas,elDef,-List.getD_eq_getElem?_getD] at h)<;>conv=>whnf)|((first|refine Obl.mk (by first|omega|rfl|exact inK_byte _|(simp only [inK,Int.toNat_natCast,etas,elDef]<;>first|omega|grind)|grind [inK]) ?_|refine OblG.mk (by ((conv=>whnf);(repeat (first|refine Bx.mk ?_|(intro h;(try simp [etas,elDef,-List.getD_eq_getElem?_getD] at h);conv=>whnf)));(first|omega|rfl|exact inK_byte _|(simp only [inK,Int.toNat_natCast,etas,elDef]<;>first|omega|grind)|grind [inK]))) ?_|refine And.intro ?_ ?_)<;>conv=>whnf)|exact True.intro|(intro;conv=>whnf)
  refine aloop_intro Nat (fun k => k ≤ s.length ∧ True) (fun k => s.length - k) (fun k => [(4, .int .i64 k)]) (fun k => [(1000000, .bld (a ++ 34 :: escsM (s.take k)))]) [] 0 [] [] ?_ ?_ (by exact sgOk_of (by rfl)) ?_
  · first | (simp; done) | (simp; assumption)
  · iterate 2 ((all_goals (conv=>whnf));(repeat' (first|exact trivial|rfl|(refine nilEq ?_;first|rfl|(simp only [*];done)|(simp [*];done)|grind)|apply And.intro|((first|apply intEq|apply boolEq|apply strEq|apply psEq|apply nilEq|apply arrEq);(try simp only [Int.toNat_natCast,etas,elDef]);first | done | omega | grind | (simp only [*]; done) | (simp [*]; done)))));(all_goals ((try simp only [Int.toNat_natCast,etas,elDef]);first | done | omega | grind | (simp only [*]; done) | (simp [*]; done)))
  rintro i ⟨hi, hj⟩
  conv => whnf
  have hl := escs_take_len s i
  have hs := fun (h : i < s.length) => escs_take h
  have h8 := fun (c : UInt8) => (show c.toNat < 256 from c.toNat_lt)
  repeat' first|((first|refine Cnd.mk (fun h=>?_) (fun h=>?_)|refine Gd.mk (fun h=>?_))<;>(try simp [etas,elDef,-List.getD_eq_getElem?_getD] at h)<;>conv=>whnf)|((first|refine Obl.mk (by first|omega|rfl|exact inK_byte _|(simp only [inK,Int.toNat_natCast,etas,elDef]<;>first|omega|grind)|grind [inK]) ?_|refine OblG.mk (by ((conv=>whnf);(repeat (first|refine Bx.mk ?_|(intro h;(try simp [etas,elDef,-List.getD_eq_getElem?_getD] at h);conv=>whnf)));(first|omega|rfl|exact inK_byte _|(simp only [inK,Int.toNat_natCast,etas,elDef]<;>first|omega|grind)|grind [inK]))) ?_|refine And.intro ?_ ?_)<;>conv=>whnf)|exact True.intro|(intro;conv=>whnf)
  · rename_i h5
    have e2 : escsM (s.take (i + 1)) = escsM (s.take i) ++ [92, s.getD i 0] := by rw [hs h5, esc_yes h]
    exact ⟨i + 1, [], [], ⟨by omega, by grind⟩, by omega, by iterate 2 ((all_goals (conv=>whnf));(repeat' (first|exact trivial|rfl|(refine nilEq ?_;first|rfl|(simp only [*];done)|(simp [*];done)|grind)|apply And.intro|((first|apply intEq|apply boolEq|apply strEq|apply psEq|apply nilEq|apply arrEq);(try simp only [Int.toNat_natCast,etas,elDef]);first | done | omega | simp [e2]))));(all_goals ((try simp only [Int.toNat_natCast,etas,elDef]);first | done | omega | simp [e2])), (by exact sgOk_of (by rfl))⟩
  · rename_i h5
    have e2 : escsM (s.take (i + 1)) = escsM (s.take i) ++ [s.getD i 0] := by rw [hs h5, esc_no h]
    exact ⟨i + 1, [], [], ⟨by omega, by grind⟩, by omega, by iterate 2 ((all_goals (conv=>whnf));(repeat' (first|exact trivial|rfl|(refine nilEq ?_;first|rfl|(simp only [*];done)|(simp [*];done)|grind)|apply And.intro|((first|apply intEq|apply boolEq|apply strEq|apply psEq|apply nilEq|apply arrEq);(try simp only [Int.toNat_natCast,etas,elDef]);first | done | omega | simp [e2]))));(all_goals ((try simp only [Int.toNat_natCast,etas,elDef]);first | done | omega | simp [e2])), (by exact sgOk_of (by rfl))⟩
  · rw [List.take_of_length_le h] at *
    exact leafQ hK (by simp [quoteM])
theorem s55 : (CtrOK Tryd.prog 55 (.gen .ps C55) ∧ Callable Tryd.prog 55) := by
  refine gen_ok (E := E55) (mkE_cons s52 (mkE_nil tab_ok)) mix (O := O55) (C := C55) (own := .ps) Tryd.func55 rfl (by rfl) (by kernel_rfl) (fun args K h hbd => ?_)
  unfold C55 at h; split at h
  case h_2 => exact h.elim
  exact ⟨Nat.le_of_ble_eq_true rfl, a55 _ _ (by exact hbd) _ h⟩
noncomputable def c49 (a : Bs) (n : Nd) (K : AV → List AV → Prop) : Prop :=
    Obl (okN n ∧ a.length + 64 * countM n ≤ 900000000) (K (.tup []) [.rb (a ++ fmtM n)])
noncomputable def m49 (a : Bs) (n : Nd) : Nat := SizeOf.sizeOf n
noncomputable def C49 : List AV → (AV → List AV → Prop) → Prop
  | [.rb a, .st [.int .i64 n_0, .int .i64 n_1, .str n_2, .ps .str n_3, .ps .node n_4]], K => c49 a ⟨n_0, n_1, n_2, n_3, n_4⟩ K
  | _, _ => False
noncomputable def Ck49 (k : Nat) : List AV → (AV → List AV → Prop) → Prop
  | [.rb a, .st [.int .i64 n_0, .int .i64 n_1, .str n_2, .ps .str n_3, .ps .node n_4]], K => Obl (m49 a ⟨n_0, n_1, n_2, n_3, n_4⟩ < k) (c49 a ⟨n_0, n_1, n_2, n_3, n_4⟩ K)
  | _, _ => False
noncomputable def E49 (k : Nat) : Ctx := mkE tab [(49, .gen .ps (Ck49 k)), (52, .gen .ps C52), (54, .gen .ps C54), (55, .gen .ps C55), (68, .pure F68z)]
noncomputable def O49 : Nat → List DI := ordL []
theorem a49 (k : Nat) (a : Bs) (n : Nd) (hm : m49 a n < k + 1) (hb : BdAs [.rb a, .st (ndC n)]) (K : AV → List AV → Prop) (h : c49 a n K) : abody (E49 k) O49 .ps Tryd.f49 (Tryd.f49.body.getD .skip) [.rb a, .st (ndC n)] K := by
  simp only [BdAs, BdA, BdL, BdC, MX, ndC, shC, itC, stC, opC, chC, nwC, flC, rqC, rsC, enc, List.cons_append, List.nil_append, and_true, true_and] at hb
  unfold c49 at h
  unfold m49 at hm
  obtain ⟨⟨hn, ho⟩, hK⟩ := h
  have hkid : ∀ j, j < n.kids.length → SizeOf.sizeOf (n.kids.getD j default) < k := fun j hj => by have := kid_size hj; omega
  have h6 := okN_kids hn
  have h7 := okN_num hn
  have ht := okN_text hn
  have hnm := (okN_names hn).2.1
  have hq := fun j (hj : j < n.names.length) => okN_name_len hn hj
  have hk0 := okN_kind hn
  have hf := okN_fmt hn
  have hfn := numM_len h7.1 h7.2
  conv => whnf
  repeat' first|((first|refine Cnd.mk (fun h=>?_) (fun h=>?_)|refine Gd.mk (fun h=>?_))<;>(try simp [etas,elDef,-List.getD_eq_getElem?_getD] at h)<;>conv=>whnf)|((first|refine Obl.mk (by first|omega|rfl|exact inK_byte _|(simp only [inK,Int.toNat_natCast,etas,elDef,m49,m49,o68z]<;>first|omega|grind)|grind [inK,m49,m49,o68z]) ?_|refine OblG.mk (by ((conv=>whnf);(repeat (first|refine Bx.mk ?_|(intro h;(try simp [etas,elDef,-List.getD_eq_getElem?_getD] at h);conv=>whnf)));(first|omega|rfl|exact inK_byte _|(simp only [inK,Int.toNat_natCast,etas,elDef,m49,m49,o68z]<;>first|omega|grind)|grind [inK,m49,m49,o68z]))) ?_|refine And.intro ?_ ?_)<;>conv=>whnf)|exact True.intro|(intro;conv=>whnf)
  · exact leafQ hK (by rw [fmt_none h])
  · exact leafQ hK (by rw [fmt_num h])
  · exact leafQ hK (by rw [fmt_text h])
  · have hk := h
    refine aloop_intro Nat (fun k => k ≤ n.kids.length ∧ True) (fun k => n.kids.length - k) (fun k => [(34, .int .i64 k)]) (fun k => [(1000000, .bld (a ++ 91 :: joinM n k))]) [3] 0 [] [] ?_ ?_ (by exact sgOk_of (by rfl)) ?_
    · first | (simp; done) | (simp; assumption)
    · iterate 2 ((all_goals (conv=>whnf));(repeat' (first|exact trivial|rfl|(refine nilEq ?_;first|rfl|(simp only [*];done)|(simp [*];done)|grind)|apply And.intro|((first|apply intEq|apply boolEq|apply strEq|apply psEq|apply nilEq|apply arrEq);(try simp only [Int.toNat_natCast,etas,elDef]);first | done | omega | grind | (simp only [*]; done) | (simp [*]; done)))));(all_goals ((try simp only [Int.toNat_natCast,etas,elDef]);first | done | omega | grind | (simp only [*]; done) | (simp [*]; done)))
    rintro i ⟨hi, hj⟩
    conv => whnf
    have e1 := fun h => joinM_succ (n := n) (i := i) h
    have e2 := fun h => join_room hn (i := i) h
    have e3 := join_end hn (i := i) hi
    have e4 := fun h => okN_kid hn (j := i) h
    repeat' first|((first|refine Cnd.mk (fun h=>?_) (fun h=>?_)|refine Gd.mk (fun h=>?_))<;>(try simp [etas,elDef,-List.getD_eq_getElem?_getD] at h)<;>conv=>whnf)|((first|refine Obl.mk (by first|omega|rfl|exact inK_byte _|(simp only [inK,Int.toNat_natCast,etas,elDef,m49,m49,o68z]<;>first|omega|grind)|grind [inK,m49,m49,o68z]) ?_|refine OblG.mk (by ((conv=>whnf);(repeat (first|refine Bx.mk ?_|(intro h;(try simp [etas,elDef,-List.getD_eq_getElem?_getD] at h);conv=>whnf)));(first|omega|rfl|exact inK_byte _|(simp only [inK,Int.toNat_natCast,etas,elDef,m49,m49,o68z]<;>first|omega|grind)|grind [inK,m49,m49,o68z]))) ?_|refine And.intro ?_ ?_)<;>conv=>whnf)|exact True.intro|(intro;conv=>whnf)
    · rename_i h5
      have e5 : joinM n (i + 1) = joinM n i ++ [44] ++ fmtM (n.kids.getD i default) := by
        rw [e1 h5]; unfold leadM; rw [if_pos h, hk]; simp
      exact ⟨i + 1, [], [], ⟨by omega, by grind⟩, by omega, by iterate 2 ((all_goals (conv=>whnf));(repeat' (first|exact trivial|rfl|(refine nilEq ?_;first|rfl|(simp only [*];done)|(simp [*];done)|grind)|apply And.intro|((first|apply intEq|apply boolEq|apply strEq|apply psEq|apply nilEq|apply arrEq);(try simp only [Int.toNat_natCast,etas,elDef]);first | done | omega | simp [e5]))));(all_goals ((try simp only [Int.toNat_natCast,etas,elDef]);first | done | omega | simp [e5])), (by exact sgOk_of (by rfl))⟩
    · rename_i h5
      have e5 : joinM n (i + 1) = joinM n i ++ fmtM (n.kids.getD i default) := by
        rw [e1 h5]; unfold leadM; rw [if_neg (by omega), hk]; simp
      exact ⟨i + 1, [], [], ⟨by omega, by grind⟩, by omega, by iterate 2 ((all_goals (conv=>whnf));(repeat' (first|exact trivial|rfl|(refine nilEq ?_;first|rfl|(simp only [*];done)|(simp [*];done)|grind)|apply And.intro|((first|apply intEq|apply boolEq|apply strEq|apply psEq|apply nilEq|apply arrEq);(try simp only [Int.toNat_natCast,etas,elDef]);first | done | omega | simp [e5]))));(all_goals ((try simp only [Int.toNat_natCast,etas,elDef]);first | done | omega | simp [e5])), (by exact sgOk_of (by rfl))⟩
    · have e5 : i = n.kids.length := by omega
      subst e5
      exact leafQ hK (by rw [fmt_list hk]; simp)
  · have hk := h
    have hnl := hnm hk
    refine aloop_intro Nat (fun k => k ≤ n.kids.length ∧ True) (fun k => n.kids.length - k) (fun k => [(56, .int .i64 k)]) (fun k => [(1000000, .bld (a ++ 123 :: joinM n k))]) [3] 0 [] [] ?_ ?_ (by exact sgOk_of (by rfl)) ?_
    · first | (simp; done) | (simp; assumption)
    · iterate 2 ((all_goals (conv=>whnf));(repeat' (first|exact trivial|rfl|(refine nilEq ?_;first|rfl|(simp only [*];done)|(simp [*];done)|grind)|apply And.intro|((first|apply intEq|apply boolEq|apply strEq|apply psEq|apply nilEq|apply arrEq);(try simp only [Int.toNat_natCast,etas,elDef]);first | done | omega | grind | (simp only [*]; done) | (simp [*]; done)))));(all_goals ((try simp only [Int.toNat_natCast,etas,elDef]);first | done | omega | grind | (simp only [*]; done) | (simp [*]; done)))
    rintro i ⟨hi, hj⟩
    conv => whnf
    have e1 := fun h => joinM_succ (n := n) (i := i) h
    have e2 := fun h => join_room hn (i := i) h
    have e3 := join_end hn (i := i) hi
    have e4 := fun h => okN_kid hn (j := i) h
    have e6 := hq i
    have e7 := quote_len (n.names.getD i [])
    repeat' first|((first|refine Cnd.mk (fun h=>?_) (fun h=>?_)|refine Gd.mk (fun h=>?_))<;>(try simp [etas,elDef,-List.getD_eq_getElem?_getD] at h)<;>conv=>whnf)|((first|refine Obl.mk (by first|omega|rfl|exact inK_byte _|(simp only [inK,Int.toNat_natCast,etas,elDef,m49,m49,o68z]<;>first|omega|grind)|grind [inK,m49,m49,o68z]) ?_|refine OblG.mk (by ((conv=>whnf);(repeat (first|refine Bx.mk ?_|(intro h;(try simp [etas,elDef,-List.getD_eq_getElem?_getD] at h);conv=>whnf)));(first|omega|rfl|exact inK_byte _|(simp only [inK,Int.toNat_natCast,etas,elDef,m49,m49,o68z]<;>first|omega|grind)|grind [inK,m49,m49,o68z]))) ?_|refine And.intro ?_ ?_)<;>conv=>whnf)|exact True.intro|(intro;conv=>whnf)
    · rename_i h5
      have e5 : joinM n (i + 1) = joinM n i ++ [44] ++ quoteM (n.names.getD i []) ++ [58] ++ fmtM (n.kids.getD i default) := by
        rw [e1 h5]; unfold leadM; rw [if_pos h, hk]; simp
      exact ⟨i + 1, [], [], ⟨by omega, by grind⟩, by omega, by iterate 2 ((all_goals (conv=>whnf));(repeat' (first|exact trivial|rfl|(refine nilEq ?_;first|rfl|(simp only [*];done)|(simp [*];done)|grind)|apply And.intro|((first|apply intEq|apply boolEq|apply strEq|apply psEq|apply nilEq|apply arrEq);(try simp only [Int.toNat_natCast,etas,elDef]);first | done | omega | simp [e5]))));(all_goals ((try simp only [Int.toNat_natCast,etas,elDef]);first | done | omega | simp [e5])), (by exact sgOk_of (by rfl))⟩
    · rename_i h5
      have e5 : joinM n (i + 1) = joinM n i ++ quoteM (n.names.getD i []) ++ [58] ++ fmtM (n.kids.getD i default) := by
        rw [e1 h5]; unfold leadM; rw [if_neg (by omega), hk]; simp
      exact ⟨i + 1, [], [], ⟨by omega, by grind⟩, by omega, by iterate 2 ((all_goals (conv=>whnf));(repeat' (first|exact trivial|rfl|(refine nilEq ?_;first|rfl|(simp only [*];done)|(simp [*];done)|grind)|apply And.intro|((first|apply intEq|apply boolEq|apply strEq|apply psEq|apply nilEq|apply arrEq);(try simp only [Int.toNat_natCast,etas,elDef]);first | done | omega | simp [e5]))));(all_goals ((try simp only [Int.toNat_natCast,etas,elDef]);first | done | omega | simp [e5])), (by exact sgOk_of (by rfl))⟩
    · have e5 : i = n.kids.length := by omega
      subst e5
      exact leafQ hK (by rw [fmt_map hk]; simp)
  · exfalso; omega
theorem r49 : ∀ k, (CtrOK Tryd.prog 49 (.gen .ps (Ck49 k)) ∧ Callable Tryd.prog 49) := by
  intro k
  induction k with
  | zero =>
    exact ⟨fun args K h => by
        unfold Ck49 at h; split at h
        · exact absurd h.o (Nat.not_lt_zero _)
        · exact h.elim, callable Tryd.func49 rfl (by rfl)⟩
  | succ k ih =>
    refine gen_ok (E := E49 k) (mkE_cons ih (mkE_cons s52 (mkE_cons s54 (mkE_cons s55 (mkE_cons s68z (mkE_nil tab_ok)))))) mix (O := O49) (C := (Ck49 (k + 1))) (own := .ps) Tryd.func49 rfl (by rfl) (by kernel_rfl) (fun args K h hbd => ?_)
    unfold Ck49 at h; split at h
    case h_2 => exact h.elim
    exact ⟨Nat.le_of_ble_eq_true rfl, a49 k _ ⟨_, _, _, _, _⟩ h.o (by exact hbd) _ h.k⟩
theorem s49 : (CtrOK Tryd.prog 49 (.gen .ps C49) ∧ Callable Tryd.prog 49) := by
  refine ⟨fun args K h => ?_, (r49 0).2⟩
  unfold C49 at h; split at h
  · exact (r49 (m49 _ ⟨_, _, _, _, _⟩ + 1)).1 _ K ⟨Nat.lt_succ_self _, h⟩
  · exact h.elim
noncomputable def v20 (n : Nd) : AV := .str (textM n)
noncomputable def o20 (n : Nd) : Prop := True
noncomputable def F20 : List AV → QR
  | [.st [.int .i64 n_0, .int .i64 n_1, .str n_2, .ps .str n_3, .ps .node n_4]] => some (none, v20 ⟨n_0, n_1, n_2, n_3, n_4⟩)
  | _ => none
noncomputable def E20 : Ctx := mkE tab [(47, .pure F47), (49, .gen .ps C49), (50, .gen .ps C50)]
noncomputable def O20 : Nat → List DI := ordL []
theorem a20 (n : Nd) (hb : BdAs [.st (ndC n)]) (ho : o20 n) (K : AV → List AV → Prop) (hK : K (v20 n) []) : abody E20 O20 .ps Tryd.f20 (Tryd.f20.body.getD .skip) [.st (ndC n)] K := by
  simp only [BdAs, BdA, BdL, BdC, MX, ndC, shC, itC, stC, opC, chC, nwC, flC, rqC, rsC, enc, List.cons_append, List.nil_append, and_true, true_and] at hb
  unfold v20 at hK
  have h1 := fun h => validM_ok (n := n) h
  have h2 := fun h => (validM_iff (n := n).1 h).2
  conv => whnf
  repeat' first|((first|refine Cnd.mk (fun h=>?_) (fun h=>?_)|refine Gd.mk (fun h=>?_))<;>(try simp [etas,elDef,-List.getD_eq_getElem?_getD] at h)<;>conv=>whnf)|((first|refine Obl.mk (by first|omega|rfl|exact inK_byte _|(simp only [inK,Int.toNat_natCast,etas,elDef,m49]<;>first|omega|grind)|grind [inK,m49]) ?_|refine OblG.mk (by ((conv=>whnf);(repeat (first|refine Bx.mk ?_|(intro h;(try simp [etas,elDef,-List.getD_eq_getElem?_getD] at h);conv=>whnf)));(first|omega|rfl|exact inK_byte _|(simp only [inK,Int.toNat_natCast,etas,elDef,m49]<;>first|omega|grind)|grind [inK,m49]))) ?_|refine And.intro ?_ ?_)<;>conv=>whnf)|exact True.intro|(intro;conv=>whnf)
  · exact leafS hK (by unfold textM; rw [if_neg (by simp [h])])
  · exact leafS hK (by unfold textM; rw [if_pos h]; simp [nd_eta])
theorem s20 : (CtrOK Tryd.prog 20 (.pure F20) ∧ Callable Tryd.prog 20) := by
  refine pure_ok (E := E20) (mkE_cons s47 (mkE_cons s49 (mkE_cons s50 (mkE_nil tab_ok)))) mix (O := O20) (F := F20) Tryd.func20 rfl (by rfl) (by kernel_rfl) (fun args o v h => ?_) (fun args o v h => ?_) (fun args o v h hbd hp K hK => ?_)
  · unfold F20 at h; split at h <;> cases h; first | trivial | (simp [v20, Scalar, Scalar2, Scalar1, stC, ndC, itC, chC, nwC])
  · unfold F20 at h; split at h <;> cases h; exact Nat.le_of_ble_eq_true rfl
  · unfold F20 at h; split at h
    case h_2 => cases h
    cases h
    exact a20 ⟨_, _, _, _, _⟩ (by exact hbd) trivial K hK
noncomputable def v64 (s : Bs) : AV := .str (quoteM s)
noncomputable def o64 (s : Bs) : Prop := s.length ≤ 1000000
noncomputable def F64 : List AV → QR
  | [.str s] => some (some (o64 s), v64 s)
  | _ => none
noncomputable def E64 : Ctx := mkE tab []
noncomputable def O64 : Nat → List DI := ordL []
theorem a64 (s : Bs) (hb : BdAs [.str s]) (ho : o64 s) (K : AV → List AV → Prop) (hK : K (v64 s) []) : abody E64 O64 .ps Tryd.f64 (Tryd.f64.body.getD .skip) [.str s] K := by
  simp only [BdAs, BdA, BdL, BdC, MX, ndC, shC, itC, stC, opC, chC, nwC, flC, rqC, rsC, enc, List.cons_append, List.nil_append, and_true, true_and] at hb
  unfold o64 at ho
  unfold v64 at hK
  conv => whnf
  repeat' first|((first|refine Cnd.mk (fun h=>?_) (fun h=>?_)|refine Gd.mk (fun h=>?_))<;>(try simp [etas,elDef,-List.getD_eq_getElem?_getD] at h)<;>conv=>whnf)|((first|refine Obl.mk (by first|omega|rfl|exact inK_byte _|(simp only [inK,Int.toNat_natCast,etas,elDef]<;>first|omega|grind)|grind [inK]) ?_|refine OblG.mk (by ((conv=>whnf);(repeat (first|refine Bx.mk ?_|(intro h;(try simp [etas,elDef,-List.getD_eq_getElem?_getD] at h);conv=>whnf)));(first|omega|rfl|exact inK_byte _|(simp only [inK,Int.toNat_natCast,etas,elDef]<;>first|omega|grind)|grind [inK]))) ?_|refine And.intro ?_ ?_)<;>conv=>whnf)|exact True.intro|(intro;conv=>whnf)
  refine aloop_intro Nat (fun k => k ≤ s.length ∧ True) (fun k => s.length - k) (fun k => [(4, .int .i64 k), (3, .str (34 :: escsM (s.take k)))]) (fun k => []) [] 0 [] [] ?_ ?_ (by exact sgOk_of (by rfl)) ?_
  · first | (simp; done) | (simp; assumption)
  · iterate 2 ((all_goals (conv=>whnf));(repeat' (first|exact trivial|rfl|(refine nilEq ?_;first|rfl|(simp only [*];done)|(simp [*];done)|grind)|apply And.intro|((first|apply intEq|apply boolEq|apply strEq|apply psEq|apply nilEq|apply arrEq);(try simp only [Int.toNat_natCast,etas,elDef]);first | done | omega | grind | (simp only [*]; done) | (simp [*]; done)))));(all_goals ((try simp only [Int.toNat_natCast,etas,elDef]);first | done | omega | grind | (simp only [*]; done) | (simp [*]; done)))
  rintro i ⟨hi, hj⟩
  conv => whnf
  have hl := escs_take_len s i
  have hs := fun (h : i < s.length) => escs_take h
  have h9 := fun (h : i < s.length) => char_slice h
  repeat' first|((first|refine Cnd.mk (fun h=>?_) (fun h=>?_)|refine Gd.mk (fun h=>?_))<;>(try simp [etas,elDef,-List.getD_eq_getElem?_getD] at h)<;>conv=>whnf)|((first|refine Obl.mk (by first|omega|rfl|exact inK_byte _|(simp only [inK,Int.toNat_natCast,etas,elDef]<;>first|omega|grind)|grind [inK]) ?_|refine OblG.mk (by ((conv=>whnf);(repeat (first|refine Bx.mk ?_|(intro h;(try simp [etas,elDef,-List.getD_eq_getElem?_getD] at h);conv=>whnf)));(first|omega|rfl|exact inK_byte _|(simp only [inK,Int.toNat_natCast,etas,elDef]<;>first|omega|grind)|grind [inK]))) ?_|refine And.intro ?_ ?_)<;>conv=>whnf)|exact True.intro|(intro;conv=>whnf)
  · rename_i h5
    have e2 : escsM (s.take (i + 1)) = escsM (s.take i) ++ [92, s.getD i 0] := by rw [hs h5, esc_yes h]
    exact ⟨i + 1, [], [], ⟨by omega, by grind⟩, by omega, by iterate 2 ((all_goals (conv=>whnf));(repeat' (first|exact trivial|rfl|(refine nilEq ?_;first|rfl|(simp only [*];done)|(simp [*];done)|grind)|apply And.intro|((first|apply intEq|apply boolEq|apply strEq|apply psEq|apply nilEq|apply arrEq);(try simp only [Int.toNat_natCast,etas,elDef]);first | done | omega | simp [e2, h9 h5]))));(all_goals ((try simp only [Int.toNat_natCast,etas,elDef]);first | done | omega | simp [e2, h9 h5])), (by exact sgOk_of (by rfl))⟩
  · rename_i h5
    have e2 : escsM (s.take (i + 1)) = escsM (s.take i) ++ [s.getD i 0] := by rw [hs h5, esc_no h]
    exact ⟨i + 1, [], [], ⟨by omega, by grind⟩, by omega, by iterate 2 ((all_goals (conv=>whnf));(repeat' (first|exact trivial|rfl|(refine nilEq ?_;first|rfl|(simp only [*];done)|(simp [*];done)|grind)|apply And.intro|((first|apply intEq|apply boolEq|apply strEq|apply psEq|apply nilEq|apply arrEq);(try simp only [Int.toNat_natCast,etas,elDef]);first | done | omega | simp [e2, h9 h5]))));(all_goals ((try simp only [Int.toNat_natCast,etas,elDef]);first | done | omega | simp [e2, h9 h5])), (by exact sgOk_of (by rfl))⟩
  · exact leafS hK (by rw [List.take_of_length_le h]; simp [quoteM])
theorem s64 : (CtrOK Tryd.prog 64 (.pure F64) ∧ Callable Tryd.prog 64) := by
  refine pure_ok (E := E64) (mkE_nil tab_ok) mix (O := O64) (F := F64) Tryd.func64 rfl (by rfl) (by kernel_rfl) (fun args o v h => ?_) (fun args o v h => ?_) (fun args o v h hbd hp K hK => ?_)
  · unfold F64 at h; split at h <;> cases h; first | trivial | (simp [v64, Scalar, Scalar2, Scalar1, stC, ndC, itC, chC, nwC])
  · unfold F64 at h; split at h <;> cases h; exact Nat.le_of_ble_eq_true rfl
  · unfold F64 at h; split at h
    case h_2 => cases h
    cases h
    exact a64 _ (by exact hbd) (hp _ rfl) K hK
noncomputable def v42 (n : Nd) : AV := .str (fmtM n)
noncomputable def o42 (n : Nd) : Prop := okN n
noncomputable def m42 (n : Nd) : Nat := SizeOf.sizeOf n
noncomputable def F42 : List AV → QR
  | [.st [.int .i64 n_0, .int .i64 n_1, .str n_2, .ps .str n_3, .ps .node n_4]] => some (some (o42 ⟨n_0, n_1, n_2, n_3, n_4⟩), v42 ⟨n_0, n_1, n_2, n_3, n_4⟩)
  | _ => none
noncomputable def Fk42 (k : Nat) : List AV → QR
  | [.st [.int .i64 n_0, .int .i64 n_1, .str n_2, .ps .str n_3, .ps .node n_4]] => some (some (m42 ⟨n_0, n_1, n_2, n_3, n_4⟩ < k ∧ o42 ⟨n_0, n_1, n_2, n_3, n_4⟩), v42 ⟨n_0, n_1, n_2, n_3, n_4⟩)
  | _ => none
noncomputable def E42 (k : Nat) : Ctx := mkE tab [(42, .pure (Fk42 k)), (63, .pure F63z), (64, .pure F64)]
noncomputable def O42 : Nat → List DI := ordL []
theorem a42 (k : Nat) (n : Nd) (hm : m42 n < k + 1) (hb : BdAs [.st (ndC n)]) (ho : o42 n) (K : AV → List AV → Prop) (hK : K (v42 n) []) : abody (E42 k) O42 .ps Tryd.f42 (Tryd.f42.body.getD .skip) [.st (ndC n)] K := by
  simp only [BdAs, BdA, BdL, BdC, MX, ndC, shC, itC, stC, opC, chC, nwC, flC, rqC, rsC, enc, List.cons_append, List.nil_append, and_true, true_and] at hb
  unfold o42 at ho
  unfold v42 at hK
  unfold m42 at hm
  have hkid : ∀ j, j < n.kids.length → SizeOf.sizeOf (n.kids.getD j default) < k := fun j hj => by have := kid_size hj; omega
  have h6 := okN_kids ho
  have h7 := okN_num ho
  have ht := okN_text ho
  have hnm := (okN_names ho).2.1
  have hq := fun j (hj : j < n.names.length) => okN_name_len ho hj
  have hk0 := okN_kind ho
  have hf := okN_fmt ho
  have hc := okN_count ho
  conv => whnf
  repeat' first|((first|refine Cnd.mk (fun h=>?_) (fun h=>?_)|refine Gd.mk (fun h=>?_))<;>(try simp [etas,elDef,-List.getD_eq_getElem?_getD] at h)<;>conv=>whnf)|((first|refine Obl.mk (by first|omega|rfl|exact inK_byte _|(simp only [inK,Int.toNat_natCast,etas,elDef,m42,o42,m42,o63z,o64]<;>first|omega|grind)|grind [inK,m42,o42,m42,o63z,o64]) ?_|refine OblG.mk (by ((conv=>whnf);(repeat (first|refine Bx.mk ?_|(intro h;(try simp [etas,elDef,-List.getD_eq_getElem?_getD] at h);conv=>whnf)));(first|omega|rfl|exact inK_byte _|(simp only [inK,Int.toNat_natCast,etas,elDef,m42,o42,m42,o63z,o64]<;>first|omega|grind)|grind [inK,m42,o42,m42,o63z,o64]))) ?_|refine And.intro ?_ ?_)<;>conv=>whnf)|exact True.intro|(intro;conv=>whnf)
  · exact leafS hK (fmt_num h)
  · exact leafS hK (fmt_text h)
  · exact leafS hK (fmt_none h)
  · refine aloop_intro Nat (fun k => k ≤ n.kids.length ∧ True) (fun k => n.kids.length - k) (fun k => [(4, .int .i64 k), (3, .str (joinM n k))]) (fun k => []) [1] 0 [] [] ?_ ?_ (by exact sgOk_of (by rfl)) ?_
    · first | (simp; done) | (simp; assumption)
    · iterate 2 ((all_goals (conv=>whnf));(repeat' (first|exact trivial|rfl|(refine nilEq ?_;first|rfl|(simp only [*];done)|(simp [*];done)|grind)|apply And.intro|((first|apply intEq|apply boolEq|apply strEq|apply psEq|apply nilEq|apply arrEq);(try simp only [Int.toNat_natCast,etas,elDef]);first | done | omega | grind | (simp only [*]; done) | (simp [*]; done)))));(all_goals ((try simp only [Int.toNat_natCast,etas,elDef]);first | done | omega | grind | (simp only [*]; done) | (simp [*]; done)))
    rintro i ⟨hi, hj⟩
    conv => whnf
    have e1 := fun h => joinM_succ (n := n) (i := i) h
    have e2 := fun h => join_room ho (i := i) h
    have e3 := join_end ho (i := i) hi
    have e4 := fun h => okN_kid ho (j := i) h
    have e6 := hq i
    have e7 := quote_len (n.names.getD i [])
    have e8 := fun h => okN_fmt (okN_kid ho (j := i) h)
    repeat' first|((first|refine Cnd.mk (fun h=>?_) (fun h=>?_)|refine Gd.mk (fun h=>?_))<;>(try simp [etas,elDef,-List.getD_eq_getElem?_getD] at h)<;>conv=>whnf)|((first|refine Obl.mk (by first|omega|rfl|exact inK_byte _|(simp only [inK,Int.toNat_natCast,etas,elDef,m42,o42,m42,o63z,o64]<;>first|omega|grind)|grind [inK,m42,o42,m42,o63z,o64]) ?_|refine OblG.mk (by ((conv=>whnf);(repeat (first|refine Bx.mk ?_|(intro h;(try simp [etas,elDef,-List.getD_eq_getElem?_getD] at h);conv=>whnf)));(first|omega|rfl|exact inK_byte _|(simp only [inK,Int.toNat_natCast,etas,elDef,m42,o42,m42,o63z,o64]<;>first|omega|grind)|grind [inK,m42,o42,m42,o63z,o64]))) ?_|refine And.intro ?_ ?_)<;>conv=>whnf)|exact True.intro|(intro;conv=>whnf)
    · rename_i h5 h50
      have e5 : joinM n (i + 1) = joinM n i ++ [44] ++ quoteM (n.names.getD i []) ++ [58] ++ fmtM (n.kids.getD i default) := by
        rw [e1 h5]; unfold leadM; rw [if_pos h50, if_pos h]; simp
      exact ⟨i + 1, [], [], ⟨by omega, by grind⟩, by omega, by iterate 2 ((all_goals (conv=>whnf));(repeat' (first|exact trivial|rfl|(refine nilEq ?_;first|rfl|(simp only [*];done)|(simp [*];done)|grind)|apply And.intro|((first|apply intEq|apply boolEq|apply strEq|apply psEq|apply nilEq|apply arrEq);(try simp only [Int.toNat_natCast,etas,elDef]);first | done | omega | simp [e5]))));(all_goals ((try simp only [Int.toNat_natCast,etas,elDef]);first | done | omega | simp [e5])), (by exact sgOk_of (by rfl))⟩
    · rename_i h5 h50
      have e5 : joinM n (i + 1) = joinM n i ++ [44] ++ fmtM (n.kids.getD i default) := by
        rw [e1 h5]; unfold leadM; rw [if_pos h50, if_neg h]; simp
      exact ⟨i + 1, [], [], ⟨by omega, by grind⟩, by omega, by iterate 2 ((all_goals (conv=>whnf));(repeat' (first|exact trivial|rfl|(refine nilEq ?_;first|rfl|(simp only [*];done)|(simp [*];done)|grind)|apply And.intro|((first|apply intEq|apply boolEq|apply strEq|apply psEq|apply nilEq|apply arrEq);(try simp only [Int.toNat_natCast,etas,elDef]);first | done | omega | simp [e5]))));(all_goals ((try simp only [Int.toNat_natCast,etas,elDef]);first | done | omega | simp [e5])), (by exact sgOk_of (by rfl))⟩
    · rename_i h5 h50
      have e5 : joinM n (i + 1) = joinM n i ++ quoteM (n.names.getD i []) ++ [58] ++ fmtM (n.kids.getD i default) := by
        rw [e1 h5]; unfold leadM; rw [if_neg (by omega), if_pos h]; simp
      exact ⟨i + 1, [], [], ⟨by omega, by grind⟩, by omega, by iterate 2 ((all_goals (conv=>whnf));(repeat' (first|exact trivial|rfl|(refine nilEq ?_;first|rfl|(simp only [*];done)|(simp [*];done)|grind)|apply And.intro|((first|apply intEq|apply boolEq|apply strEq|apply psEq|apply nilEq|apply arrEq);(try simp only [Int.toNat_natCast,etas,elDef]);first | done | omega | simp [e5]))));(all_goals ((try simp only [Int.toNat_natCast,etas,elDef]);first | done | omega | simp [e5])), (by exact sgOk_of (by rfl))⟩
    · rename_i h5 h50
      have e5 : joinM n (i + 1) = joinM n i ++ fmtM (n.kids.getD i default) := by
        rw [e1 h5]; unfold leadM; rw [if_neg (by omega), if_neg h]; simp
      exact ⟨i + 1, [], [], ⟨by omega, by grind⟩, by omega, by iterate 2 ((all_goals (conv=>whnf));(repeat' (first|exact trivial|rfl|(refine nilEq ?_;first|rfl|(simp only [*];done)|(simp [*];done)|grind)|apply And.intro|((first|apply intEq|apply boolEq|apply strEq|apply psEq|apply nilEq|apply arrEq);(try simp only [Int.toNat_natCast,etas,elDef]);first | done | omega | simp [e5]))));(all_goals ((try simp only [Int.toNat_natCast,etas,elDef]);first | done | omega | simp [e5])), (by exact sgOk_of (by rfl))⟩
    · have hk := h
      have e5 : i = n.kids.length := by omega
      subst e5
      exact leafS hK (by rw [fmt_map hk]; simp)
    · have hk : n.kind = 3 := by omega
      have e5 : i = n.kids.length := by omega
      subst e5
      exact leafS hK (by rw [fmt_list hk]; simp)
theorem r42 : ∀ k, (CtrOK Tryd.prog 42 (.pure (Fk42 k)) ∧ Callable Tryd.prog 42) := by
  intro k
  induction k with
  | zero =>
    exact ⟨⟨fun args o v h => by unfold Fk42 at h; split at h <;> cases h; first | trivial | (simp [v42, Scalar, Scalar2, Scalar1, stC, ndC, itC, chC, nwC]), fun args K h => by
        unfold pureC Fk42 at h; split at h
        · rename_i h1; split at h1 <;> cases h1; exact absurd (h.1 _ rfl).1 (Nat.not_lt_zero _)
        · exact h.elim⟩, callable Tryd.func42 rfl (by rfl)⟩
  | succ k ih =>
    refine pure_ok (E := E42 k) (mkE_cons ih (mkE_cons s63z (mkE_cons s64 (mkE_nil tab_ok)))) mix (O := O42) (F := (Fk42 (k + 1))) Tryd.func42 rfl (by rfl) (by kernel_rfl) (fun args o v h => ?_) (fun args o v h => ?_) (fun args o v h hbd hp K hK => ?_)
    · unfold Fk42 at h; split at h <;> cases h; first | trivial | (simp [v42, Scalar, Scalar2, Scalar1, stC, ndC, itC, chC, nwC])
    · unfold Fk42 at h; split at h <;> cases h; exact Nat.le_of_ble_eq_true rfl
    · unfold Fk42 at h; split at h
      case h_2 => cases h
      cases h
      exact a42 k ⟨_, _, _, _, _⟩ (hp _ rfl).1 (by exact hbd) (hp _ rfl).2 K hK
theorem s42 : (CtrOK Tryd.prog 42 (.pure F42) ∧ Callable Tryd.prog 42) := by
  refine ⟨⟨fun args o v h => ?_, fun args K h => ?_⟩, (r42 0).2⟩
  · unfold F42 at h; split at h <;> cases h; first | trivial | (simp [v42, Scalar, Scalar2, Scalar1, stC, ndC, itC, chC, nwC])
  · unfold pureC F42 at h; split at h
    · rename_i h1; split at h1 <;> cases h1
      exact (r42 (m42 ⟨_, _, _, _, _⟩ + 1)).1.2 _ K ⟨fun p hp => by cases hp; exact ⟨Nat.lt_succ_self _, (h.1 _ rfl)⟩, h.2⟩
    · exact h.elim
end Go.Rs

