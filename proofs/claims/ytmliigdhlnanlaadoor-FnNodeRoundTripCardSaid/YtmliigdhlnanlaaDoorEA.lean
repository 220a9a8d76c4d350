import Derived.Test.YtmliigdhlnanlaaDoorCY
import Derived.Test.YtmliigdhlnanlaaDoorCK
import Derived.Test.YtmliigdhlnanlaaDoorCP
import Derived.Test.YtmliigdhlnanlaaDoorMF
import Derived.Shelf.LaysM
import Derived.Shelf.Strconv.Itoa3
set_option linter.all false
set_option linter.unusedSimpArgs false
set_option linter.unusedVariables false
namespace Go.Proofs
open Go.Shelf
def Tryd.laysM171_ren : Go.Shelf.Ren := ⟨fun | 171 => 53 | 243 => 77 | 246 => 93 | 283 => 100 | 284 => 101 | 285 => 102 | 286 => 103 | 129 => 110 | 317 => 109 | 318 => 111 | 319 => 112 | 320 => 113 | 337 => 117 | 338 => 118 | n => n, fun | 3 => 3 | 9 => 9 | 2 => 2 | 4 => 4 | 171 => 106 | 0 => 0 | 53 => 107 | 37 => 22 | 5 => 5 | 173 => 110 | 212 => 119 | 51 => 120 | 20 => 20 | 213 => 121 | 46 => 123 | 232 => 135 | 233 => 136 | n => n, fun | 17 => 1 | 18 => 4 | 19 => 5 | n => n⟩
theorem Tryd.laysM171 : Go.Proofs.LaysM.n171 Tryd.prog Tryd.laysM171_ren := {
  mixed := by kernel_rfl
  f129 := Tryd.func110.trans (congrArg some (by kernel_rfl))
  f171 := Tryd.func53.trans (congrArg some (by kernel_rfl))
  f243 := Tryd.func77.trans (congrArg some (by kernel_rfl))
  f246 := Tryd.func93.trans (congrArg some (by kernel_rfl))
  f283 := Tryd.func100.trans (congrArg some (by kernel_rfl))
  f284 := Tryd.func101.trans (congrArg some (by kernel_rfl))
  f285 := Tryd.func102.trans (congrArg some (by kernel_rfl))
  f286 := Tryd.func103.trans (congrArg some (by kernel_rfl))
  f317 := Tryd.func109.trans (congrArg some (by kernel_rfl))
  f318 := Tryd.func111.trans (congrArg some (by kernel_rfl))
  f319 := Tryd.func112.trans (congrArg some (by kernel_rfl))
  f320 := Tryd.func113.trans (congrArg some (by kernel_rfl))
  f337 := Tryd.func117.trans (congrArg some (by kernel_rfl))
  f338 := Tryd.func118.trans (congrArg some (by kernel_rfl))
  t0 := Tryd.underlying0
  a0 := Tryd.isAgg0
  z0 := Tryd.sizeOf0
  v0 := Tryd.zeroValue0
  t2 := Tryd.underlying2
  a2 := Tryd.isAgg2
  z2 := Tryd.sizeOf2
  v2 := Tryd.zeroValue2
  t3 := Tryd.underlying3
  a3 := Tryd.isAgg3
  z3 := Tryd.sizeOf3
  v3 := Tryd.zeroValue3
  t4 := Tryd.underlying4
  a4 := Tryd.isAgg4
  z4 := Tryd.sizeOf4
  v4 := Tryd.zeroValue4
  t5 := Tryd.underlying5
  a5 := Tryd.isAgg5
  z5 := Tryd.sizeOf5
  v5 := Tryd.zeroValue5
  t9 := Tryd.underlying9
  a9 := Tryd.isAgg9
  z9 := Tryd.sizeOf9
  v9 := Tryd.zeroValue9
  t20 := Tryd.underlying20
  a20 := Tryd.isAgg20
  z20 := Tryd.sizeOf20
  v20 := Tryd.zeroValue20
  t37 := Tryd.underlying22
  a37 := Tryd.isAgg22
  z37 := Tryd.sizeOf22
  v37 := Tryd.zeroValue22
  t46 := Tryd.underlying123
  a46 := Tryd.isAgg123
  z46 := Tryd.sizeOf123
  v46 := Tryd.zeroValue123
  t51 := Tryd.underlying120
  a51 := Tryd.isAgg120
  z51 := Tryd.sizeOf120
  v51 := Tryd.zeroValue120
  t53 := Tryd.underlying107
  a53 := Tryd.isAgg107
  z53 := Tryd.sizeOf107
  v53 := Tryd.zeroValue107
  t171 := Tryd.underlying106
  a171 := Tryd.isAgg106
  z171 := Tryd.sizeOf106
  v171 := Tryd.zeroValue106
  t173 := Tryd.underlying110
  a173 := Tryd.isAgg110
  z173 := Tryd.sizeOf110
  v173 := Tryd.zeroValue110
  t212 := Tryd.underlying119
  a212 := Tryd.isAgg119
  z212 := Tryd.sizeOf119
  v212 := Tryd.zeroValue119
  t213 := Tryd.underlying121
  a213 := Tryd.isAgg121
  z213 := Tryd.sizeOf121
  t232 := Tryd.underlying135
  a232 := Tryd.isAgg135
  z232 := Tryd.sizeOf135
  v232 := Tryd.zeroValue135
  t233 := Tryd.underlying136
  a233 := Tryd.isAgg136
  z233 := Tryd.sizeOf136
  v233 := Tryd.zeroValue136
  g17 := by kernel_rfl
  g18 := by kernel_rfl
  g19 := by kernel_rfl
  i0 := by kernel_rfl
  i2 := by kernel_rfl
  i3 := by kernel_rfl
  i4 := by kernel_rfl
  i5 := by kernel_rfl
  i9 := by kernel_rfl
  i20 := by kernel_rfl
  i37 := by kernel_rfl
  i46 := by kernel_rfl
  i51 := by kernel_rfl
  i53 := by kernel_rfl
  i171 := by kernel_rfl
  i173 := by kernel_rfl
  i212 := by kernel_rfl
  i232 := by kernel_rfl
  i233 := by kernel_rfl
  m17 := by kernel_rfl
  m18 := by kernel_rfl
  m19 := by kernel_rfl }
end Go.Proofs
namespace Go.Rs
open Go.Proofs Go.RowKit Go.Sort
set_option maxRecDepth 100000
-- 25
theorem leafQ {K : AV → List AV → Prop} {v : AV} {a b : Bs} (hK : K v [.rb a]) (h : a = b) : K v [.rb b] := h ▸ hK
theorem dec_eq (n : Nat) : Lib.decDigits n = decM n := by
  induction n using Nat.strongRecOn with
  | _ n ih =>
    rw [Lib.decDigits]
    by_cases h : n < 10
    · rw [dif_pos h, decM_lt h]
    · rw [dif_neg h, decM_ge h, ih _ (by omega)]
theorem itoa_eq (n : Int) : Lib.itoa n = numM n := by
  unfold Lib.itoa numM
  by_cases h : n < 0
  · rw [if_pos h, if_pos h, dec_eq, show n.natAbs = (-n).toNat by omega]
  · rw [if_neg h, if_neg h, dec_eq]
theorem numM_len20 {z : Int} (h1 : -9223372036854775808 ≤ z) (h2 : z ≤ 9223372036854775807) : (numM z).length ≤ 21 := by
  have e : (10 : Nat) ^ 20 = 100000000000000000000 := rfl
  unfold numM
  split
  · have := decM_len_le 19 (-z).toNat (by omega)
    simp; omega
  · have := decM_len_le 19 z.toNat (by omega)
    omega
theorem tab_is {w : World} (ht : Tabs w) {nm : String} (hg : Tryd.prog.globalNamed nm = some 1) : Lib.TabIs Tryd.prog w nm .u64 Lib.pow10Tab := by
  obtain ⟨T, fz, h⟩ := ht.tab 1 rfl
  unfold Lib.TabIs World.var?
  rw [hg]
  simp only [Option.bind_some, h]
  rfl
theorem itoa_call (n : Int) (h0 : -9223372036854775808 ≤ n) (h1 : n ≤ 9223372036854775807) (w : World) (ht : Tabs w) :
    Calls Tryd.prog 53 #[.int .i64 n] w fun e w' => e = .returned (.string ⟨(numM n).toArray⟩) ∧ ∃ k os, w' = grow (w.drewN k) os := by
  rw [← itoa_eq]
  exact Any.strconv_Itoa Tryd.laysM171 n h0 h1 w (tab_is ht (by kernel_rfl))
noncomputable def v53z (n : Int) : AV := .str (numM n)
noncomputable def o53z (n : Int) : Prop := -9223372036854775808 ≤ n ∧ n ≤ 9223372036854775807
noncomputable def F53z : List AV → QR
  | [.int .i64 n] => some (some (o53z n), v53z n)
  | _ => none
theorem s53z : CtrOK Tryd.prog 53 (.pure F53z) ∧ Callable Tryd.prog 53 := by
  refine ⟨⟨fun args o v h => ?_, fun args K hK w γ S xs hi hn hf ht hs => ?_⟩, callable Tryd.func53 rfl (by rfl)⟩
  · unfold F53z at h; split at h <;> cases h; trivial
  · unfold pureC F53z at hK
    split at hK
    case h_2 => exact hK.elim
    rename_i O v hq
    split at hq
    case h_2 => cases hq
    rename_i n
    cases hq
    obtain ⟨h0, h1⟩ := hK.1 _ rfl
    cases hi with
    | cons h2 h3 =>
      cases h3
      obtain ⟨rfl, rfl⟩ := ia_int h2
      refine Calls.mono (itoa_call n h0 h1 w ht) ?_
      rintro e w' ⟨rfl, k, os, rfl⟩
      have hl := numM_len20 h0 h1
      refine ⟨_, [], _, γ, [], [], hK.2, rfl, .one (.cell (.per (.str _ (by unfold MX; omega)) rfl)), .nil, by simp, ⟨rfl, rfl, rfl, ?_, fun b hb _ => ⟨?_, rfl⟩, fun b hb => hf b ?_, by simp⟩, by simp⟩
      · simp [grow, World.drewN]
      · simp only [grow, World.drewN]
        rw [Array.getElem?_append_left hb]
      · simp only [grow, World.drewN, Array.size_append] at hb
        omega
noncomputable def v58z (n : Int) : AV := .str (numM n)
noncomputable def o58z (n : Int) : Prop := -1000000000000 ≤ n ∧ n ≤ 1000000000000
noncomputable def F58z : List AV → QR
  | [.int .i64 n] => some (some (o58z n), v58z n)
  | _ => none
noncomputable def E58z : Ctx := mkE tab [(58, .pure F58)]
noncomputable def O58z : Nat → List DI := ordL [(7, [.q 0, .q 1, .q 2, .q 3, .q 4, .q 5, .q 6, .l 7 [2], .q 8, .q 9, .q 10])]
theorem a58z (n : Int) (hb : BdAs [.int .i64 n]) (ho : o58z n) (K : AV → List AV → Prop) (hK : K (v58z n) []) : abody E58z O58z .ps Tryd.f58 (Tryd.f58.body.getD .skip) [.int .i64 n] K := by
  simp only [BdAs, BdA, BdL, BdC, MX, ndC, shC, itC, stC, opC, chC, nwC, flC, rqC, rsC, enc, List.cons_append, List.nil_append, and_true, true_and] at hb
  unfold o58z at ho
  unfold v58z at hK
  have h1 := fun h => decM_lt (n := n.toNat) h
  have h2 := fun h => decM_ge (n := n.toNat) h
  have h3 := decM_len (n / 10).toNat
  have h4 := decM_len (-n).toNat
  conv => whnf
  repeat' first|((first|refine Cnd.mk (fun h=>?_) (fun h=>?_)|refine Gd.mk (fun h=>?_))<;>(try simp [etas,elDef,-List.getD_eq_getElem?_getD] at h)<;>conv=>whnf)|((first|refine Obl.mk (by first|omega|rfl|exact inK_byte _|(simp only [inK,Int.toNat_natCast,etas,elDef,o58,m58]<;>first|omega|grind)|grind [inK,o58,m58]) ?_|refine OblG.mk (by ((conv=>whnf);(repeat (first|refine Bx.mk ?_|(intro h;(try simp [etas,elDef,-List.getD_eq_getElem?_getD] at h);conv=>whnf)));(first|omega|rfl|exact inK_byte _|(simp only [inK,Int.toNat_natCast,etas,elDef,o58,m58]<;>first|omega|grind)|grind [inK,o58,m58]))) ?_|refine And.intro ?_ ?_)<;>conv=>whnf)|exact True.intro|(intro;conv=>whnf)
  · exfalso; omega
  · rename_i h5
    exact leafS hK (by unfold numM; rw [if_pos h, if_neg (by omega)]; rfl)
  · exact leafS hK (by unfold numM; rw [if_neg (by omega), h1 (by omega)]; simp only [List.map_cons, List.map_nil]; rw [show (48 + n).toNat = 48 + n.toNat by omega])
  · exact leafS hK (by unfold numM; rw [if_neg (by omega), h2 (by omega)]; simp only [List.map_cons, List.map_nil]; rw [show (48 + n % 10).toNat = 48 + n.toNat % 10 by omega, show (n / 10).toNat = n.toNat / 10 by omega])
theorem s58z : (CtrOK Tryd.prog 58 (.pure F58z) ∧ Callable Tryd.prog 58) := by
  refine pure_ok (E := E58z) (mkE_cons s58 (mkE_nil tab_ok)) mix (O := O58z) (F := F58z) Tryd.func58 rfl (by rfl) (by kernel_rfl) (fun args o v h => ?_) (fun args o v h => ?_) (fun args o v h hbd hp K hK => ?_)
  · unfold F58z at h; split at h <;> cases h; first | trivial | (simp [v58z, Scalar, Scalar2, Scalar1, stC, ndC, itC, chC, nwC])
  · unfold F58z at h; split at h <;> cases h; exact Nat.le_of_ble_eq_true rfl
  · unfold F58z at h; split at h
    case h_2 => cases h
    cases h
    exact a58z _ (by exact hbd) (hp _ rfl) K hK
noncomputable def c54 (a : Bs) (s : Bs) (K : AV → List AV → Prop) : Prop :=
    Obl (a.length + 2 * s.length + 2 ≤ 1000000000) (K (.tup []) [.rb (a ++ quoteM s)])
noncomputable def C54 : List AV → (AV → List AV → Prop) → Prop
  | [.rb a, .str s], K => c54 a s K
  | _, _ => False
noncomputable def E54 : Ctx := mkE tab [(55, .gen .ps C55)]
noncomputable def O54 : Nat → List DI := ordL []
theorem a54 (a : Bs) (s : Bs) (hb : BdAs [.rb a, .str s]) (K : AV → List AV → Prop) (h : c54 a s K) : abody E54 O54 .ps Tryd.f54 (Tryd.f54.body.getD .skip) [.rb a, .str s] K := by
  simp only [BdAs, BdA, BdL, BdC, MX, ndC, shC, itC, stC, opC, chC, nwC, flC, rqC, rsC, enc, List.cons_append, List.nil_append, and_true, true_and] at hb
  unfold c54 at h
  obtain ⟨ho, hK⟩ := h
  conv => whnf
  repeat' first|((first|refine Cnd.mk (fun h=>?_) (fun h=>?_)|refine Gd.mk (fun h=>?_))<;>(try simp [etas,elDef,-List.getD_eq_getElem?_getD] at h)<;>conv=>whnf)|((first|refine Obl.mk (by first|omega|rfl|exact inK_byte _|(simp only [inK,Int.toNat_natCast,etas,elDef]<;>first|omega|grind)|grind [inK]) ?_|refine OblG.mk (by ((conv=>whnf);(repeat (first|refine Bx.mk ?_|(intro h;(try simp [etas,elDef,-List.getD_eq_getElem?_getD] at h);conv=>whnf)));(first|omega|rfl|exact inK_byte _|(simp only [inK,Int.toNat_natCast,etas,elDef]<;>first|omega|grind)|grind [inK]))) ?_|refine And.intro ?_ ?_)<;>conv=>whnf)|exact True.intro|(intro;conv=>whnf)
  refine aloop_intro Nat (fun k => k ≤ s.length ∧ True) (fun k => s.length - k) (fun k => [(4, .int .i64 k)]) (fun k => [(1000000, .bld (a ++ 34 :: escsM (s.take k)))]) [] 0 [] [] ?_ ?_ (by exact sgOk_of (by rfl)) ?_
  · first | (simp; done) | (simp; assumption)
  · iterate 2 ((all_goals (conv=>whnf));(repeat' (first|exact trivial|rfl|(refine nilEq ?_;first|rfl|(simp only [*];done)|(simp [*];done)|grind)|apply And.intro|((first|apply intEq|apply boolEq|apply strEq|apply psEq|apply nilEq|apply arrEq);(try simp only [Int.toNat_natCast,etas,elDef]);first | done | omega | grind | (simp only [*]; done) | (simp [*]; done)))));(all_goals ((try simp only [Int.toNat_natCast,etas,elDef]);first | done | omega | grind | (simp only [*]; done) | (simp [*]; done)))
  rintro i ⟨hi, hj⟩
  conv => whnf
  have hl := escs_take_len s i
  have hs := fun (h : i < s.length) => escs_take h
  have h8 := fun (c : UInt8) => (show c.toNat < 256 from c.toNat_lt)
  repeat' first|((first|refine Cnd.mk (fun h=>?_) (fun h=>?_)|refine Gd.mk (fun h=>?_))<;>(try simp [etas,elDef,-List.getD_eq_getElem?_getD] at h)<;>conv=>whnf)|((first|refine Obl.mk (by first|omega|rfl|exact inK_byte _|(simp only [inK,Int.toNat_natCast,etas,elDef]<;>first|omega|grind)|grind [inK]) ?_|refine OblG.mk (by ((conv=>whnf);(repeat (first|refine Bx.mk ?_|(intro h;(try simp [etas,elDef,-List.getD_eq_getElem?_getD] at h);conv=>whnf)));(first|omega|rfl|exact inK_byte _|(simp only [inK,Int.toNat_natCast,etas,elDef]<;>first|omega|grind)|grind [inK]))) ?_|refine And.intro ?_ ?_)<;>conv=>whnf)|exact True.intro|(intro;conv=>whnf)
  · rename_i h5
    have e2 : escsM (s.take (i + 1)) = escsM (s.take i) ++ [92, s.getD i 0] := by rw [hs h5, esc_yes h]
    exact ⟨i + 1, [], [], ⟨by omega, by grind⟩, by omega, by iterate 2 ((all_goals (conv=>whnf));(repeat' (first|exact trivial|rfl|(refine nilEq ?_;first|rfl|(simp only [*];done)|(simp [*];done)|grind)|apply And.intro|((first|apply intEq|apply boolEq|apply strEq|apply psEq|apply nilEq|apply arrEq);(try simp only [Int.toNat_natCast,etas,elDef]);first | done | omega | simp [e2]))));(all_goals ((try simp only [Int.toNat_natCast,etas,elDef]);first | done | omega | simp [e2])), (by exact sgOk_of (by rfl))⟩
  · rename_i h5
    have e2 : escsM (s.take (i + 1)) = escsM (s.take i) ++ [s.getD i 0] := by rw [hs h5, esc_no h]
    exact ⟨i + 1, [], [], ⟨by omega, by grind⟩, by omega, by iterate 2 ((all_goals (conv=>whnf));(repeat' (first|exact trivial|rfl|(refine nilEq ?_;first|rfl|(simp only [*];done)|(simp [*];done)|grind)|apply And.intro|((first|apply intEq|apply boolEq|apply strEq|apply psEq|apply nilEq|apply arrEq);(try simp only [Int.toNat_natCast,etas,elDef]);first | done | omega | simp [e2]))));(all_goals ((try simp only [Int.toNat_natCast,etas,elDef]);first | done | omega | simp [e2])), (by exact sgOk_of (by rfl))⟩
  · rw [List.take_of_length_le h] at *
    exact leafQ hK (by simp [quoteM])
theorem s54 : (CtrOK Tryd.prog 54 (.gen .ps C54) ∧ Callable Tryd.prog 54) := by
  refine gen_ok (E := E54) (mkE_cons s55 (mkE_nil tab_ok)) mix (O := O54) (C := C54) (own := .ps) Tryd.func54 rfl (by rfl) (by kernel_rfl) (fun args K h hbd => ?_)
  unfold C54 at h; split at h
  case h_2 => exact h.elim
  exact ⟨Nat.le_of_ble_eq_true rfl, a54 _ _ (by exact hbd) _ h⟩
noncomputable def c25 (a : Bs) (n : Nd) (K : AV → List AV → Prop) : Prop :=
    Obl (okN n ∧ a.length + 64 * countM n ≤ 900000000) (K (.tup []) [.rb (a ++ fmtM n)])
noncomputable def m25 (a : Bs) (n : Nd) : Nat := SizeOf.sizeOf n
noncomputable def C25 : List AV → (AV → List AV → Prop) → Prop
  | [.rb a, .st [.int .i64 n_0, .int .i64 n_1, .str n_2, .ps .str n_3, .ps .node n_4]], K => c25 a ⟨n_0, n_1, n_2, n_3, n_4⟩ K
  | _, _ => False
noncomputable def Ck25 (k : Nat) : List AV → (AV → List AV → Prop) → Prop
  | [.rb a, .st [.int .i64 n_0, .int .i64 n_1, .str n_2, .ps .str n_3, .ps .node n_4]], K => Obl (m25 a ⟨n_0, n_1, n_2, n_3, n_4⟩ < k) (c25 a ⟨n_0, n_1, n_2, n_3, n_4⟩ K)
  | _, _ => False
noncomputable def E25 (k : Nat) : Ctx := mkE tab [(25, .gen .ps (Ck25 k)), (52, .gen .ps C52), (53, .pure F53z), (54, .gen .ps C54), (55, .gen .ps C55)]
noncomputable def O25 : Nat → List DI := ordL []
theorem a25 (k : Nat) (a : Bs) (n : Nd) (hm : m25 a n < k + 1) (hb : BdAs [.rb a, .st (ndC n)]) (K : AV → List AV → Prop) (h : c25 a n K) : abody (E25 k) O25 .ps Tryd.f25 (Tryd.f25.body.getD .skip) [.rb a, .st (ndC n)] K := by
  simp only [BdAs, BdA, BdL, BdC, MX, ndC, shC, itC, stC, opC, chC, nwC, flC, rqC, rsC, enc, List.cons_append, List.nil_append, and_true, true_and] at hb
  unfold c25 at h
  unfold m25 at hm
  obtain ⟨⟨hn, ho⟩, hK⟩ := h
  have hkid : ∀ j, j < n.kids.length → SizeOf.sizeOf (n.kids.getD j default) < k := fun j hj => by have := kid_size hj; omega
  have h6 := okN_kids hn
  have h7 := okN_num hn
  have ht := okN_text hn
  have hnm := (okN_names hn).2.1
  have hq := fun j (hj : j < n.names.length) => okN_name_len hn hj
  have hk0 := okN_kind hn
  have hf := okN_fmt hn
  have hfn := numM_len h7.1 h7.2
  conv => whnf
  repeat' first|((first|refine Cnd.mk (fun h=>?_) (fun h=>?_)|refine Gd.mk (fun h=>?_))<;>(try simp [etas,elDef,-List.getD_eq_getElem?_getD] at h)<;>conv=>whnf)|((first|refine Obl.mk (by first|omega|rfl|exact inK_byte _|(simp only [inK,Int.toNat_natCast,etas,elDef,m25,m25,o53z]<;>first|omega|grind)|grind [inK,m25,m25,o53z]) ?_|refine OblG.mk (by ((conv=>whnf);(repeat (first|refine Bx.mk ?_|(intro h;(try simp [etas,elDef,-List.getD_eq_getElem?_getD] at h);conv=>whnf)));(first|omega|rfl|exact inK_byte _|(simp only [inK,Int.toNat_natCast,etas,elDef,m25,m25,o53z]<;>first|omega|grind)|grind [inK,m25,m25,o53z]))) ?_|refine And.intro ?_ ?_)<;>conv=>whnf)|exact True.intro|(intro;conv=>whnf)
  · exact leafQ hK (by rw [fmt_none h])
  · exact leafQ hK (by rw [fmt_num h])
  · exact leafQ hK (by rw [fmt_text h])
  · have hk := h
    refine aloop_intro Nat (fun k => k ≤ n.kids.length ∧ True) (fun k => n.kids.length - k) (fun k => [(34, .int .i64 k)]) (fun k => [(1000000, .bld (a ++ 91 :: joinM n k))]) [3] 0 [] [] ?_ ?_ (by exact sgOk_of (by rfl)) ?_
    · first | (simp; done) | (simp; assumption)
    · iterate 2 ((all_goals (conv=>whnf));(repeat' (first|exact trivial|rfl|(refine nilEq ?_;first|rfl|(simp only [*];done)|(simp [*];done)|grind)|apply And.intro|((first|apply intEq|apply boolEq|apply strEq|apply psEq|apply nilEq|apply arrEq);(try simp only [Int.toNat_natCast,etas,elDef]);first | done | omega | grind | (simp only [*]; done) | (simp [*]; done)))));(all_goals ((try simp only [Int.toNat_natCast,etas,elDef]);first | done | omega | grind | (simp only [*]; done) | (simp [*]; done)))
    rintro i ⟨hi, hj⟩
    conv => whnf
    have e1 := fun h => joinM_succ (n := n) (i := i) h
    have e2 := fun h => join_room hn (i := i) h
    have e3 := join_end hn (i := i) hi
    have e4 := fun h => okN_kid hn (j := i) h
    repeat' first|((first|refine Cnd.mk (fun h=>?_) (fun h=>?_)|refine Gd.mk (fun h=>?_))<;>(try simp [etas,elDef,-List.getD_eq_getElem?_getD] at h)<;>conv=>whnf)|((first|refine Obl.mk (by first|omega|rfl|exact inK_byte _|(simp only [inK,Int.toNat_natCast,etas,elDef,m25,m25,o53z]<;>first|omega|grind)|grind [inK,m25,m25,o53z]) ?_|refine OblG.mk (by ((conv=>whnf);(repeat (first|refine Bx.mk ?_|(intro h;(try simp [etas,elDef,-List.getD_eq_getElem?_getD] at h);conv=>whnf)));(first|omega|rfl|exact inK_byte _|(simp only [inK,Int.toNat_natCast,etas,elDef,m25,m25,o53z]<;>first|omega|grind)|grind [inK,m25,m25,o53z]))) ?_|refine And.intro ?_ ?_)<;>conv=>whnf)|exact True.intro|(intro;conv=>whnf)
    · rename_i h5
      have e5 : joinM n (i + 1) = joinM n i ++ [44] ++ fmtM (n.kids.getD i default) := by
        rw [e1 h5]; unfold leadM; rw [if_pos h, hk]; simp
      exact ⟨i + 1, [], [], ⟨by omega, by grind⟩, by omega, by iterate 2 ((all_goals (conv=>whnf));(repeat' (first|exact trivial|rfl|(refine nilEq ?_;first|rfl|(simp only [*];done)|(simp [*];done)|grind)|apply And.intro|((first|apply intEq|apply boolEq|apply strEq|apply psEq|apply nilEq|apply arrEq);(try simp only [Int.toNat_natCast,etas,elDef]);first | done | omega | simp [e5]))));(all_goals ((try simp only [Int.toNat_natCast,etas,elDef]);first | done | omega | simp [e5])), (by exact sgOk_of (by rfl))⟩
    · rename_i h5
      have e5 : joinM n (i + 1) = joinM n i ++ fmtM (n.kids.getD i default) := by
        rw [e1 h5]; unfold leadM; rw [if_neg (by omega), hk]; simp
      exact ⟨i + 1, [], [], ⟨by omega, by grind⟩, by omega, by iterate 2 ((all_goals (conv=>whnf));(repeat' (first|exact trivial|rfl|(refine nilEq ?_;first|rfl|(simp only [*];done)|(simp [*];done)|grind)|apply And.intro|((first|apply intEq|apply boolEq|apply strEq|apply psEq|apply nilEq|apply arrEq);(try simp only [Int.toNat_natCast,etas,elDef]);first | done | omega | simp [e5]))));(all_goals ((try simp only [Int.toNat_natCast,etas,elDef]);first | done | omega | simp [e5])), (by exact sgOk_of (by rfl))⟩
    · have e5 : i = n.kids.length := by omega
      subst e5
      exact leafQ hK (by rw [fmt_list hk]; simp)
  · have hk := h
    have hnl := hnm hk
    refine aloop_intro Nat (fun k => k ≤ n.kids.length ∧ True) (fun k => n.kids.length - k) (fun k => [(56, .int .i64 k)]) (fun k => [(1000000, .bld (a ++ 123 :: joinM n k))]) [3] 0 [] [] ?_ ?_ (by exact sgOk_of (by rfl)) ?_
    · first | (simp; done) | (simp; assumption)
    · iterate 2 ((all_goals (conv=>whnf));(repeat' (first|exact trivial|rfl|(refine nilEq ?_;first|rfl|(simp only [*];done)|(simp [*];done)|grind)|apply And.intro|((first|apply intEq|apply boolEq|apply strEq|apply psEq|apply nilEq|apply arrEq);(try simp only [Int.toNat_natCast,etas,elDef]);first | done | omega | grind | (simp only [*]; done) | (simp [*]; done)))));(all_goals ((try simp only [Int.toNat_natCast,etas,elDef]);first | done | omega | grind | (simp only [*]; done) | (simp [*]; done)))
    rintro i ⟨hi, hj⟩
    conv => whnf
    have e1 := fun h => joinM_succ (n := n) (i := i) h
    have e2 := fun h => join_room hn (i := i) h
    have e3 := join_end hn (i := i) hi
    have e4 := fun h => okN_kid hn (j := i) h
    have e6 := hq i
    have e7 := quote_len (n.names.getD i [])
    repeat' first|((first|refine Cnd.mk (fun h=>?_) (fun h=>?_)|refine Gd.mk (fun h=>?_))<;>(try simp [etas,elDef,-List.getD_eq_getElem?_getD] at h)<;>conv=>whnf)|((first|refine Obl.mk (by first|omega|rfl|exact inK_byte _|(simp only [inK,Int.toNat_natCast,etas,elDef,m25,m25,o53z]<;>first|omega|grind)|grind [inK,m25,m25,o53z]) ?_|refine OblG.mk (by ((conv=>whnf);(repeat (first|refine Bx.mk ?_|(intro h;(try simp [etas,elDef,-List.getD_eq_getElem?_getD] at h);conv=>whnf)));(first|omega|rfl|exact inK_byte _|(simp only [inK,Int.toNat_natCast,etas,elDef,m25,m25,o53z]<;>first|omega|grind)|grind [inK,m25,m25,o53z]))) ?_|refine And.intro ?_ ?_)<;>conv=>whnf)|exact True.intro|(intro;conv=>whnf)
    · rename_i h5
      have e5 : joinM n (i + 1) = joinM n i ++ [44] ++ quoteM (n.names.getD i []) ++ [58] ++ fmtM (n.kids.getD i default) := by
        rw [e1 h5]; unfold leadM; rw [if_pos h, hk]; simp
      exact ⟨i + 1, [], [], ⟨by omega, by grind⟩, by omega, by iterate 2 ((all_goals (conv=>whnf));(repeat' (first|exact trivial|rfl|(refine nilEq ?_;first|rfl|(simp only [*];done)|(simp [*];done)|grind)|apply And.intro|((first|apply intEq|apply boolEq|apply strEq|apply psEq|apply nilEq|apply arrEq);(try simp only [Int.toNat_natCast,etas,elDef]);first | done | omega | simp [e5]))));(all_goals ((try simp only [Int.toNat_natCast,etas,elDef]);first | done | omega | simp [e5])), (by exact sgOk_of (by rfl))⟩
    · rename_i h5
      have e5 : joinM n (i + 1) = joinM n i ++ quoteM (n.names.getD i []) ++ [58] ++ fmtM (n.kids.getD i default) := by
        rw [e1 h5]; unfold leadM; rw [if_neg (by omega), hk]; simp
      exact ⟨i + 1, [], [], ⟨by omega, by grind⟩, by omega, by iterate 2 ((all_goals (conv=>whnf));(repeat' (first|exact trivial|rfl|(refine nilEq ?_;first|rfl|(simp only [*];done)|(simp [*];done)|grind)|apply And.intro|((first|apply intEq|apply boolEq|apply strEq|apply psEq|apply nilEq|apply arrEq);(try simp only [Int.toNat_natCast,etas,elDef]);first | done | omega | simp [e5]))));(all_goals ((try simp only [Int.toNat_natCast,etas,elDef]);first | done | omega | simp [e5])), (by exact sgOk_of (by rfl))⟩
    · have e5 : i = n.kids.length := by omega
      subst e5
      exact leafQ hK (by rw [fmt_map hk]; simp)
  · exfalso; omega
theorem r25 : ∀ k, (CtrOK Tryd.prog 25 (.gen .ps (Ck25 k)) ∧ Callable Tryd.prog 25) := by
  intro k
  induction k with
  | zero =>
    exact ⟨fun args K h => by
        unfold Ck25 at h; split at h
        · exact absurd h.o (Nat.not_lt_zero _)
        · exact h.elim, callable Tryd.func25 rfl (by rfl)⟩
  | succ k ih =>
    refine gen_ok (E := E25 k) (mkE_cons ih (mkE_cons s52 (mkE_cons s53z (mkE_cons s54 (mkE_cons s55 (mkE_nil tab_ok)))))) mix (O := O25) (C := (Ck25 (k + 1))) (own := .ps) Tryd.func25 rfl (by rfl) (by kernel_rfl) (fun args K h hbd => ?_)
    unfold Ck25 at h; split at h
    case h_2 => exact h.elim
    exact ⟨Nat.le_of_ble_eq_true rfl, a25 k _ ⟨_, _, _, _, _⟩ h.o (by exact hbd) _ h.k⟩
theorem s25 : (CtrOK Tryd.prog 25 (.gen .ps C25) ∧ Callable Tryd.prog 25) := by
  refine ⟨fun args K h => ?_, (r25 0).2⟩
  unfold C25 at h; split at h
  · exact (r25 (m25 _ ⟨_, _, _, _, _⟩ + 1)).1 _ K ⟨Nat.lt_succ_self _, h⟩
  · exact h.elim
noncomputable def v9 (n : Nd) : AV := .str (textM n)
noncomputable def o9 (n : Nd) : Prop := True
noncomputable def F9 : List AV → QR
  | [.st [.int .i64 n_0, .int .i64 n_1, .str n_2, .ps .str n_3, .ps .node n_4]] => some (none, v9 ⟨n_0, n_1, n_2, n_3, n_4⟩)
  | _ => none
noncomputable def E9 : Ctx := mkE tab [(15, .pure F15), (25, .gen .ps C25), (26, .gen .ps C26)]
noncomputable def O9 : Nat → List DI := ordL []
theorem a9 (n : Nd) (hb : BdAs [.st (ndC n)]) (ho : o9 n) (K : AV → List AV → Prop) (hK : K (v9 n) []) : abody E9 O9 .ps Tryd.f9 (Tryd.f9.body.getD .skip) [.st (ndC n)] K := by
  simp only [BdAs, BdA, BdL, BdC, MX, ndC, shC, itC, stC, opC, chC, nwC, flC, rqC, rsC, enc, List.cons_append, List.nil_append, and_true, true_and] at hb
  unfold v9 at hK
  have h1 := fun h => validM_ok (n := n) h
  have h2 := fun h => (validM_iff (n := n).1 h).2
  conv => whnf
  repeat' first|((first|refine Cnd.mk (fun h=>?_) (fun h=>?_)|refine Gd.mk (fun h=>?_))<;>(try simp [etas,elDef,-List.getD_eq_getElem?_getD] at h)<;>conv=>whnf)|((first|refine Obl.mk (by first|omega|rfl|exact inK_byte _|(simp only [inK,Int.toNat_natCast,etas,elDef,m25]<;>first|omega|grind)|grind [inK,m25]) ?_|refine OblG.mk (by ((conv=>whnf);(repeat (first|refine Bx.mk ?_|(intro h;(try simp [etas,elDef,-List.getD_eq_getElem?_getD] at h);conv=>whnf)));(first|omega|rfl|exact inK_byte _|(simp only [inK,Int.toNat_natCast,etas,elDef,m25]<;>first|omega|grind)|grind [inK,m25]))) ?_|refine And.intro ?_ ?_)<;>conv=>whnf)|exact True.intro|(intro;conv=>whnf)
  · exact leafS hK (by unfold textM; rw [if_neg (by simp [h])])
  · exact leafS hK (by unfold textM; rw [if_pos h]; simp [nd_eta])
theorem s9 : (CtrOK Tryd.prog 9 (.pure F9) ∧ Callable Tryd.prog 9) := by
  refine pure_ok (E := E9) (mkE_cons s15 (mkE_cons s25 (mkE_cons s26 (mkE_nil tab_ok)))) mix (O := O9) (F := F9) Tryd.func9 rfl (by rfl) (by kernel_rfl) (fun args o v h => ?_) (fun args o v h => ?_) (fun args o v h hbd hp K hK => ?_)
  · unfold F9 at h; split at h <;> cases h; first | trivial | (simp [v9, Scalar, Scalar2, Scalar1, stC, ndC, itC, chC, nwC])
  · unfold F9 at h; split at h <;> cases h; exact Nat.le_of_ble_eq_true rfl
  · unfold F9 at h; split at h
    case h_2 => cases h
    cases h
    exact a9 ⟨_, _, _, _, _⟩ (by exact hbd) trivial K hK
noncomputable def v59 (s : Bs) : AV := .str (quoteM s)
noncomputable def o59 (s : Bs) : Prop := s.length ≤ 1000000
noncomputable def F59 : List AV → QR
  | [.str s] => some (some (o59 s), v59 s)
  | _ => none
noncomputable def E59 : Ctx := mkE tab []
noncomputable def O59 : Nat → List DI := ordL []
theorem a59 (s : Bs) (hb : BdAs [.str s]) (ho : o59 s) (K : AV → List AV → Prop) (hK : K (v59 s) []) : abody E59 O59 .ps Tryd.f59 (Tryd.f59.body.getD .skip) [.str s] K := by
  simp only [BdAs, BdA, BdL, BdC, MX, ndC, shC, itC, stC, opC, chC, nwC, flC, rqC, rsC, enc, List.cons_append, List.nil_append, and_true, true_and] at hb
  unfold o59 at ho
  unfold v59 at hK
  conv => whnf
  repeat' first|((first|refine Cnd.mk (fun h=>?_) (fun h=>?_)|refine Gd.mk (fun h=>?_))<;>(try simp [etas,elDef,-List.getD_eq_getElem?_getD] at h)<;>conv=>whnf)|((first|refine Obl.mk (by first|omega|rfl|exact inK_byte _|(simp only [inK,Int.toNat_natCast,etas,elDef]<;>first|omega|grind)|grind [inK]) ?_|refine OblG.mk (by ((conv=>whnf);(repeat (first|refine Bx.mk ?_|(intro h;(try simp [etas,elDef,-List.getD_eq_getElem?_getD] at h);conv=>whnf)));(first|omega|rfl|exact inK_byte _|(simp only [inK,Int.toNat_natCast,etas,elDef]<;>first|omega|grind)|grind [inK]))) ?_|refine And.intro ?_ ?_)<;>conv=>whnf)|exact True.intro|(intro;conv=>whnf)
  refine aloop_intro Nat (fun k => k ≤ s.length ∧ True) (fun k => s.length - k) (fun k => [(4, .int .i64 k), (3, .str (34 :: escsM (s.take k)))]) (fun k => []) [] 0 [] [] ?_ ?_ (by exact sgOk_of (by rfl)) ?_
  · first | (simp; done) | (simp; assumption)
  · iterate 2 ((all_goals (conv=>whnf));(repeat' (first|exact trivial|rfl|(refine nilEq ?_;first|rfl|(simp only [*];done)|(simp [*];done)|grind)|apply And.intro|((first|apply intEq|apply boolEq|apply strEq|apply psEq|apply nilEq|apply arrEq);(try simp only [Int.toNat_natCast,etas,elDef]);first | done | omega | grind | (simp only [*]; done) | (simp [*]; done)))));(all_goals ((try simp only [Int.toNat_natCast,etas,elDef]);first | done | omega | grind | (simp only [*]; done) | (simp [*]; done)))
  rintro i ⟨hi, hj⟩
  conv => whnf
  have hl := escs_take_len s i
  have hs := fun (h : i < s.length) => escs_take h
  have h9 := fun (h : i < s.length) => char_slice h
  repeat' first|((first|refine Cnd.mk (fun h=>?_) (fun h=>?_)|refine Gd.mk (fun h=>?_))<;>(try simp [etas,elDef,-List.getD_eq_getElem?_getD] at h)<;>conv=>whnf)|((first|refine Obl.mk (by first|omega|rfl|exact inK_byte _|(simp only [inK,Int.toNat_natCast,etas,elDef]<;>first|omega|grind)|grind [inK]) ?_|refine OblG.mk (by ((conv=>whnf);(repeat (first|refine Bx.mk ?_|(intro h;(try simp [etas,elDef,-List.getD_eq_getElem?_getD] at h);conv=>whnf)));(first|omega|rfl|exact inK_byte _|(simp only [inK,Int.toNat_natCast,etas,elDef]<;>first|omega|grind)|grind [inK]))) ?_|refine And.intro ?_ ?_)<;>conv=>whnf)|exact True.intro|(intro;conv=>whnf)
  · rename_i h5
    have e2 : escsM (s.take (i + 1)) = escsM (s.take i) ++ [92, s.getD i 0] := by rw [hs h5, esc_yes h]
    exact ⟨i + 1, [], [], ⟨by omega, by grind⟩, by omega, by iterate 2 ((all_goals (conv=>whnf));(repeat' (first|exact trivial|rfl|(refine nilEq ?_;first|rfl|(simp only [*];done)|(simp [*];done)|grind)|apply And.intro|((first|apply intEq|apply boolEq|apply strEq|apply psEq|apply nilEq|apply arrEq);(try simp only [Int.toNat_natCast,etas,elDef]);first | done | omega | simp [e2, h9 h5]))));(all_goals ((try simp only [Int.toNat_natCast,etas,elDef]);first | done | omega | simp [e2, h9 h5])), (by exact sgOk_of (by rfl))⟩
  · rename_i h5
    have e2 : escsM (s.take (i + 1)) = escsM (s.take i) ++ [s.getD i 0] := by rw [hs h5, esc_no h]
    exact ⟨i + 1, [], [], ⟨by omega, by grind⟩, by omega, by iterate 2 ((all_goals (conv=>whnf));(repeat' (first|exact trivial|rfl|(refine nilEq ?_;first|rfl|(simp only [*];done)|(simp [*];done)|grind)|apply And.intro|((first|apply intEq|apply boolEq|apply strEq|apply psEq|apply nilEq|apply arrEq);(try simp only [Int.toNat_natCast,etas,elDef]);first | done | omega | simp [e2, h9 h5]))));(all_goals ((try simp only [Int.toNat_natCast,etas,elDef]);first | done | omega | simp [e2, h9 h5])), (by exact sgOk_of (by rfl))⟩
  · exact leafS hK (by rw [List.take_of_length_le h]; simp [quoteM])
theorem s59 : (CtrOK Tryd.prog 59 (.pure F59) ∧ Callable Tryd.prog 59) := by
  refine pure_ok (E := E59) (mkE_nil tab_ok) mix (O := O59) (F := F59) Tryd.func59 rfl (by rfl) (by kernel_rfl) (fun args o v h => ?_) (fun args o v h => ?_) (fun args o v h hbd hp K hK => ?_)
  · unfold F59 at h; split at h <;> cases h; first | trivial | (simp [v59, Scalar, Scalar2, Scalar1, stC, ndC, itC, chC, nwC])
  · unfold F59 at h; split at h <;> cases h; exact Nat.le_of_ble_eq_true rfl
  · unfold F59 at h; split at h
    case h_2 => cases h
    cases h
    exact a59 _ (by exact hbd) (hp _ rfl) K hK
noncomputable def v28 (n : Nd) : AV := .str (fmtM n)
noncomputable def o28 (n : Nd) : Prop := okN n
noncomputable def m28 (n : Nd) : Nat := SizeOf.sizeOf n
noncomputable def F28 : List AV → QR
  | [.st [.int .i64 n_0, .int .i64 n_1, .str n_2, .ps .str n_3, .ps .node n_4]] => some (some (o28 ⟨n_0, n_1, n_2, n_3, n_4⟩), v28 ⟨n_0, n_1, n_2, n_3, n_4⟩)
  | _ => none
noncomputable def Fk28 (k : Nat) : List AV → QR
  | [.st [.int .i64 n_0, .int .i64 n_1, .str n_2, .ps .str n_3, .ps .node n_4]] => some (some (m28 ⟨n_0, n_1, n_2, n_3, n_4⟩ < k ∧ o28 ⟨n_0, n_1, n_2, n_3, n_4⟩), v28 ⟨n_0, n_1, n_2, n_3, n_4⟩)
  | _ => none
noncomputable def E28 (k : Nat) : Ctx := mkE tab [(28, .pure (Fk28 k)), (58, .pure F58z), (59, .pure F59)]
noncomputable def O28 : Nat → List DI := ordL []
theorem a28 (k : Nat) (n : Nd) (hm : m28 n < k + 1) (hb : BdAs [.st (ndC n)]) (ho : o28 n) (K : AV → List AV → Prop) (hK : K (v28 n) []) : abody (E28 k) O28 .ps Tryd.f28 (Tryd.f28.body.getD .skip) [.st (ndC n)] K := by
  simp only [BdAs, BdA, BdL, BdC, MX, ndC, shC, itC, stC, opC, chC, nwC, flC, rqC, rsC, enc, List.cons_append, List.nil_append, and_true, true_and] at hb
  unfold o28 at ho
  unfold v28 at hK
  unfold m28 at hm
  have hkid : ∀ j, j < n.kids.length → SizeOf.sizeOf (n.kids.getD j default) < k := fun j hj => by have := kid_size hj; omega
  have h6 := okN_kids ho
  have h7 := okN_num ho
  have ht := okN_text ho
  have hnm := (okN_names ho).2.1
  have hq := fun j (hj : j < n.names.length) => okN_name_len ho hj
  have hk0 := okN_kind ho
  have hf := okN_fmt ho
  have hc := okN_count ho
  conv => whnf
  repeat' first|((first|refine Cnd.mk (fun h=>?_) (fun h=>?_)|refine Gd.mk (fun h=>?_))<;>(try simp [etas,elDef,-List.getD_eq_getElem?_getD] at h)<;>conv=>whnf)|((first|refine Obl.mk (by first|omega|rfl|exact inK_byte _|(simp only [inK,Int.toNat_natCast,etas,elDef,m28,o28,m28,o58z,o59]<;>first|omega|grind)|grind [inK,m28,o28,m28,o58z,o59]) ?_|refine OblG.mk (by ((conv=>whnf);(repeat (first|refine Bx.mk ?_|(intro h;(try simp [etas,elDef,-List.getD_eq_getElem?_getD] at h);conv=>whnf)));(first|omega|rfl|exact inK_byte _|(simp only [inK,Int.toNat_natCast,etas,elDef,m28,o28,m28,o58z,o59]<;>first|omega|grind)|grind [inK,m28,o28,m28,o58z,o59]))) ?_|refine And.intro ?_ ?_)<;>conv=>whnf)|exact True.intro|(intro;conv=>whnf)
  · exact leafS hK (fmt_num h)
  · exact leafS hK (fmt_text h)
  · exact leafS hK (fmt_none h)
  · refine aloop_intro Nat (fun k => k ≤ n.kids.length ∧ True) (fun k => n.kids.length - k) (fun k => [(4, .int .i64 k), (3, .str (joinM n k))]) (fun k => []) [1] 0 [] [] ?_ ?_ (by exact sgOk_of (by rfl)) ?_
    · first | (simp; done) | (simp; assumption)
    · iterate 2 ((all_goals (conv=>whnf));(repeat' (first|exact trivial|rfl|(refine nilEq ?_;first|rfl|(simp only [*];done)|(simp [*];done)|grind)|apply And.intro|((first|apply intEq|apply boolEq|apply strEq|apply psEq|apply nilEq|apply arrEq);(try simp only [Int.toNat_natCast,etas,elDef]);first | done | omega | grind | (simp only [*]; done) | (simp [*]; done)))));(all_goals ((try simp only [Int.toNat_natCast,etas,elDef]);first | done | omega | grind | (simp only [*]; done) | (simp [*]; done)))
    rintro i ⟨hi, hj⟩
    conv => whnf
    have e1 := fun h => joinM_succ (n := n) (i := i) h
    have e2 := fun h => join_room ho (i := i) h
    have e3 := join_end ho (i := i) hi
    have e4 := fun h => okN_kid ho (j := i) h
    have e6 := hq i
    have e7 := quote_len (n.names.getD i [])
    have e8 := fun h => okN_fmt (okN_kid ho (j := i) h)
    repeat' first|((first|refine Cnd.mk (fun h=>?_) (fun h=>?_)|refine Gd.mk (fun h=>?_))<;>(try simp [etas,elDef,-List.getD_eq_getElem?_getD] at h)<;>conv=>whnf)|((first|refine Obl.mk (by first|omega|rfl|exact inK_byte _|(simp only [inK,Int.toNat_natCast,etas,elDef,m28,o28,m28,o58z,o59]<;>first|omega|grind)|grind [inK,m28,o28,m28,o58z,o59]) ?_|refine OblG.mk (by ((conv=>whnf);(repeat (first|refine Bx.mk ?_|(intro h;(try simp [etas,elDef,-List.getD_eq_getElem?_getD] at h);conv=>whnf)));(first|omega|rfl|exact inK_byte _|(simp only [inK,Int.toNat_natCast,etas,elDef,m28,o28,m28,o58z,o59]<;>first|omega|grind)|grind [inK,m28,o28,m28,o58z,o59]))) ?_|refine And.intro ?_ ?_)<;>conv=>whnf)|exact True.intro|(intro;conv=>whnf)
    · rename_i h5 h50
      have e5 : joinM n (i + 1) = joinM n i ++ [44] ++ quoteM (n.names.getD i []) ++ [58] ++ fmtM (n.kids.getD i default) := by
        rw [e1 h5]; unfold leadM; rw [if_pos h50, if_pos h]; simp
      exact ⟨i + 1, [], [], ⟨by omega, by grind⟩, by omega, by iterate 2 ((all_goals (conv=>whnf));(repeat' (first|exact trivial|rfl|(refine nilEq ?_;first|rfl|(simp only [*];done)|(simp [*];done)|grind)|apply And.intro|((first|apply intEq|apply boolEq|apply strEq|apply psEq|apply nilEq|apply arrEq);(try simp only [Int.toNat_natCast,etas,elDef]);first | done | omega | simp [e5]))));(all_goals ((try simp only [Int.toNat_natCast,etas,elDef]);first | done | omega | simp [e5])), (by exact sgOk_of (by rfl))⟩
    · rename_i h5 h50
      have e5 : joinM n (i + 1) = joinM n i ++ [44] ++ fmtM (n.kids.getD i default) := by
        rw [e1 h5]; unfold leadM; rw [if_pos h50, if_neg h]; simp
      exact ⟨i + 1, [], [], ⟨by omega, by grind⟩, by omega, by iterate 2 ((all_goals (conv=>whnf));(repeat' (first|exact trivial|rfl|(refine nilEq ?_;first|rfl|(simp only [*];done)|(simp [*];done)|grind)|apply And.intro|((first|apply intEq|apply boolEq|apply strEq|apply psEq|apply nilEq|apply arrEq);(try simp only [Int.toNat_natCast,etas,elDef]);first | done | omega | simp [e5]))));(all_goals ((try simp only [Int.toNat_natCast,etas,elDef]);first | done | omega | simp [e5])), (by exact sgOk_of (by rfl))⟩
    · rename_i h5 h50
      have e5 : joinM n (i + 1) = joinM n i ++ quoteM (n.names.getD i []) ++ [58] ++ fmtM (n.kids.getD i default) := by
        rw [e1 h5]; unfold leadM; rw [if_neg (by omega), if_pos h]; simp
      exact ⟨i + 1, [], [], ⟨by omega, by grind⟩, by omega, by iterate 2 ((all_goals (conv=>whnf));(repeat' (first|exact trivial|rfl|(refine nilEq ?_;first|rfl|(simp only [*];done)|(simp [*];done)|grind)|apply And.intro|((first|apply intEq|apply boolEq|apply strEq|apply psEq|apply nilEq|apply arrEq);(try simp only [Int.toNat_natCast,etas,elDef]);first | done | omega | simp [e5]))));(all_goals ((try simp only [Int.toNat_natCast,etas,elDef]);first | done | omega | simp [e5])), (by exact sgOk_of (by rfl))⟩
    · rename_i h5 h50
      have e5 : joinM n (i + 1) = joinM n i ++ fmtM (n.kids.getD i default) := by
        rw [e1 h5]; unfold leadM; rw [if_neg (by omega), if_neg h]; simp
      exact ⟨i + 1, [], [], ⟨by omega, by grind⟩, by omega, by iterate 2 ((all_goals (conv=>whnf));(repeat' (first|exact trivial|rfl|(refine nilEq ?_;first|rfl|(simp only [*];done)|(simp [*];done)|grind)|apply And.intro|((first|apply intEq|apply boolEq|apply strEq|apply psEq|apply nilEq|apply arrEq);(try simp only [Int.toNat_natCast,etas,elDef]);first | done | omega | simp [e5]))));(all_goals ((try simp only [Int.toNat_natCast,etas,elDef]);first | done | omega | simp [e5])), (by exact sgOk_of (by rfl))⟩
    · have hk := h
      have e5 : i = n.kids.length := by omega
      subst e5
      exact leafS hK (by rw [fmt_map hk]; simp)
    · have hk : n.kind = 3 := by omega
      have e5 : i = n.kids.length := by omega
      subst e5
      exact leafS hK (by rw [fmt_list hk]; simp)
theorem r28 : ∀ k, (CtrOK Tryd.prog 28 (.pure (Fk28 k)) ∧ Callable Tryd.prog 28) := by
  intro k
  induction k with
  | zero =>
    exact ⟨⟨fun args o v h => by unfold Fk28 at h; split at h <;> cases h; first | trivial | (simp [v28, Scalar, Scalar2, Scalar1, stC, ndC, itC, chC, nwC]), fun args K h => by
        unfold pureC Fk28 at h; split at h
        · rename_i h1; split at h1 <;> cases h1; exact absurd (h.1 _ rfl).1 (Nat.not_lt_zero _)
        · exact h.elim⟩, callable Tryd.func28 rfl (by rfl)⟩
  | succ k ih =>
    refine pure_ok (E := E28 k) (mkE_cons ih (mkE_cons s58z (mkE_cons s59 (mkE_nil tab_ok)))) mix (O := O28) (F := (Fk28 (k + 1))) Tryd.func28 rfl (by rfl) (by kernel_rfl) (fun args o v h => ?_) (fun args o v h => ?_) (fun args o v h hbd hp K hK => ?_)
    · unfold Fk28 at h; split at h <;> cases h; first | trivial | (simp [v28, Scalar, Scalar2, Scalar1, stC, ndC, itC, chC, nwC])
    · unfold Fk28 at h; split at h <;> cases h; exact Nat.le_of_ble_eq_true rfl
    · unfold Fk28 at h; split at h
      case h_2 => cases h
      cases h
      exact a28 k ⟨_, _, _, _, _⟩ (hp _ rfl).1 (by exact hbd) (hp _ rfl).2 K hK
theorem s28 : (CtrOK Tryd.prog 28 (.pure F28) ∧ Callable Tryd.prog 28) := by
  refine ⟨⟨fun args o v h => ?_, fun args K h => ?_⟩, (r28 0).2⟩
  · unfold F28 at h; split at h <;> cases h; first | trivial | (simp [v28, Scalar, Scalar2, Scalar1, stC, ndC, itC, chC, nwC])
  · unfold pureC F28 at h; split at h
    · rename_i h1; split at h1 <;> cases h1
      exact (r28 (m28 ⟨_, _, _, _, _⟩ + 1)).1.2 _ K ⟨fun p hp => by cases hp; exact ⟨Nat.lt_succ_self _, (h.1 _ rfl)⟩, h.2⟩
    · exact h.elim
noncomputable def v10 (n : Nd) : AV := .str (textM n)
noncomputable def o10 (n : Nd) : Prop := True
noncomputable def F10 : List AV → QR
  | [.st [.int .i64 n_0, .int .i64 n_1, .str n_2, .ps .str n_3, .ps .node n_4]] => some (none, v10 ⟨n_0, n_1, n_2, n_3, n_4⟩)
  | _ => none
noncomputable def E10 : Ctx := mkE tab [(27, .pure F27), (28, .pure F28)]
noncomputable def O10 : Nat → List DI := ordL []
theorem a10 (n : Nd) (hb : BdAs [.st (ndC n)]) (ho : o10 n) (K : AV → List AV → Prop) (hK : K (v10 n) []) : abody E10 O10 .ps Tryd.f10 (Tryd.f10.body.getD .skip) [.st (ndC n)] K := by
  simp only [BdAs, BdA, BdL, BdC, MX, ndC, shC, itC, stC, opC, chC, nwC, flC, rqC, rsC, enc, List.cons_append, List.nil_append, and_true, true_and] at hb
  unfold v10 at hK
  have h1 := fun h => validM_ok (n := n) h
  conv => whnf
  repeat' first|((first|refine Cnd.mk (fun h=>?_) (fun h=>?_)|refine Gd.mk (fun h=>?_))<;>(try simp [etas,elDef,-List.getD_eq_getElem?_getD] at h)<;>conv=>whnf)|((first|refine Obl.mk (by first|omega|rfl|exact inK_byte _|(simp only [inK,Int.toNat_natCast,etas,elDef,o28,m28]<;>first|omega|grind)|grind [inK,o28,m28]) ?_|refine OblG.mk (by ((conv=>whnf);(repeat (first|refine Bx.mk ?_|(intro h;(try simp [etas,elDef,-List.getD_eq_getElem?_getD] at h);conv=>whnf)));(first|omega|rfl|exact inK_byte _|(simp only [inK,Int.toNat_natCast,etas,elDef,o28,m28]<;>first|omega|grind)|grind [inK,o28,m28]))) ?_|refine And.intro ?_ ?_)<;>conv=>whnf)|exact True.intro|(intro;conv=>whnf)
  · exact leafS hK (by unfold textM; rw [if_neg (by simp [h])])
  · exact leafS hK (by unfold textM; rw [if_pos h]; simp [nd_eta])
theorem s10 : (CtrOK Tryd.prog 10 (.pure F10) ∧ Callable Tryd.prog 10) := by
  refine pure_ok (E := E10) (mkE_cons s27 (mkE_cons s28 (mkE_nil tab_ok))) mix (O := O10) (F := F10) Tryd.func10 rfl (by rfl) (by kernel_rfl) (fun args o v h => ?_) (fun args o v h => ?_) (fun args o v h hbd hp K hK => ?_)
  · unfold F10 at h; split at h <;> cases h; first | trivial | (simp [v10, Scalar, Scalar2, Scalar1, stC, ndC, itC, chC, nwC])
  · unfold F10 at h; split at h <;> cases h; exact Nat.le_of_ble_eq_true rfl
  · unfold F10 at h; split at h
    case h_2 => cases h
    cases h
    exact a10 ⟨_, _, _, _, _⟩ (by exact hbd) trivial K hK
end Go.Rs

