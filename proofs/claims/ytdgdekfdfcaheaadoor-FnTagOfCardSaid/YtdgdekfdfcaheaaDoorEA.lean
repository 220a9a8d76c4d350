import Derived.Test.YtdgdekfdfcaheaaDoorCY
import Derived.Test.YtdgdekfdfcaheaaDoorCK
import Derived.Test.YtdgdekfdfcaheaaDoorCP
import Derived.Test.YtdgdekfdfcaheaaDoorMF
import Derived.Shelf.LaysM
import Derived.Shelf.Strconv.Itoa3
set_option linter.all false
set_option linter.unusedSimpArgs false
set_option linter.unusedVariables false
namespace Go.Proofs
open Go.Shelf
def Tryd.laysM171_ren : Go.Shelf.Ren := ⟨fun | 171 => 39 | 243 => 54 | 246 => 67 | 283 => 77 | 284 => 78 | 285 => 79 | 286 => 80 | 129 => 85 | 317 => 84 | 318 => 86 | 319 => 87 | 320 => 88 | 337 => 91 | 338 => 92 | n => n, fun | 3 => 3 | 9 => 9 | 2 => 2 | 4 => 4 | 171 => 96 | 0 => 0 | 53 => 97 | 37 => 22 | 5 => 5 | 173 => 100 | 212 => 109 | 51 => 110 | 20 => 20 | 213 => 111 | 46 => 104 | 232 => 119 | 233 => 120 | n => n, fun | 17 => 3 | 18 => 4 | 19 => 5 | n => n⟩
theorem Tryd.laysM171 : Go.Proofs.LaysM.n171 Tryd.prog Tryd.laysM171_ren := {
  mixed := by kernel_rfl
  f129 := Tryd.func85.trans (congrArg some (by kernel_rfl))
  f171 := Tryd.func39.trans (congrArg some (by kernel_rfl))
  f243 := Tryd.func54.trans (congrArg some (by kernel_rfl))
  f246 := Tryd.func67.trans (congrArg some (by kernel_rfl))
  f283 := Tryd.func77.trans (congrArg some (by kernel_rfl))
  f284 := Tryd.func78.trans (congrArg some (by kernel_rfl))
  f285 := Tryd.func79.trans (congrArg some (by kernel_rfl))
  f286 := Tryd.func80.trans (congrArg some (by kernel_rfl))
  f317 := Tryd.func84.trans (congrArg some (by kernel_rfl))
  f318 := Tryd.func86.trans (congrArg some (by kernel_rfl))
  f319 := Tryd.func87.trans (congrArg some (by kernel_rfl))
  f320 := Tryd.func88.trans (congrArg some (by kernel_rfl))
  f337 := Tryd.func91.trans (congrArg some (by kernel_rfl))
  f338 := Tryd.func92.trans (congrArg some (by kernel_rfl))
  t0 := Tryd.underlying0
  a0 := Tryd.isAgg0
  z0 := Tryd.sizeOf0
  v0 := Tryd.zeroValue0
  t2 := Tryd.underlying2
  a2 := Tryd.isAgg2
  z2 := Tryd.sizeOf2
  v2 := Tryd.zeroValue2
  t3 := Tryd.underlying3
  a3 := Tryd.isAgg3
  z3 := Tryd.sizeOf3
  v3 := Tryd.zeroValue3
  t4 := Tryd.underlying4
  a4 := Tryd.isAgg4
  z4 := Tryd.sizeOf4
  v4 := Tryd.zeroValue4
  t5 := Tryd.underlying5
  a5 := Tryd.isAgg5
  z5 := Tryd.sizeOf5
  v5 := Tryd.zeroValue5
  t9 := Tryd.underlying9
  a9 := Tryd.isAgg9
  z9 := Tryd.sizeOf9
  v9 := Tryd.zeroValue9
  t20 := Tryd.underlying20
  a20 := Tryd.isAgg20
  z20 := Tryd.sizeOf20
  v20 := Tryd.zeroValue20
  t37 := Tryd.underlying22
  a37 := Tryd.isAgg22
  z37 := Tryd.sizeOf22
  v37 := Tryd.zeroValue22
  t46 := Tryd.underlying104
  a46 := Tryd.isAgg104
  z46 := Tryd.sizeOf104
  v46 := Tryd.zeroValue104
  t51 := Tryd.underlying110
  a51 := Tryd.isAgg110
  z51 := Tryd.sizeOf110
  v51 := Tryd.zeroValue110
  t53 := Tryd.underlying97
  a53 := Tryd.isAgg97
  z53 := Tryd.sizeOf97
  v53 := Tryd.zeroValue97
  t171 := Tryd.underlying96
  a171 := Tryd.isAgg96
  z171 := Tryd.sizeOf96
  v171 := Tryd.zeroValue96
  t173 := Tryd.underlying100
  a173 := Tryd.isAgg100
  z173 := Tryd.sizeOf100
  v173 := Tryd.zeroValue100
  t212 := Tryd.underlying109
  a212 := Tryd.isAgg109
  z212 := Tryd.sizeOf109
  v212 := Tryd.zeroValue109
  t213 := Tryd.underlying111
  a213 := Tryd.isAgg111
  z213 := Tryd.sizeOf111
  t232 := Tryd.underlying119
  a232 := Tryd.isAgg119
  z232 := Tryd.sizeOf119
  v232 := Tryd.zeroValue119
  t233 := Tryd.underlying120
  a233 := Tryd.isAgg120
  z233 := Tryd.sizeOf120
  v233 := Tryd.zeroValue120
  g17 := by kernel_rfl
  g18 := by kernel_rfl
  g19 := by kernel_rfl
  i0 := by kernel_rfl
  i2 := by kernel_rfl
  i3 := by kernel_rfl
  i4 := by kernel_rfl
  i5 := by kernel_rfl
  i9 := by kernel_rfl
  i20 := by kernel_rfl
  i37 := by kernel_rfl
  i46 := by kernel_rfl
  i51 := by kernel_rfl
  i53 := by kernel_rfl
  i171 := by kernel_rfl
  i173 := by kernel_rfl
  i212 := by kernel_rfl
  i232 := by kernel_rfl
  i233 := by kernel_rfl
  m17 := by kernel_rfl
  m18 := by kernel_rfl
  m19 := by kernel_rfl }
end Go.Proofs
namespace Go.Rs
open Go.Proofs Go.RowKit Go.Sort
set_option maxRecDepth 100000
-- 20
theorem leafQ {K : AV → List AV → Prop} {v : AV} {a b : Bs} (hK : K v [.rb a]) (h : a = b) : K v [.rb b] := h ▸ hK
theorem dec_eq (n : Nat) : Lib.decDigits n = decM n := by
  induction n using Nat.strongRecOn with
  | _ n ih =>
    rw [Lib.decDigits]
    by_cases h : n < 10
    · rw [dif_pos h, decM_lt h]
    · rw [dif_neg h, decM_ge h, ih _ (by omega)]
theorem itoa_eq (n : Int) : Lib.itoa n = numM n := by
  unfold Lib.itoa numM
  by_cases h : n < 0
  · rw [if_pos h, if_pos h, dec_eq, show n.natAbs = (-n).toNat by omega]
  · rw [if_neg h, if_neg h, dec_eq]
theorem numM_len20 {z : Int} (h1 : -9223372036854775808 ≤ z) (h2 : z ≤ 9223372036854775807) : (numM z).length ≤ 21 := by
  have e : (10 : Nat) ^ 20 = 100000000000000000000 := rfl
  unfold numM
  split
  · have := decM_len_le 19 (-z).toNat (by omega)
    simp; omega
  · have := decM_len_le 19 z.toNat (by omega)
    omega
theorem tab_is {w : World} (ht : Tabs w) {nm : String} (hg : Tryd.prog.globalNamed nm = some 3) : Lib.TabIs Tryd.prog w nm .u64 Lib.pow10Tab := by
  obtain ⟨T, fz, h⟩ := ht.tab 3 rfl
  unfold Lib.TabIs World.var?
  rw [hg]
  simp only [Option.bind_some, h]
  rfl
theorem itoa_call (n : Int) (h0 : -9223372036854775808 ≤ n) (h1 : n ≤ 9223372036854775807) (w : World) (ht : Tabs w) :
    Calls Tryd.prog 39 #[.int .i64 n] w fun e w' => e = .returned (.string ⟨(numM n).toArray⟩) ∧ ∃ k os, w' = grow (w.drewN k) os := by
  rw [← itoa_eq]
  exact Any.strconv_Itoa Tryd.laysM171 n h0 h1 w (tab_is ht (by kernel_rfl))
noncomputable def v39z (n : Int) : AV := .str (numM n)
noncomputable def o39z (n : Int) : Prop := -9223372036854775808 ≤ n ∧ n ≤ 9223372036854775807
noncomputable def F39z : List AV → QR
  | [.int .i64 n] => some (some (o39z n), v39z n)
  | _ => none
theorem s39z : CtrOK Tryd.prog 39 (.pure F39z) ∧ Callable Tryd.prog 39 := by
  refine ⟨⟨fun args o v h => ?_, fun args K hK w γ S xs hi hn hf ht hs => ?_⟩, callable Tryd.func39 rfl (by rfl)⟩
  · unfold F39z at h; split at h <;> cases h; trivial
  · unfold pureC F39z at hK
    split at hK
    case h_2 => exact hK.elim
    rename_i O v hq
    split at hq
    case h_2 => cases hq
    rename_i n
    cases hq
    obtain ⟨h0, h1⟩ := hK.1 _ rfl
    cases hi with
    | cons h2 h3 =>
      cases h3
      obtain ⟨rfl, rfl⟩ := ia_int h2
      refine Calls.mono (itoa_call n h0 h1 w ht) ?_
      rintro e w' ⟨rfl, k, os, rfl⟩
      have hl := numM_len20 h0 h1
      refine ⟨_, [], _, γ, [], [], hK.2, rfl, .one (.cell (.per (.str _ (by unfold MX; omega)) rfl)), .nil, by simp, ⟨rfl, rfl, rfl, ?_, fun b hb _ => ⟨?_, rfl⟩, fun b hb => hf b ?_, by simp⟩, by simp⟩
      · simp [grow, World.drewN]
      · simp only [grow, World.drewN]
        rw [Array.getElem?_append_left hb]
      · simp only [grow, World.drewN, Array.size_append] at hb
        omega
noncomputable def v32z (n : Int) : AV := .str (numM n)
noncomputable def o32z (n : Int) : Prop := -1000000000000 ≤ n ∧ n ≤ 1000000000000
noncomputable def F32z : List AV → QR
  | [.int .i64 n] => some (some (o32z n), v32z n)
  | _ => none
noncomputable def E32z : Ctx := mkE tab [(32, .pure F32)]
noncomputable def O32z : Nat → List DI := ordL [(7, [.q 0, .q 1, .q 2, .q 3, .q 4, .q 5, .q 6, .l 7 [2], .q 8, .q 9, .q 10])]
theorem a32z (n : Int) (hb : BdAs [.int .i64 n]) (ho : o32z n) (K : AV → List AV → Prop) (hK : K (v32z n) []) : abody E32z O32z .ps Tryd.f32 (Tryd.f32.body.getD .skip) [.int .i64 n] K := by
  simp only [BdAs, BdA, BdL, BdC, MX, ndC, shC, itC, stC, opC, chC, nwC, flC, rqC, rsC, enc, List.cons_append, List.nil_append, and_true, true_and] at hb
  unfold o32z at ho
  unfold v32z at hK
  have h1 := fun h => decM_lt (n := n.toNat) h
  have h2 := fun h => decM_ge (n := n.toNat) h
  have h3 := decM_len (n / 10).toNat
  have h4 := decM_len (-n).toNat
  conv => whnf
  repeat' first|((first|refine Cnd.mk (fun h=>?_) (fun h=>?_)|refine Gd.mk (fun h=>?_))<;>(try simp [etas,elDef,-List.getD_eq_getElem?_getD] at h)<;>conv=>whnf)|((first|refine Obl.mk (by first|omega|rfl|exact inK_byte _|(simp only [inK,Int.toNat_natCast,etas,elDef,o32,m32]<;>first|omega|grind)|grind [inK,o32,m32]) ?_|refine OblG.mk (by ((conv=>whnf);(repeat (first|refine Bx.mk ?_|(intro h;(try simp [etas,elDef,-List.getD_eq_getElem?_getD] at h);conv=>whnf)));(first|omega|rfl|exact inK_byte _|(simp only [inK,Int.toNat_natCast,etas,elDef,o32,m32]<;>first|omega|grind)|grind [inK,o32,m32]))) ?_|refine And.intro ?_ ?_)<;>conv=>whnf)|exact True.intro|(intro;conv=>whnf)
  · exfalso; omega
  · rename_i h5
    exact leafS hK (by unfold numM; rw [if_pos h, if_neg (by omega)]; rfl)
  · exact leafS hK (by unfold numM; rw [if_neg (by omega), h1 (by omega)]; simp only [List.map_cons, List.map_nil]; rw [show (48 + n).toNat = 48 + n.toNat by omega])
  · exact leafS hK (by unfold numM; rw [if_neg (by omega), h2 (by omega)]; simp only [List.map_cons, List.map_nil]; rw [show (48 + n % 10).toNat = 48 + n.toNat % 10 by omega, show (n / 10).toNat = n.toNat / 10 by omega])
theorem s32z : (CtrOK Tryd.prog 32 (.pure F32z) ∧ Callable Tryd.prog 32) := by
  refine pure_ok (E := E32z) (mkE_cons s32 (mkE_nil tab_ok)) mix (O := O32z) (F := F32z) Tryd.func32 rfl (by rfl) (by kernel_rfl) (fun args o v h => ?_) (fun args o v h => ?_) (fun args o v h hbd hp K hK => ?_)
  · unfold F32z at h; split at h <;> cases h; first | trivial | (simp [v32z, Scalar, Scalar2, Scalar1, stC, ndC, itC, chC, nwC])
  · unfold F32z at h; split at h <;> cases h; exact Nat.le_of_ble_eq_true rfl
  · unfold F32z at h; split at h
    case h_2 => cases h
    cases h
    exact a32z _ (by exact hbd) (hp _ rfl) K hK
noncomputable def c40 (a : Bs) (s : Bs) (K : AV → List AV → Prop) : Prop :=
    Obl (a.length + 2 * s.length + 2 ≤ 1000000000) (K (.tup []) [.rb (a ++ quoteM s)])
noncomputable def C40 : List AV → (AV → List AV → Prop) → Prop
  | [.rb a, .str s], K => c40 a s K
  | _, _ => False
noncomputable def E40 : Ctx := mkE tab [(41, .gen .ps C41)]
noncomputable def O40 : Nat → List DI := ordL []
theorem a40 (a : Bs) (s : Bs) (hb : BdAs [.rb a, .str s]) (K : AV → List AV → Prop) (h : c40 a s K) : abody E40 O40 .ps Tryd.f40 (Tryd.f40.body.getD .skip) [.rb a, .str s] K := by
  simp only [BdAs, BdA, BdL, BdC, MX, ndC, shC, itC, stC, opC, chC, nwC, flC, rqC, rsC, enc, List.cons_append, List.nil_append, and_true, true_and] at hb
  unfold c40 at h
  obtain ⟨ho, hK⟩ := h
  conv => whnf
  repeat' first|((first|refine Cnd.mk (fun h=>?_) (fun h=>?_)|refine Gd.mk (fun h=>?_))<;>(try simp [etas,elDef,-List.getD_eq_getElem?_getD] at h)<;>conv=>whnf)|((first|refine Obl.mk (by first|omega|rfl|exact inK_byte _|(simp only [inK,Int.toNat_natCast,etas,elDef]<;>first|omega|grind)|grind [inK]) ?_|refine OblG.mk (by ((conv=>whnf);(repeat (first|refine Bx.mk ?_|(intro h;(try simp [etas,elDef,-List.getD_eq_getElem?_getD] at h);conv=>whnf)));(first|omega|rfl|exact inK_byte _|(simp only [inK,Int.toNat_natCast,etas,elDef]<;>first|omega|grind)|grind [inK]))) ?_|refine And.intro ?_ ?_)<;>conv=>whnf)|exact True.intro|(intro;conv=>whnf)
  refine aloop_intro Nat (fun k => k ≤ s.length ∧ True) (fun k => s.length - k) (fun k => [(4, .int .i64 k)]) (fun k => [(1000000, .bld (a ++ 34 :: escsM (s.take k)))]) [] 0 [] [] ?_ ?_ (by exact sgOk_of (by rfl)) ?_
  · first | (simp; done) | (simp; assumption)
  · iterate 2 ((all_goals (conv=>whnf));(repeat' (first|exact trivial|rfl|(refine nilEq ?_;first|rfl|(simp only [*];done)|(simp [*];done)|grind)|apply And.intro|((first|apply intEq|apply boolEq|apply strEq|apply psEq|apply nilEq|apply arrEq);(try simp only [Int.toNat_natCast,etas,elDef]);first | done | omega | grind | (simp only [*]; done) | (simp [*]; done)))));(all_goals ((try simp only [Int.toNat_natCast,etas,elDef]);first | done | omega | grind | (simp only [*]; done) | (simp [*]; done)))
  rintro i ⟨hi, hj⟩
  conv => whnf
  have hl := escs_take_len s i
  have hs := fun (h : i < s.length) => escs_take h
  have h8 := fun (c : UInt8) => (show c.toNat < 256 from c.toNat_lt)
  repeat' first|((first|refine Cnd.mk (fun h=>?_) (fun h=>?_)|refine Gd.mk (fun h=>?_))<;>(try simp [etas,elDef,-List.getD_eq_getElem?_getD] at h)<;>conv=>whnf)|((first|refine Obl.mk (by first|omega|rfl|exact inK_byte _|(simp only [inK,Int.toNat_natCast,etas,elDef]<;>first|omega|grind)|grind [inK]) ?_|refine OblG.mk (by ((conv=>whnf);(repeat (first|refine Bx.mk ?_|(intro h;(try simp [etas,elDef,-List.getD_eq_getElem?_getD] at h);conv=>whnf)));(first|omega|rfl|exact inK_byte _|(simp only [inK,Int.toNat_natCast,etas,elDef]<;>first|omega|grind)|grind [inK]))) ?_|refine And.intro ?_ ?_)<;>conv=>whnf)|exact True.intro|(intro;conv=>whnf)
  · rename_i h5
    have e2 : escsM (s.take (i + 1)) = escsM (s.take i) ++ [92, s.getD i 0] := by rw [hs h5, esc_yes h]
    exact ⟨i + 1, [], [], ⟨by omega, by grind⟩, by omega, by iterate 2 ((all_goals (conv=>whnf));(repeat' (first|exact trivial|rfl|(refine nilEq ?_;first|rfl|(simp only [*];done)|(simp [*];done)|grind)|apply And.intro|((first|apply intEq|apply boolEq|apply strEq|apply psEq|apply nilEq|apply arrEq);(try simp only [Int.toNat_natCast,etas,elDef]);first | done | omega | simp [e2]))));(all_goals ((try simp only [Int.toNat_natCast,etas,elDef]);first | done | omega | simp [e2])), (by exact sgOk_of (by rfl))⟩
  · rename_i h5
    have e2 : escsM (s.take (i + 1)) = escsM (s.take i) ++ [s.getD i 0] := by rw [hs h5, esc_no h]
    exact ⟨i + 1, [], [], ⟨by omega, by grind⟩, by omega, by iterate 2 ((all_goals (conv=>whnf));(repeat' (first|exact trivial|rfl|(refine nilEq ?_;first|rfl|(simp only [*];done)|(simp [*];done)|grind)|apply And.intro|((first|apply intEq|apply boolEq|apply strEq|apply psEq|apply nilEq|apply arrEq);(try simp only [Int.toNat_natCast,etas,elDef]);first | done | omega | simp [e2]))));(all_goals ((try simp only [Int.toNat_natCast,etas,elDef]);first | done | omega | simp [e2])), (by exact sgOk_of (by rfl))⟩
  · rw [List.take_of_length_le h] at *
    exact leafQ hK (by simp [quoteM])
theorem s40 : (CtrOK Tryd.prog 40 (.gen .ps C40) ∧ Callable Tryd.prog 40) := by
  refine gen_ok (E := E40) (mkE_cons s41 (mkE_nil tab_ok)) mix (O := O40) (C := C40) (own := .ps) Tryd.func40 rfl (by rfl) (by kernel_rfl) (fun args K h hbd => ?_)
  unfold C40 at h; split at h
  case h_2 => exact h.elim
  exact ⟨Nat.le_of_ble_eq_true rfl, a40 _ _ (by exact hbd) _ h⟩
noncomputable def c20 (a : Bs) (n : Nd) (K : AV → List AV → Prop) : Prop :=
    Obl (okN n ∧ a.length + 64 * countM n ≤ 900000000) (K (.tup []) [.rb (a ++ fmtM n)])
noncomputable def m20 (a : Bs) (n : Nd) : Nat := SizeOf.sizeOf n
noncomputable def C20 : List AV → (AV → List AV → Prop) → Prop
  | [.rb a, .st [.int .i64 n_0, .int .i64 n_1, .str n_2, .ps .str n_3, .ps .node n_4]], K => c20 a ⟨n_0, n_1, n_2, n_3, n_4⟩ K
  | _, _ => False
noncomputable def Ck20 (k : Nat) : List AV → (AV → List AV → Prop) → Prop
  | [.rb a, .st [.int .i64 n_0, .int .i64 n_1, .str n_2, .ps .str n_3, .ps .node n_4]], K => Obl (m20 a ⟨n_0, n_1, n_2, n_3, n_4⟩ < k) (c20 a ⟨n_0, n_1, n_2, n_3, n_4⟩ K)
  | _, _ => False
noncomputable def E20 (k : Nat) : Ctx := mkE tab [(20, .gen .ps (Ck20 k)), (38, .gen .ps C38), (39, .pure F39z), (40, .gen .ps C40), (41, .gen .ps C41)]
noncomputable def O20 : Nat → List DI := ordL []
theorem a20 (k : Nat) (a : Bs) (n : Nd) (hm : m20 a n < k + 1) (hb : BdAs [.rb a, .st (ndC n)]) (K : AV → List AV → Prop) (h : c20 a n K) : abody (E20 k) O20 .ps Tryd.f20 (Tryd.f20.body.getD .skip) [.rb a, .st (ndC n)] K := by
  simp only [BdAs, BdA, BdL, BdC, MX, ndC, shC, itC, stC, opC, chC, nwC, flC, rqC, rsC, enc, List.cons_append, List.nil_append, and_true, true_and] at hb
  unfold c20 at h
  unfold m20 at hm
  obtain ⟨⟨hn, ho⟩, hK⟩ := h
  have hkid : ∀ j, j < n.kids.length → SizeOf.sizeOf (n.kids.getD j default) < k := fun j hj => by have := kid_size hj; omega
  have h6 := okN_kids hn
  have h7 := okN_num hn
  have ht := okN_text hn
  have hnm := (okN_names hn).2.1
  have hq := fun j (hj : j < n.names.length) => okN_name_len hn hj
  have hk0 := okN_kind hn
  have hf := okN_fmt hn
  have hfn := numM_len h7.1 h7.2
  conv => whnf
  repeat' first|((first|refine Cnd.mk (fun h=>?_) (fun h=>?_)|refine Gd.mk (fun h=>?_))<;>(try simp [etas,elDef,-List.getD_eq_getElem?_getD] at h)<;>conv=>whnf)|((first|refine Obl.mk (by first|omega|rfl|exact inK_byte _|(simp only [inK,Int.toNat_natCast,etas,elDef,m20,m20,o39z]<;>first|omega|grind)|grind [inK,m20,m20,o39z]) ?_|refine OblG.mk (by ((conv=>whnf);(repeat (first|refine Bx.mk ?_|(intro h;(try simp [etas,elDef,-List.getD_eq_getElem?_getD] at h);conv=>whnf)));(first|omega|rfl|exact inK_byte _|(simp only [inK,Int.toNat_natCast,etas,elDef,m20,m20,o39z]<;>first|omega|grind)|grind [inK,m20,m20,o39z]))) ?_|refine And.intro ?_ ?_)<;>conv=>whnf)|exact True.intro|(intro;conv=>whnf)
  · exact leafQ hK (by rw [fmt_none h])
  · exact leafQ hK (by rw [fmt_num h])
  · exact leafQ hK (by rw [fmt_text h])
  · have hk := h
    refine aloop_intro Nat (fun k => k ≤ n.kids.length ∧ True) (fun k => n.kids.length - k) (fun k => [(34, .int .i64 k)]) (fun k => [(1000000, .bld (a ++ 91 :: joinM n k))]) [3] 0 [] [] ?_ ?_ (by exact sgOk_of (by rfl)) ?_
    · first | (simp; done) | (simp; assumption)
    · iterate 2 ((all_goals (conv=>whnf));(repeat' (first|exact trivial|rfl|(refine nilEq ?_;first|rfl|(simp only [*];done)|(simp [*];done)|grind)|apply And.intro|((first|apply intEq|apply boolEq|apply strEq|apply psEq|apply nilEq|apply arrEq);(try simp only [Int.toNat_natCast,etas,elDef]);first | done | omega | grind | (simp only [*]; done) | (simp [*]; done)))));(all_goals ((try simp only [Int.toNat_natCast,etas,elDef]);first | done | omega | grind | (simp only [*]; done) | (simp [*]; done)))
    rintro i ⟨hi, hj⟩
    conv => whnf
    have e1 := fun h => joinM_succ (n := n) (i := i) h
    have e2 := fun h => join_room hn (i := i) h
    have e3 := join_end hn (i := i) hi
    have e4 := fun h => okN_kid hn (j := i) h
    repeat' first|((first|refine Cnd.mk (fun h=>?_) (fun h=>?_)|refine Gd.mk (fun h=>?_))<;>(try simp [etas,elDef,-List.getD_eq_getElem?_getD] at h)<;>conv=>whnf)|((first|refine Obl.mk (by first|omega|rfl|exact inK_byte _|(simp only [inK,Int.toNat_natCast,etas,elDef,m20,m20,o39z]<;>first|omega|grind)|grind [inK,m20,m20,o39z]) ?_|refine OblG.mk (by ((conv=>whnf);(repeat (first|refine Bx.mk ?_|(intro h;(try simp [etas,elDef,-List.getD_eq_getElem?_getD] at h);conv=>whnf)));(first|omega|rfl|exact inK_byte _|(simp only [inK,Int.toNat_natCast,etas,elDef,m20,m20,o39z]<;>first|omega|grind)|grind [inK,m20,m20,o39z]))) ?_|refine And.intro ?_ ?_)<;>conv=>whnf)|exact True.intro|(intro;conv=>whnf)
    · rename_i h5
      have e5 : joinM n (i + 1) = joinM n i ++ [44] ++ fmtM (n.kids.getD i default) := by
        rw [e1 h5]; unfold leadM; rw [if_pos h, hk]; simp
      exact ⟨i + 1, [], [], ⟨by omega, by grind⟩, by omega, by iterate 2 ((all_goals (conv=>whnf));(repeat' (first|exact trivial|rfl|(refine nilEq ?_;first|rfl|(simp only [*];done)|(simp [*];done)|grind)|apply And.intro|((first|apply intEq|apply boolEq|apply strEq|apply psEq|apply nilEq|apply arrEq);(try simp only [Int.toNat_natCast,etas,elDef]);first | done | omega | simp [e5]))));(all_goals ((try simp only [Int.toNat_natCast,etas,elDef]);first | done | omega | simp [e5])), (by exact sgOk_of (by rfl))⟩
    · rename_i h5
      have e5 : joinM n (i + 1) = joinM n i ++ fmtM (n.kids.getD i default) := by
        rw [e1 h5]; unfold leadM; rw [if_neg (by omega), hk]; simp
      exact ⟨i + 1, [], [], ⟨by omega, by grind⟩, by omega, by iterate 2 ((all_goals (conv=>whnf));(repeat' (first|exact trivial|rfl|(refine nilEq ?_;first|rfl|(simp only [*];done)|(simp [*];done)|grind)|apply And.intro|((first|apply intEq|apply boolEq|apply strEq|apply psEq|apply nilEq|apply arrEq);(try simp only [Int.toNat_natCast,etas,elDef]);first | done | omega | simp [e5]))));(all_goals ((try simp only [Int.toNat_natCast,etas,elDef]);first | done | omega | simp [e5])), (by exact sgOk_of (by rfl))⟩
    · have e5 : i = n.kids.length := by omega
      subst e5
      exact leafQ hK (by rw [fmt_list hk]; simp)
  · have hk := h
    have hnl := hnm hk
    refine aloop_intro Nat (fun k => k ≤ n.kids.length ∧ True) (fun k => n.kids.length - k) (fun k => [(56, .int .i64 k)]) (fun k => [(1000000, .bld (a ++ 123 :: joinM n k))]) [3] 0 [] [] ?_ ?_ (by exact sgOk_of (by rfl)) ?_
    · first | (simp; done) | (simp; assumption)
    · iterate 2 ((all_goals (conv=>whnf));(repeat' (first|exact trivial|rfl|(refine nilEq ?_;first|rfl|(simp only [*];done)|(simp [*];done)|grind)|apply And.intro|((first|apply intEq|apply boolEq|apply strEq|apply psEq|apply nilEq|apply arrEq);(try simp only [Int.toNat_natCast,etas,elDef]);first | done | omega | grind | (simp only [*]; done) | (simp [*]; done)))));(all_goals ((try simp only [Int.toNat_natCast,etas,elDef]);first | done | omega | grind | (simp only [*]; done) | (simp [*]; done)))
    rintro i ⟨hi, hj⟩
    conv => whnf
    have e1 := fun h => joinM_succ (n := n) (i := i) h
    have e2 := fun h => join_room hn (i := i) h
    have e3 := join_end hn (i := i) hi
    have e4 := fun h => okN_kid hn (j := i) h
    have e6 := hq i
    have e7 := quote_len (n.names.getD i [])
    repeat' first|((first|refine Cnd.mk (fun h=>?_) (fun h=>?_)|refine Gd.mk (fun h=>?_))<;>(try simp [etas,elDef,-List.getD_eq_getElem?_getD] at h)<;>conv=>whnf)|((first|refine Obl.mk (by first|omega|rfl|exact inK_byte _|(simp only [inK,Int.toNat_natCast,etas,elDef,m20,m20,o39z]<;>first|omega|grind)|grind [inK,m20,m20,o39z]) ?_|refine OblG.mk (by ((conv=>whnf);(repeat (first|refine Bx.mk ?_|(intro h;(try simp [etas,elDef,-List.getD_eq_getElem?_getD] at h);conv=>whnf)));(first|omega|rfl|exact inK_byte _|(simp only [inK,Int.toNat_natCast,etas,elDef,m20,m20,o39z]<;>first|omega|grind)|grind [inK,m20,m20,o39z]))) ?_|refine And.intro ?_ ?_)<;>conv=>whnf)|exact True.intro|(intro;conv=>whnf)
    · rename_i h5
      have e5 : joinM n (i + 1) = joinM n i ++ [44] ++ quoteM (n.names.getD i []) ++ [58] ++ fmtM (n.kids.getD i default) := by
        rw [e1 h5]; unfold leadM; rw [if_pos h, hk]; simp
      exact ⟨i + 1, [], [], ⟨by omega, by grind⟩, by omega, by iterate 2 ((all_goals (conv=>whnf));(repeat' (first|exact trivial|rfl|(refine nilEq ?_;first|rfl|(simp only [*];done)|(simp [*];done)|grind)|apply And.intro|((first|apply intEq|apply boolEq|apply strEq|apply psEq|apply nilEq|apply arrEq);(try simp only [Int.toNat_natCast,etas,elDef]);first | done | omega | simp [e5]))));(all_goals ((try simp only [Int.toNat_natCast,etas,elDef]);first | done | omega | simp [e5])), (by exact sgOk_of (by rfl))⟩
    · rename_i h5
      have e5 : joinM n (i + 1) = joinM n i ++ quoteM (n.names.getD i []) ++ [58] ++ fmtM (n.kids.getD i default) := by
        rw [e1 h5]; unfold leadM; rw [if_neg (by omega), hk]; simp
      exact ⟨i + 1, [], [], ⟨by omega, by grind⟩, by omega, by iterate 2 ((all_goals (conv=>whnf));(repeat' (first|exact trivial|rfl|(refine nilEq ?_;first|rfl|(simp only [*];done)|(simp [*];done)|grind)|apply And.intro|((first|apply intEq|apply boolEq|apply strEq|apply psEq|apply nilEq|apply arrEq);(try simp only [Int.toNat_natCast,etas,elDef]);first | done | omega | simp [e5]))));(all_goals ((try simp only [Int.toNat_natCast,etas,elDef]);first | done | omega | simp [e5])), (by exact sgOk_of (by rfl))⟩
    · have e5 : i = n.kids.length := by omega
      subst e5
      exact leafQ hK (by rw [fmt_map hk]; simp)
  · exfalso; omega
theorem r20 : ∀ k, (CtrOK Tryd.prog 20 (.gen .ps (Ck20 k)) ∧ Callable Tryd.prog 20) := by
  intro k
  induction k with
  | zero =>
    exact ⟨fun args K h => by
        unfold Ck20 at h; split at h
        · exact absurd h.o (Nat.not_lt_zero _)
        · exact h.elim, callable Tryd.func20 rfl (by rfl)⟩
  | succ k ih =>
    refine gen_ok (E := E20 k) (mkE_cons ih (mkE_cons s38 (mkE_cons s39z (mkE_cons s40 (mkE_cons s41 (mkE_nil tab_ok)))))) mix (O := O20) (C := (Ck20 (k + 1))) (own := .ps) Tryd.func20 rfl (by rfl) (by kernel_rfl) (fun args K h hbd => ?_)
    unfold Ck20 at h; split at h
    case h_2 => exact h.elim
    exact ⟨Nat.le_of_ble_eq_true rfl, a20 k _ ⟨_, _, _, _, _⟩ h.o (by exact hbd) _ h.k⟩
theorem s20 : (CtrOK Tryd.prog 20 (.gen .ps C20) ∧ Callable Tryd.prog 20) := by
  refine ⟨fun args K h => ?_, (r20 0).2⟩
  unfold C20 at h; split at h
  · exact (r20 (m20 _ ⟨_, _, _, _, _⟩ + 1)).1 _ K ⟨Nat.lt_succ_self _, h⟩
  · exact h.elim
noncomputable def v8 (n : Nd) : AV := .str (textM n)
noncomputable def o8 (n : Nd) : Prop := True
noncomputable def F8 : List AV → QR
  | [.st [.int .i64 n_0, .int .i64 n_1, .str n_2, .ps .str n_3, .ps .node n_4]] => some (none, v8 ⟨n_0, n_1, n_2, n_3, n_4⟩)
  | _ => none
noncomputable def E8 : Ctx := mkE tab [(12, .pure F12), (20, .gen .ps C20), (21, .gen .ps C21)]
noncomputable def O8 : Nat → List DI := ordL []
theorem a8 (n : Nd) (hb : BdAs [.st (ndC n)]) (ho : o8 n) (K : AV → List AV → Prop) (hK : K (v8 n) []) : abody E8 O8 .ps Tryd.f8 (Tryd.f8.body.getD .skip) [.st (ndC n)] K := by
  simp only [BdAs, BdA, BdL, BdC, MX, ndC, shC, itC, stC, opC, chC, nwC, flC, rqC, rsC, enc, List.cons_append, List.nil_append, and_true, true_and] at hb
  unfold v8 at hK
  have h1 := fun h => validM_ok (n := n) h
  have h2 := fun h => (validM_iff (n := n).1 h).2
  conv => whnf
  repeat' first|((first|refine Cnd.mk (fun h=>?_) (fun h=>?_)|refine Gd.mk (fun h=>?_))<;>(try simp [etas,elDef,-List.getD_eq_getElem?_getD] at h)<;>conv=>whnf)|((first|refine Obl.mk (by first|omega|rfl|exact inK_byte _|(simp only [inK,Int.toNat_natCast,etas,elDef,m20]<;>first|omega|grind)|grind [inK,m20]) ?_|refine OblG.mk (by ((conv=>whnf);(repeat (first|refine Bx.mk ?_|(intro h;(try simp [etas,elDef,-List.getD_eq_getElem?_getD] at h);conv=>whnf)));(first|omega|rfl|exact inK_byte _|(simp only [inK,Int.toNat_natCast,etas,elDef,m20]<;>first|omega|grind)|grind [inK,m20]))) ?_|refine And.intro ?_ ?_)<;>conv=>whnf)|exact True.intro|(intro;conv=>whnf)
  · exact leafS hK (by unfold textM; rw [if_neg (by simp [h])])
  · exact leafS hK (by unfold textM; rw [if_pos h]; simp [nd_eta])
theorem s8 : (CtrOK Tryd.prog 8 (.pure F8) ∧ Callable Tryd.prog 8) := by
  refine pure_ok (E := E8) (mkE_cons s12 (mkE_cons s20 (mkE_cons s21 (mkE_nil tab_ok)))) mix (O := O8) (F := F8) Tryd.func8 rfl (by rfl) (by kernel_rfl) (fun args o v h => ?_) (fun args o v h => ?_) (fun args o v h hbd hp K hK => ?_)
  · unfold F8 at h; split at h <;> cases h; first | trivial | (simp [v8, Scalar, Scalar2, Scalar1, stC, ndC, itC, chC, nwC])
  · unfold F8 at h; split at h <;> cases h; exact Nat.le_of_ble_eq_true rfl
  · unfold F8 at h; split at h
    case h_2 => cases h
    cases h
    exact a8 ⟨_, _, _, _, _⟩ (by exact hbd) trivial K hK
noncomputable def v33 (s : Bs) : AV := .str (quoteM s)
noncomputable def o33 (s : Bs) : Prop := s.length ≤ 1000000
noncomputable def F33 : List AV → QR
  | [.str s] => some (some (o33 s), v33 s)
  | _ => none
noncomputable def E33 : Ctx := mkE tab []
noncomputable def O33 : Nat → List DI := ordL []
theorem a33 (s : Bs) (hb : BdAs [.str s]) (ho : o33 s) (K : AV → List AV → Prop) (hK : K (v33 s) []) : abody E33 O33 .ps Tryd.f33 (Tryd.f33.body.getD .skip) [.str s] K := by
  simp only [BdAs, BdA, BdL, BdC, MX, ndC, shC, itC, stC, opC, chC, nwC, flC, rqC, rsC, enc, List.cons_append, List.nil_append, and_true, true_and] at hb
  unfold o33 at ho
  unfold v33 at hK
  conv => whnf
  repeat' first|((first|refine Cnd.mk (fun h=>?_) (fun h=>?_)|refine Gd.mk (fun h=>?_))<;>(try simp [etas,elDef,-List.getD_eq_getElem?_getD] at h)<;>conv=>whnf)|((first|refine Obl.mk (by first|omega|rfl|exact inK_byte _|(simp only [inK,Int.toNat_natCast,etas,elDef]<;>first|omega|grind)|grind [inK]) ?_|refine OblG.mk (by ((conv=>whnf);(repeat (first|refine Bx.mk ?_|(intro h;(try simp [etas,elDef,-List.getD_eq_getElem?_getD] at h);conv=>whnf)));(first|omega|rfl|exact inK_byte _|(simp only [inK,Int.toNat_natCast,etas,elDef]<;>first|omega|grind)|grind [inK]))) ?_|refine And.intro ?_ ?_)<;>conv=>whnf)|exact True.intro|(intro;conv=>whnf)
  refine aloop_intro Nat (fun k => k ≤ s.length ∧ True) (fun k => s.length - k) (fun k => [(4, .int .i64 k), (3, .str (34 :: escsM (s.take k)))]) (fun k => []) [] 0 [] [] ?_ ?_ (by exact sgOk_of (by rfl)) ?_
  · first | (simp; done) | (simp; assumption)
  · iterate 2 ((all_goals (conv=>whnf));(repeat' (first|exact trivial|rfl|(refine nilEq ?_;first|rfl|(simp only [*];done)|(simp [*];done)|grind)|apply And.intro|((first|apply intEq|apply boolEq|apply strEq|apply psEq|apply nilEq|apply arrEq);(try simp only [Int.toNat_natCast,etas,elDef]);first | done | omega | grind | (simp only [*]; done) | (simp [*]; done)))));(all_goals ((try simp only [Int.toNat_natCast,etas,elDef]);first | done | omega | grind | (simp only [*]; done) | (simp [*]; done)))
  rintro i ⟨hi, hj⟩
  conv => whnf
  have hl := escs_take_len s i
  have hs := fun (h : i < s.length) => escs_take h
  have h9 := fun (h : i < s.length) => char_slice h
  repeat' first|((first|refine Cnd.mk (fun h=>?_) (fun h=>?_)|refine Gd.mk (fun h=>?_))<;>(try simp [etas,elDef,-List.getD_eq_getElem?_getD] at h)<;>conv=>whnf)|((first|refine Obl.mk (by first|omega|rfl|exact inK_byte _|(simp only [inK,Int.toNat_natCast,etas,elDef]<;>first|omega|grind)|grind [inK]) ?_|refine OblG.mk (by ((conv=>whnf);(repeat (first|refine Bx.mk ?_|(intro h;(try simp [etas,elDef,-List.getD_eq_getElem?_getD] at h);conv=>whnf)));(first|omega|rfl|exact inK_byte _|(simp only [inK,Int.toNat_natCast,etas,elDef]<;>first|omega|grind)|grind [inK]))) ?_|refine And.intro ?_ ?_)<;>conv=>whnf)|exact True.intro|(intro;conv=>whnf)
  · rename_i h5
    have e2 : escsM (s.take (i + 1)) = escsM (s.take i) ++ [92, s.getD i 0] := by rw [hs h5, esc_yes h]
    exact ⟨i + 1, [], [], ⟨by omega, by grind⟩, by omega, by iterate 2 ((all_goals (conv=>whnf));(repeat' (first|exact trivial|rfl|(refine nilEq ?_;first|rfl|(simp only [*];done)|(simp [*];done)|grind)|apply And.intro|((first|apply intEq|apply boolEq|apply strEq|apply psEq|apply nilEq|apply arrEq);(try simp only [Int.toNat_natCast,etas,elDef]);first | done | omega | simp [e2, h9 h5]))));(all_goals ((try simp only [Int.toNat_natCast,etas,elDef]);first | done | omega | simp [e2, h9 h5])), (by exact sgOk_of (by rfl))⟩
  · rename_i h5
    have e2 : escsM (s.take (i + 1)) = escsM (s.take i) ++ [s.getD i 0] := by rw [hs h5, esc_no h]
    exact ⟨i + 1, [], [], ⟨by omega, by grind⟩, by omega, by iterate 2 ((all_goals (conv=>whnf));(repeat' (first|exact trivial|rfl|(refine nilEq ?_;first|rfl|(simp only [*];done)|(simp [*];done)|grind)|apply And.intro|((first|apply intEq|apply boolEq|apply strEq|apply psEq|apply nilEq|apply arrEq);(try simp only [Int.toNat_natCast,etas,elDef]);first | done | omega | simp [e2, h9 h5]))));(all_goals ((try simp only [Int.toNat_natCast,etas,elDef]);first | done | omega | simp [e2, h9 h5])), (by exact sgOk_of (by rfl))⟩
  · exact leafS hK (by rw [List.take_of_length_le h]; simp [quoteM])
theorem s33 : (CtrOK Tryd.prog 33 (.pure F33) ∧ Callable Tryd.prog 33) := by
  refine pure_ok (E := E33) (mkE_nil tab_ok) mix (O := O33) (F := F33) Tryd.func33 rfl (by rfl) (by kernel_rfl) (fun args o v h => ?_) (fun args o v h => ?_) (fun args o v h hbd hp K hK => ?_)
  · unfold F33 at h; split at h <;> cases h; first | trivial | (simp [v33, Scalar, Scalar2, Scalar1, stC, ndC, itC, chC, nwC])
  · unfold F33 at h; split at h <;> cases h; exact Nat.le_of_ble_eq_true rfl
  · unfold F33 at h; split at h
    case h_2 => cases h
    cases h
    exact a33 _ (by exact hbd) (hp _ rfl) K hK
noncomputable def v17 (n : Nd) : AV := .str (fmtM n)
noncomputable def o17 (n : Nd) : Prop := okN n
noncomputable def m17 (n : Nd) : Nat := SizeOf.sizeOf n
noncomputable def F17 : List AV → QR
  | [.st [.int .i64 n_0, .int .i64 n_1, .str n_2, .ps .str n_3, .ps .node n_4]] => some (some (o17 ⟨n_0, n_1, n_2, n_3, n_4⟩), v17 ⟨n_0, n_1, n_2, n_3, n_4⟩)
  | _ => none
noncomputable def Fk17 (k : Nat) : List AV → QR
  | [.st [.int .i64 n_0, .int .i64 n_1, .str n_2, .ps .str n_3, .ps .node n_4]] => some (some (m17 ⟨n_0, n_1, n_2, n_3, n_4⟩ < k ∧ o17 ⟨n_0, n_1, n_2, n_3, n_4⟩), v17 ⟨n_0, n_1, n_2, n_3, n_4⟩)
  | _ => none
noncomputable def E17 (k : Nat) : Ctx := mkE tab [(17, .pure (Fk17 k)), (32, .pure F32z), (33, .pure F33)]
noncomputable def O17 : Nat → List DI := ordL []
theorem a17 (k : Nat) (n : Nd) (hm : m17 n < k + 1) (hb : BdAs [.st (ndC n)]) (ho : o17 n) (K : AV → List AV → Prop) (hK : K (v17 n) []) : abody (E17 k) O17 .ps Tryd.f17 (Tryd.f17.body.getD .skip) [.st (ndC n)] K := by
  simp only [BdAs, BdA, BdL, BdC, MX, ndC, shC, itC, stC, opC, chC, nwC, flC, rqC, rsC, enc, List.cons_append, List.nil_append, and_true, true_and] at hb
  unfold o17 at ho
  unfold v17 at hK
  unfold m17 at hm
  have hkid : ∀ j, j < n.kids.length → SizeOf.sizeOf (n.kids.getD j default) < k := fun j hj => by have := kid_size hj; omega
  have h6 := okN_kids ho
  have h7 := okN_num ho
  have ht := okN_text ho
  have hnm := (okN_names ho).2.1
  have hq := fun j (hj : j < n.names.length) => okN_name_len ho hj
  have hk0 := okN_kind ho
  have hf := okN_fmt ho
  have hc := okN_count ho
  conv => whnf
  repeat' first|((first|refine Cnd.mk (fun h=>?_) (fun h=>?_)|refine Gd.mk (fun h=>?_))<;>(try simp [etas,elDef,-List.getD_eq_getElem?_getD] at h)<;>conv=>whnf)|((first|refine Obl.mk (by first|omega|rfl|exact inK_byte _|(simp only [inK,Int.toNat_natCast,etas,elDef,m17,o17,m17,o32z,o33]<;>first|omega|grind)|grind [inK,m17,o17,m17,o32z,o33]) ?_|refine OblG.mk (by ((conv=>whnf);(repeat (first|refine Bx.mk ?_|(intro h;(try simp [etas,elDef,-List.getD_eq_getElem?_getD] at h);conv=>whnf)));(first|omega|rfl|exact inK_byte _|(simp only [inK,Int.toNat_natCast,etas,elDef,m17,o17,m17,o32z,o33]<;>first|omega|grind)|grind [inK,m17,o17,m17,o32z,o33]))) ?_|refine And.intro ?_ ?_)<;>conv=>whnf)|exact True.intro|(intro;conv=>whnf)
  · exact leafS hK (fmt_num h)
  · exact leafS hK (fmt_text h)
  · exact leafS hK (fmt_none h)
  · refine aloop_intro Nat (fun k => k ≤ n.kids.length ∧ True) (fun k => n.kids.length - k) (fun k => [(4, .int .i64 k), (3, .str (joinM n k))]) (fun k => []) [1] 0 [] [] ?_ ?_ (by exact sgOk_of (by rfl)) ?_
    · first | (simp; done) | (simp; assumption)
    · iterate 2 ((all_goals (conv=>whnf));(repeat' (first|exact trivial|rfl|(refine nilEq ?_;first|rfl|(simp only [*];done)|(simp [*];done)|grind)|apply And.intro|((first|apply intEq|apply boolEq|apply strEq|apply psEq|apply nilEq|apply arrEq);(try simp only [Int.toNat_natCast,etas,elDef]);first | done | omega | grind | (simp only [*]; done) | (simp [*]; done)))));(all_goals ((try simp only [Int.toNat_natCast,etas,elDef]);first | done | omega | grind | (simp only [*]; done) | (simp [*]; done)))
    rintro i ⟨hi, hj⟩
    conv => whnf
    have e1 := fun h => joinM_succ (n := n) (i := i) h
    have e2 := fun h => join_room ho (i := i) h
    have e3 := join_end ho (i := i) hi
    have e4 := fun h => okN_kid ho (j := i) h
    have e6 := hq i
    have e7 := quote_len (n.names.getD i [])
    have e8 := fun h => okN_fmt (okN_kid ho (j := i) h)
    repeat' first|((first|refine Cnd.mk (fun h=>?_) (fun h=>?_)|refine Gd.mk (fun h=>?_))<;>(try simp [etas,elDef,-List.getD_eq_getElem?_getD] at h)<;>conv=>whnf)|((first|refine Obl.mk (by first|omega|rfl|exact inK_byte _|(simp only [inK,Int.toNat_natCast,etas,elDef,m17,o17,m17,o32z,o33]<;>first|omega|grind)|grind [inK,m17,o17,m17,o32z,o33]) ?_|refine OblG.mk (by ((conv=>whnf);(repeat (first|refine Bx.mk ?_|(intro h;(try simp [etas,elDef,-List.getD_eq_getElem?_getD] at h);conv=>whnf)));(first|omega|rfl|exact inK_byte _|(simp only [inK,Int.toNat_natCast,etas,elDef,m17,o17,m17,o32z,o33]<;>first|omega|grind)|grind [inK,m17,o17,m17,o32z,o33]))) ?_|refine And.intro ?_ ?_)<;>conv=>whnf)|exact True.intro|(intro;conv=>whnf)
    · rename_i h5 h50
      have e5 : joinM n (i + 1) = joinM n i ++ [44] ++ quoteM (n.names.getD i []) ++ [58] ++ fmtM (n.kids.getD i default) := by
        rw [e1 h5]; unfold leadM; rw [if_pos h50, if_pos h]; simp
      exact ⟨i + 1, [], [], ⟨by omega, by grind⟩, by omega, by iterate 2 ((all_goals (conv=>whnf));(repeat' (first|exact trivial|rfl|(refine nilEq ?_;first|rfl|(simp only [*];done)|(simp [*];done)|grind)|apply And.intro|((first|apply intEq|apply boolEq|apply strEq|apply psEq|apply nilEq|apply arrEq);(try simp only [Int.toNat_natCast,etas,elDef]);first | done | omega | simp [e5]))));(all_goals ((try simp only [Int.toNat_natCast,etas,elDef]);first | done | omega | simp [e5])), (by exact sgOk_of (by rfl))⟩
    · rename_i h5 h50
      have e5 : joinM n (i + 1) = joinM n i ++ [44] ++ fmtM (n.kids.getD i default) := by
        rw [e1 h5]; unfold leadM; rw [if_pos h50, if_neg h]; simp
      exact ⟨i + 1, [], [], ⟨by omega, by grind⟩, by omega, by iterate 2 ((all_goals (conv=>whnf));(repeat' (first|exact trivial|rfl|(refine nilEq ?_;first|rfl|(simp only [*];done)|(simp [*];done)|grind)|apply And.intro|((first|apply intEq|apply boolEq|apply strEq|apply psEq|apply nilEq|apply arrEq);(try simp only [Int.toNat_natCast,etas,elDef]);first | done | omega | simp [e5]))));(all_goals ((try simp only [Int.toNat_natCast,etas,elDef]);first | done | omega | simp [e5])), (by exact sgOk_of (by rfl))⟩
    · rename_i h5 h50
      have e5 : joinM n (i + 1) = joinM n i ++ quoteM (n.names.getD i []) ++ [58] ++ fmtM (n.kids.getD i default) := by
        rw [e1 h5]; unfold leadM; rw [if_neg (by omega), if_pos h]; simp
      exact ⟨i + 1, [], [], ⟨by omega, by grind⟩, by omega, by iterate 2 ((all_goals (conv=>whnf));(repeat' (first|exact trivial|rfl|(refine nilEq ?_;first|rfl|(simp only [*];done)|(simp [*];done)|grind)|apply And.intro|((first|apply intEq|apply boolEq|apply strEq|apply psEq|apply nilEq|apply arrEq);(try simp only [Int.toNat_natCast,etas,elDef]);first | done | omega | simp [e5]))));(all_goals ((try simp only [Int.toNat_natCast,etas,elDef]);first | done | omega | simp [e5])), (by exact sgOk_of (by rfl))⟩
    · rename_i h5 h50
      have e5 : joinM n (i + 1) = joinM n i ++ fmtM (n.kids.getD i default) := by
        rw [e1 h5]; unfold leadM; rw [if_neg (by omega), if_neg h]; simp
      exact ⟨i + 1, [], [], ⟨by omega, by grind⟩, by omega, by iterate 2 ((all_goals (conv=>whnf));(repeat' (first|exact trivial|rfl|(refine nilEq ?_;first|rfl|(simp only [*];done)|(simp [*];done)|grind)|apply And.intro|((first|apply intEq|apply boolEq|apply strEq|apply psEq|apply nilEq|apply arrEq);(try simp only [Int.toNat_natCast,etas,elDef]);first | done | omega | simp [e5]))));(all_goals ((try simp only [Int.toNat_natCast,etas,elDef]);first | done | omega | simp [e5])), (by exact sgOk_of (by rfl))⟩
    · have hk := h
      have e5 : i = n.kids.length := by omega
      subst e5
      exact leafS hK (by rw [fmt_map hk]; simp)
    · have hk : n.kind = 3 := by omega
      have e5 : i = n.kids.length := by omega
      subst e5
      exact leafS hK (by rw [fmt_list hk]; simp)
theorem r17 : ∀ k, (CtrOK Tryd.prog 17 (.pure (Fk17 k)) ∧ Callable Tryd.prog 17) := by
  intro k
  induction k with
  | zero =>
    exact ⟨⟨fun args o v h => by unfold Fk17 at h; split at h <;> cases h; first | trivial | (simp [v17, Scalar, Scalar2, Scalar1, stC, ndC, itC, chC, nwC]), fun args K h => by
        unfold pureC Fk17 at h; split at h
        · rename_i h1; split at h1 <;> cases h1; exact absurd (h.1 _ rfl).1 (Nat.not_lt_zero _)
        · exact h.elim⟩, callable Tryd.func17 rfl (by rfl)⟩
  | succ k ih =>
    refine pure_ok (E := E17 k) (mkE_cons ih (mkE_cons s32z (mkE_cons s33 (mkE_nil tab_ok)))) mix (O := O17) (F := (Fk17 (k + 1))) Tryd.func17 rfl (by rfl) (by kernel_rfl) (fun args o v h => ?_) (fun args o v h => ?_) (fun args o v h hbd hp K hK => ?_)
    · unfold Fk17 at h; split at h <;> cases h; first | trivial | (simp [v17, Scalar, Scalar2, Scalar1, stC, ndC, itC, chC, nwC])
    · unfold Fk17 at h; split at h <;> cases h; exact Nat.le_of_ble_eq_true rfl
    · unfold Fk17 at h; split at h
      case h_2 => cases h
      cases h
      exact a17 k ⟨_, _, _, _, _⟩ (hp _ rfl).1 (by exact hbd) (hp _ rfl).2 K hK
theorem s17 : (CtrOK Tryd.prog 17 (.pure F17) ∧ Callable Tryd.prog 17) := by
  refine ⟨⟨fun args o v h => ?_, fun args K h => ?_⟩, (r17 0).2⟩
  · unfold F17 at h; split at h <;> cases h; first | trivial | (simp [v17, Scalar, Scalar2, Scalar1, stC, ndC, itC, chC, nwC])
  · unfold pureC F17 at h; split at h
    · rename_i h1; split at h1 <;> cases h1
      exact (r17 (m17 ⟨_, _, _, _, _⟩ + 1)).1.2 _ K ⟨fun p hp => by cases hp; exact ⟨Nat.lt_succ_self _, (h.1 _ rfl)⟩, h.2⟩
    · exact h.elim
end Go.Rs

