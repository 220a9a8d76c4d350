import Derived.Test.YtfaaemggaliojaaDoorCY
import Derived.Test.YtfaaemggaliojaaDoorCK
import Derived.Test.YtfaaemggaliojaaDoorCQ
import Derived.Test.YtfaaemggaliojaaDoorMF
import Derived.Shelf.LaysM
import Derived.Shelf.Strconv.Itoa3
set_option linter.all false
set_option linter.unusedSimpArgs false
set_option linter.unusedVariables false
namespace Go.Proofs
open Go.Shelf
def Tryd.laysM171_ren : Go.Shelf.Ren := ⟨fun | 171 => 102 | 243 => 109 | 246 => 114 | 283 => 116 | 284 => 117 | 285 => 118 | 286 => 119 | 129 => 121 | 317 => 120 | 318 => 122 | 319 => 123 | 320 => 124 | 337 => 125 | 338 => 126 | n => n, fun | 3 => 3 | 9 => 9 | 2 => 2 | 4 => 4 | 171 => 132 | 0 => 0 | 53 => 133 | 37 => 92 | 5 => 5 | 173 => 136 | 212 => 139 | 51 => 140 | 20 => 20 | 213 => 141 | 46 => 127 | 232 => 144 | 233 => 145 | n => n, fun | 17 => 1 | 18 => 2 | 19 => 3 | n => n⟩
theorem Tryd.laysM171 : Go.Proofs.LaysM.n171 Tryd.prog Tryd.laysM171_ren := {
  mixed := by kernel_rfl
  f129 := Tryd.func121.trans (congrArg some (by kernel_rfl))
  f171 := Tryd.func102.trans (congrArg some (by kernel_rfl))
  f243 := Tryd.func109.trans (congrArg some (by kernel_rfl))
  f246 := Tryd.func114.trans (congrArg some (by kernel_rfl))
  f283 := Tryd.func116.trans (congrArg some (by kernel_rfl))
  f284 := Tryd.func117.trans (congrArg some (by kernel_rfl))
  f285 := Tryd.func118.trans (congrArg some (by kernel_rfl))
  f286 := Tryd.func119.trans (congrArg some (by kernel_rfl))
  f317 := Tryd.func120.trans (congrArg some (by kernel_rfl))
  f318 := Tryd.func122.trans (congrArg some (by kernel_rfl))
  f319 := Tryd.func123.trans (congrArg some (by kernel_rfl))
  f320 := Tryd.func124.trans (congrArg some (by kernel_rfl))
  f337 := Tryd.func125.trans (congrArg some (by kernel_rfl))
  f338 := Tryd.func126.trans (congrArg some (by kernel_rfl))
  t0 := Tryd.underlying0
  a0 := Tryd.isAgg0
  z0 := Tryd.sizeOf0
  v0 := Tryd.zeroValue0
  t2 := Tryd.underlying2
  a2 := Tryd.isAgg2
  z2 := Tryd.sizeOf2
  v2 := Tryd.zeroValue2
  t3 := Tryd.underlying3
  a3 := Tryd.isAgg3
  z3 := Tryd.sizeOf3
  v3 := Tryd.zeroValue3
  t4 := Tryd.underlying4
  a4 := Tryd.isAgg4
  z4 := Tryd.sizeOf4
  v4 := Tryd.zeroValue4
  t5 := Tryd.underlying5
  a5 := Tryd.isAgg5
  z5 := Tryd.sizeOf5
  v5 := Tryd.zeroValue5
  t9 := Tryd.underlying9
  a9 := Tryd.isAgg9
  z9 := Tryd.sizeOf9
  v9 := Tryd.zeroValue9
  t20 := Tryd.underlying20
  a20 := Tryd.isAgg20
  z20 := Tryd.sizeOf20
  v20 := Tryd.zeroValue20
  t37 := Tryd.underlying92
  a37 := Tryd.isAgg92
  z37 := Tryd.sizeOf92
  v37 := Tryd.zeroValue92
  t46 := Tryd.underlying127
  a46 := Tryd.isAgg127
  z46 := Tryd.sizeOf127
  v46 := Tryd.zeroValue127
  t51 := Tryd.underlying140
  a51 := Tryd.isAgg140
  z51 := Tryd.sizeOf140
  v51 := Tryd.zeroValue140
  t53 := Tryd.underlying133
  a53 := Tryd.isAgg133
  z53 := Tryd.sizeOf133
  v53 := Tryd.zeroValue133
  t171 := Tryd.underlying132
  a171 := Tryd.isAgg132
  z171 := Tryd.sizeOf132
  v171 := Tryd.zeroValue132
  t173 := Tryd.underlying136
  a173 := Tryd.isAgg136
  z173 := Tryd.sizeOf136
  v173 := Tryd.zeroValue136
  t212 := Tryd.underlying139
  a212 := Tryd.isAgg139
  z212 := Tryd.sizeOf139
  v212 := Tryd.zeroValue139
  t213 := Tryd.underlying141
  a213 := Tryd.isAgg141
  z213 := Tryd.sizeOf141
  t232 := Tryd.underlying144
  a232 := Tryd.isAgg144
  z232 := Tryd.sizeOf144
  v232 := Tryd.zeroValue144
  t233 := Tryd.underlying145
  a233 := Tryd.isAgg145
  z233 := Tryd.sizeOf145
  v233 := Tryd.zeroValue145
  g17 := by kernel_rfl
  g18 := by kernel_rfl
  g19 := by kernel_rfl
  i0 := by kernel_rfl
  i2 := by kernel_rfl
  i3 := by kernel_rfl
  i4 := by kernel_rfl
  i5 := by kernel_rfl
  i9 := by kernel_rfl
  i20 := by kernel_rfl
  i37 := by kernel_rfl
  i46 := by kernel_rfl
  i51 := by kernel_rfl
  i53 := by kernel_rfl
  i171 := by kernel_rfl
  i173 := by kernel_rfl
  i212 := by kernel_rfl
  i232 := by kernel_rfl
  i233 := by kernel_rfl
  m17 := by kernel_rfl
  m18 := by kernel_rfl
  m19 := by kernel_rfl }
end Go.Proofs
namespace Go.Rs
open Go.Proofs Go.RowKit Go.Sort
set_option maxRecDepth 100000
-- 93
theorem leafQ {K : AV → List AV → Prop} {v : AV} {a b : Bs} (hK : K v [.rb a]) (h : a = b) : K v [.rb b] := h ▸ hK
theorem dec_eq (n : Nat) : Lib.decDigits n = decM n := by
  induction n using Nat.strongRecOn with
  | _ n ih =>
    rw [Lib.decDigits]
    by_cases h : n < 10
    · rw [dif_pos h, decM_lt h]
    · rw [dif_neg h, decM_ge h, ih _ (by omega)]
theorem itoa_eq (n : Int) : Lib.itoa n = numM n := by
  unfold Lib.itoa numM
  by_cases h : n < 0
  · rw [if_pos h, if_pos h, dec_eq, show n.natAbs = (-n).toNat by omega]
  · rw [if_neg h, if_neg h, dec_eq]
theorem numM_len20 {z : Int} (h1 : -9223372036854775808 ≤ z) (h2 : z ≤ 9223372036854775807) : (numM z).length ≤ 21 := by
  have e : (10 : Nat) ^ 20 = 100000000000000000000 := rfl
  unfold numM
  split
  · have := decM_len_le 19 (-z).toNat (by omega)
    simp; omega
  · have := decM_len_le 19 z.toNat (by omega)
    omega
theorem tab_is {w : World} (ht : Tabs w) {nm : String} (hg : Tryd.prog.globalNamed nm = some 1) : Lib.TabIs Tryd.prog w nm .u64 Lib.pow10Tab := by
  obtain ⟨T, fz, h⟩ := ht.tab 1 rfl
  unfold Lib.TabIs World.var?
  rw [hg]
  simp only [Option.bind_some, h]
  rfl
theorem itoa_call (n : Int) (h0 : -9223372036854775808 ≤ n) (h1 : n ≤ 9223372036854775807) (w : World) (ht : Tabs w) :
    Calls Tryd.prog 102 #[.int .i64 n] w fun e w' => e = .returned (.string ⟨(numM n).toArray⟩) ∧ ∃ k os, w' = grow (w.drewN k) os := by
  rw [← itoa_eq]
  exact Any.strconv_Itoa Tryd.laysM171 n h0 h1 w (tab_is ht (by kernel_rfl))
noncomputable def v102z (n : Int) : AV := .str (numM n)
noncomputable def o102z (n : Int) : Prop := -9223372036854775808 ≤ n ∧ n ≤ 9223372036854775807
noncomputable def F102z : List AV → QR
  | [.int .i64 n] => some (some (o102z n), v102z n)
  | _ => none
theorem s102z : CtrOK Tryd.prog 102 (.pure F102z) ∧ Callable Tryd.prog 102 := by
  refine ⟨⟨fun args o v h => ?_, fun args K hK w γ S xs hi hn hf ht hs => ?_⟩, callable Tryd.func102 rfl (by rfl)⟩
  · unfold F102z at h; split at h <;> cases h; trivial
  · unfold pureC F102z at hK
    split at hK
    case h_2 => exact hK.elim
    rename_i O v hq
    split at hq
    case h_2 => cases hq
    rename_i n
    cases hq
    obtain ⟨h0, h1⟩ := hK.1 _ rfl
    cases hi with
    | cons h2 h3 =>
      cases h3
      obtain ⟨rfl, rfl⟩ := ia_int h2
      refine Calls.mono (itoa_call n h0 h1 w ht) ?_
      rintro e w' ⟨rfl, k, os, rfl⟩
      have hl := numM_len20 h0 h1
      refine ⟨_, [], _, γ, [], [], hK.2, rfl, .one (.cell (.per (.str _ (by unfold MX; omega)) rfl)), .nil, by simp, ⟨rfl, rfl, rfl, ?_, fun b hb _ => ⟨?_, rfl⟩, fun b hb => hf b ?_, by simp⟩, by simp⟩
      · simp [grow, World.drewN]
      · simp only [grow, World.drewN]
        rw [Array.getElem?_append_left hb]
      · simp only [grow, World.drewN, Array.size_append] at hb
        omega
noncomputable def v79z (n : Int) : AV := .str (numM n)
noncomputable def o79z (n : Int) : Prop := -1000000000000 ≤ n ∧ n ≤ 1000000000000
noncomputable def F79z : List AV → QR
  | [.int .i64 n] => some (some (o79z n), v79z n)
  | _ => none
noncomputable def E79z : Ctx := mkE tab [(79, .pure F79)]
noncomputable def O79z : Nat → List DI := ordL [(7, [.q 0, .q 1, .q 2, .q 3, .q 4, .q 5, .q 6, .l 7 [2], .q 8, .q 9, .q 10])]
theorem a79z (n : Int) (hb : BdAs [.int .i64 n]) (ho : o79z n) (K : AV → List AV → Prop) (hK : K (v79z n) []) : abody E79z O79z .ps Tryd.f79 (Tryd.f79.body.getD .skip) [.int .i64 n] K := by
  simp only [BdAs, BdA, BdL, BdC, MX, ndC, shC, itC, stC, opC, chC, nwC, flC, rqC, rsC, enc, List.cons_append, List.nil_append, and_true, true_and] at hb
  unfold o79z at ho
  unfold v79z at hK
  have h1 := fun h => decM_lt (n := n.toNat) h
  have h2 := fun h => decM_ge (n := n.toNat) h
  have h3 := decM_len (n / 10).toNat
  have h4 := decM_len (-n).toNat
  conv => whnf
  repeat' first|((first|refine Cnd.mk (fun h=>?_) (fun h=>?_)|refine Gd.mk (fun h=>?_))<;>(try simp [etas,elDef,-List.getD_eq_getElem?_getD] at h)<;>conv=>whnf)|((first|refine Obl.mk (by first|omega|rfl|exact inK_byte _|(simp only [inK,Int.toNat_natCast,etas,elDef,o79,m79]<;>first|omega|grind)|grind [inK,o79,m79]) ?_|refine OblG.mk (by ((conv=>whnf);(repeat (first|refine Bx.mk ?_|(intro h;(try simp [etas,elDef,-List.getD_eq_getElem?_getD] at h);conv=>whnf)));(first|omega|rfl|exact inK_byte _|(simp only [inK,Int.toNat_natCast,etas,elDef,o79,m79]<;>first|omega|grind)|grind [inK,o79,m79]))) ?_|refine And.intro ?_ ?_)<;>conv=>whnf)|exact True.intro|(intro;conv=>whnf)
  · exfalso; omega
  · rename_i h5
    exact leafS hK (by unfold numM; rw [if_pos h, if_neg (by omega)]; rfl)
  · exact leafS hK (by unfold numM; rw [if_neg (by omega), h1 (by omega)]; simp only [List.map_cons, List.map_nil]; rw [show (48 + n).toNat = 48 + n.toNat by omega])
  · exact leafS hK (by unfold numM; rw [if_neg (by omega), h2 (by omega)]; simp only [List.map_cons, List.map_nil]; rw [show (48 + n % 10).toNat = 48 + n.toNat % 10 by omega, show (n / 10).toNat = n.toNat / 10 by omega])
theorem s79z : (CtrOK Tryd.prog 79 (.pure F79z) ∧ Callable Tryd.prog 79) := by
  refine pure_ok (E := E79z) (mkE_cons s79 (mkE_nil tab_ok)) mix (O := O79z) (F := F79z) Tryd.func79 rfl (by rfl) (by kernel_rfl) (fun args o v h => ?_) (fun args o v h => ?_) (fun args o v h hbd hp K hK => ?_)
  · unfold F79z at h; split at h <;> cases h; first | trivial | (simp [v79z, Scalar, Scalar2, Scalar1, stC, ndC, itC, chC, nwC])
  · unfold F79z at h; split at h <;> cases h; exact Nat.le_of_ble_eq_true rfl
  · unfold F79z at h; split at h
    case h_2 => cases h
    cases h
    exact a79z _ (by exact hbd) (hp _ rfl) K hK
noncomputable def c103 (a : Bs) (s : Bs) (K : AV → List AV → Prop) : Prop :=
    Obl (a.length + 2 * s.length + 2 ≤ 1000000000) (K (.tup []) [.rb (a ++ quoteM s)])
noncomputable def C103 : List AV → (AV → List AV → Prop) → Prop
  | [.rb a, .str s], K => c103 a s K
  | _, _ => False
noncomputable def E103 : Ctx := mkE tab [(104, .gen .ps C104)]
noncomputable def O103 : Nat → List DI := ordL []
theorem a103 (a : Bs) (s : Bs) (hb : BdAs [.rb a, .str s]) (K : AV → List AV → Prop) (h : c103 a s K) : abody E103 O103 .ps Tryd.f103 (Tryd.f103.body.getD .skip) [.rb a, .str s] K := by
  simp only [BdAs, BdA, BdL, BdC, MX, ndC, shC, itC, stC, opC, chC, nwC, flC, rqC, rsC, enc, List.cons_append, List.nil_append, and_true, true_and] at hb
  unfold c103 at h
  obtain ⟨ho, hK⟩ := h
  conv => whnf
  repeat' first|((first|refine Cnd.mk (fun h=>?_) (fun h=>?_)|refine Gd.mk (fun h=>?_))<;>(try simp [etas,elDef,-List.getD_eq_getElem?_getD] at h)<;>conv=>whnf)|((first|refine Obl.mk (by first|omega|rfl|exact inK_byte _|(simp only [inK,Int.toNat_natCast,etas,elDef]<;>first|omega|grind)|grind [inK]) ?_|refine OblG.mk (by ((conv=>whnf);(repeat (first|refine Bx.mk ?_|(intro h;(try simp [etas,elDef,-List.getD_eq_getElem?_getD] at h);conv=>whnf)));(first|omega|rfl|exact inK_byte _|(simp only [inK,Int.toNat_natCast,etas,elDef]<;>first|omega|grind)|grind [inK]))) ?_|refine And.intro ?_ ?_)<;>conv=>whnf)|exact True.intro|(intro;conv=>whnf)
  refine aloop_intro Nat (fun k => k ≤ s.length ∧ True) (fun k => s.length - k) (fun k => [(4, .int .i64 k)]) (fun k => [(1000000, .bld (a ++ 34 :: escsM (s.take k)))]) [] 0 [] [] ?_ ?_ (by exact sgOk_of (by rfl)) ?_
  · first | (simp; done) | (simp; assumption)
  · iterate 2 ((all_goals (conv=>whnf));(repeat' (first|exact trivial|rfl|(refine nilEq ?_;first|rfl|(simp only [*];done)|(simp [*];done)|grind)|apply And.intro|((first|apply intEq|apply boolEq|apply strEq|apply psEq|apply nilEq|apply arrEq);(try simp only [Int.toNat_natCast,etas,elDef]);first | done | omega | grind | (simp only [*]; done) | (simp [*]; done)))));(all_goals ((try simp only [Int.toNat_natCast,etas,elDef]);first | done | omega | grind | (simp only [*]; done) | (simp [*]; done)))
  rintro i ⟨hi, hj⟩
  conv => whnf
  have hl := escs_take_len s i
  have hs := fun (h : i < s.length) => escs_take h
  have h8 := fun (c : UInt8) => (show c.toNat < 256 from c.toNat_lt)
  repeat' first|((first|refine Cnd.mk (fun h=>?_) (fun h=>?_)|refine Gd.mk (fun h=>?_))<;>(try simp [etas,elDef,-List.getD_eq_getElem?_getD] at h)<;>conv=>whnf)|((first|refine Obl.mk (by first|omega|rfl|exact inK_byte _|(simp only [inK,Int.toNat_natCast,etas,elDef]<;>first|omega|grind)|grind [inK]) ?_|refine OblG.mk (by ((conv=>whnf);(repeat (first|refine Bx.mk ?_|(intro h;(try simp [etas,elDef,-List.getD_eq_getElem?_getD] at h);conv=>whnf)));(first|omega|rfl|exact inK_byte _|(simp only [inK,Int.toNat_natCast,etas,elDef]<;>first|omega|grind)|grind [inK]))) ?_|refine And.intro ?_ ?_)<;>conv=>whnf)|exact True.intro|(intro;conv=>whnf)
  · rename_i h5
    have e2 : escsM (s.take (i + 1)) = escsM (s.take i) ++ [92, s.getD i 0] := by rw [hs h5, esc_yes h]
    exact ⟨i + 1, [], [], ⟨by omega, by grind⟩, by omega, by iterate 2 ((all_goals (conv=>whnf));(repeat' (first|exact trivial|rfl|(refine nilEq ?_;first|rfl|(simp only [*];done)|(simp [*];done)|grind)|apply And.intro|((first|apply intEq|apply boolEq|apply strEq|apply psEq|apply nilEq|apply arrEq);(try simp only [Int.toNat_natCast,etas,elDef]);first | done | omega | simp [e2]))));(all_goals ((try simp only [Int.toNat_natCast,etas,elDef]);first | done | omega | simp [e2])), (by exact sgOk_of (by rfl))⟩
  · rename_i h5
    have e2 : escsM (s.take (i + 1)) = escsM (s.take i) ++ [s.getD i 0] := by rw [hs h5, esc_no h]
    exact ⟨i + 1, [], [], ⟨by omega, by grind⟩, by omega, by iterate 2 ((all_goals (conv=>whnf));(repeat' (first|exact trivial|rfl|(refine nilEq ?_;first|rfl|(simp only [*];done)|(simp [*];done)|grind)|apply And.intro|((first|apply intEq|apply boolEq|apply strEq|apply psEq|apply nilEq|apply arrEq);(try simp only [Int.toNat_natCast,etas,elDef]);first | done | omega | simp [e2]))));(all_goals ((try simp only [Int.toNat_natCast,etas,elDef]);first | done | omega | simp [e2])), (by exact sgOk_of (by rfl))⟩
  · rw [List.take_of_length_le h] at *
    exact leafQ hK (by simp [quoteM])
theorem s103 : (CtrOK Tryd.prog 103 (.gen .ps C103) ∧ Callable Tryd.prog 103) := by
  refine gen_ok (E := E103) (mkE_cons s104 (mkE_nil tab_ok)) mix (O := O103) (C := C103) (own := .ps) Tryd.func103 rfl (by rfl) (by kernel_rfl) (fun args K h hbd => ?_)
  unfold C103 at h; split at h
  case h_2 => exact h.elim
  exact ⟨Nat.le_of_ble_eq_true rfl, a103 _ _ (by exact hbd) _ h⟩
noncomputable def c93 (a : Bs) (n : Nd) (K : AV → List AV → Prop) : Prop :=
    Obl (okN n ∧ a.length + 64 * countM n ≤ 900000000) (K (.tup []) [.rb (a ++ fmtM n)])
noncomputable def m93 (a : Bs) (n : Nd) : Nat := SizeOf.sizeOf n
noncomputable def C93 : List AV → (AV → List AV → Prop) → Prop
  | [.rb a, .st [.int .i64 n_0, .int .i64 n_1, .str n_2, .ps .str n_3, .ps .node n_4]], K => c93 a ⟨n_0, n_1, n_2, n_3, n_4⟩ K
  | _, _ => False
noncomputable def Ck93 (k : Nat) : List AV → (AV → List AV → Prop) → Prop
  | [.rb a, .st [.int .i64 n_0, .int .i64 n_1, .str n_2, .ps .str n_3, .ps .node n_4]], K => Obl (m93 a ⟨n_0, n_1, n_2, n_3, n_4⟩ < k) (c93 a ⟨n_0, n_1, n_2, n_3, n_4⟩ K)
  | _, _ => False
noncomputable def E93 (k : Nat) : Ctx := mkE tab [(93, .gen .ps (Ck93 k)), (101, .gen .ps C101), (102, .pure F102z), (103, .gen .ps C103), (104, .gen .ps C104)]
noncomputable def O93 : Nat → List DI := ordL []
theorem a93 (k : Nat) (a : Bs) (n : Nd) (hm : m93 a n < k + 1) (hb : BdAs [.rb a, .st (ndC n)]) (K : AV → List AV → Prop) (h : c93 a n K) : abody (E93 k) O93 .ps Tryd.f93 (Tryd.f93.body.getD .skip) [.rb a, .st (ndC n)] K := by
  simp only [BdAs, BdA, BdL, BdC, MX, ndC, shC, itC, stC, opC, chC, nwC, flC, rqC, rsC, enc, List.cons_append, List.nil_append, and_true, true_and] at hb
  unfold c93 at h
  unfold m93 at hm
  obtain ⟨⟨hn, ho⟩, hK⟩ := h
  have hkid : ∀ j, j < n.kids.length → SizeOf.sizeOf (n.kids.getD j default) < k := fun j hj => by have := kid_size hj; omega
  have h6 := okN_kids hn
  have h7 := okN_num hn
  have ht := okN_text hn
  have hnm := (okN_names hn).2.1
  have hq := fun j (hj : j < n.names.length) => okN_name_len hn hj
  have hk0 := okN_kind hn
  have hf := okN_fmt hn
  have hfn := numM_len h7.1 h7.2
  conv => whnf
  repeat' first|((first|refine Cnd.mk (fun h=>?_) (fun h=>?_)|refine Gd.mk (fun h=>?_))<;>(try simp [etas,elDef,-List.getD_eq_getElem?_getD] at h)<;>conv=>whnf)|((first|refine Obl.mk (by first|omega|rfl|exact inK_byte _|(simp only [inK,Int.toNat_natCast,etas,elDef,m93,m93,o102z]<;>first|omega|grind)|grind [inK,m93,m93,o102z]) ?_|refine OblG.mk (by ((conv=>whnf);(repeat (first|refine Bx.mk ?_|(intro h;(try simp [etas,elDef,-List.getD_eq_getElem?_getD] at h);conv=>whnf)));(first|omega|rfl|exact inK_byte _|(simp only [inK,Int.toNat_natCast,etas,elDef,m93,m93,o102z]<;>first|omega|grind)|grind [inK,m93,m93,o102z]))) ?_|refine And.intro ?_ ?_)<;>conv=>whnf)|exact True.intro|(intro;conv=>whnf)
  · exact leafQ hK (by rw [fmt_none h])
  · exact leafQ hK (by rw [fmt_num h])
  · exact leafQ hK (by rw [fmt_text h])
  · have hk := h
    refine aloop_intro Nat (fun k => k ≤ n.kids.length ∧ True) (fun k => n.kids.length - k) (fun k => [(34, .int .i64 k)]) (fun k => [(1000000, .bld (a ++ 91 :: joinM n k))]) [3] 0 [] [] ?_ ?_ (by exact sgOk_of (by rfl)) ?_
    · first | (simp; done) | (simp; assumption)
    · iterate 2 ((all_goals (conv=>whnf));(repeat' (first|exact trivial|rfl|(refine nilEq ?_;first|rfl|(simp only [*];done)|(simp [*];done)|grind)|apply And.intro|((first|apply intEq|apply boolEq|apply strEq|apply psEq|apply nilEq|apply arrEq);(try simp only [Int.toNat_natCast,etas,elDef]);first | done | omega | grind | (simp only [*]; done) | (simp [*]; done)))));(all_goals ((try simp only [Int.toNat_natCast,etas,elDef]);first | done | omega | grind | (simp only [*]; done) | (simp [*]; done)))
    rintro i ⟨hi, hj⟩
    conv => whnf
    have e1 := fun h => joinM_succ (n := n) (i := i) h
    have e2 := fun h => join_room hn (i := i) h
    have e3 := join_end hn (i := i) hi
    have e4 := fun h => okN_kid hn (j := i) h
    repeat' first|((first|refine Cnd.mk (fun h=>?_) (fun h=>?_)|refine Gd.mk (fun h=>?_))<;>(try simp [etas,elDef,-List.getD_eq_getElem?_getD] at h)<;>conv=>whnf)|((first|refine Obl.mk (by first|omega|rfl|exact inK_byte _|(simp only [inK,Int.toNat_natCast,etas,elDef,m93,m93,o102z]<;>first|omega|grind)|grind [inK,m93,m93,o102z]) ?_|refine OblG.mk (by ((conv=>whnf);(repeat (first|refine Bx.mk ?_|(intro h;(try simp [etas,elDef,-List.getD_eq_getElem?_getD] at h);conv=>whnf)));(first|omega|rfl|exact inK_byte _|(simp only [inK,Int.toNat_natCast,etas,elDef,m93,m93,o102z]<;>first|omega|grind)|grind [inK,m93,m93,o102z]))) ?_|refine And.intro ?_ ?_)<;>conv=>whnf)|exact True.intro|(intro;conv=>whnf)
    · rename_i h5
      have e5 : joinM n (i + 1) = joinM n i ++ [44] ++ fmtM (n.kids.getD i default) := by
        rw [e1 h5]; unfold leadM; rw [if_pos h, hk]; simp
      exact ⟨i + 1, [], [], ⟨by omega, by grind⟩, by omega, by iterate 2 ((all_goals (conv=>whnf));(repeat' (first|exact trivial|rfl|(refine nilEq ?_;first|rfl|(simp only [*];done)|(simp [*];done)|grind)|apply And.intro|((first|apply intEq|apply boolEq|apply strEq|apply psEq|apply nilEq|apply arrEq);(try simp only [Int.toNat_natCast,etas,elDef]);first | done | omega | simp [e5]))));(all_goals ((try simp only [Int.toNat_natCast,etas,elDef]);first | done | omega | simp [e5])), (by exact sgOk_of (by rfl))⟩
    · rename_i h5
      have e5 : joinM n (i + 1) = joinM n i ++ fmtM (n.kids.getD i default) := by
        rw [e1 h5]; unfold leadM; rw [if_neg (by omega), hk]; simp
      exact ⟨i + 1, [], [], ⟨by omega, by grind⟩, by omega, by iterate 2 ((all_goals (conv=>whnf));(repeat' (first|exact trivial|rfl|(refine nilEq ?_;first|rfl|(simp only [*];done)|(simp [*];done)|grind)|apply And.intro|((first|apply intEq|apply boolEq|apply strEq|apply psEq|apply nilEq|apply arrEq);(try simp only [Int.toNat_natCast,etas,elDef]);first | done | omega | simp [e5]))));(all_goals ((try simp only [Int.toNat_natCast,etas,elDef]);first | done | omega | simp [e5])), (by exact sgOk_of (by rfl))⟩
    · have e5 : i = n.kids.length := by omega
      subst e5
      exact leafQ hK (by rw [fmt_list hk]; simp)
  · have hk := h
    have hnl := hnm hk
    refine aloop_intro Nat (fun k => k ≤ n.kids.length ∧ True) (fun k => n.kids.length - k) (fun k => [(56, .int .i64 k)]) (fun k => [(1000000, .bld (a ++ 123 :: joinM n k))]) [3] 0 [] [] ?_ ?_ (by exact sgOk_of (by rfl)) ?_
    · first | (simp; done) | (simp; assumption)
    · iterate 2 ((all_goals (conv=>whnf));(repeat' (first|exact trivial|rfl|(refine nilEq ?_;first|rfl|(simp only [*];done)|(simp [*];done)|grind)|apply And.intro|((first|apply intEq|apply boolEq|apply strEq|apply psEq|apply nilEq|apply arrEq);(try simp only [Int.toNat_natCast,etas,elDef]);first | done | omega | grind | (simp only [*]; done) | (simp [*]; done)))));(all_goals ((try simp only [Int.toNat_natCast,etas,elDef]);first | done | omega | grind | (simp only [*]; done) | (simp [*]; done)))
    rintro i ⟨hi, hj⟩
    conv => whnf
    have e1 := fun h => joinM_succ (n := n) (i := i) h
    have e2 := fun h => join_room hn (i := i) h
    have e3 := join_end hn (i := i) hi
    have e4 := fun h => okN_kid hn (j := i) h
    have e6 := hq i
    have e7 := quote_len (n.names.getD i [])
    repeat' first|((first|refine Cnd.mk (fun h=>?_) (fun h=>?_)|refine Gd.mk (fun h=>?_))<;>(try simp [etas,elDef,-List.getD_eq_getElem?_getD] at h)<;>conv=>whnf)|((first|refine Obl.mk (by first|omega|rfl|exact inK_byte _|(simp only [inK,Int.toNat_natCast,etas,elDef,m93,m93,o102z]<;>first|omega|grind)|grind [inK,m93,m93,o102z]) ?_|refine OblG.mk (by ((conv=>whnf);(repeat (first|refine Bx.mk ?_|(intro h;(try simp [etas,elDef,-List.getD_eq_getElem?_getD] at h);conv=>whnf)));(first|omega|rfl|exact inK_byte _|(simp only [inK,Int.toNat_natCast,etas,elDef,m93,m93,o102z]<;>first|omega|grind)|grind [inK,m93,m93,o102z]))) ?_|refine And.intro ?_ ?_)<;>conv=>whnf)|exact True.intro|(intro;conv=>whnf)
    · rename_i h5
      have e5 : joinM n (i + 1) = joinM n i ++ [44] ++ quoteM (n.names.getD i []) ++ [58] ++ fmtM (n.kids.getD i default) := by
        rw [e1 h5]; unfold leadM; rw [if_pos h, hk]; simp
      exact ⟨i + 1, [], [], ⟨by omega, by grind⟩, by omega, by iterate 2 ((all_goals (conv=>whnf));(repeat' (first|exact trivial|rfl|(refine nilEq ?_;first|rfl|(simp only [*];done)|(simp [*];done)|grind)|apply And.intro|((first|apply intEq|apply boolEq|apply strEq|apply psEq|apply nilEq|apply arrEq);(try simp only [Int.toNat_natCast,etas,elDef]);first | done | omega | simp [e5]))));(all_goals ((try simp only [Int.toNat_natCast,etas,elDef]);first | done | omega | simp [e5])), (by exact sgOk_of (by rfl))⟩
    · rename_i h5
      have e5 : joinM n (i + 1) = joinM n i ++ quoteM (n.names.getD i []) ++ [58] ++ fmtM (n.kids.getD i default) := by
        rw [e1 h5]; unfold leadM; rw [if_neg (by omega), hk]; simp
      exact ⟨i + 1, [], [], ⟨by omega, by grind⟩, by omega, by iterate 2 ((all_goals (conv=>whnf));(repeat' (first|exact trivial|rfl|(refine nilEq ?_;first|rfl|(simp only [*];done)|(simp [*];done)|grind)|apply And.intro|((first|apply intEq|apply boolEq|apply strEq|apply psEq|apply nilEq|apply arrEq);(try simp only [Int.toNat_natCast,etas,elDef]);first | done | omega | simp [e5]))));(all_goals ((try simp only [Int.toNat_natCast,etas,elDef]);first | done | omega | simp [e5])), (by exact sgOk_of (by rfl))⟩
    · have e5 : i = n.kids.length := by omega
      subst e5
      exact leafQ hK (by rw [fmt_map hk]; simp)
  · exfalso; omega
theorem r93 : ∀ k, (CtrOK Tryd.prog 93 (.gen .ps (Ck93 k)) ∧ Callable Tryd.prog 93) := by
  intro k
  induction k with
  | zero =>
    exact ⟨fun args K h => by
        unfold Ck93 at h; split at h
        · exact absurd h.o (Nat.not_lt_zero _)
        · exact h.elim, callable Tryd.func93 rfl (by rfl)⟩
  | succ k ih =>
    refine gen_ok (E := E93 k) (mkE_cons ih (mkE_cons s101 (mkE_cons s102z (mkE_cons s103 (mkE_cons s104 (mkE_nil tab_ok)))))) mix (O := O93) (C := (Ck93 (k + 1))) (own := .ps) Tryd.func93 rfl (by rfl) (by kernel_rfl) (fun args K h hbd => ?_)
    unfold Ck93 at h; split at h
    case h_2 => exact h.elim
    exact ⟨Nat.le_of_ble_eq_true rfl, a93 k _ ⟨_, _, _, _, _⟩ h.o (by exact hbd) _ h.k⟩
theorem s93 : (CtrOK Tryd.prog 93 (.gen .ps C93) ∧ Callable Tryd.prog 93) := by
  refine ⟨fun args K h => ?_, (r93 0).2⟩
  unfold C93 at h; split at h
  · exact (r93 (m93 _ ⟨_, _, _, _, _⟩ + 1)).1 _ K ⟨Nat.lt_succ_self _, h⟩
  · exact h.elim
noncomputable def v82 (n : Nd) : AV := .str (textM n)
noncomputable def o82 (n : Nd) : Prop := True
noncomputable def F82 : List AV → QR
  | [.st [.int .i64 n_0, .int .i64 n_1, .str n_2, .ps .str n_3, .ps .node n_4]] => some (none, v82 ⟨n_0, n_1, n_2, n_3, n_4⟩)
  | _ => none
noncomputable def E82 : Ctx := mkE tab [(64, .pure F64), (93, .gen .ps C93), (94, .gen .ps C94)]
noncomputable def O82 : Nat → List DI := ordL []
theorem a82 (n : Nd) (hb : BdAs [.st (ndC n)]) (ho : o82 n) (K : AV → List AV → Prop) (hK : K (v82 n) []) : abody E82 O82 .ps Tryd.f82 (Tryd.f82.body.getD .skip) [.st (ndC n)] K := by
  simp only [BdAs, BdA, BdL, BdC, MX, ndC, shC, itC, stC, opC, chC, nwC, flC, rqC, rsC, enc, List.cons_append, List.nil_append, and_true, true_and] at hb
  unfold v82 at hK
  have h1 := fun h => validM_ok (n := n) h
  have h2 := fun h => (validM_iff (n := n).1 h).2
  conv => whnf
  repeat' first|((first|refine Cnd.mk (fun h=>?_) (fun h=>?_)|refine Gd.mk (fun h=>?_))<;>(try simp [etas,elDef,-List.getD_eq_getElem?_getD] at h)<;>conv=>whnf)|((first|refine Obl.mk (by first|omega|rfl|exact inK_byte _|(simp only [inK,Int.toNat_natCast,etas,elDef,m93]<;>first|omega|grind)|grind [inK,m93]) ?_|refine OblG.mk (by ((conv=>whnf);(repeat (first|refine Bx.mk ?_|(intro h;(try simp [etas,elDef,-List.getD_eq_getElem?_getD] at h);conv=>whnf)));(first|omega|rfl|exact inK_byte _|(simp only [inK,Int.toNat_natCast,etas,elDef,m93]<;>first|omega|grind)|grind [inK,m93]))) ?_|refine And.intro ?_ ?_)<;>conv=>whnf)|exact True.intro|(intro;conv=>whnf)
  · exact leafS hK (by unfold textM; rw [if_neg (by simp [h])])
  · exact leafS hK (by unfold textM; rw [if_pos h]; simp [nd_eta])
theorem s82 : (CtrOK Tryd.prog 82 (.pure F82) ∧ Callable Tryd.prog 82) := by
  refine pure_ok (E := E82) (mkE_cons s64 (mkE_cons s93 (mkE_cons s94 (mkE_nil tab_ok)))) mix (O := O82) (F := F82) Tryd.func82 rfl (by rfl) (by kernel_rfl) (fun args o v h => ?_) (fun args o v h => ?_) (fun args o v h hbd hp K hK => ?_)
  · unfold F82 at h; split at h <;> cases h; first | trivial | (simp [v82, Scalar, Scalar2, Scalar1, stC, ndC, itC, chC, nwC])
  · unfold F82 at h; split at h <;> cases h; exact Nat.le_of_ble_eq_true rfl
  · unfold F82 at h; split at h
    case h_2 => cases h
    cases h
    exact a82 ⟨_, _, _, _, _⟩ (by exact hbd) trivial K hK
noncomputable def v65 (n : Nd) : AV := .int .i64 (sizeTM n)
noncomputable def o65 (n : Nd) : Prop := True
noncomputable def F65 : List AV → QR
  | [.st [.int .i64 n_0, .int .i64 n_1, .str n_2, .ps .str n_3, .ps .node n_4]] => some (none, v65 ⟨n_0, n_1, n_2, n_3, n_4⟩)
  | _ => none
noncomputable def E65 : Ctx := mkE tab [(64, .pure F64), (82, .pure F82)]
noncomputable def O65 : Nat → List DI := ordL []
theorem a65 (n : Nd) (hb : BdAs [.st (ndC n)]) (ho : o65 n) (K : AV → List AV → Prop) (hK : K (v65 n) []) : abody E65 O65 .ps Tryd.f65 (Tryd.f65.body.getD .skip) [.st (ndC n)] K := by
  simp only [BdAs, BdA, BdL, BdC, MX, ndC, shC, itC, stC, opC, chC, nwC, flC, rqC, rsC, enc, List.cons_append, List.nil_append, and_true, true_and] at hb
  unfold v65 at hK
  conv => whnf
  repeat' first|((first|refine Cnd.mk (fun h=>?_) (fun h=>?_)|refine Gd.mk (fun h=>?_))<;>(try simp [etas,elDef,-List.getD_eq_getElem?_getD] at h)<;>conv=>whnf)|((first|refine Obl.mk (by first|omega|rfl|exact inK_byte _|(simp only [inK,Int.toNat_natCast,etas,elDef]<;>first|omega|grind)|grind [inK]) ?_|refine OblG.mk (by ((conv=>whnf);(repeat (first|refine Bx.mk ?_|(intro h;(try simp [etas,elDef,-List.getD_eq_getElem?_getD] at h);conv=>whnf)));(first|omega|rfl|exact inK_byte _|(simp only [inK,Int.toNat_natCast,etas,elDef]<;>first|omega|grind)|grind [inK]))) ?_|refine And.intro ?_ ?_)<;>conv=>whnf)|exact True.intro|(intro;conv=>whnf)
  · exact leafI hK (by unfold sizeTM; rw [if_neg (by simp [h])])
  · exact leafI hK (by simp only [nd_eta]; unfold sizeTM textM; rw [if_pos h, if_pos h])
theorem s65 : (CtrOK Tryd.prog 65 (.pure F65) ∧ Callable Tryd.prog 65) := by
  refine pure_ok (E := E65) (mkE_cons s64 (mkE_cons s82 (mkE_nil tab_ok))) mix (O := O65) (F := F65) Tryd.func65 rfl (by rfl) (by kernel_rfl) (fun args o v h => ?_) (fun args o v h => ?_) (fun args o v h hbd hp K hK => ?_)
  · unfold F65 at h; split at h <;> cases h; first | trivial | (simp [v65, Scalar, Scalar2, Scalar1, stC, ndC, itC, chC, nwC])
  · unfold F65 at h; split at h <;> cases h; exact Nat.le_of_ble_eq_true rfl
  · unfold F65 at h; split at h
    case h_2 => cases h
    cases h
    exact a65 ⟨_, _, _, _, _⟩ (by exact hbd) trivial K hK
noncomputable def v80 (s : Bs) : AV := .str (quoteM s)
noncomputable def o80 (s : Bs) : Prop := s.length ≤ 1000000
noncomputable def F80 : List AV → QR
  | [.str s] => some (some (o80 s), v80 s)
  | _ => none
noncomputable def E80 : Ctx := mkE tab []
noncomputable def O80 : Nat → List DI := ordL []
theorem a80 (s : Bs) (hb : BdAs [.str s]) (ho : o80 s) (K : AV → List AV → Prop) (hK : K (v80 s) []) : abody E80 O80 .ps Tryd.f80 (Tryd.f80.body.getD .skip) [.str s] K := by
  simp only [BdAs, BdA, BdL, BdC, MX, ndC, shC, itC, stC, opC, chC, nwC, flC, rqC, rsC, enc, List.cons_append, List.nil_append, and_true, true_and] at hb
  unfold o80 at ho
  unfold v80 at hK
  conv => whnf
  repeat' first|((first|refine Cnd.mk (fun h=>?_) (fun h=>?_)|refine Gd.mk (fun h=>?_))<;>(try simp [etas,elDef,-List.getD_eq_getElem?_getD] at h)<;>conv=>whnf)|((first|refine Obl.mk (by first|omega|rfl|exact inK_byte _|(simp only [inK,Int.toNat_natCast,etas,elDef]<;>first|omega|grind)|grind [inK]) ?_|refine OblG.mk (by ((conv=>whnf);(repeat (first|refine Bx.mk ?_|(intro h;(try simp [etas,elDef,-List.getD_eq_getElem?_getD] at h);conv=>whnf)));(first|omega|rfl|exact inK_byte _|(simp only [inK,Int.toNat_natCast,etas,elDef]<;>first|omega|grind)|grind [inK]))) ?_|refine And.intro ?_ ?_)<;>conv=>whnf)|exact True.intro|(intro;conv=>whnf)
  refine aloop_intro Nat (fun k => k ≤ s.length ∧ True) (fun k => s.length - k) (fun k => [(4, .int .i64 k), (3, .str (34 :: escsM (s.take k)))]) (fun k => []) [] 0 [] [] ?_ ?_ (by exact sgOk_of (by rfl)) ?_
  · first | (simp; done) | (simp; assumption)
  · iterate 2 ((all_goals (conv=>whnf));(repeat' (first|exact trivial|rfl|(refine nilEq ?_;first|rfl|(simp only [*];done)|(simp [*];done)|grind)|apply And.intro|((first|apply intEq|apply boolEq|apply strEq|apply psEq|apply nilEq|apply arrEq);(try simp only [Int.toNat_natCast,etas,elDef]);first | done | omega | grind | (simp only [*]; done) | (simp [*]; done)))));(all_goals ((try simp only [Int.toNat_natCast,etas,elDef]);first | done | omega | grind | (simp only [*]; done) | (simp [*]; done)))
  rintro i ⟨hi, hj⟩
  conv => whnf
  have hl := escs_take_len s i
  have hs := fun (h : i < s.length) => escs_take h
  have h9 := fun (h : i < s.length) => char_slice h
  repeat' first|((first|refine Cnd.mk (fun h=>?_) (fun h=>?_)|refine Gd.mk (fun h=>?_))<;>(try simp [etas,elDef,-List.getD_eq_getElem?_getD] at h)<;>conv=>whnf)|((first|refine Obl.mk (by first|omega|rfl|exact inK_byte _|(simp only [inK,Int.toNat_natCast,etas,elDef]<;>first|omega|grind)|grind [inK]) ?_|refine OblG.mk (by ((conv=>whnf);(repeat (first|refine Bx.mk ?_|(intro h;(try simp [etas,elDef,-List.getD_eq_getElem?_getD] at h);conv=>whnf)));(first|omega|rfl|exact inK_byte _|(simp only [inK,Int.toNat_natCast,etas,elDef]<;>first|omega|grind)|grind [inK]))) ?_|refine And.intro ?_ ?_)<;>conv=>whnf)|exact True.intro|(intro;conv=>whnf)
  · rename_i h5
    have e2 : escsM (s.take (i + 1)) = escsM (s.take i) ++ [92, s.getD i 0] := by rw [hs h5, esc_yes h]
    exact ⟨i + 1, [], [], ⟨by omega, by grind⟩, by omega, by iterate 2 ((all_goals (conv=>whnf));(repeat' (first|exact trivial|rfl|(refine nilEq ?_;first|rfl|(simp only [*];done)|(simp [*];done)|grind)|apply And.intro|((first|apply intEq|apply boolEq|apply strEq|apply psEq|apply nilEq|apply arrEq);(try simp only [Int.toNat_natCast,etas,elDef]);first | done | omega | simp [e2, h9 h5]))));(all_goals ((try simp only [Int.toNat_natCast,etas,elDef]);first | done | omega | simp [e2, h9 h5])), (by exact sgOk_of (by rfl))⟩
  · rename_i h5
    have e2 : escsM (s.take (i + 1)) = escsM (s.take i) ++ [s.getD i 0] := by rw [hs h5, esc_no h]
    exact ⟨i + 1, [], [], ⟨by omega, by grind⟩, by omega, by iterate 2 ((all_goals (conv=>whnf));(repeat' (first|exact trivial|rfl|(refine nilEq ?_;first|rfl|(simp only [*];done)|(simp [*];done)|grind)|apply And.intro|((first|apply intEq|apply boolEq|apply strEq|apply psEq|apply nilEq|apply arrEq);(try simp only [Int.toNat_natCast,etas,elDef]);first | done | omega | simp [e2, h9 h5]))));(all_goals ((try simp only [Int.toNat_natCast,etas,elDef]);first | done | omega | simp [e2, h9 h5])), (by exact sgOk_of (by rfl))⟩
  · exact leafS hK (by rw [List.take_of_length_le h]; simp [quoteM])
theorem s80 : (CtrOK Tryd.prog 80 (.pure F80) ∧ Callable Tryd.prog 80) := by
  refine pure_ok (E := E80) (mkE_nil tab_ok) mix (O := O80) (F := F80) Tryd.func80 rfl (by rfl) (by kernel_rfl) (fun args o v h => ?_) (fun args o v h => ?_) (fun args o v h hbd hp K hK => ?_)
  · unfold F80 at h; split at h <;> cases h; first | trivial | (simp [v80, Scalar, Scalar2, Scalar1, stC, ndC, itC, chC, nwC])
  · unfold F80 at h; split at h <;> cases h; exact Nat.le_of_ble_eq_true rfl
  · unfold F80 at h; split at h
    case h_2 => cases h
    cases h
    exact a80 _ (by exact hbd) (hp _ rfl) K hK
noncomputable def v62 (n : Nd) : AV := .str (fmtM n)
noncomputable def o62 (n : Nd) : Prop := okN n
noncomputable def m62 (n : Nd) : Nat := SizeOf.sizeOf n
noncomputable def F62 : List AV → QR
  | [.st [.int .i64 n_0, .int .i64 n_1, .str n_2, .ps .str n_3, .ps .node n_4]] => some (some (o62 ⟨n_0, n_1, n_2, n_3, n_4⟩), v62 ⟨n_0, n_1, n_2, n_3, n_4⟩)
  | _ => none
noncomputable def Fk62 (k : Nat) : List AV → QR
  | [.st [.int .i64 n_0, .int .i64 n_1, .str n_2, .ps .str n_3, .ps .node n_4]] => some (some (m62 ⟨n_0, n_1, n_2, n_3, n_4⟩ < k ∧ o62 ⟨n_0, n_1, n_2, n_3, n_4⟩), v62 ⟨n_0, n_1, n_2, n_3, n_4⟩)
  | _ => none
noncomputable def E62 (k : Nat) : Ctx := mkE tab [(62, .pure (Fk62 k)), (79, .pure F79z), (80, .pure F80)]
noncomputable def O62 : Nat → List DI := ordL []
theorem a62 (k : Nat) (n : Nd) (hm : m62 n < k + 1) (hb : BdAs [.st (ndC n)]) (ho : o62 n) (K : AV → List AV → Prop) (hK : K (v62 n) []) : abody (E62 k) O62 .ps Tryd.f62 (Tryd.f62.body.getD .skip) [.st (ndC n)] K := by
  simp only [BdAs, BdA, BdL, BdC, MX, ndC, shC, itC, stC, opC, chC, nwC, flC, rqC, rsC, enc, List.cons_append, List.nil_append, and_true, true_and] at hb
  unfold o62 at ho
  unfold v62 at hK
  unfold m62 at hm
  have hkid : ∀ j, j < n.kids.length → SizeOf.sizeOf (n.kids.getD j default) < k := fun j hj => by have := kid_size hj; omega
  have h6 := okN_kids ho
  have h7 := okN_num ho
  have ht := okN_text ho
  have hnm := (okN_names ho).2.1
  have hq := fun j (hj : j < n.names.length) => okN_name_len ho hj
  have hk0 := okN_kind ho
  have hf := okN_fmt ho
  have hc := okN_count ho
  conv => whnf
  repeat' first|((first|refine Cnd.mk (fun h=>?_) (fun h=>?_)|refine Gd.mk (fun h=>?_))<;>(try simp [etas,elDef,-List.getD_eq_getElem?_getD] at h)<;>conv=>whnf)|((first|refine Obl.mk (by first|omega|rfl|exact inK_byte _|(simp only [inK,Int.toNat_natCast,etas,elDef,m62,o62,m62,o79z,o80]<;>first|omega|grind)|grind [inK,m62,o62,m62,o79z,o80]) ?_|refine OblG.mk (by ((conv=>whnf);(repeat (first|refine Bx.mk ?_|(intro h;(try simp [etas,elDef,-List.getD_eq_getElem?_getD] at h);conv=>whnf)));(first|omega|rfl|exact inK_byte _|(simp only [inK,Int.toNat_natCast,etas,elDef,m62,o62,m62,o79z,o80]<;>first|omega|grind)|grind [inK,m62,o62,m62,o79z,o80]))) ?_|refine And.intro ?_ ?_)<;>conv=>whnf)|exact True.intro|(intro;conv=>whnf)
  · exact leafS hK (fmt_num h)
  · exact leafS hK (fmt_text h)
  · exact leafS hK (fmt_none h)
  · refine aloop_intro Nat (fun k => k ≤ n.kids.length ∧ True) (fun k => n.kids.length - k) (fun k => [(4, .int .i64 k), (3, .str (joinM n k))]) (fun k => []) [1] 0 [] [] ?_ ?_ (by exact sgOk_of (by rfl)) ?_
    · first | (simp; done) | (simp; assumption)
    · iterate 2 ((all_goals (conv=>whnf));(repeat' (first|exact trivial|rfl|(refine nilEq ?_;first|rfl|(simp only [*];done)|(simp [*];done)|grind)|apply And.intro|((first|apply intEq|apply boolEq|apply strEq|apply psEq|apply nilEq|apply arrEq);(try simp only [Int.toNat_natCast,etas,elDef]);first | done | omega | grind | (simp only [*]; done) | (simp [*]; done)))));(all_goals ((try simp only [Int.toNat_natCast,etas,elDef]);first | done | omega | grind | (simp only [*]; done) | (simp [*]; done)))
    rintro i ⟨hi, hj⟩
    conv => whnf
    have e1 := fun h => joinM_succ (n := n) (i := i) h
    have e2 := fun h => join_room ho (i := i) h
    have e3 := join_end ho (i := i) hi
    have e4 := fun h => okN_kid ho (j := i) h
    have e6 := hq i
    have e7 := quote_len (n.names.getD i [])
    have e8 := fun h => okN_fmt (okN_kid ho (j := i) h)
    repeat' first|((first|refine Cnd.mk (fun h=>?_) (fun h=>?_)|refine Gd.mk (fun h=>?_))<;>(try simp [etas,elDef,-List.getD_eq_getElem?_getD] at h)<;>conv=>whnf)|((first|refine Obl.mk (by first|omega|rfl|exact inK_byte _|(simp only [inK,Int.toNat_natCast,etas,elDef,m62,o62,m62,o79z,o80]<;>first|omega|grind)|grind [inK,m62,o62,m62,o79z,o80]) ?_|refine OblG.mk (by ((conv=>whnf);(repeat (first|refine Bx.mk ?_|(intro h;(try simp [etas,elDef,-List.getD_eq_getElem?_getD] at h);conv=>whnf)));(first|omega|rfl|exact inK_byte _|(simp only [inK,Int.toNat_natCast,etas,elDef,m62,o62,m62,o79z,o80]<;>first|omega|grind)|grind [inK,m62,o62,m62,o79z,o80]))) ?_|refine And.intro ?_ ?_)<;>conv=>whnf)|exact True.intro|(intro;conv=>whnf)
    · rename_i h5 h50
      have e5 : joinM n (i + 1) = joinM n i ++ [44] ++ quoteM (n.names.getD i []) ++ [58] ++ fmtM (n.kids.getD i default) := by
        rw [e1 h5]; unfold leadM; rw [if_pos h50, if_pos h]; simp
      exact ⟨i + 1, [], [], ⟨by omega, by grind⟩, by omega, by iterate 2 ((all_goals (conv=>whnf));(repeat' (first|exact trivial|rfl|(refine nilEq ?_;first|rfl|(simp only [*];done)|(simp [*];done)|grind)|apply And.intro|((first|apply intEq|apply boolEq|apply strEq|apply psEq|apply nilEq|apply arrEq);(try simp only [Int.toNat_natCast,etas,elDef]);first | done | omega | simp [e5]))));(all_goals ((try simp only [Int.toNat_natCast,etas,elDef]);first | done | omega | simp [e5])), (by exact sgOk_of (by rfl))⟩
    · rename_i h5 h50
      have e5 : joinM n (i + 1) = joinM n i ++ [44] ++ fmtM (n.kids.getD i default) := by
        rw [e1 h5]; unfold leadM; rw [if_pos h50, if_neg h]; simp
      exact ⟨i + 1, [], [], ⟨by omega, by grind⟩, by omega, by iterate 2 ((all_goals (conv=>whnf));(repeat' (first|exact trivial|rfl|(refine nilEq ?_;first|rfl|(simp only [*];done)|(simp [*];done)|grind)|apply And.intro|((first|apply intEq|apply boolEq|apply strEq|apply psEq|apply nilEq|apply arrEq);(try simp only [Int.toNat_natCast,etas,elDef]);first | done | omega | simp [e5]))));(all_goals ((try simp only [Int.toNat_natCast,etas,elDef]);first | done | omega | simp [e5])), (by exact sgOk_of (by rfl))⟩
    · rename_i h5 h50
      have e5 : joinM n (i + 1) = joinM n i ++ quoteM (n.names.getD i []) ++ [58] ++ fmtM (n.kids.getD i default) := by
        rw [e1 h5]; unfold leadM; rw [if_neg (by omega), if_pos h]; simp
      exact ⟨i + 1, [], [], ⟨by omega, by grind⟩, by omega, by iterate 2 ((all_goals (conv=>whnf));(repeat' (first|exact trivial|rfl|(refine nilEq ?_;first|rfl|(simp only [*];done)|(simp [*];done)|grind)|apply And.intro|((first|apply intEq|apply boolEq|apply strEq|apply psEq|apply nilEq|apply arrEq);(try simp only [Int.toNat_natCast,etas,elDef]);first | done | omega | simp [e5]))));(all_goals ((try simp only [Int.toNat_natCast,etas,elDef]);first | done | omega | simp [e5])), (by exact sgOk_of (by rfl))⟩
    · rename_i h5 h50
      have e5 : joinM n (i + 1) = joinM n i ++ fmtM (n.kids.getD i default) := by
        rw [e1 h5]; unfold leadM; rw [if_neg (by omega), if_neg h]; simp
      exact ⟨i + 1, [], [], ⟨by omega, by grind⟩, by omega, by iterate 2 ((all_goals (conv=>whnf));(repeat' (first|exact trivial|rfl|(refine nilEq ?_;first|rfl|(simp only [*];done)|(simp [*];done)|grind)|apply And.intro|((first|apply intEq|apply boolEq|apply strEq|apply psEq|apply nilEq|apply arrEq);(try simp only [Int.toNat_natCast,etas,elDef]);first | done | omega | simp [e5]))));(all_goals ((try simp only [Int.toNat_natCast,etas,elDef]);first | done | omega | simp [e5])), (by exact sgOk_of (by rfl))⟩
    · have hk := h
      have e5 : i = n.kids.length := by omega
      subst e5
      exact leafS hK (by rw [fmt_map hk]; simp)
    · have hk : n.kind = 3 := by omega
      have e5 : i = n.kids.length := by omega
      subst e5
      exact leafS hK (by rw [fmt_list hk]; simp)
theorem r62 : ∀ k, (CtrOK Tryd.prog 62 (.pure (Fk62 k)) ∧ Callable Tryd.prog 62) := by
  intro k
  induction k with
  | zero =>
    exact ⟨⟨fun args o v h => by unfold Fk62 at h; split at h <;> cases h; first | trivial | (simp [v62, Scalar, Scalar2, Scalar1, stC, ndC, itC, chC, nwC]), fun args K h => by
        unfold pureC Fk62 at h; split at h
        · rename_i h1; split at h1 <;> cases h1; exact absurd (h.1 _ rfl).1 (Nat.not_lt_zero _)
        · exact h.elim⟩, callable Tryd.func62 rfl (by rfl)⟩
  | succ k ih =>
    refine pure_ok (E := E62 k) (mkE_cons ih (mkE_cons s79z (mkE_cons s80 (mkE_nil tab_ok)))) mix (O := O62) (F := (Fk62 (k + 1))) Tryd.func62 rfl (by rfl) (by kernel_rfl) (fun args o v h => ?_) (fun args o v h => ?_) (fun args o v h hbd hp K hK => ?_)
    · unfold Fk62 at h; split at h <;> cases h; first | trivial | (simp [v62, Scalar, Scalar2, Scalar1, stC, ndC, itC, chC, nwC])
    · unfold Fk62 at h; split at h <;> cases h; exact Nat.le_of_ble_eq_true rfl
    · unfold Fk62 at h; split at h
      case h_2 => cases h
      cases h
      exact a62 k ⟨_, _, _, _, _⟩ (hp _ rfl).1 (by exact hbd) (hp _ rfl).2 K hK
theorem s62 : (CtrOK Tryd.prog 62 (.pure F62) ∧ Callable Tryd.prog 62) := by
  refine ⟨⟨fun args o v h => ?_, fun args K h => ?_⟩, (r62 0).2⟩
  · unfold F62 at h; split at h <;> cases h; first | trivial | (simp [v62, Scalar, Scalar2, Scalar1, stC, ndC, itC, chC, nwC])
  · unfold pureC F62 at h; split at h
    · rename_i h1; split at h1 <;> cases h1
      exact (r62 (m62 ⟨_, _, _, _, _⟩ + 1)).1.2 _ K ⟨fun p hp => by cases hp; exact ⟨Nat.lt_succ_self _, (h.1 _ rfl)⟩, h.2⟩
    · exact h.elim
end Go.Rs

