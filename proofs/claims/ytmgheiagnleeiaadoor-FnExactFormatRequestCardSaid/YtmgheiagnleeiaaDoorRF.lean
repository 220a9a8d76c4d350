import Derived.Test.YtmgheiagnleeiaaDoorRB
import Derived.Test.YtmgheiagnleeiaaDoorRE
import Derived.Test.YtmgheiagnleeiaaDoorCY
import Derived.Test.YtmgheiagnleeiaaDoorMJ
import Derived.Shelf.Strings.OnBuilder
set_option linter.all false
set_option linter.unusedSimpArgs false
set_option linter.unusedVariables false
namespace Go.Proofs
open Go.Shelf
def Tryd.lays156_ren : Go.Shelf.Ren := ⟨fun | 156 => 22 | 165 => 53 | 166 => 54 | 169 => 50 | 240 => 73 | 241 => 74 | 276 => 80 | 277 => 81 | n => n, fun | 31 => 22 | 9 => 9 | 3 => 3 | 4 => 4 | 0 => 0 | 20 => 20 | 72 => 79 | 76 => 88 | 70 => 76 | 37 => 77 | 75 => 85 | 127 => 97 | 164 => 100 | 5 => 5 | 80 => 81 | n => n, fun | n => n⟩
theorem Tryd.lays156 : Go.Proofs.Lays.n156 Tryd.prog Tryd.lays156_ren := {
  mixed := by kernel_rfl
  f156 := Tryd.func22.trans (congrArg some (by kernel_rfl))
  f165 := Tryd.func53.trans (congrArg some (by kernel_rfl))
  f166 := Tryd.func54.trans (congrArg some (by kernel_rfl))
  f169 := Tryd.func50.trans (congrArg some (by kernel_rfl))
  f240 := Tryd.func73.trans (congrArg some (by kernel_rfl))
  f241 := Tryd.func74.trans (congrArg some (by kernel_rfl))
  f276 := Tryd.func80.trans (congrArg some (by kernel_rfl))
  f277 := Tryd.func81.trans (congrArg some (by kernel_rfl))
  t0 := Tryd.underlying0
  a0 := Tryd.isAgg0
  z0 := Tryd.sizeOf0
  v0 := Tryd.zeroValue0
  t3 := Tryd.underlying3
  a3 := Tryd.isAgg3
  z3 := Tryd.sizeOf3
  v3 := Tryd.zeroValue3
  t4 := Tryd.underlying4
  a4 := Tryd.isAgg4
  z4 := Tryd.sizeOf4
  v4 := Tryd.zeroValue4
  t9 := Tryd.underlying9
  a9 := Tryd.isAgg9
  z9 := Tryd.sizeOf9
  v9 := Tryd.zeroValue9
  t20 := Tryd.underlying20
  a20 := Tryd.isAgg20
  z20 := Tryd.sizeOf20
  v20 := Tryd.zeroValue20
  t31 := Tryd.underlying22
  a31 := Tryd.isAgg22
  z31 := Tryd.sizeOf22
  v31 := Tryd.zeroValue22
  t37 := Tryd.underlying77
  a37 := Tryd.isAgg77
  z37 := Tryd.sizeOf77
  v37 := Tryd.zeroValue77
  t70 := Tryd.underlying76
  a70 := Tryd.isAgg76
  z70 := Tryd.sizeOf76
  v70 := Tryd.zeroValue76
  t72 := Tryd.underlying79
  a72 := Tryd.isAgg79
  z72 := Tryd.sizeOf79
  v72 := Tryd.zeroValue79
  t75 := Tryd.underlying85
  a75 := Tryd.isAgg85
  z75 := Tryd.sizeOf85
  v75 := Tryd.zeroValue85
  t76 := Tryd.underlying88
  a76 := Tryd.isAgg88
  z76 := Tryd.sizeOf88
  v76 := Tryd.zeroValue88
  t127 := Tryd.underlying97
  a127 := Tryd.isAgg97
  z127 := Tryd.sizeOf97
  v127 := Tryd.zeroValue97
  t164 := Tryd.underlying100
  a164 := Tryd.isAgg100
  z164 := Tryd.sizeOf100
  v164 := Tryd.zeroValue100 }
theorem Tryd.Builder_Extra_156 : Builder.Extra Tryd.prog Tryd.lays156_ren := {
  sizeBuilder := by kernel_rfl
  liesBuilder := by kernel_rfl
  t5 := Tryd.underlying5
  a5 := Tryd.isAgg5
  z5 := Tryd.sizeOf5
  v5 := Tryd.zeroValue5
  infoByte := by kernel_rfl
  cellsByte := by kernel_rfl
  sizeByte := by kernel_rfl
  neB5 := by decide }
open Go.RowKit in
theorem Tryd.strings_Join_none (a : Option Addr) (c : Nat) (sep : ByteArray) (w : World) :
    Calls Tryd.prog 22 #[.slice a 0 c, .string sep] w fun e w' => e = .returned (.string ⟨#[]⟩) ∧ w' = w := Any.strings_Join_none Tryd.lays156 Tryd.Builder_Extra_156 a c sep w
open Go.RowKit in
theorem Tryd.strings_Join (bk o c : Nat) (xs : List ByteArray) (sep : ByteArray) (w : World) (hcells : ∀ (j : Nat) x, xs[j]? = some x → w.cell? ⟨bk, o + j, none⟩ = some (.string x)) (hbk : bk < w.heap.size) (hN : xs.length ≤ 140737488355328) (hcap : xs.length ≤ c) (hlen : (Lib.join (xs.map (·.data.toList)) sep.data.toList).length ≤ 140737488355328) :
    Calls Tryd.prog 22 #[.slice (some ⟨bk, o, none⟩) xs.length c, .string sep] w fun e w' => e = .returned (.string ⟨(Lib.join (xs.map (·.data.toList)) sep.data.toList).toArray⟩) ∧ Below w.heap.size w w' := Any.strings_Join Tryd.lays156 Tryd.Builder_Extra_156 bk o c xs sep w hcells hbk hN hcap hlen
end Go.Proofs
namespace Go.Rs
open Go.Proofs Go.RowKit
set_option maxRecDepth 100000
set_option maxHeartbeats 4000000
theorem join5 (a b c d e s : Bs) : Lib.join [a, b, c, d, e] s = a ++ s ++ b ++ s ++ c ++ s ++ d ++ s ++ e := by
  simp [Lib.join, List.intercalate]
theorem map_back (l : List Bs) : (l.map fun s => (⟨s.toArray⟩ : ByteArray)).map (·.data.toList) = l := by
  rw [List.map_map]
  induction l with
  | nil => rfl
  | cons a l ih => rw [List.map_cons, ih]; rfl
theorem kjoin (l : List Bs) (sep : Bs) {γ : Nat → Nat} {w : World} {x : Value} (hr : Rep noU noν γ w x (.ps .str l)) (hf : ∀ b, w.heap.size ≤ b → γ b = 0) (hlen : (Lib.join l sep).length ≤ 140737488355328) :
    Calls Tryd.prog 22 #[x, .string ⟨sep.toArray⟩] w fun e w' => e = .returned (.string ⟨(Lib.join l sep).toArray⟩) ∧ Below w.heap.size w w' := by
  cases hr with
  | ps _ _ a cap c hM hc ha h1 hr =>
    by_cases hl : l = []
    · subst hl
      refine (Tryd.strings_Join_none a cap ⟨sep.toArray⟩ w).mono ?_
      rintro e w' ⟨rfl, rfl⟩
      exact ⟨rfl, Below.refl _ _⟩
    · rcases ha with ha | ⟨b, off, rfl, hle, hcell⟩
      · exact absurd ha hl
      have hpos : 0 < l.length := List.length_pos_iff.2 hl
      have hc1 : ∀ j (hj : j < l.length), c j = .string ⟨(l.getD j []).toArray⟩ := fun j hj => by
        have := hr j hj 0 (by decide)
        simp only [esz, Nat.mul_one, Nat.add_zero] at this
        exact rep_str this
      have hb : b < w.heap.size := by
        rcases Nat.lt_or_ge b w.heap.size with h | h
        · exact h
        · have := hf b h
          simp only [esz, Nat.mul_one] at hle
          omega
      have hJ := Tryd.strings_Join b off cap (l.map fun s => (⟨s.toArray⟩ : ByteArray)) ⟨sep.toArray⟩ w (fun j y hy => by
        rw [List.getElem?_map] at hy
        have hj : j < l.length := by
          rcases Nat.lt_or_ge j l.length with h | h
          · exact h
          · rw [List.getElem?_eq_none h] at hy; cases hy
        rw [List.getElem?_eq_getElem hj] at hy
        have hy2 : (⟨(l[j]).toArray⟩ : ByteArray) = y := by simpa using hy
        rw [hcell j (by simp only [esz, Nat.mul_one]; exact hj), hc1 j hj, getD_get hj, hy2]) hb (by rw [List.length_map]; exact hM) (by rw [List.length_map]; exact hc) (by rw [map_back]; exact hlen)
      rw [map_back, List.length_map] at hJ
      exact hJ
theorem ia_ps {γ : Nat → Nat} {w : World} {S x} {E : El} {l : List (ElT E)} (h : IA γ w S x (.ps E l)) : S = [] ∧ Rep noU noν γ w x (.ps E l) := by
  cases h with
  | val h => cases h with
    | cell h => cases h with
      | per h _ => exact ⟨rfl, h⟩
noncomputable def v22 (l : List Bs) (b : Bs) : AV := .str (Lib.join l b)
noncomputable def o22 (l : List Bs) (b : Bs) : Prop := (Lib.join l b).length ≤ 140737488355328
noncomputable def F22 : List AV → QR
  | [.ps .str l, .str b] => some (some (o22 l b), v22 l b)
  | _ => none
theorem s22 : CtrOK Tryd.prog 22 (.pure F22) ∧ Callable Tryd.prog 22 := by
  refine ⟨⟨fun args o v h => ?_, fun args K hK w γ S xs hi hn hf ht hs => ?_⟩, callable Tryd.func22 rfl (by rfl)⟩
  · unfold F22 at h; split at h <;> cases h; trivial
  · unfold pureC F22 at hK
    split at hK
    case h_2 => exact hK.elim
    rename_i O v hq
    split at hq
    case h_2 => cases hq
    rename_i l b
    cases hq
    have h0 : (Lib.join l b).length ≤ 140737488355328 := hK.1 _ rfl
    cases hi with
    | cons h1 h2 =>
      cases h2 with
      | cons h2 h3 =>
        cases h3
        obtain ⟨rfl, hrep⟩ := ia_ps h1
        obtain ⟨rfl, rfl⟩ := ia_str h2
        refine Calls.mono (kjoin l b hrep hf h0) ?_
        rintro e w' ⟨rfl, hb⟩
        exact ⟨_, [], _, γ, [], [], hK.2, rfl, .one (.cell (.per (.str _ (by unfold MX; omega)) rfl)), .nil, by simp, ⟨hb.os, hb.tape, hb.output, hb.size, fun k hk _ => ⟨hb.block k hk, rfl⟩, fun k hk => hf k (Nat.le_trans hb.size hk), by simp⟩, by simp⟩
theorem reqText_eq {q : Req} (h1 : reqM q = true) (h2 : (¬q.method = 2 → ¬q.method = 5 → q.body.kind = 0) ∧ (¬q.method = 4 → q.ops = [])) :
    reqTextM q = if opsV q.ops = true then headM q ++ (if q.method = 4 then opsT q.ops q.ops.length else textM q.body) else [] := by
  unfold reqTextM
  rw [if_pos h1, if_neg]
  rintro (h | h)
  · exact h.1 (h2.1 h.2.1 h.2.2)
  · have := h2.2 h.1; rw [this] at h; simp at h
theorem reqJoin_len {q : Req} (h1 : reqM q = true) {c : Bs} (hc : c.length ≤ 100000) : (Lib.join [methodB q.method, q.name, tagsM q.want, tagsM q.avoid, c] [32]).length ≤ 140737488355328 := by
  have m1 := methodB_len q.method
  have m2 := tagsM_len q.want
  have m3 := tagsM_len q.avoid
  have m4 := name_len (reqM_facts h1).2.1
  rw [join5]
  simp only [List.length_append, List.length_cons, List.length_nil]
  omega
noncomputable def v7 (q : Req) : AV := .str (reqTextM q)
noncomputable def o7 (q : Req) : Prop := True
noncomputable def F7 : List AV → QR
  | [.st [.int .i64 q_0, .str q_1, .ps .str q_2, .ps .str q_3, .int .i64 q_4_0, .int .i64 q_4_1, .str q_4_2, .ps .str q_4_3, .ps .node q_4_4, .ps .opn q_5]] => some (none, v7 ⟨q_0, q_1, q_2, q_3, ⟨q_4_0, q_4_1, q_4_2, q_4_3, q_4_4⟩, q_5⟩)
  | _ => none
noncomputable def E7 : Ctx := mkE tab [(19, .pure F19), (20, .pure F20), (21, .pure F21), (22, .pure F22), (23, .pure F23), (24, .pure F24)]
noncomputable def O7 : Nat → List DI := ordL [(12, [.q 0, .q 1, .q 2, .q 3, .q 4, .q 5, .q 6, .q 7, .q 8, .q 9, .q 10, .q 11, .l 12 [], .q 13, .q 14])]
theorem a7 (q : Req) (hb : BdAs [.st (rqC q)]) (ho : o7 q) (K : AV → List AV → Prop) (hK : K (v7 q) []) : abody E7 O7 .ps Tryd.f7 (Tryd.f7.body.getD .skip) [.st (rqC q)] K := by
  simp only [BdAs, BdA, BdL, BdC, MX, ndC, shC, itC, stC, opC, chC, nwC, flC, rqC, rsC, enc, List.cons_append, List.nil_append, and_true, true_and] at hb
  unfold v7 at hK
  conv => whnf
  repeat' first|((first|refine Cnd.mk (fun h=>?_) (fun h=>?_)|refine Gd.mk (fun h=>?_))<;>(try simp [etas,elDef,-List.getD_eq_getElem?_getD] at h)<;>conv=>whnf)|((first|refine Obl.mk (by first|omega|rfl|exact inK_byte _|(simp only [inK,Int.toNat_natCast,etas,elDef,o21,o22]<;>first|omega|grind)|grind [inK,o21,o22]) ?_|refine OblG.mk (by ((conv=>whnf);(repeat (first|refine Bx.mk ?_|(intro h;(try simp [etas,elDef,-List.getD_eq_getElem?_getD] at h);conv=>whnf)));(first|omega|rfl|exact inK_byte _|(simp only [inK,Int.toNat_natCast,etas,elDef,o21,o22]<;>first|omega|grind)|grind [inK,o21,o22]))) ?_|refine And.intro ?_ ?_)<;>conv=>whnf)|exact True.intro|(intro;conv=>whnf)
  · exact leafS hK (by unfold reqTextM; rw [if_neg (by rw [h]; simp)])
  · rename_i h1
    refine leafS hK ?_
    unfold reqTextM
    rw [if_pos h1, if_pos]
    rcases h with h | h
    · exact .inl ⟨h.2, h.1.1, h.1.2⟩
    · exact .inr h
  · rename_i h1 h2
    have eT := reqText_eq h1 h2
    obtain ⟨f1, f2, f3, f4, f5, f6⟩ := reqM_facts h1
    rw [if_pos h] at eT
    have hm := h
    refine Obl.mk f6 ?_
    conv => whnf
    repeat' first|((first|refine Cnd.mk (fun h=>?_) (fun h=>?_)|refine Gd.mk (fun h=>?_))<;>(try simp [etas,elDef,-List.getD_eq_getElem?_getD] at h)<;>conv=>whnf)|((first|refine Obl.mk (by first|omega|rfl|exact inK_byte _|(simp only [inK,Int.toNat_natCast,etas,elDef,o21,o22]<;>first|omega|grind)|grind [inK,o21,o22]) ?_|refine OblG.mk (by ((conv=>whnf);(repeat (first|refine Bx.mk ?_|(intro h;(try simp [etas,elDef,-List.getD_eq_getElem?_getD] at h);conv=>whnf)));(first|omega|rfl|exact inK_byte _|(simp only [inK,Int.toNat_natCast,etas,elDef,o21,o22]<;>first|omega|grind)|grind [inK,o21,o22]))) ?_|refine And.intro ?_ ?_)<;>conv=>whnf)|exact True.intro|(intro;conv=>whnf)
    · exact leafS hK (by rw [eT, if_neg (by rw [h]; simp)])
    · rw [if_pos h] at eT
      have hl := opsT_len (l := q.ops) q.ops.length (Nat.le_refl _) ((all_listD q.ops default _).1 h)
      have h12 := (opsM_at f6).1
      refine Obl.mk (reqJoin_len h1 (by rw [if_pos h]; omega)) ?_
      conv => whnf
      repeat' first|((first|refine Cnd.mk (fun h=>?_) (fun h=>?_)|refine Gd.mk (fun h=>?_))<;>(try simp [etas,elDef,-List.getD_eq_getElem?_getD] at h)<;>conv=>whnf)|((first|refine Obl.mk (by first|omega|rfl|exact inK_byte _|(simp only [inK,Int.toNat_natCast,etas,elDef,o21,o22]<;>first|omega|grind)|grind [inK,o21,o22]) ?_|refine OblG.mk (by ((conv=>whnf);(repeat (first|refine Bx.mk ?_|(intro h;(try simp [etas,elDef,-List.getD_eq_getElem?_getD] at h);conv=>whnf)));(first|omega|rfl|exact inK_byte _|(simp only [inK,Int.toNat_natCast,etas,elDef,o21,o22]<;>first|omega|grind)|grind [inK,o21,o22]))) ?_|refine And.intro ?_ ?_)<;>conv=>whnf)|exact True.intro|(intro;conv=>whnf)
      exact leafS hK (by rw [eT, join5, if_pos h]; rfl)
  · rename_i h1 h2
    have eT := reqText_eq h1 h2
    have hv : opsV q.ops = true := by rw [h2.2 h]; rfl
    rw [if_neg h, if_pos hv] at eT
    have hl := textM_len q.body
    refine Obl.mk (reqJoin_len h1 (by simp only [nd_eta]; omega)) ?_
    conv => whnf
    repeat' first|((first|refine Cnd.mk (fun h=>?_) (fun h=>?_)|refine Gd.mk (fun h=>?_))<;>(try simp [etas,elDef,-List.getD_eq_getElem?_getD] at h)<;>conv=>whnf)|((first|refine Obl.mk (by first|omega|rfl|exact inK_byte _|(simp only [inK,Int.toNat_natCast,etas,elDef,o21,o22]<;>first|omega|grind)|grind [inK,o21,o22]) ?_|refine OblG.mk (by ((conv=>whnf);(repeat (first|refine Bx.mk ?_|(intro h;(try simp [etas,elDef,-List.getD_eq_getElem?_getD] at h);conv=>whnf)));(first|omega|rfl|exact inK_byte _|(simp only [inK,Int.toNat_natCast,etas,elDef,o21,o22]<;>first|omega|grind)|grind [inK,o21,o22]))) ?_|refine And.intro ?_ ?_)<;>conv=>whnf)|exact True.intro|(intro;conv=>whnf)
    exact leafS hK (by rw [eT, join5]; simp only [nd_eta]; rfl)
theorem s7 : (CtrOK Tryd.prog 7 (.pure F7) ∧ Callable Tryd.prog 7) := by
  refine pure_ok (E := E7) (mkE_cons s19 (mkE_cons s20 (mkE_cons s21 (mkE_cons s22 (mkE_cons s23 (mkE_cons s24 (mkE_nil tab_ok))))))) mix (O := O7) (F := F7) Tryd.func7 rfl (by rfl) (by kernel_rfl) (fun args o v h => ?_) (fun args o v h => ?_) (fun args o v h hbd hp K hK => ?_)
  · unfold F7 at h; split at h <;> cases h; first | trivial | (simp [v7, Scalar, Scalar2, Scalar1, stC, ndC, itC, chC, nwC])
  · unfold F7 at h; split at h <;> cases h; exact Nat.le_of_ble_eq_true rfl
  · unfold F7 at h; split at h
    case h_2 => cases h
    cases h
    exact a7 ⟨_, _, _, _, ⟨_, _, _, _, _⟩, _⟩ (by exact hbd) trivial K hK
noncomputable def c3 (q : Req) (K : AV → List AV → Prop) : Prop :=
    Obl (bdR q) (K (.bool true) [])
noncomputable def C3 : List AV → (AV → List AV → Prop) → Prop
  | [.st [.int .i64 q_0, .str q_1, .ps .str q_2, .ps .str q_3, .int .i64 q_4_0, .int .i64 q_4_1, .str q_4_2, .ps .str q_4_3, .ps .node q_4_4, .ps .opn q_5]], K => c3 ⟨q_0, q_1, q_2, q_3, ⟨q_4_0, q_4_1, q_4_2, q_4_3, q_4_4⟩, q_5⟩ K
  | _, _ => False
noncomputable def E3 : Ctx := mkE tab [(4, .gen .ps C4), (5, .pure F5), (6, .gen .ps C6), (7, .pure F7), (8, .pure F8)]
noncomputable def O3 : Nat → List DI := ordL [(10, [.q 0, .q 1, .l 2 [0], .q 3, .q 4])]
theorem a3 (q : Req) (hb : BdAs [.st (rqC q)]) (K : AV → List AV → Prop) (h : c3 q K) : abody E3 O3 .ps Tryd.f3 (Tryd.f3.body.getD .skip) [.st (rqC q)] K := by
  simp only [BdAs, BdA, BdL, BdC, MX, ndC, shC, itC, stC, opC, chC, nwC, flC, rqC, rsC, enc, List.cons_append, List.nil_append, and_true, true_and] at hb
  unfold c3 at h
  obtain ⟨h1, hK⟩ := h
  conv => whnf
  repeat' first|((first|refine Cnd.mk (fun h=>?_) (fun h=>?_)|refine Gd.mk (fun h=>?_))<;>(try simp [etas,elDef,-List.getD_eq_getElem?_getD] at h)<;>conv=>whnf)|((first|refine Obl.mk (by first|omega|rfl|exact inK_byte _|(simp only [inK,Int.toNat_natCast,etas,elDef]<;>first|omega|grind)|grind [inK]) ?_|refine OblG.mk (by ((conv=>whnf);(repeat (first|refine Bx.mk ?_|(intro h;(try simp [etas,elDef,-List.getD_eq_getElem?_getD] at h);conv=>whnf)));(first|omega|rfl|exact inK_byte _|(simp only [inK,Int.toNat_natCast,etas,elDef]<;>first|omega|grind)|grind [inK]))) ?_|refine And.intro ?_ ?_)<;>conv=>whnf)|exact True.intro|(intro;conv=>whnf)
  all_goals first
    | exact hK
    | (exfalso; (first | omega | exact absurd rfl (eqD_no.1 h) | exact absurd rfl h | (rcases h with h1 | h1 <;> first | omega | exact absurd rfl (eqD_no.1 h1) | exact absurd rfl h1 | (rcases h1 with h2 | h2 <;> first | omega | exact absurd rfl (eqD_no.1 h2) | exact absurd rfl h2))))
theorem s3 : (CtrOK Tryd.prog 3 (.gen .ps C3) ∧ Callable Tryd.prog 3) := by
  refine gen_ok (E := E3) (mkE_cons s4 (mkE_cons s5 (mkE_cons s6 (mkE_cons s7 (mkE_cons s8 (mkE_nil tab_ok)))))) mix (O := O3) (C := C3) (own := .ps) Tryd.func3 rfl (by rfl) (by kernel_rfl) (fun args K h hbd => ?_)
  unfold C3 at h; split at h
  case h_2 => exact h.elim
  exact ⟨Nat.le_of_ble_eq_true rfl, a3 ⟨_, _, _, _, ⟨_, _, _, _, _⟩, _⟩ (by exact hbd) _ h⟩
end Go.Rs

