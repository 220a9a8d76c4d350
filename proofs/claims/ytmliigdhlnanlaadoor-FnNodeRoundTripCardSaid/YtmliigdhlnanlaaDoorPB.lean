import Derived.Test.YtmliigdhlnanlaaDoorEA
import Derived.Test.YtmliigdhlnanlaaDoorCA
import Derived.Test.YtmliigdhlnanlaaDoorMI
set_option linter.all false
set_option linter.unusedSimpArgs false
set_option linter.unusedVariables false
namespace Go.Rs
open Go.Proofs Go.RowKit
set_option maxRecDepth 100000
set_option maxHeartbeats 4000000
theorem getD_out {t : Bs} {p : Nat} (h : t.length ≤ p) : t.getD p 0 = 0 := by simp [h]
theorem bytes_id (l : Bs) : List.map (fun n : Int => UInt8.ofNat n.toNat) (l.map fun c => (c.toNat : Int)) = l := by
  rw [List.map_map]
  conv => rhs; rw [← List.map_id l]
  exact List.map_congr_left fun c _ => by simp
noncomputable def c65 (t : Bs) (p : Int) (b : Bool) (K : AV → List AV → Prop) : Prop :=
    Obl (0 ≤ p) (K (.int .u8 (t.getD p.toNat 0).toNat) [.ref [.str t, .int .i64 p, .bool b]])
noncomputable def C65 : List AV → (AV → List AV → Prop) → Prop
  | [.ref [.str t, .int .i64 p, .bool b]], K => c65 t p b K
  | _, _ => False
noncomputable def E65 : Ctx := mkE tab []
noncomputable def O65 : Nat → List DI := ordL [(1, [.q 0, .q 1, .q 2, .q 3, .q 4, .q 5, .q 6, .q 7, .q 8, .q 9]), (3, [.q 0, .q 1, .q 2, .q 3, .q 4, .q 5, .q 6, .q 7, .q 8, .q 9])]
theorem a65 (t : Bs) (p : Int) (b : Bool) (hb : BdAs [.ref [.str t, .int .i64 p, .bool b]]) (K : AV → List AV → Prop) (h : c65 t p b K) : abody E65 O65 .ps Tryd.f65 (Tryd.f65.body.getD .skip) [.ref [.str t, .int .i64 p, .bool b]] K := by
  simp only [BdAs, BdA, BdL, BdC, MX, ndC, shC, itC, stC, opC, chC, nwC, flC, rqC, rsC, enc, List.cons_append, List.nil_append, and_true, true_and] at hb
  unfold c65 at h
  obtain ⟨hp, hK⟩ := h
  conv => whnf
  repeat' first|((first|refine Cnd.mk (fun h=>?_) (fun h=>?_)|refine Gd.mk (fun h=>?_))<;>(try simp [etas,elDef,-List.getD_eq_getElem?_getD] at h)<;>conv=>whnf)|((first|refine Obl.mk (by first|omega|rfl|exact inK_byte _|(simp only [inK,Int.toNat_natCast,etas,elDef]<;>first|omega|grind)|grind [inK]) ?_|refine OblG.mk (by ((conv=>whnf);(repeat (first|refine Bx.mk ?_|(intro h;(try simp [etas,elDef,-List.getD_eq_getElem?_getD] at h);conv=>whnf)));(first|omega|rfl|exact inK_byte _|(simp only [inK,Int.toNat_natCast,etas,elDef]<;>first|omega|grind)|grind [inK]))) ?_|refine And.intro ?_ ?_)<;>conv=>whnf)|exact True.intro|(intro;conv=>whnf)
  · have e : t.getD p.toNat 0 = 0 := getD_out (by omega)
    rw [e] at hK; exact hK
  · exact hK
theorem s65 : (CtrOK Tryd.prog 65 (.gen .ps C65) ∧ Callable Tryd.prog 65) := by
  refine gen_ok (E := E65) (mkE_nil tab_ok) mix (O := O65) (C := C65) (own := .ps) Tryd.func65 rfl (by rfl) (by kernel_rfl) (fun args K h hbd => ?_)
  unfold C65 at h; split at h
  case h_2 => exact h.elim
  exact ⟨Nat.le_of_ble_eq_true rfl, a65 _ _ _ (by exact hbd) _ h⟩
noncomputable def c83 (t : Bs) (p : Int) (b : Bool) (c : Int) (K : AV → List AV → Prop) : Prop :=
    Obl ((0 ≤ p ∧ p ≤ t.length ∧ t.length ≤ 1000000) ∧ 0 < c ∧ c ≤ 255) (Cnd b (∀ q : Int, p ≤ q ∧ q ≤ t.length → K (.tup []) [.ref [.str t, .int .i64 q, .bool true]]) (((t.getD p.toNat 0).toNat = c → p < t.length → K (.tup []) [.ref [.str t, .int .i64 (p + 1), .bool false]]) ∧ (¬ (t.getD p.toNat 0).toNat = c → K (.tup []) [.ref [.str t, .int .i64 p, .bool true]])))
noncomputable def C83 : List AV → (AV → List AV → Prop) → Prop
  | [.ref [.str t, .int .i64 p, .bool b], .int .u8 c], K => c83 t p b c K
  | _, _ => False
noncomputable def E83 : Ctx := mkE tab [(65, .gen .ps C65)]
noncomputable def O83 : Nat → List DI := ordL []
theorem a83 (t : Bs) (p : Int) (b : Bool) (c : Int) (hb : BdAs [.ref [.str t, .int .i64 p, .bool b], .int .u8 c]) (K : AV → List AV → Prop) (h : c83 t p b c K) : abody E83 O83 .ps Tryd.f83 (Tryd.f83.body.getD .skip) [.ref [.str t, .int .i64 p, .bool b], .int .u8 c] K := by
  simp only [BdAs, BdA, BdL, BdC, MX, ndC, shC, itC, stC, opC, chC, nwC, flC, rqC, rsC, enc, List.cons_append, List.nil_append, and_true, true_and] at hb
  unfold c83 at h
  obtain ⟨⟨hp, hc⟩, hK⟩ := h
  have hlt : ((t.getD p.toNat 0).toNat : Int) = c → p < t.length := fun h => by have := getD_ltI (t := t) (p := p.toNat) (by omega); omega
  cases b
  · have hK := hK.n rfl
    conv => whnf
    repeat' first|((first|refine Cnd.mk (fun h=>?_) (fun h=>?_)|refine Gd.mk (fun h=>?_))<;>(try simp [etas,elDef,-List.getD_eq_getElem?_getD] at h)<;>conv=>whnf)|((first|refine Obl.mk (by first|omega|rfl|exact inK_byte _|(simp only [inK,Int.toNat_natCast,etas,elDef]<;>first|omega|grind)|grind [inK]) ?_|refine OblG.mk (by ((conv=>whnf);(repeat (first|refine Bx.mk ?_|(intro h;(try simp [etas,elDef,-List.getD_eq_getElem?_getD] at h);conv=>whnf)));(first|omega|rfl|exact inK_byte _|(simp only [inK,Int.toNat_natCast,etas,elDef]<;>first|omega|grind)|grind [inK]))) ?_|refine And.intro ?_ ?_)<;>conv=>whnf)|exact True.intro|(intro;conv=>whnf)
    · exact hK.2 h
    · exact hK.1 h (hlt h)
  · have hK := hK.y rfl
    conv => whnf
    repeat' first|((first|refine Cnd.mk (fun h=>?_) (fun h=>?_)|refine Gd.mk (fun h=>?_))<;>(try simp [etas,elDef,-List.getD_eq_getElem?_getD] at h)<;>conv=>whnf)|((first|refine Obl.mk (by first|omega|rfl|exact inK_byte _|(simp only [inK,Int.toNat_natCast,etas,elDef]<;>first|omega|grind)|grind [inK]) ?_|refine OblG.mk (by ((conv=>whnf);(repeat (first|refine Bx.mk ?_|(intro h;(try simp [etas,elDef,-List.getD_eq_getElem?_getD] at h);conv=>whnf)));(first|omega|rfl|exact inK_byte _|(simp only [inK,Int.toNat_natCast,etas,elDef]<;>first|omega|grind)|grind [inK]))) ?_|refine And.intro ?_ ?_)<;>conv=>whnf)|exact True.intro|(intro;conv=>whnf)
    · exact hK p ⟨by omega, by omega⟩
    · exact hK (p + 1) ⟨by omega, by have := hlt h; omega⟩
theorem s83 : (CtrOK Tryd.prog 83 (.gen .ps C83) ∧ Callable Tryd.prog 83) := by
  refine gen_ok (E := E83) (mkE_cons s65 (mkE_nil tab_ok)) mix (O := O83) (C := C83) (own := .ps) Tryd.func83 rfl (by rfl) (by kernel_rfl) (fun args K h hbd => ?_)
  unfold C83 at h; split at h
  case h_2 => exact h.elim
  exact ⟨Nat.le_of_ble_eq_true rfl, a83 _ _ _ _ (by exact hbd) _ h⟩
noncomputable def c66 (t : Bs) (p : Int) (b : Bool) (K : AV → List AV → Prop) : Prop :=
    Obl (0 ≤ p ∧ p ≤ t.length ∧ t.length ≤ 1000000) (Cnd b (∀ (x : Bs) (q : Int), p ≤ q ∧ q ≤ t.length → x.length ≤ 1000000 → K (.str x) [.ref [.str t, .int .i64 q, .bool true]]) ((∀ (x : Bs) (q : Int), p < q ∧ q ≤ t.length → x.length ≤ 1000000 → spText (t.drop p.toNat) = some (x, t.drop q.toNat) → K (.str x) [.ref [.str t, .int .i64 q, .bool false]]) ∧ (spText (t.drop p.toNat) = none → ∀ (x : Bs) (q : Int), p ≤ q ∧ q ≤ t.length → x.length ≤ 1000000 → K (.str x) [.ref [.str t, .int .i64 q, .bool true]])))
noncomputable def C66 : List AV → (AV → List AV → Prop) → Prop
  | [.ref [.str t, .int .i64 p, .bool b]], K => c66 t p b K
  | _, _ => False
noncomputable def E66 : Ctx := mkE tab [(65, .gen .ps C65), (83, .gen .ps C83)]
noncomputable def O66 : Nat → List DI := ordL []
theorem a66 (t : Bs) (p : Int) (b : Bool) (hb : BdAs [.ref [.str t, .int .i64 p, .bool b]]) (K : AV → List AV → Prop) (h : c66 t p b K) : abody E66 O66 .ps Tryd.f66 (Tryd.f66.body.getD .skip) [.ref [.str t, .int .i64 p, .bool b]] K := by
  simp only [BdAs, BdA, BdL, BdC, MX, ndC, shC, itC, stC, opC, chC, nwC, flC, rqC, rsC, enc, List.cons_append, List.nil_append, and_true, true_and] at hb
  unfold c66 at h
  obtain ⟨hp, hK⟩ := h
  cases b
  · have hK1 := (hK.n rfl).1
    have hK2 := (hK.n rfl).2
    clear hK
    conv => whnf
    repeat' first|((first|refine Cnd.mk (fun h=>?_) (fun h=>?_)|refine Gd.mk (fun h=>?_))<;>(try simp [etas,elDef,-List.getD_eq_getElem?_getD] at h)<;>conv=>whnf)|((first|refine Obl.mk (by first|omega|rfl|exact inK_byte _|(simp only [inK,Int.toNat_natCast,etas,elDef]<;>first|omega|grind)|grind [inK]) ?_|refine OblG.mk (by ((conv=>whnf);(repeat (first|refine Bx.mk ?_|(intro h;(try simp [etas,elDef,-List.getD_eq_getElem?_getD] at h);conv=>whnf)));(first|omega|rfl|exact inK_byte _|(simp only [inK,Int.toNat_natCast,etas,elDef]<;>first|omega|grind)|grind [inK]))) ?_|refine And.intro ?_ ?_)<;>conv=>whnf)|exact True.intro|(intro;conv=>whnf)
    · rename_i h34 hlt
      have n0 : (p + 1).toNat = p.toNat + 1 := by omega
      have ed : spText (t.drop p.toNat) = spScan [] (t.drop (p + 1).toNat) := by rw [drop_at (show p.toNat < t.length by omega) 0, (u8n 34).1 h34, n0]; rfl
      rw [ed] at hK1 hK2
      refine aloop_intro (Bs × Int) (fun x => (p + 1 ≤ x.2 ∧ x.2 ≤ t.length) ∧ (x.1.length : Int) + p + 1 ≤ x.2 ∧ spScan [] (t.drop (p + 1).toNat) = spScan x.1 (t.drop x.2.toNat)) (fun x => (t.length - x.2).toNat) (fun _ => [(3, .ls 900)]) (fun x => [(1000000, .box [.str t, .int .i64 x.2, .bool false]), (900, .arr .u8 (x.1.map fun c => (c.toNat : Int)))]) [] ([], p + 1) [(900, 4)] [] ?_ ?_ (by exact sgOk_of (by rfl)) ?_
      · exact ⟨⟨by simp only; omega, by simp only; omega⟩, by simp only [List.length_nil]; omega, rfl⟩
      · iterate 2 ((all_goals (conv=>whnf));(repeat' (first|exact trivial|rfl|(refine nilEq ?_;first|rfl|(simp only [*];done)|(simp [*];done)|grind)|apply And.intro|((first|apply intEq|apply boolEq|apply strEq|apply psEq|apply nilEq|apply arrEq);(try simp only [Int.toNat_natCast,etas,elDef]);first | done | omega | grind | (simp only [*]; done) | (simp [*]; done)))));(all_goals ((try simp only [Int.toNat_natCast,etas,elDef]);first | done | omega | grind | (simp only [*]; done) | (simp [*]; done)))
      rintro ⟨acc, q⟩ ⟨hq, ha, he⟩
      dsimp only at hq ha he
      rw [he] at hK1 hK2
      have n1 : (q + 1).toNat = q.toNat + 1 := by omega
      have n2 : (q + 1 + 1).toNat = q.toNat + 2 := by omega
      have hlq : ¬ ((t.getD q.toNat 0).toNat : Int) = 0 → q < t.length := fun h => by have := getD_ltI h; omega
      have hlq2 : ¬ ((t.getD (q + 1).toNat 0).toNat : Int) = 0 → q + 1 < t.length := fun h => by have := getD_ltI h; omega
      have hla : (acc.map fun c => (c.toNat : Int)).length + 1 ≤ 1073741824 := by simp; omega
      conv => whnf
      repeat' first|((first|refine Cnd.mk (fun h=>?_) (fun h=>?_)|refine Gd.mk (fun h=>?_))<;>(try simp [etas,elDef,-List.getD_eq_getElem?_getD] at h)<;>conv=>whnf)|((first|refine Obl.mk (by first|omega|rfl|exact inK_byte _|(simp only [inK,Int.toNat_natCast,etas,elDef]<;>first|omega|grind)|grind [inK]) ?_|refine OblG.mk (by ((conv=>whnf);(repeat (first|refine Bx.mk ?_|(intro h;(try simp [etas,elDef,-List.getD_eq_getElem?_getD] at h);conv=>whnf)));(first|omega|rfl|exact inK_byte _|(simp only [inK,Int.toNat_natCast,etas,elDef]<;>first|omega|grind)|grind [inK]))) ?_|refine And.intro ?_ ?_)<;>conv=>whnf)|exact True.intro|(intro;conv=>whnf)
      · rename_i h1 h2
        have hl := hlq (by omega)
        rw [n1] at h
        exact hK2 (sps_bad h2 (by omega)) _ _ ⟨by simp only; omega, by simp only; omega⟩ (by simp)
      · rename_i h1 h2
        have hl := hlq2 (by omega)
        rw [n1] at h
        have e1 := sps_esc (acc := acc) (t := t) (p := q.toNat) h2 (by omega)
        exact ⟨(acc ++ [t.getD (q.toNat + 1) 0], q + 1 + 1), [(900, 38)], [], ⟨⟨by simp only; omega, by simp only; omega⟩, by simp only [List.length_append, List.length_singleton]; omega, by rw [n2, he, e1]⟩, by simp only; omega, by iterate 2 ((all_goals (conv=>whnf));(repeat' (first|exact trivial|rfl|(refine nilEq ?_;first|rfl|(simp only [*];done)|(simp [*];done)|grind)|apply And.intro|((first|apply intEq|apply boolEq|apply strEq|apply psEq|apply nilEq|apply arrEq);(try simp only [Int.toNat_natCast,etas,elDef]);first | done | omega | (simp [n1]; done)))));(all_goals ((try simp only [Int.toNat_natCast,etas,elDef]);first | done | omega | (simp [n1]; done))), (by exact sgOk_of (by rfl))⟩
      · rename_i h1 h2
        exact hK2 (sps_zero (by omega)) _ _ ⟨by simp only; omega, by simp only; omega⟩ (by simp)
      · rename_i h1 h2
        have hl := hlq (by omega)
        have e1 := sps_chr (acc := acc) (t := t) (p := q.toNat) h1 h2 (by omega)
        exact ⟨(acc ++ [t.getD q.toNat 0], q + 1), [(900, 38)], [], ⟨⟨by simp only; omega, by simp only; omega⟩, by simp only [List.length_append, List.length_singleton]; omega, by rw [n1, he, e1]⟩, by simp only; omega, by iterate 2 ((all_goals (conv=>whnf));(repeat' (first|exact trivial|rfl|(refine nilEq ?_;first|rfl|(simp only [*];done)|(simp [*];done)|grind)|apply And.intro|((first|apply intEq|apply boolEq|apply strEq|apply psEq|apply nilEq|apply arrEq);(try simp only [Int.toNat_natCast,etas,elDef]);first | done | omega | (simp; done)))));(all_goals ((try simp only [Int.toNat_natCast,etas,elDef]);first | done | omega | (simp; done))), (by exact sgOk_of (by rfl))⟩
      · rename_i h1 _ _
        have hl := hlq (by omega)
        have e1 := sps_quote (acc := acc) (t := t) (p := q.toNat) h1
        rw [bytes_id]
        exact hK1 acc (q + 1) ⟨by omega, by omega⟩ (by omega) (by rw [n1]; exact e1)
      · rename_i h1 h2
        exact absurd h1 h2
    · rename_i h34
      have ed : spText (t.drop p.toNat) = none := by
        unfold spText
        rcases Nat.lt_or_ge p.toNat t.length with h | h
        · rw [drop_at h 0, tkM, if_neg (fun e => h34 ((u8n 34).2 e))]
        · rw [List.drop_of_length_le h]; rfl
      have hK3 := hK2 ed
      refine aloop_intro Unit (fun _ => True) (fun _ => 0) (fun _ => [(3, .ls 4)]) (fun _ => [(1000000, .box [.str t, .int .i64 p, .bool true])]) [4] () [] [] trivial ?_ (by exact sgOk_of (by rfl)) ?_
      · iterate 2 ((all_goals (conv=>whnf));(repeat' (first|exact trivial|rfl|(refine nilEq ?_;first|rfl|(simp only [*];done)|(simp [*];done)|grind)|apply And.intro|((first|apply intEq|apply boolEq|apply strEq|apply psEq|apply nilEq|apply arrEq);(try simp only [Int.toNat_natCast,etas,elDef]);first | done | omega | grind | (simp only [*]; done) | (simp [*]; done)))));(all_goals ((try simp only [Int.toNat_natCast,etas,elDef]);first | done | omega | grind | (simp only [*]; done) | (simp [*]; done)))
      rintro - -
      conv => whnf
      repeat' first|((first|refine Cnd.mk (fun h=>?_) (fun h=>?_)|refine Gd.mk (fun h=>?_))<;>(try simp [etas,elDef,-List.getD_eq_getElem?_getD] at h)<;>conv=>whnf)|((first|refine Obl.mk (by first|omega|rfl|exact inK_byte _|(simp only [inK,Int.toNat_natCast,etas,elDef]<;>first|omega|grind)|grind [inK]) ?_|refine OblG.mk (by ((conv=>whnf);(repeat (first|refine Bx.mk ?_|(intro h;(try simp [etas,elDef,-List.getD_eq_getElem?_getD] at h);conv=>whnf)));(first|omega|rfl|exact inK_byte _|(simp only [inK,Int.toNat_natCast,etas,elDef]<;>first|omega|grind)|grind [inK]))) ?_|refine And.intro ?_ ?_)<;>conv=>whnf)|exact True.intro|(intro;conv=>whnf)
      exact hK3 _ _ ⟨by omega, by omega⟩ (by simp)
  · have hK := hK.y rfl
    conv => whnf
    repeat' first|((first|refine Cnd.mk (fun h=>?_) (fun h=>?_)|refine Gd.mk (fun h=>?_))<;>(try simp [etas,elDef,-List.getD_eq_getElem?_getD] at h)<;>conv=>whnf)|((first|refine Obl.mk (by first|omega|rfl|exact inK_byte _|(simp only [inK,Int.toNat_natCast,etas,elDef]<;>first|omega|grind)|grind [inK]) ?_|refine OblG.mk (by ((conv=>whnf);(repeat (first|refine Bx.mk ?_|(intro h;(try simp [etas,elDef,-List.getD_eq_getElem?_getD] at h);conv=>whnf)));(first|omega|rfl|exact inK_byte _|(simp only [inK,Int.toNat_natCast,etas,elDef]<;>first|omega|grind)|grind [inK]))) ?_|refine And.intro ?_ ?_)<;>conv=>whnf)|exact True.intro|(intro;conv=>whnf)
    rename_i q hq
    refine aloop_intro Unit (fun _ => True) (fun _ => 0) (fun _ => [(3, .ls 4)]) (fun _ => [(1000000, .box [.str t, .int .i64 q, .bool true])]) [4] () [] [] trivial ?_ (by exact sgOk_of (by rfl)) ?_
    · iterate 2 ((all_goals (conv=>whnf));(repeat' (first|exact trivial|rfl|(refine nilEq ?_;first|rfl|(simp only [*];done)|(simp [*];done)|grind)|apply And.intro|((first|apply intEq|apply boolEq|apply strEq|apply psEq|apply nilEq|apply arrEq);(try simp only [Int.toNat_natCast,etas,elDef]);first | done | omega | grind | (simp only [*]; done) | (simp [*]; done)))));(all_goals ((try simp only [Int.toNat_natCast,etas,elDef]);first | done | omega | grind | (simp only [*]; done) | (simp [*]; done)))
    rintro - -
    conv => whnf
    repeat' first|((first|refine Cnd.mk (fun h=>?_) (fun h=>?_)|refine Gd.mk (fun h=>?_))<;>(try simp [etas,elDef,-List.getD_eq_getElem?_getD] at h)<;>conv=>whnf)|((first|refine Obl.mk (by first|omega|rfl|exact inK_byte _|(simp only [inK,Int.toNat_natCast,etas,elDef]<;>first|omega|grind)|grind [inK]) ?_|refine OblG.mk (by ((conv=>whnf);(repeat (first|refine Bx.mk ?_|(intro h;(try simp [etas,elDef,-List.getD_eq_getElem?_getD] at h);conv=>whnf)));(first|omega|rfl|exact inK_byte _|(simp only [inK,Int.toNat_natCast,etas,elDef]<;>first|omega|grind)|grind [inK]))) ?_|refine And.intro ?_ ?_)<;>conv=>whnf)|exact True.intro|(intro;conv=>whnf)
    exact hK _ _ ⟨by omega, by omega⟩ (by simp)
theorem s66 : (CtrOK Tryd.prog 66 (.gen .ps C66) ∧ Callable Tryd.prog 66) := by
  refine gen_ok (E := E66) (mkE_cons s65 (mkE_cons s83 (mkE_nil tab_ok))) mix (O := O66) (C := C66) (own := .ps) Tryd.func66 rfl (by rfl) (by kernel_rfl) (fun args K h hbd => ?_)
  unfold C66 at h; split at h
  case h_2 => exact h.elim
  exact ⟨Nat.le_of_ble_eq_true rfl, a66 _ _ _ (by exact hbd) _ h⟩
def lim7 : Nat → Int
  | 0 => 0
  | k + 1 => 10 * lim7 k + 9
theorem lim7_le : ∀ k, k ≤ 7 → 0 ≤ lim7 k ∧ lim7 k ≤ 9999999 := by decide
noncomputable def c69 (t : Bs) (p : Int) (K : AV → List AV → Prop) : Prop :=
    Obl ((0 ≤ p ∧ p ≤ t.length ∧ t.length ≤ 1000000) ∧ (((t.getD p.toNat 0).toNat : Int) = 45 ∨ (48 ≤ ((t.getD p.toNat 0).toNat : Int) ∧ ((t.getD p.toNat 0).toNat : Int) ≤ 57))) (∀ q : Int, p < q ∧ q ≤ t.length → (spNum (t.drop p.toNat)).2 = t.drop q.toNat → K (.int .i64 (spNum (t.drop p.toNat)).1) [.ref [.str t, .int .i64 q, .bool false]])
noncomputable def C69 : List AV → (AV → List AV → Prop) → Prop
  | [.ref [.str t, .int .i64 p, .bool false]], K => c69 t p K
  | _, _ => False
noncomputable def E69 : Ctx := mkE tab [(65, .gen .ps C65), (68, .pure F68)]
noncomputable def O69 : Nat → List DI := ordL []
theorem a69 (t : Bs) (p : Int) (hb : BdAs [.ref [.str t, .int .i64 p, .bool false]]) (K : AV → List AV → Prop) (h : c69 t p K) : abody E69 O69 .ps Tryd.f69 (Tryd.f69.body.getD .skip) [.ref [.str t, .int .i64 p, .bool false]] K := by
  simp only [BdAs, BdA, BdL, BdC, MX, ndC, shC, itC, stC, opC, chC, nwC, flC, rqC, rsC, enc, List.cons_append, List.nil_append, and_true, true_and] at hb
  unfold c69 at h
  obtain ⟨⟨hp, hd⟩, hK⟩ := h
  have hpl : p < t.length := by have := getD_ltI (t := t) (p := p.toNat) (by omega); omega
  conv => whnf
  repeat' first|((first|refine Cnd.mk (fun h=>?_) (fun h=>?_)|refine Gd.mk (fun h=>?_))<;>(try simp [etas,elDef,-List.getD_eq_getElem?_getD] at h)<;>conv=>whnf)|((first|refine Obl.mk (by first|omega|rfl|exact inK_byte _|(simp only [inK,Int.toNat_natCast,etas,elDef]<;>first|omega|grind)|grind [inK]) ?_|refine OblG.mk (by ((conv=>whnf);(repeat (first|refine Bx.mk ?_|(intro h;(try simp [etas,elDef,-List.getD_eq_getElem?_getD] at h);conv=>whnf)));(first|omega|rfl|exact inK_byte _|(simp only [inK,Int.toNat_natCast,etas,elDef]<;>first|omega|grind)|grind [inK]))) ?_|refine And.intro ?_ ?_)<;>conv=>whnf)|exact True.intro|(intro;conv=>whnf)
  · have n0 : (p + 1).toNat = p.toNat + 1 := by omega
    have e0 : spNum (t.drop p.toNat) = (-(spDig 7 0 (t.drop (p + 1).toNat)).1, (spDig 7 0 (t.drop (p + 1).toNat)).2) := by
      rw [drop_at (show p.toNat < t.length by omega) 0]
      unfold spNum
      simp only
      rw [if_pos ((u8n 45).1 h), n0]
    rw [e0] at hK
    refine aloop_intro (Nat × Int × Int) (fun x => x.1 ≤ 7 ∧ x.2.2 = (p + 1) + x.1 ∧ x.2.2 ≤ t.length ∧ (0 ≤ x.2.1 ∧ x.2.1 ≤ lim7 x.1) ∧ spDig 7 0 (t.drop ((p + 1)).toNat) = spDig (7 - x.1) x.2.1 (t.drop x.2.2.toNat)) (fun x => 7 - x.1) (fun x => [(5, .int .i64 x.1), (3, .int .i64 x.2.1)]) (fun x => [(1000000, .box [.str t, .int .i64 x.2.2, .bool false])]) [] (0, 0, (p + 1)) [] [] ?_ ?_ (by exact sgOk_of (by rfl)) ?_
    · exact ⟨by simp, by simp, by simp only; omega, by simp [lim7], rfl⟩
    · iterate 2 ((all_goals (conv=>whnf));(repeat' (first|exact trivial|rfl|(refine nilEq ?_;first|rfl|(simp only [*];done)|(simp [*];done)|grind)|apply And.intro|((first|apply intEq|apply boolEq|apply strEq|apply psEq|apply nilEq|apply arrEq);(try simp only [Int.toNat_natCast,etas,elDef]);first | done | omega | grind | (simp only [*]; done) | (simp [*]; done)))));(all_goals ((try simp only [Int.toNat_natCast,etas,elDef]);first | done | omega | grind | (simp only [*]; done) | (simp [*]; done)))
    rintro ⟨k, n, q⟩ ⟨hk, hq, hql, hn, he⟩
    dsimp only at hk hq hql hn he
    rw [he] at hK
    have n1 : (q + 1).toNat = q.toNat + 1 := by omega
    have hl7 := lim7_le k hk
    have hl8 : lim7 (k + 1) = 10 * lim7 k + 9 := rfl
    have hlq : 48 ≤ ((t.getD q.toNat 0).toNat : Int) → q < t.length := fun h => by have := getD_ltI (t := t) (p := q.toNat) (by omega); omega
    have hb8 := fun (c : UInt8) => (show c.toNat < 256 from c.toNat_lt)
    conv => whnf
    repeat' first|((first|refine Cnd.mk (fun h=>?_) (fun h=>?_)|refine Gd.mk (fun h=>?_))<;>(try simp [etas,elDef,-List.getD_eq_getElem?_getD] at h)<;>conv=>whnf)|((first|refine Obl.mk (by first|omega|rfl|exact inK_byte _|(simp only [inK,Int.toNat_natCast,etas,elDef]<;>first|omega|grind)|grind [inK]) ?_|refine OblG.mk (by ((conv=>whnf);(repeat (first|refine Bx.mk ?_|(intro h;(try simp [etas,elDef,-List.getD_eq_getElem?_getD] at h);conv=>whnf)));(first|omega|rfl|exact inK_byte _|(simp only [inK,Int.toNat_natCast,etas,elDef]<;>first|omega|grind)|grind [inK]))) ?_|refine And.intro ?_ ?_)<;>conv=>whnf)|exact True.intro|(intro;conv=>whnf)
    · rename_i hk7
      have hl := hlq h.2.1
      have e1 := spDig_yes (k := 6 - k) (n := n) (t := t) (p := q.toNat) h.2
      rw [show 6 - k + 1 = 7 - k by omega] at e1
      refine ⟨(k + 1, 10 * n + (t.getD q.toNat 0).toNat - 48, q + 1), [], [], ⟨by omega, by simp only; omega, by simp only; omega, ⟨by simp only; omega, by simp only; omega⟩, ?_⟩, by simp only; omega, by iterate 2 ((all_goals (conv=>whnf));(repeat' (first|exact trivial|rfl|(refine nilEq ?_;first|rfl|(simp only [*];done)|(simp [*];done)|grind)|apply And.intro|((first|apply intEq|apply boolEq|apply strEq|apply psEq|apply nilEq|apply arrEq);(try simp only [Int.toNat_natCast,etas,elDef]);first | done | omega | grind | (simp only [*]; done) | (simp [*]; done)))));(all_goals ((try simp only [Int.toNat_natCast,etas,elDef]);first | done | omega | grind | (simp only [*]; done) | (simp [*]; done))), (by exact sgOk_of (by rfl))⟩
      simp only
      rw [he, e1, n1, show 7 - (k + 1) = 6 - k by omega]
    · rename_i hk7
      have e1 := spDig_no (k := 6 - k) (n := n) (t := t) (p := q.toNat) (fun e => by have := h hk7 e.1; omega)
      rw [show 6 - k + 1 = 7 - k by omega] at e1
      rw [e1] at hK
      exact leafI (hK q ⟨by omega, by omega⟩ rfl) (by simp only; omega)
    · rename_i hk7
      have e1 : spDig (7 - k) n (t.drop q.toNat) = (n, t.drop q.toNat) := by rw [show 7 - k = 0 by omega]; rfl
      rw [e1] at hK
      exact leafI (hK q ⟨by omega, by omega⟩ rfl) (by simp only; omega)
  · have n0 : (p + 1).toNat = p.toNat + 1 := by omega
    have e0 : spNum (t.drop p.toNat) = spDig 7 0 (t.drop p.toNat) := by
      rw [drop_at (show p.toNat < t.length by omega) 0]
      unfold spNum
      simp only
      rw [if_neg (fun e => h ((u8n 45).2 e))]
    rw [e0] at hK
    refine aloop_intro (Nat × Int × Int) (fun x => x.1 ≤ 7 ∧ x.2.2 = p + x.1 ∧ x.2.2 ≤ t.length ∧ (0 ≤ x.2.1 ∧ x.2.1 ≤ lim7 x.1) ∧ spDig 7 0 (t.drop (p).toNat) = spDig (7 - x.1) x.2.1 (t.drop x.2.2.toNat)) (fun x => 7 - x.1) (fun x => [(5, .int .i64 x.1), (3, .int .i64 x.2.1)]) (fun x => [(1000000, .box [.str t, .int .i64 x.2.2, .bool false])]) [] (0, 0, p) [] [] ?_ ?_ (by exact sgOk_of (by rfl)) ?_
    · exact ⟨by simp, by simp, by simp only; omega, by simp [lim7], rfl⟩
    · iterate 2 ((all_goals (conv=>whnf));(repeat' (first|exact trivial|rfl|(refine nilEq ?_;first|rfl|(simp only [*];done)|(simp [*];done)|grind)|apply And.intro|((first|apply intEq|apply boolEq|apply strEq|apply psEq|apply nilEq|apply arrEq);(try simp only [Int.toNat_natCast,etas,elDef]);first | done | omega | grind | (simp only [*]; done) | (simp [*]; done)))));(all_goals ((try simp only [Int.toNat_natCast,etas,elDef]);first | done | omega | grind | (simp only [*]; done) | (simp [*]; done)))
    rintro ⟨k, n, q⟩ ⟨hk, hq, hql, hn, he⟩
    dsimp only at hk hq hql hn he
    rw [he] at hK
    have n1 : (q + 1).toNat = q.toNat + 1 := by omega
    have hl7 := lim7_le k hk
    have hl8 : lim7 (k + 1) = 10 * lim7 k + 9 := rfl
    have hlq : 48 ≤ ((t.getD q.toNat 0).toNat : Int) → q < t.length := fun h => by have := getD_ltI (t := t) (p := q.toNat) (by omega); omega
    have hb8 := fun (c : UInt8) => (show c.toNat < 256 from c.toNat_lt)
    conv => whnf
    repeat' first|((first|refine Cnd.mk (fun h=>?_) (fun h=>?_)|refine Gd.mk (fun h=>?_))<;>(try simp [etas,elDef,-List.getD_eq_getElem?_getD] at h)<;>conv=>whnf)|((first|refine Obl.mk (by first|omega|rfl|exact inK_byte _|(simp only [inK,Int.toNat_natCast,etas,elDef]<;>first|omega|grind)|grind [inK]) ?_|refine OblG.mk (by ((conv=>whnf);(repeat (first|refine Bx.mk ?_|(intro h;(try simp [etas,elDef,-List.getD_eq_getElem?_getD] at h);conv=>whnf)));(first|omega|rfl|exact inK_byte _|(simp only [inK,Int.toNat_natCast,etas,elDef]<;>first|omega|grind)|grind [inK]))) ?_|refine And.intro ?_ ?_)<;>conv=>whnf)|exact True.intro|(intro;conv=>whnf)
    · rename_i hk7
      have hl := hlq h.2.1
      have e1 := spDig_yes (k := 6 - k) (n := n) (t := t) (p := q.toNat) h.2
      rw [show 6 - k + 1 = 7 - k by omega] at e1
      refine ⟨(k + 1, 10 * n + (t.getD q.toNat 0).toNat - 48, q + 1), [], [], ⟨by omega, by simp only; omega, by simp only; omega, ⟨by simp only; omega, by simp only; omega⟩, ?_⟩, by simp only; omega, by iterate 2 ((all_goals (conv=>whnf));(repeat' (first|exact trivial|rfl|(refine nilEq ?_;first|rfl|(simp only [*];done)|(simp [*];done)|grind)|apply And.intro|((first|apply intEq|apply boolEq|apply strEq|apply psEq|apply nilEq|apply arrEq);(try simp only [Int.toNat_natCast,etas,elDef]);first | done | omega | grind | (simp only [*]; done) | (simp [*]; done)))));(all_goals ((try simp only [Int.toNat_natCast,etas,elDef]);first | done | omega | grind | (simp only [*]; done) | (simp [*]; done))), (by exact sgOk_of (by rfl))⟩
      simp only
      rw [he, e1, n1, show 7 - (k + 1) = 6 - k by omega]
    · rename_i hk7
      have e1 := spDig_no (k := 6 - k) (n := n) (t := t) (p := q.toNat) (fun e => by have := h hk7 e.1; omega)
      rw [show 6 - k + 1 = 7 - k by omega] at e1
      rw [e1] at hK
      exact leafI (hK q ⟨by have := h hk7; by_cases e : k = 0; (have e2 : q = p := by omega); rw [e2] at this; omega; omega, by omega⟩ rfl) (by simp only; omega)
    · rename_i hk7
      have e1 : spDig (7 - k) n (t.drop q.toNat) = (n, t.drop q.toNat) := by rw [show 7 - k = 0 by omega]; rfl
      rw [e1] at hK
      exact leafI (hK q ⟨by omega, by omega⟩ rfl) (by simp only; omega)
theorem s69 : (CtrOK Tryd.prog 69 (.gen .ps C69) ∧ Callable Tryd.prog 69) := by
  refine gen_ok (E := E69) (mkE_cons s65 (mkE_cons s68 (mkE_nil tab_ok))) mix (O := O69) (C := C69) (own := .ps) Tryd.func69 rfl (by rfl) (by kernel_rfl) (fun args K h hbd => ?_)
  unfold C69 at h; split at h
  case h_2 => exact h.elim
  exact ⟨Nat.le_of_ble_eq_true rfl, a69 _ _ (by exact hbd) _ h⟩
end Go.Rs

