import Derived.Test.YtdgdekfdfcaheaaDoorEA
import Derived.Test.YtdgdekfdfcaheaaDoorMI
import Derived.Shelf.LaysC
import Derived.Shelf.Strconv.AtoiAll
set_option linter.all false
set_option linter.unusedSimpArgs false
set_option linter.unusedVariables false
namespace Go.Proofs
open Go.Shelf
def Tryd.laysC172_ren : Go.Shelf.Ren := ⟨fun | 172 => 52 | 244 => 64 | 245 => 65 | 247 => 72 | 279 => 73 | 280 => 74 | 281 => 75 | 282 => 76 | 287 => 81 | 316 => 82 | 171 => 39 | 205 => 83 | 321 => 89 | 322 => 90 | 243 => 54 | 246 => 67 | 283 => 77 | 284 => 78 | 285 => 79 | 286 => 80 | 129 => 85 | 317 => 84 | 318 => 86 | 319 => 87 | 320 => 88 | 337 => 91 | 338 => 92 | n => n, fun | 9 => 9 | 3 => 3 | 75 => 68 | 76 => 69 | 4 => 4 | 5 => 5 | 167 => 90 | 37 => 22 | 0 => 0 | 85 => 91 | 2 => 2 | 168 => 93 | 53 => 97 | 175 => 102 | 46 => 104 | 210 => 106 | 127 => 73 | 145 => 117 | 143 => 115 | 21 => 21 | 171 => 96 | 173 => 100 | 212 => 109 | 51 => 110 | 20 => 20 | 213 => 111 | 232 => 119 | 233 => 120 | 80 => 48 | n => n, fun | 15 => 1 | 16 => 2 | 17 => 3 | 18 => 4 | 19 => 5 | n => n⟩
theorem Tryd.laysC172 : Go.Proofs.LaysC.n172 Tryd.prog Tryd.laysC172_ren := {
  mixed := by kernel_rfl
  f129 := Tryd.func85.trans (congrArg some (by kernel_rfl))
  f171 := Tryd.func39.trans (congrArg some (by kernel_rfl))
  f172 := Tryd.func52.trans (congrArg some (by kernel_rfl))
  f205 := Tryd.func83.trans (congrArg some (by kernel_rfl))
  f243 := Tryd.func54.trans (congrArg some (by kernel_rfl))
  f244 := Tryd.func64.trans (congrArg some (by kernel_rfl))
  f245 := Tryd.func65.trans (congrArg some (by kernel_rfl))
  f246 := Tryd.func67.trans (congrArg some (by kernel_rfl))
  f247 := Tryd.func72.trans (congrArg some (by kernel_rfl))
  f279 := Tryd.func73.trans (congrArg some (by kernel_rfl))
  f280 := Tryd.func74.trans (congrArg some (by kernel_rfl))
  f281 := Tryd.func75.trans (congrArg some (by kernel_rfl))
  f282 := Tryd.func76.trans (congrArg some (by kernel_rfl))
  f283 := Tryd.func77.trans (congrArg some (by kernel_rfl))
  f284 := Tryd.func78.trans (congrArg some (by kernel_rfl))
  f285 := Tryd.func79.trans (congrArg some (by kernel_rfl))
  f286 := Tryd.func80.trans (congrArg some (by kernel_rfl))
  f287 := Tryd.func81.trans (congrArg some (by kernel_rfl))
  f316 := Tryd.func82.trans (congrArg some (by kernel_rfl))
  f317 := Tryd.func84.trans (congrArg some (by kernel_rfl))
  f318 := Tryd.func86.trans (congrArg some (by kernel_rfl))
  f319 := Tryd.func87.trans (congrArg some (by kernel_rfl))
  f320 := Tryd.func88.trans (congrArg some (by kernel_rfl))
  f321 := Tryd.func89.trans (congrArg some (by kernel_rfl))
  f322 := Tryd.func90.trans (congrArg some (by kernel_rfl))
  f337 := Tryd.func91.trans (congrArg some (by kernel_rfl))
  f338 := Tryd.func92.trans (congrArg some (by kernel_rfl))
  t0 := Tryd.underlying0
  a0 := Tryd.isAgg0
  z0 := Tryd.sizeOf0
  v0 := Tryd.zeroValue0
  t2 := Tryd.underlying2
  a2 := Tryd.isAgg2
  z2 := Tryd.sizeOf2
  v2 := Tryd.zeroValue2
  t3 := Tryd.underlying3
  a3 := Tryd.isAgg3
  z3 := Tryd.sizeOf3
  v3 := Tryd.zeroValue3
  t4 := Tryd.underlying4
  a4 := Tryd.isAgg4
  z4 := Tryd.sizeOf4
  v4 := Tryd.zeroValue4
  t5 := Tryd.underlying5
  a5 := Tryd.isAgg5
  z5 := Tryd.sizeOf5
  v5 := Tryd.zeroValue5
  t9 := Tryd.underlying9
  a9 := Tryd.isAgg9
  z9 := Tryd.sizeOf9
  v9 := Tryd.zeroValue9
  t20 := Tryd.underlying20
  a20 := Tryd.isAgg20
  z20 := Tryd.sizeOf20
  v20 := Tryd.zeroValue20
  t21 := Tryd.underlying21
  a21 := Tryd.isAgg21
  z21 := Tryd.sizeOf21
  v21 := Tryd.zeroValue21
  t37 := Tryd.underlying22
  a37 := Tryd.isAgg22
  z37 := Tryd.sizeOf22
  v37 := Tryd.zeroValue22
  t46 := Tryd.underlying104
  a46 := Tryd.isAgg104
  z46 := Tryd.sizeOf104
  v46 := Tryd.zeroValue104
  t51 := Tryd.underlying110
  a51 := Tryd.isAgg110
  z51 := Tryd.sizeOf110
  v51 := Tryd.zeroValue110
  t53 := Tryd.underlying97
  a53 := Tryd.isAgg97
  z53 := Tryd.sizeOf97
  v53 := Tryd.zeroValue97
  t75 := Tryd.underlying68
  a75 := Tryd.isAgg68
  z75 := Tryd.sizeOf68
  v75 := Tryd.zeroValue68
  t76 := Tryd.underlying69
  a76 := Tryd.isAgg69
  z76 := Tryd.sizeOf69
  v76 := Tryd.zeroValue69
  t85 := Tryd.underlying91
  a85 := Tryd.isAgg91
  z85 := Tryd.sizeOf91
  v85 := Tryd.zeroValue91
  t127 := Tryd.underlying73
  a127 := Tryd.isAgg73
  z127 := Tryd.sizeOf73
  v127 := Tryd.zeroValue73
  t143 := Tryd.underlying115
  a143 := Tryd.isAgg115
  z143 := Tryd.sizeOf115
  v143 := Tryd.zeroValue115
  t145 := Tryd.underlying117
  a145 := Tryd.isAgg117
  z145 := Tryd.sizeOf117
  v145 := Tryd.zeroValue117
  t167 := Tryd.underlying90
  a167 := Tryd.isAgg90
  z167 := Tryd.sizeOf90
  v167 := Tryd.zeroValue90
  t168 := Tryd.underlying93
  a168 := Tryd.isAgg93
  z168 := Tryd.sizeOf93
  v168 := Tryd.zeroValue93
  t171 := Tryd.underlying96
  a171 := Tryd.isAgg96
  z171 := Tryd.sizeOf96
  v171 := Tryd.zeroValue96
  t173 := Tryd.underlying100
  a173 := Tryd.isAgg100
  z173 := Tryd.sizeOf100
  v173 := Tryd.zeroValue100
  t175 := Tryd.underlying102
  a175 := Tryd.isAgg102
  z175 := Tryd.sizeOf102
  v175 := Tryd.zeroValue102
  t210 := Tryd.underlying106
  a210 := Tryd.isAgg106
  z210 := Tryd.sizeOf106
  v210 := Tryd.zeroValue106
  t212 := Tryd.underlying109
  a212 := Tryd.isAgg109
  z212 := Tryd.sizeOf109
  v212 := Tryd.zeroValue109
  t213 := Tryd.underlying111
  a213 := Tryd.isAgg111
  z213 := Tryd.sizeOf111
  t232 := Tryd.underlying119
  a232 := Tryd.isAgg119
  z232 := Tryd.sizeOf119
  v232 := Tryd.zeroValue119
  t233 := Tryd.underlying120
  a233 := Tryd.isAgg120
  z233 := Tryd.sizeOf120
  v233 := Tryd.zeroValue120
  g15 := by kernel_rfl
  g16 := by kernel_rfl
  g17 := by kernel_rfl
  g18 := by kernel_rfl
  g19 := by kernel_rfl
  t80 := Tryd.underlying48
  a80 := Tryd.isAgg48
  z80 := Tryd.sizeOf48
  v80 := Tryd.zeroValue48
  i0 := by kernel_rfl
  i2 := by kernel_rfl
  i3 := by kernel_rfl
  i4 := by kernel_rfl
  i5 := by kernel_rfl
  i9 := by kernel_rfl
  i20 := by kernel_rfl
  i21 := by kernel_rfl
  i37 := by kernel_rfl
  i46 := by kernel_rfl
  i51 := by kernel_rfl
  i53 := by kernel_rfl
  i75 := by kernel_rfl
  i76 := by kernel_rfl
  i80 := by kernel_rfl
  i85 := by kernel_rfl
  i127 := by kernel_rfl
  i143 := by kernel_rfl
  i145 := by kernel_rfl
  i167 := by kernel_rfl
  i168 := by kernel_rfl
  i171 := by kernel_rfl
  i173 := by kernel_rfl
  i175 := by kernel_rfl
  i210 := by kernel_rfl
  i212 := by kernel_rfl
  i232 := by kernel_rfl
  i233 := by kernel_rfl
  m15 := by kernel_rfl
  m16 := by kernel_rfl
  m17 := by kernel_rfl
  m18 := by kernel_rfl
  m19 := by kernel_rfl
  c0 := by kernel_rfl
  c2 := by kernel_rfl
  c3 := by kernel_rfl
  c4 := by kernel_rfl
  c5 := by kernel_rfl
  c9 := by kernel_rfl
  c20 := by kernel_rfl
  c21 := by kernel_rfl
  c37 := by kernel_rfl
  c46 := by kernel_rfl
  c51 := by kernel_rfl
  c53 := by kernel_rfl
  c75 := by kernel_rfl
  c76 := by kernel_rfl
  c80 := by kernel_rfl
  c85 := by kernel_rfl
  c127 := by kernel_rfl
  c143 := by kernel_rfl
  c145 := by kernel_rfl
  c167 := by kernel_rfl
  c168 := by kernel_rfl
  c171 := by kernel_rfl
  c173 := by kernel_rfl
  c175 := by kernel_rfl
  c210 := by kernel_rfl
  c212 := by kernel_rfl
  c213 := by kernel_rfl
  c232 := by kernel_rfl
  c233 := by kernel_rfl }
end Go.Proofs
namespace Go.Rs
open Go.Proofs Go.RowKit
set_option maxRecDepth 100000
set_option maxHeartbeats 4000000
theorem err_cell {w : World} (ht : Tabs w) {g : Nat} (hg : memN EG g = true) : ∃ ev, w.cell? ⟨g, 0, none⟩ = some ev ∧ (ev = .nilIface ∨ ∃ te pe, ev = .iface te pe) := by
  obtain ⟨v, T, fz, h1, h2⟩ := ht.err g hg
  exact ⟨v, by simp [World.cell?, h1], h2⟩
def atoiEnd (s : Bs) (v : Int) (x : Value) : Prop := (x = .nilIface ∧ Lib.atoiAll s = .ok v) ∨ ((∃ te pe, x = .iface te pe) ∧ ∀ v, Lib.atoiAll s ≠ .ok v)
theorem atoi_ok (s : ByteArray) (hmax : s.size ≤ 9223372036854775806) (v : Int) (h : Lib.atoiAll s.data.toList = .ok v) (w : World) :
    Calls Tryd.prog 52 #[.string s] w fun e w' => e = .returned (.tuple #[.int .i64 v, .nilIface]) ∧ (w' = w ∨ ∃ t, w' = Lib.bytesWorld w 5 t) := Any.strconv_Atoi_ok Tryd.laysC172 s hmax v h w
theorem atoi_syn (s : ByteArray) (hlim : s.size ≤ 281474976710656) (h : Lib.atoiAll s.data.toList = Lib.atoiAll []) (ev : Value) (w : World) (hv : w.cell? ⟨1, 0, none⟩ = some ev) (hev : ev = .nilIface ∨ ∃ te pe, ev = .iface te pe) :
    Calls Tryd.prog 52 #[.string s] w fun e w' => ∃ N, e = .returned (.tuple #[.int .i64 (0), .iface 93 (.pointer (some ⟨N, 0, none⟩))]) ∧ w.heap.size ≤ N ∧ w'.heap[N]? = some (.cells #[.string ⟨#[65, 116, 111, 105]⟩, .string s, ev] 106 (0, 0)) ∧ Below w.heap.size w w' := Any.strconv_Atoi_syntax Tryd.laysC172 s hlim h ev w hv hev
theorem atoi_rng (s : ByteArray) (hlim : s.size ≤ 281474976710656) (h : Lib.atoiAll s.data.toList = .range) (ev : Value) (w : World) (hv : w.cell? ⟨2, 0, none⟩ = some ev) (hev : ev = .nilIface ∨ ∃ te pe, ev = .iface te pe) :
    Calls Tryd.prog 52 #[.string s] w fun e w' => ∃ N, e = .returned (.tuple #[.int .i64 (Lib.atoiSat s.data.toList), .iface 93 (.pointer (some ⟨N, 0, none⟩))]) ∧ w.heap.size ≤ N ∧ w'.heap[N]? = some (.cells #[.string ⟨#[65, 116, 111, 105]⟩, .string s, ev] 106 (0, 0)) ∧ Below w.heap.size w w' := Any.strconv_Atoi_range Tryd.laysC172 s hlim h ev w hv hev
theorem atoi_call (s : Bs) (hl : s.length ≤ 1000000) (w : World) (ht : Tabs w) :
    Calls Tryd.prog 52 #[.string ⟨s.toArray⟩] w fun e w' => ∃ v x, e = .returned (.tuple #[.int .i64 v, x]) ∧ in64 v ∧ atoiEnd s v x ∧ Below w.heap.size w w' := by
  obtain ⟨S, hS⟩ : ∃ S : ByteArray, S = ⟨s.toArray⟩ := ⟨_, rfl⟩
  have e1 : S.size = s.length := by rw [hS]; simp [ByteArray.size]
  have e2 : S.data.toList = s := by rw [hS]
  rw [← hS]
  rcases h : Lib.atoiAll s with v | _ | _
  · refine (atoi_ok S (by omega) v (by rw [e2]; exact h) w).mono ?_
    rintro e w' ⟨rfl, hw⟩
    refine ⟨v, _, rfl, Lib.atoiAll_bounds h, .inl ⟨rfl, h⟩, ?_⟩
    rcases hw with rfl | ⟨t, rfl⟩
    · exact Below.refl _ _
    · exact Lib.bytesWorld_below _ _ _
  · obtain ⟨ev, h1, h2⟩ := err_cell ht (g := 1) rfl
    refine (atoi_syn S (by omega) (by rw [e2]; exact h) ev w h1 h2).mono ?_
    rintro e w' ⟨N, rfl, -, -, hb⟩
    exact ⟨0, _, rfl, ⟨by decide, by decide⟩, .inr ⟨⟨_, _, rfl⟩, fun v e => by rw [h] at e; cases e⟩, hb⟩
  · obtain ⟨ev, h1, h2⟩ := err_cell ht (g := 2) rfl
    refine (atoi_rng S (by omega) (by rw [e2]; exact h) ev w h1 h2).mono ?_
    rintro e w' ⟨N, rfl, -, -, hb⟩
    exact ⟨_, _, rfl, Lib.atoiSat_bounds _, .inr ⟨⟨_, _, rfl⟩, fun v e => by rw [h] at e; cases e⟩, hb⟩
noncomputable def c52 (s : Bs) (K : AV → List AV → Prop) : Prop :=
    Obl (s.length ≤ 1000000) ((∀ v : Int, -9223372036854775808 ≤ v ∧ v ≤ 9223372036854775807 → Lib.atoiAll s = .ok v → K (.tup [.int .i64 v, .ifc true]) []) ∧ ((∀ v, Lib.atoiAll s ≠ .ok v) → ∀ v : Int, -9223372036854775808 ≤ v ∧ v ≤ 9223372036854775807 → K (.tup [.int .i64 v, .ifc false]) []))
noncomputable def C52 : List AV → (AV → List AV → Prop) → Prop
  | [.str s], K => c52 s K
  | _, _ => False
theorem s52 : CtrOK Tryd.prog 52 (.gen .ps C52) ∧ Callable Tryd.prog 52 := by
  refine ⟨fun args K h => ?_, callable Tryd.func52 rfl (by rfl)⟩
  unfold C52 at h
  split at h
  case h_2 => exact h.elim
  rename_i s
  unfold c52 at h
  obtain ⟨hl, hK1, hK2⟩ := h
  intro w γ S xs hi hn hf ht hs
  cases hi with
  | cons h2 h3 =>
    cases h3
    obtain ⟨rfl, rfl⟩ := ia_str h2
    refine Calls.mono (atoi_call s hl w ht) ?_
    rintro e w' ⟨v, x, rfl, hv, hx, hb⟩
    have fr : ∀ S, (∀ b ∈ S, False) → Fr S γ w γ w' := fun S hS => ⟨hb.os, hb.tape, hb.output, hb.size, fun b h _ => ⟨hb.block b h, rfl⟩, fun b h => hf b (Nat.le_trans hb.size h), fun b h => (hS b h).elim⟩
    rcases hx with ⟨rfl, h⟩ | ⟨⟨te, pe, rfl⟩, h⟩
    · exact ⟨_, [], _, γ, [], [], hK1 v hv h, rfl, .tup (.cons (.cell (.per (.int _ _) rfl)) (.cons (.cell (.per .ifc0 rfl)) .nil)), .nil, by simp, fr _ (by simp), by simp⟩
    · exact ⟨_, [], _, γ, [], [], hK2 h v hv, rfl, .tup (.cons (.cell (.per (.int _ _) rfl)) (.cons (.cell (.per (.ifc1 _ _) rfl)) .nil)), .nil, by simp, fr _ (by simp), by simp⟩
theorem pre_cut {s t : Bs} : preM s t = (decide ((s.length : Int) ≤ (t.length : Int)) && decide (List.drop (Int.toNat 0) (List.take ((s.length : Int)).toNat t) = s)) := by
  unfold preM
  rw [Int.toNat_natCast, show Int.toNat 0 = 0 from rfl, List.drop_zero, Bool.eq_iff_iff]
  simp only [decide_eq_true_eq, Bool.and_eq_true]
  constructor
  · intro h
    exact ⟨by have := h.length_le; omega, (List.prefix_iff_eq_take.1 h).symm⟩
  · intro h
    exact List.prefix_iff_eq_take.2 h.2.symm
noncomputable def v63 (t : Bs) (s : Bs) : AV := .bool (preM s t)
noncomputable def o63 (t : Bs) (s : Bs) : Prop := True
noncomputable def F63 : List AV → QR
  | [.str t, .str s] => some (none, v63 t s)
  | _ => none
noncomputable def E63 : Ctx := mkE tab []
noncomputable def O63 : Nat → List DI := ordL []
theorem a63 (t : Bs) (s : Bs) (hb : BdAs [.str t, .str s]) (ho : o63 t s) (K : AV → List AV → Prop) (hK : K (v63 t s) []) : abody E63 O63 .ps Tryd.f63 (Tryd.f63.body.getD .skip) [.str t, .str s] K := by
  simp only [BdAs, BdA, BdL, BdC, MX, ndC, shC, itC, stC, opC, chC, nwC, flC, rqC, rsC, enc, List.cons_append, List.nil_append, and_true, true_and] at hb
  unfold v63 at hK
  conv => whnf
  repeat' first|((first|refine Cnd.mk (fun h=>?_) (fun h=>?_)|refine Gd.mk (fun h=>?_))<;>(try simp [etas,elDef,-List.getD_eq_getElem?_getD] at h)<;>conv=>whnf)|((first|refine Obl.mk (by first|omega|rfl|exact inK_byte _|(simp only [inK,Int.toNat_natCast,etas,elDef]<;>first|omega|grind)|grind [inK]) ?_|refine OblG.mk (by ((conv=>whnf);(repeat (first|refine Bx.mk ?_|(intro h;(try simp [etas,elDef,-List.getD_eq_getElem?_getD] at h);conv=>whnf)));(first|omega|rfl|exact inK_byte _|(simp only [inK,Int.toNat_natCast,etas,elDef]<;>first|omega|grind)|grind [inK]))) ?_|refine And.intro ?_ ?_)<;>conv=>whnf)|exact True.intro|(intro;conv=>whnf)
  all_goals exact leafB hK pre_cut
theorem s63 : (CtrOK Tryd.prog 63 (.pure F63) ∧ Callable Tryd.prog 63) := by
  refine pure_ok (E := E63) (mkE_nil tab_ok) mix (O := O63) (F := F63) Tryd.func63 rfl (by rfl) (by kernel_rfl) (fun args o v h => ?_) (fun args o v h => ?_) (fun args o v h hbd hp K hK => ?_)
  · unfold F63 at h; split at h <;> cases h; first | trivial | (simp [v63, Scalar, Scalar2, Scalar1, stC, ndC, itC, chC, nwC])
  · unfold F63 at h; split at h <;> cases h; exact Nat.le_of_ble_eq_true rfl
  · unfold F63 at h; split at h
    case h_2 => cases h
    cases h
    exact a63 _ _ (by exact hbd) trivial K hK
noncomputable def v51 (t : Bs) (s : Bs) : AV := .bool (preM s t)
noncomputable def o51 (t : Bs) (s : Bs) : Prop := True
noncomputable def F51 : List AV → QR
  | [.str t, .str s] => some (none, v51 t s)
  | _ => none
noncomputable def E51 : Ctx := mkE tab [(63, .pure F63)]
noncomputable def O51 : Nat → List DI := ordL []
theorem a51 (t : Bs) (s : Bs) (hb : BdAs [.str t, .str s]) (ho : o51 t s) (K : AV → List AV → Prop) (hK : K (v51 t s) []) : abody E51 O51 .ps Tryd.f51 (Tryd.f51.body.getD .skip) [.str t, .str s] K := by
  simp only [BdAs, BdA, BdL, BdC, MX, ndC, shC, itC, stC, opC, chC, nwC, flC, rqC, rsC, enc, List.cons_append, List.nil_append, and_true, true_and] at hb
  unfold v51 at hK
  conv => whnf
  repeat' first|((first|refine Cnd.mk (fun h=>?_) (fun h=>?_)|refine Gd.mk (fun h=>?_))<;>(try simp [etas,elDef,-List.getD_eq_getElem?_getD] at h)<;>conv=>whnf)|((first|refine Obl.mk (by first|omega|rfl|exact inK_byte _|(simp only [inK,Int.toNat_natCast,etas,elDef]<;>first|omega|grind)|grind [inK]) ?_|refine OblG.mk (by ((conv=>whnf);(repeat (first|refine Bx.mk ?_|(intro h;(try simp [etas,elDef,-List.getD_eq_getElem?_getD] at h);conv=>whnf)));(first|omega|rfl|exact inK_byte _|(simp only [inK,Int.toNat_natCast,etas,elDef]<;>first|omega|grind)|grind [inK]))) ?_|refine And.intro ?_ ?_)<;>conv=>whnf)|exact True.intro|(intro;conv=>whnf)
  all_goals exact hK
theorem s51 : (CtrOK Tryd.prog 51 (.pure F51) ∧ Callable Tryd.prog 51) := by
  refine pure_ok (E := E51) (mkE_cons s63 (mkE_nil tab_ok)) mix (O := O51) (F := F51) Tryd.func51 rfl (by rfl) (by kernel_rfl) (fun args o v h => ?_) (fun args o v h => ?_) (fun args o v h hbd hp K hK => ?_)
  · unfold F51 at h; split at h <;> cases h; first | trivial | (simp [v51, Scalar, Scalar2, Scalar1, stC, ndC, itC, chC, nwC])
  · unfold F51 at h; split at h <;> cases h; exact Nat.le_of_ble_eq_true rfl
  · unfold F51 at h; split at h
    case h_2 => cases h
    cases h
    exact a51 _ _ (by exact hbd) trivial K hK
noncomputable def c34 (t : Bs) (p : Int) (s : Bs) (K : AV → List AV → Prop) : Prop :=
    Obl ((0 ≤ p ∧ p ≤ t.length ∧ t.length ≤ 1000000) ∧ s.length ≤ 10) ((preM s (t.drop p.toNat) = true → p + s.length ≤ t.length → K (.bool true) [.ref [.str t, .int .i64 (p + s.length)]]) ∧ (preM s (t.drop p.toNat) = false → K (.bool false) [.ref [.str t, .int .i64 p]]))
noncomputable def C34 : List AV → (AV → List AV → Prop) → Prop
  | [.ref [.str t, .int .i64 p], .str s], K => c34 t p s K
  | _, _ => False
noncomputable def E34 : Ctx := mkE tab [(51, .pure F51)]
noncomputable def O34 : Nat → List DI := ordL [(1, [.q 0, .q 1, .q 2, .q 3, .q 4, .q 5, .q 6, .q 7, .q 8, .q 9, .q 10, .q 11])]
theorem a34 (t : Bs) (p : Int) (s : Bs) (hb : BdAs [.ref [.str t, .int .i64 p], .str s]) (K : AV → List AV → Prop) (h : c34 t p s K) : abody E34 O34 .ps Tryd.f34 (Tryd.f34.body.getD .skip) [.ref [.str t, .int .i64 p], .str s] K := by
  simp only [BdAs, BdA, BdL, BdC, MX, ndC, shC, itC, stC, opC, chC, nwC, flC, rqC, rsC, enc, List.cons_append, List.nil_append, and_true, true_and] at hb
  unfold c34 at h
  obtain ⟨⟨hp, hs⟩, hK1, hK2⟩ := h
  have hlen : preM s (t.drop p.toNat) = true → p + s.length ≤ t.length := fun h => by have := pre_len h; rw [List.length_drop] at this; omega
  conv => whnf
  repeat' first|((first|refine Cnd.mk (fun h=>?_) (fun h=>?_)|refine Gd.mk (fun h=>?_))<;>(try simp [etas,elDef,-List.getD_eq_getElem?_getD] at h)<;>conv=>whnf)|((first|refine Obl.mk (by first|omega|rfl|exact inK_byte _|(simp only [inK,Int.toNat_natCast,etas,elDef]<;>first|omega|grind)|grind [inK]) ?_|refine OblG.mk (by ((conv=>whnf);(repeat (first|refine Bx.mk ?_|(intro h;(try simp [etas,elDef,-List.getD_eq_getElem?_getD] at h);conv=>whnf)));(first|omega|rfl|exact inK_byte _|(simp only [inK,Int.toNat_natCast,etas,elDef]<;>first|omega|grind)|grind [inK]))) ?_|refine And.intro ?_ ?_)<;>conv=>whnf)|exact True.intro|(intro;conv=>whnf)
  · exact hK2 h
  · exact hK1 h (hlen h)
theorem s34 : (CtrOK Tryd.prog 34 (.gen .ps C34) ∧ Callable Tryd.prog 34) := by
  refine gen_ok (E := E34) (mkE_cons s51 (mkE_nil tab_ok)) mix (O := O34) (C := C34) (own := .ps) Tryd.func34 rfl (by rfl) (by kernel_rfl) (fun args K h hbd => ?_)
  unfold C34 at h; split at h
  case h_2 => exact h.elim
  exact ⟨Nat.le_of_ble_eq_true rfl, a34 _ _ _ (by exact hbd) _ h⟩
noncomputable def c35 (t : Bs) (p : Int) (K : AV → List AV → Prop) : Prop :=
    Obl (0 ≤ p ∧ p ≤ t.length ∧ t.length ≤ 1000000) ((∀ (x : Bs) (q : Int), (p < q ∧ q ≤ t.length) → x.length ≤ t.length → rdText (t.drop p.toNat) = some (x, t.drop q.toNat) → K (.tup [.str x, .bool true]) [.ref [.str t, .int .i64 q]]) ∧ (rdText (t.drop p.toNat) = none → ∀ q : Int, (p ≤ q ∧ q ≤ t.length) → K (.tup [.str [], .bool false]) [.ref [.str t, .int .i64 q]]))
noncomputable def C35 : List AV → (AV → List AV → Prop) → Prop
  | [.ref [.str t, .int .i64 p]], K => c35 t p K
  | _, _ => False
noncomputable def E35 : Ctx := mkE tab [(21, .gen .ps C21), (34, .gen .ps C34), (41, .gen .ps C41)]
noncomputable def O35 : Nat → List DI := ordL [(4, [.q 0, .q 1, .q 2, .q 3, .q 4, .q 5, .q 6, .q 7, .q 8, .q 9]), (5, [.q 0, .q 1, .q 2, .q 3, .q 4, .q 5, .q 6, .q 7, .q 8, .q 9]), (10, [.q 0, .q 1, .q 2, .q 3, .q 4, .q 5, .q 6, .q 7, .q 8, .q 9, .q 10, .q 11, .q 12, .q 13, .q 14, .q 15, .q 16, .q 17, .q 18, .q 19, .q 20, .q 21, .q 22, .q 23, .q 24, .q 25, .q 26, .q 27, .q 28, .q 29, .q 30, .q 31, .q 32, .q 33]), (12, [.q 0, .q 1, .q 2, .q 3, .q 4, .q 5, .q 6, .q 7, .q 8, .q 9])]
theorem a35 (t : Bs) (p : Int) (hb : BdAs [.ref [.str t, .int .i64 p]]) (K : AV → List AV → Prop) (h : c35 t p K) : abody E35 O35 .ps Tryd.f35 (Tryd.f35.body.getD .skip) [.ref [.str t, .int .i64 p]] K := by
  simp only [BdAs, BdA, BdL, BdC, MX, ndC, shC, itC, stC, opC, chC, nwC, flC, rqC, rsC, enc, List.cons_append, List.nil_append, and_true, true_and] at hb
  unfold c35 at h
  obtain ⟨hp, hK1, hK2⟩ := h
  conv => whnf
  repeat' first|((first|refine Cnd.mk (fun h=>?_) (fun h=>?_)|refine Gd.mk (fun h=>?_))<;>(try simp [etas,elDef,-List.getD_eq_getElem?_getD] at h)<;>conv=>whnf)|((first|refine Obl.mk (by first|omega|rfl|exact inK_byte _|(simp only [inK,Int.toNat_natCast,etas,elDef]<;>first|omega|grind)|grind [inK]) ?_|refine OblG.mk (by ((conv=>whnf);(repeat (first|refine Bx.mk ?_|(intro h;(try simp [etas,elDef,-List.getD_eq_getElem?_getD] at h);conv=>whnf)));(first|omega|rfl|exact inK_byte _|(simp only [inK,Int.toNat_natCast,etas,elDef]<;>first|omega|grind)|grind [inK]))) ?_|refine And.intro ?_ ?_)<;>conv=>whnf)|exact True.intro|(intro;conv=>whnf)
  · rename_i hpre hle
    obtain ⟨hp1, hp2⟩ := pre_one hpre
    have ed : rdText (t.drop p.toNat) = scanM [] (t.drop (p + 1).toNat) := by rw [hp2, show (p + 1).toNat = p.toNat + 1 by omega]; rfl
    rw [ed] at hK1 hK2
    refine aloop_intro (Bs × Int) (fun ⟨acc, q⟩ => (p + 1 ≤ q ∧ q ≤ t.length) ∧ (acc.length : Int) + p + 1 ≤ q ∧ scanM [] (t.drop (p + 1).toNat) = scanM acc (t.drop q.toNat)) (fun ⟨acc, q⟩ => (t.length - q).toNat) (fun ⟨acc, q⟩ => []) (fun ⟨acc, q⟩ => [(1000000, .box [.str t, .int .i64 q]), (4, .bld acc)]) [] ([], p + 1) [] [] ?_ ?_ (by exact sgOk_of (by rfl)) ?_
    · first | (simp; done) | (simp; assumption) | (simp only; grind)
    · iterate 2 ((all_goals (conv=>whnf));(repeat' (first|exact trivial|rfl|(refine nilEq ?_;first|rfl|(simp only [*];done)|(simp [*];done)|grind)|apply And.intro|((first|apply intEq|apply boolEq|apply strEq|apply psEq|apply nilEq|apply arrEq);(try simp only [Int.toNat_natCast,etas,elDef]);first | done | omega | grind | (simp only [*]; done) | (simp [*]; done)))));(all_goals ((try simp only [Int.toNat_natCast,etas,elDef]);first | done | omega | grind | (simp only [*]; done) | (simp [*]; done)))
    rintro ⟨acc, q⟩ hinv
    dsimp only at hinv
    conv => whnf
    obtain ⟨hq, ha, he⟩ := hinv
    have s0 := fun h => scan_out (acc := acc) (t := t) (p := q.toNat) h
    have s1 := fun h1 h => scan_quote (acc := acc) (t := t) (p := q.toNat) h1 h
    have s2 := fun h1 h h2 => scan_esc (acc := acc) (t := t) (p := q.toNat) h1 h h2
    have s3 := fun h1 h h2 => scan_bad (acc := acc) (t := t) (p := q.toNat) h1 h h2
    have s4 := fun h1 h h2 => scan_chr (acc := acc) (t := t) (p := q.toNat) h1 h h2
    have n1 : q < t.length → (q + 1).toNat = q.toNat + 1 := fun _ => by omega
    have n2 : q < t.length → (q + 1 + 1).toNat = q.toNat + 2 := fun _ => by omega
    have h8 := fun (c : UInt8) => (show c.toNat < 256 from c.toNat_lt)
    rw [he] at hK1 hK2
    conv => whnf
    repeat' first|((first|refine Cnd.mk (fun h=>?_) (fun h=>?_)|refine Gd.mk (fun h=>?_))<;>(try simp [etas,elDef,-List.getD_eq_getElem?_getD] at h)<;>conv=>whnf)|((first|refine Obl.mk (by first|omega|rfl|exact inK_byte _|(simp only [inK,Int.toNat_natCast,etas,elDef]<;>first|omega|grind)|grind [inK]) ?_|refine OblG.mk (by ((conv=>whnf);(repeat (first|refine Bx.mk ?_|(intro h;(try simp [etas,elDef,-List.getD_eq_getElem?_getD] at h);conv=>whnf)));(first|omega|rfl|exact inK_byte _|(simp only [inK,Int.toNat_natCast,etas,elDef]<;>first|omega|grind)|grind [inK]))) ?_|refine And.intro ?_ ?_)<;>conv=>whnf)|exact True.intro|(intro;conv=>whnf)
    · exact hK1 acc (q + 1) ⟨by omega, by omega⟩ (by omega) (by rw [n1 (by assumption)]; exact s1 (by omega) h)
    · exact hK2 (s3 (by omega) (by assumption) (by rw [n1 (by assumption)] at h; exact h.imp (fun h => by omega) id)) (q + 1) ⟨by omega, by omega⟩
    · rename_i hq2 hn34 h92
      rw [n1 hq2] at h
      have h2 : ((t.getD (q.toNat + 1) 0).toNat : Int) = 34 ∨ ((t.getD (q.toNat + 1) 0).toNat : Int) = 92 := (Classical.em _).imp id h.2
      have e1 := s2 (by omega) h92 h2
      exact ⟨(acc ++ [t.getD (q.toNat + 1) 0], q + 1 + 1), [], [], ⟨⟨by omega, by omega⟩, by simp; omega, by rw [n2 hq2, he, e1]⟩, by simp only; omega, by iterate 2 ((all_goals (conv=>whnf));(repeat' (first|exact trivial|rfl|(refine nilEq ?_;first|rfl|(simp only [*];done)|(simp [*];done)|grind)|apply And.intro|((first|apply intEq|apply boolEq|apply strEq|apply psEq|apply nilEq|apply arrEq);(try simp only [Int.toNat_natCast,etas,elDef]);first | done | omega | simp [n1 hq2]))));(all_goals ((try simp only [Int.toNat_natCast,etas,elDef]);first | done | omega | simp [n1 hq2])), (by exact sgOk_of (by rfl))⟩
    · rename_i hq2 hn34
      have e1 := s4 (by omega) hn34 h
      exact ⟨(acc ++ [t.getD q.toNat 0], q + 1), [], [], ⟨⟨by omega, by omega⟩, by simp; omega, by rw [n1 hq2, he, e1]⟩, by simp only; omega, by iterate 2 ((all_goals (conv=>whnf));(repeat' (first|exact trivial|rfl|(refine nilEq ?_;first|rfl|(simp only [*];done)|(simp [*];done)|grind)|apply And.intro|((first|apply intEq|apply boolEq|apply strEq|apply psEq|apply nilEq|apply arrEq);(try simp only [Int.toNat_natCast,etas,elDef]);first | done | omega | simp))));(all_goals ((try simp only [Int.toNat_natCast,etas,elDef]);first | done | omega | simp)), (by exact sgOk_of (by rfl))⟩
    · exact hK2 (s0 (by omega)) q ⟨by omega, by omega⟩
  · rename_i hpre
    refine hK2 ?_ p ⟨by omega, by omega⟩
    have hn := pre_not hpre
    unfold rdText
    split
    · rfl
    · rename_i c r e
      rw [if_neg (fun ec => hn r (by rw [e, ec]))]
theorem s35 : (CtrOK Tryd.prog 35 (.gen .ps C35) ∧ Callable Tryd.prog 35) := by
  refine gen_ok (E := E35) (mkE_cons s21 (mkE_cons s34 (mkE_cons s41 (mkE_nil tab_ok)))) mix (O := O35) (C := C35) (own := .ps) Tryd.func35 rfl (by rfl) (by kernel_rfl) (fun args K h hbd => ?_)
  unfold C35 at h; split at h
  case h_2 => exact h.elim
  exact ⟨Nat.le_of_ble_eq_true rfl, a35 _ _ (by exact hbd) _ h⟩
noncomputable def c37 (t : Bs) (p : Int) (K : AV → List AV → Prop) : Prop :=
    Obl (0 ≤ p ∧ p ≤ t.length ∧ t.length ≤ 1000000) ((∀ (v : Int) (q : Int), (p ≤ q ∧ q ≤ t.length) → rdNum (t.drop p.toNat) = some (v, t.drop q.toNat) → K (.tup [.st [.int .i64 1, .int .i64 v, .str [], .ps .str [], .ps .node []], .bool true]) [.ref [.str t, .int .i64 q]]) ∧ (rdNum (t.drop p.toNat) = none → ∀ q : Int, (p ≤ q ∧ q ≤ t.length) → K (.tup [.st [.int .i64 0, .int .i64 0, .str [], .ps .str [], .ps .node []], .bool false]) [.ref [.str t, .int .i64 q]]))
noncomputable def C37 : List AV → (AV → List AV → Prop) → Prop
  | [.ref [.str t, .int .i64 p]], K => c37 t p K
  | _, _ => False
noncomputable def E37 : Ctx := mkE tab [(39, .pure F39z), (52, .gen .ps C52)]
noncomputable def O37 : Nat → List DI := ordL [(4, [.q 0, .q 1, .q 2, .q 3, .q 4, .q 5, .q 6, .q 7, .q 8, .q 9, .q 10])]
theorem a37 (t : Bs) (p : Int) (hb : BdAs [.ref [.str t, .int .i64 p]]) (K : AV → List AV → Prop) (h : c37 t p K) : abody E37 O37 .ps Tryd.f37 (Tryd.f37.body.getD .skip) [.ref [.str t, .int .i64 p]] K := by
  simp only [BdAs, BdA, BdL, BdC, MX, ndC, shC, itC, stC, opC, chC, nwC, flC, rqC, rsC, enc, List.cons_append, List.nil_append, and_true, true_and] at hb
  unfold c37 at h
  obtain ⟨hp, hK1, hK2⟩ := h
  conv => whnf
  repeat' first|((first|refine Cnd.mk (fun h=>?_) (fun h=>?_)|refine Gd.mk (fun h=>?_))<;>(try simp [etas,elDef,-List.getD_eq_getElem?_getD] at h)<;>conv=>whnf)|((first|refine Obl.mk (by first|omega|rfl|exact inK_byte _|(simp only [inK,Int.toNat_natCast,etas,elDef,o39z]<;>first|omega|grind)|grind [inK,o39z]) ?_|refine OblG.mk (by ((conv=>whnf);(repeat (first|refine Bx.mk ?_|(intro h;(try simp [etas,elDef,-List.getD_eq_getElem?_getD] at h);conv=>whnf)));(first|omega|rfl|exact inK_byte _|(simp only [inK,Int.toNat_natCast,etas,elDef,o39z]<;>first|omega|grind)|grind [inK,o39z]))) ?_|refine And.intro ?_ ?_)<;>conv=>whnf)|exact True.intro|(intro;conv=>whnf)
  refine aloop_intro Int (fun q => (p ≤ q ∧ q ≤ t.length) ∧ ∀ j : Nat, p.toNat ≤ j → j < q.toNat → numC (t.getD j 0) = true) (fun q => (t.length - q).toNat) (fun q => [(4, .int .i64 q)]) (fun q => []) [1000000, 2] p [] [] ?_ ?_ (by exact sgOk_of (by rfl)) ?_
  · exact ⟨⟨by omega, by omega⟩, fun j h1 h2 => by omega⟩
  · iterate 2 ((all_goals (conv=>whnf));(repeat' (first|exact trivial|rfl|(refine nilEq ?_;first|rfl|(simp only [*];done)|(simp [*];done)|grind)|apply And.intro|((first|apply intEq|apply boolEq|apply strEq|apply psEq|apply nilEq|apply arrEq);(try simp only [Int.toNat_natCast,etas,elDef]);first | done | omega | grind | (simp only [*]; done) | (simp [*]; done)))));(all_goals ((try simp only [Int.toNat_natCast,etas,elDef]);first | done | omega | grind | (simp only [*]; done) | (simp [*]; done)))
  rintro q ⟨hq, hc⟩
  have hr := fun ho => rdNum_at (t := t) (P := p.toNat) (Q := q.toNat) (by omega) (by omega) hc ho
  conv => whnf
  repeat' first|((first|refine Cnd.mk (fun h=>?_) (fun h=>?_)|refine Gd.mk (fun h=>?_))<;>(try simp [etas,elDef,-List.getD_eq_getElem?_getD] at h)<;>conv=>whnf)|((first|refine Obl.mk (by first|omega|rfl|exact inK_byte _|(simp only [inK,Int.toNat_natCast,etas,elDef,o39z]<;>first|omega|grind)|grind [inK,o39z]) ?_|refine OblG.mk (by ((conv=>whnf);(repeat (first|refine Bx.mk ?_|(intro h;(try simp [etas,elDef,-List.getD_eq_getElem?_getD] at h);conv=>whnf)));(first|omega|rfl|exact inK_byte _|(simp only [inK,Int.toNat_natCast,etas,elDef,o39z]<;>first|omega|grind)|grind [inK,o39z]))) ?_|refine And.intro ?_ ?_)<;>conv=>whnf)|exact True.intro|(intro;conv=>whnf)
  · refine ⟨q + 1, [], [], ⟨⟨by omega, by omega⟩, fun j h1 h2 => ?_⟩, by omega, by iterate 2 ((all_goals (conv=>whnf));(repeat' (first|exact trivial|rfl|(refine nilEq ?_;first|rfl|(simp only [*];done)|(simp [*];done)|grind)|apply And.intro|((first|apply intEq|apply boolEq|apply strEq|apply psEq|apply nilEq|apply arrEq);(try simp only [Int.toNat_natCast,etas,elDef]);first | done | omega | grind | (simp only [*]; done) | (simp [*]; done)))));(all_goals ((try simp only [Int.toNat_natCast,etas,elDef]);first | done | omega | grind | (simp only [*]; done) | (simp [*]; done))), (by exact sgOk_of (by rfl))⟩
    by_cases e : j = q.toNat
    · subst e; exact numC_int.2 h.2
    · exact hc j h1 (by omega)
  · rename_i hx v hv ha
    have hr2 := hr fun h1 => by rw [Bool.eq_false_iff, ne_eq, numC_int]; have := hx (by omega); omega
    refine hK2 ?_ p ⟨by omega, by omega⟩
    rw [hr2, numV_not ha h]; rfl
  · rename_i hx v hv ha
    have hr2 := hr fun h1 => by rw [Bool.eq_false_iff, ne_eq, numC_int]; have := hx (by omega); omega
    refine hK1 v q ⟨by omega, by omega⟩ ?_
    rw [hr2, numV_eq hv h]; rfl
  · rename_i hx ha v hv
    have hr2 := hr fun h1 => by rw [Bool.eq_false_iff, ne_eq, numC_int]; have := hx (by omega); omega
    refine hK2 ?_ p ⟨by omega, by omega⟩
    rw [hr2, numV_err ha]; rfl
theorem s37 : (CtrOK Tryd.prog 37 (.gen .ps C37) ∧ Callable Tryd.prog 37) := by
  refine gen_ok (E := E37) (mkE_cons s39z (mkE_cons s52 (mkE_nil tab_ok))) mix (O := O37) (C := C37) (own := .ps) Tryd.func37 rfl (by rfl) (by kernel_rfl) (fun args K h hbd => ?_)
  unfold C37 at h; split at h
  case h_2 => exact h.elim
  exact ⟨Nat.le_of_ble_eq_true rfl, a37 _ _ (by exact hbd) _ h⟩
def nlP (E : El) : List (ElT E) → AV
  | [] => .nils E
  | _ :: _ => .ls 901
def nlQ (E : El) : List (ElT E) → List (Nat × LC)
  | [] => []
  | a :: l => [(901, .arr E (a :: l))]
noncomputable def c36 (t : Bs) (p : Int) (kd : Int) (lv : Int) (c : Bs) (K : AV → List AV → Prop) : Prop :=
    Obl ((0 ≤ p ∧ p ≤ t.length ∧ t.length ≤ 1000000) ∧ (1 ≤ lv ∧ lv ≤ 5) ∧ ((kd = 3 ∧ c = [93]) ∨ (kd = 4 ∧ c = [125]))) ((∀ (n1 n2 : Int) (n3 : Bs) (n4 : List Bs) (n5 : List Nd) (q : Int), (p ≤ q ∧ q ≤ t.length) → rdParts (rdN (5 - lv).toNat) kd (c.getD 0 0) (t.drop p.toNat) = some (⟨n1, n2, n3, n4, n5⟩, t.drop q.toNat) → K (.tup [.st [.int .i64 n1, .int .i64 n2, .str n3, .ps .str n4, .ps .node n5], .bool true]) [.ref [.str t, .int .i64 q]]) ∧ (rdParts (rdN (5 - lv).toNat) kd (c.getD 0 0) (t.drop p.toNat) = none → ∀ q : Int, (p ≤ q ∧ q ≤ t.length) → K (.tup [.st [.int .i64 0, .int .i64 0, .str [], .ps .str [], .ps .node []], .bool false]) [.ref [.str t, .int .i64 q]]))
noncomputable def m36 (t : Bs) (p : Int) (kd : Int) (lv : Int) (c : Bs) : Nat := 2 * (6 - lv).toNat
noncomputable def Ck36 (k : Nat) : List AV → (AV → List AV → Prop) → Prop
  | [.ref [.str t, .int .i64 p], .int .i64 kd, .int .i64 lv, .str c], K => Obl (m36 t p kd lv c < k) (c36 t p kd lv c K)
  | _, _ => False
noncomputable def c18 (t : Bs) (p : Int) (lv : Int) (K : AV → List AV → Prop) : Prop :=
    Obl ((0 ≤ p ∧ p ≤ t.length ∧ t.length ≤ 1000000) ∧ 1 ≤ lv ∧ lv ≤ 6) ((∀ (n1 n2 : Int) (n3 : Bs) (n4 : List Bs) (n5 : List Nd) (q : Int), (p ≤ q ∧ q ≤ t.length) → rdN (6 - lv).toNat (t.drop p.toNat) = some (⟨n1, n2, n3, n4, n5⟩, t.drop q.toNat) → K (.tup [.st [.int .i64 n1, .int .i64 n2, .str n3, .ps .str n4, .ps .node n5], .bool true]) [.ref [.str t, .int .i64 q]]) ∧ (rdN (6 - lv).toNat (t.drop p.toNat) = none → ∀ (n1 n2 : Int) (n3 : Bs) (n4 : List Bs) (n5 : List Nd) (q : Int), (p ≤ q ∧ q ≤ t.length) → K (.tup [.st [.int .i64 n1, .int .i64 n2, .str n3, .ps .str n4, .ps .node n5], .bool false]) [.ref [.str t, .int .i64 q]]))
noncomputable def m18 (t : Bs) (p : Int) (lv : Int) : Nat := 2 * (6 - lv).toNat + 1
noncomputable def C18 : List AV → (AV → List AV → Prop) → Prop
  | [.ref [.str t, .int .i64 p], .int .i64 lv], K => c18 t p lv K
  | _, _ => False
noncomputable def Ck18 (k : Nat) : List AV → (AV → List AV → Prop) → Prop
  | [.ref [.str t, .int .i64 p], .int .i64 lv], K => Obl (m18 t p lv < k) (c18 t p lv K)
  | _, _ => False
noncomputable def E36 (k : Nat) : Ctx := mkE tab [(18, .gen .ps (Ck18 k)), (34, .gen .ps C34), (35, .gen .ps C35)]
noncomputable def O36 : Nat → List DI := ordL []
theorem a36 (k : Nat) (t : Bs) (p : Int) (kd : Int) (lv : Int) (c : Bs) (hm : m36 t p kd lv c < k + 1) (hb : BdAs [.ref [.str t, .int .i64 p], .int .i64 kd, .int .i64 lv, .str c]) (K : AV → List AV → Prop) (h : c36 t p kd lv c K) : abody (E36 k) O36 .ps Tryd.f36 (Tryd.f36.body.getD .skip) [.ref [.str t, .int .i64 p], .int .i64 kd, .int .i64 lv, .str c] K := by
  simp only [BdAs, BdA, BdL, BdC, MX, ndC, shC, itC, stC, opC, chC, nwC, flC, rqC, rsC, enc, List.cons_append, List.nil_append, and_true, true_and] at hb
  unfold c36 at h
  unfold m36 at hm
  obtain ⟨⟨hp, hlv, hkc⟩, hK1, hK2⟩ := h
  have e5 : (6 - (lv + 1)).toNat = (5 - lv).toNat := by omega
  rcases hkc with ⟨rfl, rfl⟩ | ⟨rfl, rfl⟩
  · skip
    have r1 := fun h => rp_yes (f := rdN (5 - lv).toNat) (k := 3) (c := 93) (t := t) (p := p.toNat) h
    have r2 := fun h => rp_no (f := rdN (5 - lv).toNat) (k := 3) (c := 93) (s := t.drop p.toNat) h
    have n1 : (p + 1).toNat = p.toNat + 1 := by omega
    have eC : ([93] : Bs).getD 0 0 = 93 := rfl
    rw [eC] at hK1 hK2
    conv => whnf
    repeat' first|((first|refine Cnd.mk (fun h=>?_) (fun h=>?_)|refine Gd.mk (fun h=>?_))<;>(try simp [etas,elDef,-List.getD_eq_getElem?_getD] at h)<;>conv=>whnf)|((first|refine Obl.mk (by first|omega|rfl|exact inK_byte _|(simp only [inK,Int.toNat_natCast,etas,elDef,m36,m18,m18]<;>first|omega|grind)|grind [inK,m36,m18,m18]) ?_|refine OblG.mk (by ((conv=>whnf);(repeat (first|refine Bx.mk ?_|(intro h;(try simp [etas,elDef,-List.getD_eq_getElem?_getD] at h);conv=>whnf)));(first|omega|rfl|exact inK_byte _|(simp only [inK,Int.toNat_natCast,etas,elDef,m36,m18,m18]<;>first|omega|grind)|grind [inK,m36,m18,m18]))) ?_|refine And.intro ?_ ?_)<;>conv=>whnf)|exact True.intro|(intro;conv=>whnf)
    · rename_i hpre hle
      exact hK1 _ _ _ _ _ (p + 1) ⟨by omega, by omega⟩ (by rw [r1 hpre, n1])
    rename_i hpre
    rw [r2 hpre] at hK1 hK2
    refine aloop_intro (List Nd × Int) (fun q => (p ≤ q.2 ∧ q.2 ≤ t.length) ∧ (q.1.length : Int) + p ≤ q.2 ∧ rdLoop (rdN (5 - lv).toNat) 3 93 [] [] (t.drop p.toNat) = rdLoop (rdN (5 - lv).toNat) 3 93 [] q.1 (t.drop q.2.toNat)) (fun q => (t.length - q.2).toNat) (fun q => []) (fun q => (10, .box [.int .i64 3, .int .i64 0, .str [], .nils .str, nlV .node q.1]) :: (1000000, .box [.str t, .int .i64 q.2]) :: nlL .node q.1) [8] ([], p) [] [] ?_ ?_ (by exact sgOk_of (by rfl)) ?_
    · exact ⟨⟨by simp only; omega, by simp only; omega⟩, by simp only [List.length_nil]; omega, rfl⟩
    · iterate 2 ((all_goals (conv=>whnf));(repeat' (first|exact trivial|rfl|(refine nilEq ?_;first|rfl|(simp only [*];done)|(simp [*];done)|grind)|apply And.intro|((first|apply intEq|apply boolEq|apply strEq|apply psEq|apply nilEq|apply arrEq);(try simp only [Int.toNat_natCast,etas,elDef]);first | done | omega | grind | (simp only [*]; done) | (simp [*]; done)))));(all_goals ((try simp only [Int.toNat_natCast,etas,elDef]);first | done | omega | grind | (simp only [*]; done) | (simp [*]; done)))
    rintro ⟨ks, q⟩ ⟨hq, hl, he⟩
    dsimp only at hq hl he
    rw [he] at hK1 hK2
    rcases ks with _ | ⟨k0, ks⟩
    · skip
      conv => whnf
      repeat' first|((first|refine Cnd.mk (fun h=>?_) (fun h=>?_)|refine Gd.mk (fun h=>?_))<;>(try simp [etas,elDef,-List.getD_eq_getElem?_getD] at h)<;>conv=>whnf)|((first|refine Obl.mk (by first|omega|rfl|exact inK_byte _|(simp only [inK,Int.toNat_natCast,etas,elDef,m36,m18,m18]<;>first|omega|grind)|grind [inK,m36,m18,m18]) ?_|refine OblG.mk (by ((conv=>whnf);(repeat (first|refine Bx.mk ?_|(intro h;(try simp [etas,elDef,-List.getD_eq_getElem?_getD] at h);conv=>whnf)));(first|omega|rfl|exact inK_byte _|(simp only [inK,Int.toNat_natCast,etas,elDef,m36,m18,m18]<;>first|omega|grind)|grind [inK,m36,m18,m18]))) ?_|refine And.intro ?_ ?_)<;>conv=>whnf)|exact True.intro|(intro;conv=>whnf)
      · rename_i _ n1' n2' n3' n4' n5' q2 hq2 hr _ hpre hle
        dsimp only at hq2 hr
        rw [e5] at hr
        have hp1 := (pre_one hpre).1
        have hp2 := (pre_one hpre).2
        exact hK1 _ _ _ _ _ (q2 + 1) ⟨by omega, by omega⟩ (by rw [show (q2 + 1).toNat = q2.toNat + 1 by omega]; exact rl_done rk_list hr hp2)
      · rename_i _ n1' n2' n3' n4' n5' q2 hq2 hr _ hno _ hpre hle
        dsimp only at hq2 hr
        rw [e5] at hr
        have hp1 := (pre_one hpre).1
        have hp2 := (pre_one hpre).2
        have hd := rl_next (ns := []) (ks := ([] : List Nd)) (c := 93) rk_list hr hp2 (by decide) (by simp only [List.length_drop]; omega)
        refine ⟨(([] : List Nd) ++ [⟨n1', n2', n3', n4', n5'⟩], q2 + 1), [(900, 56)], [], ⟨⟨by simp only; omega, by simp only; omega⟩, by simp only [List.length_append, List.length_singleton]; simp at hl ⊢; omega, ?_⟩, by simp only; omega, by iterate 2 ((all_goals (conv=>whnf));(repeat' (first|exact trivial|rfl|(refine nilEq ?_;first|rfl|(simp only [*];done)|(simp [*];done)|grind)|apply And.intro|((first|apply intEq|apply boolEq|apply strEq|apply psEq|apply nilEq|apply arrEq);(try simp only [Int.toNat_natCast,etas,elDef]);first | done | omega | grind | (simp only [*]; done) | (simp [*]; done)))));(all_goals ((try simp only [Int.toNat_natCast,etas,elDef]);first | done | omega | grind | (simp only [*]; done) | (simp [*]; done))), (by exact sgOk_of (by rfl))⟩
        simp only
        rw [he, show (q2 + 1).toNat = q2.toNat + 1 by omega]; exact hd
      · rename_i _ n1' n2' n3' n4' n5' q2 hq2 hr _ hno _ hno2
        dsimp only at hq2 hr
        rw [e5] at hr
        exact hK2 (rl_no3 rk_list hr (pre_not hno) (pre_not hno2)) q2 ⟨by omega, by omega⟩
      · rename_i _ hr n1' n2' n3' n4' n5' q2 hq2
        dsimp only at hq2 hr
        rw [e5] at hr
        exact hK2 (rl_no2 rk_list hr) q2 ⟨by omega, by omega⟩
    · have hl9 : (k0 :: ks).length + [(default : Nd)].length ≤ 1073741824 := by simp at hl ⊢; omega
      conv => whnf
      repeat' first|((first|refine Cnd.mk (fun h=>?_) (fun h=>?_)|refine Gd.mk (fun h=>?_))<;>(try simp [etas,elDef,-List.getD_eq_getElem?_getD] at h)<;>conv=>whnf)|((first|refine Obl.mk (by first|omega|rfl|exact inK_byte _|(simp only [inK,Int.toNat_natCast,etas,elDef,m36,m18,m18]<;>first|omega|grind)|grind [inK,m36,m18,m18]) ?_|refine OblG.mk (by ((conv=>whnf);(repeat (first|refine Bx.mk ?_|(intro h;(try simp [etas,elDef,-List.getD_eq_getElem?_getD] at h);conv=>whnf)));(first|omega|rfl|exact inK_byte _|(simp only [inK,Int.toNat_natCast,etas,elDef,m36,m18,m18]<;>first|omega|grind)|grind [inK,m36,m18,m18]))) ?_|refine And.intro ?_ ?_)<;>conv=>whnf)|exact True.intro|(intro;conv=>whnf)
      · rename_i _ n1' n2' n3' n4' n5' q2 hq2 hr _ hpre hle
        dsimp only at hq2 hr
        rw [e5] at hr
        have hp1 := (pre_one hpre).1
        have hp2 := (pre_one hpre).2
        exact hK1 _ _ _ _ _ (q2 + 1) ⟨by omega, by omega⟩ (by rw [show (q2 + 1).toNat = q2.toNat + 1 by omega]; exact rl_done rk_list hr hp2)
      · rename_i _ n1' n2' n3' n4' n5' q2 hq2 hr _ hno _ hpre hle
        dsimp only at hq2 hr
        rw [e5] at hr
        have hp1 := (pre_one hpre).1
        have hp2 := (pre_one hpre).2
        have hd := rl_next (ns := []) (ks := (k0 :: ks)) (c := 93) rk_list hr hp2 (by decide) (by simp only [List.length_drop]; omega)
        refine ⟨((k0 :: ks) ++ [⟨n1', n2', n3', n4', n5'⟩], q2 + 1), [(900, 56)], [], ⟨⟨by simp only; omega, by simp only; omega⟩, by simp only [List.length_append, List.length_singleton]; simp at hl ⊢; omega, ?_⟩, by simp only; omega, by iterate 2 ((all_goals (conv=>whnf));(repeat' (first|exact trivial|rfl|(refine nilEq ?_;first|rfl|(simp only [*];done)|(simp [*];done)|grind)|apply And.intro|((first|apply intEq|apply boolEq|apply strEq|apply psEq|apply nilEq|apply arrEq);(try simp only [Int.toNat_natCast,etas,elDef]);first | done | omega | grind | (simp only [*]; done) | (simp [*]; done)))));(all_goals ((try simp only [Int.toNat_natCast,etas,elDef]);first | done | omega | grind | (simp only [*]; done) | (simp [*]; done))), (by exact sgOk_of (by rfl))⟩
        simp only
        rw [he, show (q2 + 1).toNat = q2.toNat + 1 by omega]; exact hd
      · rename_i _ n1' n2' n3' n4' n5' q2 hq2 hr _ hno _ hno2
        dsimp only at hq2 hr
        rw [e5] at hr
        exact hK2 (rl_no3 rk_list hr (pre_not hno) (pre_not hno2)) q2 ⟨by omega, by omega⟩
      · rename_i _ hr n1' n2' n3' n4' n5' q2 hq2
        dsimp only at hq2 hr
        rw [e5] at hr
        exact hK2 (rl_no2 rk_list hr) q2 ⟨by omega, by omega⟩
  · have eC : ([125] : Bs).getD 0 0 = 125 := rfl
    rw [eC] at hK1 hK2
    have r1 := fun h => rp_yes (f := rdN (5 - lv).toNat) (k := 4) (c := 125) (t := t) (p := p.toNat) h
    have r2 := fun h => rp_no (f := rdN (5 - lv).toNat) (k := 4) (c := 125) (s := t.drop p.toNat) h
    have n1 : (p + 1).toNat = p.toNat + 1 := by omega
    conv => whnf
    repeat' first|((first|refine Cnd.mk (fun h=>?_) (fun h=>?_)|refine Gd.mk (fun h=>?_))<;>(try simp [etas,elDef,-List.getD_eq_getElem?_getD] at h)<;>conv=>whnf)|((first|refine Obl.mk (by first|omega|rfl|exact inK_byte _|(simp only [inK,Int.toNat_natCast,etas,elDef,m36,m18,m18]<;>first|omega|grind)|grind [inK,m36,m18,m18]) ?_|refine OblG.mk (by ((conv=>whnf);(repeat (first|refine Bx.mk ?_|(intro h;(try simp [etas,elDef,-List.getD_eq_getElem?_getD] at h);conv=>whnf)));(first|omega|rfl|exact inK_byte _|(simp only [inK,Int.toNat_natCast,etas,elDef,m36,m18,m18]<;>first|omega|grind)|grind [inK,m36,m18,m18]))) ?_|refine And.intro ?_ ?_)<;>conv=>whnf)|exact True.intro|(intro;conv=>whnf)
    · rename_i hpre hle
      exact hK1 _ _ _ _ _ (p + 1) ⟨by omega, by omega⟩ (by rw [r1 hpre, n1])
    rename_i hpre
    rw [r2 hpre] at hK1 hK2
    refine aloop_intro (List Bs × List Nd × Int) (fun q => (p ≤ q.2.2 ∧ q.2.2 ≤ t.length) ∧ q.1.length = q.2.1.length ∧ (q.2.1.length : Int) + p ≤ q.2.2 ∧ rdLoop (rdN (5 - lv).toNat) 4 125 [] [] (t.drop p.toNat) = rdLoop (rdN (5 - lv).toNat) 4 125 q.1 q.2.1 (t.drop q.2.2.toNat)) (fun q => (t.length - q.2.2).toNat) (fun q => []) (fun q => (10, .box [.int .i64 4, .int .i64 0, .str [], nlP .str q.1, nlV .node q.2.1]) :: (1000000, .box [.str t, .int .i64 q.2.2]) :: (nlQ .str q.1 ++ nlL .node q.2.1)) [8] ([], [], p) [] [] ?_ ?_ (by exact sgOk_of (by rfl)) ?_
    · exact ⟨⟨by simp only; omega, by simp only; omega⟩, rfl, by simp only [List.length_nil]; omega, rfl⟩
    · iterate 2 ((all_goals (conv=>whnf));(repeat' (first|exact trivial|rfl|(refine nilEq ?_;first|rfl|(simp only [*];done)|(simp [*];done)|grind)|apply And.intro|((first|apply intEq|apply boolEq|apply strEq|apply psEq|apply nilEq|apply arrEq);(try simp only [Int.toNat_natCast,etas,elDef]);first | done | omega | grind | (simp only [*]; done) | (simp [*]; done)))));(all_goals ((try simp only [Int.toNat_natCast,etas,elDef]);first | done | omega | grind | (simp only [*]; done) | (simp [*]; done)))
    rintro ⟨ns, ks, q⟩ ⟨hq, hnl, hl, he⟩
    dsimp only at hq hnl hl he
    rw [he] at hK1 hK2
    rcases ns with _ | ⟨n0, ns⟩ <;> rcases ks with _ | ⟨k0, ks⟩
    · skip
      conv => whnf
      repeat' first|((first|refine Cnd.mk (fun h=>?_) (fun h=>?_)|refine Gd.mk (fun h=>?_))<;>(try simp [etas,elDef,-List.getD_eq_getElem?_getD] at h)<;>conv=>whnf)|((first|refine Obl.mk (by first|omega|rfl|exact inK_byte _|(simp only [inK,Int.toNat_natCast,etas,elDef,m36,m18,m18]<;>first|omega|grind)|grind [inK,m36,m18,m18]) ?_|refine OblG.mk (by ((conv=>whnf);(repeat (first|refine Bx.mk ?_|(intro h;(try simp [etas,elDef,-List.getD_eq_getElem?_getD] at h);conv=>whnf)));(first|omega|rfl|exact inK_byte _|(simp only [inK,Int.toNat_natCast,etas,elDef,m36,m18,m18]<;>first|omega|grind)|grind [inK,m36,m18,m18]))) ?_|refine And.intro ?_ ?_)<;>conv=>whnf)|exact True.intro|(intro;conv=>whnf)
      · rename_i _ x q1 hq1 hxl hx _ hcol hle1 _ n1' n2' n3' n4' n5' q2 hq2 hr _ hpre hle
        dsimp only at hq1 hx
        have hp2 := (pre_one hpre).2
        have hk := rk_yes hx (pre_one hcol).2
        have eq1 : (q1 + ([58] : Bs).length).toNat = q1.toNat + 1 := by simp; omega
        rw [e5, eq1] at hr
        simp at hq2
        exact hK1 _ _ _ _ _ (q2 + 1) ⟨by omega, by omega⟩ (by rw [show (q2 + 1).toNat = q2.toNat + 1 by omega]; exact rl_done hk hr hp2)
      · rename_i _ x q1 hq1 hxl hx _ hcol hle1 _ n1' n2' n3' n4' n5' q2 hq2 hr _ hno _ hpre hle
        dsimp only at hq1 hx
        have hp1 := (pre_one hpre).1
        have hp2 := (pre_one hpre).2
        have hk := rk_yes hx (pre_one hcol).2
        have eq1 : (q1 + ([58] : Bs).length).toNat = q1.toNat + 1 := by simp; omega
        rw [e5, eq1] at hr
        simp at hq2
        have hd := rl_next (ns := ([] : List Bs)) (ks := ([] : List Nd)) (c := 125) hk hr hp2 (by decide) (by simp only [List.length_drop]; omega)
        refine ⟨(([] : List Bs) ++ [x], ([] : List Nd) ++ [⟨n1', n2', n3', n4', n5'⟩], q2 + 1), [(901, 40), (900, 56)], [], ⟨⟨by simp only; omega, by simp only; omega⟩, by simp only [List.length_append, List.length_singleton]; omega, by simp only [List.length_append, List.length_singleton]; simp at hl ⊢; omega, ?_⟩, by simp only; omega, by iterate 2 ((all_goals (conv=>whnf));(repeat' (first|exact trivial|rfl|(refine nilEq ?_;first|rfl|(simp only [*];done)|(simp [*];done)|grind)|apply And.intro|((first|apply intEq|apply boolEq|apply strEq|apply psEq|apply nilEq|apply arrEq);(try simp only [Int.toNat_natCast,etas,elDef]);first | done | omega | grind | (simp only [*]; done) | (simp [*]; done)))));(all_goals ((try simp only [Int.toNat_natCast,etas,elDef]);first | done | omega | grind | (simp only [*]; done) | (simp [*]; done))), (by exact sgOk_of (by rfl))⟩
        simp only
        rw [he, show (q2 + 1).toNat = q2.toNat + 1 by omega]; exact hd
      · rename_i _ x q1 hq1 hxl hx _ hcol hle1 _ n1' n2' n3' n4' n5' q2 hq2 hr _ hno _ hno2
        dsimp only at hq1 hx
        have hk := rk_yes hx (pre_one hcol).2
        have eq1 : (q1 + ([58] : Bs).length).toNat = q1.toNat + 1 := by simp; omega
        rw [e5, eq1] at hr
        simp at hq2
        exact hK2 (rl_no3 hk hr (pre_not hno) (pre_not hno2)) q2 ⟨by omega, by omega⟩
      · rename_i _ x q1 hq1 hxl hx _ hcol hle1 _ hr n1' n2' n3' n4' n5' q2 hq2
        dsimp only at hq1 hx
        have hk := rk_yes hx (pre_one hcol).2
        have eq1 : (q1 + ([58] : Bs).length).toNat = q1.toNat + 1 := by simp; omega
        rw [e5, eq1] at hr
        simp at hq2
        exact hK2 (rl_no2 hk hr) q2 ⟨by omega, by omega⟩
      · rename_i _ x q1 hq1 hxl hx _ hcol
        dsimp only at hq1 hx
        exact hK2 (rl_no1 (rk_no2 hx (pre_not hcol))) q1 ⟨by omega, by omega⟩
      · rename_i _ hx q1 hq1 _
        dsimp only at hq1 hx
        exact hK2 (rl_no1 (rk_no1 hx)) q1 ⟨by omega, by omega⟩
    · simp at hnl
    · simp at hnl
    · have hl8 : (n0 :: ns).length + [([] : Bs)].length ≤ 1073741824 := by rw [hnl]; simp at hl ⊢; omega
      have hl9 : (k0 :: ks).length + [(default : Nd)].length ≤ 1073741824 := by simp at hl ⊢; omega
      conv => whnf
      repeat' first|((first|refine Cnd.mk (fun h=>?_) (fun h=>?_)|refine Gd.mk (fun h=>?_))<;>(try simp [etas,elDef,-List.getD_eq_getElem?_getD] at h)<;>conv=>whnf)|((first|refine Obl.mk (by first|omega|rfl|exact inK_byte _|(simp only [inK,Int.toNat_natCast,etas,elDef,m36,m18,m18]<;>first|omega|grind)|grind [inK,m36,m18,m18]) ?_|refine OblG.mk (by ((conv=>whnf);(repeat (first|refine Bx.mk ?_|(intro h;(try simp [etas,elDef,-List.getD_eq_getElem?_getD] at h);conv=>whnf)));(first|omega|rfl|exact inK_byte _|(simp only [inK,Int.toNat_natCast,etas,elDef,m36,m18,m18]<;>first|omega|grind)|grind [inK,m36,m18,m18]))) ?_|refine And.intro ?_ ?_)<;>conv=>whnf)|exact True.intro|(intro;conv=>whnf)
      · rename_i _ x q1 hq1 hxl hx _ hcol hle1 _ n1' n2' n3' n4' n5' q2 hq2 hr _ hpre hle
        dsimp only at hq1 hx
        have hp2 := (pre_one hpre).2
        have hk := rk_yes hx (pre_one hcol).2
        have eq1 : (q1 + ([58] : Bs).length).toNat = q1.toNat + 1 := by simp; omega
        rw [e5, eq1] at hr
        simp at hq2
        exact hK1 _ _ _ _ _ (q2 + 1) ⟨by omega, by omega⟩ (by rw [show (q2 + 1).toNat = q2.toNat + 1 by omega]; exact rl_done hk hr hp2)
      · rename_i _ x q1 hq1 hxl hx _ hcol hle1 _ n1' n2' n3' n4' n5' q2 hq2 hr _ hno _ hpre hle
        dsimp only at hq1 hx
        have hp1 := (pre_one hpre).1
        have hp2 := (pre_one hpre).2
        have hk := rk_yes hx (pre_one hcol).2
        have eq1 : (q1 + ([58] : Bs).length).toNat = q1.toNat + 1 := by simp; omega
        rw [e5, eq1] at hr
        simp at hq2
        have hd := rl_next (ns := (n0 :: ns)) (ks := (k0 :: ks)) (c := 125) hk hr hp2 (by decide) (by simp only [List.length_drop]; omega)
        refine ⟨((n0 :: ns) ++ [x], (k0 :: ks) ++ [⟨n1', n2', n3', n4', n5'⟩], q2 + 1), [(901, 40), (900, 56)], [], ⟨⟨by simp only; omega, by simp only; omega⟩, by simp only [List.length_append, List.length_singleton]; omega, by simp only [List.length_append, List.length_singleton]; simp at hl ⊢; omega, ?_⟩, by simp only; omega, by iterate 2 ((all_goals (conv=>whnf));(repeat' (first|exact trivial|rfl|(refine nilEq ?_;first|rfl|(simp only [*];done)|(simp [*];done)|grind)|apply And.intro|((first|apply intEq|apply boolEq|apply strEq|apply psEq|apply nilEq|apply arrEq);(try simp only [Int.toNat_natCast,etas,elDef]);first | done | omega | grind | (simp only [*]; done) | (simp [*]; done)))));(all_goals ((try simp only [Int.toNat_natCast,etas,elDef]);first | done | omega | grind | (simp only [*]; done) | (simp [*]; done))), (by exact sgOk_of (by rfl))⟩
        simp only
        rw [he, show (q2 + 1).toNat = q2.toNat + 1 by omega]; exact hd
      · rename_i _ x q1 hq1 hxl hx _ hcol hle1 _ n1' n2' n3' n4' n5' q2 hq2 hr _ hno _ hno2
        dsimp only at hq1 hx
        have hk := rk_yes hx (pre_one hcol).2
        have eq1 : (q1 + ([58] : Bs).length).toNat = q1.toNat + 1 := by simp; omega
        rw [e5, eq1] at hr
        simp at hq2
        exact hK2 (rl_no3 hk hr (pre_not hno) (pre_not hno2)) q2 ⟨by omega, by omega⟩
      · rename_i _ x q1 hq1 hxl hx _ hcol hle1 _ hr n1' n2' n3' n4' n5' q2 hq2
        dsimp only at hq1 hx
        have hk := rk_yes hx (pre_one hcol).2
        have eq1 : (q1 + ([58] : Bs).length).toNat = q1.toNat + 1 := by simp; omega
        rw [e5, eq1] at hr
        simp at hq2
        exact hK2 (rl_no2 hk hr) q2 ⟨by omega, by omega⟩
      · rename_i _ x q1 hq1 hxl hx _ hcol
        dsimp only at hq1 hx
        exact hK2 (rl_no1 (rk_no2 hx (pre_not hcol))) q1 ⟨by omega, by omega⟩
      · rename_i _ hx q1 hq1 _
        dsimp only at hq1 hx
        exact hK2 (rl_no1 (rk_no1 hx)) q1 ⟨by omega, by omega⟩
noncomputable def E18 (k : Nat) : Ctx := mkE tab [(34, .gen .ps C34), (35, .gen .ps C35), (36, .gen .ps (Ck36 k)), (37, .gen .ps C37)]
noncomputable def O18 : Nat → List DI := ordL [(1, [.q 0, .q 1, .q 2, .q 3, .q 4, .q 5, .q 6, .q 7, .q 8, .q 9, .q 10, .q 11, .q 12, .q 13]), (3, [.q 0, .q 1, .q 2, .q 3, .q 4, .q 5, .q 6, .q 7, .q 8])]
theorem a18 (k : Nat) (t : Bs) (p : Int) (lv : Int) (hm : m18 t p lv < k + 1) (hb : BdAs [.ref [.str t, .int .i64 p], .int .i64 lv]) (K : AV → List AV → Prop) (h : c18 t p lv K) : abody (E18 k) O18 .ps Tryd.f18 (Tryd.f18.body.getD .skip) [.ref [.str t, .int .i64 p], .int .i64 lv] K := by
  simp only [BdAs, BdA, BdL, BdC, MX, ndC, shC, itC, stC, opC, chC, nwC, flC, rqC, rsC, enc, List.cons_append, List.nil_append, and_true, true_and] at hb
  unfold c18 at h
  unfold m18 at hm
  obtain ⟨⟨hp, hlv⟩, hK1, hK2⟩ := h
  have r0 := fun h => rn_out (d := (6 - lv).toNat) (t := t) (p := p.toNat) h
  have e6 : lv ≤ 5 → (6 - lv).toNat = (5 - lv).toNat + 1 := fun _ => by omega
  have n1 : (p + 1).toNat = p.toNat + 1 := by omega
  have n4 : (p + 4).toNat = p.toNat + 4 := by omega
  conv => whnf
  repeat' first|((first|refine Cnd.mk (fun h=>?_) (fun h=>?_)|refine Gd.mk (fun h=>?_))<;>(try simp [etas,elDef,-List.getD_eq_getElem?_getD] at h)<;>conv=>whnf)|((first|refine Obl.mk (by first|omega|rfl|exact inK_byte _|(simp only [inK,Int.toNat_natCast,etas,elDef,m36,m18,m36]<;>first|omega|grind)|grind [inK,m36,m18,m36]) ?_|refine OblG.mk (by ((conv=>whnf);(repeat (first|refine Bx.mk ?_|(intro h;(try simp [etas,elDef,-List.getD_eq_getElem?_getD] at h);conv=>whnf)));(first|omega|rfl|exact inK_byte _|(simp only [inK,Int.toNat_natCast,etas,elDef,m36,m18,m36]<;>first|omega|grind)|grind [inK,m36,m18,m36]))) ?_|refine And.intro ?_ ?_)<;>conv=>whnf)|exact True.intro|(intro;conv=>whnf)
  · exact hK2 (r0 (by omega)) _ _ _ _ _ p ⟨by omega, by omega⟩
  · rename_i hx hpre hle
    refine hK1 _ _ _ _ _ (p + 4) ⟨by omega, by simp at hle; omega⟩ ?_
    rw [e6 hx.1, n4]; exact rn_null (by omega) h hpre
  · rename_i hx hpre
    refine hK2 ?_ _ _ _ _ _ p ⟨by omega, by omega⟩
    rw [e6 hx.1]; exact rn_null0 (by omega) h hpre
  · rename_i hx h1 x q hq hxl hr
    refine hK1 _ _ _ _ _ q ⟨by omega, by omega⟩ ?_
    rw [e6 hx.1, rn_text (by omega) h, hr]; rfl
  · rename_i hx h1 hr q hq
    refine hK2 ?_ _ _ _ _ _ q hq
    rw [e6 hx.1, rn_text (by omega) h, hr]; rfl
  · rename_i hx h1 h2 n1' n2' n3' n4' n5' q hq hr
    refine hK1 _ _ _ _ _ q ⟨by omega, by omega⟩ ?_
    rw [n1] at hr
    rw [e6 hx.1, rn_list (by omega) h]; exact hr
  · rename_i hx h1 h2 hr q hq
    refine hK2 ?_ _ _ _ _ _ q ⟨by omega, by omega⟩
    rw [n1] at hr
    rw [e6 hx.1, rn_list (by omega) h]; exact hr
  · rename_i hx h1 h2 h3 n1' n2' n3' n4' n5' q hq hr
    refine hK1 _ _ _ _ _ q ⟨by omega, by omega⟩ ?_
    rw [n1] at hr
    rw [e6 hx.1, rn_map (by omega) h]; exact hr
  · rename_i hx h1 h2 h3 hr q hq
    refine hK2 ?_ _ _ _ _ _ q ⟨by omega, by omega⟩
    rw [n1] at hr
    rw [e6 hx.1, rn_map (by omega) h]; exact hr
  · rename_i hx h1 h2 h3 v q hq hr
    refine hK1 _ _ _ _ _ q hq ?_
    rw [e6 hx.1, rn_num (by omega) h1 h2 h3 h, hr]; rfl
  · rename_i hx h1 h2 h3 hr q hq
    refine hK2 ?_ _ _ _ _ _ q hq
    rw [e6 hx.1, rn_num (by omega) h1 h2 h3 h, hr]; rfl
theorem r36_18 : ∀ k, (CtrOK Tryd.prog 36 (.gen .ps (Ck36 k)) ∧ Callable Tryd.prog 36) ∧ (CtrOK Tryd.prog 18 (.gen .ps (Ck18 k)) ∧ Callable Tryd.prog 18) := by
  intro k
  induction k with
  | zero =>
    exact ⟨⟨fun args K h => by
        unfold Ck36 at h; split at h
        · exact absurd h.o (Nat.not_lt_zero _)
        · exact h.elim, callable Tryd.func36 rfl (by rfl)⟩, ⟨fun args K h => by
        unfold Ck18 at h; split at h
        · exact absurd h.o (Nat.not_lt_zero _)
        · exact h.elim, callable Tryd.func18 rfl (by rfl)⟩⟩
  | succ k ih =>
    refine ⟨?_, ?_⟩
    · refine gen_ok (E := E36 k) (mkE_cons ih.2 (mkE_cons s34 (mkE_cons s35 (mkE_nil tab_ok)))) mix (O := O36) (C := (Ck36 (k + 1))) (own := .ps) Tryd.func36 rfl (by rfl) (by kernel_rfl) (fun args K h hbd => ?_)
      unfold Ck36 at h; split at h
      case h_2 => exact h.elim
      exact ⟨Nat.le_of_ble_eq_true rfl, a36 k _ _ _ _ _ h.o (by exact hbd) _ h.k⟩
    · refine gen_ok (E := E18 k) (mkE_cons s34 (mkE_cons s35 (mkE_cons ih.1 (mkE_cons s37 (mkE_nil tab_ok))))) mix (O := O18) (C := (Ck18 (k + 1))) (own := .ps) Tryd.func18 rfl (by rfl) (by kernel_rfl) (fun args K h hbd => ?_)
      unfold Ck18 at h; split at h
      case h_2 => exact h.elim
      exact ⟨Nat.le_of_ble_eq_true rfl, a18 k _ _ _ h.o (by exact hbd) _ h.k⟩
theorem s18 : (CtrOK Tryd.prog 18 (.gen .ps C18) ∧ Callable Tryd.prog 18) := by
  refine ⟨fun args K h => ?_, (r36_18 0).2.2⟩
  unfold C18 at h; split at h
  · exact (r36_18 (m18 _ _ _ + 1)).2.1 _ K ⟨Nat.lt_succ_self _, h⟩
  · exact h.elim
end Go.Rs

