import Derived.Test.YtoailaifflbomaaCP
import Derived.Test.YtoailaifflbomaaCF
import Derived.Test.YtoailaifflbomaaFH
import Derived.Test.YtoailaifflbomaaEH
import Derived.Test.YtoailaifflbomaaIns
import Derived.Test.YtoailaifflbomaaMJ
import Derived.Shelf.Slices.CompactS
import Derived.Lib.AppendZeros
set_option linter.all false
set_option linter.unusedSimpArgs false
set_option linter.unusedVariables false
namespace Go.Proofs
open Go.Shelf
def Try.lays194_ren : Go.Shelf.Ren := ⟨fun | 194 => 98 | n => n, fun | 31 => 46 | 9 => 9 | 3 => 3 | 4 => 4 | 0 => 0 | n => n, fun | n => n⟩
theorem Try.lays194 : Go.Proofs.Lays.n194 Try.prog Try.lays194_ren := {
  mixed := by kernel_rfl
  f194 := Try.func98.trans (congrArg some (by kernel_rfl))
  t0 := Try.underlying0
  a0 := Try.isAgg0
  z0 := Try.sizeOf0
  v0 := Try.zeroValue0
  t3 := Try.underlying3
  a3 := Try.isAgg3
  z3 := Try.sizeOf3
  v3 := Try.zeroValue3
  t4 := Try.underlying4
  a4 := Try.isAgg4
  z4 := Try.sizeOf4
  v4 := Try.zeroValue4
  t9 := Try.underlying9
  a9 := Try.isAgg9
  z9 := Try.sizeOf9
  v9 := Try.zeroValue9
  t31 := Try.underlying46
  a31 := Try.isAgg46
  z31 := Try.sizeOf46
  v31 := Try.zeroValue46 }
end Go.Proofs
namespace Go.Rs
open Go.Proofs Go.RowKit Go.Sort
set_option maxRecDepth 100000
set_option maxHeartbeats 4000000
theorem put_heap {enc : Bs → Value} {w : World} {blk T : Nat} {xs : List Value} (hb : w.heap[blk]? = some (.cells xs.toArray T (0, 0))) (d : Array Bs) :
    (putRow enc w blk 0 d).heap[blk]? = some (.cells (putCells enc 0 d xs.toArray) T (0, 0)) ∧ (∀ k, k ≠ blk → (putRow enc w blk 0 d).heap[k]? = w.heap[k]?) := by
  unfold putRow mapBlock
  constructor
  · simp only [Array.getElem?_modify, hb, if_true, Option.map_some, onCells]
  · intro k hk
    simp [Array.getElem?_modify, Ne.symm hk]
theorem putC_len {enc : Bs → Value} {d : Array Bs} {xs : List Value} : (putCells enc 0 d xs.toArray).toList.length = xs.length := by simp [putCells]
theorem put_get {enc : Bs → Value} {d : Array Bs} {xs : List Value} {i : Nat} (h : i < d.size) (hx : i < xs.length) : (putCells enc 0 d xs.toArray).toList.getD i undef = enc d[i]! := by
  simp [putCells, List.getD_eq_getElem?_getD, hx, h]
theorem put_one {enc : Bs → Value} {d : Array Bs} {xs : List Value} (he : ∀ b, (enc b).oneCell' = true) (h : ∀ x ∈ xs, x.oneCell' = true) : ∀ x ∈ (putCells enc 0 d xs.toArray).toList, x.oneCell' = true := by
  intro x hx
  simp only [putCells, Array.toList_mapIdx, List.mem_mapIdx] at hx
  obtain ⟨i, hi, rfl⟩ := hx
  split
  · exact he _
  · exact h _ (List.getElem_mem hi)
theorem kcompact (l : List Bs) (hl : l.length ≤ 1000000) (w : World) (b cap T : Nat) (xs : List Value) (hc : l.length ≤ cap) (hb : w.heap[b]? = some (.cells xs.toArray T (0, 0))) (hx : xs.length = cap)
    (hr : ∀ i, i < l.length → xs.getD i undef = .string ⟨(l.getD i []).toArray⟩) :
    Calls Try.prog 98 #[.slice (some ⟨b, 0, none⟩) l.length cap] w fun e w' => e = .returned (.slice (some ⟨b, 0, none⟩) (Lib.compact l).length cap) ∧
      ∃ q d, d.size = l.length ∧ (∀ i, i < (Lib.compact l).length → d[i]! = (Lib.compact l).getD i []) ∧ w' = putRow encStr (Sort.ahead w q) b 0 d := by
  have hH : Holds encStr w b 0 l.toArray := by
    intro j hj
    simp only [List.size_toArray] at hj
    rw [arr_get hj, Nat.zero_add]
    refine ⟨?_, row_frozen hb _⟩
    rw [row_cell hb]
    have := hr j hj
    rw [List.getD_eq_getElem?_getD] at this
    rw [List.getElem?_eq_getElem (by omega)] at this ⊢
    exact congrArg some this
  refine (Any.slices_Compact_string Try.lays194 b 0 cap l w hH (by omega) hc).mono ?_
  rintro e w' ⟨rfl, q, rfl⟩
  have hcl := compact_len l
  refine ⟨rfl, q, _, by simp; omega, fun i hi => ?_, rfl⟩
  rw [arr_get (by simp; omega), List.getD_eq_getElem?_getD, List.getElem?_append_left hi, ← List.getD_eq_getElem?_getD]
noncomputable def c98 (l : List Bs) (K : AV → List AV → Prop) : Prop :=
    Obl (l.length ≤ 1000000 ∧ srt l l.length) (∀ r : List Bs, r.length ≤ l.length → ascS r → (∀ x, x ∈ r ↔ x ∈ l) → K (.own .str r) [])
noncomputable def C98 : List AV → (AV → List AV → Prop) → Prop
  | [.own .str l], K => c98 l K
  | _, _ => False
theorem s98 : CtrOK Try.prog 98 (.gen .ow C98) ∧ Callable Try.prog 98 := by
  refine ⟨fun args K h => ?_, callable Try.func98 rfl (by rfl)⟩
  unfold C98 at h
  split at h
  case h_2 => exact h.elim
  rename_i l
  unfold c98 at h
  obtain ⟨⟨hl, hs⟩, hK⟩ := h
  have hK := hK (Lib.compact l) (compact_len l) (compact_asc hs) fun x => compact_mem
  intro w γ S xs hi hn hf ht hsT
  cases hi with
  | cons h2 h3 =>
    cases h3
    cases h2 with
    | val h2 =>
      cases h2 with
      | cell h2 =>
        cases h2 with
        | per h2 _ => cases h2
        | own0 E a =>
          refine (Any.slices_Compact_string_empty Try.lays194 a 0 w).mono ?_
          rintro e w' ⟨rfl, rfl⟩
          exact ⟨_, [], _, γ, [], [], hK, rfl, .one (.cell (.own0 _ a)), .nil, by simp, ⟨rfl, rfl, rfl, Nat.le_refl _, fun _ _ _ => ⟨rfl, rfl⟩, hf, by simp⟩, by simp⟩
        | own E l b cap ys hM hc h0 hrow hyl hr =>
          obtain ⟨hg0, hone, T, hb⟩ := hrow
          have hrs : ∀ i, i < l.length → ys.getD i undef = .string ⟨(l.getD i []).toArray⟩ := fun i hi => by
            have := hr i hi 0 (by decide)
            simp only [esz, Nat.mul_one, Nat.add_zero] at this
            exact rep_str this
          refine (kcompact l hl w b cap T ys hc hb (by rw [hyl]; simp [esz]) hrs).mono ?_
          rintro e w' ⟨rfl, q, d, hd, hdg, rfl⟩
          have hcl := compact_len l
          obtain ⟨hp1, hp2⟩ := put_heap (enc := encStr) (w := Sort.ahead w q) hb d
          refine ⟨_, [], _, γ, [b], [], hK, rfl, .one (.cell (.own .str (Lib.compact l) b cap (putCells encStr 0 d ys.toArray).toList (by omega) (by omega) h0 ⟨hg0, put_one (fun _ => rfl) hone, T, ?_⟩ (by rw [putC_len, hyl]) fun i hi j hj => ?_)), .nil, by simp, ⟨rfl, rfl, rfl, by simp, fun k _ hk => ⟨?_, rfl⟩, fun k hk => hf k (by simpa using hk), fun k hk => ⟨Nat.le_refl _, fun o ho => ?_⟩⟩, by simp⟩
          · rw [hp1]
          · have ej : j = 0 := by simp only [esz] at hj; omega
            subst ej
            simp only [esz, Nat.mul_one, Nat.add_zero]
            have hM2 : ((Lib.compact l).getD i []).length ≤ MX := by
              have hmem := compact_mem.1 (getD_mem (d := ([] : Bs)) hi)
              obtain ⟨q', hq', hqe⟩ := List.getElem_of_mem hmem
              have hbd := (hr q' hq' 0 (by decide))
              simp only [esz, Nat.mul_one, Nat.add_zero] at hbd
              rw [hrs q' hq'] at hbd
              rw [← hqe, ← getD_get hq' []]
              have hbd2 : Rep noU noν γ w (.string ⟨(l.getD q' []).toArray⟩) (.str (l.getD q' [])) := hbd
              cases hbd2
              assumption
            rw [put_get (by omega) (by rw [hyl]; simp [esz]; omega), hdg i hi]
            exact .str _ hM2
          · exact hp2 k (by rintro rfl; exact hk (by simp))
          · have ek : k = b := by simpa using hk
            subst ek
            omega
theorem wpList_append_at {P : Program} {ops : Array Oper} {rest : List Oper} {o : Oper} {a : Act} {Q : Exit → Act → World → Prop} {w w' : World} {v' : Value} (hgd : o.guard = none) (sl x : Operand) (t u : TypeId)
    (ho : o.op = .call { callee := .builtin .append, args := #[sl, x], argTypes := #[t, u] }) (v y : Value) (hs : a.eval sl = v) (hx : a.eval x = y) (hr : ∀ ty, (Builtin.append_ #[t, u] ty #[v, y]).run P w = .ok v' w')
    (h : ∀ z, z = v' → wpList P ops Q rest (a.put o.dst z) w') : wpList P ops Q (o :: rest) a w := by
  refine wpList_plain hgd fun K hK => ?_
  unfold Oper.wp execOp
  simp only [ho, resolve, invoke, builtin, Sem.run_bind, Sem.run_pure, Result.andThen_ok, List.map_toArray, List.map_cons, List.map_nil, hs, hx, hr]
  exact hK _ _ (h _ rfl)
theorem info_at {t : Nat} {x} (h : (Try.prog.info? t).map (fun i => (i.zero, i.size, i.bytes)) = some x) : ∃ i, Try.prog.info? t = some i ∧ i.zero = x.1 ∧ i.size = x.2.1 ∧ i.bytes = x.2.2 := by
  obtain ⟨i, h1, rfl⟩ := Option.map_eq_some_iff.1 h
  exact ⟨i, h1, rfl, rfl, rfl⟩
theorem infS : (Try.prog.info? 9).map (fun i => (i.zero, i.size, i.bytes)) = some (some (.string ⟨#[]⟩), 1, 16) := by kernel_rfl
theorem tpSS : Try.prog.underlying 46 = some (.slice 9) := by kernel_rfl
theorem tpI : Try.prog.underlying 3 = some (.int .i64) := by kernel_rfl
theorem kgrow (n : Nat) (h0 : 0 < n) (hn : n ≤ 1000000) (w : World) :
    Calls Try.prog 118 #[.slice none 0 0, .int .i64 n] w fun e w' => ∃ (cap : Nat) (xs : List Value), n ≤ cap ∧ xs.length = cap ∧ (∀ x ∈ xs, x.oneCell' = true) ∧ e = .returned (.slice (some ⟨w.heap.size, 0, none⟩) 0 cap) ∧ w' = w.drew.alloc (.cells xs.toArray 9) := by
  obtain ⟨i8, hi8, hz8, hs8, hby8⟩ := info_at infS
  have hs8 : i8.size = 1 := hs8
  have hz8 : i8.zero = some (.string ⟨#[]⟩) := hz8
  have hby8 : i8.bytes = 16 := hby8
  have hrun := fun ty => Lib.run_append_nil_zeros (P := Try.prog) w 46 3 ty 9 i8 _ .i64 .i64 tpSS tpI hi8 hz8 n h0 (by rw [hs8]; decide) (by omega) (by rw [hby8]; omega)
  have hc : n ≤ grownCap w n 0 9 := by simp [grownCap, Question.cut]
  obtain ⟨xs, hxs⟩ : ∃ xs : List Value, xs.toArray = Builtin.zeroCells (Value.string ⟨#[]⟩).cells n ++ Builtin.zeroCells (Value.string ⟨#[]⟩).cells (grownCap w n 0 9 - n) := ⟨_, by rfl⟩
  rw [← hxs] at hrun
  generalize grownCap w n 0 9 = cap at *
  have hlt : ((0 : Int) < (n : Int)) := by omega
  go_enter Try.func118, Try.ntmps118
  go_wp2_with (at_builtin; refine wpList_append_at rfl _ _ _ _ rfl _ _ rfl rfl hrun ?_)
  go_ret
  have hz1 := zeroCells_one (z := (Value.string ⟨#[]⟩).cells) (by simp [Value.cells, Value.oneCell']) (by simp [Value.cells])
  refine ⟨cap, xs, hc, ?_, fun x hx => ?_, rfl, by rw [hxs]; rfl⟩
  · have := congrArg Array.size hxs
    simp [Builtin.zeroCells, Value.cells] at this
    omega
  · have hx2 : x ∈ (xs.toArray).toList := hx
    rw [hxs, Array.toList_append, List.mem_append] at hx2
    rcases hx2 with h | h
    · exact hz1 _ x h
    · exact hz1 _ x h
theorem kgrow0 (w : World) : Calls Try.prog 118 #[.slice none 0 0, .int .i64 0] w fun e w' => e = .returned (.slice none 0 0) ∧ w' = w := by
  go_enter Try.func118, Try.ntmps118
  go_wp2
  go_ret
  exact ⟨rfl, rfl⟩
noncomputable def c118 (n : Int) (K : AV → List AV → Prop) : Prop :=
    Obl (0 ≤ n ∧ n ≤ 1000000) (K (.own .str []) [])
noncomputable def C118 : List AV → (AV → List AV → Prop) → Prop
  | [.niln, .int .i64 n], K => c118 n K
  | _, _ => False
theorem s118 : CtrOK Try.prog 118 (.gen .ow C118) ∧ Callable Try.prog 118 := by
  refine ⟨fun args K h => ?_, callable Try.func118 rfl (by rfl)⟩
  unfold C118 at h
  split at h
  case h_2 => exact h.elim
  rename_i n
  unfold c118 at h
  obtain ⟨hn, hK⟩ := h
  intro w γ S xs hi hS hf ht hsT
  cases hi with
  | cons h2 h3 =>
    cases h3 with
    | cons h3 h4 =>
      cases h4
      obtain ⟨rfl, rfl⟩ := ia_int h3
      cases h2 with
      | val h2 =>
        cases h2 with
        | cell h2 =>
          cases h2 with
          | per h2 _ =>
            cases h2
            by_cases h0 : n = 0
            · subst h0
              refine (kgrow0 w).mono ?_
              rintro e w' ⟨rfl, rfl⟩
              exact ⟨_, [], _, γ, [], [], hK, rfl, .one (.cell (.own0 _ none)), .nil, by simp, ⟨rfl, rfl, rfl, Nat.le_refl _, fun _ _ _ => ⟨rfl, rfl⟩, hf, by simp⟩, by simp⟩
            · obtain ⟨m, rfl⟩ : ∃ m : Nat, n = m := ⟨n.toNat, by omega⟩
              refine (kgrow m (by omega) (by omega) w).mono ?_
              rintro e w' ⟨cap, ys, hc, hyl, hy1, rfl, rfl⟩
              refine ⟨_, [], _, γ, [w.heap.size], [], hK, rfl, .one (.cell (.own .str [] w.heap.size cap ys (by simp) (by simp) (by omega) ⟨hf _ (Nat.le_refl _), hy1, _, heap_alloc_new w.drew _⟩ (by rw [hyl]; simp [esz]) (by simp))), .nil, by simp, ⟨rfl, rfl, rfl, by simp, fun k hk _ => ⟨heap_alloc_old w.drew _ hk, rfl⟩, fun k hk => hf k (by simp at hk; omega), by simp⟩, by simp⟩
theorem flat_take {l : List (List Bs)} {i : Nat} (h : i < l.length) : (l.take (i + 1)).flatten = (l.take i).flatten ++ l.getD i [] := by
  rw [← take_snoc [] h, List.flatten_append]; simp
theorem flat_len {l : List (List Bs)} (h : ∀ x ∈ l, x.length ≤ 1000) : ∀ i, i ≤ l.length → (l.take i).flatten.length ≤ 1000 * i
  | 0, _ => by simp
  | i + 1, hi => by
    have ih := flat_len h i (by omega)
    rw [flat_take (by omega), List.length_append]
    have := h _ (getD_mem (d := ([] : List Bs)) (show i < l.length by omega))
    omega
def flL (l : List (List Bs)) (i : Nat) : Nat := (l.take i).flatten.length
theorem flL_succ {l : List (List Bs)} {i : Nat} (h : i < l.length) : flL l (i + 1) = flL l i + (l.getD i []).length := by unfold flL; rw [flat_take h, List.length_append]
noncomputable def c96 (l : List (List Bs)) (K : AV → List AV → Prop) : Prop :=
    Obl (l.length ≤ 10 ∧ ∀ x ∈ l, x.length ≤ 1000) (K (.own .str l.flatten) [])
noncomputable def C96 : List AV → (AV → List AV → Prop) → Prop
  | [.own .strs l], K => c96 l K
  | _, _ => False
noncomputable def E96 : Ctx := mkE tab [(118, .gen .ow C118)]
noncomputable def O96 : Nat → List DI := ordL []
theorem a96 (l : List (List Bs)) (hb : BdAs [.own .strs l]) (K : AV → List AV → Prop) (h : c96 l K) : abody E96 O96 .ow Try.f96 (Try.f96.body.getD .skip) [.own .strs l] K := by
  simp only [BdAs, BdA, BdL, BdC, MX, ndC, shC, itC, stC, opC, chC, nwC, flC, rqC, rsC, enc, List.cons_append, List.nil_append, and_true, true_and] at hb
  unfold c96 at h
  obtain ⟨⟨hl, hx⟩, hK⟩ := h
  conv => whnf
  repeat' first|((first|refine Cnd.mk (fun h=>?_) (fun h=>?_)|refine Gd.mk (fun h=>?_))<;>(try simp [etas,elDef,-List.getD_eq_getElem?_getD] at h)<;>conv=>whnf)|((first|refine Obl.mk (by first|omega|rfl|exact inK_byte _|(simp only [inK,Int.toNat_natCast,etas,elDef]<;>first|omega|grind)|grind [inK]) ?_|refine OblG.mk (by ((conv=>whnf);(repeat (first|refine Bx.mk ?_|(intro h;(try simp [etas,elDef,-List.getD_eq_getElem?_getD] at h);conv=>whnf)));(first|omega|rfl|exact inK_byte _|(simp only [inK,Int.toNat_natCast,etas,elDef]<;>first|omega|grind)|grind [inK]))) ?_|refine And.intro ?_ ?_)<;>conv=>whnf)|exact True.intro|(intro;conv=>whnf)
  refine aloop_intro Nat (fun k => k ≤ l.length ∧ True) (fun k => l.length - k) (fun k => [(11, .int .i64 k), (3, .int .i64 (flL l k : Int))]) (fun k => []) [1000000] 0 [] [] ?_ ?_ (by exact sgOk_of (by rfl)) ?_
  · first | (simp; done) | (simp; assumption)
  · iterate 2 ((all_goals (conv=>whnf));(repeat' (first|exact trivial|rfl|(refine nilEq ?_;first|rfl|(simp only [*];done)|(simp [*];done)|grind)|apply And.intro|((first|apply intEq|apply boolEq|apply strEq|apply psEq|apply nilEq|apply arrEq);(try simp only [Int.toNat_natCast,etas,elDef]);first | done | omega | grind | (simp only [*]; done) | (simp [*]; done)))));(all_goals ((try simp only [Int.toNat_natCast,etas,elDef]);first | done | omega | grind | (simp only [*]; done) | (simp [*]; done)))
  rintro i ⟨hi, hj⟩
  conv => whnf
  have e1 := fun h => flL_succ (l := l) (i := i) h
  have e2 : flL l i ≤ 1000 * i := flat_len hx i hi
  have e3 := fun (h : i < l.length) => hx _ (getD_mem (d := ([] : List Bs)) h)
  conv => whnf
  repeat' first|((first|refine Cnd.mk (fun h=>?_) (fun h=>?_)|refine Gd.mk (fun h=>?_))<;>(try simp [etas,elDef,-List.getD_eq_getElem?_getD] at h)<;>conv=>whnf)|((first|refine Obl.mk (by first|omega|rfl|exact inK_byte _|(simp only [inK,Int.toNat_natCast,etas,elDef]<;>first|omega|grind)|grind [inK]) ?_|refine OblG.mk (by ((conv=>whnf);(repeat (first|refine Bx.mk ?_|(intro h;(try simp [etas,elDef,-List.getD_eq_getElem?_getD] at h);conv=>whnf)));(first|omega|rfl|exact inK_byte _|(simp only [inK,Int.toNat_natCast,etas,elDef]<;>first|omega|grind)|grind [inK]))) ?_|refine And.intro ?_ ?_)<;>conv=>whnf)|exact True.intro|(intro;conv=>whnf)
  · exfalso; have := of_decide_eq_true h; omega
  · rename_i hil
    exact ⟨i + 1, [], [], ⟨by omega, trivial⟩, by omega, by iterate 2 ((all_goals (conv=>whnf));(repeat' (first|exact trivial|rfl|(refine nilEq ?_;first|rfl|(simp only [*];done)|(simp [*];done)|grind)|apply And.intro|((first|apply intEq|apply boolEq|apply strEq|apply psEq|apply nilEq|apply arrEq);(try simp only [Int.toNat_natCast,etas,elDef]);first | done | omega | (rw [e1 hil]; simp; done) | (rw [e1 hil]; omega)))));(all_goals ((try simp only [Int.toNat_natCast,etas,elDef]);first | done | omega | (rw [e1 hil]; simp; done) | (rw [e1 hil]; omega))), (by exact sgOk_of (by rfl))⟩
  · refine aloop_intro Nat (fun k => k ≤ l.length) (fun k => l.length - k) (fun k => [(27, .int .i64 k), (6, .ls 900)]) (fun k => [(900, .arr .str ((l.take k).flatten))]) [1000000] 0 [(900, 25000)] [] (Nat.zero_le _) ?_ (by exact sgOk_of (by rfl)) ?_
    · iterate 2 ((all_goals (conv=>whnf));(repeat' (first|exact trivial|rfl|(refine nilEq ?_;first|rfl|(simp only [*];done)|(simp [*];done)|grind)|apply And.intro|((first|apply intEq|apply boolEq|apply strEq|apply psEq|apply nilEq|apply arrEq);(try simp only [Int.toNat_natCast,etas,elDef]);first | done | omega | grind | (simp only [*]; done) | (simp [*]; done)))));(all_goals ((try simp only [Int.toNat_natCast,etas,elDef]);first | done | omega | grind | (simp only [*]; done) | (simp [*]; done)))
    rintro j hj2
    have f1 := fun h => flat_take (l := l) (i := j) h
    have f2 : (l.take j).flatten.length ≤ 1000 * j := flat_len hx j hj2
    have f3 := fun (h : j < l.length) => hx _ (getD_mem (d := ([] : List Bs)) h)
    conv => whnf
    repeat' first|((first|refine Cnd.mk (fun h=>?_) (fun h=>?_)|refine Gd.mk (fun h=>?_))<;>(try simp [etas,elDef,-List.getD_eq_getElem?_getD] at h)<;>conv=>whnf)|((first|refine Obl.mk (by first|omega|rfl|exact inK_byte _|(simp only [inK,Int.toNat_natCast,etas,elDef]<;>first|omega|grind)|grind [inK]) ?_|refine OblG.mk (by ((conv=>whnf);(repeat (first|refine Bx.mk ?_|(intro h;(try simp [etas,elDef,-List.getD_eq_getElem?_getD] at h);conv=>whnf)));(first|omega|rfl|exact inK_byte _|(simp only [inK,Int.toNat_natCast,etas,elDef]<;>first|omega|grind)|grind [inK]))) ?_|refine And.intro ?_ ?_)<;>conv=>whnf)|exact True.intro|(intro;conv=>whnf)
    · exact ⟨j + 1, [(900, 33)], [], by omega, by omega, by iterate 2 ((all_goals (conv=>whnf));(repeat' (first|exact trivial|rfl|(refine nilEq ?_;first|rfl|(simp only [*];done)|(simp [*];done)|grind)|apply And.intro|((first|apply intEq|apply boolEq|apply strEq|apply psEq|apply nilEq|apply arrEq);(try simp only [Int.toNat_natCast,etas,elDef]);first | done | omega | (rw [f1 h]; done) | (rw [f1 h]; simp; done)))));(all_goals ((try simp only [Int.toNat_natCast,etas,elDef]);first | done | omega | (rw [f1 h]; done) | (rw [f1 h]; simp; done))), (by exact sgOk_of (by rfl))⟩
    · exact leafV hK (by rw [List.take_of_length_le h])
theorem s96 : (CtrOK Try.prog 96 (.gen .ow C96) ∧ Callable Try.prog 96) := by
  refine gen_ok (E := E96) (mkE_cons s118 (mkE_nil tab_ok)) mix (O := O96) (C := C96) (own := .ow) Try.func96 rfl (by rfl) (by kernel_rfl) (fun args K h hbd => ?_)
  unfold C96 at h; split at h
  case h_2 => exact h.elim
  exact ⟨Nat.le_of_ble_eq_true rfl, a96 _ (by exact hbd) _ h⟩
end Go.Rs

