import Derived.Test.YtmgheiagnleeiaaDoorBr
import Derived.Test.YtmgheiagnleeiaaDoorMG
import Derived.SizedLaws
import Derived.ChangeArms
set_option linter.all false
section
/-! From a row's reading of its arguments to abstract values: trees of structs and slices. -/
namespace Go.Rs
open Go.RowKit
def topG (w : World) (b : Nat) : Nat := match w.heap[b]? with
  | some (.cells cs _ _) => cs.size
  | _ => 0
theorem topG_fresh {w : World} {b : Nat} (h : w.heap.size ≤ b) : topG w b = 0 := by
  unfold topG; rw [Array.getElem?_eq_none h]
theorem topG_cell {w : World} {b o : Nat} {v : Value} (h : w.cell? ⟨b, o, none⟩ = some v) : o < topG w b := by
  unfold World.cell? at h
  unfold topG
  simp only at h
  cases e : w.heap[b]? with
  | none => rw [e] at h; cases h
  | some x =>
    rw [e] at h
    cases x with
    | cells c t fr =>
      simp only [Option.isSome_none, Bool.false_eq_true, if_false] at h
      exact (Array.getElem?_eq_some_iff.1 h).1
    | _ => cases h
def Pc (w : World) (cs : List Value) (off : Nat) (vs : List AV) : Prop := ∀ j, j < vs.length → Rep noU noν (topG w) w (cs.getD (off + j) undef) (vs.getD j .opq)
theorem Pc.nil {w : World} {cs : List Value} {off : Nat} : Pc w cs off [] := fun j h => by simp at h
theorem Pc.app {w : World} {cs : List Value} {off : Nat} {a b : List AV} (h1 : Pc w cs off a) (h2 : Pc w cs (off + a.length) b) : Pc w cs off (a ++ b) := by
  intro j hj
  rcases Nat.lt_or_ge j a.length with h | h
  · have e : (a ++ b).getD j AV.opq = a.getD j .opq := by simp only [List.getD_eq_getElem?_getD, List.getElem?_append_left h]
    rw [e]; exact h1 j h
  · have e : (a ++ b).getD j AV.opq = b.getD (j - a.length) .opq := by simp only [List.getD_eq_getElem?_getD, List.getElem?_append_right h]
    have := h2 (j - a.length) (by simp at hj; omega)
    rw [show off + a.length + (j - a.length) = off + j by omega] at this
    rw [e]; exact this
section
variable {H : Type} {enc' : TypeId × Value → H} {P : Program} {w : World}
def Rd (enc' : TypeId × Value → H) (P : Program) (w : World) (t n : Nat) (V : List AV → Prop) : Prop :=
  ∀ cs x, DataW.trod enc' P w 0 (fun _ => true) true n t cs = some x → (∀ m ∈ DataW.weights P t x.1, m ≤ reachBytes) → ∃ vs, V vs ∧ cs.length = vs.length ∧ Pc w cs 0 vs
def fI (vs : List AV) : Prop := ∃ k, vs = [.int .i64 k]
def fS (vs : List AV) : Prop := ∃ k : Bs, vs = [.str k]
def fE (E : El) (vs : List AV) : Prop := ∃ x : ElT E, vs = Go.Rs.enc E x
def fL (E : El) (vs : List AV) : Prop := ∃ l : List (ElT E), vs = [.ps E l]
theorem Pc.one {x : Value} {v : AV} (h : Rep noU noν (topG w) w x v) : Pc w [x] 0 [v] := by
  intro j hj
  have : j = 0 := by simp at hj; omega
  subst this
  exact h
theorem rd_int {t n : Nat} (ht : P.underlying t = some (.int .i64)) : Rd enc' P w t n fI := by
  intro cs x h _
  obtain ⟨k, rfl, -, -⟩ := DataW.trod_int ht h
  exact ⟨_, ⟨k, rfl⟩, rfl, .one (.int _ _)⟩
theorem reach_MX {n : Nat} (h : n ≤ reachBytes) : n ≤ MX := by
  have := reachBytes_lt
  unfold MX; omega
theorem rd_str {t n : Nat} (ht : P.underlying t = some .string) : Rd enc' P w t n fS := by
  intro cs x h hw
  obtain ⟨s, rfl, rfl, -⟩ := DataW.trod_string ht h
  have h1 : s.data.toList.length ≤ MX := reach_MX (hw _ (by simp [DataW.weights]))
  have h2 := Rep.str (U := noU) (ν := noν) (γ := topG w) (w := w) s.data.toList h1
  exact ⟨_, ⟨s.data.toList, rfl⟩, rfl, .one h2⟩
theorem enc_one {E : El} {x : ElT E} {j : Nat} (hj : j < esz E) {y : Value} (h : Rep noU noν (topG w) w y ((Go.Rs.enc E x).getD j .opq)) : y.oneCell' = true := by
  have h0 : j < (Go.Rs.enc E x).length := by rw [enc_len]; exact hj
  have h1 : ∀ v ∈ Go.Rs.enc E x, (∀ cs, v ≠ .st cs) ∧ (∀ cs, v ≠ .tup cs) ∧ v ≠ .opq := by
    cases E <;> simp [Go.Rs.enc, ndC]
  have h2 : (Go.Rs.enc E x).getD j .opq ∈ Go.Rs.enc E x := by
    rw [List.getD_eq_getElem?_getD, List.getElem?_eq_getElem h0]; exact List.getElem_mem h0
  exact rep_one h (h1 _ h2).1 (h1 _ h2).2.1 (h1 _ h2).2.2
theorem weightsAll_mem {e : Nat} : ∀ {l : List (DataW H)} {d : DataW H} {m : Nat}, d ∈ l → m ∈ DataW.weights P e d → m ∈ DataW.weightsAll P e l
  | a :: l, d, m, hd, hm => by
    unfold DataW.weightsAll
    rcases List.mem_cons.1 hd with rfl | hd
    · exact List.mem_append_left _ hm
    · exact List.mem_append_right _ (weightsAll_mem hd hm)
theorem rd_sl {t e n : Nat} {E : El} (ht : P.underlying t = some (.slice e)) (hc : P.cellsOf e = esz E) (hb : 0 < P.bytesOf e) (he : ∀ m, m < n → Rd enc' P w e m (fE E)) : Rd enc' P w t n (fL E) := by
  intro cs x h hw
  rcases DataW.trod_slice ht h with ⟨rfl, -⟩ | ⟨a, len, cap, elems, rest, n', rfl, rfl, rfl, -, hlc, -, hlen, hel, -, -⟩
  · exact ⟨_, ⟨[], rfl⟩, rfl, .one (.ps E [] none 0 (fun _ => undef) (by simp) (by simp) (.inl rfl) (fun k hk => by simp at hk) (fun i hi => by simp at hi))⟩
  · simp only [DataW.weights, ht, List.mem_cons, List.mem_append, List.length_map] at hw
    have hM : len ≤ MX := by
      have h1 := reach_MX (hw _ (.inl rfl))
      have h2 : len * 1 ≤ (elems.length + rest.length) * P.bytesOf e := Nat.mul_le_mul (by omega) hb
      omega
    have key : ∀ i, ∃ q : List Value × ElT E, i < len → (q.1.length = esz E ∧ (∀ j, j < esz E → w.cell? ((a.add (i * esz E)).add j) = some (q.1.getD j undef)) ∧ ∀ j, j < esz E → Rep noU noν (topG w) w (q.1.getD j undef) ((Go.Rs.enc E q.2).getD j .opq)) := by
      intro i
      by_cases hi : i < len
      · have h1 := hel i hi
        have h2 : i < elems.length := by omega
        rw [List.getElem?_eq_getElem h2, hc] at h1
        obtain ⟨ci, hci, hti⟩ := Option.bind_eq_some_iff.1 h1
        have h3 := he n' (by omega) ci _ hti (fun m hm => hw m (.inr (.inl (weightsAll_mem (List.mem_map.2 ⟨_, List.getElem_mem h2, rfl⟩) hm))))
        obtain ⟨vs, ⟨y, rfl⟩, hl, hp⟩ := h3
        rw [enc_len] at hl
        obtain ⟨hb0, hl', hcell⟩ := World.cells?_some hci
        refine ⟨(ci, y), fun _ => ⟨hl, fun j hj => ?_, fun j hj => ?_⟩⟩
        · rw [hcell j (by omega), List.getD_eq_getElem?_getD, List.getElem?_eq_getElem (by omega)]; rfl
        · have := hp j (by rw [enc_len]; exact hj)
          rwa [Nat.zero_add] at this
      · exact ⟨([], elDef E), fun h => absurd h hi⟩
    obtain ⟨f, hf⟩ := Classical.axiomOfChoice key
    have hE := esz_pos E
    have hll : ((List.range len).map fun i => (f i).2).length = len := by simp
    have hget : ∀ i, i < len → ((List.range len).map fun i => (f i).2).getD i (elDef E) = (f i).2 := fun i hi => by
      rw [List.getD_eq_getElem?_getD, List.getElem?_map, List.getElem?_range hi]; rfl
    refine ⟨_, ⟨(List.range len).map fun i => (f i).2, rfl⟩, rfl, .one ?_⟩
    have hdm : ∀ k, k < len * esz E → k / esz E < len ∧ k % esz E < esz E ∧ k / esz E * esz E + k % esz E = k := fun k hk =>
      ⟨Nat.div_lt_of_lt_mul (by rw [Nat.mul_comm]; exact hk), Nat.mod_lt _ hE, by rw [Nat.mul_comm]; exact Nat.div_add_mod _ _⟩
    have := Rep.ps (U := noU) (ν := noν) (γ := topG w) (w := w) E ((List.range len).map fun i => (f i).2) (some a) cap (fun k => (f (k / esz E)).1.getD (k % esz E) undef) (by rw [hll]; exact hM) (by rw [hll]; exact hlc) ?_ ?_ ?_
    · rw [hll] at this; exact this
    · by_cases h0 : len = 0
      · left; subst h0; rfl
      · right
        have hc0 := (hf 0 (by omega)).2.1 0 hE
        obtain ⟨b, off, spot⟩ := a
        have hspot : spot = none := by simpa [Addr.add] using World.cell?_spot hc0
        subst hspot
        have hadd : ∀ i j, ((⟨b, off, none⟩ : Addr).add i).add j = ⟨b, off + (i + j), none⟩ := by
          intro i j
          have e : ∀ o k, (⟨b, o, none⟩ : Addr).add k = ⟨b, o + k, none⟩ := by
            intro o k
            unfold Addr.add
            split
            · rename_i h; subst h; rfl
            · rfl
          rw [e, e, Nat.add_assoc]
        have hcell : ∀ k, k < len * esz E → w.cell? ⟨b, off + k, none⟩ = some ((f (k / esz E)).1.getD (k % esz E) undef) := by
          intro k hk
          obtain ⟨h1, h2, h3⟩ := hdm k hk
          have := (hf _ h1).2.1 _ h2
          rwa [hadd, h3] at this
        refine ⟨b, off, rfl, ?_, fun k hk => hcell k (by rwa [hll] at hk)⟩
        rw [hll]
        have h5 : 0 < len * esz E := Nat.mul_pos (by omega) hE
        have := topG_cell (hcell (len * esz E - 1) (by omega))
        omega
    · intro k hk
      rw [hll] at hk
      obtain ⟨h1, h2, h3⟩ := hdm k hk
      exact enc_one h2 ((hf _ h1).2.2 _ h2)
    · intro i hi j hj
      rw [hll] at hi
      rw [hget i hi]
      have e1 : (i * esz E + j) / esz E = i := by
        rw [Nat.mul_comm, Nat.mul_add_div hE, Nat.div_eq_of_lt hj, Nat.add_zero]
      have e2 : (i * esz E + j) % esz E = j := by
        rw [Nat.mul_comm, Nat.mul_add_mod, Nat.mod_eq_of_lt hj]
      rw [e1, e2]
      exact (hf i hi).2.2 j hj
def AllV : List (List AV → Prop) → List AV → Prop
  | [], vs => vs = []
  | V :: Vs, vs => ∃ a b, vs = a ++ b ∧ V a ∧ AllV Vs b
abbrev FL := List (Nat × (List AV → Prop) × Nat)
def offs : FL → Nat → List (Nat × Nat)
  | [], _ => []
  | x :: L, o => (o, x.1) :: offs L (o + x.2.2)
def cellsL : FL → Nat
  | [] => 0
  | x :: L => x.2.2 + cellsL L
theorem offs_ty : ∀ (L : FL) (o : Nat), (offs L o).map (·.2) = L.map (·.1)
  | [], _ => rfl
  | x :: L, o => by simp [offs, offs_ty L]
def AllT (enc' : TypeId × Value → H) (P : Program) (w : World) (n : Nat) (cs : List Value) : FL → Nat → List (DataW H × List MemPlace) → Prop
  | [], _, ys => ys = []
  | x :: L, o, ys => ∃ y ys', ys = y :: ys' ∧ DataW.trod enc' P w 0 (fun _ => true) true n x.1 ((cs.drop o).take x.2.2) = some y ∧ AllT enc' P w n cs L (o + x.2.2) ys'
theorem allT_mk {n : Nat} {cs : List Value} : ∀ (fl : List Field) (L : FL) (o : Nat) (xs : List (DataW H × List MemPlace)), fl.map (fun f => (f.offset, f.type)) = offs L o → xs.length = fl.length → (∀ x ∈ L, P.cellsOf x.1 = x.2.2) →
    (∀ (i : Nat) (f : Field), fl[i]? = some f → DataW.trod enc' P w 0 (fun _ => true) true n f.type ((cs.drop f.offset).take (P.cellsOf f.type)) = xs[i]?) → AllT enc' P w n cs L o xs
  | [], [], _, xs, _, hl, _, _ => List.length_eq_zero_iff.1 hl
  | [], _ :: _, _, _, h, _, _, _ => by simp [offs] at h
  | _ :: _, [], _, _, h, _, _, _ => by simp [offs] at h
  | f :: fl, x :: L, o, xs, h, hl, hc, hx => by
    simp only [List.map_cons, offs, List.cons.injEq, Prod.mk.injEq] at h
    obtain ⟨⟨h1, h2⟩, h3⟩ := h
    cases xs with
    | nil => simp at hl
    | cons y ys =>
      refine ⟨y, ys, rfl, ?_, allT_mk fl L (o + x.2.2) ys h3 (by simpa using hl) (fun z hz => hc z (List.mem_cons_of_mem _ hz)) fun i g hg => ?_⟩
      · have := hx 0 f rfl
        rw [h1, h2, hc x (List.mem_cons_self ..)] at this
        exact this
      · exact hx (i + 1) g hg
theorem rd_allT {n : Nat} {cs : List Value} : ∀ (L : FL) (o : Nat) (ys : List (DataW H × List MemPlace)), AllT enc' P w n cs L o ys → cs.length = o + cellsL L → (∀ x ∈ L, Rd enc' P w x.1 n x.2.1) →
    (∀ m ∈ DataW.weightsEach P (L.map (·.1)) (ys.map (·.1)), m ≤ reachBytes) → ∃ vs, AllV (L.map (·.2.1)) vs ∧ vs.length = cellsL L ∧ Pc w cs o vs
  | [], _, _, _, _, _, _ => ⟨[], rfl, rfl, .nil⟩
  | x :: L, o, ys, h, hl, hR, hw => by
    obtain ⟨y, ys', rfl, h1, h2⟩ := h
    simp only [cellsL] at hl
    simp only [List.map_cons, DataW.weightsEach, List.mem_append] at hw
    obtain ⟨a, ha, hla, hpa⟩ := hR x (List.mem_cons_self ..) _ _ h1 (fun m hm => hw m (.inl hm))
    obtain ⟨b, hb, hlb, hpb⟩ := rd_allT L (o + x.2.2) ys' h2 (by omega) (fun z hz => hR z (List.mem_cons_of_mem _ hz)) (fun m hm => hw m (.inr hm))
    have e : a.length = x.2.2 := by rw [← hla, List.length_take, List.length_drop]; omega
    have hp : Pc w cs o a := by
      intro j hj
      have h5 := hpa j hj
      have e2 : ((cs.drop o).take x.2.2).getD (0 + j) undef = cs.getD (o + j) undef := by
        rw [Nat.zero_add, List.getD_eq_getElem?_getD, List.getElem?_take, if_pos (by omega), List.getElem?_drop, ← List.getD_eq_getElem?_getD]
      rwa [e2] at h5
    exact ⟨a ++ b, ⟨a, b, rfl, ha, hb⟩, by simp only [List.length_append, cellsL]; omega, hp.app (by rw [e]; exact hpb)⟩
def StT (P : Program) (t : Nat) (L : FL) : Prop := (∃ fs, P.underlying t = some (.struct fs) ∧ fs.toList.map (fun f => (f.offset, f.type)) = offs L 0) ∧ P.cellsOf t = cellsL L ∧ ∀ x ∈ L, P.cellsOf x.1 = x.2.2
theorem rd_st {t n : Nat} {L : FL} (h : StT P t L) (hR : ∀ m, m < n → ∀ x ∈ L, Rd enc' P w x.1 m x.2.1) : Rd enc' P w t n (AllV (L.map (·.2.1))) := by
  intro cs x hx hw
  obtain ⟨⟨fs, ht, hf⟩, hc, hcs⟩ := h
  obtain ⟨xs, m, rfl, rfl, hl, hlen, hg⟩ := DataW.trod_struct ht hx
  have hT := allT_mk (enc' := enc') (P := P) (w := w) (n := m) (cs := cs) fs.toList L 0 xs hf (by simpa using hlen) hcs (fun i f hi => hg i f (by simpa using hi))
  have e : fs.toList.map (·.type) = L.map (·.1) := by
    rw [← offs_ty L 0, ← hf, List.map_map]; rfl
  simp only [DataW.weights, ht, e] at hw
  obtain ⟨vs, h1, h2, h3⟩ := rd_allT L 0 xs hT (by omega) (hR m (by omega)) hw
  exact ⟨vs, h1, by omega, h3⟩
theorem Rd.mono {t n : Nat} {V V' : List AV → Prop} (h : Rd enc' P w t n V) (hV : ∀ vs, V vs → V' vs) : Rd enc' P w t n V' := fun cs x hx hw => by
  obtain ⟨vs, h1, h2⟩ := h cs x hx hw
  exact ⟨vs, hV vs h1, h2⟩
end
structure TyN (P : Program) (tI tS tSs tN tNs : Nat) : Prop where
  i : P.underlying tI = some (.int .i64)
  s : P.underlying tS = some .string
  ss : P.underlying tSs = some (.slice tS)
  n : StT P tN [(tI, fI, 1), (tI, fI, 1), (tS, fS, 1), (tSs, fL .str, 1), (tNs, fL .node, 1)]
  ns : P.underlying tNs = some (.slice tN)
  cs : P.cellsOf tS = 1
  bs : 0 < P.bytesOf tS
  bn : 0 < P.bytesOf tN
section
variable {H : Type} {enc' : TypeId × Value → H} {P : Program} {w : World} {tI tB tS tSs tN tNs : Nat}
theorem fE_str {vs : List AV} (h : fS vs) : fE .str vs := h
theorem rd_ss (h : TyN P tI tS tSs tN tNs) (n : Nat) : Rd enc' P w tSs n (fL .str) := rd_sl h.ss h.cs h.bs fun _ _ => (rd_str h.s).mono fun _ h => fE_str h
theorem rd_node (h : TyN P tI tS tSs tN tNs) (n : Nat) : Rd enc' P w tN n (fE .node) := by
  induction n using Nat.strongRecOn with
  | _ n ih =>
    refine (rd_st h.n fun m hm x hx => ?_).mono ?_
    · simp only [List.mem_cons, List.not_mem_nil, or_false] at hx
      rcases hx with rfl | rfl | rfl | rfl | rfl
      · exact rd_int h.i
      · exact rd_int h.i
      · exact rd_str h.s
      · exact rd_ss h m
      · exact rd_sl h.ns (by rw [h.n.2.1]; rfl) h.bn fun k hk => ih k (by omega)
    · rintro vs ⟨_, _, rfl, ⟨a, rfl⟩, _, _, rfl, ⟨b, rfl⟩, _, _, rfl, ⟨c, rfl⟩, _, _, rfl, ⟨d, rfl⟩, _, _, rfl, ⟨e, rfl⟩, rfl⟩
      exact ⟨(⟨a, b, c, d, e⟩ : Nd), rfl⟩
theorem rd_op (h : TyN P tI tS tSs tN tNs) {t : Nat} (ht : StT P t [(tI, fI, 1), (tSs, fL .str, 1), (tSs, fL .str, 1), (tN, fE .node, 5)]) (n : Nat) : Rd enc' P w t n (fE .opn) := by
  refine (rd_st ht fun m hm x hx => ?_).mono ?_
  · simp only [List.mem_cons, List.not_mem_nil, or_false] at hx
    rcases hx with rfl | rfl | rfl | rfl
    · exact rd_int h.i
    · exact rd_ss h m
    · exact rd_ss h m
    · exact rd_node h m
  · rintro vs ⟨_, _, rfl, ⟨a, rfl⟩, _, _, rfl, ⟨b, rfl⟩, _, _, rfl, ⟨c, rfl⟩, _, _, rfl, ⟨d, rfl⟩, rfl⟩
    exact ⟨(⟨a, b, c, d⟩ : Opn), by simp [Go.Rs.enc]⟩
theorem rd_ops (h : TyN P tI tS tSs tN tNs) {t ts : Nat} (ht : StT P t [(tI, fI, 1), (tSs, fL .str, 1), (tSs, fL .str, 1), (tN, fE .node, 5)]) (hts : P.underlying ts = some (.slice t)) (hb : 0 < P.bytesOf t) (n : Nat) : Rd enc' P w ts n (fL .opn) :=
  rd_sl hts (by rw [ht.2.1]; rfl) hb fun k _ => rd_op h ht k
theorem rd_req (h : TyN P tI tS tSs tN tNs) {tOs : Nat} (hOs : ∀ n, Rd enc' P w tOs n (fL .opn)) {t : Nat} (ht : StT P t [(tI, fI, 1), (tS, fS, 1), (tSs, fL .str, 1), (tSs, fL .str, 1), (tN, fE .node, 5), (tOs, fL .opn, 1)]) (n : Nat) : Rd enc' P w t n (fE .req) := by
  refine (rd_st ht fun m hm x hx => ?_).mono ?_
  · simp only [List.mem_cons, List.not_mem_nil, or_false] at hx
    rcases hx with rfl | rfl | rfl | rfl | rfl | rfl
    · exact rd_int h.i
    · exact rd_str h.s
    · exact rd_ss h m
    · exact rd_ss h m
    · exact rd_node h m
    · exact hOs m
  · rintro vs ⟨_, _, rfl, ⟨a, rfl⟩, _, _, rfl, ⟨b, rfl⟩, _, _, rfl, ⟨c, rfl⟩, _, _, rfl, ⟨d, rfl⟩, _, _, rfl, ⟨e, rfl⟩, _, _, rfl, ⟨f, rfl⟩, rfl⟩
    exact ⟨(⟨a, b, c, d, e, f⟩ : Req), by simp [Go.Rs.enc]⟩
/-! Bounds of texts. -/
theorem rep_bdT {U : Nat → Bool} {ν : Nat → Value} {γ : Nat → Nat} {x : Value} {l : List Bs} (h : Rep U ν γ w x (.ps .str l)) : ∀ s ∈ l, s.length ≤ 140737488355328 := by
  intro s hs
  obtain ⟨i, hi, rfl⟩ := List.getElem_of_mem hs
  cases h with
  | ps _ _ a cap c hM hc ha h1 hr =>
    have hg : l.getD i (elDef .str) = l[i] := by rw [List.getD_eq_getElem?_getD, List.getElem?_eq_getElem hi]; rfl
    have h3 := hr i hi 0 (by decide)
    rw [hg] at h3
    exact rep_str_le h3
theorem rep_bdN {U : Nat → Bool} {ν : Nat → Value} {γ : Nat → Nat} {x : Value} {v : AV} (h : Rep U ν γ w x v) : ∀ l : List Nd, v = .ps .node l → ∀ n ∈ l, bdN n := by
  induction h with
  | ps E l a cap c hM hc ha h1 hr ih =>
    intro l' e n hn
    cases e
    obtain ⟨i, hi, rfl⟩ := List.getElem_of_mem hn
    have hg : l'.getD i (elDef .node) = l'[i] := by rw [List.getD_eq_getElem?_getD, List.getElem?_eq_getElem hi]; rfl
    have h3 := hr i hi 3 (by decide)
    have h4 := ih i hi 4 (by decide)
    rw [hg] at h3 h4
    exact .mk (rep_bdT h3) (h4 _ rfl)
  | _ => intro l e; cases e
theorem rep_bdO {U : Nat → Bool} {ν : Nat → Value} {γ : Nat → Nat} {x : Value} {l : List Opn} (h : Rep U ν γ w x (.ps .opn l)) : ∀ y ∈ l, (∀ s ∈ y.path, s.length ≤ 140737488355328) ∧ (∀ s ∈ y.frm, s.length ≤ 140737488355328) ∧ bdN y.value := by
  intro n hn
  obtain ⟨i, hi, rfl⟩ := List.getElem_of_mem hn
  cases h with
  | ps _ _ a cap c hM hc ha h1 hr =>
    have hg : l.getD i (elDef .opn) = l[i] := by rw [List.getD_eq_getElem?_getD, List.getElem?_eq_getElem hi]; rfl
    have h0 := hr i hi 1 (by decide)
    have h2 := hr i hi 2 (by decide)
    have h3 := hr i hi 6 (by decide)
    have h4 := hr i hi 7 (by decide)
    rw [hg] at h0 h2 h3 h4
    exact ⟨rep_bdT h0, rep_bdT h2, .mk (rep_bdT h3) (rep_bdN h4 _ rfl)⟩
theorem pc_bdR {γ : Nat → Nat} {cs : List Value} {x : Req} (h : ∀ j, j < 10 → Rep noU noν γ w (cs.getD (0 + j) undef) ((enc .req x).getD j .opq)) : (∀ s ∈ x.want, s.length ≤ 140737488355328) ∧ (∀ s ∈ x.avoid, s.length ≤ 140737488355328) ∧ bdN x.body ∧
    ∀ o ∈ x.ops, (∀ s ∈ o.path, s.length ≤ 140737488355328) ∧ (∀ s ∈ o.frm, s.length ≤ 140737488355328) ∧ bdN o.value :=
  ⟨rep_bdT (h 2 (by omega)), rep_bdT (h 3 (by omega)), .mk (rep_bdT (h 7 (by omega))) (rep_bdN (h 8 (by omega)) _ rfl), rep_bdO (h 9 (by omega))⟩
/-! Arguments. -/
theorem ics_of : ∀ {cs : List Value} {vs : List AV}, cs.length = vs.length → (∀ j, j < vs.length → Rep noU noν (topG w) w (cs.getD j undef) (vs.getD j .opq)) → (∀ v ∈ vs, (∀ c, v ≠ .st c) ∧ (∀ c, v ≠ .tup c) ∧ v ≠ .opq) → ICs (topG w) w [] cs vs
  | [], [], _, _, _ => .nil
  | [], _ :: _, h, _, _ => by simp at h
  | _ :: _, [], h, _, _ => by simp at h
  | c :: cs, v :: vs, h, hr, hv => by
    have h1 := hv v (List.mem_cons_self ..)
    have h0 : Rep noU noν (topG w) w c v := hr 0 (by simp)
    exact .cons (S := []) (S' := []) (.per h0 (rep_one h0 h1.1 h1.2.1 h1.2.2)) (ics_of (by simpa using h) (fun j hj => hr (j + 1) (by simpa using hj)) fun x hx => hv x (List.mem_cons_of_mem _ hx))
theorem law_args {P : Program} {f : Nat} {C : List AV → (AV → List AV → Prop) → Prop} (hs : Snd P f C) {w : World} {xs : List Value} {args : List AV} (hi : IAs (topG w) w [] xs args)
    (hC : ∀ K : AV → List AV → Prop, K (.bool true) [] → C args K) (ht : Tabs w) : Calls P f xs.toArray w fun e w' => e = .returned (.bool true) ∧ Below w.heap.size w w' := by
  have := hs args (fun r rs => r = .bool true ∧ rs = []) (hC _ ⟨rfl, rfl⟩) w (topG w) _ _ hi (by simp) (fun b hb => topG_fresh hb) ht (by simp)
  refine this.mono fun e w' hh => ?_
  obtain ⟨r, rs, x, γ', Sr, Sq, ⟨rfl, rfl⟩, he, hir, -, -, hfr, -⟩ := hh
  have hx : Rep noU noν γ' w' x (.bool true) := scalar_rep (show Scalar (.bool true) from trivial) hir
  cases hx
  exact ⟨he, hfr.os, hfr.tape, hfr.output, hfr.size, fun k hk => (hfr.block k hk (by simp)).1⟩
end
end Go.Rs
end
