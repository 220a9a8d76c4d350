/- A checked evaluator of the model's code, part C. -/
import Derived.Test.YtmgheiagnleeiaaDoorFB
import Derived.Tactics
set_option linter.all false
section
namespace Go.Rs
variable {P : Program} {B : Base} {U U' U'' : Nat → Bool} {ν ν' ν'' : Nat → Value} {γ γ' γ'' : Nat → Nat} {w w' w'' : World} {L L' L'' : Locs}
def noU : Nat → Bool := fun _ => false
def noν : Nat → Value := fun _ => undef
def RowI (γ : Nat → Nat) (w : World) (b : Nat) (xs : List Value) : Prop := γ b = 0 ∧ (∀ x ∈ xs, x.oneCell' = true) ∧ ∃ T, w.heap[b]? = some (.cells xs.toArray T (0, 0))
theorem RowI.lt {b xs} (h : RowI γ w b xs) : b < w.heap.size := by
  obtain ⟨-, -, T, hb⟩ := h
  rcases Nat.lt_or_ge b w.heap.size with h | h
  · exact h
  · rw [Array.getElem?_eq_none h] at hb; cases hb
structure InnerI (γ : Nat → Nat) (w : World) (E : El) (l : List (ElT E)) (xs : List Value) (bss : Nat → List Nat) : Prop where
  deep : ∀ i, i < l.length → ∀ j, j < esz E → Deep w (xs.getD (i * esz E + j) undef) ((enc E (l.getD i (elDef E))).getD j .opq) (bss (i * esz E + j))
  nodup : (inn (l.length * esz E) bss).Nodup
  full : ∀ c ∈ inn (l.length * esz E) bss, full γ w c
theorem Inner.bare {E : El} {l : List (ElT E)} {xs bss} (h : Inner B γ w E l xs bss) : InnerI γ w E l xs bss := ⟨h.deep, h.nodup, fun c hc => (h.ok c hc).2⟩
theorem InnerI.inner {E : El} {l : List (ElT E)} {xs bss} (h : InnerI γ w E l xs bss) (ho : ∀ c ∈ inn (l.length * esz E) bss, B.ok c) : Inner B γ w E l xs bss := ⟨h.deep, h.nodup, fun c hc => ⟨ho c hc, h.full c hc⟩⟩
theorem InnerI.pos {E : El} {l : List (ElT E)} {xs bss} (h : InnerI γ w E l xs bss) : ∀ c ∈ inn (l.length * esz E) bss, 0 < γ c := fun c hc => by
  obtain ⟨i, j, hi, hj, h2⟩ := inn_ij hc
  exact (h.deep i hi j hj).pos h2 (h.full c hc)
theorem InnerI.keep {E : El} {l : List (ElT E)} {xs bss} (h : InnerI γ w E l xs bss) (hk : ∀ c ∈ inn (l.length * esz E) bss, w'.heap[c]? = w.heap[c]? ∧ γ' c = γ c) : InnerI γ' w' E l xs bss :=
  ⟨fun i hi j hj => (h.deep i hi j hj).keep fun c hc => (hk c (inn_mem.2 ⟨_, idx_lt hi hj, hc⟩)).1, h.nodup, fun c hc ys T fz hh => by rw [(hk c hc).2]; exact h.full c hc ys T fz (by rw [← (hk c hc).1]; exact hh)⟩
inductive IC (γ : Nat → Nat) (w : World) : List Nat → Value → AV → Prop
  | per {x v} (h : Rep noU noν γ w x v) (h1 : x.oneCell' = true) : IC γ w [] x v
  | own0 (E : El) (a : Option Addr) : IC γ w [] (.slice a 0 0) (.own E [])
  | own (E : El) (l : List (ElT E)) (b cap : Nat) (xs : List Value) (hM : l.length ≤ MX) (hc : l.length ≤ cap) (h0 : cap ≠ 0) (hrow : RowI γ w b xs) (hl : xs.length = cap * esz E)
      (hr : ∀ i, i < l.length → ∀ j, j < esz E → Rep noU noν γ w (xs.getD (i * esz E + j) undef) ((enc E (l.getD i (elDef E))).getD j .opq)) :
      IC γ w [b] (.slice (some ⟨b, 0, none⟩) l.length cap) (.own E l)
  | dp0 (E : El) (a : Option Addr) : IC γ w [] (.slice a 0 0) (.dp E [])
  | dp (E : El) (l : List (ElT E)) (b cap : Nat) (xs : List Value) (bss : Nat → List Nat) (hM : l.length ≤ MX) (hc : l.length ≤ cap) (h0 : cap ≠ 0) (hrow : RowI γ w b xs) (hl : xs.length = cap * esz E) (hin : InnerI γ w E l xs bss) :
      IC γ w (b :: inn (l.length * esz E) bss) (.slice (some ⟨b, 0, none⟩) l.length cap) (.dp E l)
  | wr (E : El) (l : List (ElT E)) (x : Value) (bs : List Nat) (hd : Deep w x (.ps E l) bs) (hn : bs.Nodup) (hz : ∀ c ∈ bs, γ c = 0) : IC γ w bs x (.wr E l)
theorem IC.one {S x v} (h : IC γ w S x v) : x.oneCell' = true := by
  cases h with
  | wr E l x bs hd => exact hd.one
  | per h h1 => exact h1
  | _ => rfl
inductive ICs (γ : Nat → Nat) (w : World) : List Nat → List Value → List AV → Prop
  | nil : ICs γ w [] [] []
  | cons {S S' x v xs vs} (h : IC γ w S x v) (h' : ICs γ w S' xs vs) : ICs γ w (S ++ S') (x :: xs) (v :: vs)
inductive IV (γ : Nat → Nat) (w : World) : List Nat → Value → AV → Prop
  | cell {S x v} (h : IC γ w S x v) : IV γ w S x v
  | st {S xs vs} (h : ICs γ w S xs vs) : IV γ w S (.agg xs.toArray) (.st vs)
inductive IVs (γ : Nat → Nat) (w : World) : List Nat → List Value → List AV → Prop
  | nil : IVs γ w [] [] []
  | cons {S S' x v xs vs} (h : IV γ w S x v) (h' : IVs γ w S' xs vs) : IVs γ w (S ++ S') (x :: xs) (v :: vs)
inductive IR (γ : Nat → Nat) (w : World) : List Nat → Value → AV → Prop
  | one {S x v} (h : IV γ w S x v) : IR γ w S x v
  | tup {S xs vs} (h : IVs γ w S xs vs) : IR γ w S (.tuple xs.toArray) (.tup vs)
  | ref {S xs vs} (b : Nat) (hrow : RowI γ w b xs) (h : ICs γ w S xs vs) : IR γ w (b :: S) (.pointer (some ⟨b, 0, none⟩)) (.ref vs)
inductive IA (γ : Nat → Nat) (w : World) : List Nat → Value → AV → Prop
  | val {S x v} (h : IV γ w S x v) : IA γ w S x v
  | ref {S xs vs} (b : Nat) (hrow : RowI γ w b xs) (h : ICs γ w S xs vs) : IA γ w (b :: S) (.pointer (some ⟨b, 0, none⟩)) (.ref vs)
  | rb0 (b : Nat) (s : Bs) (x : Value) (hrow : RowI γ w b [x, .slice none 0 0]) (hx : BX w b x) (hs : s = []) : IA γ w [b] (.pointer (some ⟨b, 0, none⟩)) (.rb s)
  | rb (b b' cap : Nat) (s : Bs) (x : Value) (xs : List Value) (hrow : RowI γ w b [x, .slice (some ⟨b', 0, none⟩) s.length cap]) (hx : BX w b x) (hne : BN w b' b)
      (hM : s.length ≤ MX) (h0 : cap ≠ 0) (hc : s.length ≤ cap) (hrow' : RowI γ w b' xs) (hl : xs.length = cap) (hr : ∀ i, i < s.length → xs.getD i undef = .int .u8 (s.getD i 0).toNat) : IA γ w [b, b'] (.pointer (some ⟨b, 0, none⟩)) (.rb s)
  | fn (f : Nat) (xs : List Value) (caps : List AV) (hl : xs.length = caps.length) (h : ∀ i, i < caps.length → Rep noU noν γ w (xs.getD i undef) (caps.getD i .opq)) : IA γ w [] (.func (.func f) #[] xs.toArray) (.fn f caps)
  | len {S x v} (h : IV γ w S x v) : IA γ w S x (.tup [v])
inductive IAs (γ : Nat → Nat) (w : World) : List Nat → List Value → List AV → Prop
  | nil : IAs γ w [] [] []
  | cons {S S' x v xs vs} (h : IA γ w S x v) (h' : IAs γ w S' xs vs) : IAs γ w (S ++ S') (x :: xs) (v :: vs)
def lentC : List AV → List Value → List Value
  | .own _ _ :: vs, x :: xs => x :: lentC vs xs
  | .dp _ _ :: vs, x :: xs => x :: lentC vs xs
  | .wr _ _ :: vs, x :: xs => x :: lentC vs xs
  | _ :: vs, _ :: xs => lentC vs xs
  | _, _ => []
def lentV : AV → Value → List Value
  | .own _ _, x => [x]
  | .dp _ _, x => [x]
  | .wr _ _, x => [x]
  | .st vs, .agg xs => lentC vs xs.toList
  | _, _ => []
def refVals : List AV → List Value → List Value
  | .ref _ :: as, x :: xs => x :: refVals as xs
  | .rb _ :: as, x :: xs => x :: refVals as xs
  | .tup [v] :: as, x :: xs => lentV v x ++ refVals as xs
  | _ :: as, _ :: xs => refVals as xs
  | _, _ => []
structure Fr (S : List Nat) (γ : Nat → Nat) (w : World) (γ' : Nat → Nat) (w' : World) : Prop where
  os : w'.os = w.os
  tape : w'.tape = w.tape
  output : w'.output = w.output
  size : w.heap.size ≤ w'.heap.size
  block : ∀ b, b < w.heap.size → b ∉ S → w'.heap[b]? = w.heap[b]? ∧ γ' b = γ b
  fresh : ∀ b, w'.heap.size ≤ b → γ' b = 0
  hold : ∀ b ∈ S, γ b ≤ γ' b ∧ ∀ o, o < γ b → w'.cell? ⟨b, o, none⟩ = w.cell? ⟨b, o, none⟩
def Snd (P : Program) (f : Nat) (C : List AV → (AV → List AV → Prop) → Prop) : Prop :=
  ∀ args K, C args K → ∀ w γ S xs, IAs γ w S xs args → S.Nodup → (∀ b, w.heap.size ≤ b → γ b = 0) → Tabs w → (∀ b ∈ S, isTab b = false) →
    Calls P f xs.toArray w fun e w' => ∃ r rs x γ' Sr Sq, K r rs ∧ e = .returned x ∧ IR γ' w' Sr x r ∧ IAs γ' w' Sq (refVals args xs) rs ∧ (Sr ++ Sq).Nodup ∧ Fr S γ w γ' w' ∧ ∀ b ∈ Sr ++ Sq, b ∈ S ∨ w.heap.size ≤ b
def Closed : AV → Prop
  | .int _ _ | .bool _ | .str _ | .ps _ _ | .nilp | .niln | .ifc _ | .opq | .ep _ _ _ _ => True
  | _ => False
theorem enc_closed (E : El) (x : ElT E) (j : Nat) : Closed ((enc E x).getD j .opq) := by
  have : ∀ v ∈ enc E x, Closed v := by cases E <;> simp [enc, ndC, Closed]
  rw [List.getD_eq_getElem?_getD]
  cases h : (enc E x)[j]? with
  | none => trivial
  | some v => exact this v (List.mem_of_getElem? h)
theorem Rep.closed {x v} (h : Rep U ν γ w x v) (hc : Closed v) : Rep U' ν' γ w x v := by
  induction h with
  | opq x => exact .opq x
  | int k n => exact .int k n
  | bool b => exact .bool b
  | str s hM => exact .str s hM
  | ps E l a cap c hM hcap ha h1 hr ih => exact .ps E l a cap c hM hcap ha h1 (fun i hi j hj => ih i hi j hj (enc_closed _ _ _))
  | nilp => exact .nilp
  | niln => exact .niln
  | ifc0 => exact .ifc0
  | ifc1 te pe => exact .ifc1 te pe
  | ep E l i off b o len cap hs h0 h1 ih => exact .ep E l i off b o len cap (ih trivial) h0 h1
  | _ => exact hc.elim
theorem RowI.of {b xs} (h : Row B γ w b xs) : RowI γ w b xs := ⟨h.2.1, h.2.2.1, h.2.2.2⟩
theorem Row.of {b xs} (h : RowI γ w b xs) (ho : B.ok b) : Row B γ w b xs := ⟨ho, h.1, h.2.1, h.2.2⟩
theorem IC.keep {S x v} (h : IC γ w S x v) (hk : Keeps γ w γ' w') (hS : ∀ b ∈ S, w'.heap[b]? = w.heap[b]? ∧ γ' b = γ b) : IC γ' w' S x v := by
  cases h with
  | per h h1 => exact .per (h.keep hk (fun _ h => h) (fun _ _ => rfl)) h1
  | own0 E a => exact .own0 E a
  | own E l b cap xs hM hc h0 hrow hl hr =>
    obtain ⟨e1, e2⟩ := hS b (by simp)
    obtain ⟨g0, h1, T, hb⟩ := hrow
    exact .own E l b cap xs hM hc h0 ⟨by rw [e2, g0], h1, T, by rw [e1, hb]⟩ hl (fun i hi j hj => (hr i hi j hj).keep hk (fun _ h => h) (fun _ _ => rfl))
  | dp0 E a => exact .dp0 E a
  | dp E l b cap xs bss hM hc h0 hrow hl hin =>
    obtain ⟨e1, e2⟩ := hS b (by simp)
    obtain ⟨g0, h1, T, hb⟩ := hrow
    exact .dp E l b cap xs bss hM hc h0 ⟨by rw [e2, g0], h1, T, by rw [e1, hb]⟩ hl (hin.keep fun c hc => hS c (by simp [hc]))
  | wr E l _ _ hd hn hz => exact .wr E l _ _ (hd.keep fun c hc => (hS c hc).1) hn (fun c hc => by rw [(hS c hc).2]; exact hz c hc)
theorem ICs.keep {S xs vs} (h : ICs γ w S xs vs) (hk : Keeps γ w γ' w') (hS : ∀ b ∈ S, w'.heap[b]? = w.heap[b]? ∧ γ' b = γ b) : ICs γ' w' S xs vs := by
  induction h with
  | nil => exact .nil
  | cons h _ ih => exact .cons (h.keep hk fun b hb => hS b (by simp [hb])) (ih fun b hb => hS b (by simp [hb]))
theorem IV.keep {S x v} (h : IV γ w S x v) (hk : Keeps γ w γ' w') (hS : ∀ b ∈ S, w'.heap[b]? = w.heap[b]? ∧ γ' b = γ b) : IV γ' w' S x v := by
  cases h with
  | cell h => exact .cell (h.keep hk hS)
  | st h => exact .st (h.keep hk hS)
theorem RowI.keep {b xs} (h : RowI γ w b xs) (hb : w'.heap[b]? = w.heap[b]? ∧ γ' b = γ b) : RowI γ' w' b xs := by
  obtain ⟨g0, h1, T, hh⟩ := h
  exact ⟨by rw [hb.2, g0], h1, T, by rw [hb.1, hh]⟩
theorem IA.keep {S x v} (h : IA γ w S x v) (hk : Keeps γ w γ' w') (hS : ∀ b ∈ S, w'.heap[b]? = w.heap[b]? ∧ γ' b = γ b) : IA γ' w' S x v := by
  cases h with
  | val h => exact .val (h.keep hk hS)
  | ref b hrow h => exact .ref b (hrow.keep (hS b (by simp))) (h.keep hk fun b hb => hS b (by simp [hb]))
  | rb0 b s x hrow hx hs => exact .rb0 b s x (hrow.keep (hS b (by simp))) (hx.keep (hS b (by simp)).1) hs
  | rb b b' cap s x xs hrow hx hne hM h0 hc hrow' hl hr => exact .rb b b' cap s x xs (hrow.keep (hS b (by simp))) (hx.keep (hS b (by simp)).1) (hne.keep (hS b' (by simp)).1) hM h0 hc (hrow'.keep (hS b' (by simp))) hl hr
  | fn f xs caps hl h => exact .fn f xs caps hl fun i hi => (h i hi).keep hk (fun _ h => h) (fun _ _ => rfl)
  | len h => exact .len (h.keep hk hS)
theorem IAs.keep {S xs vs} (h : IAs γ w S xs vs) (hk : Keeps γ w γ' w') (hS : ∀ b ∈ S, w'.heap[b]? = w.heap[b]? ∧ γ' b = γ b) : IAs γ' w' S xs vs := by
  induction h with
  | nil => exact .nil
  | cons h _ ih => exact .cons (h.keep hk fun b hb => hS b (by simp [hb])) (ih fun b hb => hS b (by simp [hb]))
theorem give_sound (hl : LocsOK B U ν γ w L) {x v v'} (hr : Rep U ν γ w x v) (h1 : x.oneCell' = true) (hp : give L v = some (v', L')) :
    ∃ S, IC γ w S x v' ∧ LocsOK B U ν γ w L' ∧ Given B ν w γ L L' S := by
  have per : Closed v → give L v = some (v, L) → ∃ S, IC γ w S x v' ∧ LocsOK B U ν γ w L' ∧ Given B ν w γ L L' S := by
    intro hc he
    rw [he] at hp
    simp only [Option.some.injEq, Prod.mk.injEq] at hp; obtain ⟨rfl, rfl⟩ := hp
    exact ⟨[], .per (hr.closed hc) h1, hl, .nil⟩
  cases v with
  | int k n => exact per trivial rfl
  | bool b => exact per trivial rfl
  | str b => exact per trivial rfl
  | ps E l => exact per trivial rfl
  | nilp => exact per trivial rfl
  | ifc b => exact per trivial rfl
  | niln => exact per trivial rfl
  | nils E =>
    simp only [give, Option.some.injEq, Prod.mk.injEq] at hp; obtain ⟨rfl, rfl⟩ := hp
    cases hr
    exact ⟨[], .own0 E none, hl, .nil⟩
  | ls id =>
    simp only [give] at hp
    cases hr
    split at hp
    · rename_i E l hid
      simp only [Option.some.injEq, Prod.mk.injEq] at hp; obtain ⟨rfl, rfl⟩ := hp
      obtain ⟨a, cap, e, hMX, hc, harr⟩ := hl.ok _ _ hid
      have hsub : ∀ j c, upd L id none j = some c → ∃ c0, L j = some c0 ∧ ∀ b, Owns ν w j c b → Owns ν w j c0 b := by
        intro j c hj
        rcases upd_cases hj with ⟨_, h⟩ | ⟨_, h⟩
        · cases h
        · exact ⟨c, h, fun _ h => h⟩
      by_cases hz : cap = 0
      · have hl0 : l = [] := List.length_eq_zero_iff.1 (by omega)
        subst hl0
        refine ⟨[], ?_, hl.drop id, ⟨hsub, by simp, by simp, by simp, .nil⟩⟩
        rw [e, hz]; exact .own0 E a
      · rcases harr with h | ⟨b, xs, rfl, hrow, hlen, hrep⟩
        · exact absurd h hz
        · have hown : Owns ν w id (.arr E l) b := ⟨_, _, e, hz⟩
          refine ⟨[b], ?_, hl.drop id, ⟨hsub, ?_, ?_, ?_, by simp⟩⟩
          · rw [e]; exact .own E l b cap xs hMX hc hz (.of hrow) hlen (fun i hi j hj => (hrep i hi j hj).closed (enc_closed _ _ _))
          · intro b' hb'; simp at hb'; subst hb'; exact ⟨id, _, hid, hown⟩
          · intro b' hb' j c hj ho
            simp at hb'; subst hb'
            rcases upd_cases hj with ⟨_, h⟩ | ⟨hne, h⟩
            · cases h
            · exact hne (hl.apart j id c _ b' h hid ho hown)
          · intro b' hb'; simp at hb'; subst hb'; exact hrow.1
    · rename_i E l hid
      simp only [Option.some.injEq, Prod.mk.injEq] at hp; obtain ⟨rfl, rfl⟩ := hp
      exact ⟨[], .per (Rep.closed (hl.ok _ _ hid) trivial) h1, hl, .nil⟩
    · rename_i E l hid
      simp only [Option.some.injEq, Prod.mk.injEq] at hp; obtain ⟨rfl, rfl⟩ := hp
      obtain ⟨a, cap, e, hMX, hc, harr⟩ := hl.ok _ _ hid
      have hsub : ∀ j c, upd L id none j = some c → ∃ c0, L j = some c0 ∧ ∀ b, Owns ν w j c b → Owns ν w j c0 b := by
        intro j c hj
        rcases upd_cases hj with ⟨_, h⟩ | ⟨_, h⟩
        · cases h
        · exact ⟨c, h, fun _ h => h⟩
      by_cases hz : cap = 0
      · have hl0 : l = [] := List.length_eq_zero_iff.1 (by omega)
        subst hl0
        refine ⟨[], ?_, hl.drop id, ⟨hsub, by simp, by simp, by simp, .nil⟩⟩
        rw [e, hz]; exact .dp0 E a
      · rcases harr with h | ⟨b, xs, bss, rfl, hrow, hlen, hin⟩
        · exact absurd h hz
        · have hown : ∀ c ∈ b :: inn (l.length * esz E) bss, Owns ν w id (.tree E l) c := by
            intro c hc'
            rcases List.mem_cons.1 hc' with rfl | hc'
            · exact .inl ⟨_, _, e, hz⟩
            · exact hin.owns e hMX hc hrow hlen c hc'
          refine ⟨b :: inn (l.length * esz E) bss, ?_, hl.drop id, ⟨hsub, fun c hc' => ⟨id, _, hid, hown c hc'⟩, ?_, ?_, ?_⟩⟩
          · rw [e]; exact .dp E l b cap xs bss hMX hc hz (.of hrow) hlen hin.bare
          · intro b' hb' j c hj ho
            rcases upd_cases hj with ⟨_, h⟩ | ⟨hne, h⟩
            · cases h
            · exact hne (hl.apart j id c _ b' h hid ho (hown b' hb'))
          · intro c hc'
            rcases List.mem_cons.1 hc' with rfl | hc'
            · exact hrow.1
            · exact (hin.ok c hc').1
          · refine List.nodup_cons.2 ⟨fun h => ?_, hin.nodup⟩
            have := hin.bare.pos b h
            have := hrow.2.1
            omega
    · rename_i E l hid
      simp only [Option.some.injEq, Prod.mk.injEq] at hp; obtain ⟨rfl, rfl⟩ := hp
      obtain ⟨bs, hd, hn, hz⟩ := hl.ok _ _ hid
      have hsub : ∀ j c, upd L id none j = some c → ∃ c0, L j = some c0 ∧ ∀ b, Owns ν w j c b → Owns ν w j c0 b := by
        intro j c hj
        rcases upd_cases hj with ⟨_, h⟩ | ⟨_, h⟩
        · cases h
        · exact ⟨c, h, fun _ h => h⟩
      refine ⟨bs, .wr E l _ bs hd hn fun c hc => (hz c hc).2, hl.drop id, ⟨hsub, fun c hc' => ⟨id, _, hid, ⟨bs, hd, hc'⟩⟩, ?_, fun c hc => (hz c hc).1, hn⟩⟩
      intro b' hb' j c hj ho
      rcases upd_cases hj with ⟨_, h⟩ | ⟨hne, h⟩
      · cases h
      · exact hne (hl.apart j id c _ b' h hid ho ⟨bs, hd, hb'⟩)
    · cases hp
  | _ => simp [give] at hp
theorem giveL_sound : ∀ (vs vs' : List AV) (xs : List Value) (L L' : Locs), LocsOK B U ν γ w L → CellsIs U ν γ w xs vs → giveL L vs = some (vs', L') →
    ∃ S, ICs γ w S xs vs' ∧ LocsOK B U ν γ w L' ∧ Given B ν w γ L L' S
  | [], vs', xs, L, L', hl, hr, hp => by
    simp only [giveL, Option.some.injEq, Prod.mk.injEq] at hp; obtain ⟨rfl, rfl⟩ := hp
    have : xs = [] := List.length_eq_zero_iff.1 hr.len
    subst this
    exact ⟨[], .nil, hl, .nil⟩
  | v :: r, vs', xs, L, L', hl, hr, hp => by
    simp only [giveL] at hp
    split at hp
    · rename_i v' L1 h1
      split at hp
      · rename_i r' L2 h2
        simp only [Option.some.injEq, Prod.mk.injEq] at hp; obtain ⟨rfl, rfl⟩ := hp
        cases xs with
        | nil => exact absurd hr.len (by simp)
        | cons x xs =>
          have hv := hr.rep 0 (by simp)
          simp at hv
          obtain ⟨S1, hc1, hl1, hg1⟩ := give_sound hl hv (hr.one x (by simp)) h1
          have hr1 : CellsIs U ν γ w xs r := ⟨by have := hr.len; simp at this; exact this, fun y hy => hr.one y (by simp [hy]), fun i hi => by
            have := hr.rep (i + 1) (by simpa using hi)
            simpa using this⟩
          obtain ⟨S2, hc2, hl2, hg2⟩ := giveL_sound r r' xs L1 L2 hl1 hr1 h2
          exact ⟨S1 ++ S2, .cons hc1 hc2, hl2, hg1.trans hg2⟩
      · cases hp
    · cases hp
theorem rep_one {x v} (h : Rep U ν γ w x v) (hs : ∀ cs, v ≠ .st cs) (ht : ∀ cs, v ≠ .tup cs) (ho : v ≠ .opq) : x.oneCell' = true := by
  cases h <;> first | rfl | assumption | exact absurd rfl (hs _) | exact absurd rfl (ht _) | exact absurd rfl ho
theorem giveS_sound (hl : LocsOK B U ν γ w L) {x v v'} (hr : Rep U ν γ w x v) (hp : giveS L v = some (v', L')) :
    ∃ S, IV γ w S x v' ∧ LocsOK B U ν γ w L' ∧ Given B ν w γ L L' S := by
  unfold giveS at hp
  split at hp
  · rename_i cs
    split at hp
    · rename_i cs' L1 h1
      simp only [Option.some.injEq, Prod.mk.injEq] at hp; obtain ⟨rfl, rfl⟩ := hp
      cases hr with
      | st xs _ hl' h1' hr =>
        obtain ⟨S, hc, h2, h3⟩ := giveL_sound cs cs' xs L L1 hl ⟨hl', h1', hr⟩ h1
        exact ⟨S, .st hc, h2, h3⟩
    · cases hp
  · rename_i v hv
    obtain ⟨S, h1, h2, h3⟩ := give_sound hl hr (rep_one hr (fun cs e => hv cs e) (by rintro cs rfl; simp [give] at hp) (by rintro rfl; simp [give] at hp)) hp
    exact ⟨S, .cell h1, h2, h3⟩
theorem persist_closed {v v'} (hp : persist L v = some (v', L')) : Closed v' ∧ (∀ cs, v ≠ .st cs) ∧ (∀ cs, v ≠ .tup cs) ∧ v ≠ .opq := by
  unfold persist at hp
  split at hp <;> (try split at hp) <;> cases hp <;> simp [Closed]
theorem ICs.of_cells : ∀ {xs : List Value} {vs : List AV}, CellsIs U ν γ w xs vs → (∀ v ∈ vs, Closed v) → ICs γ w [] xs vs
  | [], [], _, _ => .nil
  | [], _ :: _, h, _ => absurd h.len (by simp)
  | _ :: _, [], h, _ => absurd h.len (by simp)
  | x :: xs, v :: vs, h, hc => by
    have hv := h.rep 0 (by simp)
    simp at hv
    exact ICs.cons (S := []) (S' := []) (.per (hv.closed (hc v (by simp))) (h.one x (by simp))) (ICs.of_cells ⟨by have := h.len; simp at this; exact this, fun y hy => h.one y (by simp [hy]), fun i hi => by
      have := h.rep (i + 1) (by simpa using hi)
      simpa using this⟩ (fun v hv => hc v (by simp [hv])))
theorem persistL_closed : ∀ (vs vs' : List AV) (L L' : Locs), persistL L vs = some (vs', L') → ∀ v ∈ vs', Closed v
  | [], vs', L, L', hp => by simp only [persistL, Option.some.injEq, Prod.mk.injEq] at hp; obtain ⟨rfl, rfl⟩ := hp; simp
  | v :: r, vs', L, L', hp => by
    simp only [persistL] at hp
    split at hp
    · rename_i v' L1 h1
      split at hp
      · rename_i r' L2 h2
        simp only [Option.some.injEq, Prod.mk.injEq] at hp; obtain ⟨rfl, rfl⟩ := hp
        intro u hu
        simp at hu
        rcases hu with rfl | hu
        · exact (persist_closed h1).1
        · exact persistL_closed r r' L1 L2 h2 u hu
      · cases hp
    · cases hp
theorem persistS_given (hm : Mem B γ w) (hl : LocsOK B U ν γ w L) {x v v'} (hr : Rep U ν γ w x v) (hp : persistS L v = some (v', L')) :
    ∃ γ', Frz B U ν γ w L γ' L' ∧ IV γ' w [] x v' := by
  obtain ⟨γ', hf, hr'⟩ := persistS_frz hm hl hr hp
  refine ⟨γ', hf, ?_⟩
  unfold persistS at hp
  split at hp
  · rename_i cs
    split at hp
    · rename_i cs' L1 h1
      simp only [Option.some.injEq, Prod.mk.injEq] at hp; obtain ⟨rfl, rfl⟩ := hp
      cases hr' with
      | st xs _ hl' h1' hr' => exact .st (.of_cells ⟨hl', h1', hr'⟩ (persistL_closed _ _ _ _ h1))
    · cases hp
  · obtain ⟨h1, h2, h3, h4⟩ := persist_closed hp
    exact .cell (.per (hr'.closed h1) (rep_one hr h2 h3 h4))
end Go.Rs
end
section
namespace Go.Rs
variable {P : Program} {B : Base} {U U' U'' : Nat → Bool} {ν ν' ν'' : Nat → Value} {γ γ' γ'' : Nat → Nat} {w w' w'' : World} {L L' L'' : Locs}
theorem give_box {v v'} (h : give L v = some (v', L')) {id c} (hid : L id = some c) (hc : ∀ E l, c ≠ .arr E l ∧ c ≠ .tree E l ∧ c ≠ .raw E l) : L' id = some c := by
  unfold give at h
  split at h
  · rename_i j
    split at h
    · rename_i E l hj
      cases h
      rw [upd_ne _ _ (by rintro rfl; rw [hid] at hj; cases hj; exact (hc _ _).1 rfl)]; exact hid
    · cases h; exact hid
    · rename_i E l hj
      cases h
      rw [upd_ne _ _ (by rintro rfl; rw [hid] at hj; cases hj; exact (hc _ _).2.1 rfl)]; exact hid
    · rename_i E l hj
      cases h
      rw [upd_ne _ _ (by rintro rfl; rw [hid] at hj; cases hj; exact (hc _ _).2.2 rfl)]; exact hid
    · cases h
  all_goals first | (cases h; exact hid) | cases h
theorem giveL_box : ∀ {vs vs' : List AV} {L L' : Locs}, giveL L vs = some (vs', L') → ∀ {id c}, L id = some c → (∀ E l, c ≠ .arr E l ∧ c ≠ .tree E l ∧ c ≠ .raw E l) → L' id = some c
  | [], vs', L, L', hp, id, c, hid, hc => by simp only [giveL, Option.some.injEq, Prod.mk.injEq] at hp; obtain ⟨rfl, rfl⟩ := hp; exact hid
  | v :: r, vs', L, L', hp, id, c, hid, hc => by
    simp only [giveL] at hp
    split at hp
    · rename_i v' L1 h1
      split at hp
      · rename_i r' L2 h2
        simp only [Option.some.injEq, Prod.mk.injEq] at hp; obtain ⟨rfl, rfl⟩ := hp
        exact giveL_box h2 (give_box h1 hid hc) hc
      · cases hp
    · cases hp
def ArgRel : AV → AV → Prop
  | .lp _ off, .ref _ => off = 0
  | .lp _ off, .rb _ => off = 0
  | .lp _ _, _ => False
  | _, .ref _ => False
  | _, .rb _ => False
  | .st _, .tup [.st _] => True
  | _, .tup [.own _ _] => True
  | _, .tup [.dp _ _] => True
  | _, .tup [.wr _ _] => True
  | _, .tup _ => False
  | _, _ => True
inductive ArgRels : List AV → List AV → Prop
  | nil : ArgRels [] []
  | cons {v v' vs vs'} (h : ArgRel v v') (h' : ArgRels vs vs') : ArgRels (v :: vs) (v' :: vs')
def IVal : AV → Prop
  | .ref _ | .rb _ | .tup _ => False
  | _ => True
def IVal0 : AV → Prop
  | .ref _ | .rb _ => False
  | _ => True
theorem Closed.val {v} (h : Closed v) : IVal v := by cases v <;> first | trivial | exact h.elim
theorem rep_val {x v} (h : Rep U ν γ w x v) : IVal0 v := by cases h <;> trivial
theorem rep_val1 {x v} (h : Rep U ν γ w x v) (h1 : x.oneCell' = true) : IVal v := by
  cases h <;> first | trivial | (simp [Value.oneCell'] at h1)
theorem IV.val {S x v} (h : IV γ w S x v) : IVal v := by
  cases h with
  | cell h =>
    cases h with
    | per h h1 => exact rep_val1 h h1
    | own0 => trivial
    | own => trivial
    | dp0 => trivial
    | dp => trivial
    | wr => trivial
  | st => trivial
theorem giveS_st {v cs} (h : giveS L v = some (.st cs, L')) : ∃ cs0, v = .st cs0 := by
  unfold giveS at h
  split at h
  · exact ⟨_, rfl⟩
  · exfalso
    unfold give at h
    split at h <;> (try split at h) <;> cases h
theorem capE_enc {cs : List AV} {E : El} {x : ElT E} (h : capE cs = some ⟨E, x⟩) : enc E x = cs := by
  unfold capE at h
  split at h <;> (cases h; try rfl)
theorem Frz.pinBox (hm : Mem B γ w) (hl : LocsOK B U ν γ w L) {id : Nat} {cs : List AV} {E : El} {x : ElT E} (hid : L id = some (.box cs)) (hce : capE cs = some ⟨E, x⟩) :
    ∃ γ', Frz B U ν γ w L γ' (upd L id none) ∧ ∃ b, ν id = .pointer (some ⟨b, 0, none⟩) ∧ Rep noU noν γ' w (.pointer (some ⟨b, 0, none⟩)) (.ep E [x] 0 0) := by
  have hsub : ∀ j c, upd L id none j = some c → ∃ c0, L j = some c0 ∧ ∀ b, Owns ν w j c b → Owns ν w j c0 b := by
    intro j c hj
    rcases upd_cases hj with ⟨_, h⟩ | ⟨_, h⟩
    · cases h
    · exact ⟨c, h, fun _ h => h⟩
  have henc := capE_enc hce
  obtain ⟨b, xs, e, hrow, hlen, hrep⟩ := hl.ok _ _ hid
  have hrow0 := hrow
  obtain ⟨hok, hg0, h1, T, hb⟩ := hrow
  have hown : Owns ν w id (.box cs) b := e
  have hsz : xs.length = esz E := by rw [hlen, ← henc, enc_len]
  have hk : Keeps γ w (upd γ b (esz E)) w := by
    refine ⟨fun b' => ?_, fun _ _ _ => rfl⟩
    by_cases hbb : b' = b
    · subst hbb; rw [hg0]; exact Nat.zero_le _
    · rw [upd_ne _ _ hbb]; exact Nat.le_refl _
  have hr : Rep U ν (upd γ b (esz E)) w (.slice (some ⟨b, 0, none⟩) 1 1) (.ps E [x]) := by
    refine .ps E [x] _ 1 (fun k => xs.getD k undef) (by simp [MX]) (Nat.le_refl _) (.inr ⟨b, 0, rfl, ?_, ?_⟩) ?_ ?_
    · rw [upd_same]; simp
    · intro k hk; rw [Nat.zero_add]; simp at hk; exact cell_row hb (by omega)
    · intro k hk; simp at hk; exact h1 _ (mem_getD (by omega))
    · intro i hi j hj
      simp only [List.length_cons, List.length_nil] at hi
      have hi0 : i = 0 := by omega
      subst hi0
      rw [Nat.zero_mul, Nat.zero_add, List.getD_cons_zero, henc]
      exact (hrep j (by rw [← hlen, hsz]; exact hj)).keep hk (fun _ h => h) (fun _ _ => rfl)
  have hep : Rep noU noν (upd γ b (esz E)) w (.pointer (some ⟨b, 0, none⟩)) (.ep E [x] 0 0) := by
    have h2 := Rep.ep (U := noU) (ν := noν) E [x] 0 0 b 0 1 1 (hr.closed trivial) (Int.le_refl _) (by simp)
    have e2 : 0 + (Int.toNat 0 * esz E + 0) = 0 := by simp
    rw [e2] at h2
    exact h2
  refine ⟨upd γ b (esz E), ⟨⟨⟨hm.os, hm.tape, hm.output, hm.size, ?_, ?_, hm.keeps.trans hk⟩, ?_, hk, fun _ h => h, fun _ _ => rfl⟩, ?_, hsub⟩, b, e, hep⟩
  rotate_right
  · intro b' hb'
    have : b' ≠ b := by rintro rfl; exact hb' id _ hid hown
    rw [upd_ne _ _ this]
  · intro b' hb' hmay
    have : b' ≠ b := by
      rintro rfl
      rcases hok with h | h
      · omega
      · exact hmay h
    rw [upd_ne _ _ this]; exact hm.block b' hb' hmay
  · intro b' hb'
    have : b' ≠ b := by rintro rfl; have := hrow0.lt; omega
    rw [upd_ne _ _ this]; exact hm.fresh b' hb'
  · refine (hl.drop id).keepAll hk (fun _ h => h) (fun _ _ => rfl) ?_
    intro j c b' hj ho
    rcases upd_cases hj with ⟨_, h'⟩ | ⟨hne, h'⟩
    · cases h'
    · refine ⟨rfl, ?_⟩
      have : b' ≠ b := by rintro rfl; exact hne (hl.apart j id c _ b' h' hid ho hown)
      rw [upd_ne _ _ this]
theorem pinC_sound (hm : Mem B γ w) (hl : LocsOK B U ν γ w L) {x v v'} (hr : Rep U ν γ w x v) (hp : pinC L v = some (v', L')) :
    ∃ γ', Frz B U ν γ w L γ' L' ∧ Rep noU noν γ' w x v' := by
  unfold pinC at hp
  split at hp
  · split at hp
    case h_2 => cases hp
    rename_i hid
    split at hp
    case h_2 => cases hp
    rename_i hce
    cases hp
    obtain ⟨γ', hf, b, e, h⟩ := Frz.pinBox hm hl hid hce
    cases hr with
    | lp _ _ b' hu hν =>
      rw [e] at hν
      simp only [Value.pointer.injEq, Option.some.injEq, Addr.mk.injEq, and_true] at hν
      subst hν
      exact ⟨γ', hf, h⟩
  · cases hp
    exact ⟨γ, .refl hm hl, hr.closed trivial⟩
  · cases hp
theorem pinL_sound : ∀ (vs vs' : List AV) (xs : List Value) (γ : Nat → Nat) (L L' : Locs), Mem B γ w → LocsOK B U ν γ w L → xs.length = vs.length → (∀ i, i < vs.length → Rep U ν γ w (xs.getD i undef) (vs.getD i .opq)) →
    pinL L vs = some (vs', L') → ∃ γ', Frz B U ν γ w L γ' L' ∧ xs.length = vs'.length ∧ ∀ i, i < vs'.length → Rep noU noν γ' w (xs.getD i undef) (vs'.getD i .opq)
  | [], vs', xs, γ, L, L', hm, hl, hlen, hr, hp => by
    simp only [pinL, Option.some.injEq, Prod.mk.injEq] at hp; obtain ⟨rfl, rfl⟩ := hp
    exact ⟨γ, .refl hm hl, hlen, fun i hi => by simp at hi⟩
  | v :: r, vs', xs, γ, L, L', hm, hl, hlen, hr, hp => by
    simp only [pinL] at hp
    split at hp
    case h_2 => cases hp
    rename_i v' L1 h1
    split at hp
    case h_2 => cases hp
    rename_i r' L2 h2
    simp only [Option.some.injEq, Prod.mk.injEq] at hp; obtain ⟨rfl, rfl⟩ := hp
    cases xs with
    | nil => simp at hlen
    | cons x xs =>
      have hv := hr 0 (by simp)
      simp at hv
      obtain ⟨γ1, f1, r1⟩ := pinC_sound hm hl hv h1
      obtain ⟨γ2, f2, l2, r2⟩ := pinL_sound r r' xs γ1 L1 L2 f1.step.mem f1.step.locs (by simpa using hlen) (fun i hi => by
        have := (hr (i + 1) (by simpa using hi)).keep f1.step.keeps (fun _ h => h) (fun _ _ => rfl)
        simpa using this) h2
      refine ⟨γ2, f1.trans f2, by simp [l2], fun i hi => ?_⟩
      cases i with
      | zero => simpa using r1.keep f2.step.keeps (fun _ h => h) (fun _ _ => rfl)
      | succ i => simpa using r2 i (by simpa using hi)
theorem arg_sound {own : Md} (hm : Mem B γ w) (hl : LocsOK B U ν γ w L) {x v v'} (hr : Rep U ν γ w x v) (hp : arg own L v = some (v', L')) :
    ∃ γ' S, Handed B U ν γ w L γ' L' S ∧ IA γ' w S x v' ∧ ArgRel v v' := by
  unfold arg at hp
  split at hp
  · rename_i id
    split at hp
    · rename_i cs hid
      split at hp
      · rename_i cs' L1 hg
        simp only [Option.some.injEq, Prod.mk.injEq] at hp; obtain ⟨rfl, rfl⟩ := hp
        cases hr with
        | lp _ _ b hu hν =>
          obtain ⟨b', xs, hν', hrow, hlen, hrep⟩ := hl.ok _ _ hid
          rw [hν] at hν'
          simp only [Value.pointer.injEq, Option.some.injEq, Addr.mk.injEq, and_true] at hν'
          subst hν'
          have hown : Owns ν w id (.box cs) b := hν
          obtain ⟨S, hc, hl1, hgv⟩ := giveL_sound cs cs' xs L L1 hl ⟨hlen, hrow.2.2.1, hrep⟩ hg
          have hbS : b ∉ S := by
            intro hb
            exact hgv.out b hb id _ (giveL_box hg hid (fun E l => ⟨(by intro h; cases h), (by intro h; cases h), (by intro h; cases h)⟩)) hown
          have hgd := hgv.drop_own hl hid (T := [b]) (fun b' hb' => by simp at hb'; subst hb'; exact ⟨hown, hrow.1, hbS⟩) (by simp)
          exact ⟨γ, b :: S, ⟨hm, hl1.drop id, .refl _ _, fun _ _ => rfl, hgd⟩, .ref b (.of hrow) hc, rfl⟩
      · cases hp
    · rename_i s hid
      simp only [Option.some.injEq, Prod.mk.injEq] at hp; obtain ⟨rfl, rfl⟩ := hp
      cases hr with
      | lp _ _ b hu hν =>
        obtain ⟨hMX, b', y, v, hν', hrow, hx, a, cap, rfl, hc, hbuf⟩ := hl.ok _ _ hid
        rw [hν] at hν'
        simp only [Value.pointer.injEq, Option.some.injEq, Addr.mk.injEq, and_true] at hν'
        subst hν'
        have hown : Owns ν w id (.bld s) b := .inl hν
        rcases hbuf with ⟨hz, ha⟩ | ⟨b2, xs, rfl, hne, hrow2, hlen, hrep, hz⟩
        · have hs : s = [] := List.length_eq_zero_iff.1 (by omega)
          have hgd := (Given.nil (B := B) (ν := ν) (w := w) (γ := γ) (L := L)).drop_own hl hid (T := [b]) (fun b' hb' => by simp at hb'; subst hb'; exact ⟨hown, hrow.1, by simp⟩) (by simp)
          refine ⟨γ, [b], ⟨hm, hl.drop id, .refl _ _, fun _ _ => rfl, hgd⟩, ?_, rfl⟩
          rw [hz, hs, ha] at hrow
          exact .rb0 b s y (.of hrow) hx hs
        · have hcell : w.cell? ⟨b, 1, none⟩ = some (.slice (some ⟨b2, 0, none⟩) s.length cap) := by
            obtain ⟨-, -, -, T, hb⟩ := hrow
            simpa using cell_row (k := 1) hb (by simp)
          have hown2 : Owns ν w id (.bld s) b2 := .inr ⟨b, _, _, hν, hcell, hz⟩
          have hgd := (Given.nil (B := B) (ν := ν) (w := w) (γ := γ) (L := L)).drop_own hl hid (T := [b, b2]) (fun b' hb' => by
            simp at hb'
            rcases hb' with rfl | rfl
            · exact ⟨hown, hrow.1, by simp⟩
            · exact ⟨hown2, hrow2.1, by simp⟩) (by simp; exact fun h => hne.1 h.symm)
          exact ⟨γ, [b, b2], ⟨hm, hl.drop id, .refl _ _, fun _ _ => rfl, hgd⟩, .rb b b2 cap s y xs (.of hrow) hx hne hMX hz hc (.of hrow2) hlen hrep, rfl⟩
    · cases hp
  · rename_i f
    simp only [Option.some.injEq, Prod.mk.injEq] at hp; obtain ⟨rfl, rfl⟩ := hp
    refine ⟨γ, [], .of_frz (.refl hm hl), ?_, trivial⟩
    cases hr with
    | fn _ _ xs hl' h =>
      have : xs = [] := List.length_eq_zero_iff.1 hl'
      subst this
      exact .fn f [] [] rfl (by simp)
  · split at hp
    case h_2 => cases hp
    rename_i cs' L1 h1
    simp only [Option.some.injEq, Prod.mk.injEq] at hp; obtain ⟨rfl, rfl⟩ := hp
    cases hr with
    | fn _ _ xs hl' h =>
      obtain ⟨γ1, f1, l1, r1⟩ := pinL_sound _ _ xs γ L _ hm hl hl' h h1
      exact ⟨γ1, [], .of_frz f1, .fn _ xs _ l1 r1, trivial⟩
  · simp only [Option.some.injEq, Prod.mk.injEq] at hp; obtain ⟨rfl, rfl⟩ := hp
    exact ⟨γ, [], .of_frz (.refl hm hl), .val (.cell (.per (hr.closed trivial) (rep_one hr (by intro _ e; cases e) (by intro _ e; cases e) (by intro e; cases e)))), trivial⟩
  · cases hp
  · rename_i hlp hfn hfn2 hep hlp2
    have hnot : ∀ {v'}, IVal v' → ArgRel v v' := by
      intro v' h
      cases v with
      | lp id off => exact absurd rfl (hlp2 id off)
      | _ => cases v' <;> first | trivial | exact h.elim
    split at hp
    · obtain ⟨S, h1, h2, h3⟩ := giveS_sound hl hr hp
      exact ⟨γ, S, ⟨hm, h2, .refl _ _, fun _ _ => rfl, h3⟩, .val h1, hnot h1.val⟩
    · obtain ⟨γ', h1, h2⟩ := persistS_given hm hl hr hp
      exact ⟨γ', [], .of_frz h1, .val h2, hnot h2.val⟩
    · split at hp
      case h_2 => cases hp
      rename_i v0 L0 hg
      cases hp
      obtain ⟨S, h1, h2, h3⟩ := giveS_sound hl hr hg
      refine ⟨γ, S, ⟨hm, h2, .refl _ _, fun _ _ => rfl, h3⟩, ?_⟩
      unfold lendV
      split
      · refine ⟨.len h1, ?_⟩
        cases v with
        | lp id off => exact absurd rfl (hlp2 id off)
        | _ => trivial
      · refine ⟨.len h1, ?_⟩
        cases v with
        | lp id off => exact absurd rfl (hlp2 id off)
        | _ => trivial
      · refine ⟨.len h1, ?_⟩
        cases v with
        | lp id off => exact absurd rfl (hlp2 id off)
        | _ => trivial
      · split
        · obtain ⟨cs0, rfl⟩ := giveS_st hg
          exact ⟨.len h1, trivial⟩
        · exact ⟨.val h1, hnot h1.val⟩
      · exact ⟨.val h1, hnot h1.val⟩
theorem argL_sound {own : Md} : ∀ (vs vs' : List AV) (xs : List Value) (γ : Nat → Nat) (L L' : Locs), Mem B γ w → LocsOK B U ν γ w L → xs.length = vs.length → (∀ i, i < vs.length → Rep U ν γ w (xs.getD i undef) (vs.getD i .opq)) →
    argL own L vs = some (vs', L') → ∃ γ' S, Handed B U ν γ w L γ' L' S ∧ IAs γ' w S xs vs' ∧ ArgRels vs vs'
  | [], vs', xs, γ, L, L', hm, hl, hlen, hr, hp => by
    simp only [argL, Option.some.injEq, Prod.mk.injEq] at hp; obtain ⟨rfl, rfl⟩ := hp
    have : xs = [] := List.length_eq_zero_iff.1 hlen
    subst this
    exact ⟨γ, [], .of_frz (.refl hm hl), .nil, .nil⟩
  | v :: r, vs', xs, γ, L, L', hm, hl, hlen, hr, hp => by
    simp only [argL] at hp
    split at hp
    · rename_i v' L1 h1
      split at hp
      · rename_i r' L2 h2
        simp only [Option.some.injEq, Prod.mk.injEq] at hp; obtain ⟨rfl, rfl⟩ := hp
        cases xs with
        | nil => simp at hlen
        | cons x xs =>
          have hv := hr 0 (by simp)
          simp at hv
          obtain ⟨γ1, S1, g1, a1, e1⟩ := arg_sound hm hl hv h1
          obtain ⟨γ2, S2, g2, a2, e2⟩ := argL_sound r r' xs γ1 L1 L2 g1.mem g1.locs (by simpa using hlen) (fun i hi => by
            have := (hr (i + 1) (by simpa using hi)).keep g1.keeps (fun _ h => h) (fun _ _ => rfl)
            simpa using this) h2
          refine ⟨γ2, S1 ++ S2, g1.trans g2, .cons (a1.keep g2.keeps fun b hb => ⟨rfl, g2.gam b fun id c hc ho => g1.given.out b hb id c hc ho⟩) a2, .cons e1 e2⟩
      · cases hp
    · cases hp
structure Taken (B : Base) (U : Nat → Bool) (ν : Nat → Value) (γ : Nat → Nat) (w : World) (L : Locs) (U' : Nat → Bool) (ν' : Nat → Value) (L' : Locs) (S : List Nat) : Prop where
  locs : LocsOK B U' ν' γ w L'
  used : ∀ id, U id = true → U' id = true
  names : ∀ id, U id = true → ν' id = ν id
  own : ∀ id c b, L' id = some c → Owns ν' w id c b → (∃ j c, L j = some c ∧ Owns ν w j c b) ∨ b ∈ S
theorem Taken.refl (hl : LocsOK B U ν γ w L) : Taken B U ν γ w L U ν L [] := ⟨hl, fun _ h => h, fun _ _ => rfl, fun id c _ h ho => .inl ⟨id, c, h, ho⟩⟩
theorem Taken.trans {L1 L2 S1 S2} (h : Taken B U ν γ w L U' ν' L1 S1) (h' : Taken B U' ν' γ w L1 U'' ν'' L2 S2) : Taken B U ν γ w L U'' ν'' L2 (S1 ++ S2) := by
  refine ⟨h'.locs, fun id hi => h'.used id (h.used id hi), fun id hi => (h'.names id (h.used id hi)).trans (h.names id hi), fun id c b hc ho => ?_⟩
  rcases h'.own id c b hc ho with ⟨j, c1, h1, h2⟩ | h1
  · rcases h.own j c1 b h1 h2 with h3 | h3
    · exact .inl h3
    · exact .inr (by simp [h3])
  · exact .inr (by simp [h1])
theorem Taken.mono {S S'} (h : Taken B U ν γ w L U' ν' L' S) (hs : ∀ b ∈ S, b ∈ S') : Taken B U ν γ w L U' ν' L' S' :=
  ⟨h.locs, h.used, h.names, fun id c b hc ho => (h.own id c b hc ho).imp (fun x => x) (hs b)⟩
theorem Taken.rep {x v S} (h : Taken B U ν γ w L U' ν' L' S) (hr : Rep U ν γ w x v) : Rep U' ν' γ w x v := hr.keep (.refl _ _) h.used h.names
theorem Taken.add (hl : LocsOK B U ν γ w L) {n : Nat} (hn : U n = false) (v : Value) {c : LC} {S : List Nat} (hc : LocOK B (upd U n true) (upd ν n v) γ w n c) (hS : ∀ b, Owns (upd ν n v) w n c b → b ∈ S)
    (hd : ∀ b ∈ S, ∀ id c, L id = some c → ¬ Owns ν w id c b) : Taken B U ν γ w L (upd U n true) (upd ν n v) (upd L n (some c)) S := by
  have hU : ∀ id, U id = true → upd U n true id = true := by
    intro id hi
    by_cases e : id = n
    · subst e; rw [hn] at hi; cases hi
    · rw [upd_ne _ _ e]; exact hi
  have hν : ∀ id, U id = true → upd ν n v id = ν id := by
    intro id hi
    by_cases e : id = n
    · subst e; rw [hn] at hi; cases hi
    · rw [upd_ne _ _ e]
  have hall : LocsOK B (upd U n true) (upd ν n v) γ w L := hl.keepAll (.refl _ _) hU hν (fun _ _ _ _ _ => ⟨rfl, rfl⟩)
  have hback : ∀ j e b, L j = some e → Owns (upd ν n v) w j e b → Owns ν w j e b := fun j e b hj ho => Owns.keep (hl.ok j e hj) (hν j (hl.used j e hj)) (fun _ _ => rfl) ho
  refine ⟨hall.add (upd_same _ _ _) hc (fun b hb j e hj hne ho => hd b (hS b hb) j e hj (hback j e b hj ho)), hU, hν, ?_⟩
  intro id c' b hc' ho
  rcases upd_cases hc' with ⟨rfl, h⟩ | ⟨_, h⟩
  · cases h; exact .inr (hS b ho)
  · exact .inl ⟨id, c', h, hback id c' b h ho⟩
theorem noU_rep {x v} (h : Rep noU noν γ w x v) : Rep U ν γ w x v := h.keep (.refl _ _) (fun _ h => by cases h) (fun _ h => by cases h)
theorem Taken.disj {S1 S2} (h : Taken B U ν γ w L U' ν' L' S1) (hn : (S1 ++ S2).Nodup) (hd : ∀ b ∈ S1 ++ S2, ∀ id c, L id = some c → ¬ Owns ν w id c b) : ∀ b ∈ S2, ∀ id c, L' id = some c → ¬ Owns ν' w id c b := by
  intro b hb id c hc ho
  rcases h.own id c b hc ho with ⟨j, c1, h1, h2⟩ | h1
  · exact hd b (by simp [hb]) j c1 h1 h2
  · exact (List.nodup_append.1 hn).2.2 b h1 b hb rfl
theorem take_sound (hl : LocsOK B U ν γ w L) {S : List Nat} {x v v'} {n n' : Nat} (hi : IC γ w S x v) (hd : ∀ b ∈ S, ∀ id c, L id = some c → ¬ Owns ν w id c b) (hok : ∀ b ∈ S, B.ok b)
    (ht : take L U n v = some (v', L', U', n')) : ∃ ν', Taken B U ν γ w L U' ν' L' S ∧ Rep U' ν' γ w x v' ∧ x.oneCell' = true := by
  have per : ∀ {v'}, IC γ w S x v' → (∀ E l, v' ≠ .own E l ∧ v' ≠ .dp E l ∧ v' ≠ .wr E l) → Rep U ν γ w x v' := by
    intro v' h hne
    cases h with
    | per h _ => exact noU_rep h
    | own0 E a => exact absurd rfl (hne _ _).1
    | own E l => exact absurd rfl (hne _ _).1
    | dp0 E a => exact absurd rfl (hne _ _).2.1
    | dp E l => exact absurd rfl (hne _ _).2.1
    | wr E l => exact absurd rfl (hne _ _).2.2
  have h1 := hi.one
  unfold take at ht
  split at ht
  · rename_i E l
    split at ht
    case h_2 => cases ht
    rename_i hn
    simp only [Option.some.injEq, Prod.mk.injEq] at ht; obtain ⟨rfl, rfl, rfl, rfl⟩ := ht
    have hrep : Rep (upd U n true) (upd ν n x) γ w x (.ls n) := by
      have := Rep.ls (U := upd U n true) (ν := upd ν n x) (γ := γ) (w := w) n (upd_same _ _ _) (by rw [upd_same]; exact h1)
      rwa [upd_same] at this
    cases hi with
    | per h _ => cases h
    | own0 _ a =>
      exact ⟨_, Taken.add hl hn _ ⟨a, 0, upd_same _ _ _, Nat.zero_le _, Nat.le_refl _, .inl rfl⟩ (by
        rintro b ⟨len, cap, e, hne⟩; rw [upd_same] at e; simp at e; omega) (by simp), hrep, h1⟩
    | own _ _ b cap xs hMX hc h0 hrow hlen hr =>
      refine ⟨_, Taken.add hl hn _ ⟨_, cap, upd_same _ _ _, hMX, hc, .inr ⟨b, xs, rfl, .of hrow (hok b (by simp)), hlen, fun i hi j hj => noU_rep (hr i hi j hj)⟩⟩ (by
        rintro b' ⟨len, cap', e, hne⟩; rw [upd_same] at e; simp at e; simp [e.1]) hd, hrep, h1⟩
  · rename_i E l
    split at ht
    case h_2 => cases ht
    rename_i hn
    simp only [Option.some.injEq, Prod.mk.injEq] at ht; obtain ⟨rfl, rfl, rfl, rfl⟩ := ht
    have hrep : Rep (upd U n true) (upd ν n x) γ w x (.ls n) := by
      have := Rep.ls (U := upd U n true) (ν := upd ν n x) (γ := γ) (w := w) n (upd_same _ _ _) (by rw [upd_same]; exact h1)
      rwa [upd_same] at this
    cases hi with
    | per h _ => cases h
    | dp0 _ a =>
      exact ⟨_, Taken.add hl hn _ ⟨a, 0, upd_same _ _ _, Nat.zero_le _, Nat.le_refl _, .inl rfl⟩ (by
        intro b ho
        rcases ho with ⟨len, cap, e, hne⟩ | ⟨bs, hdp, hb⟩
        · rw [upd_same] at e; simp at e; omega
        · rcases hdp.inv_ps with ⟨-, h, -⟩ | ⟨_, _, _, _, _, h, -⟩
          · rw [h] at hb; simp at hb
          · exact absurd rfl h) (by simp), hrep, h1⟩
    | dp _ _ b cap xs bss hMX hc h0 hrow hlen hin =>
      have hI := hin.inner (B := B) fun c hc' => hok c (by simp [hc'])
      refine ⟨_, Taken.add hl hn _ ⟨_, cap, upd_same _ _ _, hMX, hc, .inr ⟨b, xs, bss, rfl, .of hrow (hok b (by simp)), hlen, hI⟩⟩ (by
        intro b' ho
        rcases hI.owned (upd_same _ _ _) hMX hc (.of hrow (hok b (by simp))) hlen ho with rfl | h
        · simp
        · simp [h]) hd, hrep, h1⟩
  · rename_i E l
    split at ht
    case h_2 => cases ht
    rename_i hn
    simp only [Option.some.injEq, Prod.mk.injEq] at ht; obtain ⟨rfl, rfl, rfl, rfl⟩ := ht
    have hrep : Rep (upd U n true) (upd ν n x) γ w x (.ls n) := by
      have := Rep.ls (U := upd U n true) (ν := upd ν n x) (γ := γ) (w := w) n (upd_same _ _ _) (by rw [upd_same]; exact h1)
      rwa [upd_same] at this
    cases hi with
    | per h _ => cases h
    | wr _ _ _ _ hdp hnd hz =>
      refine ⟨_, Taken.add hl hn _ ⟨S, by rw [upd_same]; exact hdp, hnd, fun c hc => ⟨hok c hc, hz c hc⟩⟩ (by
        rintro b' ⟨bs, hd2, hb⟩
        rw [upd_same] at hd2
        rw [hdp.det hd2] at hb; exact hb) hd, hrep, h1⟩
  all_goals first
    | (cases ht; exact ⟨ν, (Taken.refl hl).mono (by simp), per hi (fun E l => ⟨(by intro h; cases h), (by intro h; cases h), (by intro h; cases h)⟩), h1⟩)
    | cases ht
theorem takeL_sound : ∀ (vs vs' : List AV) (xs : List Value) (S : List Nat) (L L' : Locs) (U U' : Nat → Bool) (ν : Nat → Value) (n n' : Nat), LocsOK B U ν γ w L → ICs γ w S xs vs → S.Nodup →
    (∀ b ∈ S, ∀ id c, L id = some c → ¬ Owns ν w id c b) → (∀ b ∈ S, B.ok b) → takeL L U n vs = some (vs', L', U', n') → ∃ ν', Taken B U ν γ w L U' ν' L' S ∧ CellsIs U' ν' γ w xs vs'
  | [], vs', xs, S, L, L', U, U', ν, n, n', hl, hi, hn, hd, hok, ht => by
    simp only [takeL, Option.some.injEq, Prod.mk.injEq] at ht; obtain ⟨rfl, rfl, rfl, rfl⟩ := ht
    cases hi
    exact ⟨ν, .refl hl, ⟨rfl, by simp, by simp⟩⟩
  | v :: r, vs', xs, S, L, L', U, U', ν, n, n', hl, hi, hn, hd, hok, ht => by
    simp only [takeL] at ht
    split at ht
    case h_2 => cases ht
    rename_i v' L1 U1 n1 h1
    split at ht
    case h_2 => cases ht
    rename_i r' L2 U2 n2 h2
    simp only [Option.some.injEq, Prod.mk.injEq] at ht; obtain ⟨rfl, rfl, rfl, rfl⟩ := ht
    cases hi with
    | cons hx hr =>
      rename_i S1 S2 x xs
      obtain ⟨ν1, t1, hv, ho1⟩ := take_sound hl hx (fun b hb => hd b (by simp [hb])) (fun b hb => hok b (by simp [hb])) h1
      obtain ⟨ν2, t2, hc⟩ := takeL_sound r r' xs S2 L1 L2 U1 U2 ν1 n1 n2 t1.locs hr (List.nodup_append.1 hn).2.1 (t1.disj hn hd) (fun b hb => hok b (by simp [hb])) h2
      refine ⟨ν2, t1.trans t2, ⟨by simp [hc.len], ?_, ?_⟩⟩
      · intro y hy
        simp at hy
        rcases hy with rfl | hy
        · exact ho1
        · exact hc.one y hy
      · intro i hi
        cases i with
        | zero => simpa using t2.rep hv
        | succ i => simpa using hc.rep i (by simpa using hi)
theorem takeS_sound (hl : LocsOK B U ν γ w L) {S : List Nat} {x v v'} {n n' : Nat} (hi : IV γ w S x v) (hn : S.Nodup) (hd : ∀ b ∈ S, ∀ id c, L id = some c → ¬ Owns ν w id c b) (hok : ∀ b ∈ S, B.ok b)
    (ht : takeS L U n v = some (v', L', U', n')) : ∃ ν', Taken B U ν γ w L U' ν' L' S ∧ Rep U' ν' γ w x v' := by
  unfold takeS at ht
  split at ht
  · rename_i cs
    split at ht
    case h_2 => cases ht
    rename_i cs' L1 U1 n1 h1
    simp only [Option.some.injEq, Prod.mk.injEq] at ht; obtain ⟨rfl, rfl, rfl, rfl⟩ := ht
    cases hi with
    | cell h =>
      cases h with
      | per h h1 => cases h; simp [Value.oneCell'] at h1
    | st h =>
      obtain ⟨ν', t, hc⟩ := takeL_sound cs cs' _ S L L1 U U1 ν n n1 hl h hn hd hok h1
      exact ⟨ν', t, .st _ _ hc.len hc.one hc.rep⟩
  · rename_i hst
    cases hi with
    | cell h =>
      obtain ⟨ν', t, hr, -⟩ := take_sound hl h hd hok ht
      exact ⟨ν', t, hr⟩
    | st h => exact absurd rfl (hst _)
theorem takeT_sound : ∀ (vs vs' : List AV) (xs : List Value) (S : List Nat) (L L' : Locs) (U U' : Nat → Bool) (ν : Nat → Value) (n n' : Nat), LocsOK B U ν γ w L → IVs γ w S xs vs → S.Nodup →
    (∀ b ∈ S, ∀ id c, L id = some c → ¬ Owns ν w id c b) → (∀ b ∈ S, B.ok b) → takeT L U n vs = some (vs', L', U', n') → ∃ ν', Taken B U ν γ w L U' ν' L' S ∧ xs.length = vs'.length ∧ ∀ i, i < vs'.length → Rep U' ν' γ w (xs.getD i undef) (vs'.getD i .opq)
  | [], vs', xs, S, L, L', U, U', ν, n, n', hl, hi, hn, hd, hok, ht => by
    simp only [takeT, Option.some.injEq, Prod.mk.injEq] at ht; obtain ⟨rfl, rfl, rfl, rfl⟩ := ht
    cases hi
    exact ⟨ν, .refl hl, rfl, by simp⟩
  | v :: r, vs', xs, S, L, L', U, U', ν, n, n', hl, hi, hn, hd, hok, ht => by
    simp only [takeT] at ht
    split at ht
    case h_2 => cases ht
    rename_i v' L1 U1 n1 h1
    split at ht
    case h_2 => cases ht
    rename_i r' L2 U2 n2 h2
    simp only [Option.some.injEq, Prod.mk.injEq] at ht; obtain ⟨rfl, rfl, rfl, rfl⟩ := ht
    cases hi with
    | cons hx hr =>
      rename_i S1 S2 x xs
      obtain ⟨ν1, t1, hv⟩ := takeS_sound hl hx (List.nodup_append.1 hn).1 (fun b hb => hd b (by simp [hb])) (fun b hb => hok b (by simp [hb])) h1
      obtain ⟨ν2, t2, hlen, hc⟩ := takeT_sound r r' xs S2 L1 L2 U1 U2 ν1 n1 n2 t1.locs hr (List.nodup_append.1 hn).2.1 (t1.disj hn hd) (fun b hb => hok b (by simp [hb])) h2
      refine ⟨ν2, t1.trans t2, by simp [hlen], ?_⟩
      intro i hi
      cases i with
      | zero => simpa using t2.rep hv
      | succ i => simpa using hc i (by simpa using hi)
theorem takeR_sound (hl : LocsOK B U ν γ w L) {S : List Nat} {x v v'} {n n' : Nat} (hi : IR γ w S x v) (hn : S.Nodup) (hd : ∀ b ∈ S, ∀ id c, L id = some c → ¬ Owns ν w id c b) (hok : ∀ b ∈ S, B.ok b)
    (ht : takeR L U n v = some (v', L', U', n')) : ∃ ν', Taken B U ν γ w L U' ν' L' S ∧ Rep U' ν' γ w x v' := by
  unfold takeR at ht
  split at ht
  · rename_i cs
    split at ht
    case h_2 => cases ht
    rename_i cs' L1 U1 n1 h1
    simp only [Option.some.injEq, Prod.mk.injEq] at ht; obtain ⟨rfl, rfl, rfl, rfl⟩ := ht
    cases hi with
    | one h =>
      cases h with
      | cell h =>
        cases h with
        | per h h1 => cases h; simp [Value.oneCell'] at h1
    | tup h =>
      obtain ⟨ν', t, hlen, hc⟩ := takeT_sound cs cs' _ S L L1 U U1 ν n n1 hl h hn hd hok h1
      exact ⟨ν', t, .tup _ _ hlen hc⟩
  · rename_i cs
    split at ht
    case h_2 => cases ht
    rename_i cs' L1 U1 n1 h1
    split at ht
    case h_2 => cases ht
    rename_i hU
    simp only [Option.some.injEq, Prod.mk.injEq] at ht; obtain ⟨rfl, rfl, rfl, rfl⟩ := ht
    cases hi with
    | one h => cases h with
      | cell h => cases h with
        | per h _ => cases h
    | ref b hrow h =>
      rename_i S0 ys
      have hn1' := List.nodup_cons.1 hn
      obtain ⟨ν1, t1, hc⟩ := takeL_sound cs cs' ys S0 L L1 U U1 ν _ n1 hl h hn1'.2 (fun b hb => hd b (by simp [hb])) (fun b hb => hok b (by simp [hb])) h1
      have hnames : ∀ id, U1 id = true → upd ν1 n (.pointer (some ⟨b, 0, none⟩)) id = ν1 id := fun id hid => by
        rw [upd_ne]; intro e; subst e; rw [hU] at hid; cases hid
      have hused : ∀ id, U1 id = true → upd U1 n true id = true := fun id hid => by
        by_cases e : id = n
        · subst e; exact upd_same _ _ _
        · rw [upd_ne _ _ e]; exact hid
      have t2 := Taken.add t1.locs hU (.pointer (some ⟨b, 0, none⟩)) (c := .box cs') (S := [b]) ⟨b, ys, upd_same _ _ _, .of hrow (hok b (by simp)), hc.len, fun i hi => (hc.rep i hi).keep (.refl _ _) hused hnames⟩
        (fun b' ho => by
          have h9 : upd ν1 n (.pointer (some ⟨b, 0, none⟩)) n = .pointer (some ⟨b', 0, none⟩) := ho
          rw [upd_same] at h9
          simp at h9; simp [h9])
        (fun b' hb' id c hc ho => by
          simp at hb'; subst hb'
          rcases t1.own id c _ hc ho with ⟨j, c1, h3, h4⟩ | h3
          · exact hd _ (by simp) j c1 h3 h4
          · exact hn1'.1 h3)
      have t3 := (t1.trans t2).mono (S' := b :: S0) (fun b' hb' => by simp at hb' ⊢; rcases hb' with h | h <;> simp [h])
      exact ⟨_, t3, .lp _ 0 b (upd_same _ _ _) (upd_same _ _ _)⟩
  · rename_i htup href
    cases hi with
    | one h => exact takeS_sound hl h hn hd hok ht
    | tup h => exact absurd rfl (htup _)
    | ref b hrow h => exact absurd rfl (href _)
end Go.Rs
end
section
namespace Go.Rs
variable {P : Program} {B : Base} {U U' U'' : Nat → Bool} {ν ν' ν'' : Nat → Value} {γ γ' γ'' : Nat → Nat} {w w' w'' : World} {L L' L'' : Locs}
inductive RepL (U : Nat → Bool) (ν : Nat → Value) (γ : Nat → Nat) (w : World) : List Value → List AV → Prop
  | nil : RepL U ν γ w [] []
  | cons {x v xs vs} (h : Rep U ν γ w x v) (t : RepL U ν γ w xs vs) : RepL U ν γ w (x :: xs) (v :: vs)
theorem RepL.app {xs vs ys us} (h : RepL U ν γ w xs vs) (h' : RepL U ν γ w ys us) : RepL U ν γ w (xs ++ ys) (vs ++ us) := by
  induction h with
  | nil => exact h'
  | cons h _ ih => exact .cons h ih
theorem RepL.keep {xs vs} (h : RepL U ν γ w xs vs) (hU : ∀ id, U id = true → U' id = true) (hν : ∀ id, U id = true → ν' id = ν id) : RepL U' ν' γ w xs vs := by
  induction h with
  | nil => exact .nil
  | cons h _ ih => exact .cons (h.keep (.refl _ _) hU hν) ih
theorem repL_of : ∀ {xs : List Value} {vs : List AV}, xs.length = vs.length → (∀ i, i < vs.length → Rep U ν γ w (xs.getD i undef) (vs.getD i .opq)) → RepL U ν γ w xs vs
  | [], [], _, _ => .nil
  | [], _ :: _, h, _ => absurd h (by simp)
  | _ :: _, [], h, _ => absurd h (by simp)
  | x :: xs, v :: vs, h, hr => .cons (by simpa using hr 0 (by simp)) (repL_of (by simpa using h) fun i hi => by simpa using hr (i + 1) (by simpa using hi))
theorem RepL.idx {xs vs} (h : RepL U ν γ w xs vs) : xs.length = vs.length ∧ ∀ i, i < vs.length → Rep U ν γ w (xs.getD i undef) (vs.getD i .opq) := by
  induction h with
  | nil => exact ⟨rfl, by simp⟩
  | cons h _ ih =>
    refine ⟨by simp [ih.1], fun i hi => ?_⟩
    cases i with
    | zero => simpa using h
    | succ i => simpa using ih.2 i (by simpa using hi)
theorem tgtC_rep {S xs vs} (h : ICs γ w S xs vs) : ∀ {cs}, RepL U ν γ' w' xs cs → RepL U ν γ' w' (lentC vs xs) (tgtC cs vs) := by
  induction h with
  | nil => intro cs h; cases h; exact .nil
  | @cons S1 S2 x0 v xs0 vs0 h _ ih =>
    intro cs hr
    cases hr with
    | cons h1 h2 =>
      cases v with
      | own E l => exact .cons h1 (ih h2)
      | dp E l => exact .cons h1 (ih h2)
      | wr E l => exact .cons h1 (ih h2)
      | _ => exact ih h2
theorem tgtV_rep {S x u v} (h : IV γ w S x u) (hst : ∀ us, u = .st us → ∃ cs, v = .st cs) (hr : Rep U ν γ' w' x v) : RepL U ν γ' w' (lentV u x) (tgtV v u) := by
  cases u with
  | own E l => exact .cons hr .nil
  | dp E l => exact .cons hr .nil
  | wr E l => exact .cons hr .nil
  | st us =>
    obtain ⟨cs, rfl⟩ := hst us rfl
    cases h with
    | cell h => cases h with
      | per h h1 => cases h; simp [Value.oneCell'] at h1
    | st h =>
      generalize hx : Value.agg _ = y at hr
      cases hr with
      | st ys _ hl h1 hr =>
        simp only [Value.agg.injEq] at hx
        have e := List.toArray_inj hx
        subst e
        exact tgtC_rep h (repL_of hl hr)
  | _ => cases v <;> exact .nil
theorem tgt_rep {S xs vs'} (h : IAs γ w S xs vs') : ∀ {vs}, ArgRels vs vs' → RepL U ν γ' w' xs vs → RepL U ν γ' w' (refVals vs' xs) (tgt vs vs') := by
  induction h with
  | nil => intro vs h1 h2; cases h2; cases h1; exact .nil
  | @cons S1 S2 x0 v' xs0 vs0 h _ ih =>
    intro vs h1 h2
    cases h2 with
    | @cons _ v _ vs hx ht =>
      cases h1 with
      | cons hr hrs =>
        cases v' with
        | ref cs => exact .cons hx (ih hrs ht)
        | rb b => exact .cons hx (ih hrs ht)
        | tup l =>
          cases l with
          | nil => exact ih hrs ht
          | cons u l =>
            cases l with
            | cons _ _ => exact ih hrs ht
            | nil =>
              refine RepL.app ?_ (ih hrs ht)
              cases h with
              | val h => exact h.val.elim
              | len h =>
                refine tgtV_rep h (fun us e => ?_) hx
                subst e
                cases v <;> first | exact ⟨_, rfl⟩ | exact hr.elim
        | _ => exact ih hrs ht
theorem backL_sound : ∀ (ts : List AV) (ys : List Value) (rs : List AV) (S : List Nat) (L L' : Locs) (U U' : Nat → Bool) (ν : Nat → Value) (n : Nat), LocsOK B U ν γ w L → RepL U ν γ' w' ys ts →
    IAs γ w S ys rs → S.Nodup → (∀ b ∈ S, ∀ id c, L id = some c → ¬ Owns ν w id c b) → (∀ b ∈ S, B.ok b) →
    backL L U n ts rs = some (L', U') → ∃ ν', Taken B U ν γ w L U' ν' L' S
  | [], ys, rs, S, L, L', U, U', ν, n, hl, hrep, hi, hn, hd, hok, hb => by
    cases hrep
    cases hi
    simp only [backL, Option.some.injEq, Prod.mk.injEq] at hb; obtain ⟨rfl, rfl⟩ := hb
    exact ⟨ν, .refl hl⟩
  | v :: ts, ys, rs, S, L, L', U, U', ν, n, hl, hrep, hi, hn, hd, hok, hb => by
    cases hrep with
    | cons hx htail =>
      rename_i x ys
      cases hi with
      | cons h1 h2 =>
        rename_i S1 S2 r rs
        have step : ∀ {ν1 U1 L1 n1}, Taken B U ν γ w L U1 ν1 L1 S1 → backL L1 U1 n1 ts rs = some (L', U') → ∃ ν', Taken B U ν γ w L U' ν' L' (S1 ++ S2) := by
          intro ν1 U1 L1 n1 t hb2
          obtain ⟨ν2, t2⟩ := backL_sound ts ys rs S2 L1 L' U1 U' ν1 n1 t.locs (htail.keep t.used t.names) h2 (List.nodup_append.1 hn).2.1 (t.disj hn hd) (fun b hb => hok b (by simp [hb])) hb2
          exact ⟨ν2, t.trans t2⟩
        have hn1 := (List.nodup_append.1 hn).1
        have fin : ∀ {id c}, U id = true → LocOK B U ν γ w id c → (∀ b', Owns ν w id c b' → b' ∈ S1) → Taken B U ν γ w L U ν (upd L id (some c)) S1 := by
          intro id c hu hc ho
          refine ⟨hl.add hu hc (fun b' hb' j e hj _ h => hd b' (by simp [ho b' hb']) j e hj h), fun _ h => h, fun _ _ => rfl, fun j c' b' hj h => ?_⟩
          rcases upd_cases hj with ⟨rfl, h'⟩ | ⟨_, h'⟩
          · cases h'; exact .inr (ho b' h)
          · exact .inl ⟨j, c', h', h⟩
        cases v with
        | lp id off =>
          cases off with
          | succ k => cases r <;> simp [backL] at hb
          | zero =>
            cases hx with
            | lp _ _ b hu hν =>
              cases r with
              | ref cs =>
                simp only [backL] at hb
                split at hb
                case h_2 => cases hb
                rename_i cs' L1 U1 n1 ht
                cases h1 with
                | val h =>
                  cases h with
                  | cell h => cases h with | per h _ => exact (rep_val h).elim
                | ref b2 hrow hcs =>
                  rename_i S0 ys
                  obtain ⟨ν1, t1, hc⟩ := takeL_sound cs cs' ys S0 L L1 U U1 ν n n1 hl hcs (List.nodup_cons.1 hn1).2 (fun b hb => hd b (by simp [hb])) (fun b hb => hok b (by simp [hb])) ht
                  have hν1 : ν1 id = .pointer (some ⟨b, 0, none⟩) := (t1.names id hu).trans hν
                  have hbL1 : ∀ j e, L1 j = some e → ¬ Owns ν1 w j e b := by
                    intro j e hj ho
                    rcases t1.own j e b hj ho with ⟨k, c, h3, h4⟩ | h3
                    · exact hd b (by simp) k c h3 h4
                    · exact (List.nodup_cons.1 hn1).1 h3
                  have hadd := t1.locs.add (d := id) (c := .box cs') (t1.used id hu) ⟨b, ys, hν1, .of hrow (hok b (by simp)), hc.len, hc.rep⟩ (fun b' hb' j e hj _ ho => by
                    have : ν1 id = .pointer (some ⟨b', 0, none⟩) := hb'
                    rw [hν1] at this; simp at this; subst this
                    exact hbL1 j e hj ho)
                  have t2 : Taken B U ν γ w L U1 ν1 (upd L1 id (some (.box cs'))) (b :: S0) := by
                    refine ⟨hadd, t1.used, t1.names, fun j c b' hj ho => ?_⟩
                    rcases upd_cases hj with ⟨rfl, h⟩ | ⟨_, h⟩
                    · cases h
                      have : ν1 j = .pointer (some ⟨b', 0, none⟩) := ho
                      rw [hν1] at this; simp at this; exact .inr (by simp [this])
                    · exact (t1.own j c b' h ho).imp (fun x => x) (fun h => by simp [h])
                  exact step t2 hb
              | rb s =>
                simp only [backL] at hb
                cases h1 with
                | val h =>
                  cases h with
                  | cell h => cases h with | per h _ => exact (rep_val h).elim
                | rb0 b2 _ y hrow hy hs =>
                  refine step (fin (c := .bld s) hu ⟨by rw [hs]; exact Nat.zero_le _, b, y, _, hν, .of hrow (hok b (by simp)), hy, none, 0, by rw [hs]; rfl, by rw [hs]; simp, .inl ⟨rfl, rfl⟩⟩ ?_) hb
                  intro b' ho
                  rcases ho with ho | ⟨b0, len, cap, e0, hcell, hne⟩
                  · rw [hν] at ho; simp at ho; simp [ho]
                  · rw [hν] at e0; simp at e0; subst e0
                    obtain ⟨-, -, T, hbb⟩ := hrow
                    have := cell_row (k := 1) hbb (by simp)
                    rw [hcell] at this
                    simp at this
                | rb b2 b' cap _ y ys hrow hy hne hMX h0 hc hrow' hlen' hr' =>
                  refine step (fin (c := .bld s) hu ⟨hMX, b, y, _, hν, .of hrow (hok b (by simp)), hy, some ⟨b', 0, none⟩, cap, rfl, hc, .inr ⟨b', ys, rfl, hne, .of hrow' (hok b' (by simp)), hlen', hr', h0⟩⟩ ?_) hb
                  intro b'' ho
                  rcases ho with ho | ⟨b0, len, cap', e0, hcell, hne'⟩
                  · rw [hν] at ho; simp at ho; simp [ho]
                  · rw [hν] at e0; simp at e0; subst e0
                    obtain ⟨-, -, T, hbb⟩ := hrow
                    have := cell_row (k := 1) hbb (by simp)
                    rw [hcell] at this
                    simp at this
                    simp [this.1]
              | _ => simp [backL] at hb
        | ls id =>
          cases r with
          | own E l =>
            simp only [backL] at hb
            have hxs : U id = true ∧ ν id = x := by cases hx with | ls _ hu _ => exact ⟨hu, rfl⟩
            obtain ⟨hu, hν⟩ := hxs
            clear hx
            cases h1 with
            | val h =>
              cases h with
              | cell h =>
                cases h with
                | per h _ => cases h
                | own0 _ a =>
                  refine step (fin (c := .arr E []) hu ⟨a, 0, hν, Nat.zero_le _, Nat.le_refl _, .inl rfl⟩ ?_) hb
                  rintro b' ⟨len, cap, e, hne⟩
                  rw [hν] at e; simp at e; omega
                | own _ _ b cap xs hMX hc h0 hrow hlen hr =>
                  refine step (fin (c := .arr E l) hu ⟨_, cap, hν, hMX, hc, .inr ⟨b, xs, rfl, .of hrow (hok b (by simp)), hlen, fun i hi j hj => noU_rep (hr i hi j hj)⟩⟩ ?_) hb
                  rintro b' ⟨len, cap', e, hne⟩
                  rw [hν] at e; simp at e; simp [e.1]
          | dp E l =>
            simp only [backL] at hb
            have hxs : U id = true ∧ ν id = x := by cases hx with | ls _ hu _ => exact ⟨hu, rfl⟩
            obtain ⟨hu, hν⟩ := hxs
            clear hx
            cases h1 with
            | val h =>
              cases h with
              | cell h =>
                cases h with
                | per h _ => cases h
                | dp0 _ a =>
                  refine step (fin (c := .tree E []) hu ⟨a, 0, hν, Nat.zero_le _, Nat.le_refl _, .inl rfl⟩ ?_) hb
                  intro b' ho
                  rcases ho with ⟨len, cap, e, hne⟩ | ⟨bs, hdp, hb⟩
                  · rw [hν] at e; simp at e; omega
                  · rcases hdp.inv_ps with ⟨-, h, -⟩ | ⟨_, _, _, _, _, h, -⟩
                    · rw [h] at hb; simp at hb
                    · exact absurd rfl h
                | dp _ _ b cap xs bss hMX hc h0 hrow hlen hin =>
                  have hI := hin.inner (B := B) fun c hc' => hok c (by simp [hc'])
                  refine step (fin (c := .tree E l) hu ⟨_, cap, hν, hMX, hc, .inr ⟨b, xs, bss, rfl, .of hrow (hok b (by simp)), hlen, hI⟩⟩ ?_) hb
                  intro b' ho
                  rcases hI.owned hν hMX hc (.of hrow (hok b (by simp))) hlen ho with rfl | h
                  · simp
                  · simp [h]
          | wr E l =>
            simp only [backL] at hb
            have hxs : U id = true ∧ ν id = x := by cases hx with | ls _ hu _ => exact ⟨hu, rfl⟩
            obtain ⟨hu, hν⟩ := hxs
            clear hx
            cases h1 with
            | val h =>
              cases h with
              | cell h =>
                cases h with
                | per h _ => cases h
                | wr _ _ _ _ hdp hnd hz =>
                  refine step (fin (c := .raw E l) hu ⟨S1, by rw [hν]; exact hdp, hnd, fun c hc => ⟨hok c (by simp [hc]), hz c hc⟩⟩ ?_) hb
                  rintro b' ⟨bs, hd2, hb⟩
                  rw [hν] at hd2
                  rw [hdp.det hd2] at hb; exact hb
          | ps E l =>
            simp only [backL] at hb
            have hxs : U id = true ∧ ν id = x := by cases hx with | ls _ hu _ => exact ⟨hu, rfl⟩
            obtain ⟨hu, hν⟩ := hxs
            clear hx
            cases h1 with
            | val h =>
              cases h with
              | cell h =>
                cases h with
                | per h _ => exact step (fin (c := .frz E l) hu (by show Rep U ν γ w (ν id) (.ps E l); rw [hν]; exact noU_rep h) (fun b' ho => ho.elim)) hb
          | _ => simp [backL] at hb
        | nils E0 =>
          cases r with
          | ps E l =>
            simp only [backL] at hb
            cases h1 with
            | val h =>
              cases h with
              | cell h =>
                cases h with
                | per h _ => exact step (Taken.refl hl) hb
          | own E l =>
            simp only [backL] at hb
            have hxs : x = .slice none 0 0 := by cases hx with | nils _ => rfl
            clear hx
            cases h1 with
            | val h =>
              cases h with
              | cell h =>
                cases h with
                | per h _ => cases h
                | own0 _ a => exact step (Taken.refl hl) hb
                | own => simp at hxs
          | _ => simp [backL] at hb
        | _ => cases r <;> simp [backL] at hb
end Go.Rs
end
section
namespace Go.Rs
variable {P : Program} {B : Base} {U U' U'' : Nat → Bool} {ν ν' ν'' : Nat → Value} {γ γ' γ'' : Nat → Nat} {w w' w'' : World} {L L' L'' : Locs}
def Scalar1 : AV → Prop
  | .int _ _ | .bool _ | .str _ | .ps _ _ => True
  | _ => False
def Scalar2 : AV → Prop
  | .st l => ∀ v ∈ l, Scalar1 v
  | v => Scalar1 v
def Scalar : AV → Prop
  | .tup l => ∀ v ∈ l, Scalar2 v
  | v => Scalar2 v
def pureC (F : List AV → QR) (args : List AV) (K : AV → List AV → Prop) : Prop :=
  match F args with
  | some (O, v) => (∀ p, O = some p → p) ∧ K v []
  | none => False
def CtrOK (P : Program) (f : Nat) : Ctr → Prop
  | .pure F => (∀ args O v, F args = some (O, v) → Scalar v) ∧ Snd P f (pureC F)
  | .gen _ C => Snd P f C
def Callable (P : Program) (f : Nat) : Prop := ∃ fn, P.funcs[f]? = some fn ∧ fn.body.isNone = false ∧ (fn.name == "runtime.NumGoroutine") = false
structure CtxOK (P : Program) (E : Ctx) : Prop where
  tab : TabOK P E.T
  ctr : ∀ f c, E.C f = some c → CtrOK P f c ∧ Callable P f
theorem gHolds_iff {s : AS} {g : List (Nat × Bool)} : gHolds s g ↔ ∀ x ∈ g, (match (s.env x.1).v with | .bool b => b = x.2 | _ => False) := by
  induction g with
  | nil => simp [gHolds]
  | cons x g ih =>
    obtain ⟨t, p⟩ := x
    simp only [gHolds, ih, List.mem_cons, forall_eq_or_imp]
    exact Iff.rfl
theorem mentG_mem {d : Nat} {g : List (Nat × Bool)} (h : mentG d g = false) : ∀ x ∈ g, x.1 ≠ d := by
  induction g with
  | nil => simp
  | cons x g ih =>
    obtain ⟨t, p⟩ := x
    simp only [mentG] at h
    split at h
    · cases h
    · rename_i hb
      intro y hy
      simp at hy
      rcases hy with rfl | hy
      · intro e
        have e' : t = d := e
        subst e'
        rw [Nat.beq_refl] at hb; cases hb
      · exact ih h y hy
theorem mentG_sub {d : Nat} {g g' : List (Nat × Bool)} (h : mentG d g = false) (hs : ∀ x ∈ g', x ∈ g) : mentG d g' = false := by
  induction g' with
  | nil => rfl
  | cons x g' ih =>
    obtain ⟨t, p⟩ := x
    have hne := mentG_mem h (t, p) (hs _ (by simp))
    simp only [mentG]
    have : Nat.beq t d = false := by
      cases e : Nat.beq t d with
      | true => exact absurd (Nat.eq_of_beq_eq_true e) hne
      | false => rfl
    rw [this]
    exact ih (fun x hx => hs x (by simp [hx]))
theorem putE_same (env : Nat → Ent) (d : Nat) (e : Ent) : putE env d e d = e := by
  unfold putE; rw [Nat.beq_refl]
theorem putE_ne (env : Nat → Ent) {d t : Nat} (e : Ent) (h : t ≠ d) : putE env d e t = purge d (env t) := by
  unfold putE
  cases e' : Nat.beq t d with
  | true => exact absurd (Nat.eq_of_beq_eq_true e') h
  | false => rfl
theorem purge_cases (d : Nat) (e : Ent) : (mentG d e.g = false ∧ purge d e = e) ∨ purge d e = ⟨[], .opq⟩ := by
  obtain ⟨g, v⟩ := e
  unfold purge
  simp only
  split
  · exact .inr rfl
  · rename_i h; exact .inl ⟨h, rfl⟩
theorem gHolds_put {s : AS} {d : Nat} {e : Ent} {L U} {g : List (Nat × Bool)} (hg : mentG d g = false) (hcl : ∀ y ∈ g, ∀ z ∈ (s.env y.1).g, z ∈ g) : gHolds ⟨putE s.env d e, L, U⟩ g ↔ gHolds s g := by
  rw [gHolds_iff, gHolds_iff]
  refine forall_congr' fun x => ?_
  refine imp_congr_right fun hx => ?_
  have hne := mentG_mem hg x hx
  have e1 : putE s.env d e x.1 = s.env x.1 := by
    rw [putE_ne _ _ hne]
    rcases purge_cases d (s.env x.1) with ⟨_, h⟩ | h
    · exact h
    · have := mentG_sub hg (g' := (s.env x.1).g) (hcl x hx)
      rcases h2 : s.env x.1 with ⟨g2, v2⟩
      rw [h2] at this
      unfold purge; simp only at this ⊢; rw [this]
  simp only [e1]
theorem StP.turn {n : Nat} {s : AS} {a : Act} (h : StP B n s a w ν γ) (st : Step B s.used ν γ w U' ν' γ' w' L') : StP B n ⟨s.env, L', U'⟩ a w' ν' γ' :=
  ⟨h.defers, h.size, st.mem, fun t hg => st.rep (h.env t (by
    rw [gHolds_iff] at hg ⊢; exact hg)), st.locs, h.closed, fun t b hb => by
    have := h.live t b hb
    rw [gHolds_iff] at this ⊢; exact this, fun id v hp => ⟨st.used id (h.pins id v hp).1, (st.names id (h.pins id v hp).1).trans (h.pins id v hp).2⟩⟩
theorem tmps_put {a : Act} {d t : Nat} {x : Value} : (a.put (some d) x).tmps.getD t undef = if t = d ∧ d < a.tmps.size then x else a.tmps.getD t undef := by
  simp only [Act.put, Array.getD_eq_getD_getElem?, Array.getElem?_setIfInBounds]
  by_cases h : t = d
  · subst h
    by_cases h2 : t < a.tmps.size <;> simp [h2]
  · simp [h, Ne.symm h]
theorem StP.put {n : Nat} {s : AS} {a : Act} (h : StP B n s a w ν γ) {d : Nat} {g : List (Nat × Bool)} {v : AV} {x : Value} (hd : d < n) (hg : mentG d g = false) (hr : gHolds s g → Rep s.used ν γ w x v) (hlive : ∀ b, x = .bool b → gHolds s g)
    (hcl : ∀ y ∈ g, ∀ z ∈ (s.env y.1).g, z ∈ g) : StP B n ⟨putE s.env d ⟨g, v⟩, s.locs, s.used⟩ (a.put (some d) x) w ν γ := by
  have hsz : d < a.tmps.size := by rw [h.size]; exact hd
  refine ⟨h.defers, by simp [Act.put, h.size], h.mem, fun t hgt => ?_, h.locs, fun t y hy z hz => ?_, fun t b hb => ?_, h.pins⟩
  · rw [tmps_put]
    by_cases e : t = d
    · subst e
      rw [if_pos ⟨rfl, hsz⟩]
      simp only [putE_same] at hgt ⊢
      exact hr ((gHolds_put hg hcl).1 hgt)
    · rw [if_neg (by simp [e])]
      simp only [putE_ne _ _ e] at hgt ⊢
      rcases purge_cases d (s.env t) with ⟨hm, hp⟩ | hp
      · rw [hp] at hgt ⊢
        exact h.env t ((gHolds_put hm (h.closed t)).1 hgt)
      · rw [hp]; exact .opq _
  · by_cases e : t = d
    · subst e
      simp only [putE_same] at hy ⊢
      have hne := mentG_mem hg y hy
      simp only [putE_ne _ _ hne] at hz
      rcases purge_cases t (s.env y.1) with ⟨_, hp⟩ | hp
      · rw [hp] at hz; exact hcl y hy z hz
      · rw [hp] at hz; simp at hz
    · simp only [putE_ne _ _ e] at hy ⊢
      rcases purge_cases d (s.env t) with ⟨hm, hp⟩ | hp
      · rw [hp] at hy ⊢
        have hne := mentG_mem hm y hy
        simp only [putE_ne _ _ hne] at hz
        rcases purge_cases d (s.env y.1) with ⟨_, hp2⟩ | hp2
        · rw [hp2] at hz; exact h.closed t y hy z hz
        · rw [hp2] at hz; simp at hz
      · rw [hp] at hy; simp at hy
  · rw [tmps_put] at hb
    by_cases e : t = d
    · subst e
      rw [if_pos ⟨rfl, hsz⟩] at hb
      simp only [putE_same]
      exact (gHolds_put hg hcl).2 (hlive b hb)
    · rw [if_neg (by simp [e])] at hb
      simp only [putE_ne _ _ e]
      rcases purge_cases d (s.env t) with ⟨hm, hp⟩ | hp
      · rw [hp]; exact (gHolds_put hm (h.closed t)).2 (h.live t b hb)
      · rw [hp]; trivial
def Agree (d : Option Nat) (s s' : AS) : Prop := ∀ t, d ≠ some t → (s.env t).g = [] → s'.env t = s.env t
theorem putE_agree {env : Nat → Ent} {d t : Nat} {e : Ent} (h : t ≠ d) (hg : (env t).g = []) : putE env d e t = env t := by
  rw [putE_ne _ _ h]
  unfold purge
  rcases h2 : env t with ⟨g, v⟩
  rw [h2] at hg
  simp only at hg; subst hg
  rfl
def Next (B : Base) (n : Nat) (s : AS) (d : Option Nat) (K : AS → Prop) (a : Act) (w : World) : Prop := ∃ s', K s' ∧ Agree d s s' ∧ St B n s' a w
theorem setK_sound {n : Nat} {s : AS} {a : Act} {K} {d : Option Nat} {g} {v : AV} {x : Value} (h : StP B n s a w ν γ) (hk : setK n s d g v K) (hr : gHolds s g → Rep s.used ν γ w x v) (hlive : ∀ b, x = .bool b → gHolds s g)
    (hcl : ∀ y ∈ g, ∀ z ∈ (s.env y.1).g, z ∈ g) : Next B n s d K (a.put d x) w := by
  unfold setK at hk
  rw [fv_eq] at hk
  split at hk
  · split at hk
    · rename_i hm hlt
      exact ⟨_, hk, fun t ht hg => putE_agree (fun e => ht (by rw [e])) hg, ν, γ, h.put (Nat.le_of_ble_eq_true hlt) hm hr hlive hcl⟩
    · exact hk.elim
  · exact ⟨_, hk, fun _ _ _ => rfl, ν, γ, h⟩
theorem setM_sound {n : Nat} {s : AS} {a : Act} {K} {d : Option Nat} {v : AV} {x : Value} (h : StP B n s a w ν γ) (st : Step B s.used ν γ w U' ν' γ' w' L') (hk : setM n s d v L' U' K) (hr : Rep U' ν' γ' w' x v) : Next B n s d K (a.put d x) w' := by
  unfold setM at hk
  rw [fv_eq] at hk
  split at hk
  · split at hk
    · rename_i hlt
      exact ⟨_, hk, fun t ht hg => putE_agree (fun e => ht (by rw [e])) hg, ν', γ', (h.turn st).put (g := []) (Nat.le_of_ble_eq_true hlt) rfl (fun _ => hr) (fun _ _ => trivial) (by simp)⟩
    · exact hk.elim
  · exact ⟨_, hk, fun _ _ _ => rfl, ν', γ', h.turn st⟩
theorem Scalar1.closed {v} (h : Scalar1 v) : Closed v := by cases v <;> first | trivial | exact h.elim
theorem scal1_rep {x v} (hs : scal1 v = true) (h : Rep U ν γ w x v) : Rep U' ν' γ' w' x v := by
  cases h <;> simp [scal1] at hs
  · exact .int _ _
  · exact .bool _
  · exact .str _ (by assumption)
theorem scal_rep {x v} (hs : scal v = true) (h : Rep U ν γ w x v) : Rep U' ν' γ' w' x v := by
  cases v with
  | tup l =>
    cases h with
    | tup xs _ e h =>
      refine .tup xs l e fun i hi => ?_
      have : scal1 (l.getD i .opq) = true := by
        simp only [scal, List.all_eq_true] at hs
        rw [List.getD_eq_getElem?_getD, List.getElem?_eq_getElem hi]
        exact hs _ (List.getElem_mem hi)
      exact scal1_rep this (h i hi)
  | _ => first | exact scal1_rep hs h | (simp [scal, scal1] at hs)
theorem cells_rep {S xs vs} (h : ICs γ w S xs vs) : (∀ v ∈ vs, Scalar1 v) → xs.length = vs.length ∧ (∀ x ∈ xs, x.oneCell' = true) ∧ ∀ i, i < vs.length → Rep U' ν' γ w (xs.getD i undef) (vs.getD i .opq) := by
  induction h with
  | nil => intro _; exact ⟨rfl, by simp, by simp⟩
  | cons h _ ih =>
    intro hs
    obtain ⟨e, h1, hr⟩ := ih (fun v hv => hs v (by simp [hv]))
    refine ⟨by simp [e], ?_, fun i hi => ?_⟩
    · intro y hy
      simp at hy
      rcases hy with rfl | hy
      · exact h.one
      · exact h1 y hy
    cases i with
    | zero =>
      have hv := hs _ (List.mem_cons_self ..)
      cases h with
      | per h _ => simpa using h.closed hv.closed
      | own0 => exact hv.elim
      | own => exact hv.elim
      | dp0 => exact hv.elim
      | dp => exact hv.elim
      | wr => exact hv.elim
    | succ i => simpa using hr i (by simpa using hi)
theorem scalar2_rep {S x v} (hs : Scalar2 v) (h : IV γ w S x v) : Rep U' ν' γ w x v := by
  cases h with
  | cell h =>
    cases h with
    | per h h1 =>
      cases v with
      | st l => cases h; simp [Value.oneCell'] at h1
      | _ => exact h.closed (Scalar1.closed hs)
    | own0 => exact (hs : False).elim
    | own => exact (hs : False).elim
    | dp0 => exact (hs : False).elim
    | dp => exact (hs : False).elim
    | wr => exact (hs : False).elim
  | st h =>
    obtain ⟨e, h1, hr⟩ := cells_rep h hs
    exact .st _ _ e h1 hr
theorem scalar_rep {S x v} (hs : Scalar v) (h : IR γ w S x v) : Rep U' ν' γ w x v := by
  cases h with
  | one h =>
    cases v with
    | tup l =>
      cases h with
      | cell h =>
        cases h with
        | per h h1 => cases h; simp [Value.oneCell'] at h1
    | _ => exact scalar2_rep hs h
  | tup h =>
    rename_i xs vs
    have key : ∀ {S xs vs}, IVs γ w S xs vs → (∀ v ∈ vs, Scalar2 v) → xs.length = vs.length ∧ ∀ i, i < vs.length → Rep U' ν' γ w (xs.getD i undef) (vs.getD i .opq) := by
      intro S xs vs h
      induction h with
      | nil => intro _; exact ⟨rfl, by simp⟩
      | cons h _ ih =>
        intro hs
        obtain ⟨e, hr⟩ := ih (fun v hv => hs v (by simp [hv]))
        refine ⟨by simp [e], fun i hi => ?_⟩
        cases i with
        | zero => simpa using scalar2_rep (hs _ (by simp)) h
        | succ i => simpa using hr i (by simpa using hi)
    obtain ⟨e, hr⟩ := key h hs
    exact .tup _ _ e hr
  | ref b hrow h => exact (hs : False).elim
theorem noLp_one {v : AV} {r : List AV} (h : noLp (v :: r) = true) : noLp [v] = true := by
  cases v with
  | fn f caps =>
    cases caps with
    | nil => rfl
    | cons c cs => cases h
  | lp id off => cases h
  | ep E l i off => cases h
  | _ => rfl
theorem noLp_given {own : Md} (ho : own = .ps) : ∀ (vs vs' : List AV) (xs : List Value) (γ : Nat → Nat) (L L' : Locs), Mem B γ w → LocsOK B U ν γ w L → xs.length = vs.length → (∀ i, i < vs.length → Rep U ν γ w (xs.getD i undef) (vs.getD i .opq)) →
    argL own L vs = some (vs', L') → noLp vs = true → ∃ γ', Frz B U ν γ w L γ' L' ∧ IAs γ' w [] xs vs'
  | [], vs', xs, γ, L, L', hm, hl, hlen, hr, hp, hn => by
    simp only [argL, Option.some.injEq, Prod.mk.injEq] at hp; obtain ⟨rfl, rfl⟩ := hp
    have : xs = [] := List.length_eq_zero_iff.1 hlen
    subst this
    exact ⟨γ, .refl hm hl, .nil⟩
  | v :: r, vs', xs, γ, L, L', hm, hl, hlen, hr, hp, hn => by
    simp only [argL] at hp
    split at hp
    case h_2 => cases hp
    rename_i v' L1 h1
    split at hp
    case h_2 => cases hp
    rename_i r' L2 h2
    simp only [Option.some.injEq, Prod.mk.injEq] at hp; obtain ⟨rfl, rfl⟩ := hp
    cases xs with
    | nil => simp at hlen
    | cons x xs =>
      have hv := hr 0 (by simp)
      simp at hv
      have hone : ∃ γ1, Frz B U ν γ w L γ1 L1 ∧ IA γ1 w [] x v' := by
        unfold arg at h1
        split at h1
        · simp [noLp] at hn
        · simp only [Option.some.injEq, Prod.mk.injEq] at h1; obtain ⟨rfl, rfl⟩ := h1
          refine ⟨γ, .refl hm hl, ?_⟩
          cases hv with
          | fn _ _ xs hl' h =>
            have : xs = [] := List.length_eq_zero_iff.1 hl'
            subst this
            exact .fn _ [] [] rfl (by simp)
        · simp [noLp] at hn
        · simp [noLp] at hn
        · cases h1
        · rw [ho] at h1
          obtain ⟨γ', h3, h4⟩ := persistS_given hm hl hv h1
          exact ⟨γ', h3, .val h4⟩
      obtain ⟨γ1, f1, a1⟩ := hone
      have hn2 : noLp r = true := noLp_tail hn
      obtain ⟨γ2, f2, a2⟩ := noLp_given ho r r' xs γ1 L1 L2 f1.step.mem f1.step.locs (by simpa using hlen) (fun i hi => by
        have := f1.step.rep (hr (i + 1) (by simpa using hi))
        simpa using this) h2 hn2
      exact ⟨γ2, f1.trans f2, IAs.cons (S := []) (S' := []) (a1.keep f2.step.keeps (by simp)) a2⟩
theorem persist_noLs {v v'} (hn : noLs1 v = true) (hp : persist L v = some (v', L')) : L' = L := by
  unfold persist at hp
  split at hp <;> first | (simp [noLs1] at hn; done) | (cases hp; rfl) | cases hp
theorem persistL_noLs : ∀ {vs vs' : List AV} {L L' : Locs}, vs.all noLs1 = true → persistL L vs = some (vs', L') → L' = L
  | [], _, _, _, _, hp => by simp only [persistL, Option.some.injEq, Prod.mk.injEq] at hp; exact hp.2.symm
  | v :: r, vs', L, L', hn, hp => by
    simp only [List.all_cons, Bool.and_eq_true] at hn
    simp only [persistL] at hp
    split at hp
    case h_2 => cases hp
    rename_i h1
    split at hp
    case h_2 => cases hp
    rename_i h2
    simp only [Option.some.injEq, Prod.mk.injEq] at hp; obtain ⟨rfl, rfl⟩ := hp
    rw [persistL_noLs hn.2 h2, persist_noLs hn.1 h1]
theorem persist_rep {x v v'} (hn : noLs1 v = true) (hp : persist L v = some (v', L')) (h : Rep U ν γ w x v) : Rep U ν γ w x v' := by
  unfold persist at hp
  split at hp <;> first | (simp [noLs1] at hn; done) | (cases hp; exact h) | (cases hp; cases h; exact .ps _ [] none 0 (fun _ => undef) (Nat.zero_le _) (Nat.le_refl _) (.inl rfl) (by simp) (by simp)) | cases hp
theorem persistL_len : ∀ {vs vs' : List AV} {L L' : Locs}, persistL L vs = some (vs', L') → vs'.length = vs.length
  | [], _, _, _, hp => by simp only [persistL, Option.some.injEq, Prod.mk.injEq] at hp; rw [← hp.1]
  | v :: r, vs', L, L', hp => by
    simp only [persistL] at hp
    split at hp
    case h_2 => cases hp
    split at hp
    case h_2 => cases hp
    rename_i h2
    simp only [Option.some.injEq, Prod.mk.injEq] at hp; obtain ⟨rfl, rfl⟩ := hp
    simp [persistL_len h2]
theorem persistL_rep : ∀ {vs vs' : List AV} {xs : List Value} {L L' : Locs}, vs.all noLs1 = true → persistL L vs = some (vs', L') → xs.length = vs.length → (∀ i, i < vs.length → Rep U ν γ w (xs.getD i undef) (vs.getD i .opq)) →
    ∀ i, i < vs'.length → Rep U ν γ w (xs.getD i undef) (vs'.getD i .opq)
  | [], _, _, _, _, _, hp, _, _ => by simp only [persistL, Option.some.injEq, Prod.mk.injEq] at hp; rw [← hp.1]; simp
  | v :: r, vs', xs, L, L', hn, hp, hl, hr => by
    simp only [List.all_cons, Bool.and_eq_true] at hn
    simp only [persistL] at hp
    split at hp
    case h_2 => cases hp
    rename_i h1
    split at hp
    case h_2 => cases hp
    rename_i h2
    simp only [Option.some.injEq, Prod.mk.injEq] at hp; obtain ⟨rfl, rfl⟩ := hp
    cases xs with
    | nil => simp at hl
    | cons x xs =>
      intro i hi
      cases i with
      | zero =>
        have := hr 0 (by simp)
        simp at this ⊢
        exact persist_rep hn.1 h1 this
      | succ i =>
        have := persistL_rep (xs := xs) hn.2 h2 (by simpa using hl) (fun i hi => by
          have := hr (i + 1) (by simpa using hi)
          simpa using this) i (by simpa using hi)
        simpa using this
theorem argL_noLs : ∀ {vs vs' : List AV} {L L' : Locs}, noLp vs = true → noLs vs = true → argL .ps L vs = some (vs', L') → L' = L
  | [], _, _, _, _, _, hp => by simp only [argL, Option.some.injEq, Prod.mk.injEq] at hp; exact hp.2.symm
  | v :: r, vs', L, L', hn, hs, hp => by
    simp only [argL] at hp
    split at hp
    case h_2 => cases hp
    rename_i h1
    split at hp
    case h_2 => cases hp
    rename_i h2
    simp only [Option.some.injEq, Prod.mk.injEq] at hp; obtain ⟨rfl, rfl⟩ := hp
    have hn2 : noLp r = true := noLp_tail hn
    have hs2 : noLs r = true := by cases v <;> simp_all [noLs]
    rw [argL_noLs hn2 hs2 h2]
    unfold arg at h1
    split at h1
    · simp [noLp] at hn
    · cases h1; rfl
    · simp [noLp] at hn
    · simp [noLp] at hn
    · cases h1
    · simp only at h1
      unfold persistS at h1
      split at h1
      · split at h1
        case h_2 => cases h1
        rename_i h3
        cases h1
        simp only [noLs, Bool.and_eq_true] at hs
        exact persistL_noLs hs.1 h3
      · refine persist_noLs ?_ h1
        cases v <;> first | rfl | (simp [noLs] at hs)
theorem noLs_given : ∀ (vs vs' : List AV) (xs : List Value) (L L' : Locs), Mem B γ w → LocsOK B U ν γ w L → xs.length = vs.length → (∀ i, i < vs.length → Rep U ν γ w (xs.getD i undef) (vs.getD i .opq)) →
    argL .ps L vs = some (vs', L') → noLp vs = true → noLs vs = true → IAs γ w [] xs vs'
  | [], vs', xs, L, L', hm, hl, hlen, hr, hp, hn, hs => by
    simp only [argL, Option.some.injEq, Prod.mk.injEq] at hp; obtain ⟨rfl, rfl⟩ := hp
    have : xs = [] := List.length_eq_zero_iff.1 hlen
    subst this
    exact .nil
  | v :: r, vs', xs, L, L', hm, hl, hlen, hr, hp, hn, hs => by
    have hn2 : noLp r = true := noLp_tail hn
    have hs2 : noLs r = true := by cases v <;> simp_all [noLs]
    simp only [argL] at hp
    split at hp
    case h_2 => cases hp
    rename_i v' L1 h1
    split at hp
    case h_2 => cases hp
    rename_i r' L2 h2
    simp only [Option.some.injEq, Prod.mk.injEq] at hp; obtain ⟨rfl, rfl⟩ := hp
    have e1 : L1 = L := argL_noLs (vs := [v]) (vs' := [v']) (noLp_one hn) (by cases v <;> simp_all [noLs]) (by simp only [argL, h1])
    cases xs with
    | nil => simp at hlen
    | cons x xs =>
      have hv := hr 0 (by simp)
      simp at hv
      have a1 : IA γ w [] x v' := by
        unfold arg at h1
        split at h1
        · simp [noLp] at hn
        · cases h1
          cases hv with
          | fn _ _ xs hl' h =>
            have : xs = [] := List.length_eq_zero_iff.1 hl'
            subst this
            exact .fn _ [] [] rfl (by simp)
        · simp [noLp] at hn
        · simp [noLp] at hn
        · cases h1
        · simp only at h1
          unfold persistS at h1
          split at h1
          · split at h1
            case h_2 => cases h1
            rename_i h3
            cases h1
            cases hv with
            | st ys _ hl' h1' hr' =>
              refine .val (.st (ICs.of_cells (U := U) (ν := ν) ⟨?_, h1', ?_⟩ (persistL_closed _ _ _ _ h3)))
              · rw [hl']; exact (persistL_len h3).symm
              · simp only [noLs, Bool.and_eq_true] at hs
                exact persistL_rep hs.1 h3 hl' hr'
          · obtain ⟨hc, h3, h4, h5⟩ := persist_closed h1
            have hq : Rep U ν γ w x v' := persist_rep (by cases v <;> first | rfl | (simp [noLs] at hs)) h1 hv
            exact .val (.cell (.per (hq.closed hc) (rep_one hv h3 h4 h5)))
      rw [e1] at h2
      exact IAs.cons (S := []) (S' := []) a1 (noLs_given r r' xs L L2 hm hl (by simpa using hlen) (fun i hi => by
        have := hr (i + 1) (by simpa using hi)
        simpa using this) h2 hn2 hs2)
end Go.Rs
end
section
namespace Go.Rs
variable {P : Program} {B : Base} {U U' U'' : Nat → Bool} {ν ν' ν'' : Nat → Value} {γ γ' γ'' : Nat → Nat} {w w' w'' : World} {L L' L'' : Locs}
theorem Fr.keeps {S : List Nat} (hf : Fr S γ w γ' w') (hm : ∀ b, w.heap.size ≤ b → γ b = 0) : Keeps γ w γ' w' := by
  have key : ∀ b o, b ∉ S → o < γ b → w'.heap[b]? = w.heap[b]? ∧ γ' b = γ b := by
    intro b o hS ho
    have hlt : b < w.heap.size := by
      rcases Nat.lt_or_ge b w.heap.size with h | h
      · exact h
      · rw [hm b h] at ho; omega
    exact hf.block b hlt hS
  refine ⟨fun b => ?_, fun b o ho => ?_⟩
  · by_cases hS : b ∈ S
    · exact (hf.hold b hS).1
    · rcases Nat.eq_zero_or_pos (γ b) with h | h
      · omega
      · rw [(key b 0 hS h).2]; exact Nat.le_refl _
  · by_cases hS : b ∈ S
    · exact (hf.hold b hS).2 o ho
    · exact cell_eq (key b o hS ho).1
theorem Fr.mem {S : List Nat} (hf : Fr S γ w γ' w') (hok : ∀ b ∈ S, B.ok b) (hm : Mem B γ w) : Mem B γ' w' := by
  refine ⟨hf.os.trans hm.os, hf.tape.trans hm.tape, hf.output.trans hm.output, Nat.le_trans hm.size hf.size, fun b hb hmay => ?_, hf.fresh, hm.keeps.trans (hf.keeps hm.fresh)⟩
  have hnot : b ∉ S := fun h => by
    rcases hok b h with h | h
    · omega
    · exact hmay h
  obtain ⟨h1, h2⟩ := hf.block b (Nat.lt_of_lt_of_le hb hm.size) hnot
  obtain ⟨h3, h4⟩ := hm.block b hb hmay
  exact ⟨h1.trans h3, h2.trans h4⟩
theorem Fr.locs {S : List Nat} (hf : Fr S γ w γ' w') (hm : ∀ b, w.heap.size ≤ b → γ b = 0) (hl : LocsOK B U ν γ w L) (hout : ∀ b ∈ S, ∀ id c, L id = some c → ¬ Owns ν w id c b) : LocsOK B U ν γ' w' L :=
  hl.keepAll (hf.keeps hm) (fun _ h => h) (fun _ _ => rfl) fun id c b hc ho => hf.block b ((hl.ok id c hc).lt ho) (fun hb => hout b hb id c hc ho)
theorem Step.of_pure (hm : Mem B γ w) (hl : LocsOK B U ν γ w L) (hf : Fr [] γ' w γ'' w') (hmem : ∀ b, w.heap.size ≤ b → γ b = 0) : Step B U ν γ w U ν γ w' L := by
  have hf' : Fr [] γ w γ w' := ⟨hf.os, hf.tape, hf.output, hf.size, fun b hb hn => ⟨(hf.block b hb hn).1, rfl⟩, fun b hb => hmem b (Nat.le_trans hf.size hb), by simp⟩
  exact ⟨hf'.mem (by simp) hm, hf'.locs hmem hl (by simp), hf'.keeps hmem, fun _ h => h, fun _ _ => rfl⟩
theorem pf_some {F : List AV → QR} {args as : List AV} {O : Option Prop} {v : AV} (h : pf F args as = some (O, v)) : F as = some (O, v) ∧ (scal v = true ∨ noLs args = true) := by
  unfold pf at h
  split at h
  case h_2 => cases h
  rename_i O' v' hF
  split at h
  · rename_i hs; cases h; exact ⟨hF, .inl hs⟩
  · split at h
    · rename_i hn; cases h; exact ⟨hF, .inr hn⟩
    · cases h
theorem pure_sound {n : Nat} {s : AS} {a : Act} {f : Nat} {F : List AV → QR} {args as : List AV} {L1 : Locs} {xs : List Value} {O : Option Prop} {v : AV} (hC : CtrOK P f (.pure F)) (h : StP B n s a w ν γ)
    (ha : argL .ps s.locs args = some (as, L1)) (hn : noLp args = true) (hF : pf F args as = some (O, v)) (hO : ∀ p, O = some p → p)
    (hlen : xs.length = args.length) (hrep : ∀ i, i < args.length → Rep s.used ν γ w (xs.getD i undef) (args.getD i .opq)) :
    Calls P f xs.toArray w fun e w' => ∃ x γ', e = .returned x ∧ StP B n s a w' ν γ' ∧ Rep s.used ν γ' w' x v := by
  obtain ⟨hF, hcase⟩ := pf_some hF
  have hs := hC.1 as O v hF
  rcases hcase with hsc | hls
  · obtain ⟨γ1, f1, a1⟩ := noLp_given rfl args as xs γ s.locs L1 h.mem h.locs hlen hrep ha hn
    refine Calls.mono (hC.2 as (fun r rs => r = v ∧ rs = []) ?_ w γ1 [] xs a1 .nil f1.step.mem.fresh h.mem.tabs (by simp)) ?_
    · simp only [pureC, hF]; exact ⟨hO, by simp⟩
    · rintro e w' ⟨r, rs, x, γ', Sr, Sq, ⟨rfl, rfl⟩, rfl, hr, -, -, hf, -⟩
      have st := Step.of_pure (B := B) h.mem h.locs hf h.mem.fresh
      exact ⟨x, γ, rfl, h.turn st, scal_rep hsc (scalar_rep (U' := noU) (ν' := noν) hs hr)⟩
  · have a1 := noLs_given args as xs s.locs L1 h.mem h.locs hlen hrep ha hn hls
    refine Calls.mono (hC.2 as (fun r rs => r = v ∧ rs = []) ?_ w γ [] xs a1 .nil h.mem.fresh h.mem.tabs (by simp)) ?_
    · simp only [pureC, hF]; exact ⟨hO, by simp⟩
    · rintro e w' ⟨r, rs, x, γ', Sr, Sq, ⟨rfl, rfl⟩, rfl, hr, -, -, hf, -⟩
      have st : Step B s.used ν γ w s.used ν γ' w' s.locs := ⟨hf.mem (by simp) h.mem, hf.locs h.mem.fresh h.locs (by simp), hf.keeps h.mem.fresh, fun _ h => h, fun _ _ => rfl⟩
      exact ⟨x, γ', rfl, h.turn st, scalar_rep hs hr⟩
theorem gen_sound {n : Nat} {s : AS} {a : Act} {f : Nat} {own : Md} {C} {args as : List AV} {L1 : Locs} {xs : List Value} {d : Option Nat} {m : Nat} {K} (hC : Snd P f C) (h : StP B n s a w ν γ)
    (ha : argL own s.locs args = some (as, L1)) (hk : C as fun r rs => match takeR L1 s.used m r with
      | some (v, L', U', n') => match backL L' U' n' (tgt args as) rs with
        | some (L'', U'') => setM n s d v L'' U'' K
        | none => False
      | none => False)
    (hlen : xs.length = args.length) (hrep : ∀ i, i < args.length → Rep s.used ν γ w (xs.getD i undef) (args.getD i .opq)) :
    Calls P f xs.toArray w fun e w' => ∃ x, e = .returned x ∧ Next B n s d K (a.put d x) w' := by
  obtain ⟨γ1, S, hh, hi, hrel⟩ := argL_sound args as xs γ s.locs L1 h.mem h.locs hlen hrep ha
  refine Calls.mono (hC as _ hk w γ1 S xs hi hh.given.nodup hh.mem.fresh hh.mem.tabs fun b hb => B.ok_tab (hh.given.ok b hb)) ?_
  rintro e w' ⟨r, rs, x, γ', Sr, Sq, hK, rfl, hr, hq, hnd, hf, hS⟩
  have hl := hf.locs hh.mem.fresh hh.locs hh.given.out
  have hd : ∀ b ∈ Sr ++ Sq, ∀ id c, L1 id = some c → ¬ Owns ν w' id c b := by
    intro b hb id c hc ho
    have hown : ∀ b, Owns ν w id c b → w'.heap[b]? = w.heap[b]? := fun b ho => (hf.block b ((hh.locs.ok id c hc).lt ho) (fun hb => hh.given.out b hb id c hc ho)).1
    have ho' := Owns.keep (hh.locs.ok id c hc) rfl hown ho
    rcases hS b hb with h1 | h1
    · exact hh.given.out b h1 id c hc ho'
    · exact Nat.not_lt.2 h1 ((hh.locs.ok id c hc).lt ho')
  have hok : ∀ b ∈ Sr ++ Sq, B.ok b := by
    intro b hb
    rcases hS b hb with h1 | h1
    · exact hh.given.ok b h1
    · exact .inl (Nat.le_trans h.mem.size h1)
  split at hK
  case h_2 => exact hK.elim
  rename_i v L' U' n' ht
  split at hK
  case h_2 => exact hK.elim
  rename_i L'' U'' hb
  obtain ⟨ν1, t1, r1⟩ := takeR_sound hl hr (List.nodup_append.1 hnd).1 (fun b hb => hd b (by simp [hb])) (fun b hb => hok b (by simp [hb])) ht
  obtain ⟨ν2, t2⟩ := backL_sound (tgt args as) (refVals as xs) rs Sq L' L'' U' U'' ν1 n' t1.locs ((tgt_rep hi hrel (repL_of hlen hrep)).keep t1.used t1.names) hq (List.nodup_append.1 hnd).2.1 (t1.disj hnd hd) (fun b hb => hok b (by simp [hb])) hb
  have st : Step B s.used ν γ w U'' ν2 γ' w' L'' := ⟨hf.mem hh.given.ok hh.mem, t2.locs, hh.keeps.trans (hf.keeps hh.mem.fresh), fun id hi => t2.used id (t1.used id hi), fun id hi => (t2.names id (t1.used id hi)).trans (t1.names id hi)⟩
  exact ⟨x, rfl, setM_sound h st hK (t2.rep r1)⟩
theorem acall_sound {E : Ctx} {s : AS} {a : Act} {f : Nat} {args : List AV} {xs : List Value} {d : Option Nat} {K} (hE : CtxOK P E) (h : StP B E.N s a w ν γ) (hk : acall E s d f args K)
    (hlen : xs.length = args.length) (hrep : ∀ i, i < args.length → Rep s.used ν γ w (xs.getD i undef) (args.getD i .opq)) :
    Calls P f xs.toArray w fun e w' => ∃ x, e = .returned x ∧ Next B E.N s d K (a.put d x) w' := by
  unfold acall at hk
  split at hk
  · rename_i F hc
    split at hk
    case h_2 => exact hk.elim
    rename_i as L1 ha hn
    split at hk
    case h_2 => exact hk.elim
    rename_i O v hF
    have hO : (∀ p, O = some p → p) ∧ setK E.N s d [] v K := by
      cases O with
      | none => exact ⟨by simp, hk⟩
      | some p => exact ⟨fun q hq => by cases hq; exact hk.1, hk.2⟩
    refine Calls.mono (pure_sound (hE.ctr f _ hc).1 h ha hn hF hO.1 hlen hrep) ?_
    rintro e w' ⟨x, γ', rfl, h', hr⟩
    exact ⟨x, rfl, setK_sound h' hO.2 (fun _ => hr) (fun _ _ => trivial) (by simp)⟩
  · rename_i own C hc
    split at hk
    case h_2 => exact hk.elim
    rename_i as L1 ha
    exact gen_sound (hE.ctr f _ hc).1 h ha hk hlen hrep
  · exact hk.elim
theorem run_callFunc {f : Nat} {args : Array Value} (hc : Callable P f) : (callFunc f args).run P w = .ok (.enter f args) w := by
  obtain ⟨fn, h1, h2, h3⟩ := hc
  have h2' : fn.body ≠ none := fun e => by rw [e] at h2; cases h2
  have h3' : fn.name ≠ "runtime.NumGoroutine" := fun e => by rw [e] at h3; simp at h3
  simp [callFunc, Sem.run_bind, h1, h2', h3']
end Go.Rs
end
section
namespace Go.Rs
variable {P : Program} {B : Base} {U U' U'' : Nat → Bool} {ν ν' ν'' : Nat → Value} {γ γ' γ'' : Nat → Nat} {w w' w'' : World} {L L' L'' : Locs}
theorem memG_mem {x : Nat × Bool} {l : List (Nat × Bool)} (h : memG x l = true) : x ∈ l := by
  induction l with
  | nil => simp [memG] at h
  | cons y r ih =>
    simp only [memG, Bool.or_eq_true, Bool.and_eq_true] at h
    rcases h with ⟨h1, h2⟩ | h
    · have e1 := Nat.eq_of_beq_eq_true h1
      have e2 : x.2 = y.2 := by simpa using h2
      have : x = y := Prod.ext e1 e2
      simp [this]
    · simp [ih h]
theorem subG_sub {l g : List (Nat × Bool)} (h : subG l g = true) : ∀ x ∈ l, x ∈ g := by
  induction l with
  | nil => simp
  | cons y r ih =>
    simp only [subG, Bool.and_eq_true] at h
    intro x hx
    simp at hx
    rcases hx with rfl | hx
    · exact memG_mem h.1
    · exact ih h.2 x hx
theorem rep_opnd {n : Nat} {s : AS} {a : Act} (h : StP B n s a w ν γ) {g : List (Nat × Bool)} {x : Operand} (ho : okOpnd s g x = true) (hg : gHolds s g) : Rep s.used ν γ w (a.eval x) (s.rd x) := by
  cases x with
  | tmp t =>
    refine h.env t ?_
    rw [gHolds_iff] at hg ⊢
    exact fun y hy => hg y (subG_sub ho y hy)
  | const v => exact rep_const v
  | func f => exact .fn f [] [] rfl (by simp)
  | global g => exact .opq _
theorem okOpnds_all {s : AS} {g : List (Nat × Bool)} {l : List Operand} (h : okOpnds s g l = true) : ∀ x ∈ l, okOpnd s g x = true := by
  induction l with
  | nil => simp
  | cons y r ih =>
    simp only [okOpnds, Bool.and_eq_true] at h
    intro x hx
    simp at hx
    rcases hx with rfl | hx
    · exact h.1
    · exact ih h.2 x hx
theorem readable_of {n : Nat} {s : AS} {a : Act} (h : StP B n s a w ν γ) {g : List (Nat × Bool)} {o : Oper} (ho : okOps s g o = true) (hg : gHolds s g) (hp : ∀ c x y, o.op = .pick c x y → ∃ b, s.rd c = .bool b) :
    Readable s.used ν γ w s a.eval o.op := by
  obtain ⟨dst, op, type, pos, after, guard⟩ := o
  simp only at hp ⊢
  have whole : ∀ {l : List Operand}, okOpnds s g l = true → ∀ z ∈ l, Rep s.used ν γ w (a.eval z) (s.rd z) := fun hl z hz => rep_opnd h (okOpnds_all hl z hz) hg
  cases op with
  | pick c x y =>
    cases c with
    | tmp c =>
      simp only [okOps, Bool.and_eq_true] at ho
      obtain ⟨⟨h1, h2⟩, h3⟩ := ho
      have hc := rep_opnd h h1 hg
      obtain ⟨b, hb⟩ := hp _ _ _ rfl
      have hc' : Rep s.used ν γ w (a.eval (.tmp c)) (.bool b) := by rw [← hb]; exact hc
      have eb := rep_bool hc'
      have hbv : (s.env c).v = .bool b := hb
      refine ⟨hc, fun e => rep_opnd h h2 ⟨?_, hg⟩, fun e => rep_opnd h h3 ⟨?_, hg⟩⟩
      · simp only [hbv]; rw [eb] at e; cases e; rfl
      · simp only [hbv]; rw [eb] at e; cases e; rfl
    | _ =>
      have hc := whole ho
      exact ⟨hc _ (by simp [Op.operands]), fun _ => hc x (by simp [Op.operands]), fun _ => hc y (by simp [Op.operands])⟩
  | _ => exact whole ho
theorem operands_of {n : Nat} {s : AS} {a : Act} (h : StP B n s a w ν γ) {g : List (Nat × Bool)} {o : Oper} (ho : okOps s g o = true) (hg : gHolds s g) (hp : ∀ c x y, o.op ≠ .pick c x y) :
    ∀ z ∈ o.op.operands.toList, Rep s.used ν γ w (a.eval z) (s.rd z) := by
  have := readable_of h ho hg (fun c x y e => absurd e (hp c x y))
  obtain ⟨dst, op, type, pos, after, guard⟩ := o
  simp only at hp this ⊢
  cases op with
  | pick c x y => exact absurd rfl (hp c x y)
  | _ => exact this
theorem lval_nopick {T : Tab} {s : AS} {o : Oper} {r} (h : lval T s o = some r) : ∀ c x y, o.op ≠ .pick c x y := by
  intro c x y e
  unfold lval at h
  rw [e] at h
  simp at h
theorem qval_pick {T : Tab} {s : AS} {o : Oper} {r} (h : qval T s o = some r) : ∀ c x y, o.op = .pick c x y → ∃ b, s.rd c = .bool b := by
  intro c x y e
  unfold qval at h
  rw [e] at h
  simp only at h
  split at h
  · rename_i b _ _ e1 _ _; exact ⟨b, e1⟩
  · cases h
theorem rep_fn {x : Value} {f : Nat} {caps : List AV} (h : Rep U ν γ w x (.fn f caps)) : ∃ xs : List Value, x = .func (.func f) #[] xs.toArray ∧ xs.length = caps.length ∧ ∀ i, i < caps.length → Rep U ν γ w (xs.getD i undef) (caps.getD i .opq) := by
  cases h with
  | fn _ _ xs hl h => exact ⟨xs, rfl, hl, h⟩
theorem callOf_run {n : Nat} {s : AS} {a : Act} (h : StP B n s a w ν γ) {g : List (Nat × Bool)} {o : Oper} (ho : okOps s g o = true) (hg : gHolds s g) {f : Nat} {args : List AV} (hc : callOf s o = some (f, args)) (hf : Callable P f) :
    ∃ xs : List Value, (execOp a.eval o).run P w = .ok (.enter f xs.toArray) w ∧ xs.length = args.length ∧ ∀ i, i < args.length → Rep s.used ν γ w (xs.getD i undef) (args.getD i .opq) := by
  obtain ⟨dst, op, type, pos, after, guard⟩ := o
  unfold callOf at hc
  simp only at hc
  split at hc
  case h_2 => cases hc
  rename_i c
  split at hc
  case h_2 => cases hc
  rename_i cl hcl
  split at hc
  case h_2 => cases hc
  rename_i f' caps hrd
  simp only [Option.some.injEq, Prod.mk.injEq] at hc; obtain ⟨rfl, rfl⟩ := hc
  have hr := operands_of h ho hg (by intro _ _ _ e; cases e)
  have hrf := hr cl (by simp [Op.operands, Call.operands, hcl])
  rw [hrd] at hrf
  have hval := rep_fn hrf
  obtain ⟨xs, e, hl, hx⟩ := hval
  refine ⟨c.args.toList.map a.eval ++ xs, ?_, by simp [hl], ?_⟩
  · have : (execOp a.eval ⟨dst, .call c, type, pos, after, guard⟩).run P w = (callFunc f' (c.args.map a.eval ++ xs.toArray)).run P w := by
      simp [execOp, resolve, hcl, e, Deferred.ofValue, invoke]
    rw [this, run_callFunc hf]
    simp
  · intro i hi
    simp only [List.length_append, List.length_map] at hi
    rcases Nat.lt_or_ge i c.args.toList.length with h1 | h1
    · have hm := hr (c.args.toList[i]) (by simp [Op.operands, Call.operands])
      simp only [List.getD_eq_getElem?_getD]
      rw [List.getElem?_append_left (by simpa using h1), List.getElem?_append_left (by simpa using h1), List.getElem?_map, List.getElem?_map, List.getElem?_eq_getElem h1]
      exact hm
    · have h2 := hx (i - c.args.toList.length) (by omega)
      simp only [List.getD_eq_getElem?_getD] at h2 ⊢
      rw [List.getElem?_append_right (by simpa using h1), List.getElem?_append_right (by simpa using h1)]
      simpa using h2
theorem yielded_bool {ops : Array Oper} {a : Act} {j : Nat} {o' : Oper} {r : List Oper} {t : Nat} {b : Bool} (hj : ops.toList.drop j = o' :: r) (ht : o'.dst = some t) : yielded ops a.tmps j = some b ↔ a.tmps.getD t undef = .bool b := by
  have h1 : ops[j]? = some o' := by
    have : ops.toList[j]? = some o' := by
      have h2 : (ops.toList.drop j)[0]? = some o' := by rw [hj]; rfl
      simpa [List.getElem?_drop] using h2
    simpa using this
  unfold yielded
  simp only [h1, Option.bind_some, ht, Array.getD_eq_getD_getElem?]
  cases ha : a.tmps[t]? with
  | none => simp [undef]
  | some v =>
    simp only [Option.getD_some]
    cases v <;> simp
theorem wanted_iff {n : Nat} {s : AS} {a : Act} {ops : Array Oper} {o : Oper} {g : List (Nat × Bool)} (h : StP B n s a w ν γ) (hg : guardsOf ops.toList s o = some g) :
    (Region.wanted o (yielded ops a.tmps) = true ↔ gHolds s g) ∧ ∀ y ∈ g, ∀ z ∈ (s.env y.1).g, z ∈ g := by
  unfold guardsOf at hg
  split at hg
  · rename_i h0
    simp only [Option.some.injEq] at hg; subst hg
    exact ⟨by simp [Region.wanted, h0, gHolds], by simp⟩
  · rename_i j p h0
    split at hg
    case h_2 => cases hg
    rename_i o' r hj
    split at hg
    case h_2 => cases hg
    rename_i t ht
    split at hg
    case h_2 => cases hg
    rename_i b hb
    rw [seqG_eq] at hg
    simp only [Option.some.injEq] at hg; subst hg
    refine ⟨?_, fun y hy z hz => ?_⟩
    · have hy := yielded_bool (a := a) (b := p) hj ht
      simp only [Region.wanted, h0, beq_iff_eq]
      rw [hy]
      simp only [gHolds, hb]
      constructor
      · intro e
        have hl := h.live t p e
        have hr := h.env t hl
        rw [hb, e] at hr
        have := rep_bool hr
        cases this
        exact ⟨rfl, hl⟩
      · rintro ⟨rfl, hl⟩
        have hr := h.env t hl
        rw [hb] at hr
        exact rep_bool hr
    · simp at hy
      rcases hy with rfl | hy
      · simp [hz]
      · exact List.mem_cons_of_mem _ (h.closed t y hy z hz)
theorem gImp_iff {s : AS} {g : List (Nat × Bool)} {O : Prop} : gImp s g O ↔ (gHolds s g → O) := by
  induction g with
  | nil => simp [gImp, gHolds]
  | cons x g ih =>
    obtain ⟨t, p⟩ := x
    simp only [gImp, gHolds]
    split
    · rename_i b hb; rw [ih]; exact ⟨fun h h' => h h'.1 h'.2, fun h h1 h2 => h ⟨h1, h2⟩⟩
    · exact ⟨fun _ h => h.1.elim, fun _ => trivial⟩
theorem gDo_elim {s : AS} {O : Prop} : ∀ {g : List (Nat × Bool)}, gDo s g O → gHolds s g → O
  | [], h, _ => h
  | (t, p) :: r, h, hg => by
    simp only [gDo] at h
    simp only [gHolds] at hg
    split at h
    · rename_i b hb
      rw [hb] at hg
      exact gDo_elim (h.k hg.1) hg.2
    · rename_i hne
      split at hg
      · rename_i b hb; exact absurd hb (hne b)
      · exact hg.1.elim
theorem gNot_elim {s : AS} {K : Prop} : ∀ {g : List (Nat × Bool)}, gNot s g K → ¬ gHolds s g → K
  | [], _, hg => absurd trivial hg
  | (t, p) :: r, h, hg => by
    simp only [gNot] at h
    simp only [gHolds] at hg
    split at h
    · rename_i b hb
      rw [hb] at hg
      by_cases e : b = p
      · exact gNot_elim (h.2.k e) fun hr => hg ⟨e, hr⟩
      · exact h.1.k (by cases b <;> cases p <;> simp_all)
    · exact h
theorem ob_elim {s : AS} {g : List (Nat × Bool)} {O : Option Prop} {K : Prop} (h : ob s g O K) : (gHolds s g → ∀ p, O = some p → p) ∧ K := by
  unfold ob at h
  split at h
  · exact ⟨fun _ p hp => by simp at hp, h⟩
  · split at h
    · exact ⟨fun _ p hp => by cases hp; exact h.1, h.2⟩
    · exact ⟨fun hg p hp => by cases hp; exact (gImp_iff.1 h.1 hg).o, h.2⟩
theorem put_undef {n : Nat} {s : AS} {a : Act} {K} {d : Option Nat} {g} {v : AV} (h : StP B n s a w ν γ) (hk : setK n s d g v K) (hg : ¬ gHolds s g) (hcl : ∀ y ∈ g, ∀ z ∈ (s.env y.1).g, z ∈ g) : Next B n s d K (a.put d undef) w :=
  setK_sound h hk (fun h => absurd h hg) (fun b e => by simp [undef] at e) hcl
theorem aop_sound {E : Ctx} {s : AS} {a : Act} {ops : Array Oper} {o : Oper} {K} {Q : Exit → Act → World → Prop} {next : Act → World → Prop} (hE : CtxOK P E) (h : StP B E.N s a w ν γ) (hk : aop E ops.toList o s K)
    (hnext : ∀ a w, Next B E.N s o.dst K a w → next a w) : if Region.wanted o (yielded ops a.tmps) then o.wp P a w next Q else next (a.put o.dst undef) w := by
  -- a quiet one
  have quiet : ∀ {g : List (Nat × Bool)} {O v}, okOps s g o = true → gHolds s g → (∀ y ∈ g, ∀ z ∈ (s.env y.1).g, z ∈ g) → qval E.T s o = some (O, v) → ob s g O (setK E.N s o.dst g v K) → o.wp P a w next Q := by
    intro g O v ho hg hcl hq hob
    obtain ⟨h1, h2⟩ := ob_elim hob
    obtain ⟨x, hx, hr⟩ := qval_sound (P := P) hE.tab h.locs hq (h1 hg) (readable_of h ho hg (qval_pick hq))
    simp only [Oper.wp, hx, Oper.upon_value]
    exact hnext _ _ (setK_sound h h2 (fun _ => hr) (fun _ _ => hg) hcl)
  -- a call
  have called : ∀ {g : List (Nat × Bool)} {f args c}, okOps s g o = true → gHolds s g → callOf s o = some (f, args) → E.C f = some c → acall E s o.dst f args K → o.wp P a w next Q := by
    intro g f args c ho hg hc hEc hcall
    obtain ⟨xs, hx, hl, hr⟩ := callOf_run h ho hg hc (hE.ctr f c hEc).2
    simp only [Oper.wp, hx, Oper.upon_enter]
    refine Calls.mono (acall_sound hE h hcall hl hr) ?_
    rintro e w' ⟨x, rfl, hn⟩
    exact hnext _ _ hn
  unfold aop at hk
  split at hk
  · exact hk.elim
  · rename_i hg
    obtain ⟨hw, -⟩ := wanted_iff h hg
    rw [if_pos (hw.2 trivial)]
    split at hk
    case h_2 => exact hk.elim
    rename_i ho
    split at hk
    · rename_i f args hc
      have : ∃ c, E.C f = some c := by
        unfold acall at hk
        split at hk
        · exact ⟨_, by assumption⟩
        · exact ⟨_, by assumption⟩
        · exact hk.elim
      obtain ⟨c, hEc⟩ := this
      exact called ho trivial hc hEc hk
    · split at hk
      · rename_i O v hq
        exact quiet ho trivial (by simp) hq hk
      · split at hk
        case h_2 => exact hk.elim
        rename_i O v L U hq
        obtain ⟨h1, h2⟩ := ob_elim hk
        obtain ⟨ν', γ', w', st, hx⟩ := lval_sound (P := P) hE.tab h.mem h.locs hq (h1 trivial) (operands_of h ho trivial (lval_nopick hq))
        rcases hx with ⟨x, hx, hr⟩ | ⟨hd, hv, hx⟩
        · simp only [Oper.wp, hx, Oper.upon_value]
          exact hnext _ _ (setM_sound h st h2 hr)
        · simp only [Oper.wp, hx, Oper.upon_skip]
          refine hnext _ _ (setM_sound h st h2 ?_)
          simp only at hv; rw [hv]; exact .opq _
  · rename_i x g' hg
    obtain ⟨hw, hcl⟩ := wanted_iff h hg
    split at hk
    case h_2 => exact hk.elim
    rename_i ho
    split
    · rename_i hwt
      have hgh := hw.1 hwt
      split at hk
      · rename_i f args hc
        split at hk
        · rename_i F hEc
          split at hk
          case h_2 => exact hk.elim
          rename_i as L1 ha hn
          split at hk
          case h_2 => exact hk.elim
          rename_i O v hF
          obtain ⟨h1, h2⟩ := ob_elim hk
          obtain ⟨xs, hx, hl, hr⟩ := callOf_run h ho hgh hc (hE.ctr f _ hEc).2
          simp only [Oper.wp, hx, Oper.upon_enter]
          refine Calls.mono (pure_sound (hE.ctr f _ hEc).1 h ha hn hF (h1 hgh) hl hr) ?_
          rintro e w' ⟨x, γ', rfl, h', hr'⟩
          exact hnext _ _ (setK_sound h' h2 (fun _ => hr') (fun _ _ => hgh) hcl)
        · rename_i own C hEc
          exact called ho hgh hc hEc (gDo_elim hk.1 hgh)
        · exact hk.elim
      · split at hk
        · rename_i O v hq
          exact quiet ho hgh hcl hq hk
        · split at hk
          case h_2 => exact hk.elim
          rename_i O v L U hq
          obtain ⟨h1, h2⟩ := ob_elim (gDo_elim hk.1 hgh)
          obtain ⟨ν', γ', w', st, hx⟩ := lval_sound (P := P) hE.tab h.mem h.locs hq (h1 trivial) (operands_of h ho hgh (lval_nopick hq))
          rcases hx with ⟨x, hx, hr⟩ | ⟨hd, hv, hx⟩
          · simp only [Oper.wp, hx, Oper.upon_value]
            exact hnext _ _ (setM_sound h st h2 hr)
          · simp only [Oper.wp, hx, Oper.upon_skip]
            refine hnext _ _ (setM_sound h st h2 ?_)
            simp only at hv; rw [hv]; exact .opq _
    · rename_i hwt
      have hgh : ¬ gHolds s (x :: g') := fun h' => hwt (hw.2 h')
      split at hk
      · split at hk
        · split at hk
          case h_2 => exact hk.elim
          split at hk
          case h_2 => exact hk.elim
          exact hnext _ _ (put_undef h (ob_elim hk).2 hgh hcl)
        · exact hnext _ _ (put_undef h (gNot_elim hk.2 hgh) hgh hcl)
        · exact hk.elim
      · split at hk
        · exact hnext _ _ (put_undef h (ob_elim hk).2 hgh hcl)
        · split at hk
          case h_2 => exact hk.elim
          exact hnext _ _ (put_undef h (gNot_elim hk.2 hgh) hgh hcl)
def dsts (l : List Oper) : List Nat := l.filterMap (·.dst)
def AgreeW (W : List Nat) (s s' : AS) : Prop := ∀ t, t ∉ W → (s.env t).g = [] → s'.env t = s.env t
theorem AgreeW.refl (W s) : AgreeW W s s := fun _ _ _ => rfl
theorem AgreeW.trans {W W' s s' s''} (h : AgreeW W s s') (h' : AgreeW W' s' s'') : AgreeW (W ++ W') s s'' := by
  intro t ht hg
  simp at ht
  have e := h t ht.1 hg
  rw [h' t ht.2 (by rw [e]; exact hg), e]
theorem AgreeW.mono {W W' s s'} (h : AgreeW W s s') (hs : ∀ t ∈ W, t ∈ W') : AgreeW W' s s' := fun t ht hg => h t (fun h' => ht (hs t h')) hg
theorem aops_sound {E : Ctx} {ops : Array Oper} {Q : Exit → Act → World → Prop} {K : AS → Prop} {s0 : AS} {W : List Nat} (hE : CtxOK P E) (hQ : ∀ s a w, K s → AgreeW W s0 s → St B E.N s a w → Q .normal a w) :
    ∀ (l : List Oper) (s : AS) (a : Act) (w : World), (∀ d ∈ dsts l, d ∈ W) → AgreeW W s0 s → St B E.N s a w → aops E ops.toList l s K → wpList P ops Q l a w
  | [], s, a, w, hl, hag, h, hk => hQ s a w hk hag h
  | o :: l, s, a, w, hl, hag, ⟨ν, γ, h⟩, hk => by
    have := aop_sound (Q := Q) (next := wpList P ops Q l) hE h hk (fun a w ⟨s, hks, hg, hs⟩ => aops_sound hE hQ l s a w (fun d hd => hl d (by
      unfold dsts at *; simp at hd ⊢; obtain ⟨o', h1, h2⟩ := hd; exact .inr ⟨o', h1, h2⟩)) (fun t ht hg0 => by
      have e := hag t ht hg0
      rw [hg t (fun e2 => ht (hl t (by unfold dsts; simp [e2]))) (by rw [e]; exact hg0), e]) hs hks)
    simp only [wpList]
    split
    · rename_i hw
      rw [if_pos hw] at this
      exact .inl this
    · rename_i hw
      rw [if_neg hw] at this
      exact this
end Go.Rs
end
