import Derived.Test.YtmgheiagnleeiaaFH
set_option linter.all false
section
/-! Readers' arguments lent: what is owned comes back as it was; results that are deep owned are handed over raw. -/
namespace Go.Rs
variable {P : Program} {γ γ' γ'' : Nat → Nat} {w w' w'' : World}
def isOwn : AV → Bool
  | .own _ _ | .dp _ _ | .wr _ _ => true
  | _ => false
def perC : AV → AV
  | .own E l => .ps E l
  | .dp E l => .ps E l
  | .wr E l => .ps E l
  | v => v
def perL : List AV → List AV
  | [] => []
  | v :: r => perC v :: perL r
def perV : AV → AV
  | .st cs => .st (perL cs)
  | v => perC v
def perA : AV → AV
  | .tup [v] => perV v
  | v => v
def perAs : List AV → List AV
  | [] => []
  | v :: r => perA v :: perAs r
def backC : List AV → List AV
  | [] => []
  | .own E l :: r => .own E l :: backC r
  | .dp E l :: r => .dp E l :: backC r
  | .wr E l :: r => .wr E l :: backC r
  | _ :: r => backC r
def backV : AV → List AV
  | .st cs => backC cs
  | .own E l => [.own E l]
  | .dp E l => [.dp E l]
  | .wr E l => [.wr E l]
  | _ => []
def backs : List AV → List AV
  | [] => []
  | .tup [v] :: r => backV v ++ backs r
  | _ :: r => backs r
def noOwn : List AV → Bool
  | [] => true
  | v :: r => match isOwn v with
    | true => false
    | false => noOwn r
def okArg : AV → Bool
  | .tup [.tup _] => false
  | .tup [_] => true
  | .tup _ | .ref _ | .rb _ | .fn _ _ | .own _ _ | .dp _ _ | .wr _ _ => false
  | .st cs => noOwn cs
  | _ => true
def okArgs : List AV → Bool
  | [] => true
  | v :: r => match okArg v with
    | true => okArgs r
    | false => false
def clC : AV → Bool
  | .int _ _ | .bool _ | .str _ => true
  | .own E _ => flatE E
  | .dp _ _ => true
  | _ => false
def clL : List AV → Bool
  | [] => true
  | v :: r => match clC v with
    | true => clL r
    | false => false
def clV : AV → Bool
  | .st cs => clL cs
  | v => clC v
def clVs : List AV → Bool
  | [] => true
  | v :: r => match clV v with
    | true => clVs r
    | false => false
def clR : AV → Bool
  | .tup cs => clVs cs
  | v => clV v
def rawC : AV → AV
  | .dp E l => .wr E l
  | v => v
def rawL : List AV → List AV
  | [] => []
  | v :: r => rawC v :: rawL r
def rawV : AV → AV
  | .st cs => .st (rawL cs)
  | v => rawC v
def rawVs : List AV → List AV
  | [] => []
  | v :: r => rawV v :: rawVs r
def rawR : AV → AV
  | .tup cs => .tup (rawVs cs)
  | v => rawV v
theorem IC.none_own {S x v} (h : IC γ w S x v) (hv : isOwn v = false) : S = [] := by
  cases h <;> first | rfl | simp [isOwn] at hv
theorem IC.lt {S x v} (h : IC γ w S x v) : ∀ c ∈ S, c < w.heap.size := by
  cases h with
  | per => simp
  | own0 => simp
  | own E l b cap xs hM hc h0 hrow => intro c hc; simp at hc; subst hc; exact hrow.lt
  | dp0 => simp
  | dp E l b cap xs bss hM hc h0 hrow hl hin =>
    intro c hc
    rcases List.mem_cons.1 hc with rfl | hc
    · exact hrow.lt
    · exact hin.lt c hc
  | wr E l _ _ hd => exact fun c hc => hd.lt hc
theorem ICs.lt {S xs vs} (h : ICs γ w S xs vs) : ∀ c ∈ S, c < w.heap.size := by
  induction h with
  | nil => simp
  | cons h _ ih => intro c hc; rcases List.mem_append.1 hc with hc | hc; exact h.lt c hc; exact ih c hc
theorem IV.lt {S x v} (h : IV γ w S x v) : ∀ c ∈ S, c < w.heap.size := by
  cases h with
  | cell h => exact h.lt
  | st h => exact h.lt
theorem IC.seen {S x v} (h : IC γ w S x v) (hk : Keeps γ w γ' w) (hf : ∀ c ∈ S, full γ' w c) : IC γ' w [] x (perC v) := by
  cases h with
  | per h h1 =>
    have : perC v = v := by cases h <;> rfl
    rw [this]; exact .per (h.keep hk (fun _ h => h) (fun _ _ => rfl)) h1
  | own0 E a => exact .per (.ps E [] a 0 (fun _ => undef) (Nat.zero_le _) (Nat.le_refl _) (.inl rfl) (by intro k hk; simp at hk) (by intro k hk; simp at hk)) rfl
  | own E l b cap xs hM hc h0 hrow hl hr =>
    obtain ⟨-, h1, T, hb⟩ := hrow
    have hle : l.length * esz E ≤ xs.length := by rw [hl]; exact Nat.mul_le_mul_right _ hc
    have hfb := hf b (by simp) _ _ _ hb
    simp at hfb
    refine .per (.ps E l _ cap (fun k => xs.getD k undef) hM hc (.inr ⟨b, 0, rfl, by omega, fun k hk => ?_⟩) (fun k hk => h1 _ (mem_getD (by omega))) (fun i hi j hj => (hr i hi j hj).keep hk (fun _ h => h) (fun _ _ => rfl))) rfl
    rw [Nat.zero_add]; exact cell_row hb (by omega)
  | dp0 E a => exact .per (.ps E [] a 0 (fun _ => undef) (Nat.zero_le _) (Nat.le_refl _) (.inl rfl) (by intro k hk; simp at hk) (by intro k hk; simp at hk)) rfl
  | dp E l b cap xs bss hM hc h0 hrow hl hin =>
    obtain ⟨-, h1, T, hb⟩ := hrow
    have hle : l.length * esz E ≤ xs.length := by rw [hl]; exact Nat.mul_le_mul_right _ hc
    have hfb := hf b (by simp) _ _ _ hb
    simp at hfb
    refine .per (.ps E l _ cap (fun k => xs.getD k undef) hM hc (.inr ⟨b, 0, rfl, by omega, fun k hk => ?_⟩) (fun k hk => h1 _ (mem_getD (by omega))) (fun i hi j hj => (hin.deep i hi j hj).rep fun c hc' => hf c (List.mem_cons_of_mem _ (inn_mem.2 ⟨_, idx_lt hi hj, hc'⟩)))) rfl
    rw [Nat.zero_add]; exact cell_row hb (by omega)
  | wr E l _ _ hd => exact .per (hd.rep hf) hd.one
theorem ICs.seen {S xs vs} (h : ICs γ w S xs vs) (hk : Keeps γ w γ' w) (hf : ∀ c ∈ S, full γ' w c) : ICs γ' w [] xs (perL vs) := by
  induction h with
  | nil => exact .nil
  | cons h _ ih => exact ICs.cons (S := []) (S' := []) (h.seen hk fun c hc => hf c (by simp [hc])) (ih fun c hc => hf c (by simp [hc]))
theorem IV.seen {S x v} (h : IV γ w S x v) (hk : Keeps γ w γ' w) (hf : ∀ c ∈ S, full γ' w c) : IV γ' w [] x (perV v) := by
  cases h with
  | cell h =>
    have h2 := h.seen hk hf
    cases h with
    | per h h1 =>
      cases h with
      | st => simp [Value.oneCell'] at h1
      | _ => exact .cell h2
    | _ => exact .cell h2
  | st h => exact .st (h.seen hk hf)
theorem noOwn_nil {xs vs} : ∀ {S}, ICs γ w S xs vs → noOwn vs = true → S = [] := by
  intro S h
  induction h with
  | nil => exact fun _ => rfl
  | @cons S S' x v xs vs h _ ih =>
    intro hn
    unfold noOwn at hn
    cases e : isOwn v with
    | true => rw [e] at hn; cases hn
    | false =>
      rw [e] at hn
      rw [h.none_own e, ih hn]; rfl
theorem IA.seen {S x v} (h : IA γ w S x v) (ho : okArg v = true) (hk : Keeps γ w γ' w) (hf : ∀ c ∈ S, full γ' w c) : IA γ' w [] x (perA v) := by
  cases h with
  | len h => exact .val (h.seen hk hf)
  | val h =>
    cases h with
    | cell h =>
      have hn : isOwn v = false := by cases v <;> first | rfl | cases ho
      have hS := h.none_own hn
      subst hS
      have h2 := h.seen hk hf
      cases h with
      | per h h1 =>
        cases h with
        | tup => simp [Value.oneCell'] at h1
        | _ => exact .val (.cell h2)
      | _ => cases ho
    | st h =>
      have hS := noOwn_nil h ho
      subst hS
      exact .val (.st (h.keep hk (by simp)))
  | ref => cases ho
  | rb0 => cases ho
  | rb => cases ho
  | fn => cases ho
theorem IAs.seen {S xs vs} (h : IAs γ w S xs vs) (ho : okArgs vs = true) (hk : Keeps γ w γ' w) (hf : ∀ c ∈ S, full γ' w c) : IAs γ' w [] xs (perAs vs) := by
  induction h with
  | nil => exact .nil
  | @cons S S' x v xs vs h _ ih =>
    unfold okArgs at ho
    cases e : okArg v with
    | false => rw [e] at ho; cases ho
    | true =>
      rw [e] at ho
      exact IAs.cons (S := []) (S' := []) (h.seen e hk fun c hc => hf c (by simp [hc])) (ih ho fun c hc => hf c (by simp [hc]))
theorem IAs.app {S S' xs xs' vs vs'} (h : IAs γ w S xs vs) (h' : IAs γ w S' xs' vs') : IAs γ w (S ++ S') (xs ++ xs') (vs ++ vs') := by
  induction h with
  | nil => exact h'
  | @cons S1 S2 x v xs vs h _ ih =>
    rw [List.append_assoc]
    exact .cons h ih
theorem ICs.home {S xs vs} (h : ICs γ w S xs vs) : IAs γ w S (lentC vs xs) (backC vs) := by
  induction h with
  | nil => exact .nil
  | @cons S S' x v xs vs h _ ih =>
    cases e : isOwn v with
    | true =>
      cases v with
      | own E l => exact .cons (.val (.cell h)) ih
      | dp E l => exact .cons (.val (.cell h)) ih
      | wr E l => exact .cons (.val (.cell h)) ih
      | _ => cases e
    | false =>
      have hS := h.none_own e
      subst hS
      cases v with
      | own => cases e
      | dp => cases e
      | wr => cases e
      | _ => exact ih
theorem IV.home {S x v} (h : IV γ w S x v) : IAs γ w S (lentV v x) (backV v) := by
  cases h with
  | cell h =>
    have one : isOwn v = true → IAs γ w S [x] [v] := fun _ => by
      have := IAs.cons (.val (.cell h)) (IAs.nil (γ := γ) (w := w))
      rwa [List.append_nil] at this
    cases e : isOwn v with
    | true =>
      cases v with
      | own E l => exact one e
      | dp E l => exact one e
      | wr E l => exact one e
      | _ => cases e
    | false =>
      have hS := h.none_own e
      subst hS
      cases h with
      | per h h1 =>
        cases h with
        | st => simp [Value.oneCell'] at h1
        | _ => exact .nil
      | own0 => cases e
      | dp0 => cases e
      | wr => cases e
  | st h => simpa [lentV, backV] using h.home
theorem IA.home {S x v} (h : IA γ w S x v) (ho : okArg v = true) {xs vs S'} (ht : IAs γ w S' (refVals vs xs) (backs vs)) : IAs γ w (S ++ S') (refVals (v :: vs) (x :: xs)) (backs (v :: vs)) := by
  cases h with
  | len h => exact h.home.app ht
  | val h =>
    have hS : S = [] := by
      cases h with
      | cell h => exact h.none_own (by cases v <;> first | rfl | cases ho)
      | st h => exact noOwn_nil h ho
    subst hS
    have hv : (∀ l, v ≠ .tup l) := by
      rintro l rfl
      cases h with
      | cell h => cases h with | per h h1 => cases h; simp [Value.oneCell'] at h1
    cases v with
    | tup l => exact absurd rfl (hv l)
    | ref => cases ho
    | rb => cases ho
    | _ => exact ht
  | ref => cases ho
  | rb0 => cases ho
  | rb => cases ho
  | fn => cases ho
theorem IAs.home {S xs vs} (h : IAs γ w S xs vs) (ho : okArgs vs = true) : IAs γ w S (refVals vs xs) (backs vs) := by
  induction h with
  | nil => exact .nil
  | @cons S S' x v xs vs h _ ih =>
    unfold okArgs at ho
    cases e : okArg v with
    | false => rw [e] at ho; cases ho
    | true => rw [e] at ho; exact h.home e (ih ho)
theorem IA.lt {S x v} (h : IA γ w S x v) (ho : okArg v = true) : ∀ c ∈ S, c < w.heap.size := by
  cases h with
  | len h => exact h.lt
  | val h => exact h.lt
  | ref => cases ho
  | rb0 => cases ho
  | rb => cases ho
  | fn => cases ho
theorem IAs.lt {S xs vs} (h : IAs γ w S xs vs) (ho : okArgs vs = true) : ∀ c ∈ S, c < w.heap.size := by
  induction h with
  | nil => simp
  | @cons S S' x v xs vs h _ ih =>
    unfold okArgs at ho
    cases e : okArg v with
    | false => rw [e] at ho; cases ho
    | true =>
      rw [e] at ho
      intro c hc
      rcases List.mem_append.1 hc with hc | hc
      · exact h.lt e c hc
      · exact ih ho c hc
theorem IC.raw {S x v} (h : IC γ w S x v) (hc : clC v = true) (hz : ∀ c ∈ S, γ' c = 0) : ∃ S', S'.Sublist S ∧ IC γ' w S' x (rawC v) := by
  cases h with
  | per h h1 =>
    refine ⟨[], .slnil, ?_⟩
    cases h with
    | int k n => exact .per (.int k n) rfl
    | bool b => exact .per (.bool b) rfl
    | str s hM => exact .per (.str s hM) rfl
    | _ => cases hc
  | own0 E a => exact ⟨[], .slnil, .own0 E a⟩
  | own E l b cap xs hM hcap h0 hrow hl hr =>
    refine ⟨_, List.Sublist.refl _, .own E l b cap xs hM hcap h0 ⟨hz b (by simp), hrow.2⟩ hl fun i hi j hj => ?_⟩
    have hfl := flat_deep (hr i hi j hj) (enc_flat hc _ j hj)
    exact hfl.rep (by simp)
  | dp0 E a => exact ⟨[], .slnil, .wr E [] _ [] (.nil E a 0) .nil (by simp)⟩
  | dp E l b cap xs bss hM hcap h0 hrow hl hin =>
    by_cases hl0 : l = []
    · subst hl0
      exact ⟨[], List.nil_sublist _, .wr E [] _ [] (.nil E _ cap) .nil (by simp)⟩
    · have hpos := hin.pos
      obtain ⟨g0, h1, T, hb⟩ := hrow
      refine ⟨_, List.Sublist.refl _, .wr E l _ _ (.sl E l b cap xs T bss hM hcap hl0 hb hl h1 hin.deep) ?_ hz⟩
      refine List.nodup_cons.2 ⟨fun h => ?_, hin.nodup⟩
      have := hpos b h
      omega
  | wr => cases hc
theorem ICs.raw {S xs vs} (h : ICs γ w S xs vs) (hc : clL vs = true) (hz : ∀ c ∈ S, γ' c = 0) : ∃ S', S'.Sublist S ∧ ICs γ' w S' xs (rawL vs) := by
  induction h with
  | nil => exact ⟨[], .slnil, .nil⟩
  | @cons S S' x v xs vs h _ ih =>
    unfold clL at hc
    cases e : clC v with
    | false => rw [e] at hc; cases hc
    | true =>
      rw [e] at hc
      obtain ⟨S1, s1, i1⟩ := h.raw e fun c hc => hz c (by simp [hc])
      obtain ⟨S2, s2, i2⟩ := ih hc fun c hc => hz c (by simp [hc])
      exact ⟨S1 ++ S2, s1.append s2, .cons i1 i2⟩
theorem IV.raw {S x v} (h : IV γ w S x v) (hc : clV v = true) (hz : ∀ c ∈ S, γ' c = 0) : ∃ S', S'.Sublist S ∧ IV γ' w S' x (rawV v) := by
  cases h with
  | cell h =>
    have hst : ∀ cs, v ≠ .st cs := by
      rintro cs rfl
      cases h with | per h h1 => cases h; simp [Value.oneCell'] at h1
    have e1 : clV v = clC v := by cases v <;> first | rfl | exact absurd rfl (hst _)
    have e2 : rawV v = rawC v := by cases v <;> first | rfl | exact absurd rfl (hst _)
    rw [e1] at hc
    obtain ⟨S', s, i⟩ := h.raw hc hz
    exact ⟨S', s, by rw [e2]; exact .cell i⟩
  | st h =>
    obtain ⟨S', s, i⟩ := h.raw hc hz
    exact ⟨S', s, .st i⟩
theorem IVs.raw {S xs vs} (h : IVs γ w S xs vs) (hc : clVs vs = true) (hz : ∀ c ∈ S, γ' c = 0) : ∃ S', S'.Sublist S ∧ IVs γ' w S' xs (rawVs vs) := by
  induction h with
  | nil => exact ⟨[], .slnil, .nil⟩
  | @cons S S' x v xs vs h _ ih =>
    unfold clVs at hc
    cases e : clV v with
    | false => rw [e] at hc; cases hc
    | true =>
      rw [e] at hc
      obtain ⟨S1, s1, i1⟩ := h.raw e fun c hc => hz c (by simp [hc])
      obtain ⟨S2, s2, i2⟩ := ih hc fun c hc => hz c (by simp [hc])
      exact ⟨S1 ++ S2, s1.append s2, .cons i1 i2⟩
theorem IR.raw {S x v} (h : IR γ w S x v) (hc : clR v = true) (hz : ∀ c ∈ S, γ' c = 0) : ∃ S', S'.Sublist S ∧ IR γ' w S' x (rawR v) := by
  cases h with
  | one h =>
    have hst : ∀ cs, v ≠ .tup cs := by
      rintro cs rfl
      cases h with
      | cell h => cases h with | per h h1 => cases h; simp [Value.oneCell'] at h1
    have e1 : clR v = clV v := by cases v <;> first | rfl | exact absurd rfl (hst _)
    have e2 : rawR v = rawV v := by cases v <;> first | rfl | exact absurd rfl (hst _)
    rw [e1] at hc
    obtain ⟨S', s, i⟩ := h.raw hc hz
    exact ⟨S', s, by rw [e2]; exact .one i⟩
  | tup h =>
    obtain ⟨S', s, i⟩ := h.raw hc hz
    exact ⟨S', s, .tup i⟩
  | ref => cases hc
def lendC (C : List AV → (AV → List AV → Prop) → Prop) (vs : List AV) (K : AV → List AV → Prop) : Prop :=
  okArgs vs = true ∧ C (perAs vs) fun r rs => rs = [] ∧ clR r = true ∧ K (rawR r) (backs vs)
theorem Snd.lend {f : Nat} {C : List AV → (AV → List AV → Prop) → Prop} (h : Snd P f C) : Snd P f (lendC C) := by
  intro args K ⟨hok, hC⟩ w γ S xs hi hn hfr htb hS
  have hlt := hi.lt hok
  let γ1 : Nat → Nat := fun c => if c ∈ S then max (γ c) (capG w c) else γ c
  have hk : Keeps γ w γ1 w := by
    refine ⟨fun c => ?_, fun _ _ _ => rfl⟩
    show γ c ≤ if c ∈ S then max (γ c) (capG w c) else γ c
    split
    · exact Nat.le_max_left _ _
    · exact Nat.le_refl _
  have hfull : ∀ c ∈ S, full γ1 w c := by
    intro c hc ys T fz hh
    show ys.size ≤ if c ∈ S then max (γ c) (capG w c) else γ c
    rw [if_pos hc]
    have : capG w c = ys.size := by unfold capG; rw [hh]
    omega
  have hfr1 : ∀ b, w.heap.size ≤ b → γ1 b = 0 := by
    intro b hb
    show (if b ∈ S then max (γ b) (capG w b) else γ b) = 0
    rw [if_neg fun h => by have := hlt b h; omega]
    exact hfr b hb
  refine Calls.mono (h _ _ hC w γ1 [] xs (hi.seen hok hk hfull) .nil hfr1 htb (by simp)) ?_
  rintro e w' ⟨r, rs, x, γ2, Sr, Sq, ⟨rfl, hcl, hK⟩, rfl, hr, hq, hnd, hF, hnew⟩
  let γ3 : Nat → Nat := fun c => if c < w.heap.size then γ c else 0
  have g3 : ∀ c, c < w.heap.size → γ3 c = γ c := fun c hc => if_pos hc
  have g4 : ∀ c, w.heap.size ≤ c → γ3 c = 0 := fun c hc => if_neg (by omega)
  have hblk : ∀ c, c < w.heap.size → w'.heap[c]? = w.heap[c]? := fun c hc => (hF.block c hc (by simp)).1
  have hk3 : Keeps γ w γ3 w' := by
    refine ⟨fun c => ?_, fun c o ho => ?_⟩
    · rcases Nat.lt_or_ge c w.heap.size with h | h
      · rw [g3 c h]; exact Nat.le_refl _
      · rw [hfr c h]; exact Nat.zero_le _
    · rcases Nat.lt_or_ge c w.heap.size with h | h
      · exact cell_eq (hblk c h)
      · rw [hfr c h] at ho; omega
  have hsz : ∀ c ∈ Sr, w.heap.size ≤ c := fun c hc => by
    rcases hnew c (List.mem_append_left _ hc) with h | h
    · simp at h
    · exact h
  obtain ⟨Sr', hsub, hr'⟩ := hr.raw (γ' := γ3) hcl fun c hc => g4 c (hsz c hc)
  have hback := (hi.home hok).keep hk3 fun c hc => ⟨hblk c (hlt c hc), g3 c (hlt c hc)⟩
  refine ⟨rawR r, backs args, x, γ3, Sr', S, hK, rfl, hr', hback, ?_, ?_, ?_⟩
  · refine List.nodup_append.2 ⟨(List.nodup_append.1 hnd).1.sublist hsub, hn, ?_⟩
    rintro a ha b hb rfl
    have h1 := hsz a (hsub.subset ha)
    have h2 := hlt a hb
    omega
  · refine ⟨hF.os, hF.tape, hF.output, hF.size, fun b hb _ => ⟨hblk b hb, g3 b hb⟩, fun b hb => g4 b (Nat.le_trans hF.size hb), fun b hb => ⟨?_, fun o ho => cell_eq (hblk b (hlt b hb))⟩⟩
    rw [g3 b (hlt b hb)]; exact Nat.le_refl _
  · intro b hb
    rcases List.mem_append.1 hb with hb | hb
    · exact .inr (hsz b (hsub.subset hb))
    · exact .inl hb
theorem deep_flat {x u bs} (h : Deep w x u bs) (hf : flatV u) : bs = [] := by
  cases h with
  | sl E l b cap xs T bss hM hc h0 => exact absurd hf h0
  | _ => rfl
theorem snd_markW {f : Nat} {E : El} {l l' : List (ElT E)} {k k' : Int} {K : AV → List AV → Prop} (hK : K (.int .i64 k') [.wr E l'])
    (H : ∀ w x bs, Deep w x (.ps E l) bs → bs.Nodup → Tabs w → (∀ c ∈ bs, isTab c = false) → Calls P f #[x, .int .i64 k] w fun e w' => e = .returned (.int .i64 k') ∧ Deep w' x (.ps E l') bs ∧ Upd w w' bs)
    {S : List Nat} {xs : List Value} (hi : IAs γ w S xs [.tup [.wr E l], .int .i64 k]) (hn : S.Nodup) (hfr : ∀ b, w.heap.size ≤ b → γ b = 0) (htb : Tabs w) (hS : ∀ b ∈ S, isTab b = false) :
    Calls P f xs.toArray w fun e w' => ∃ r rs x γ' Sr Sq, K r rs ∧ e = .returned x ∧ IR γ' w' Sr x r ∧ IAs γ' w' Sq (refVals [.tup [.wr E l], .int .i64 k] xs) rs ∧ (Sr ++ Sq).Nodup ∧ Fr S γ w γ' w' ∧ ∀ b ∈ Sr ++ Sq, b ∈ S ∨ w.heap.size ≤ b := by
  cases hi with
  | @cons S1 S2 x _ _ _ h1 h2 =>
  cases h2 with
  | @cons S3 S4 y _ _ _ h2 h3 =>
  cases h3
  have hy : S3 = [] ∧ y = .int .i64 k := by
    cases h2 with
    | val h => cases h with | cell h => cases h with | per h _ => cases h; exact ⟨rfl, rfl⟩
  obtain ⟨rfl, rfl⟩ := hy
  have e0 : S1 ++ ([] ++ []) = S1 := by simp
  rw [e0] at hn hS ⊢
  have hx : Deep w x (.ps E l) S1 ∧ ∀ c ∈ S1, γ c = 0 := by
    cases h1 with
    | val h => cases h with | cell h => cases h with | per h h1 => cases h; simp [Value.oneCell'] at h1
    | len h => cases h with | cell h => cases h with
      | per h _ => cases h
      | wr _ _ _ _ hd _ hz => exact ⟨hd, hz⟩
  obtain ⟨hd, hz⟩ := hx
  refine Calls.mono (H w x S1 hd hn htb hS) ?_
  rintro e w' ⟨rfl, hd', hu⟩
  refine ⟨_, _, _, γ, [], S1, hK, rfl, .one (.cell (.per (.int _ _) rfl)), ?_, by simpa using hn, ⟨hu.os, hu.tape, hu.output, hu.size, fun b hb hc => ⟨hu.block b hb hc, rfl⟩, fun b hb => hfr b (Nat.le_trans hu.size hb), fun b hb => ⟨Nat.le_refl _, fun o ho => by rw [hz b hb] at ho; omega⟩⟩, fun b hb => .inl (by simpa using hb)⟩
  have := IAs.cons (IA.val (IV.cell (IC.wr (γ := γ) E l' x S1 hd' hn hz))) (IAs.nil (γ := γ) (w := w'))
  rw [List.append_nil] at this
  exact this
theorem snd_markO {f : Nat} {E : El} (hE : flatE E = true) {l l' : List (ElT E)} {k k' : Int} {K : AV → List AV → Prop} (hK : K (.int .i64 k') [.own E l'])
    (H : ∀ w x bs, Deep w x (.ps E l) bs → bs.Nodup → Tabs w → (∀ c ∈ bs, isTab c = false) → Calls P f #[x, .int .i64 k] w fun e w' => e = .returned (.int .i64 k') ∧ Deep w' x (.ps E l') bs ∧ Upd w w' bs)
    {S : List Nat} {xs : List Value} (hi : IAs γ w S xs [.tup [.own E l], .int .i64 k]) (hn : S.Nodup) (hfr : ∀ b, w.heap.size ≤ b → γ b = 0) (htb : Tabs w) (hS : ∀ b ∈ S, isTab b = false) :
    Calls P f xs.toArray w fun e w' => ∃ r rs x γ' Sr Sq, K r rs ∧ e = .returned x ∧ IR γ' w' Sr x r ∧ IAs γ' w' Sq (refVals [.tup [.own E l], .int .i64 k] xs) rs ∧ (Sr ++ Sq).Nodup ∧ Fr S γ w γ' w' ∧ ∀ b ∈ Sr ++ Sq, b ∈ S ∨ w.heap.size ≤ b := by
  cases hi with
  | @cons S1 S2 x _ _ _ h1 h2 =>
  cases h2 with
  | @cons S3 S4 y _ _ _ h2 h3 =>
  cases h3
  have hy : S3 = [] ∧ y = .int .i64 k := by
    cases h2 with
    | val h => cases h with | cell h => cases h with | per h _ => cases h; exact ⟨rfl, rfl⟩
  obtain ⟨rfl, rfl⟩ := hy
  have e0 : S1 ++ ([] ++ []) = S1 := by simp
  rw [e0] at hn hS ⊢
  have hx : IC γ w S1 x (.own E l) := by
    cases h1 with
    | val h => cases h with | cell h => cases h with | per h h1 => cases h; simp [Value.oneCell'] at h1
    | len h => cases h with | cell h => exact h
  clear h1 h2
  have key : ∃ bs, (∀ b ∈ bs, b ∈ S1) ∧ (∀ c ∈ S1, γ c = 0) ∧ bs.Nodup ∧ Deep w x (.ps E l) bs ∧ ∀ w' l', Deep w' x (.ps E l') bs → Upd w w' bs → IC γ w' S1 x (.own E l') := by
    cases hx with
    | per h _ => cases h
    | own0 _ a =>
      refine ⟨[], by simp, by simp, .nil, .nil E a 0, fun w' l' hd _ => ?_⟩
      rcases hd.inv_ps with ⟨rfl, -⟩ | ⟨_, _, _, _, _, h, e, -, hc, -⟩
      · exact .own0 E a
      · simp at e
        have : l'.length = 0 := by omega
        exact absurd (List.length_eq_zero_iff.1 this) h
    | own _ _ b cap ys hM hc h0 hrow hl hr =>
      obtain ⟨g0, h1, T, hb⟩ := hrow
      have hz : ∀ c ∈ [b], γ c = 0 := by simp [g0]
      by_cases hl0 : l = []
      · subst hl0
        refine ⟨[], by simp, hz, .nil, .nil E _ cap, fun w' l' hd hu => ?_⟩
        rcases hd.inv_ps with ⟨rfl, -⟩ | ⟨_, _, _, _, _, h, e, -⟩
        · refine .own E [] b cap ys (Nat.zero_le _) (Nat.zero_le _) h0 ⟨g0, h1, T, ?_⟩ hl (by intro i hi; simp at hi)
          rw [hu.block b (heap_lt hb) (by simp), hb]
        · simp at e
          have : l'.length = 0 := by have := e.2.1; omega
          exact absurd (List.length_eq_zero_iff.1 this) h
      · have hin0 : inn (l.length * esz E) (fun _ => ([] : List Nat)) = [] := inn_none fun _ _ => rfl
        have hd0 := Deep.sl (w := w) E l b cap ys T (fun _ => []) hM hc hl0 hb hl h1 fun i hi j hj => flat_deep (hr i hi j hj) (enc_flat hE _ j hj)
        rw [hin0] at hd0
        refine ⟨[b], by simp, hz, by simp, hd0, fun w' l' hd hu => ?_⟩
        rcases hd.inv_ps with ⟨-, h, -⟩ | ⟨b', cap', zs, T', bss, h, e, hM', hc', hb', hl', h1', hr', e2⟩
        · cases h
        · simp only [Value.slice.injEq, Option.some.injEq, Addr.mk.injEq, and_true, true_and] at e
          obtain ⟨rfl, e3, rfl⟩ := e
          rw [e3]
          refine .own E l' b cap zs hM' hc' h0 ⟨g0, h1', T', hb'⟩ hl' fun i hi j hj => ?_
          have hfl := hr' i hi j hj
          have hbs : bss (i * esz E + j) = [] := by
            have hfv := enc_flat hE (l'.getD i (elDef E)) j hj
            exact deep_flat hfl hfv
          exact hfl.rep (by rw [hbs]; simp)
  obtain ⟨bs, hsub, hz, hnb, hd, hret⟩ := key
  refine Calls.mono (H w x bs hd hnb htb fun c hc => hS c (hsub c hc)) ?_
  rintro e w' ⟨rfl, hd', hu⟩
  refine ⟨_, _, _, γ, [], S1, hK, rfl, .one (.cell (.per (.int _ _) rfl)), ?_, by simpa using hn, ⟨hu.os, hu.tape, hu.output, hu.size, fun b hb hc => ⟨hu.block b hb fun h => hc (hsub b h), rfl⟩, fun b hb => hfr b (Nat.le_trans hu.size hb), fun b hb => ⟨Nat.le_refl _, fun o ho => by rw [hz b hb] at ho; omega⟩⟩, fun b hb => .inl (by simpa using hb)⟩
  have := IAs.cons (IA.val (IV.cell (hret w' l' hd' hu))) (IAs.nil (γ := γ) (w := w'))
  rw [List.append_nil] at this
  exact this
theorem Upd.tabs {bs : List Nat} (h : Upd w w' bs) (ht : Tabs w) (hb : ∀ c ∈ bs, isTab c = false) : Tabs w' :=
  ht.keep fun b hi => h.block b (ht.lt hi) fun h' => by rw [hb b h'] at hi; cases hi
theorem Snd.quiet {f : Nat} {C : List AV → (AV → List AV → Prop) → Prop} (h : Snd P f C) {args : List AV} {xs : List Value} {r : AV} (hi : IAs (fun _ => 0) w [] xs args) (hC : C args fun r' rs => r' = r ∧ rs = []) (hs : Scalar r) (hs2 : scal r = true) (ht : Tabs w) :
    Calls P f xs.toArray w fun e w' => ∃ x, e = .returned x ∧ Rep noU noν (fun _ => 0) w' x r ∧ Upd w w' [] := by
  refine Calls.mono (h args _ hC w (fun _ => 0) [] xs hi .nil (fun _ _ => rfl) ht (by simp)) ?_
  rintro e w' ⟨r', rs, x, γ', Sr, Sq, ⟨rfl, rfl⟩, rfl, hr, -, -, hf, -⟩
  have h1 : Rep noU noν γ' w' x r' := scalar_rep hs hr
  refine ⟨x, rfl, ?_, ⟨hf.os, hf.tape, hf.output, hf.size, fun b hb _ => (hf.block b hb (by simp)).1⟩⟩
  exact scal_rep hs2 h1
end Go.Rs
end
