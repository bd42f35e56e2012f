/- Helpers of this claim: an evaluator over plain values and its laws. -/
import Derived.Test.YtmmmdmandocbhaaDoorTwo
import Derived.Below
import Derived.SizedLaws
import GoSem.ClaimChange
import Derived.DataReads
section
/- Regions that draw their order come to what the order of the text comes to. -/
set_option linter.unusedVariables false
set_option linter.unusedSimpArgs false
namespace Go.Proofs.YtmmmdmandocbhaaDoor.Den
variable {P : Program}

/-! ### counting -/
theorem countP_congr' {p q : Nat → Bool} : ∀ {l : List Nat}, (∀ i ∈ l, p i = q i) → l.countP p = l.countP q
  | [], h => rfl
  | a :: l, h => by
    rw [List.countP_cons, List.countP_cons, countP_congr' fun i hi => h i (List.mem_cons_of_mem _ hi), h a List.mem_cons_self]
theorem countP_le {p q : Nat → Bool} : ∀ {l : List Nat}, (∀ i ∈ l, p i = true → q i = true) → l.countP p ≤ l.countP q
  | [], h => Nat.le_refl _
  | a :: l, h => by
    rw [List.countP_cons, List.countP_cons]
    have := countP_le (l := l) fun i hi => h i (List.mem_cons_of_mem _ hi)
    have h2 := h a List.mem_cons_self
    split <;> split <;> simp_all <;> omega
theorem countP_upd {p q : Nat → Bool} {i : Nat} : ∀ n, i < n → p i = false → q i = true → (∀ j, j ≠ i → q j = p j) → (List.range n).countP q = (List.range n).countP p + 1
  | 0, h, _, _, _ => by omega
  | n + 1, h, hp, hq, hj => by
    rw [List.range_succ, List.countP_append, List.countP_append]
    by_cases hin : i = n
    · subst hin
      rw [countP_congr' (p := q) (q := p) fun j hj' => hj j (by have := List.mem_range.1 hj'; omega)]
      simp [hp, hq]
    · rw [countP_upd n (by omega) hp hq hj]
      have : q n = p n := hj n fun e => hin e.symm
      simp [this]
      omega

/-! ### what runs ahead of what -/
inductive Reach (ops : Array Oper) : Nat → Nat → Prop
  | one (i j : Nat) (o : Oper) (e : Edge) (ho : ops[j]? = some o) (he : e ∈ o.after) (hb : Region.binds .any e = true) (hi : e.on = i) : Reach ops i j
  | more (i j : Nat) (o : Oper) (e : Edge) (ho : ops[j]? = some o) (he : e ∈ o.after) (hb : Region.binds .any e = true) (h : Reach ops i e.on) : Reach ops i j

theorem getD_push (acc : Array Nat) (x j : Nat) : (acc.push x).getD j 0 = if j < acc.size then acc.getD j 0 else if j = acc.size then x else 0 := by
  rw [Array.getD_eq_getD_getElem?, Array.getD_eq_getD_getElem?, Array.getElem?_push]
  by_cases h : j = acc.size
  · subst h; simp
  · rw [if_neg h]
    by_cases hj : j < acc.size
    · rw [if_pos hj]
    · rw [if_neg hj, if_neg h, Array.getElem?_eq_none (by omega)]; rfl
theorem before_list (ops : Array Oper) : ∀ (l pre : List Oper) (acc : Array Nat), pre ++ l = ops.toList → acc.size = pre.length → (∀ i j, (acc.getD j 0).testBit i = true → Reach ops i j) →
    ∀ i j, ((l.foldl (fun acc o => acc.push (o.after.foldl (fun s e => if Region.binds .any e then s ||| 2 ^ e.on ||| acc.getD e.on 0 else s) 0)) acc).getD j 0).testBit i = true → Reach ops i j
  | [], pre, acc, hp, hs, h, i, j => h i j
  | o :: l, pre, acc, hp, hs, h, i, j => by
    refine before_list ops l (pre ++ [o]) _ (by simpa using hp) (by simp [hs]) (fun i j hij => ?_) i j
    have ho : ops[acc.size]? = some o := by
      rw [← Array.getElem?_toList, ← hp, hs]; simp
    by_cases hj : j < acc.size
    · refine h i j ?_
      rw [getD_push, if_pos hj] at hij
      exact hij
    · by_cases hje : j = acc.size
      · subst hje
        rw [getD_push, if_neg (Nat.lt_irrefl _), if_pos rfl, ← Array.foldl_toList] at hij
        have key : ∀ (es : List Edge) (s : Nat), (∀ e ∈ es, e ∈ o.after) → (s.testBit i = true → Reach ops i acc.size) →
            (es.foldl (fun s e => if Region.binds .any e then s ||| 2 ^ e.on ||| acc.getD e.on 0 else s) s).testBit i = true → Reach ops i acc.size := by
          intro es
          induction es with
          | nil => intro s _ hs hb; exact hs hb
          | cons e es ih =>
            intro s hm hs hb
            refine ih _ (fun e he => hm e (List.mem_cons_of_mem _ he)) (fun hb => ?_) hb
            simp only at hb
            split at hb
            · rename_i hbind
              simp only [Nat.testBit_or, Bool.or_eq_true] at hb
              rcases hb with (hb | hb) | hb
              · exact hs hb
              · rw [Nat.testBit_two_pow] at hb
                exact .one i _ o e ho (hm e List.mem_cons_self) hbind (by simpa using hb)
              · exact .more i _ o e ho (hm e List.mem_cons_self) hbind (h _ _ hb)
            · exact hs hb
        exact key o.after.toList 0 (fun e he => Array.mem_toList_iff.1 he) (fun hb => by simp at hb) hij
      · exfalso
        rw [getD_push, if_neg hj, if_neg hje] at hij
        simp at hij
theorem ahead_reach {ops : Array Oper} {i j : Nat} (h : ahead ops i j = true) : Reach ops i j := by
  unfold ahead Region.before at h
  rw [← Array.foldl_toList] at h
  exact before_list ops ops.toList [] #[] (by simp) rfl (fun i j h => by simp [Array.getD] at h) i j h

/-- Whatever is listed, what it waits for is listed. -/
def Down (ops : Array Oper) (L : Array Bool) : Prop := ∀ (j : Nat) (o : Oper) (e : Edge), ops[j]? = some o → L.getD j false = true → e ∈ o.after → Region.binds .any e = true → L.getD e.on false = true
theorem Down.reach {ops : Array Oper} {L : Array Bool} (hd : Down ops L) {i j : Nat} (h : Reach ops i j) (hj : L.getD j false = true) : L.getD i false = true := by
  induction h with
  | one j o e ho he hb hi => subst hi; exact hd j o e ho hj he hb
  | more j o e ho he hb h ih => exact ih (hd j o e ho hj he hb)
theorem ready_iff {ops : Array Oper} {L : Array Bool} {i : Nat} : i ∈ Region.ready .any ops L ↔ i < ops.size ∧ L.getD i true = false ∧ ∃ o, ops[i]? = some o ∧ ∀ e ∈ o.after, Region.binds .any e = true → L.getD e.on false = true := by
  unfold Region.ready
  simp only [List.mem_filter, List.mem_range, Bool.and_eq_true, Bool.not_eq_true']
  constructor
  · rintro ⟨h1, h2, h3⟩
    refine ⟨h1, h2, _, Array.getElem?_eq_getElem h1, ?_⟩
    rw [Array.getElem?_eq_getElem h1] at h3
    simp only [Option.map_some, Option.getD_some, Array.all_eq_true_iff_forall_mem] at h3
    intro e he hb
    have := h3 e he
    rw [hb] at this
    simpa using this
  · rintro ⟨h1, h2, o, ho, h3⟩
    refine ⟨h1, h2, ?_⟩
    rw [ho]
    simp only [Option.map_some, Option.getD_some, Array.all_eq_true_iff_forall_mem]
    intro e he
    cases hb : Region.binds .any e with
    | false => rfl
    | true => rw [h3 e he hb]; rfl
theorem reach_ready {ops : Array Oper} {L : Array Bool} (hd : Down ops L) {i j : Nat} (hr : j ∈ Region.ready .any ops L) (h : Reach ops i j) : L.getD i false = true := by
  obtain ⟨_, _, o, ho, hall⟩ := ready_iff.1 hr
  cases h with
  | one _ o' e ho' he hb hi =>
    rw [ho] at ho'; injection ho' with ho'; subst ho' hi
    exact hall e he hb
  | more _ o' e ho' he hb h =>
    rw [ho] at ho'; injection ho' with ho'; subst ho'
    exact hd.reach h (hall e he hb)
end Go.Proofs.YtmmmdmandocbhaaDoor.Den
end

section
/- Regions that draw their order: the proof. -/
set_option linter.unusedVariables false
set_option linter.unusedSimpArgs false
namespace Go.Proofs.YtmmmdmandocbhaaDoor.Den
variable {P : Program} {E : Evs} {ops : Array Oper}

def opV (P : Program) (E : Evs) (o : Oper) (a : Act) (H : World) : Option (Value × World) :=
  match semD P o a H with
  | some (.value v, H1) => some (v, H1)
  | some (.skip, H1) => some (undef, H1)
  | some (.enter f args, H1) => E.fn f args H1
  | some (.round l _ tmps assign body, H1) => E.round l tmps assign body H1
  | _ => none
theorem opD_eq (o : Oper) (a : Act) (H : World) : opD P E o a H = (opV P E o a H).map fun r => (a.put o.dst r.1, r.2) := by
  unfold opD opV
  cases semD P o a H with
  | none => rfl
  | some p =>
    obtain ⟨nx, H1⟩ := p
    cases nx <;> rfl
def stepV (P : Program) (E : Evs) (ops : Array Oper) (i : Nat) (a : Act) (H : World) : Option (Value × World) :=
  match ops[i]? with
  | none => none
  | some o => if Region.wanted o (yielded ops a.tmps) then opV P E o a H else some (undef, H)
theorem stepD_eq (i : Nat) (a : Act) (H : World) : stepD P E ops i a H = (stepV P E ops i a H).map fun r => (a.put (dstOf ops i) r.1, r.2) := by
  unfold stepD stepV dstOf
  cases ops[i]? with
  | none => rfl
  | some o =>
    simp only [Option.bind_some]
    split
    · exact opD_eq o a H
    · rfl
theorem looks_eval {i : Nat} {o : Oper} (ho : ops[i]? = some o) {a b : Act} (h : ∀ t ∈ looks ops i, a.tmps.getD t undef = b.tmps.getD t undef) : ∀ x ∈ o.op.operands, a.eval x = b.eval x := by
  intro x hx
  cases x with
  | tmp t =>
    refine h t ?_
    simp only [looks, ho, Oper.looksAt, List.mem_append, List.mem_filterMap]
    exact .inl ⟨.tmp t, by simpa using hx, rfl⟩
  | _ => rfl
theorem looks_wanted {i : Nat} {o : Oper} (ho : ops[i]? = some o) {a b : Act} (hs : a.tmps.size = b.tmps.size) (h : ∀ t ∈ looks ops i, a.tmps.getD t undef = b.tmps.getD t undef) :
    Region.wanted o (yielded ops a.tmps) = Region.wanted o (yielded ops b.tmps) := by
  unfold Region.wanted
  cases hg : o.guard with
  | none => rfl
  | some p =>
    obtain ⟨j, want⟩ := p
    simp only
    congr 1
    unfold yielded
    cases hd : (ops[j]?).bind (·.dst) with
    | none => rfl
    | some d =>
      simp only [Option.bind_some]
      have hm : d ∈ looks ops i := by
        simp only [looks, ho, Oper.looksAt, List.mem_append, hg, hd]
        exact .inr (by simp)
      have he := h d hm
      by_cases hlt : d < a.tmps.size
      · have hlt' : d < b.tmps.size := hs ▸ hlt
        simp only [Array.getD, hlt, hlt', dite_true] at he
        rw [Array.getElem?_eq_getElem hlt, Array.getElem?_eq_getElem hlt']
        have he : a.tmps[d] = b.tmps[d] := he
        rw [he]
      · have hlt' : ¬ d < b.tmps.size := hs ▸ hlt
        rw [Array.getElem?_eq_none (Nat.not_lt.1 hlt), Array.getElem?_eq_none (Nat.not_lt.1 hlt')]
theorem stepV_congr {i : Nat} {a b : Act} (hs : a.tmps.size = b.tmps.size) (h : ∀ t ∈ looks ops i, a.tmps.getD t undef = b.tmps.getD t undef) (H : World) : stepV P E ops i a H = stepV P E ops i b H := by
  unfold stepV
  cases ho : ops[i]? with
  | none => rfl
  | some o =>
    simp only
    rw [looks_wanted ho hs h]
    unfold opV
    rw [semD_congr (looks_eval ho h)]
theorem stepV_quiet {i : Nat} {a : Act} {H H1 : World} {v : Value} (hq : mover P ops i = false) (h : stepV P E ops i a H = some (v, H1)) : H1 = H := by
  unfold stepV at h
  unfold mover at hq
  cases ho : ops[i]? with
  | none => rw [ho] at h; cases h
  | some o =>
    rw [ho] at h hq
    simp only [Bool.not_eq_false'] at h hq
    split at h
    · unfold opV at h
      cases hs : semD P o a H with
      | none => rw [hs] at h; cases h
      | some p =>
        obtain ⟨nx, H2⟩ := p
        obtain ⟨rfl, u, rfl⟩ := quiet_sem hq hs
        rw [hs] at h
        cases h; rfl
    · cases h; rfl
theorem stepV_re {i : Nat} {a : Act} {H H' : World} {v : Value} (hq : mover P ops i = false) (h : stepV P E ops i a H = some (v, H)) (hr : reOne P ops i a H H' = true) : stepV P E ops i a H' = some (v, H') := by
  unfold stepV at h ⊢
  unfold mover at hq
  unfold reOne at hr
  cases ho : ops[i]? with
  | none => rw [ho] at h; cases h
  | some o =>
    rw [ho] at h hq hr
    simp only [Bool.not_eq_false'] at h hq hr ⊢
    split at h
    · rename_i hw
      rw [if_pos hw] at hr ⊢
      unfold opV at h ⊢
      cases hs : semD P o a H with
      | none => rw [hs] at h; cases h
      | some p =>
        obtain ⟨nx, H2⟩ := p
        obtain ⟨rfl, u, rfl⟩ := quiet_sem hq hs
        cases hpd : pureD P o.op a.eval with
        | some u2 =>
          have key : ∀ H0 H2 nx, semD P o a H0 = some (nx, H2) → semD P o a H' = some (.value u2, H') ∧ nx = .value u2 := by
            intro H0 H2 nx h0
            unfold semD at h0 ⊢
            split at h0
            · cases h0
            rename_i hops
            rw [if_neg hops, hpd]
            rw [hpd] at h0
            injection h0 with h0; injection h0 with h1 h2
            exact ⟨rfl, h1.symm⟩
          obtain ⟨k1, k2⟩ := key _ _ _ hs
          rw [hs] at h
          simp only at h
          cases h
          rw [k1]
          injection k2 with k2; rw [k2]
        | none =>
        rw [hpd] at hr
        simp only [Option.isSome_none, Bool.false_eq_true, if_false] at hr
        rw [hs] at h hr
        simp only at h
        cases h
        cases hs' : semD P o a H' with
        | none => rw [hs'] at hr; cases hr
        | some p' =>
          obtain ⟨nx', H3⟩ := p'
          obtain ⟨rfl, u', rfl⟩ := quiet_sem hq hs'
          rw [hs'] at hr
          simp only at hr ⊢
          rw [veq_eq hr]
    · rename_i hw
      rw [if_neg hw]
      cases h; rfl

/-! ### what was looked at beforehand -/
structure Stat (P : Program) (ops : Array Oper) : Prop where
  edge : ∀ (j : Nat) (o : Oper) (e : Edge), ops[j]? = some o → e ∈ o.after → Region.binds .any e = true → e.on < j
  dsts : ∀ i j t, i < ops.size → j < ops.size → i ≠ j → dstOf ops i = some t → dstOf ops j ≠ some t
  reads : ∀ i j t, i < ops.size → j < ops.size → i ≠ j → dstOf ops i = some t → t ∈ looks ops j → ahead ops i j = true ∨ ahead ops j i = true
  moves : ∀ i j, i < ops.size → j < ops.size → mover P ops i = true → mover P ops j = true → i < j → ahead ops i j = true ∨ j = lateOf P ops
  late : lateOf P ops < ops.size → isAlloc ops (lateOf P ops) = true
  wait : ∀ (j : Nat) (o : Oper) (e : Edge), ops[j]? = some o → e ∈ o.after → Region.binds .any e = true → e.on = lateOf P ops → ∀ m, m < lateOf P ops → mover P ops m = true → ahead ops m j = true
theorem late_isAlloc (h : lateOf P ops < ops.size) : isAlloc ops (lateOf P ops) = true := by
  unfold lateOf at h ⊢
  cases hf : (List.range ops.size).find? fun f => isAlloc ops f && (List.range f).any fun m => mover P ops m && !(ahead ops m f) with
  | none => rw [hf] at h; simp at h
  | some f =>
    have := List.find?_some hf
    simp only [Bool.and_eq_true] at this
    simpa using this.1
theorem stat_of (h : drawStatic P ops = true) : Stat P ops := by
  unfold drawStatic at h
  simp only [List.all_eq_true, List.mem_range, Bool.and_eq_true] at h
  have hE : ∀ (j : Nat) (o : Oper) (e : Edge), ops[j]? = some o → e ∈ o.after → Region.binds .any e = true → e.on < j ∧ (e.on = lateOf P ops → ∀ m, m < lateOf P ops → mover P ops m = true → ahead ops m j = true) := by
    intro j o e ho he hb
    have hj := (Array.getElem?_eq_some_iff.1 ho).1
    have := (h j hj).1
    rw [ho] at this
    simp only [Array.all_eq_true_iff_forall_mem] at this
    have := this e he
    rw [hb] at this
    simp only [Bool.not_true, Bool.false_or, Bool.and_eq_true, decide_eq_true_eq, Bool.or_eq_true, Bool.not_eq_true', beq_eq_false_iff_ne, List.all_eq_true, List.mem_range] at this
    refine ⟨this.1, fun heq m hm hmv => ?_⟩
    rcases this.2 with h2 | h2
    · exact absurd heq h2
    · rcases h2 m hm with h3 | h3
      · rw [hmv] at h3; cases h3
      · exact h3
  refine ⟨fun j o e ho he hb => (hE j o e ho he hb).1, fun i j t hi hj hij hd => ?_, fun i j t hi hj hij hd ht => ?_, fun i j hi hj h1 h2 hij => ?_, late_isAlloc, fun j o e ho he hb => (hE j o e ho he hb).2⟩
  · have := ((h j hj).2 i hi).1
    rw [hd] at this
    simp only [Bool.or_eq_true, beq_iff_eq, Bool.and_eq_true, bne_iff_ne] at this
    rcases this with e | ⟨e, _⟩
    · exact absurd e hij
    · exact e
  · have := ((h j hj).2 i hi).1
    rw [hd] at this
    simp only [Bool.or_eq_true, beq_iff_eq, Bool.and_eq_true, Bool.not_eq_true', List.contains_eq_mem] at this
    rcases this with e | ⟨_, (e | e) | e⟩
    · exact absurd e hij
    · simp [ht] at e
    · exact .inl e
    · exact .inr e
  · have := ((h j hj).2 i hi).2
    rw [h1, h2] at this
    simpa [hij] using this
theorem Stat.lt (hs : Stat P ops) {i j : Nat} (h : Reach ops i j) : i < j := by
  induction h with
  | one j o e ho he hb hi => subst hi; exact hs.edge j o e ho he hb
  | more j o e ho he hb h ih => exact Nat.lt_trans ih (hs.edge j o e ho he hb)

/-! ### the temporaries -/
structure TmOk (ops : Array Oper) (a0 : Act) (val : Nat → Value) (L : Nat → Bool) (a : Act) : Prop where
  defers : a.defers = a0.defers
  size : a.tmps.size = a0.tmps.size
  set : ∀ t j, t < a0.tmps.size → j < ops.size → L j = true → dstOf ops j = some t → a.tmps[t]? = some (val j)
  old : ∀ t, t < a0.tmps.size → (∀ j, j < ops.size → L j = true → dstOf ops j ≠ some t) → a.tmps[t]? = a0.tmps[t]?
abbrev DstOk (ops : Array Oper) : Prop := ∀ i j t, i < ops.size → j < ops.size → i ≠ j → dstOf ops i = some t → dstOf ops j ≠ some t
theorem TmOk.put0 (hs : DstOk ops) {a0 a : Act} {val : Nat → Value} {L L' : Nat → Bool} (h : TmOk ops a0 val L a) {i : Nat} (hi : i < ops.size) (hL : L' i = true) (hL' : ∀ j, j ≠ i → L' j = L j) :
    TmOk ops a0 val L' (a.put (dstOf ops i) (val i)) := by
  cases hd : dstOf ops i with
  | none =>
    refine ⟨h.defers, h.size, fun t j ht hj hl hdj => ?_, fun t ht hn => ?_⟩
    · by_cases hji : j = i
      · subst hji; rw [hd] at hdj; cases hdj
      · exact h.set t j ht hj (by rw [← hL' j hji]; exact hl) hdj
    · refine h.old t ht fun j hj hl => ?_
      by_cases hji : j = i
      · subst hji; rw [hd]; simp
      · exact hn j hj (by rw [hL' j hji]; exact hl)
  | some d =>
    refine ⟨h.defers, by simp [Act.put, h.size], fun t j ht hj hl hdj => ?_, fun t ht hn => ?_⟩
    · simp only [Act.put, Array.getElem?_setIfInBounds]
      by_cases hji : j = i
      · subst hji
        rw [hd] at hdj; injection hdj with hdj; subst hdj
        rw [if_pos rfl, if_pos (by rw [h.size]; exact ht)]
      · have hdt : d ≠ t := fun e => by subst e; exact hs i j d hi hj (fun e => hji e.symm) hd hdj
        rw [if_neg hdt]
        exact h.set t j ht hj (by rw [← hL' j hji]; exact hl) hdj
    · simp only [Act.put, Array.getElem?_setIfInBounds]
      have hdt : d ≠ t := fun e => by subst e; exact hn i hi hL hd
      rw [if_neg hdt]
      refine h.old t ht fun j hj hl => ?_
      by_cases hji : j = i
      · subst hji; rw [hd]; intro e; injection e with e; exact hdt e
      · exact hn j hj (by rw [hL' j hji]; exact hl)
theorem TmOk.put (hs : Stat P ops) {a0 a : Act} {val : Nat → Value} {L L' : Nat → Bool} (h : TmOk ops a0 val L a) {i : Nat} (hi : i < ops.size) (hL : L' i = true) (hL' : ∀ j, j ≠ i → L' j = L j) :
    TmOk ops a0 val L' (a.put (dstOf ops i) (val i)) := h.put0 hs.dsts hi hL hL'
theorem TmOk.agree0 {a0 a b : Act} {val : Nat → Value} {L M : Nat → Bool} (ha : TmOk ops a0 val L a) (hb : TmOk ops a0 val M b) {t : Nat} (h : ∀ j, j < ops.size → dstOf ops j = some t → L j = M j) : a.tmps[t]? = b.tmps[t]? := by
  by_cases ht : t < a0.tmps.size
  · by_cases hex : ∃ j, j < ops.size ∧ L j = true ∧ dstOf ops j = some t
    · obtain ⟨j, hj, hl, hd⟩ := hex
      rw [ha.set t j ht hj hl hd, hb.set t j ht hj (by rw [← h j hj hd]; exact hl) hd]
    · have hno : ∀ j, j < ops.size → L j = true → dstOf ops j ≠ some t := fun j hj hl hd => hex ⟨j, hj, hl, hd⟩
      rw [ha.old t ht hno, hb.old t ht fun j hj hl hd => hno j hj (by rw [h j hj hd]; exact hl) hd]
  · rw [Array.getElem?_eq_none (by rw [ha.size]; omega), Array.getElem?_eq_none (by rw [hb.size]; omega)]
theorem TmOk.agree (hs : Stat P ops) {a0 a b : Act} {val : Nat → Value} {L M : Nat → Bool} (ha : TmOk ops a0 val L a) (hb : TmOk ops a0 val M b) {t : Nat} (h : ∀ j, j < ops.size → dstOf ops j = some t → L j = M j) : a.tmps[t]? = b.tmps[t]? := ha.agree0 hb h
theorem getD_of {a b : Array Value} {t : Nat} (h : a[t]? = b[t]?) : a.getD t undef = b.getD t undef := by
  rw [Array.getD_eq_getD_getElem?, Array.getD_eq_getD_getElem?, h]
end Go.Proofs.YtmmmdmandocbhaaDoor.Den
end

section
/- Regions that draw their order: the walk over every order. -/
set_option linter.unusedVariables false
set_option linter.unusedSimpArgs false
namespace Go.Proofs.YtmmmdmandocbhaaDoor.Den
variable {P : Program} {E : Evs} {ops : Array Oper}

theorem traceD_spec : ∀ (l : List Nat) (a : Act) (H : World) (tr : List (Act × World)), traceD P E ops l a H = some tr →
    tr[0]? = some (a, H) ∧ ∀ k i, l[k]? = some i → ∃ x y, tr[k]? = some x ∧ tr[k + 1]? = some y ∧ stepD P E ops i x.1 x.2 = some y
  | [], a, H, tr, h => by
    cases h
    exact ⟨rfl, fun k i hk => by simp at hk⟩
  | i :: rest, a, H, tr, h => by
    unfold traceD at h
    cases hs : stepD P E ops i a H with
    | none => rw [hs] at h; cases h
    | some p =>
      obtain ⟨a1, H1⟩ := p
      rw [hs] at h
      simp only [Option.map_eq_some_iff] at h
      obtain ⟨tr1, h, rfl⟩ := h
      obtain ⟨h0, hk⟩ := traceD_spec rest a1 H1 tr1 h
      refine ⟨rfl, fun k j hj => ?_⟩
      cases k with
      | zero =>
        simp only [List.getElem?_cons_zero, Option.some.injEq] at hj
        subst hj
        exact ⟨(a, H), (a1, H1), rfl, by simpa using h0, hs⟩
      | succ k =>
        obtain ⟨x, y, hx, hy, hst⟩ := hk k j (by simpa using hj)
        exact ⟨x, y, by simpa using hx, by simpa using hy, hst⟩

theorem movers_succ (i : Nat) : movers P ops (i + 1) = movers P ops i + (if mover P ops i then 1 else 0) := by
  unfold movers
  rw [List.range_succ, List.countP_append]
  simp [List.countP_cons]
theorem movers_mono {i j : Nat} (h : i ≤ j) : movers P ops i ≤ movers P ops j := by
  induction h with
  | refl => exact Nat.le_refl _
  | step _ ih => rw [movers_succ]; omega

/-- The walk that was made, in the order of the text. -/
structure Walk (P : Program) (E : Evs) (ops : Array Oper) (A : Nat → Act) (W : Nat → World) (val : Nat → Value) : Prop where
  step : ∀ i, i < ops.size → stepV P E ops i (A i) (W i) = some (val i, W (i + 1))
  put : ∀ i, i < ops.size → A (i + 1) = (A i).put (dstOf ops i) (val i)
  re : ∀ i j, (i, j) ∈ rePairs P ops → reOne P ops i (A i) (W i) (W j) = true

section
variable {A : Nat → Act} {W : Nat → World} {val : Nat → Value}
theorem Walk.same (hw : Walk P E ops A W val) : ∀ {i j : Nat}, i ≤ j → j ≤ ops.size → movers P ops i = movers P ops j → W j = W i := by
  intro i j hij
  induction hij with
  | refl => intros; rfl
  | @step j hij ih =>
    intro hj hm
    have h1 := movers_mono (P := P) (ops := ops) hij
    rw [movers_succ] at hm
    have hq : mover P ops j = false := by
      cases hq : mover P ops j with
      | false => rfl
      | true => rw [hq] at hm; simp at hm; omega
    rw [hq] at hm
    simp only [Bool.false_eq_true, if_false, Nat.add_zero] at hm
    rw [stepV_quiet hq (hw.step j (by omega)), ih (by omega) hm]
theorem Walk.same' (hw : Walk P E ops A W val) {i j : Nat} (hi : i ≤ ops.size) (hj : j ≤ ops.size) (hm : movers P ops i = movers P ops j) : W j = W i := by
  rcases Nat.le_total i j with h | h
  · exact hw.same h hj hm
  · exact (hw.same h hi hm.symm).symm
theorem Walk.tm (hs : Stat P ops) (hw : Walk P E ops A W val) : ∀ i, i ≤ ops.size → TmOk ops (A 0) val (fun j => decide (j < i)) (A i)
  | 0, _ => ⟨rfl, rfl, fun t j _ _ h => by simp at h, fun t _ _ => rfl⟩
  | i + 1, h => by
    rw [hw.put i (by omega)]
    exact (hw.tm hs i (by omega)).put hs (by omega) (by simp) fun j hj => by
      simp only [decide_eq_decide]; omega

/-- One ready operation, wherever the walk stands. -/
theorem Walk.ready (hs : Stat P ops) (hw : Walk P E ops A W val) {L : Array Bool} (hsz : L.size = ops.size) (hd : Down ops L) {a : Act} (ha : TmOk ops (A 0) val (fun j => L.getD j false) a) {j : Nat} (hj : j ≤ ops.size)
    (hrep : j = 0 ∨ mover P ops (j - 1) = true) (hm : movers P ops j = (List.range ops.size).countP fun m => mover P ops m && L.getD m false) {i : Nat} (hi : i ∈ Region.ready .any ops L)
    (hlate : L.getD (lateOf P ops) false = true → ∀ m, m < lateOf P ops → mover P ops m = true → L.getD m false = true) (hnow : i = lateOf P ops → ∀ m, m < lateOf P ops → mover P ops m = true → L.getD m false = true) :
    ∃ j2, stepV P E ops i a (W j) = some (val i, W j2) ∧ j2 ≤ ops.size ∧ (j2 = 0 ∨ mover P ops (j2 - 1) = true) ∧
      movers P ops j2 = (List.range ops.size).countP fun m => mover P ops m && (L.setIfInBounds i true).getD m false := by
  obtain ⟨hin, hLi, _⟩ := ready_iff.1 hi
  have hLi' : L.getD i false = false := by
    simp only [Array.getD, hsz, hin, dite_true] at hLi ⊢; exact hLi
  have hset : ∀ m, m ≠ i → (L.setIfInBounds i true).getD m false = L.getD m false := fun m hmi => by
    rw [Array.getD_eq_getD_getElem?, Array.getD_eq_getD_getElem?, Array.getElem?_setIfInBounds, if_neg (fun e => hmi e.symm)]
  have hseti : (L.setIfInBounds i true).getD i false = true := by
    rw [Array.getD_eq_getD_getElem?, Array.getElem?_setIfInBounds, if_pos rfl, if_pos (by omega)]; rfl
  have hah : ∀ m, ahead ops m i = true → L.getD m false = true := fun m h => reach_ready hd hi (ahead_reach h)
  have hbe : ∀ m, ahead ops i m = true → L.getD m false = false := fun m h => by
    cases hl : L.getD m false with
    | false => rfl
    | true => rw [hd.reach (ahead_reach h) hl] at hLi'; cases hLi'
  have hcong : ∀ H, stepV P E ops i a H = stepV P E ops i (A i) H := fun H => by
    have hA := hw.tm hs i (Nat.le_of_lt hin)
    refine stepV_congr (by rw [ha.size, hA.size]) (fun t ht => getD_of (ha.agree hs hA fun m hmn hmd => ?_)) H
    by_cases hmi : m = i
    · subst hmi; simp [hLi']
    · rcases hs.reads m i t hmn hin hmi hmd ht with h | h
      · rw [hah m h]
        simp [hs.lt (ahead_reach h)]
      · rw [hbe m h]
        have := hs.lt (ahead_reach h)
        simp; omega
  rw [hcong]
  cases hq : mover P ops i with
  | true =>
    have hmi : movers P ops j = movers P ops i := by
      rw [hm]
      unfold movers
      have : (List.range ops.size).countP (fun m => mover P ops m && L.getD m false) = (List.range ops.size).countP (fun m => mover P ops m && decide (m < i)) := by
        refine countP_congr' fun m hm' => ?_
        have hmn := List.mem_range.1 hm'
        cases hqm : mover P ops m with
        | false => rfl
        | true =>
          simp only [Bool.true_and]
          rcases Nat.lt_trichotomy m i with h | h | h
          · have : L.getD m false = true := by
              rcases hs.moves m i hmn hin hqm hq h with h2 | h2
              · exact hah m h2
              · exact hnow h2 m (by omega) hqm
            rw [this]; simp [h]
          · subst h; simp [hLi']
          · have : L.getD m false = false := by
              rcases hs.moves i m hin hmn hq hqm h with h2 | h2
              · exact hbe m h2
              · cases hl : L.getD m false with
                | false => rfl
                | true =>
                  rw [h2] at hl h
                  have := hlate hl i h hq
                  rw [this] at hLi'; cases hLi'
            rw [this]; simp; omega
      rw [this]
      have hsplit : List.range ops.size = List.range i ++ (List.range (ops.size - i)).map (i + ·) := by
        rw [← List.range_add]; congr 1; omega
      rw [hsplit, List.countP_append]
      rw [countP_congr' (l := List.range i) (p := fun m => mover P ops m && decide (m < i)) (q := mover P ops) fun m hm' => by simp [List.mem_range.1 hm']]
      have : List.countP (fun m => mover P ops m && decide (m < i)) ((List.range (ops.size - i)).map (i + ·)) = 0 := by
        rw [List.countP_eq_zero]
        intro x hx
        obtain ⟨y, _, rfl⟩ := List.mem_map.1 hx
        simp
      omega
    have hW : W j = W i := hw.same' (Nat.le_of_lt hin) hj hmi.symm
    refine ⟨i + 1, by rw [hW]; exact hw.step i hin, by omega, .inr (by simpa using hq), ?_⟩
    rw [movers_succ, hq, if_pos rfl, ← hmi, hm]
    exact (countP_upd ops.size hin (by simp [hLi']) (by simp [hq, hseti]) fun m hmi => by rw [hset m hmi]).symm
  | false =>
    have hcount : (List.range ops.size).countP (fun m => mover P ops m && (L.setIfInBounds i true).getD m false) = (List.range ops.size).countP fun m => mover P ops m && L.getD m false := by
      refine countP_congr' fun m _ => ?_
      by_cases hmi : m = i
      · subst hmi; simp [hq]
      · rw [hset m hmi]
    refine ⟨j, ?_, hj, hrep, by rw [hcount]; exact hm⟩
    have hv := hw.step i hin
    have hWi := stepV_quiet hq hv
    rw [hWi] at hv
    by_cases hmi : movers P ops j = movers P ops i
    · rw [hw.same' (Nat.le_of_lt hin) hj hmi.symm]; exact hv
    · refine stepV_re hq hv (hw.re i j ?_)
      unfold rePairs
      simp only [List.mem_flatMap, List.mem_range]
      refine ⟨i, hin, ?_⟩
      rw [hq]
      simp only [Bool.false_eq_true, if_false, List.mem_map, List.mem_filter, List.mem_range, Bool.and_eq_true, Bool.or_eq_true, beq_iff_eq, bne_iff_ne, decide_eq_true_eq]
      refine ⟨j, ⟨by omega, ⟨⟨hrep, hmi⟩, ?_⟩, ?_⟩, rfl⟩
      · rw [hm]
        exact countP_le fun m _ h => by
          simp only [Bool.and_eq_true] at h ⊢
          exact ⟨h.1, hah m h.2⟩
      · rw [hm]
        exact countP_le fun m _ h => by
          simp only [Bool.and_eq_true, Bool.not_eq_true'] at h ⊢
          refine ⟨h.1, ?_⟩
          cases ha : ahead ops i m with
          | false => rfl
          | true => rw [hbe m ha] at h; exact absurd h.2 (by simp)
end
end Go.Proofs.YtmmmdmandocbhaaDoor.Den
end

section
/- Regions that draw their order and make several rows: every order comes to what the order of the text comes to. -/
set_option linter.unusedVariables false
set_option linter.unusedSimpArgs false
namespace Go.Proofs.YtmmmdmandocbhaaDoor.Den
variable {P : Program} {E : Evs} {ops : Array Oper} {ι : Emb}

/-! ### 1. a reference whose block gets another number -/
inductive IsRef : (Nat → Value) → Prop
  | ptr : IsRef fun k => .pointer (some ⟨k, 0, none⟩)
  | sl (n c : Nat) : IsRef fun k => .slice (some ⟨k, 0, none⟩) n c
  | map : IsRef fun k => .map (some k)
theorem IsRef.loc {mk : Nat → Value} (h : IsRef mk) {ι : Emb} {N : Nat} {v' : Value} (hv : VRel ι (mk N) v') : ∃ r, ι N = some r := by
  cases h with
  | ptr => cases hv with | ptr i o r hr => exact ⟨r, hr⟩
  | sl n c => cases hv with | sl i o n c a' c' r hr hs => exact ⟨r, hr⟩
  | map => cases hv with | map i r hr => exact ⟨r, hr⟩
theorem IsRef.move {mk : Nat → Value} (h : IsRef mk) {ι1 ι2 : Emb} {k N : Nat} (he : ι2 k = ι1 N) {v' : Value} (hv : VRel ι1 (mk N) v') : VRel ι2 (mk k) v' := by
  cases h with
  | ptr => cases hv with | ptr i o r hr => exact .ptr k 0 r (he.trans hr)
  | sl n c => cases hv with | sl i o n c a' c' r hr hs => exact .sl k 0 n c a' c' r (he.trans hr) hs
  | map => cases hv with | map i r hr => exact .map k r (he.trans hr)
theorem get_ren {g : Array Obj} {k : Nat} (hk : k < g.size) (x : Obj) (j : Nat) : ((g.setIfInBounds k x).push deadObj)[j]? = if j = k then some x else if j = g.size then some deadObj else g[j]? := by
  rw [Array.getElem?_push, Array.size_setIfInBounds, Array.getElem?_setIfInBounds]
  by_cases h1 : j = k
  · subst h1
    rw [if_neg (by omega), if_pos rfl, if_pos hk, if_pos rfl]
  · rw [if_neg h1]
    by_cases h2 : j = g.size
    · rw [if_pos h2, if_pos h2]
    · rw [if_neg h2, if_neg h2, if_neg (fun e => h1 e.symm)]
theorem live_dead : live deadObj = false := rfl
/-- The newest object gets a number that was held free for it. -/
theorem Step.rename {ι0 ι1 : Emb} {H0 H w0 w1 : World} {g : Array Obj} {x : Obj} {k : Nat} {r : Loc} (h : Step P ι0 H0 w0 ι1 { H with heap := g.push x } w1) (hk : k < g.size) (hk0 : H0.heap.size ≤ k) (hn : ι1 k = none) (hr : ι1 g.size = some r) :
    Step P ι0 H0 w0 (ι1.put k r) { H with heap := (g.setIfInBounds k x).push deadObj } w1 := by
  have hle := Emb.le_put (r := r) hn
  have hpush : ∀ j, (g.push x)[j]? = if j = g.size then some x else g[j]? := fun j => Array.getElem?_push
  have hput : ∀ j, j ≠ k → (ι1.put k r) j = ι1 j := fun j hj => by simp only [Emb.put]; rw [if_neg hj]
  have old : ∀ (j : Nat) (o : Obj) (rj : Loc), ((g.setIfInBounds k x).push deadObj)[j]? = some o → live o = true → (ι1.put k r) j = some rj → ∃ m, (g.push x)[m]? = some o ∧ ι1 m = some rj ∧ (j = k ∧ m = g.size ∨ j ≠ k ∧ m = j ∧ j ≠ g.size) := by
    intro j o rj hj hl hrj
    rw [get_ren hk] at hj
    by_cases h1 : j = k
    · subst h1
      rw [if_pos rfl] at hj
      injection hj with hj; subst hj
      rw [Emb.put_same] at hrj
      exact ⟨g.size, by rw [hpush, if_pos rfl], hr.trans hrj, .inl ⟨rfl, rfl⟩⟩
    · rw [if_neg h1] at hj
      by_cases h2 : j = g.size
      · rw [if_pos h2] at hj
        injection hj with hj; subst hj; cases hl
      · rw [if_neg h2] at hj
        rw [hput j h1] at hrj
        exact ⟨j, by rw [hpush, if_neg h2]; exact hj, hrj, .inr ⟨h1, rfl, h2⟩⟩
  have hsz : ((g.setIfInBounds k x).push deadObj).size = g.size + 1 := by simp
  refine ⟨Emb.le_trans h.le hle, ⟨fun b zs hz => ?_, fun j o hj hl => ?_, fun i j o1 o2 r1 r2 h1 l1 h2 l2 e1 e2 hbb hg1 => ?_, fun j rj hj => ?_, fun j o hj => ?_, fun s zs g h1 h2 => hle.fz _ _ (h.rel.tab s zs g h1 h2)⟩, h.size, h.os, h.tape, h.output, h.keep, fun i o s hi hg hs => ?_, h.pins, fun i o s hi hl hs => ?_, ?_, fun i hi => ?_⟩
  · obtain ⟨hrow, hh⟩ := h.rel.fz b zs hz
    refine ⟨hrow, fun j o rj hj hl hg hrj => ?_⟩
    obtain ⟨m, hm, hrm, _⟩ := old j o rj hj hl hrj
    exact hh m o rj hm hl hg hrm
  · have hj' := hj
    rw [get_ren hk] at hj
    by_cases h1 : j = k
    · subst h1
      rw [if_pos rfl] at hj
      injection hj with hj; subst hj
      obtain ⟨r', o', hr', hw, ho⟩ := h.rel.obj g.size x (by show (g.push x)[g.size]? = _; rw [hpush, if_pos rfl]) hl
      rw [hr] at hr'; injection hr' with hr'; subst hr'
      exact ⟨r, o', Emb.put_same _ _ _, hw, ho.mono hle⟩
    · rw [if_neg h1] at hj
      by_cases h2 : j = g.size
      · rw [if_pos h2] at hj
        injection hj with hj; subst hj; cases hl
      · rw [if_neg h2] at hj
        obtain ⟨r', o', hr', hw, ho⟩ := h.rel.obj j o (by show (g.push x)[j]? = _; rw [hpush, if_neg h2]; exact hj) hl
        exact ⟨r', o', hle _ _ hr', hw, ho.mono hle⟩
  · obtain ⟨m1, hm1, hr1, hc1⟩ := old i o1 r1 h1 l1 e1
    obtain ⟨m2, hm2, hr2, hc2⟩ := old j o2 r2 h2 l2 e2
    have := h.rel.inj m1 m2 o1 o2 r1 r2 hm1 l1 hm2 l2 hr1 hr2 hbb hg1
    rcases hc1 with ⟨a1, a2⟩ | ⟨a1, a2, a3⟩ <;> rcases hc2 with ⟨b1, b2⟩ | ⟨b1, b2, b3⟩ <;> omega
  · show j < ((g.setIfInBounds k x).push deadObj).size ∧ _
    rw [hsz]
    by_cases h1 : j = k
    · subst h1
      rw [Emb.put_same] at hj
      injection hj with hj; subst hj
      exact ⟨by omega, (h.rel.dom _ _ hr).2⟩
    · rw [hput j h1] at hj
      have := h.rel.dom j rj hj
      simpa using this
  · rw [get_ren hk] at hj
    by_cases h1 : j = k
    · subst h1
      rw [if_pos rfl] at hj
      exact h.rel.only g.size o (by show (g.push x)[g.size]? = _; rw [hpush, if_pos rfl]; exact hj)
    · rw [if_neg h1] at hj
      by_cases h2 : j = g.size
      · rw [if_pos h2] at hj
        injection hj with hj; exact .inr hj.symm
      · rw [if_neg h2] at hj
        exact h.rel.only j o (by show (g.push x)[j]? = _; rw [hpush, if_neg h2]; exact hj)
  · obtain ⟨p1, p2⟩ := h.pin i o s hi hg hs
    have hlt := (Array.getElem?_eq_some_iff.1 hi).1
    refine ⟨?_, p2⟩
    show ((g.setIfInBounds k x).push deadObj)[i]? = _
    have p1 : (g.push x)[i]? = some o := p1
    rw [hpush, if_neg (by omega)] at p1
    rw [get_ren hk, if_neg (by omega), if_neg (by omega)]
    exact p1
  · obtain ⟨m, hm, hrm, _⟩ := old i o s hi hl hs
    exact h.own m o s hm hl hrm
  · have := h.grow
    show _ ≤ ((g.setIfInBounds k x).push deadObj).size
    rw [hsz]
    simpa using this
  · rw [hput i (by omega)]
    exact h.news i hi
/-- A number is held free. -/
theorem Step.dead {ι0 ι1 : Emb} {H0 H w0 w1 : World} {g : Array Obj} (h : Step P ι0 H0 w0 ι1 { H with heap := g } w1) : Step P ι0 H0 w0 ι1 { H with heap := g.push deadObj } w1 := by
  have hpush : ∀ j, (g.push deadObj)[j]? = if j = g.size then some deadObj else g[j]? := fun j => Array.getElem?_push
  have old : ∀ (j : Nat) (o : Obj), (g.push deadObj)[j]? = some o → live o = true → g[j]? = some o := fun j o hj hl => by
    rw [hpush] at hj
    split at hj
    · injection hj with hj; subst hj; cases hl
    · exact hj
  have hg := h.grow
  have hg : H0.heap.size ≤ g.size := hg
  refine ⟨h.le, ⟨fun b zs hz => ?_, fun j o hj hl => h.rel.obj j o (old j o hj hl) hl, fun i j o1 o2 r1 r2 h1 l1 h2 l2 e1 e2 hbb hg1 => h.rel.inj i j o1 o2 r1 r2 (old _ _ h1 l1) l1 (old _ _ h2 l2) l2 e1 e2 hbb hg1, fun j rj hj => ?_, fun j o hj => ?_, h.rel.tab⟩, h.size, h.os, h.tape, h.output, h.keep, fun i o s hi hgv hs => ?_, h.pins, fun i o s hi hl hs => h.own i o s (old i o hi hl) hl hs, ?_, h.news⟩
  · obtain ⟨hrow, hh⟩ := h.rel.fz b zs hz
    exact ⟨hrow, fun j o rj hj hl hg hrj => hh j o rj (old j o hj hl) hl hg hrj⟩
  · have := h.rel.dom j rj hj
    refine ⟨?_, this.2⟩
    have h1 : j < g.size := this.1
    show j < (g.push deadObj).size
    simp; omega
  · have hj : (g.push deadObj)[j]? = some o := hj
    rw [hpush] at hj
    split at hj
    · injection hj with hj; exact .inr hj.symm
    · exact h.rel.only j o hj
  · obtain ⟨p1, p2⟩ := h.pin i o s hi hgv hs
    have hlt := (Array.getElem?_eq_some_iff.1 hi).1
    refine ⟨?_, p2⟩
    show (g.push deadObj)[i]? = _
    rw [hpush, if_neg (by omega)]
    exact p1
  · show _ ≤ (g.push deadObj).size
    simp; omega
end Go.Proofs.YtmmmdmandocbhaaDoor.Den
end

section
/- Regions that make several rows: operations that look at old memory alone, or make one row. -/
set_option linter.unusedVariables false
set_option linter.unusedSimpArgs false
namespace Go.Proofs.YtmmmdmandocbhaaDoor.Den
variable {P : Program} {E : Evs} {ops : Array Oper}

/-- What stood at the start stands. -/
def Agr (H0 H : World) : Prop := ∀ b, b < H0.heap.size → H.heap[b]? = H0.heap[b]?
/-- A program that looks at nothing but what stood at the start. -/
def RD (P : Program) (H0 : World) {α : Type} (s : Sem α) : Prop := ∀ (H : World) (x : α) (H1 : World), Agr H0 H → s.run P H = .ok x H1 → H1 = H ∧ ∀ w, Agr H0 w → s.run P w = .ok x w
section
variable {H0 : World} {α β : Type}
theorem HF.rd {s : Sem α} (h : HF P s) : RD P H0 s := fun H x H1 _ hx => ⟨(h H x H1 hx).1, fun w _ => (h H x H1 hx).2 w⟩
theorem RD.pure (x : α) : RD P H0 (Pure.pure x : Sem α) := (HF.pure x).rd
theorem RD.bind {s : Sem α} {k : α → Sem β} (h : RD P H0 s) (hk : ∀ x, RD P H0 (k x)) : RD P H0 (s >>= k) := by
  intro H y H1 ha hy
  simp only [Sem.run_bind] at hy ⊢
  cases hs : s.run P H with
  | halt e w1 => rw [hs] at hy; cases hy
  | ok x w1 =>
    rw [hs] at hy
    obtain ⟨rfl, h2⟩ := h H x w1 ha hs
    obtain ⟨rfl, h3⟩ := hk x w1 y H1 ha hy
    refine ⟨rfl, fun w hw => ?_⟩
    rw [h2 w hw]
    exact h3 w hw
theorem RD.ite {c : Prop} [Decidable c] {s t : Sem α} (h : RD P H0 s) (h' : RD P H0 t) : RD P H0 (if c then s else t) := by split <;> assumption
def isRow (H0 : World) (b : Nat) : Bool := match H0.heap[b]? with
  | some (.cells ..) => true
  | _ => false
theorem isRow_some {b : Nat} (h : isRow H0 b = true) : b < H0.heap.size ∧ ∃ cs e f, H0.heap[b]? = some (.cells cs e f) := by
  unfold isRow at h
  split at h
  · rename_i cs e f hb
    exact ⟨(Array.getElem?_eq_some_iff.1 hb).1, _, _, _, hb⟩
  · cases h
theorem RD.load {a : Addr} (h : isRow H0 a.block = true) : RD P H0 (Go.load a) := by
  obtain ⟨hb, cs, e, f, hr⟩ := isRow_some h
  intro H x H1 ha hx
  have hH := (ha _ hb).trans hr
  simp only [run_load] at hx ⊢
  have hc : ∀ w, Agr H0 w → w.cell? a = H.cell? a := fun w hw => by
    have hW := (hw _ hb).trans hr
    simp only [World.cell?, hH, hW]
  cases hcc : H.cell? a with
  | some v =>
    rw [hcc] at hx
    cases hx
    refine ⟨rfl, fun w hw => ?_⟩
    rw [hc w hw, hcc]
  | none =>
    rw [hcc] at hx
    simp [World.farLoad, hH] at hx
theorem RD.loadCellsFrom {a : Addr} (h : isRow H0 a.block = true) : ∀ (n k : Nat) (acc : Array Value), RD P H0 (Go.loadCellsFrom a k n acc)
  | 0, k, acc => by unfold Go.loadCellsFrom; exact .pure _
  | n + 1, k, acc => by
    unfold Go.loadCellsFrom
    refine RD.bind (RD.load ?_) fun x => RD.loadCellsFrom h n (k + 1) _
    have : (a.add k).block = a.block := by unfold Addr.add; split <;> rfl
    rw [this]; exact h
theorem RD.loadCells {a : Addr} (h : isRow H0 a.block = true) (n : Nat) : RD P H0 (Go.loadCells a n) := RD.loadCellsFrom h n 0 _
theorem RD.loadVar {a : Addr} (h : isRow H0 a.block = true) (t : TypeId) : RD P H0 (Go.loadVar t a) := by
  unfold Go.loadVar
  refine RD.bind (HF.isAgg t).rd fun b => RD.ite ?_ (RD.load h)
  exact RD.bind (HF.sizeOf t).rd fun n => RD.bind (RD.loadCells h n) fun cs => .pure _
/-- A program that makes one row, or none. -/
def AL (P : Program) (H0 : World) (s : Sem Value) : Prop := ∀ (H : World) (x : Value) (H1 : World), Agr H0 H → s.run P H = .ok x H1 →
  (H1 = H ∧ ∀ w, Agr H0 w → s.run P w = .ok x w) ∨ ∃ o mk, IsRef mk ∧ live o = true ∧ H1 = pushObj H o ∧ x = mk H.heap.size ∧ ∀ w, Agr H0 w → s.run P w = .ok (mk w.heap.size) (pushObj w o)
theorem RD.al {s : Sem Value} (h : RD P H0 s) : AL P H0 s := fun H x H1 ha hx => .inl (h H x H1 ha hx)
theorem RD.bindAL {s : Sem α} {k : α → Sem Value} (h : RD P H0 s) (hk : ∀ x, AL P H0 (k x)) : AL P H0 (s >>= k) := by
  intro H y H1 ha hy
  simp only [Sem.run_bind] at hy ⊢
  cases hs : s.run P H with
  | halt e w1 => rw [hs] at hy; cases hy
  | ok x w1 =>
    rw [hs] at hy
    obtain ⟨rfl, h2⟩ := h H x w1 ha hs
    rcases hk x w1 y H1 ha hy with ⟨rfl, h3⟩ | ⟨o, mk, hm, hl, rfl, rfl, h3⟩
    · exact .inl ⟨rfl, fun w hw => by rw [h2 w hw]; exact h3 w hw⟩
    · exact .inr ⟨o, mk, hm, hl, rfl, rfl, fun w hw => by rw [h2 w hw]; exact h3 w hw⟩
theorem AL.ite {c : Prop} [Decidable c] {s t : Sem Value} (h : AL P H0 s) (h' : AL P H0 t) : AL P H0 (if c then s else t) := by split <;> assumption
theorem AL.newPtr (e : TypeId) (cs : Array Value) : AL P H0 (Go.newRow e cs >>= fun a => Pure.pure (.pointer (some a))) := by
  intro H x H1 _ hx
  simp only [Go.newRow, Sem.run_bind, run_newObj, Result.andThen_ok, Sem.run_pure, Result.ok.injEq] at hx ⊢
  obtain ⟨rfl, rfl⟩ := hx
  exact .inr ⟨.cells cs e (0, 0), _, .ptr, rfl, rfl, rfl, fun w _ => ⟨rfl, rfl⟩⟩
theorem AL.newSl (e : TypeId) (cs : Array Value) (n c : Nat) : AL P H0 (Go.newRow e cs >>= fun a => Pure.pure (.slice (some a) n c)) := by
  intro H x H1 _ hx
  simp only [Go.newRow, Sem.run_bind, run_newObj, Result.andThen_ok, Sem.run_pure, Result.ok.injEq] at hx ⊢
  obtain ⟨rfl, rfl⟩ := hx
  exact .inr ⟨.cells cs e (0, 0), _, .sl n c, rfl, rfl, rfl, fun w _ => ⟨rfl, rfl⟩⟩
theorem AL.newMap : AL P H0 (Go.newObj (.map #[] 0) >>= fun a => Pure.pure (.map (some a))) := by
  intro H x H1 _ hx
  simp only [Sem.run_bind, run_newObj, Result.andThen_ok, Sem.run_pure, Result.ok.injEq] at hx ⊢
  obtain ⟨rfl, rfl⟩ := hx
  exact .inr ⟨.map #[] 0, _, .map, rfl, rfl, rfl, fun w _ => ⟨rfl, rfl⟩⟩
theorem AL.of_noRun {s : Sem Value} (h : ∀ (H : World) x H1, s.run P H ≠ .ok x H1) : AL P H0 s := fun H x H1 _ hx => absurd hx (h H x H1)
theorem AL.stuck (e : String) : AL P H0 (Go.stuck e : Sem Value) := (HF.stuck e).rd.al
theorem AL.alloc (e : TypeId) (v : Value) : AL P H0 (Instr.alloc e true v) := by
  have h : Instr.alloc e true v = (Go.zeroValue e >>= fun z => Go.newRow e z.cells >>= fun a => Pure.pure (.pointer (some a))) := by
    unfold Instr.alloc
    rfl
  rw [h]
  exact RD.bindAL (HF.zeroValue e).rd fun z => AL.newPtr e z.cells
theorem AL.box (e : TypeId) (v : Value) : AL P H0 (Instr.box e v) := AL.newPtr e v.cells
theorem HF.zerosOf (e : TypeId) (n : Nat) : HF P (Den.zerosOf e n) := by
  unfold Den.zerosOf
  split
  · exact .pure _
  · exact HF.bind (HF.zeroValue e) fun z => .pure _
theorem AL.makeSlice (t : TypeId) (l c : Value) : AL P H0 (Instr.makeSlice t l c) := by
  rw [makeSlice_eq]
  refine RD.bindAL (HF.underlying t).rd fun d => ?_
  cases d with
  | slice elem =>
    refine RD.bindAL (HF.asInt l).rd fun x => RD.bindAL (HF.asInt c).rd fun y => RD.bindAL (HF.typeInfo elem).rd fun inf => ?_
    simp only
    split
    · refine .of_noRun fun H v H1 => ?_
      split
      · exact noRun_runtimePanic _ _ _ _
      · split
        · exact noRun_runtimePanic _ _ _ _
        · exact noRun_bind (fun _ => noRun_runtimePanic _) _ _ _
    · refine RD.bindAL (HF.rd ?_) fun _ => RD.bindAL (HF.sizeOf elem).rd fun size => RD.bindAL (HF.zerosOf elem _).rd fun z => AL.newSl elem _ _ _
      unfold askRoom; split
      · exact .mark _
      · exact .pure _
  | _ => exact AL.stuck _
theorem AL.buildSlice (t : TypeId) (len : Nat) (ps : Array (Nat × Value)) : AL P H0 (Instr.buildSlice t len ps) := by
  rw [buildSlice_eq]
  refine RD.bindAL (HF.underlying t).rd fun d => ?_
  cases d with
  | slice elem =>
    refine RD.bindAL (HF.sizeOf elem).rd fun size => ?_
    refine AL.ite ((HF.unsupported _).rd.al) ?_
    refine RD.bindAL (HF.zerosOf elem _).rd fun z => ?_
    cases Instr.fill (fun i => some (i * size, size)) ((Array.range (len * size)).map (z[· % z.size]!)) ps.toList with
    | none => exact AL.stuck _
    | some cs => exact AL.newSl elem cs len len
  | _ => exact AL.stuck _
theorem AL.makeMap (t : TypeId) : AL P H0 (Instr.makeMap t none) := AL.newMap
theorem HF.build (t : TypeId) (ps : Array (Nat × Value)) : HF P (Instr.build t ps) := by
  unfold Instr.build
  refine HF.bind (HF.zeroValue t) fun z => HF.bind (HF.underlying t) fun d => ?_
  split
  · refine HF.bind (HF.mapM (fun f => HF.bind (HF.sizeOf _) fun n => .pure _) _) fun pl => ?_
    split
    · exact .pure _
    · exact .stuck _
  · refine HF.bind (HF.sizeOf _) fun n => ?_
    split
    · exact .pure _
    · exact .stuck _
  · exact .stuck _
end
/-- An operation that looks at nothing but what stood at the start, and makes one row at most. -/
def NewFr (P : Program) (H0 : World) (o : Oper) (a : Act) : Prop := ∀ (H : World) (nx : Next) (H1 : World), Agr H0 H → semD P o a H = some (nx, H1) →
  ∃ v, nx = .value v ∧ ((H1 = H ∧ ∀ w, Agr H0 w → semD P o a w = some (.value v, w)) ∨ ∃ x mk, IsRef mk ∧ live x = true ∧ H1 = pushObj H x ∧ v = mk H.heap.size ∧ ∀ w, Agr H0 w → semD P o a w = some (.value (mk w.heap.size), pushObj w x))
def srcOk (H0 : World) : Value → Bool
  | .slice none _ _ => true
  | .slice (some p) _ _ => isRow H0 p.block
  | .string _ | .iface .. => true
  | _ => false
def nilSl : Value → Bool
  | .slice none _ _ => true
  | _ => false
def plainLen : Value → Bool
  | .slice .. | .string _ | .iface .. => true
  | _ => false
/-- Is this such an operation, at these operands? -/
def newOkV (P : Program) (H0 : World) (o : Oper) (ρ : Operand → Value) : Bool :=
  match o.op with
  | .move _ | .assign _ | .pick .. | .build .. | .extract .. => true
  | .nilCheck _ | .fieldAddr .. => true
  | .alloc _ | .box .. | .makeSlice .. | .buildSlice .. | .makeMap _ none => true
  | .load _ x => match ρ x with
    | .pointer (some p) => isRow H0 p.block
    | _ => false
  | .call c => match c.callee with
    | .builtin .append => nilSl ((c.args.map ρ).getD 0 undef) && srcOk H0 ((c.args.map ρ).getD 1 undef)
    | .builtin .len => plainLen ((c.args.map ρ).getD 0 undef)
    | _ => false
  | _ => false
def newOk (P : Program) (H0 : World) (o : Oper) (a : Act) : Bool := newOkV P H0 o a.eval
end Go.Proofs.YtmmmdmandocbhaaDoor.Den
namespace Go.Proofs.YtmmmdmandocbhaaDoor.Den
variable {P : Program} {E : Evs} {ops : Array Oper}
theorem HF.unary (op : UnOp) (v : Value) : HF P (Op.unary op v) := by
  unfold Op.unary
  split <;> first | exact .pure _ | exact .stuck _ | exact .unsupported _
theorem HF.extract (v : Value) (k : Nat) : HF P (Instr.extract v k) := by
  unfold Instr.extract
  split
  · split
    · exact .pure _
    · exact .stuck _
  · exact .stuck _
theorem HF.fieldAt {s : TypeId} {f : Nat} (hf : fieldOk P s f = true) (v : Value) : HF P (Instr.fieldAt s v f) := by
  unfold fieldOk at hf
  cases hu : P.underlying s with
  | none => rw [hu] at hf; cases hf
  | some d =>
    rw [hu] at hf
    cases d with
    | struct fs =>
      simp only at hf
      cases hfs : fs[f]? with
      | none => rw [hfs] at hf; cases hf
      | some fl =>
        rw [hfs] at hf
        simp only at hf
        cases hi : P.info? fl.type with
        | none => rw [hi] at hf; cases hf
        | some inf =>
          rw [hi] at hf
          have hsz : inf.size ≠ 0 := by simpa using hf
          have hrun : ∀ (W : World) (a : Addr), (Instr.fieldAt s (.pointer (some a)) f).run P W = .ok (.pointer (some (a.add fl.offset))) W := by
            intro W a
            simp [Instr.fieldAt, Go.underlying, hu, hfs, Instr.sureAddr, fieldPlace, Go.sizeOf, Go.typeInfo, hi, hsz]
          by_cases hp : ∃ a, v = .pointer (some a)
          · obtain ⟨a, rfl⟩ := hp
            intro w x w1 hx
            rw [hrun] at hx
            simp only [Result.ok.injEq] at hx
            obtain ⟨rfl, rfl⟩ := hx
            exact ⟨rfl, fun w => hrun w a⟩
          · refine HF.of_noRun fun w x w1 hx => ?_
            have : ∃ e, (Instr.sureAddr v).run P w = .halt e w := by
              unfold Instr.sureAddr
              split
              · exact absurd ⟨_, rfl⟩ hp
              · exact ⟨_, rfl⟩
            obtain ⟨e, he⟩ := this
            simp [Instr.fieldAt, Go.underlying, hu, hfs, he] at hx
    | _ => cases hf
theorem src_fr {H0 H : World} {size : Nat} {x : Value} (h : srcOk H0 x = true) (ha : Agr H0 H) {m : Nat} {cs : Array Value} (hc : cellsOfD P size x H = some (m, cs)) : ∀ w, Agr H0 w → cellsOfD P size x w = some (m, cs) := by
  intro w hw
  unfold cellsOfD at hc ⊢
  split at hc
  · exact hc
  · rename_i p n c
    rw [Option.map_eq_some_iff] at hc
    obtain ⟨⟨r, H1⟩, hr, he⟩ := hc
    simp only [Prod.mk.injEq] at he
    obtain ⟨rfl, rfl⟩ := he
    have hrow : isRow H0 p.block = true := h
    rw [((RD.loadCells hrow (n * size)) H r H1 ha (okRun_some hr)).2 w hw]
    rfl
  · exact hc
  · exact hc
  · cases hc
theorem appended_fr {H0 H : World} {t : Option TypeId} {inf : TypeInfo} {x : Value} (h : srcOk H0 x = true) (ha : Agr H0 H) {r : Nat × Array Value} (hc : appended P t inf x H = some r) : ∀ w, Agr H0 w → appended P t inf x w = some r := by
  intro w hw
  unfold appended at hc ⊢
  split at hc
  · cases h
  · cases hc
  · obtain ⟨m, cs⟩ := r
    exact src_fr h ha hc w hw
  · cases hc
theorem append_fr {H0 H : World} {ts : Array TypeId} {s x : Value} (hn : nilSl s = true) (hx : srcOk H0 x = true) (ha : Agr H0 H) : ∀ r, lappend P ts s x H = some r →
    (r.2 = H ∧ ∀ w, Agr H0 w → lappend P ts s x w = some (r.1, w)) ∨ ∃ o mk, IsRef mk ∧ live o = true ∧ r.2 = pushObj H o ∧ r.1 = mk H.heap.size ∧ ∀ w, Agr H0 w → lappend P ts s x w = some (mk w.heap.size, pushObj w o) := by
  intro r hr
  unfold nilSl at hn
  split at hn
  case h_2 => cases hn
  rename_i n c
  unfold lappend at hr ⊢
  cases ht : (ts[0]?).bind P.underlying with
  | none => rw [ht] at hr; cases hr
  | some d =>
  rw [ht] at hr
  cases d <;> simp only at hr <;> first | (cases hr; done) | skip
  rename_i elem
  cases hi : P.info? elem with
  | none => rw [hi] at hr; cases hr
  | some inf =>
  rw [hi] at hr
  simp only at hr ⊢
  cases hap : appended P ts[1]? inf x H with
  | none => rw [hap] at hr; cases hr
  | some mn =>
  obtain ⟨m, new⟩ := mn
  rw [hap] at hr
  have hap' := fun w hw => appended_fr hx ha hap w hw
  simp only at hr ⊢
  by_cases h1 : n + m ≤ c
  · rw [if_pos h1] at hr
    cases hr
    exact .inl ⟨rfl, fun w hw => by rw [hi]; simp only; rw [hap' w hw]; simp only; rw [if_pos h1]⟩
  · rw [if_neg h1] at hr
    split at hr
    case isFalse => cases hr
    rename_i h2
    have hold : ∀ w : World, cellsOfD P inf.size (.slice none n c) w = cellsOfD P inf.size (.slice none n c) H := fun w => rfl
    have hgr : ∀ w : World, growsFrom w none elem c inf.size = growsFrom H none elem c inf.size := fun w => rfl
    split at hr
    · rename_i z n0 old hz hc hg
      split at hr
      case isFalse => cases hr
      rename_i h3
      cases hr
      refine .inr ⟨_, _, .sl (n + m) (n + m), rfl, rfl, rfl, fun w hw => ?_⟩
      rw [hi]
      simp only
      rw [hap' w hw]
      simp only
      rw [if_neg h1, if_pos h2, hold w, hgr w, hz, hc, hg]
      simp only
      rw [if_pos h3]
    · rename_i z n0 old r0 hz hc hg
      have : growsFrom H none elem c inf.size = some none := rfl
      rw [this] at hg
      cases hg
    · cases hr
theorem okRun_pure (nx : Next) (H : World) : okRun ((Pure.pure nx : Sem Next).run P H) = some (nx, H) := rfl
theorem newOk_fr {H0 : World} {o : Oper} {a : Act} (h : newOk P H0 o a = true) : NewFr P H0 o a := by
  intro H nx H1 ha hs
  have hs0 := hs
  unfold semD at hs
  split at hs
  · cases hs
  rename_i hops
  cases hpd : pureD P o.op a.eval with
  | some v =>
    rw [hpd] at hs
    cases hs
    exact ⟨v, rfl, .inl ⟨rfl, fun w _ => by unfold semD; rw [if_neg hops, hpd]⟩⟩
  | none =>
  rw [hpd] at hs
  clear hs
  have ex : ∀ s : Sem Value, AL P H0 s → (∀ w, semD P o a w = okRun ((do Pure.pure (Next.value (← s)) : Sem Next).run P w)) →
      ∃ v, nx = .value v ∧ ((H1 = H ∧ ∀ w, Agr H0 w → semD P o a w = some (.value v, w)) ∨ ∃ x mk, IsRef mk ∧ live x = true ∧ H1 = pushObj H x ∧ v = mk H.heap.size ∧ ∀ w, Agr H0 w → semD P o a w = some (.value (mk w.heap.size), pushObj w x)) := by
    intro s hal hw
    have hr := okRun_some ((hw H).symm.trans hs0)
    simp only [Sem.run_bind] at hr
    cases hrn : s.run P H with
    | halt e w1 => rw [hrn] at hr; cases hr
    | ok x w1 =>
      rw [hrn] at hr
      simp only [Result.andThen_ok, Sem.run_pure, Result.ok.injEq] at hr
      obtain ⟨rfl, rfl⟩ := hr
      rcases hal H x w1 ha hrn with ⟨rfl, h3⟩ | ⟨ob, mk, hm, hl, rfl, rfl, h3⟩
      · exact ⟨x, rfl, .inl ⟨rfl, fun w hww => by rw [hw w]; simp only [Sem.run_bind, h3 w hww, Result.andThen_ok, Sem.run_pure, okRun]⟩⟩
      · exact ⟨_, rfl, .inr ⟨ob, mk, hm, hl, rfl, rfl, fun w hww => by rw [hw w]; simp only [Sem.run_bind, h3 w hww, Result.andThen_ok, Sem.run_pure, okRun]⟩⟩
  have pv : ∀ v, (∀ w, semD P o a w = some (.value v, w)) →
      ∃ v, nx = .value v ∧ ((H1 = H ∧ ∀ w, Agr H0 w → semD P o a w = some (.value v, w)) ∨ ∃ x mk, IsRef mk ∧ live x = true ∧ H1 = pushObj H x ∧ v = mk H.heap.size ∧ ∀ w, Agr H0 w → semD P o a w = some (.value (mk w.heap.size), pushObj w x)) := by
    intro v hw
    have hr := (hw H).symm.trans hs0
    cases hr
    exact ⟨v, rfl, .inl ⟨rfl, fun w _ => hw w⟩⟩
  obtain ⟨dst, op, ty, pos, guard, after⟩ := o
  simp only at hpd hops
  unfold newOk newOkV at h
  cases op <;> simp only at h <;> first | (cases h; done) | skip
  case move x => exact pv _ fun w => by unfold semD; rw [if_neg hops, hpd]; rfl
  case assign x => exact pv _ fun w => by unfold semD; rw [if_neg hops, hpd]; rfl
  case pick c x y => exact ex (do Pure.pure (if ← asBool (a.eval c) then a.eval x else a.eval y)) (HF.rd (HF.bind (HF.asBool _) fun b => .pure _)).al (fun w => by
      unfold semD; rw [if_neg hops, hpd]
      simp [execOp, okOp])
  case build t ps => exact ex _ (HF.build t _).rd.al (fun w => by unfold semD; rw [if_neg hops, hpd]; rfl)
  case extract x i => exact ex _ (HF.extract _ _).rd.al (fun w => by unfold semD; rw [if_neg hops, hpd]; rfl)
  case alloc e => exact ex _ (AL.alloc e _) (fun w => by unfold semD; rw [if_neg hops, hpd]; rfl)
  case box e x => exact ex _ (AL.box e _) (fun w => by unfold semD; rw [if_neg hops, hpd]; rfl)
  case makeSlice t l c => exact ex _ (AL.makeSlice t _ _) (fun w => by unfold semD; rw [if_neg hops, hpd]; rfl)
  case buildSlice t n ps => exact ex _ (AL.buildSlice t n _) (fun w => by unfold semD; rw [if_neg hops, hpd]; rfl)
  case makeMap t r =>
    cases r with
    | none => exact ex _ (AL.makeMap t) (fun w => by unfold semD; rw [if_neg hops, hpd]; rfl)
    | some r => cases h
  case fieldAddr s x f =>
    by_cases hf : fieldOk P s f = true
    · exact ex _ (HF.fieldAt hf _).rd.al (fun w => by
        unfold semD; rw [if_neg hops, hpd]
        simp only [okOp, hf, if_true]
        rfl)
    · unfold semD at hs0
      rw [if_neg hops, hpd] at hs0
      simp only [okOp, hf] at hs0
      cases hs0
  case nilCheck x =>
    have hs1 := hs0
    unfold semD at hs1
    rw [if_neg hops, hpd] at hs1
    simp only at hs1
    split at hs1
    · rename_i p hp
      exact pv (.pointer (some p)) fun w => by unfold semD; rw [if_neg hops, hpd]; simp only; rw [hp]
    · rename_i f fs cs hp
      exact pv (.func (.func f) fs cs) fun w => by unfold semD; rw [if_neg hops, hpd]; simp only; rw [hp]
    · cases hs1
  case load t x =>
    split at h
    · rename_i p hp
      refine ex (Instr.loadAt t (a.eval x)) ?_ (fun w => by unfold semD; rw [if_neg hops, hpd]; rfl)
      rw [hp]
      exact (RD.loadVar h t).al
    · cases h
  case call c =>
    obtain ⟨callee, args, tys⟩ := c
    cases callee with
    | builtin b =>
      have hsem : ∀ w, semD P ⟨dst, .call ⟨.builtin b, args, tys⟩, ty, pos, guard, after⟩ a w = (builtinD P b tys (args.map a.eval) w).map fun r => (.value r.1, r.2) := fun w => by unfold semD; rw [if_neg hops, hpd]; rfl
      rw [hsem] at hs0
      cases b <;> first | (cases h; done) | skip
      case append =>
        simp only [Bool.and_eq_true] at h
        obtain ⟨hn, hsrc⟩ := h
        simp only [builtinD] at hs0 hsem
        by_cases h2 : (args.map a.eval).size = 2
        · simp only [h2, if_true] at hs0 hsem
          have hap := append_fr (P := P) (ts := tys) hn hsrc ha
          cases hla : lappend P tys ((args.map a.eval).getD 0 undef) ((args.map a.eval).getD 1 undef) H with
          | none => rw [hla] at hs0; cases hs0
          | some r =>
            rw [hla] at hs0
            cases hs0
            rcases hap r hla with ⟨e, h3⟩ | ⟨x, mk, hm, hl, e1, e2, h3⟩
            · exact ⟨_, rfl, .inl ⟨e, fun w hw => by rw [hsem w, h3 w hw]; rfl⟩⟩
            · exact ⟨_, rfl, .inr ⟨x, mk, hm, hl, e1, e2, fun w hw => by rw [hsem w, h3 w hw]; rfl⟩⟩
        · simp only [h2, if_false] at hs0
          cases hs0
      case len =>
        simp only [builtinD] at hs0 hsem
        by_cases h2 : (args.map a.eval).size = 1 ∧ tys.size = 1
        · simp only [h2, and_self, if_true] at hs0 hsem
          have hle : ∀ w, lenD P (tys.getD 0 0) ((args.map a.eval).getD 0 undef) w = lenD P (tys.getD 0 0) ((args.map a.eval).getD 0 undef) H := fun w => by
            generalize (args.map a.eval).getD 0 undef = v at h
            unfold lenD
            cases v <;> first | (cases h; done) | skip
            all_goals
              cases P.underlying (tys.getD 0 0) with
              | none => rfl
              | some d => cases d <;> rfl
          cases hla : lenD P (tys.getD 0 0) ((args.map a.eval).getD 0 undef) H with
          | none => rw [hla] at hs0; cases hs0
          | some r =>
            rw [hla] at hs0
            cases hs0
            exact ⟨_, rfl, .inl ⟨rfl, fun w hw => by rw [hsem w, hle w, hla]; rfl⟩⟩
        · simp only [h2, if_false] at hs0
          cases hs0
    | _ => cases h
end Go.Proofs.YtmmmdmandocbhaaDoor.Den
end

section
/- Regions that make several rows: every order comes to what the order of the text comes to. -/
set_option linter.unusedVariables false
set_option linter.unusedSimpArgs false
namespace Go.Proofs.YtmmmdmandocbhaaDoor.Den
variable {P : Program} {E : Evs} {ops : Array Oper} {ι : Emb}

def deadN : Nat → World → World
  | 0, H => H
  | d + 1, H => deadN d (pushObj H deadObj)
theorem deadN_get : ∀ (d : Nat) (H : World) (b : Nat), (deadN d H).heap[b]? = if b < H.heap.size then H.heap[b]? else if b < H.heap.size + d then some deadObj else none
  | 0, H, b => by
    unfold deadN
    by_cases h : b < H.heap.size
    · rw [if_pos h]
    · rw [if_neg h, if_neg (by omega)]
      exact Array.getElem?_eq_none (Nat.not_lt.1 h)
  | d + 1, H, b => by
    unfold deadN
    rw [deadN_get d]
    have hs : (pushObj H deadObj).heap.size = H.heap.size + 1 := by simp [pushObj]
    have hp : (pushObj H deadObj).heap[b]? = if b = H.heap.size then some deadObj else H.heap[b]? := Array.getElem?_push
    rw [hs, hp]
    by_cases h : b < H.heap.size
    · rw [if_pos (by omega), if_neg (by omega), if_pos h]
    · rw [if_neg h]
      by_cases h2 : b = H.heap.size
      · rw [if_pos (by omega), if_pos h2, if_pos (by omega)]
      · rw [if_neg (by omega)]
        by_cases h3 : b < H.heap.size + 1 + d
        · rw [if_pos h3, if_pos (by omega)]
        · rw [if_neg h3, if_neg (by omega)]
theorem deadN_rest : ∀ (d : Nat) (H : World), deadN d H = { H with heap := (deadN d H).heap }
  | 0, H => rfl
  | d + 1, H => by
    unfold deadN
    exact deadN_rest d (pushObj H deadObj)
def newStatic (ops : Array Oper) : Bool :=
  (List.range ops.size).all fun j =>
    (match ops[j]? with
      | some o => o.after.all fun e => !(Region.binds .any e) || decide (e.on < j)
      | none => true) &&
    (List.range ops.size).all fun i =>
      match dstOf ops i with
      | some t => (i == j || dstOf ops j != some t) && (!(looks ops j).contains t || ahead ops i j)
      | none => true
structure Stat0 (ops : Array Oper) : Prop where
  edge : ∀ (j : Nat) (o : Oper) (e : Edge), ops[j]? = some o → e ∈ o.after → Region.binds .any e = true → e.on < j
  dsts : DstOk ops
  reads : ∀ i j t, i < ops.size → j < ops.size → dstOf ops i = some t → t ∈ looks ops j → ahead ops i j = true
theorem stat0_of (h : newStatic ops = true) : Stat0 ops := by
  unfold newStatic at h
  simp only [List.all_eq_true, List.mem_range, Bool.and_eq_true] at h
  refine ⟨fun j o e ho he hb => ?_, fun i j t hi hj hij hd => ?_, fun i j t hi hj hd ht => ?_⟩
  · have hj := (Array.getElem?_eq_some_iff.1 ho).1
    have := (h j hj).1
    rw [ho] at this
    simp only [Array.all_eq_true_iff_forall_mem] at this
    have := this e he
    rw [hb] at this
    simpa using this
  · have := (h j hj).2 i hi
    rw [hd] at this
    simp only [Bool.and_eq_true, Bool.or_eq_true, beq_iff_eq, bne_iff_ne] at this
    rcases this.1 with e | e
    · exact absurd e hij
    · exact e
  · have := (h j hj).2 i hi
    rw [hd] at this
    simp only [Bool.and_eq_true, Bool.or_eq_true, Bool.not_eq_true', List.contains_eq_mem] at this
    rcases this.2 with e | e
    · simp [ht] at e
    · exact e
theorem Stat0.lt (hs : Stat0 ops) {i j : Nat} (h : Reach ops i j) : i < j := by
  induction h with
  | one j o e ho he hb hi => subst hi; exact hs.edge j o e ho he hb
  | more j o e ho he hb h ih => exact Nat.lt_trans ih (hs.edge j o e ho he hb)
theorem all_listed0 (hs : Stat0 ops) {L : Array Bool} (hsz : L.size = ops.size) (h : Region.ready .any ops L = []) : ∀ i, i < ops.size → L.getD i false = true := by
  intro i
  induction i using Nat.strongRecOn with
  | _ i ih =>
    intro hi
    cases hl : L.getD i false with
    | true => rfl
    | false =>
      exfalso
      have : i ∈ Region.ready .any ops L := by
        refine ready_iff.2 ⟨hi, ?_, ops[i], Array.getElem?_eq_getElem hi, fun e he hb => ?_⟩
        · simp only [Array.getD, hsz, hi, dite_true] at hl ⊢; exact hl
        · have hlt := hs.edge i _ e (Array.getElem?_eq_getElem hi) he hb
          exact ih e.on hlt (by omega)
      rw [h] at this
      cases this
theorem set_getD0 {L : Array Bool} {i : Nat} (hi : i < L.size) (m : Nat) : (L.setIfInBounds i true).getD m false = if m = i then true else L.getD m false := by
  rw [Array.getD_eq_getD_getElem?, Array.getElem?_setIfInBounds]
  by_cases h : i = m
  · subst h; rw [if_pos rfl, if_pos hi, if_pos rfl]; rfl
  · rw [if_neg h, if_neg (fun e => h e.symm), Array.getD_eq_getD_getElem?]
def newChk (P : Program) (H : World) (ops : Array Oper) (a1 : Act) : Bool := (List.range ops.size).all (fun i => match ops[i]? with | some o => !(Region.wanted o (yielded ops a1.tmps)) || newOk P H o a1 | none => true)
def newD : DrawD := fun P E ops a H =>
  if newStatic ops then
    match traceD P E ops (List.range ops.size) a H with
    | some tr => match tr[ops.size]? with
      | some (a1, H1) => if newChk P H ops a1 then some (a1, deadN (H1.heap.size - H.heap.size) H1) else none
      | none => none
    | none => none
  else none
theorem newOk_congr {H : World} {o : Oper} {a b : Act} (h : ∀ x ∈ o.op.operands, a.eval x = b.eval x) : newOk P H o a = newOk P H o b := by
  obtain ⟨dst, op, ty, pos, guard, after⟩ := o
  simp only at h
  cases op <;> first | rfl | skip
  case makeMap t r => cases r <;> rfl
  case load t x => simp only [newOk, newOkV]; rw [h x (by simp [Op.operands])]
  case call c =>
    have hm : c.args.map a.eval = c.args.map b.eval := Array.map_congr_left fun x hx => h x (by simp [Op.operands, Call.operands, hx])
    simp only [newOk, newOkV, hm]
/-- The walk in the order of the text, of operations that make one row at most. -/
structure NWalk (P : Program) (E : Evs) (ops : Array Oper) (H : World) (A : Nat → Act) (W : Nat → World) (val : Nat → Value) : Prop where
  put : ∀ i, i < ops.size → A (i + 1) = (A i).put (dstOf ops i) (val i)
  w0 : W 0 = H
  alt : ∀ i, i < ops.size → (W (i + 1) = W i ∧ ∀ w, Agr H w → stepV P E ops i (A i) w = some (val i, w)) ∨
    ∃ x mk, IsRef mk ∧ live x = true ∧ W (i + 1) = pushObj (W i) x ∧ val i = mk (W i).heap.size ∧ ∀ w, Agr H w → stepV P E ops i (A i) w = some (mk w.heap.size, pushObj w x)
section
variable {H : World} {A : Nat → Act} {W : Nat → World} {val : Nat → Value}
abbrev grew (W : Nat → World) (i : Nat) : Bool := decide ((W (i + 1)).heap.size ≠ (W i).heap.size)
theorem NWalk.tm (hs : Stat0 ops) (hw : NWalk P E ops H A W val) : ∀ i, i ≤ ops.size → TmOk ops (A 0) val (fun j => decide (j < i)) (A i)
  | 0, _ => ⟨rfl, rfl, fun t j _ _ h => by simp at h, fun t _ _ => rfl⟩
  | i + 1, h => by
    rw [hw.put i (by omega)]
    exact (hw.tm hs i (by omega)).put0 hs.dsts (by omega) (by simp) fun j hj => by
      simp only [decide_eq_decide]; omega
theorem NWalk.size1 (hw : NWalk P E ops H A W val) {i : Nat} (hi : i < ops.size) : (W (i + 1)).heap.size = (W i).heap.size + (if grew W i then 1 else 0) := by
  rcases hw.alt i hi with ⟨h, _⟩ | ⟨x, mk, _, _, h, _⟩
  · have : grew W i = false := by simp [grew, h]
    rw [this, h]; simp
  · have hz : (W (i + 1)).heap.size = (W i).heap.size + 1 := by rw [h]; simp [pushObj]
    have : grew W i = true := by simp [grew, hz]
    rw [this, hz]; simp
theorem NWalk.count (hw : NWalk P E ops H A W val) : ∀ i, i ≤ ops.size → (W i).heap.size = H.heap.size + (List.range i).countP (grew W)
  | 0, _ => by rw [hw.w0]; simp
  | i + 1, h => by
    rw [hw.size1 (by omega), hw.count i (by omega), List.range_succ, List.countP_append, List.countP_cons]
    simp
    omega
theorem NWalk.keep (hw : NWalk P E ops H A W val) {i : Nat} : ∀ (j : Nat), i ≤ j → j ≤ ops.size → ∀ (b : Nat) (o : Obj), (W i).heap[b]? = some o → (W j).heap[b]? = some o := by
  intro j hij
  induction hij with
  | refl => intro _ b o h; exact h
  | @step j hij ih =>
    intro hj b o h
    have h1 := ih (by omega) b o h
    rcases hw.alt j (by omega) with ⟨e, _⟩ | ⟨x, mk, _, _, e, _⟩
    · rw [e]; exact h1
    · rw [e]
      have := (Array.getElem?_eq_some_iff.1 h1).1
      show ((W j).heap.push x)[b]? = _
      rw [Array.getElem?_push, if_neg (by omega)]; exact h1
theorem NWalk.low (hw : NWalk P E ops H A W val) {i : Nat} (hi : i ≤ ops.size) : Agr H (W i) := fun b hb => by
  have h0 : (W 0).heap[b]? = some H.heap[b] := by rw [hw.w0]; exact Array.getElem?_eq_getElem hb
  rw [hw.keep i (Nat.zero_le _) hi b _ h0, Array.getElem?_eq_getElem hb]
theorem NWalk.mono (hw : NWalk P E ops H A W val) {i : Nat} : ∀ j, i ≤ j → j ≤ ops.size → (W i).heap.size ≤ (W j).heap.size := by
  intro j hij
  induction hij with
  | refl => intro _; exact Nat.le_refl _
  | @step j hij ih =>
    intro hj
    have h1 := ih (by omega)
    rw [hw.size1 (i := j) (by omega)]
    exact Nat.le_trans h1 (Nat.le_add_right _ _)
theorem NWalk.rest (hw : NWalk P E ops H A W val) : ∀ i, i ≤ ops.size → W i = { H with heap := (W i).heap }
  | 0, _ => by rw [hw.w0]
  | i + 1, h => by
    have ih := hw.rest i (by omega)
    rcases hw.alt i (by omega) with ⟨e, _⟩ | ⟨x, mk, _, _, e, _⟩
    · rw [e]; exact ih
    · rw [e]
      show pushObj (W i) x = _
      unfold pushObj
      conv => lhs; rw [ih]
theorem NWalk.cover (hw : NWalk P E ops H A W val) : ∀ i, i ≤ ops.size → ∀ b, H.heap.size ≤ b → b < (W i).heap.size → ∃ j, j < i ∧ grew W j = true ∧ (W j).heap.size = b
  | 0, _, b, h1, h2 => by rw [hw.w0] at h2; omega
  | i + 1, h, b, h1, h2 => by
    by_cases hb : b < (W i).heap.size
    · obtain ⟨j, h3, h4, h5⟩ := hw.cover i (by omega) b h1 hb
      exact ⟨j, by omega, h4, h5⟩
    · have hz := hw.size1 (i := i) (by omega)
      cases hg : grew W i with
      | false => rw [hg] at hz; simp at hz; omega
      | true => rw [hg] at hz; simp at hz; exact ⟨i, by omega, hg, by omega⟩
theorem NWalk.grew_lt (hw : NWalk P E ops H A W val) {i j : Nat} (hij : i < j) (hj : j ≤ ops.size) (hg : grew W i = true) : (W i).heap.size < (W j).heap.size := by
  have h1 := hw.size1 (i := i) (by omega)
  rw [hg] at h1
  simp at h1
  have := hw.mono (i := i + 1) j (by omega) hj
  omega
theorem NWalk.inj (hw : NWalk P E ops H A W val) {i j : Nat} (hi : i < ops.size) (hj : j < ops.size) (gi : grew W i = true) (gj : grew W j = true) (he : (W i).heap.size = (W j).heap.size) : i = j := by
  rcases Nat.lt_trichotomy i j with h | h | h
  · have := hw.grew_lt h (Nat.le_of_lt hj) gi; omega
  · exact h
  · have := hw.grew_lt h (Nat.le_of_lt hi) gj; omega
/-- How the logical memory stands when these are done. -/
structure Mid (ops : Array Oper) (H : World) (W : Nat → World) (L : Nat → Bool) (g : Array Obj) (ι : Emb) : Prop where
  size : g.size = (W ops.size).heap.size + (List.range ops.size).countP fun i => grew W i && L i
  low : ∀ b, b < H.heap.size → g[b]? = H.heap[b]?
  mid : ∀ i, i < ops.size → grew W i = true → g[(W i).heap.size]? = if L i = true then (W ops.size).heap[(W i).heap.size]? else some deadObj
  hi : ∀ b, (W ops.size).heap.size ≤ b → b < g.size → g[b]? = some deadObj
  res : ∀ i, i < ops.size → grew W i = true → L i = false → ι (W i).heap.size = none
theorem Mid.done (hw : NWalk P E ops H A W val) {L : Nat → Bool} {g : Array Obj} (h : Mid ops H W L g ι) (hall : ∀ i, i < ops.size → L i = true) : ({ H with heap := g } : World) = deadN ((W ops.size).heap.size - H.heap.size) (W ops.size) := by
  rw [deadN_rest]
  have hc := hw.count ops.size (Nat.le_refl _)
  have hsz := h.size
  have hcc : (List.range ops.size).countP (fun i => grew W i && L i) = (List.range ops.size).countP (grew W) := countP_congr' fun i hi => by rw [hall i (List.mem_range.1 hi), Bool.and_true]
  rw [hcc] at hsz
  have : g = (deadN ((W ops.size).heap.size - H.heap.size) (W ops.size)).heap := by
    apply Array.ext_getElem?
    intro b
    rw [deadN_get]
    by_cases h1 : b < (W ops.size).heap.size
    · rw [if_pos h1]
      by_cases h0 : b < H.heap.size
      · rw [h.low b h0, hw.low (Nat.le_refl _) b h0]
      · obtain ⟨j, j1, j2, j3⟩ := hw.cover ops.size (Nat.le_refl _) b (Nat.not_lt.1 h0) h1
        have := h.mid j j1 j2
        rw [hall j j1, if_pos rfl, j3] at this
        exact this
    · rw [if_neg h1]
      by_cases h2 : b < (W ops.size).heap.size + ((W ops.size).heap.size - H.heap.size)
      · rw [if_pos h2]
        exact h.hi b (Nat.not_lt.1 h1) (by omega)
      · rw [if_neg h2]
        exact Array.getElem?_eq_none (by omega)
  rw [← this]
  clear this
  have hr := hw.rest ops.size (Nat.le_refl _)
  generalize W ops.size = Wn at hr
  rw [hr]
end
end Go.Proofs.YtmmmdmandocbhaaDoor.Den
end

section
/- Regions that make several rows: the walk over every order. -/
set_option linter.unusedVariables false
set_option linter.unusedSimpArgs false
namespace Go.Proofs.YtmmmdmandocbhaaDoor.Den
variable {P : Program} {E : Evs} {ops : Array Oper} {ι : Emb}
theorem ActRel.swap {ι1 ι2 : Emb} {a b' : Act} {dst : Option Tmp} {mk : Nat → Value} {N k : Nat} (hm : IsRef mk) (h : ActRel ι1 (a.put dst (mk N)) b') (hle : ι1.le ι2) (he : ι2 k = ι1 N) : ActRel ι2 (a.put dst (mk k)) b' := by
  cases dst with
  | none => exact h.mono hle
  | some d =>
    refine ⟨⟨?_, fun t x y hx hy => ?_⟩, h.defers.mono hle⟩
    · have := h.tmps.1
      simp only [Act.put, Array.size_setIfInBounds] at this ⊢
      exact this
    · simp only [Act.put, Array.getElem?_setIfInBounds] at hx
      by_cases hd : d = t
      · rw [if_pos hd] at hx
        split at hx
        case isFalse => cases hx
        rename_i hlt
        cases hx
        have := h.tmps.2 t (mk N) y (by simp only [Act.put, Array.getElem?_setIfInBounds]; rw [if_pos hd, if_pos hlt]) hy
        exact hm.move he this
      · rw [if_neg hd] at hx
        have := h.tmps.2 t x y (by simp only [Act.put, Array.getElem?_setIfInBounds]; rw [if_neg hd]; exact hx) hy
        exact this.mono hle
theorem new_any (hP : Good P) (hE : Snd P E) (hs : Stat0 ops) {H : World} {A : Nat → Act} {W : Nat → World} {val : Nat → Value} (hw : NWalk P E ops H A W val) {ro' : Option Nat} {n : Nat} {Q : Exit → Act → World → Prop} {ι0 : Emb} {w0 : World} :
    ∀ (fuel : Nat) (L : Array Bool) (ι : Emb) (w : World) (a' a : Act) (g : Array Obj), L.size = ops.size → Down ops L → (List.range ops.size).countP (fun m => !L.getD m false) ≤ fuel → TmOk ops (A 0) val (fun j => L.getD j false) a →
      Mid ops H W (fun j => L.getD j false) g ι → Step P ι0 H w0 ι { H with heap := g } w → ActRel ι a a' → Then P ι0 H w0 (A ops.size) (deadN ((W ops.size).heap.size - H.heap.size) (W ops.size)) (Q .normal) →
      wpAnyIn (Fen ro') n P .any ops Q fuel L a' w := by
  have fin : ∀ (L : Array Bool) (ι : Emb) (w : World) (a' a : Act) (g : Array Obj), (∀ i, i < ops.size → L.getD i false = true) → TmOk ops (A 0) val (fun j => L.getD j false) a → Mid ops H W (fun j => L.getD j false) g ι → Step P ι0 H w0 ι { H with heap := g } w → ActRel ι a a' →
      Then P ι0 H w0 (A ops.size) (deadN ((W ops.size).heap.size - H.heap.size) (W ops.size)) (Q .normal) → Q .normal a' w := by
    intro L ι w a' a g hall ha hm hst har hQ
    have hb := hw.tm hs ops.size (Nat.le_refl _)
    have hae : a = A ops.size := by
      have ht : a.tmps = (A ops.size).tmps := Array.ext_getElem? fun t => ha.agree0 hb fun j hj _ => by rw [hall j hj]; simp [hj]
      have hd : a.defers = (A ops.size).defers := ha.defers.trans hb.defers.symm
      cases a; cases hA : A ops.size
      rw [hA] at ht hd
      simp only at ht hd
      rw [ht, hd]
    subst hae
    rw [hm.done hw hall] at hst
    exact hQ ι a' w hst har
  have down : ∀ {L : Array Bool}, L.size = ops.size → Down ops L → ∀ {i : Nat}, i ∈ Region.ready .any ops L → Down ops (L.setIfInBounds i true) := by
    intro L hsz hd i hi p o' e ho' hp he hb
    obtain ⟨hin, _, o, ho, hedge⟩ := ready_iff.1 hi
    rw [set_getD0 (by omega)] at hp ⊢
    by_cases hei : e.on = i
    · rw [if_pos hei]
    · rw [if_neg hei]
      by_cases hpi : p = i
      · subst hpi
        rw [ho] at ho'; injection ho' with ho'; subst ho'
        exact hedge e he hb
      · rw [if_neg hpi] at hp
        exact hd p o' e ho' hp he hb
  intro fuel
  induction fuel with
  | zero =>
    intro L ι w a' a g hsz hd hc ha hm hst har hQ
    have hall : ∀ i, i < ops.size → L.getD i false = true := by
      intro i hi
      have h0 := List.countP_eq_zero.1 (Nat.le_zero.1 hc) i (List.mem_range.2 hi)
      simpa using h0
    refine ⟨?_, fin L ι w a' a g hall ha hm hst har hQ⟩
    apply List.eq_nil_iff_forall_not_mem.2
    intro i hi
    obtain ⟨hin, hli, _⟩ := ready_iff.1 hi
    have := hall i hin
    simp only [Array.getD, hsz, hin, dite_true] at hli this
    rw [this] at hli; cases hli
  | succ fuel ih =>
    intro L ι w a' a g hsz hd hc ha hm hst har hQ
    refine ⟨fun h => fin L ι w a' a g (all_listed0 hs hsz h) ha hm hst har hQ, fun i hi => ?_⟩
    obtain ⟨hin, hli, o, ho, hedge⟩ := ready_iff.1 hi
    have hLi' : L.getD i false = false := by
      simp only [Array.getD, hsz, hin, dite_true] at hli ⊢; exact hli
    have hd2 := down hsz hd hi
    have hsz2 : (L.setIfInBounds i true).size = ops.size := by simpa using hsz
    have hset : ∀ m, m ≠ i → (L.setIfInBounds i true).getD m false = L.getD m false := fun m hmi => by rw [set_getD0 (by omega), if_neg hmi]
    have hseti : (L.setIfInBounds i true).getD i false = true := by rw [set_getD0 (by omega), if_pos rfl]
    have hc2 : (List.range ops.size).countP (fun m => !(L.setIfInBounds i true).getD m false) ≤ fuel := by
      have := countP_upd (p := fun m => !(L.setIfInBounds i true).getD m false) (q := fun m => !L.getD m false) ops.size hin (by rw [hseti]; rfl) (by rw [hLi']; rfl) (fun m hmi => by rw [hset m hmi])
      omega
    have hdst : dstOf ops i = o.dst := by simp [dstOf, ho]
    have ha2 : TmOk ops (A 0) val (fun j => (L.setIfInBounds i true).getD j false) (a.put (dstOf ops i) (val i)) := ha.put0 hs.dsts hin hseti hset
    rw [hdst] at ha2
    have hcong : ∀ w, stepV P E ops i a w = stepV P E ops i (A i) w := fun w => by
      have hA := hw.tm hs i (Nat.le_of_lt hin)
      refine stepV_congr (by rw [ha.size, hA.size]) (fun t ht => getD_of (ha.agree0 hA fun m hmn hmd => ?_)) w
      have h := ahead_reach (hs.reads m i t hmn hin hmd ht)
      rw [reach_ready hd hi h]
      simp [hs.lt h]
    have hagr : Agr H { H with heap := g } := hm.low
    have hgn : (W ops.size).heap.size ≤ g.size := by have := hm.size; omega
    have hkn : ∀ j, j < ops.size → grew W j = true → (W j).heap.size < (W ops.size).heap.size := fun j hj hg => hw.grew_lt hj (Nat.le_refl _) hg
    have hHk : ∀ j, j ≤ ops.size → H.heap.size ≤ (W j).heap.size := fun j hj => by have := hw.mono (i := 0) j (Nat.zero_le _) hj; rw [hw.w0] at this; exact this
    unfold wpOpIn
    rw [ho]
    simp only
    rcases hw.alt i hin with ⟨hWi, hsv⟩ | ⟨x, mk, hmk, hlx, hWi, hval, hsv⟩
    · -- no row
      have hst1 := hsv _ hagr
      rw [← hcong] at hst1
      have hng : grew W i = false := by simp [grew, hWi]
      have hm2 : ∀ ι1 : Emb, (∀ b, b < g.size → ι1 b = ι b) → Mid ops H W (fun j => (L.setIfInBounds i true).getD j false) g ι1 := fun ι1 hnews => by
        have hne : ∀ j, grew W j = true → j ≠ i := fun j hg e => by subst e; rw [hng] at hg; cases hg
        refine ⟨?_, hm.low, fun j hj hg => ?_, hm.hi, fun j hj hg hl => ?_⟩
        · rw [hm.size]
          congr 1
          refine countP_congr' fun j _ => ?_
          cases hg : grew W j with
          | false => rfl
          | true => rw [hset j (hne j hg)]
        · show _ = if (L.setIfInBounds i true).getD j false = true then _ else _
          rw [hset j (hne j hg)]; exact hm.mid j hj hg
        · have hl : (L.setIfInBounds i true).getD j false = false := hl
          rw [hset j (hne j hg)] at hl
          rw [hnews _ (by have := hkn j hj hg; omega)]
          exact hm.res j hj hg hl
      unfold stepV at hst1
      rw [ho] at hst1
      simp only at hst1
      rw [← yielded_rel har.tmps]
      by_cases hwt : Region.wanted o (yielded ops a.tmps) = true
      · rw [if_pos hwt] at hst1 ⊢
        have hop : opD P E o a { H with heap := g } = some (a.put o.dst (val i), { H with heap := g }) := by rw [opD_eq, hst1]; rfl
        refine opD_sound hP hE hop hst.rel har fun ι1 a1' w1 hs1 ha1 => ?_
        exact ih _ ι1 w1 a1' _ g hsz2 hd2 hc2 ha2 (hm2 ι1 hs1.news) (hst.trans hs1) ha1 hQ
      · rw [if_neg hwt] at hst1 ⊢
        simp only [Option.some.injEq, Prod.mk.injEq, and_true] at hst1
        refine ⟨fun f _ => Fen_fn _ f, ?_⟩
        rw [← hst1] at ha2
        exact ih _ ι w _ _ g hsz2 hd2 hc2 ha2 (hm2 ι fun _ _ => rfl) hst (har.put _ .undef) hQ
    · -- one row
      have hst1 := hsv _ hagr
      rw [← hcong] at hst1
      have hz1 : (W (i + 1)).heap.size = (W i).heap.size + 1 := by rw [hWi]; simp [pushObj]
      have hgi : grew W i = true := by simp [grew, hz1]
      unfold stepV at hst1
      rw [ho] at hst1
      simp only at hst1
      rw [← yielded_rel har.tmps]
      by_cases hwt : Region.wanted o (yielded ops a.tmps) = true
      · rw [if_pos hwt] at hst1 ⊢
        have hop : opD P E o a { H with heap := g } = some (a.put o.dst (mk g.size), { H with heap := g.push x }) := by rw [opD_eq, hst1]; rfl
        refine opD_sound hP hE hop hst.rel har fun ι1 a1' w1 hs1 ha1 => ?_
        have hst2 := hst.trans hs1
        obtain ⟨r, _, hr, _, _⟩ := hst2.rel.obj g.size x (by show (g.push x)[g.size]? = _; simp) hlx
        have hk := hkn i hin hgi
        have hnone : ι1 (W i).heap.size = none := by
          have := hs1.news (W i).heap.size (by show _ < g.size; omega)
          rw [this]
          exact hm.res i hin hgi hLi'
        have hst3 := hst2.rename (by omega) (hHk i (Nat.le_of_lt hin)) hnone hr
        have hle : ι1.le (ι1.put (W i).heap.size r) := Emb.le_put hnone
        have ha3 := ha1.swap hmk hle (k := (W i).heap.size) ((Emb.put_same _ _ _).trans hr.symm)
        rw [← hval] at ha3
        have hrow : (W ops.size).heap[(W i).heap.size]? = some x := by
          refine hw.keep (i := i + 1) ops.size (by omega) (Nat.le_refl _) _ _ ?_
          rw [hWi]
          show ((W i).heap.push x)[(W i).heap.size]? = _
          simp
        refine ih _ _ w1 a1' _ _ hsz2 hd2 hc2 ha2 ⟨?_, fun b hb => ?_, fun j hj hg => ?_, fun b hb1 hb2 => ?_, fun j hj hg hl => ?_⟩ hst3 ha3 hQ
        · rw [Array.size_push, Array.size_setIfInBounds, hm.size]
          have := countP_upd (p := fun j => grew W j && L.getD j false) (q := fun j => grew W j && (L.setIfInBounds i true).getD j false) ops.size hin (by simp only [hLi', Bool.and_false]) (by simp only [hgi, hseti, Bool.and_self]) (fun m hmi => by simp only [hset m hmi])
          rw [this]
          omega
        · have := hHk i (Nat.le_of_lt hin)
          have := hHk ops.size (Nat.le_refl _)
          rw [get_ren (by omega), if_neg (by omega), if_neg (by omega)]
          exact hm.low b hb
        · rw [get_ren (by omega)]
          by_cases hji : j = i
          · subst hji
            rw [if_pos rfl, hseti, if_pos rfl, hrow]
          · have hne : (W j).heap.size ≠ (W i).heap.size := fun e => hji (hw.inj hj hin hg hgi e)
            have := hkn j hj hg
            rw [if_neg hne, if_neg (by omega)]
            show _ = if (L.setIfInBounds i true).getD j false = true then _ else _
            rw [hset j hji]
            exact hm.mid j hj hg
        · rw [Array.size_push, Array.size_setIfInBounds] at hb2
          rw [get_ren (by omega), if_neg (by omega)]
          by_cases hbg : b = g.size
          · rw [if_pos hbg]
          · rw [if_neg hbg]
            exact hm.hi b hb1 (by omega)
        · have hl : (L.setIfInBounds i true).getD j false = false := hl
          have hji : j ≠ i := fun e => by subst e; rw [hseti] at hl; cases hl
          rw [hset j hji] at hl
          have hne : (W j).heap.size ≠ (W i).heap.size := fun e => hji (hw.inj hj hin hg hgi e)
          show (ι1.put (W i).heap.size r) (W j).heap.size = none
          simp only [Emb.put]
          rw [if_neg hne, hs1.news _ (by have := hkn j hj hg; show _ < g.size; omega)]
          exact hm.res j hj hg hl
      · rw [if_neg hwt] at hst1
        simp only [Option.some.injEq, Prod.mk.injEq] at hst1
        have := congrArg (fun w : World => w.heap.size) hst1.2
        simp [pushObj] at this
theorem dead_start {ι0 : Emb} {H w0 : World} : ∀ (d : Nat) (g : Array Obj), Step P ι0 H w0 ι0 { H with heap := g } w0 → ∃ g', Step P ι0 H w0 ι0 { H with heap := g' } w0 ∧ g'.size = g.size + d ∧ (∀ b, b < g.size → g'[b]? = g[b]?) ∧ ∀ b, g.size ≤ b → b < g'.size → g'[b]? = some deadObj
  | 0, g, h => ⟨g, h, rfl, fun _ _ => rfl, fun b h1 h2 => by omega⟩
  | d + 1, g, h => by
    obtain ⟨g', h1, h2, h3, h4⟩ := dead_start d (g.push deadObj) h.dead
    rw [Array.size_push] at h2 h3 h4
    refine ⟨g', h1, by omega, fun b hb => ?_, fun b hb1 hb2 => ?_⟩
    · rw [h3 b (by omega), Array.getElem?_push, if_neg (by omega)]
    · by_cases e : b = g.size
      · rw [h3 b (by omega), Array.getElem?_push, if_pos e]
      · exact h4 b (by omega) hb2
theorem newD_ok (hP : Good P) : DrawOk P newD := by
  intro E hE ops a H a1 H1 h t ι w a' ro' n Q hrel har hQ
  simp only [Region.schedule, hP.mixed, Bool.true_or, if_true]
  unfold newD at h
  split at h
  case isFalse => cases h
  rename_i hst
  have hs := stat0_of hst
  split at h
  case h_2 => cases h
  rename_i tr htr
  split at h
  case h_2 => cases h
  rename_i a2 H2 hlast
  split at h
  case isFalse => cases h
  rename_i hok
  simp only [Option.some.injEq, Prod.mk.injEq] at h
  obtain ⟨rfl, rfl⟩ := h
  obtain ⟨h0, hk⟩ := traceD_spec _ _ _ _ htr
  let A : Nat → Act := fun i => (tr[i]?.getD (a, H)).1
  let W : Nat → World := fun i => (tr[i]?.getD (a, H)).2
  have hAW : ∀ i, i < ops.size → stepD P E ops i (A i) (W i) = some (A (i + 1), W (i + 1)) := by
    intro i hi
    obtain ⟨x, y, hx, hy, hxy⟩ := hk i i (by simp [hi])
    simp only [A, W, hx, hy, Option.getD_some]
    exact hxy
  have hval : ∀ i, ∃ v, i < ops.size → stepV P E ops i (A i) (W i) = some (v, W (i + 1)) ∧ A (i + 1) = (A i).put (dstOf ops i) v := by
    intro i
    by_cases hi : i < ops.size
    · have := hAW i hi
      rw [stepD_eq, Option.map_eq_some_iff] at this
      obtain ⟨⟨v, H2⟩, h1, h2⟩ := this
      simp only [Prod.mk.injEq] at h2
      exact ⟨v, fun _ => ⟨by rw [h1, h2.2], h2.1.symm⟩⟩
    · exact ⟨undef, fun h => absurd h hi⟩
  let val : Nat → Value := fun i => Classical.choose (hval i)
  have hv : ∀ i, i < ops.size → stepV P E ops i (A i) (W i) = some (val i, W (i + 1)) ∧ A (i + 1) = (A i).put (dstOf ops i) (val i) := fun i => Classical.choose_spec (hval i)
  have hA0 : A 0 = a := by simp only [A, h0, Option.getD_some]
  have hW0 : W 0 = H := by simp only [W, h0, Option.getD_some]
  have hAn : A ops.size = a2 := by simp only [A, hlast, Option.getD_some]
  have hWn : W ops.size = H2 := by simp only [W, hlast, Option.getD_some]
  -- the temporaries
  have htm : ∀ i, i ≤ ops.size → TmOk ops (A 0) val (fun j => decide (j < i)) (A i) := by
    intro i
    induction i with
    | zero => intro _; exact ⟨rfl, rfl, fun t j _ _ h => by simp at h, fun t _ _ => rfl⟩
    | succ i ih =>
      intro hi
      rw [(hv i (by omega)).2]
      exact (ih (by omega)).put0 hs.dsts (by omega) (by simp) fun j hj => by
        simp only [decide_eq_decide]; omega
  have hsame : ∀ i, i < ops.size → ∀ t ∈ looks ops i, (A ops.size).tmps.getD t undef = (A i).tmps.getD t undef := fun i hi t ht =>
    getD_of ((htm ops.size (Nat.le_refl _)).agree0 (htm i (Nat.le_of_lt hi)) fun m hm hmd => by
      have := hs.lt (ahead_reach (hs.reads m i t hm hi hmd ht))
      simp [hm, this])
  -- each operation
  have halt : ∀ i, i < ops.size → Agr H (W i) → (W (i + 1) = W i ∧ ∀ w, Agr H w → stepV P E ops i (A i) w = some (val i, w)) ∨
      ∃ x mk, IsRef mk ∧ live x = true ∧ W (i + 1) = pushObj (W i) x ∧ val i = mk (W i).heap.size ∧ ∀ w, Agr H w → stepV P E ops i (A i) w = some (mk w.heap.size, pushObj w x) := by
    intro i hi hag
    have hst1 := (hv i hi).1
    obtain ⟨o, ho⟩ : ∃ o, ops[i]? = some o := ⟨_, Array.getElem?_eq_getElem hi⟩
    unfold newChk at hok
    have hok1 := List.all_eq_true.1 hok i (List.mem_range.2 hi)
    rw [ho] at hok1
    simp only [Bool.or_eq_true, Bool.not_eq_true'] at hok1
    have hszt : (A ops.size).tmps.size = (A i).tmps.size := by rw [(htm ops.size (Nat.le_refl _)).size, (htm i (Nat.le_of_lt hi)).size]
    rw [← hAn, looks_wanted ho hszt (hsame i hi), newOk_congr (looks_eval ho (hsame i hi))] at hok1
    unfold stepV at hst1 ⊢
    rw [ho] at hst1 ⊢
    simp only at hst1 ⊢
    by_cases hwt : Region.wanted o (yielded ops (A i).tmps) = true
    · rw [if_pos hwt] at hst1
      rcases hok1 with hok1 | hok1
      · rw [hwt] at hok1; cases hok1
      have hfr := newOk_fr hok1
      unfold opV at hst1
      cases hsm : semD P o (A i) (W i) with
      | none => rw [hsm] at hst1; cases hst1
      | some p =>
        obtain ⟨nx, H3⟩ := p
        obtain ⟨v, rfl, hcase⟩ := hfr (W i) nx H3 hag hsm
        rw [hsm] at hst1
        simp only [Option.some.injEq, Prod.mk.injEq] at hst1
        obtain ⟨e1, e2⟩ := hst1
        rcases hcase with ⟨f1, f2⟩ | ⟨x, mk, f1, f2, f3, f4, f5⟩
        · left
          refine ⟨e2 ▸ f1, fun w hw => ?_⟩
          rw [if_pos hwt]
          unfold opV
          rw [f2 w hw, e1]
        · right
          refine ⟨x, mk, f1, f2, e2 ▸ f3, e1 ▸ f4, fun w hw => ?_⟩
          rw [if_pos hwt]
          unfold opV
          rw [f5 w hw]
    · rw [if_neg hwt] at hst1
      simp only [Option.some.injEq, Prod.mk.injEq] at hst1
      left
      refine ⟨hst1.2.symm, fun w _ => ?_⟩
      rw [if_neg hwt, hst1.1]
  have hag : ∀ i, i ≤ ops.size → Agr H (W i) := by
    intro i
    induction i with
    | zero => intro _ b _; rw [hW0]
    | succ i ih =>
      intro hi b hb
      rcases halt i (by omega) (ih (by omega)) with ⟨e, _⟩ | ⟨x, mk, _, _, e, _⟩
      · rw [e]; exact ih (by omega) b hb
      · rw [e]
        have h1 := ih (by omega) b hb
        show ((W i).heap.push x)[b]? = _
        have hlt : b < (W i).heap.size := by
          rw [Array.getElem?_eq_getElem hb] at h1
          exact (Array.getElem?_eq_some_iff.1 h1).1
        rw [Array.getElem?_push, if_neg (by omega)]; exact h1
  have hwalk : NWalk P E ops H A W val := ⟨fun i hi => (hv i hi).2, hW0, fun i hi => halt i hi (hag i (Nat.le_of_lt hi))⟩
  have hrep : ∀ m, (Array.replicate ops.size false).getD m false = false := fun m => by
    rw [Array.getD_eq_getD_getElem?, Array.getElem?_replicate]; split <;> rfl
  obtain ⟨g, g1, g2, g3, g4⟩ := dead_start (P := P) (ι0 := ι) (H := H) (w0 := w) ((W ops.size).heap.size - H.heap.size) H.heap (.refl hrel)
  have hHn : H.heap.size ≤ (W ops.size).heap.size := by have := hwalk.mono (i := 0) ops.size (Nat.zero_le _) (Nat.le_refl _); rw [hW0] at this; exact this
  refine wpAnyIn_sound ops.size t _ _ _ (new_any hP hE hs hwalk ops.size _ ι w a' (A 0) g (by simp) (fun j o e _ hj _ _ => (by rw [hrep] at hj; cases hj)) ?_ ⟨rfl, rfl, fun t j _ _ h => (by rw [hrep] at h; cases h), fun t _ _ => rfl⟩ ⟨?_, fun b hb => g3 b hb, fun j hj hg => ?_, fun b hb1 hb2 => g4 b (by omega) hb2, fun j hj hg _ => ?_⟩ g1 (by rw [hA0]; exact har) ?_)
  · exact Nat.le_trans (List.countP_le_length) (by simp)
  · rw [g2]
    have : (List.range ops.size).countP (fun i => grew W i && (Array.replicate ops.size false).getD i false) = 0 := List.countP_eq_zero.2 fun m _ => by rw [hrep]; simp
    rw [this]; omega
  · have h1 := hwalk.grew_lt hj (Nat.le_refl _) hg
    have h2 := hwalk.mono (i := 0) j (Nat.zero_le _) (Nat.le_of_lt hj)
    rw [hW0] at h2
    rw [hrep, if_neg (by simp)]
    exact g4 _ h2 (by omega)
  · have h2 := hwalk.mono (i := 0) j (Nat.zero_le _) (Nat.le_of_lt hj)
    rw [hW0] at h2
    cases hl : ι (W j).heap.size with
    | none => rfl
    | some r => have := (hrel.dom _ _ hl).1; omega
  · rw [hAn, hWn]; exact hQ
end Go.Proofs.YtmmmdmandocbhaaDoor.Den
end

section
/- The evaluator, whole: regions that draw their order taken in. -/
set_option linter.unusedVariables false
set_option linter.unusedSimpArgs false
namespace Go.Proofs.YtmmmdmandocbhaaDoor.Den
variable {P : Program} {E : Evs} {ops : Array Oper}

theorem all_listed (hs : Stat P ops) {L : Array Bool} (hsz : L.size = ops.size) (h : Region.ready .any ops L = []) : ∀ i, i < ops.size → L.getD i false = true := by
  intro i
  induction i using Nat.strongRecOn with
  | _ i ih =>
    intro hi
    cases hl : L.getD i false with
    | true => rfl
    | false =>
      exfalso
      have : i ∈ Region.ready .any ops L := by
        refine ready_iff.2 ⟨hi, ?_, ops[i], Array.getElem?_eq_getElem hi, fun e he hb => ?_⟩
        · simp only [Array.getD, hsz, hi, dite_true] at hl ⊢; exact hl
        · have hlt := hs.edge i _ e (Array.getElem?_eq_getElem hi) he hb
          exact ih e.on hlt (by omega)
      rw [h] at this
      cases this

theorem TmOk.eq {a0 a b : Act} {val : Nat → Value} {L M : Nat → Bool} (hs : Stat P ops) (ha : TmOk ops a0 val L a) (hb : TmOk ops a0 val M b) (h : ∀ j, j < ops.size → L j = M j) : a = b := by
  have ht : a.tmps = b.tmps := Array.ext_getElem? fun t => ha.agree hs hb fun j hj _ => h j hj
  have hd : a.defers = b.defers := ha.defers.trans hb.defers.symm
  cases a; cases b
  simp only at ht hd
  rw [ht, hd]

/-! ### a cell that is made ahead of its place in the text -/
theorem Rel.adopt {ι : Emb} {H w : World} (h : Rel P ι H w) {o o' : Obj} {r : Loc} (hl : live o = true) (hb : w.heap[r.b]? = some o') (hno : ∀ (i : Nat) (x : Obj) (s : Loc), H.heap[i]? = some x → live x = true → ι i = some s → s.b ≠ r.b) (hp : ι.fz r.b = none)
    (ho : ORel P (ι.put H.heap.size r) r o o') : Rel P (ι.put H.heap.size r) { H with heap := H.heap.push o } w := by
  have hf := h.fresh
  have hle := Emb.le_put (r := r) hf
  refine ⟨fun b zs hz => ?_, fun j x hx hlx => ?_, fun j k o1 o2 r1 r2 h1 l1 h2 l2 e1 e2 hbb hg1 => ?_, fun j rj hj => ?_, fun j x hx => ?_, fun s zs g h1 h2 => hle.fz _ _ (h.tab s zs g h1 h2)⟩
  · obtain ⟨⟨e1, f1, h1⟩, h2⟩ := h.fz b zs hz
    refine ⟨⟨e1, f1, h1⟩, fun j x rj hx hl hg hrj => ?_⟩
    simp only [Array.getElem?_push] at hx
    simp only [Emb.put] at hrj
    by_cases hj : j = H.heap.size
    · rw [if_pos hj] at hrj
      injection hrj with hrj; subst hrj
      intro e
      have hz' : ι.fz b = some zs := hz
      rw [← e, hp] at hz'; cases hz'
    · rw [if_neg hj] at hx hrj
      exact h2 j x rj hx hl hg hrj
  · simp only [Array.getElem?_push] at hx
    by_cases hj : j = H.heap.size
    · subst hj
      rw [if_pos rfl] at hx
      injection hx with hx; subst hx
      exact ⟨r, o', Emb.put_same _ _ _, hb, ho⟩
    · rw [if_neg hj] at hx
      obtain ⟨rj, oj, hrj, hwj, hoj⟩ := h.obj j x hx hlx
      exact ⟨rj, oj, hle _ _ hrj, hwj, hoj.mono hle⟩
  · simp only [Array.getElem?_push] at h1 h2
    simp only [Emb.put] at e1 e2
    by_cases hj : j = H.heap.size <;> by_cases hk : k = H.heap.size
    · exact hj.trans hk.symm
    · rw [if_pos hj] at e1; rw [if_neg hk] at e2 h2
      injection e1 with e1; subst e1
      exact absurd hbb.symm (hno k _ _ h2 l2 e2)
    · rw [if_neg hj] at e1 h1; rw [if_pos hk] at e2
      injection e2 with e2; subst e2
      exact absurd hbb (hno j _ _ h1 l1 e1)
    · rw [if_neg hj] at e1 h1; rw [if_neg hk] at e2 h2
      exact h.inj j k _ _ _ _ h1 l1 h2 l2 e1 e2 hbb hg1
  · simp only [Emb.put] at hj
    split at hj
    · rename_i e; subst e
      injection hj with hj; subst hj
      exact ⟨by simp, (Array.getElem?_eq_some_iff.1 hb).1⟩
    · have := h.dom j rj hj
      simp only [Array.size_push]; omega
  · simp only [Array.getElem?_push] at hx
    by_cases hj : j = H.heap.size
    · rw [if_pos hj] at hx
      injection hx with hx; subst hx; exact .inl hl
    · rw [if_neg hj] at hx; exact h.only j x hx
theorem Step.adopt {ι ι1 : Emb} {H w H1 w1 : World} (h : Step P ι H w ι1 H1 w1) {o o' : Obj} {r : Loc} (hl : live o = true) (hb : w1.heap[r.b]? = some o') (hnew : w.heap.size ≤ r.b) (hno : ∀ (i : Nat) (x : Obj) (s : Loc), H1.heap[i]? = some x → live x = true → ι1 i = some s → s.b ≠ r.b) (hp : ι1.fz r.b = none)
    (ho : ORel P (ι1.put H1.heap.size r) r o o') : Step P ι H w (ι1.put H1.heap.size r) { H1 with heap := H1.heap.push o } w1 := by
  have hle := Emb.le_put (r := r) h.rel.fresh
  refine ⟨Emb.le_trans h.le hle, h.rel.adopt hl hb hno hp ho, h.size, h.os, h.tape, h.output, h.keep, fun i x s hi hg hs => ?_, h.pins, fun i x s hi hlx hs => ?_, Nat.le_trans h.grow (by simp), fun i hi => by have := h.news i hi; have := h.grow; simp only [Emb.put]; rw [if_neg (by omega)]; assumption⟩
  · obtain ⟨h1, h2⟩ := h.pin i x s hi hg hs
    have := (Array.getElem?_eq_some_iff.1 h1).1
    exact ⟨by rw [Array.getElem?_push, if_neg (by omega)]; exact h1, h2⟩
  · simp only [Array.getElem?_push] at hi
    simp only [Emb.put] at hs
    by_cases hj : i = H1.heap.size
    · rw [if_pos hj] at hs
      injection hs with hs; subst hs
      exact .inl hnew
    · rw [if_neg hj] at hi hs
      exact h.own i x s hi hlx hs
/-- A block of the machine that no logical object knows. -/
structure Spare (ι : Emb) (H w : World) (B : Nat) (cs : Array Value) (e : TypeId) : Prop where
  row : w.heap[B]? = some (.cells cs e (0, 0))
  free : ∀ (i : Nat) (x : Obj) (s : Loc), H.heap[i]? = some x → live x = true → ι i = some s → s.b ≠ B
  pin : ι.fz B = none
theorem Spare.step {ι ι1 : Emb} {H w H1 w1 : World} {B : Nat} {cs : Array Value} {e : TypeId} (h : Spare ι H w B cs e) (hs : Step P ι H w ι1 H1 w1) : Spare ι1 H1 w1 B cs e := by
  have hlt := (Array.getElem?_eq_some_iff.1 h.row).1
  refine ⟨?_, fun i x s hi hl hi2 e2 => ?_, ?_⟩
  · rw [hs.keep B hlt fun i x s hi hl h2 => h.free i x s hi hl h2]; exact h.row
  · rcases hs.own i x s hi hl hi2 with h3 | ⟨j, oj, rj, hj, hlj, hrj, hbj⟩
    · omega
    · exact h.free j oj rj hj hlj hrj (hbj.trans e2)
  · cases hp : ι1.fz B with
    | none => rfl
    | some zs =>
      rcases hs.pins B zs hp with h3 | h3
      · rw [h.pin] at h3; cases h3
      · omega
/-- One more block of the machine, of which no logical object knows. -/
theorem Rel.spare {ι : Emb} {H w : World} (h : Rel P ι H w) (cs : Array Value) (e : TypeId) : Step P ι H w ι H { w with heap := w.heap.push (.cells cs e (0, 0)) } ∧ Spare ι H { w with heap := w.heap.push (.cells cs e (0, 0)) } w.heap.size cs e := by
  have hold : ∀ (b : Nat) (x : Obj), w.heap[b]? = some x → (w.heap.push (.cells cs e (0, 0)))[b]? = some x := fun b x hb => by
    have := (Array.getElem?_eq_some_iff.1 hb).1
    rw [Array.getElem?_push, if_neg (by omega)]; exact hb
  refine ⟨⟨Emb.le_refl _, ⟨fun b zs hz => ?_, fun j x hx hlx => ?_, h.inj, fun i r hi => ?_, h.only, h.tab⟩, by simp, rfl, rfl, rfl, fun b hb _ => ?_, fun i x r hi hg hr => ⟨hi, ?_⟩, fun _ _ h => .inl h, fun i x r hi hl hr => .inr ⟨i, x, r, hi, hl, hr, rfl⟩, Nat.le_refl _, fun _ _ => rfl⟩, ⟨by simp, fun i x s hi hl hs e => ?_, ?_⟩⟩
  · obtain ⟨⟨e1, f1, h1⟩, h2⟩ := h.fz b zs hz
    exact ⟨⟨e1, f1, hold _ _ h1⟩, h2⟩
  · obtain ⟨r, o', h1, h2, h3⟩ := h.obj j x hx hlx
    exact ⟨r, o', h1, hold _ _ h2, h3⟩
  · have := h.dom i r hi
    simp only [Array.size_push]; omega
  · simp only [Array.getElem?_push]; rw [if_neg (by omega)]
  · have := (h.dom i r hr).2
    simp only [Array.getElem?_push]; rw [if_neg (by omega)]
  · have := (h.dom i s hs).2
    omega
  · cases hp : ι.fz w.heap.size with
    | none => rfl
    | some zs =>
      obtain ⟨⟨e1, f1, h1⟩, _⟩ := h.fz _ _ hp
      have := (Array.getElem?_eq_some_iff.1 h1).1
      omega

theorem put_comm {a : Act} {i j : Option Tmp} {u v : Value} (h : ∀ t, i = some t → j ≠ some t) : (a.put i u).put j v = (a.put j v).put i u := by
  cases i with
  | none => rfl
  | some t => cases j with
    | none => rfl
    | some s =>
      have : t ≠ s := fun e => h t rfl (by rw [e])
      simp only [Act.put]
      rw [Array.setIfInBounds_comm _ _ this]
/-- As opD_sound, where one temporary that is not looked at holds what it may. -/
theorem opD_soundX (hP : Good P) {E : Evs} (hE : Snd P E) {o : Oper} {a a1 : Act} {H H1 : World} (h : opD P E o a H = some (a1, H1)) {ι : Emb} {w : World} {b' : Act} {ro' : Option Nat} {n : Nat} {next : Act → World → Prop} {Q : Exit → Act → World → Prop} {df : Option Tmp} {u : Value}
    (hrel : Rel P ι H w) (ha : ActRel ι a b') (hlook : ∀ x ∈ o.op.operands, (b'.put df u).eval x = b'.eval x) (hdst : ∀ t, df = some t → o.dst ≠ some t) (hn : ∀ ι1 b1' w1, Step P ι H w ι1 H1 w1 → ActRel ι1 a1 b1' → next (b1'.put df u) w1) : o.wpIn (Fen ro') n P (b'.put df u) w next Q := by
  refine ⟨fun f _ => Fen_fn _ f, ?_⟩
  unfold opD at h
  cases hs : semD P o a H with
  | none => rw [hs] at h; cases h
  | some p =>
    obtain ⟨nx, H2⟩ := p
    rw [hs] at h
    have hsel : ∀ cs b, o.op ≠ .select cs b := by
      intro cs b e
      unfold semD at hs
      split at hs
      · cases hs
      rw [e] at hs
      simp [pureD, okOp] at hs
    obtain ⟨⟨ι1, x', w1, hrun, hst, hnx⟩, hd⟩ := semD_sound hP hrel ha hs
    rw [Oper.semAt_eq _ _ _ hd, execOp_congr o hsel hlook, hrun]
    cases hnx with
    | value v v' hv =>
      cases h
      show next ((b'.put df u).put o.dst v') w1
      rw [put_comm hdst]
      exact hn ι1 _ _ hst ((ha.mono hst.le).put _ hv)
    | skip =>
      cases h
      show next ((b'.put df u).put o.dst undef) w1
      rw [put_comm hdst]
      exact hn ι1 _ _ hst ((ha.mono hst.le).put _ .undef)
    | enter f args args' hargs =>
      simp only [Option.map_eq_some_iff] at h
      obtain ⟨⟨v, H3⟩, h, e⟩ := h
      cases e
      rw [Oper.uponIn_enter]
      refine ⟨Fen_depth _ _, hE.fn _ _ _ _ _ h ι1 w1 args' ro' _ _ hst.rel hargs fun ι2 v' w2 hs2 hv => ?_⟩
      show next ((b'.put df u).put o.dst v') w2
      rw [put_comm hdst]
      exact hn ι2 _ _ (hst.trans hs2) ((ha.mono (Emb.le_trans hst.le hs2.le)).put _ hv)
    | round l r f f' tmps tmps' as b hl ht =>
      simp only [Option.map_eq_some_iff] at h
      obtain ⟨⟨v, H3⟩, h, e⟩ := h
      cases e
      rw [Oper.uponIn_round]
      refine ⟨Fen_depth _ _, hE.round _ _ _ _ _ _ _ h ι1 w1 r f' tmps' ro' _ _ hst.rel hl ht fun ι2 v' w2 hs2 hv => ?_⟩
      show next ((b'.put df u).put o.dst v') w2
      rw [put_comm hdst]
      exact hn ι2 _ _ (hst.trans hs2) ((ha.mono (Emb.le_trans hst.le hs2.le)).put _ hv)
/-- What waits for the late one waits for all that stand ahead of it. -/
theorem Stat.waits (hs : Stat P ops) {L : Array Bool} (hd : Down ops L) {i j : Nat} (h : Reach ops i j) (hi : i = lateOf P ops) (hj : L.getD j false = true) : ∀ m, m < lateOf P ops → mover P ops m = true → L.getD m false = true := by
  induction h with
  | one j o e ho he hb hie =>
    intro m hm hmv
    exact hd.reach (ahead_reach (hs.wait j o e ho he hb (hie.trans hi) m hm hmv)) hj
  | more j o e ho he hb h ih => exact ih (hd j o e ho hj he hb)
theorem Stat.waits_ready (hs : Stat P ops) {L : Array Bool} (hd : Down ops L) {i j : Nat} (h : Reach ops i j) (hi : i = lateOf P ops) (hj : j ∈ Region.ready .any ops L) : ∀ m, m < lateOf P ops → mover P ops m = true → L.getD m false = true := by
  obtain ⟨_, _, o, ho, hall⟩ := ready_iff.1 hj
  cases h with
  | one _ o' e ho' he hb hie =>
    rw [ho] at ho'; injection ho' with ho'; subst ho'
    intro m hm hmv
    have := ahead_reach (hs.wait j o e ho he hb (hie.trans hi) m hm hmv)
    exact reach_ready hd hj this
  | more _ o' e ho' he hb h =>
    rw [ho] at ho'; injection ho' with ho'; subst ho'
    exact hs.waits hd h hi (hall e he hb)
theorem run_alloc {o : Oper} {e : TypeId} {inf : TypeInfo} {z : Value} (ho : o.op = .alloc e) (hi : P.info? e = some inf) (hz : inf.zero = some z) (ρ : Operand → Value) (w : World) :
    (execOp ρ o).run P w = .ok (.value (.pointer (some ⟨w.heap.size, 0, none⟩))) { w with heap := w.heap.push (.cells z.cells e (0, 0)) } := by
  have h : (Instr.alloc e true (.tuple #[])).run P w = .ok (.pointer (some ⟨w.heap.size, 0, none⟩)) { w with heap := w.heap.push (.cells z.cells e (0, 0)) } := by
    simp only [Instr.alloc, Sem.run_bind, run_zeroValue' hi hz, Result.andThen_ok, Go.newVar, Go.newRow, run_newObj, Sem.run_pure]
  simp only [execOp, ho, Sem.run_bind, h, Result.andThen_ok, Sem.run_pure]
theorem late_facts (hs : Stat P ops) {A : Nat → Act} {W : Nat → World} {val : Nat → Value} (hw : Walk P E ops A W val) (hF : lateOf P ops < ops.size) : ∃ o df e inf z, ops[lateOf P ops]? = some o ∧ o.op = .alloc e ∧ o.dst = some df ∧ o.guard = none ∧ P.info? e = some inf ∧ inf.zero = some z ∧
    val (lateOf P ops) = .pointer (some ⟨(W (lateOf P ops)).heap.size, 0, none⟩) ∧ W (lateOf P ops + 1) = { W (lateOf P ops) with heap := (W (lateOf P ops)).heap.push (.cells z.cells e (0, 0)) } := by
  have hl := hs.late hF
  have hst := hw.step _ hF
  generalize lateOf P ops = F at *
  unfold isAlloc at hl
  unfold stepV at hst
  cases ho : ops[F]? with
  | none => rw [ho] at hl; cases hl
  | some o =>
    rw [ho] at hl hst
    simp only [Bool.and_eq_true, Option.isNone_iff_eq_none, Option.isSome_iff_exists] at hl hst
    obtain ⟨⟨⟨df, hdf⟩, hg⟩, hop⟩ := hl
    cases hopc : o.op with
    | alloc e =>
      have hwt : Region.wanted o (yielded ops (A F).tmps) = true := by unfold Region.wanted; rw [hg]
      rw [if_pos hwt] at hst
      unfold opV semD at hst
      rw [hopc] at hst
      simp only [Op.operands, pureD, okOp, if_true] at hst
      have hrun : okRun ((execOp (A F).eval o).run P (W F)) = some (.value (val F), W (F + 1)) := by
        cases hr : okRun ((execOp (A F).eval o).run P (W F)) with
        | none => rw [hr] at hst; simp at hst
        | some p =>
          obtain ⟨nx, H1⟩ := p
          have he : (execOp (A F).eval o).run P (W F) = .ok nx H1 := okRun_some hr
          simp only [execOp, hopc, Sem.run_bind] at he
          cases hal : (Instr.alloc e true (.tuple #[])).run P (W F) with
          | halt x y => rw [hal] at he; cases he
          | ok x y =>
            rw [hal] at he
            simp only [Result.andThen_ok, Sem.run_pure, Result.ok.injEq] at he
            obtain ⟨rfl, rfl⟩ := he
            rw [hr] at hst
            simp at hst
            rw [hst.1, hst.2]
      cases hi : P.info? e with
      | none =>
        have he := okRun_some hrun
        simp only [execOp, hopc, Sem.run_bind, Instr.alloc, Go.zeroValue, Go.typeInfo, run_program, Result.andThen_ok, hi] at he
        cases he
      | some inf =>
        cases hz : inf.zero with
        | none =>
          have he := okRun_some hrun
          simp only [execOp, hopc, Sem.run_bind, Instr.alloc, Go.zeroValue, Go.typeInfo, run_program, Result.andThen_ok, hi, Sem.run_pure, hz] at he
          cases he
        | some z =>
          have he := okRun_some hrun
          rw [run_alloc hopc hi hz] at he
          simp only [Result.ok.injEq, Next.value.injEq] at he
          exact ⟨o, df, e, inf, z, rfl, hopc, hdf, hg, hi, hz, he.1.symm, he.2.symm⟩
    | _ => rw [hopc] at hop; cases hop

theorem hat_getD {L : Array Bool} {F : Nat} (hF : F < L.size) (m : Nat) : (L.setIfInBounds F false).getD m false = if m = F then false else L.getD m false := by
  rw [Array.getD_eq_getD_getElem?, Array.getElem?_setIfInBounds]
  by_cases h : F = m
  · subst h; rw [if_pos rfl, if_pos hF, if_pos rfl]; rfl
  · rw [if_neg h, if_neg (fun e => h e.symm), Array.getD_eq_getD_getElem?]
theorem set_getD {L : Array Bool} {i : Nat} (hi : i < L.size) (m : Nat) : (L.setIfInBounds i true).getD m false = if m = i then true else L.getD m false := by
  rw [Array.getD_eq_getD_getElem?, Array.getElem?_setIfInBounds]
  by_cases h : i = m
  · subst h; rw [if_pos rfl, if_pos hi, if_pos rfl]; rfl
  · rw [if_neg h, if_neg (fun e => h e.symm), Array.getD_eq_getD_getElem?]
theorem TmOk.congr {a0 a : Act} {val : Nat → Value} {L M : Nat → Bool} (h : TmOk ops a0 val L a) (hm : ∀ j, M j = L j) : TmOk ops a0 val M a := by
  have : M = L := funext hm
  rw [this]; exact h
theorem mover_alloc {F : Nat} {o : Oper} {e : TypeId} (ho : ops[F]? = some o) (hop : o.op = .alloc e) : mover P ops F = true := by
  unfold mover
  rw [ho]
  simp [quietOp, hop]

theorem draw_any (hP : Good P) (hE : Snd P E) (hs : Stat P ops) {A : Nat → Act} {W : Nat → World} {val : Nat → Value} (hw : Walk P E ops A W val) {ro' : Option Nat} {n : Nat} {Q : Exit → Act → World → Prop} :
    ∀ (fuel : Nat),
     (∀ (L : Array Bool) (ι : Emb) (w : World) (a' a : Act) (j : Nat), L.size = ops.size → Down ops L → (List.range ops.size).countP (fun m => !L.getD m false) ≤ fuel → TmOk ops (A 0) val (fun j => L.getD j false) a → j ≤ ops.size →
      (j = 0 ∨ mover P ops (j - 1) = true) → movers P ops j = (List.range ops.size).countP (fun m => mover P ops m && L.getD m false) →
      (L.getD (lateOf P ops) false = true → ∀ m, m < lateOf P ops → mover P ops m = true → L.getD m false = true) → Rel P ι (W j) w → ActRel ι a a' → Then P ι (W j) w (A ops.size) (W ops.size) (Q .normal) →
      wpAnyIn (Fen ro') n P .any ops Q fuel L a' w) ∧
     (∀ (L : Array Bool) (ι : Emb) (w : World) (b' a : Act) (j : Nat) (ι0 : Emb) (H0 w0 : World) (B : Nat) (cs : Array Value) (e : TypeId) (df : Tmp), L.size = ops.size → Down ops L → (List.range ops.size).countP (fun m => !L.getD m false) ≤ fuel →
      lateOf P ops < ops.size → L.getD (lateOf P ops) false = true → (∃ m, m < lateOf P ops ∧ mover P ops m = true ∧ L.getD m false = false) →
      TmOk ops (A 0) val (fun j => (L.setIfInBounds (lateOf P ops) false).getD j false) a → j ≤ ops.size →
      (j = 0 ∨ mover P ops (j - 1) = true) → movers P ops j = (List.range ops.size).countP (fun m => mover P ops m && (L.setIfInBounds (lateOf P ops) false).getD m false) →
      ActRel ι a b' → dstOf ops (lateOf P ops) = some df → (∀ ι : Emb, ARel ι cs cs) → val (lateOf P ops) = .pointer (some ⟨(W (lateOf P ops)).heap.size, 0, none⟩) →
      W (lateOf P ops + 1) = { W (lateOf P ops) with heap := (W (lateOf P ops)).heap.push (.cells cs e (0, 0)) } → mover P ops (lateOf P ops) = true →
      Spare ι (W j) w B cs e → Step P ι0 H0 w0 ι (W j) w → w0.heap.size ≤ B → Then P ι0 H0 w0 (A ops.size) (W ops.size) (Q .normal) →
      wpAnyIn (Fen ro') n P .any ops Q fuel L (b'.put (some df) (.pointer (some ⟨B, 0, none⟩))) w) := by
  have fin : ∀ (L : Array Bool) (ι : Emb) (w : World) (a' a : Act) (j : Nat), (∀ i, i < ops.size → L.getD i false = true) → TmOk ops (A 0) val (fun j => L.getD j false) a → j ≤ ops.size →
      movers P ops j = (List.range ops.size).countP (fun m => mover P ops m && L.getD m false) → Rel P ι (W j) w → ActRel ι a a' → Then P ι (W j) w (A ops.size) (W ops.size) (Q .normal) → Q .normal a' w := by
    intro L ι w a' a j hall ha hj hm hrel har hQ
    have hae : a = A ops.size := ha.eq hs (hw.tm hs ops.size (Nat.le_refl _)) fun i hi => by rw [hall i hi]; simp [hi]
    have hW : W ops.size = W j := by
      refine hw.same' hj (Nat.le_refl _) ?_
      rw [hm]
      exact countP_congr' fun m hm' => by rw [hall m (List.mem_range.1 hm'), Bool.and_true]
    subst hae
    refine hQ ι a' w ?_ har
    rw [hW]; exact .refl hrel
  -- what is common to one more operation
  have down : ∀ {L : Array Bool}, L.size = ops.size → Down ops L → ∀ {i : Nat}, i ∈ Region.ready .any ops L → Down ops (L.setIfInBounds i true) := by
    intro L hsz hd i hi p o' e ho' hp he hb
    obtain ⟨hin, _, o, ho, hedge⟩ := ready_iff.1 hi
    rw [set_getD (by omega)] at hp ⊢
    by_cases hei : e.on = i
    · rw [if_pos hei]
    · rw [if_neg hei]
      by_cases hpi : p = i
      · subst hpi
        rw [ho] at ho'; injection ho' with ho'; subst ho'
        exact hedge e he hb
      · rw [if_neg hpi] at hp
        exact hd p o' e ho' hp he hb
  have unl : ∀ {L : Array Bool}, L.size = ops.size → ∀ {i : Nat}, i ∈ Region.ready .any ops L → L.getD i false = false := by
    intro L hsz i hi
    obtain ⟨hin, hli, _⟩ := ready_iff.1 hi
    simp only [Array.getD, hsz, hin, dite_true] at hli ⊢; exact hli
  have less : ∀ {L : Array Bool} {fuel : Nat}, L.size = ops.size → (List.range ops.size).countP (fun m => !L.getD m false) ≤ fuel + 1 → ∀ {i : Nat}, i ∈ Region.ready .any ops L → (List.range ops.size).countP (fun m => !(L.setIfInBounds i true).getD m false) ≤ fuel := by
    intro L fuel hsz hc i hi
    have hin := (ready_iff.1 hi).1
    have := countP_upd (p := fun m => !(L.setIfInBounds i true).getD m false) (q := fun m => !L.getD m false) ops.size hin (by rw [set_getD (by omega), if_pos rfl]; rfl) (by rw [unl hsz hi]; rfl) (fun m hmi => by rw [set_getD (by omega), if_neg hmi])
    omega
  intro fuel
  induction fuel with
  | zero =>
    have hall : ∀ {L : Array Bool}, (List.range ops.size).countP (fun m => !L.getD m false) ≤ 0 → ∀ i, i < ops.size → L.getD i false = true := by
      intro L hc i hi
      have h0 := List.countP_eq_zero.1 (Nat.le_zero.1 hc) i (List.mem_range.2 hi)
      simpa using h0
    refine ⟨?_, ?_⟩
    · intro L ι w a' a j hsz hd hc ha hj hrep hm hlate hrel har hQ
      refine ⟨?_, fin L ι w a' a j (hall hc) ha hj hm hrel har hQ⟩
      apply List.eq_nil_iff_forall_not_mem.2
      intro i hi
      have := hall hc i (ready_iff.1 hi).1
      rw [unl hsz hi] at this; cases this
    · intro L ι w b' a j ι0 H0 w0 B cs e df hsz hd hc hF hLF hex ha hj hrep hm har hdf hcs hval hWF hmF hsp hst hB hQ
      obtain ⟨m, hmF, _, hLm⟩ := hex
      rw [hall hc m (by omega)] at hLm; cases hLm
  | succ fuel ih =>
    refine ⟨?_, ?_⟩
    · intro L ι w a' a j hsz hd hc ha hj hrep hm hlate hrel har hQ
      refine ⟨fun h => fin L ι w a' a j (all_listed hs hsz h) ha hj hm hrel har hQ, fun i hi => ?_⟩
      obtain ⟨hin, hli, o, ho, hedge⟩ := ready_iff.1 hi
      have hLi' := unl hsz hi
      have hd2 := down hsz hd hi
      have hc2 := less hsz hc hi
      have hsz2 : (L.setIfInBounds i true).size = ops.size := by simpa using hsz
      by_cases hearly : i = lateOf P ops ∧ ∃ m, m < lateOf P ops ∧ mover P ops m = true ∧ L.getD m false = false
      · -- the cell is made ahead of its place
        obtain ⟨hiF, m0, hm0, hmv0, hLm0⟩ := hearly
        have hF : lateOf P ops < ops.size := hiF ▸ hin
        obtain ⟨o', df, e, inf, z, ho', hop, hdf, hg, hinf, hz, hval, hWF⟩ := late_facts hs hw hF
        rw [← hiF, ho] at ho'
        injection ho' with ho'; subst ho'
        have hmF : mover P ops (lateOf P ops) = true := mover_alloc (by rw [← hiF]; exact ho) hop
        unfold wpOpIn
        rw [ho]
        simp only
        have hwt : Region.wanted o (yielded ops a'.tmps) = true := by unfold Region.wanted; rw [hg]
        rw [if_pos hwt]
        refine ⟨fun f _ => Fen_fn _ f, ?_⟩
        rw [Oper.semAt_eq _ _ _ (fun c hc => by rw [hop] at hc; cases hc), run_alloc hop hinf hz]
        show wpAnyIn (Fen ro') n P .any ops Q fuel (L.setIfInBounds i true) (a'.put o.dst _) _
        rw [hdf]
        obtain ⟨hsp1, hsp2⟩ := hrel.spare z.cells e
        have hhat : ∀ m, ((L.setIfInBounds i true).setIfInBounds (lateOf P ops) false).getD m false = L.getD m false := by
          intro m
          rw [hat_getD (by omega)]
          by_cases hmF' : m = lateOf P ops
          · rw [if_pos hmF', hmF', ← hiF, hLi']
          · rw [if_neg hmF', set_getD (by omega), if_neg (fun e => hmF' (e.trans hiF))]
        refine ih.2 (L.setIfInBounds i true) ι _ a' a j ι (W j) w w.heap.size z.cells e df hsz2 hd2 hc2 hF ?_ ⟨m0, hm0, hmv0, ?_⟩ (ha.congr hhat) hj hrep ?_ har ?_ ?_ hval hWF hmF hsp2 hsp1 (Nat.le_refl _) hQ
        · rw [set_getD (by omega), if_pos hiF.symm]
        · rw [set_getD (by omega), if_neg (by omega)]; exact hLm0
        · rw [hm]
          exact countP_congr' fun m _ => by rw [hhat m]
        · simp [dstOf, ← hiF, ho, hdf]
        · intro ι'
          exact (hP.zeros e inf z hinf hz ι').cells
      · have hnow : i = lateOf P ops → ∀ m, m < lateOf P ops → mover P ops m = true → L.getD m false = true := by
          intro hiF m hm1 hm2
          cases hl : L.getD m false with
          | true => rfl
          | false => exact absurd ⟨hiF, m, hm1, hm2, hl⟩ hearly
        obtain ⟨j2, hst, hj2, hrep2, hm2⟩ := hw.ready hs hsz hd ha hj hrep hm hi hlate hnow
        have ha2 : TmOk ops (A 0) val (fun j => (L.setIfInBounds i true).getD j false) (a.put (dstOf ops i) (val i)) := ha.put hs hin (by rw [set_getD (by omega), if_pos rfl]) fun m hmi => by rw [set_getD (by omega), if_neg hmi]
        have hlate2 : (L.setIfInBounds i true).getD (lateOf P ops) false = true → ∀ m, m < lateOf P ops → mover P ops m = true → (L.setIfInBounds i true).getD m false = true := by
          intro h m hm1 hm2
          rw [set_getD (by omega)] at h ⊢
          by_cases hmi : m = i
          · rw [if_pos hmi]
          · rw [if_neg hmi]
            by_cases hFi : lateOf P ops = i
            · exact hnow hFi.symm m hm1 hm2
            · rw [if_neg hFi] at h
              exact hlate h m hm1 hm2
        have hdst : dstOf ops i = o.dst := by simp [dstOf, ho]
        rw [hdst] at ha2
        unfold wpOpIn
        rw [ho]
        simp only
        unfold stepV at hst
        rw [ho] at hst
        simp only at hst
        rw [← yielded_rel har.tmps]
        by_cases hwt : Region.wanted o (yielded ops a.tmps) = true
        · rw [if_pos hwt] at hst ⊢
          have hop : opD P E o a (W j) = some (a.put o.dst (val i), W j2) := by rw [opD_eq, hst]; rfl
          refine opD_sound hP hE hop hrel har fun ι1 a1' w1 hs1 ha1 => ?_
          exact ih.1 _ ι1 w1 a1' _ j2 hsz2 hd2 hc2 ha2 hj2 hrep2 hm2 hlate2 hs1.rel ha1 (hQ.step hs1)
        · rw [if_neg hwt] at hst ⊢
          simp only [Option.some.injEq, Prod.mk.injEq] at hst
          obtain ⟨hv, hW⟩ := hst
          refine ⟨fun f _ => Fen_fn _ f, ?_⟩
          rw [← hv] at ha2
          rw [hW] at hrel hQ
          exact ih.1 _ ι w _ _ j2 hsz2 hd2 hc2 ha2 hj2 hrep2 hm2 hlate2 hrel (har.put _ .undef) hQ
    · intro L ι w b' a j ι0 H0 w0 B cs e df hsz hd hc hF hLF hex ha hj hrep hm har hdf hcs hval hWF hmF hsp hst0 hB hQ
      obtain ⟨m0, hm0, hmv0, hLm0⟩ := hex
      refine ⟨fun h => ?_, fun i hi => ?_⟩
      · rw [all_listed hs hsz h m0 (by omega)] at hLm0; cases hLm0
      obtain ⟨hin, hli, o, ho, hedge⟩ := ready_iff.1 hi
      have hLi' := unl hsz hi
      have hd2 := down hsz hd hi
      have hc2 := less hsz hc hi
      have hsz2 : (L.setIfInBounds i true).size = ops.size := by simpa using hsz
      have hiF : i ≠ lateOf P ops := fun e => by rw [e, hLF] at hLi'; cases hLi'
      have nW : ¬ Reach ops (lateOf P ops) i := fun h => by
        rw [hs.waits_ready hd h rfl hi m0 hm0 hmv0] at hLm0; cases hLm0
      have nL : ∀ {p : Nat}, L.getD p false = true → ¬ Reach ops (lateOf P ops) p := fun hp h => by
        rw [hs.waits hd h rfl hp m0 hm0 hmv0] at hLm0; cases hLm0
      have hszH : (L.setIfInBounds (lateOf P ops) false).size = ops.size := by simpa using hsz
      have hdH : Down ops (L.setIfInBounds (lateOf P ops) false) := by
        intro p o' e' ho' hp he hb
        rw [hat_getD (by omega)] at hp ⊢
        by_cases hpF : p = lateOf P ops
        · rw [if_pos hpF] at hp; cases hp
        · rw [if_neg hpF] at hp
          rw [if_neg (fun h => nL hp (.one _ p o' e' ho' he hb h))]
          exact hd p o' e' ho' hp he hb
      have hiH : i ∈ Region.ready .any ops (L.setIfInBounds (lateOf P ops) false) := by
        refine ready_iff.2 ⟨hin, ?_, o, ho, fun e' he hb => ?_⟩
        · rw [Array.getD_eq_getD_getElem?, Array.getElem?_setIfInBounds, if_neg (fun e => hiF e.symm), ← Array.getD_eq_getD_getElem?]; exact hli
        · rw [hat_getD (by omega), if_neg (fun h => nW (.one _ i o e' ho he hb h))]
          exact hedge e' he hb
      obtain ⟨j2, hst, hj2, hrep2, hm2⟩ := hw.ready hs hszH hdH ha hj hrep hm hiH (fun h => by rw [hat_getD (by omega), if_pos rfl] at h; cases h) (fun h => absurd h hiF)
      have hhat : ∀ m, ((L.setIfInBounds i true).setIfInBounds (lateOf P ops) false).getD m false = ((L.setIfInBounds (lateOf P ops) false).setIfInBounds i true).getD m false := by
        intro m
        rw [hat_getD (by omega), set_getD (by omega), set_getD (by omega), hat_getD (by omega)]
        by_cases h1 : m = lateOf P ops
        · rw [if_pos h1, if_neg (fun e => hiF (e.symm.trans h1)), if_pos h1]
        · rw [if_neg h1, if_neg h1]
      have ha2 : TmOk ops (A 0) val (fun j => ((L.setIfInBounds i true).setIfInBounds (lateOf P ops) false).getD j false) (a.put (dstOf ops i) (val i)) :=
        (ha.put (L' := fun j => ((L.setIfInBounds (lateOf P ops) false).setIfInBounds i true).getD j false) hs hin (by rw [set_getD (by omega), if_pos rfl]) fun m hmi => by rw [set_getD (by omega), if_neg hmi]).congr hhat
      have hm3 : movers P ops j2 = (List.range ops.size).countP fun m => mover P ops m && ((L.setIfInBounds i true).setIfInBounds (lateOf P ops) false).getD m false := by
        rw [hm2]
        exact countP_congr' fun m _ => by rw [hhat m]
      have hdst : dstOf ops i = o.dst := by simp [dstOf, ho]
      rw [hdst] at ha2
      have hdn : ∀ t, some df = some t → o.dst ≠ some t := by
        intro t ht h
        injection ht with ht; subst ht
        exact hs.dsts _ i df hF hin (fun e => hiF e.symm) hdf (hdst.trans h)
      have hlk : ∀ t ∈ looks ops i, t ≠ df := by
        intro t ht e; subst e
        rcases hs.reads _ i t hF hin (fun e => hiF e.symm) hdf ht with h | h
        · exact nW (ahead_reach h)
        · rw [hd.reach (ahead_reach h) hLF] at hLi'; cases hLi'
      have hsame : ∀ u : Value, ∀ t ∈ looks ops i, (b'.put (some df) u).tmps.getD t undef = b'.tmps.getD t undef := by
        intro u t ht
        refine getD_of ?_
        simp only [Act.put, Array.getElem?_setIfInBounds]
        rw [if_neg (fun e => hlk t ht e.symm)]
      have cont : ∀ ι1 b1' w1, Step P ι (W j) w ι1 (W j2) w1 → ActRel ι1 (a.put o.dst (val i)) b1' → wpAnyIn (Fen ro') n P .any ops Q fuel (L.setIfInBounds i true) (b1'.put (some df) (.pointer (some ⟨B, 0, none⟩))) w1 := by
        intro ι1 b1' w1 hs1 ha1
        have hsp1 := hsp.step hs1
        by_cases hall : ∀ m, m < lateOf P ops → mover P ops m = true → (L.setIfInBounds i true).getD m false = true
        · -- all that stand ahead are done: the logical cell is made now
          have hmj : movers P ops j2 = movers P ops (lateOf P ops) := by
            rw [hm3]
            unfold movers
            have hsplit : List.range ops.size = List.range (lateOf P ops) ++ (List.range (ops.size - lateOf P ops)).map (lateOf P ops + ·) := by
              rw [← List.range_add]; congr 1; omega
            rw [hsplit, List.countP_append]
            rw [countP_congr' (l := List.range (lateOf P ops)) (p := fun m => mover P ops m && ((L.setIfInBounds i true).setIfInBounds (lateOf P ops) false).getD m false) (q := mover P ops) fun m hm' => by
              have hmn := List.mem_range.1 hm'
              rw [hat_getD (by omega), if_neg (by omega)]
              cases hq : mover P ops m with
              | false => rfl
              | true => rw [hall m hmn hq]; rfl]
            have : List.countP (fun m => mover P ops m && ((L.setIfInBounds i true).setIfInBounds (lateOf P ops) false).getD m false) ((List.range (ops.size - lateOf P ops)).map (lateOf P ops + ·)) = 0 := by
              rw [List.countP_eq_zero]
              intro x hx
              obtain ⟨y, hy, rfl⟩ := List.mem_map.1 hx
              have hy := List.mem_range.1 hy
              rw [hat_getD (by omega)]
              by_cases hy0 : lateOf P ops + y = lateOf P ops
              · rw [if_pos hy0]; simp
              · rw [if_neg hy0]
                cases hq : mover P ops (lateOf P ops + y) with
                | false => simp
                | true =>
                  have hr : Reach ops (lateOf P ops) (lateOf P ops + y) := by
                    rcases hs.moves _ _ hF (show lateOf P ops + y < ops.size by omega) hmF hq (by omega) with h | h
                    · exact ahead_reach h
                    · omega
                  rw [set_getD (by omega)]
                  by_cases hyi : lateOf P ops + y = i
                  · rw [hyi] at hr; exact absurd hr nW
                  · rw [if_neg hyi]
                    cases hl : L.getD (lateOf P ops + y) false with
                    | false => simp
                    | true => exact absurd hr (nL hl)
            omega
          have hWj : W j2 = W (lateOf P ops) := hw.same' (Nat.le_of_lt hF) hj2 hmj.symm
          have hfr := hs1.rel.fresh
          have hrow : ORel P (ι1.put (W j2).heap.size (exactLoc B cs.size)) (exactLoc B cs.size) (.cells cs e (0, 0)) (.cells cs e (0, 0)) := by
            refine .cells cs cs e (0, 0) (0, 0) ⟨rfl, .inr (.inl ⟨rfl, rfl, rfl, rfl, rfl⟩)⟩ fun k v hk => ?_
            obtain ⟨v', hv', hr⟩ := (hcs (ι1.put (W j2).heap.size (exactLoc B cs.size))).get hk
            exact ⟨v', by simpa [exactLoc] using hv', hr⟩
          have hst1 := (hst0.trans hs1).adopt (o := .cells cs e (0, 0)) (r := exactLoc B cs.size) rfl hsp1.row hB hsp1.free hsp1.pin hrow
          have hWF2 : W (lateOf P ops + 1) = { W j2 with heap := (W j2).heap.push (.cells cs e (0, 0)) } := by rw [hWj]; exact hWF
          rw [← hWF2] at hst1
          have hle := Emb.le_put (r := exactLoc B cs.size) hfr
          have hptr : VRel (ι1.put (W j2).heap.size (exactLoc B cs.size)) (val (lateOf P ops)) (.pointer (some ⟨B, 0, none⟩)) := by
            rw [hval, ← hWj]
            have := VRel.ptr (ι := ι1.put (W j2).heap.size (exactLoc B cs.size)) (W j2).heap.size 0 (exactLoc B cs.size) (Emb.put_same _ _ _)
            simpa [exactLoc] using this
          have hLF2 : (L.setIfInBounds i true).getD (lateOf P ops) false = true := by rw [set_getD (by omega), if_neg (fun e => hiF e.symm)]; exact hLF
          have ha3 : TmOk ops (A 0) val (fun j => (L.setIfInBounds i true).getD j false) ((a.put o.dst (val i)).put (dstOf ops (lateOf P ops)) (val (lateOf P ops))) :=
            ha2.put hs hF hLF2 fun m hm' => by rw [hat_getD (by omega), if_neg hm']
          rw [hdf] at ha3
          refine ih.1 (L.setIfInBounds i true) _ w1 _ _ (lateOf P ops + 1) hsz2 hd2 hc2 ha3 (by omega) (.inr (by simpa using hmF)) ?_ (fun _ => hall) hst1.rel ((ha1.mono hle).put _ hptr) (hQ.step hst1)
          rw [movers_succ, hmF, if_pos rfl, ← hmj, hm3]
          exact (countP_upd ops.size hF (by rw [hat_getD (by omega), if_pos rfl]; simp) (by rw [hmF, hLF2]; rfl) fun m hmi => by rw [hat_getD (by omega), if_neg hmi]).symm
        · have hex2 : ∃ m, m < lateOf P ops ∧ mover P ops m = true ∧ (L.setIfInBounds i true).getD m false = false := by
            refine Classical.byContradiction fun hno => hall fun m h1 h2 => ?_
            cases hl : (L.setIfInBounds i true).getD m false with
            | true => rfl
            | false => exact absurd ⟨m, h1, h2, hl⟩ hno
          exact ih.2 (L.setIfInBounds i true) ι1 w1 b1' _ j2 ι0 H0 w0 B cs e df hsz2 hd2 hc2 hF (by rw [set_getD (by omega), if_neg (fun e => hiF e.symm)]; exact hLF) hex2 ha2 hj2 hrep2 hm3 ha1 hdf hcs hval hWF hmF hsp1 (hst0.trans hs1) hB hQ
      unfold wpOpIn
      rw [ho]
      simp only
      unfold stepV at hst
      rw [ho] at hst
      simp only at hst
      rw [looks_wanted ho (by simp [Act.put]) (hsame _), ← yielded_rel har.tmps]
      by_cases hwt : Region.wanted o (yielded ops a.tmps) = true
      · rw [if_pos hwt] at hst ⊢
        have hop : opD P E o a (W j) = some (a.put o.dst (val i), W j2) := by rw [opD_eq, hst]; rfl
        exact opD_soundX hP hE hop hst0.rel har (looks_eval ho (hsame _)) hdn cont
      · rw [if_neg hwt] at hst ⊢
        simp only [Option.some.injEq, Prod.mk.injEq] at hst
        obtain ⟨hv, hW⟩ := hst
        refine ⟨fun f _ => Fen_fn _ f, ?_⟩
        rw [put_comm hdn]
        refine cont ι _ w ?_ ?_
        · rw [← hW]; exact .refl hst0.rel
        · rw [← hv]; exact har.put _ .undef

theorem drawS_ok (hP : Good P) : DrawOk P drawS := by
  intro E hE ops a H a1 H1 h t ι w a' ro' n Q hrel har hQ
  simp only [Region.schedule, hP.mixed, Bool.true_or, if_true]
  unfold drawS at h
  split at h
  case h_2 => cases h
  rename_i tr htr
  split at h
  case isFalse => cases h
  rename_i hc
  simp only [Bool.and_eq_true] at hc
  obtain ⟨hst, hre⟩ := hc
  have hs := stat_of hst
  obtain ⟨h0, hk⟩ := traceD_spec _ _ _ _ htr
  let A : Nat → Act := fun i => (tr[i]?.getD (a, H)).1
  let W : Nat → World := fun i => (tr[i]?.getD (a, H)).2
  have hAW : ∀ i, i < ops.size → tr[i]? = some (A i, W i) ∧ tr[i + 1]? = some (A (i + 1), W (i + 1)) ∧ stepD P E ops i (A i) (W i) = some (A (i + 1), W (i + 1)) := by
    intro i hi
    obtain ⟨x, y, hx, hy, hxy⟩ := hk i i (by simp [hi])
    simp only [A, W, hx, hy, Option.getD_some]
    exact ⟨trivial, trivial, hxy⟩
  have hval : ∀ i, ∃ v, i < ops.size → stepV P E ops i (A i) (W i) = some (v, W (i + 1)) ∧ A (i + 1) = (A i).put (dstOf ops i) v := by
    intro i
    by_cases hi : i < ops.size
    · have := (hAW i hi).2.2
      rw [stepD_eq, Option.map_eq_some_iff] at this
      obtain ⟨⟨v, H2⟩, h1, h2⟩ := this
      simp only [Prod.mk.injEq] at h2
      exact ⟨v, fun _ => ⟨by rw [h1, h2.2], h2.1.symm⟩⟩
    · exact ⟨undef, fun h => absurd h hi⟩
  let val : Nat → Value := fun i => Classical.choose (hval i)
  have hv : ∀ i, i < ops.size → stepV P E ops i (A i) (W i) = some (val i, W (i + 1)) ∧ A (i + 1) = (A i).put (dstOf ops i) (val i) := fun i => Classical.choose_spec (hval i)
  have hwalk : Walk P E ops A W val := by
    refine ⟨fun i hi => (hv i hi).1, fun i hi => (hv i hi).2, fun i j hij => ?_⟩
    have := List.all_eq_true.1 hre (i, j) hij
    simp only at this
    split at this
    · rename_i x y hx hy
      simp only [A, W, hx, hy, Option.getD_some]
      exact this
    · cases this
  have hA0 : A 0 = a := by simp only [A, h0, Option.getD_some]
  have hW0 : W 0 = H := by simp only [W, h0, Option.getD_some]
  have hAn : A ops.size = a1 := by simp only [A, h, Option.getD_some]
  have hWn : W ops.size = H1 := by simp only [W, h, Option.getD_some]
  have hrep : ∀ m, (Array.replicate ops.size false).getD m false = false := fun m => by
    rw [Array.getD_eq_getD_getElem?, Array.getElem?_replicate]; split <;> rfl
  refine wpAnyIn_sound ops.size t _ _ _ ((draw_any hP hE hs hwalk ops.size).1 _ ι w a' (A 0) 0 (by simp) (fun j o e _ hj _ _ => (by rw [hrep] at hj; cases hj)) ?_ ⟨rfl, rfl, fun t j _ _ h => (by rw [hrep] at h; cases h), fun t _ _ => rfl⟩ (Nat.zero_le _) (.inl rfl) ?_ (fun h => by rw [hrep] at h; cases h) (by rw [hW0]; exact hrel) (by rw [hA0]; exact har) ?_)
  · exact Nat.le_trans (List.countP_le_length) (by simp)
  · rw [List.countP_eq_zero.2 fun m _ => by rw [hrep]; simp]; rfl
  · rw [hW0, hAn, hWn]; exact hQ

/-- A region that draws: either all goes one behind the other, or rows are made. -/
def drawD : DrawD := fun P E ops a H => if drawStatic P ops then drawS P E ops a H else newD P E ops a H
theorem drawD_ok (hP : Good P) : DrawOk P drawD := by
  intro E hE ops a H a1 H1 h
  unfold drawD at h
  split at h
  · exact drawS_ok hP E hE ops a H a1 H1 h
  · exact newD_ok hP E hE ops a H a1 H1 h
/-- What the program's function f makes of these arguments in this logical world, with this much fuel. -/
def run (P : Program) (al : FuncId → Bool) (sp : Sp) (k : Nat) (f : FuncId) (args : Array Value) (H : World) : Option (Value × World) := (evs drawD al sp P k).fn f args H
/-- **THE EVALUATOR's ANSWER IS THE MACHINE's.** -/
theorem calls_of_run (hP : Good P) {al : FuncId → Bool} {sp : Sp} (hsp : SpOk P sp) {k : Nat} {f : FuncId} {args args' : Array Value} {H w : World} {v : Value} {H1 : World} {ι : Emb} {R : Ending → World → Prop}
    (h : run P al sp k f args H = some (v, H1)) (hrel : Rel P ι H w) (hargs : ARel ι args args') (hR : ThenV P ι H w v H1 R) : Calls P f args' w R :=
  calls_of_evs hP (drawD_ok hP) hsp h hrel hargs hR

/-- Every live row at the start came in: then nothing that was there is written. -/
theorem Step.below {ι ι1 : Emb} {H H1 w w1 : World} (h : Step P ι H w ι1 H1 w1) (hg : ∀ (i : Nat) (o : Obj), H.heap[i]? = some o → live o = true → given o = true) : RowKit.Below w.heap.size w w1 := by
  refine ⟨h.os, h.tape, h.output, h.size, fun b hb => ?_⟩
  by_cases hex : ∃ i o r, H.heap[i]? = some o ∧ live o = true ∧ ι i = some r ∧ r.b = b
  · obtain ⟨i, o, r, hi, hl, hr, rfl⟩ := hex
    exact (h.pin i o r hi (hg i o hi hl) hr).2
  · exact h.keep b hb fun i o r hi hl hr hbb => hex ⟨i, o, r, hi, hl, hr, hbb⟩
/-- A law's walk: the evaluator says true, over given rows alone. -/
theorem law_of_run (hP : Good P) {al : FuncId → Bool} {sp : Sp} (hsp : SpOk P sp) {k : Nat} {f : FuncId} {args args' : Array Value} {H w H1 : World} {ι : Emb} (h : run P al sp k f args H = some (.bool true, H1)) (hrel : Rel P ι H w) (hargs : ARel ι args args')
    (hg : ∀ (i : Nat) (o : Obj), H.heap[i]? = some o → live o = true → given o = true) : Calls P f args' w fun e w' => e = .returned (.bool true) ∧ RowKit.Below w.heap.size w w' :=
  calls_of_run hP hsp h hrel hargs fun ι1 v' w1 hst hv => by
    cases hv
    exact ⟨rfl, hst.below hg⟩
end Go.Proofs.YtmmmdmandocbhaaDoor.Den
end

section
/- Walking the evaluator: 'in the end, whatever the fuel' as a calculus. -/
set_option linter.unusedVariables false
set_option linter.unusedSimpArgs false
namespace Go.Proofs.YtmmmdmandocbhaaDoor.Den

/-- With enough fuel the answer is there, and it is always the same one; it is as told. -/
def Ev {α : Type} (s : Nat → Option α) (Q : α → Prop) : Prop := ∃ x, Q x ∧ ∃ k0, ∀ k, k0 ≤ k → s k = some x
theorem Ev.pure {α : Type} {s : Nat → Option α} {Q : α → Prop} {x : α} (h : ∀ k, s k = some x) (hq : Q x) : Ev s Q := ⟨x, hq, 0, fun k _ => h k⟩
theorem Ev.imp {α : Type} {s : Nat → Option α} {Q Q' : α → Prop} (h : Ev s Q) (hq : ∀ x, Q x → Q' x) : Ev s Q' := let ⟨x, q, r⟩ := h; ⟨x, hq x q, r⟩

structure Cx where
  P : Program
  al : FuncId → Bool
  sp : Sp
abbrev Cx.E (c : Cx) (k : Nat) : Evs := evs drawD c.al c.sp c.P k
/-- A function that is walked by its code. -/
@[simp] abbrev Cx.plain (c : Cx) (f : FuncId) : Bool := !c.al f && (c.sp f).isNone
@[simp] theorem spNone_eq (f : FuncId) : spNone f = none := _root_.id rfl

/-- Code: left in this way, with these temporaries, in this world. -/
def CW (x : Cx) (ro : Option Nat) (c : Code) (a : Act) (H : World) (Q : Exit → Act → World → Prop) : Prop :=
  Ev (fun k => codeD drawD x.P (x.E k) ro c a H) fun r => Q r.1 r.2.1 r.2.2
def FW (x : Cx) (f : FuncId) (args : Array Value) (H : World) (Q : Value → World → Prop) : Prop :=
  Ev (fun k => (x.E k).fn f args H) fun r => Q r.1 r.2
def RW (x : Cx) (l : Nat) (tmps : Array Value) (assign body : Code) (H : World) (Q : Value → World → Prop) : Prop :=
  Ev (fun k => (x.E k).round l tmps assign body H) fun r => Q r.1 r.2
def OW (x : Cx) (ops : Array Oper) (l : List Nat) (a : Act) (H : World) (Q : Act → World → Prop) : Prop :=
  Ev (fun k => opsD x.P (x.E k) ops l a H) fun r => Q r.1 r.2

section
variable {x : Cx} {ro : Option Nat} {a : Act} {H : World} {Q : Exit → Act → World → Prop}
theorem CW.imp {c : Code} {Q' : Exit → Act → World → Prop} (h : CW x ro c a H Q) (hq : ∀ e a H, Q e a H → Q' e a H) : CW x ro c a H Q' := Ev.imp h fun r => hq _ _ _
theorem FW.imp {f : FuncId} {args : Array Value} {Q Q' : Value → World → Prop} (h : FW x f args H Q) (hq : ∀ v H, Q v H → Q' v H) : FW x f args H Q' := Ev.imp h fun r => hq _ _
theorem CW.skip (h : Q .normal a H) : CW x ro .skip a H Q := .pure (x := (.normal, a, H)) (fun _ => rfl) h
theorem CW.label {n : Nat} (h : Q .normal a H) : CW x ro (.label n) a H Q := .pure (x := (.normal, a, H)) (fun _ => rfl) h
theorem CW.ret (h : Q .ret a H) : CW x ro .ret a H Q := .pure (x := (.ret, a, H)) (fun _ => rfl) h
theorem CW.exit {id : Nat} (h : Q (.exit id) a H) : CW x ro (.exit id) a H Q := .pure (x := (.exit id, a, H)) (fun _ => rfl) h
theorem CW.seq {c d : Code} (h : CW x ro c a H (Exit.then (fun a1 H1 => CW x ro d a1 H1 Q) Q)) : CW x ro (.seq c d) a H Q := by
  obtain ⟨⟨e, a1, H1⟩, q, k0, hk⟩ := h
  try dsimp only at *
  cases e with
  | normal =>
    obtain ⟨r, q2, k1, hk1⟩ := q
    try dsimp only at *
    refine ⟨r, q2, max k0 k1, fun k hkk => ?_⟩
    show codeD drawD x.P (x.E k) ro (.seq c d) a H = _
    unfold codeD
    rw [hk k (by omega)]
    exact hk1 k (by omega)
  | _ =>
    refine ⟨(_, a1, H1), q, k0, fun k hkk => ?_⟩
    show codeD drawD x.P (x.E k) ro (.seq c d) a H = _
    unfold codeD
    rw [hk k hkk]
theorem CW.cond {c : Operand} {d e : Code} {t : Bool} (hc : a.eval c = .bool t) (h : CW x ro (if t then d else e) a H Q) : CW x ro (.cond c d e) a H Q := by
  obtain ⟨r, q, k0, hk⟩ := h
  try dsimp only at *
  refine ⟨r, q, k0, fun k hkk => ?_⟩
  show codeD drawD x.P (x.E k) ro (.cond c d e) a H = _
  unfold codeD
  rw [hc]
  have := hk k hkk
  cases t <;> exact this
theorem CW.block {id : Nat} {c : Code} (h : CW x ro c a H (Exit.inBlock id Q)) : CW x ro (.block id c) a H Q := by
  obtain ⟨⟨e, a1, H1⟩, q, k0, hk⟩ := h
  try dsimp only at *
  cases e with
  | exit id' =>
    by_cases hid : id' = id
    · subst hid
      simp only [Exit.inBlock, if_true] at q
      refine ⟨(.normal, a1, H1), q, k0, fun k hkk => ?_⟩
      show codeD drawD x.P (x.E k) ro (.block id' c) a H = _
      unfold codeD
      rw [hk k hkk]
      simp
    · simp only [Exit.inBlock, hid, if_false] at q
      refine ⟨(.exit id', a1, H1), q, k0, fun k hkk => ?_⟩
      show codeD drawD x.P (x.E k) ro (.block id c) a H = _
      unfold codeD
      rw [hk k hkk]
      simp [hid]
  | _ =>
    refine ⟨(_, a1, H1), q, k0, fun k hkk => ?_⟩
    show codeD drawD x.P (x.E k) ro (.block id c) a H = _
    unfold codeD
    rw [hk k hkk]
/-- One round of a loop; then it stands at the loop again. -/
theorem CW.loop {c : Code} (h : CW x ro c a H (Exit.then (fun a1 H1 => CW x ro (.loop c) a1 H1 Q) Q)) : CW x ro (.loop c) a H Q := by
  obtain ⟨⟨e, a1, H1⟩, q, k0, hk⟩ := h
  try dsimp only at *
  cases e with
  | normal =>
    obtain ⟨r, q2, k1, hk1⟩ := q
    try dsimp only at *
    refine ⟨r, q2, max k0 (k1 + 1), fun k hkk => ?_⟩
    show codeD drawD x.P (x.E k) ro (.loop c) a H = _
    unfold codeD
    rw [hk k (by omega)]
    obtain ⟨j, rfl⟩ : ∃ j, k = j + 1 := ⟨k - 1, by omega⟩
    exact hk1 j (by omega)
  | _ =>
    refine ⟨(_, a1, H1), q, k0, fun k hkk => ?_⟩
    show codeD drawD x.P (x.E k) ro (.loop c) a H = _
    unfold codeD
    rw [hk k hkk]
theorem CW.region {id : Nat} {ops : Array Oper} (h : OW x ops (List.range ops.size) a H (Q .normal)) : CW x ro (.region id ops false) a H Q := by
  obtain ⟨⟨a1, H1⟩, q, k0, hk⟩ := h
  try dsimp only at *
  refine ⟨(.normal, a1, H1), q, k0, fun k hkk => ?_⟩
  show codeD drawD x.P (x.E k) ro (.region id ops false) a H = _
  unfold codeD
  simp only [Bool.false_eq_true, if_false]
  rw [hk k hkk]; rfl
theorem OW.nil {ops : Array Oper} {Q : Act → World → Prop} (h : Q a H) : OW x ops [] a H Q := .pure (x := (a, H)) (fun _ => rfl) h
/-- An operation that calls nothing. -/
theorem OW.op {ops : Array Oper} {i : Nat} {l : List Nat} {Q : Act → World → Prop} {o : Oper} {v : Value} {H1 : World} (ho : ops[i]? = some o) (hg : o.guard = none) (hs : semD x.P o a H = some (.value v, H1)) (h : OW x ops l (a.put o.dst v) H1 Q) : OW x ops (i :: l) a H Q := by
  obtain ⟨r, q, k0, hk⟩ := h
  try dsimp only at *
  refine ⟨r, q, k0, fun k hkk => ?_⟩
  show opsD x.P (x.E k) ops (i :: l) a H = _
  unfold opsD
  simp only [ho, Region.wanted, hg, if_true, opD, hs]
  exact hk k hkk
theorem OW.act {ops : Array Oper} {i : Nat} {l : List Nat} {Q : Act → World → Prop} {o : Oper} {H1 : World} (ho : ops[i]? = some o) (hg : o.guard = none) (hs : semD x.P o a H = some (.skip, H1)) (h : OW x ops l (a.put o.dst undef) H1 Q) : OW x ops (i :: l) a H Q := by
  obtain ⟨r, q, k0, hk⟩ := h
  try dsimp only at *
  refine ⟨r, q, k0, fun k hkk => ?_⟩
  show opsD x.P (x.E k) ops (i :: l) a H = _
  unfold opsD
  simp only [ho, Region.wanted, hg, if_true, opD, hs]
  exact hk k hkk
theorem OW.call {ops : Array Oper} {i : Nat} {l : List Nat} {Q : Act → World → Prop} {o : Oper} {f : FuncId} {args : Array Value} {H1 : World} (ho : ops[i]? = some o) (hg : o.guard = none) (hs : semD x.P o a H = some (.enter f args, H1))
    (h : FW x f args H1 fun v H2 => OW x ops l (a.put o.dst v) H2 Q) : OW x ops (i :: l) a H Q := by
  obtain ⟨⟨v, H2⟩, ⟨r, q, k0, hk⟩, k1, hk1⟩ := h
  try dsimp only at *
  refine ⟨r, q, max k0 k1, fun k hkk => ?_⟩
  show opsD x.P (x.E k) ops (i :: l) a H = _
  unfold opsD
  have h1 : (x.E k).fn f args H1 = some (v, H2) := hk1 k (by omega)
  simp only [ho, Region.wanted, hg, if_true, opD, hs, h1, Option.map_some]
  exact hk k (by omega)
theorem OW.round {ops : Array Oper} {i : Nat} {l : List Nat} {Q : Act → World → Prop} {o : Oper} {g : Nat} {f : FuncId} {t : Array Value} {as b : Code} {H1 : World} (ho : ops[i]? = some o) (hg : o.guard = none) (hs : semD x.P o a H = some (.round g f t as b, H1))
    (h : RW x g t as b H1 fun v H2 => OW x ops l (a.put o.dst v) H2 Q) : OW x ops (i :: l) a H Q := by
  obtain ⟨⟨v, H2⟩, ⟨r, q, k0, hk⟩, k1, hk1⟩ := h
  try dsimp only at *
  refine ⟨r, q, max k0 k1, fun k hkk => ?_⟩
  show opsD x.P (x.E k) ops (i :: l) a H = _
  unfold opsD
  have h1 : (x.E k).round g t as b H1 = some (v, H2) := hk1 k (by omega)
  simp only [ho, Region.wanted, hg, if_true, opD, hs, h1, Option.map_some]
  exact hk k (by omega)
end

/-- What a function's end asks. -/
def endW (x : Cx) (fn : Func) (Q : Value → World → Prop) : Exit → Act → World → Prop
  | .normal, a, H | .ret, a, H => ∃ H2 v H3, leaveD a.defers H = some H2 ∧ okRun ((results fn a.tmps).run x.P H2) = some (v, H3) ∧ Q v H3
  | _, _, _ => False
theorem fnD_of {x : Cx} {f : FuncId} {fn : Func} {c : Code} {args : Array Value} {H : World} {Q : Value → World → Prop} (hf : x.P.funcs[f]? = some fn) (hb : fn.body = some c)
    (h : CW x none c { tmps := args ++ Array.replicate (fn.ntmps - args.size) undef, defers := [] } H (endW x fn Q)) : Ev (fun k => fnD drawD x.P (x.E k) f args H) fun r => Q r.1 r.2 := by
  obtain ⟨⟨e, a1, H1⟩, q, k0, hk⟩ := h
  try dsimp only at *
  cases e with
  | normal =>
    obtain ⟨H2, v, H3, hl, hr, hq⟩ := q
    refine ⟨(v, H3), hq, k0, fun k hkk => ?_⟩
    have h1 := hk k hkk
    simp only [fnD, hf, hb, h1, hl, hr]
  | ret =>
    obtain ⟨H2, v, H3, hl, hr, hq⟩ := q
    refine ⟨(v, H3), hq, k0, fun k hkk => ?_⟩
    have h1 := hk k hkk
    simp only [fnD, hf, hb, h1, hl, hr]
  | _ => exact q.elim
theorem FW.of {x : Cx} {f : FuncId} {fn : Func} {c : Code} {args : Array Value} {H : World} {Q : Value → World → Prop} (ha : x.plain f = true) (hf : x.P.funcs[f]? = some fn) (hb : fn.body = some c)
    (h : CW x none c { tmps := args ++ Array.replicate (fn.ntmps - args.size) undef, defers := [] } H (endW x fn Q)) : FW x f args H Q := by
  obtain ⟨r, q, k0, hk⟩ := fnD_of hf hb h
  try dsimp only at *
  refine ⟨r, q, k0 + 1, fun k hkk => ?_⟩
  obtain ⟨j, rfl⟩ : ∃ j, k = j + 1 := ⟨k - 1, by omega⟩
  show callF drawD x.al x.sp x.P (x.E j) f args H = _
  simp only [Cx.plain, Bool.and_eq_true, Bool.not_eq_true', Option.isNone_iff_eq_none] at ha
  unfold callF
  simp only [ha.1, ha.2, Bool.false_and, Bool.false_eq_true, if_false]
  exact hk j (by omega)
/-- A function that is told by a rule of its own. -/
theorem FW.special {x : Cx} {f : FuncId} {args : Array Value} {H H1 : World} {v : Value} {g : Array Value → World → Option (Value × World)} {Q : Value → World → Prop} (ha : x.al f = false) (hs : x.sp f = some g) (hg : g args H = some (v, H1)) (hq : Q v H1) : FW x f args H Q := by
  refine ⟨(v, H1), hq, 1, fun k hkk => ?_⟩
  obtain ⟨j, rfl⟩ : ∃ j, k = j + 1 := ⟨k - 1, by omega⟩
  show callF drawD x.al x.sp x.P (x.E j) f args H = _
  unfold callF
  simp only [ha, hs, Bool.false_and, Bool.false_eq_true, if_false, hg]
/-- A call that stands alone. -/
theorem FW.alone {x : Cx} {f : FuncId} {fn : Func} {c : Code} {args : Array Value} {H : World} {Q : Value → World → Prop} (ha : (x.al f && args.all (plain deep)) = true) (hf : x.P.funcs[f]? = some fn) (hb : fn.body = some c)
    (h : CW x none c { tmps := args ++ Array.replicate (fn.ntmps - args.size) undef, defers := [] } World0 (endW x fn fun v0 H0 => ∃ v, strip deep x.P H0 v0 = some v ∧ Q v H)) : FW x f args H Q := by
  obtain ⟨⟨v0, H3⟩, ⟨v, hc, q⟩, k0, hk⟩ := fnD_of hf hb h
  try dsimp only at *
  refine ⟨(v, H), q, k0 + 1, fun k hkk => ?_⟩
  obtain ⟨j, rfl⟩ : ∃ j, k = j + 1 := ⟨k - 1, by omega⟩
  show callF drawD x.al x.sp x.P (x.E j) f args H = _
  unfold callF
  rw [if_pos ha]
  have h1 := hk j (by omega)
  simp only [aloneD, h1, hc, Option.map_some]
/-- What a function makes of plain values, of nothing that came in. -/
def FA (x : Cx) (f : FuncId) (l : List Value) (v : Value) : Prop := Ev (fun k => fnD drawD x.P (x.E k) f l.toArray World0) fun r => strip0 deep x.P r.2 r.1 = some v
/-- A call that stands alone, with arguments of the heap. -/
theorem FA.heap {x : Cx} {f : FuncId} {l : List Value} {v : Value} {args : Array Value} {H : World} {Q : Value → World → Prop} (h : FA x f l v) (ha : x.al f = true) (hp : args.all (plain deep) = false) (hs : stripArgs x.P H args = some l) (hq : Q v H) : FW x f args H Q := by
  obtain ⟨⟨v0, H0⟩, q, k0, hk⟩ := h
  dsimp only at *
  refine ⟨(v, H), hq, k0 + 1, fun k hkk => ?_⟩
  obtain ⟨j, rfl⟩ : ∃ j, k = j + 1 := ⟨k - 1, by omega⟩
  show callF drawD x.al x.sp x.P (x.E j) f args H = _
  have h1 := hk j (by omega)
  unfold callF
  simp only [ha, hp, Bool.and_false, Bool.false_eq_true, if_false, if_true, hs, aloneH, h1, q, Option.map_some]
theorem stripAll_mono {f g : Value → Option Value} : ∀ (l r : List Value), (∀ v y, f v = some y → g v = some y) → stripAll f l = some r → stripAll g l = some r
  | [], r, _, h => h
  | v :: l, r, hm, h => by
    unfold stripAll at h ⊢
    split at h
    · rename_i y hy
      simp only [Option.map_eq_some_iff] at h
      obtain ⟨z, hz, rfl⟩ := h
      rw [hm _ _ hy, stripAll_mono l z hm hz]; rfl
    · cases h
theorem strip0_strip {P : Program} {H : World} : ∀ (d : Nat) (v y : Value), strip0 d P H v = some y → strip d P H v = some y
  | 0, v, y, h => h
  | d + 1, v, y, h => by
    unfold strip0 at h
    unfold strip
    split at h
    · simp only [Option.map_eq_some_iff] at h ⊢
      obtain ⟨l, hl, rfl⟩ := h
      exact ⟨l, stripAll_mono _ _ (strip0_strip d) hl, rfl⟩
    · simp only [Option.map_eq_some_iff] at h ⊢
      obtain ⟨l, hl, rfl⟩ := h
      exact ⟨l, stripAll_mono _ _ (strip0_strip d) hl, rfl⟩
    · cases h
    · split at h
      case h_2 => cases h
      rename_i cs e fr hb
      split at h
      case h_2 => cases h
      rename_i de inf hu hi
      replace h := of_if' h
      obtain ⟨hpos, h⟩ := h
      split at h
      case h_2 => cases h
      rename_i l hl
      simp only [hb, hu, hi, if_pos hpos, stripAll_mono _ _ (strip0_strip d) hl]
      exact h
    · split <;> first | exact h | simp_all
theorem FA.plain {x : Cx} {f : FuncId} {l : List Value} {v : Value} {H : World} {Q : Value → World → Prop} (h : FA x f l v) (ha : x.al f = true) (hp : l.toArray.all (plain deep) = true) (hq : Q v H) : FW x f l.toArray H Q := by
  obtain ⟨⟨v0, H0⟩, q, k0, hk⟩ := h
  dsimp only at *
  refine ⟨(v, H), hq, k0 + 1, fun k hkk => ?_⟩
  obtain ⟨j, rfl⟩ : ∃ j, k = j + 1 := ⟨k - 1, by omega⟩
  show callF drawD x.al x.sp x.P (x.E j) f l.toArray H = _
  have h1 := hk j (by omega)
  unfold callF
  simp only [ha, hp, Bool.and_true, if_true, aloneD, h1, strip0_strip _ _ _ q, Option.map_some]
theorem FW.run {x : Cx} {f : FuncId} {args : Array Value} {H : World} {Q : Value → World → Prop} (h : FW x f args H Q) : ∃ k v H1, run x.P x.al x.sp k f args H = some (v, H1) ∧ Q v H1 := by
  obtain ⟨⟨v, H1⟩, q, k0, hk⟩ := h
  try dsimp only at *
  exact ⟨k0, v, H1, hk k0 (Nat.le_refl _), q⟩
end Go.Proofs.YtmmmdmandocbhaaDoor.Den
end

section
/- The meaning of an operation over a valuation of its operands (printed by gen_semr.py out of DenA); environments. -/
set_option linter.unusedVariables false
set_option linter.unusedSimpArgs false
namespace Go.Proofs.YtmmmdmandocbhaaDoor.Den

def binR (P : Program) (op : BinOp) (t : TypeId) (x y : Operand) (ρ : Operand → Value) (H : World) : Option (Next × World) :=
  if flatFor op (ρ x) && flatFor op (ρ y) then
    match okRun ((do Go.eqGuard op t x y (ρ x) (ρ y); Go.binOp op t (ρ x) (ρ y)).run P H) with
    | some (v, H1) => if flat1 v then some (.value v, H1) else none
    | none => none
  else match op with
    | .eql => (eqD P t (ρ x) (ρ y) H).map fun r => (.value (.bool r), H)
    | .neq => (eqD P t (ρ x) (ρ y) H).map fun r => (.value (.bool !r), H)
    | _ => none

def callOpR (P : Program) (c : Call) (ρ : Operand → Value) (H : World) : Option (Next × World) :=
  match c.callee with
  | .builtin b => (builtinD P b c.argTypes (c.args.map ρ) H).map fun r => (.value r.1, r.2)
  | .value g => (callD P (ρ g) (c.args.map ρ) H).map fun x => (x, H)
  | _ => none

def semR (P : Program) (o : Oper) (ρ : Operand → Value) (H : World) : Option (Next × World) :=
  if !(o.op.operands.all operandOk) then none else
  match pureD P o.op ρ with
  | some v => some (.value v, H)
  | none =>
  match o.op with
  | .slice t x lo hi mx => (lslice P t (ρ x) (lo.map ρ) (hi.map ρ) (mx.map ρ) H).map fun r => (.value r.1, r.2)
  | .binOp op t x y _ => binR P op t x y ρ H
  | .convert src dst x => (convD P src dst (ρ x) H).map fun r => (.value r.1, r.2)
  | .lookup t m k ok => (lookupD P t (ρ m) (ρ k) ok H).map fun v => (.value v, H)
  | .mapUpdate t m k v => (mapUpdateD P t (ρ m) (ρ k) (ρ v) H).map fun H1 => (.skip, H1)
  | .insert t m k v => (mapUpdateD P t (ρ m) (ρ k) (ρ v) H).map fun H1 => (.skip, H1)
  | .nilCheck x => match ρ x with
    | .pointer (some p) => some (.value (.pointer (some p)), H)
    | .func (.func f) fs cs => some (.value (.func (.func f) fs cs), H)
    | _ => none
  | .call c => callOpR P c ρ H
  | op => if okOp P op then okRun ((execOp ρ o).run P H) else none
def binV (P : Program) (op : BinOp) (t : TypeId) (x y : Operand) (X Y : Value) (H : World) : Option (Next × World) :=
  if flatFor op (X) && flatFor op (Y) then
    match okRun ((do Go.eqGuard op t x y (X) (Y); Go.binOp op t (X) (Y)).run P H) with
    | some (v, H1) => if flat1 v then some (.value v, H1) else none
    | none => none
  else match op with
    | .eql => (eqD P t (X) (Y) H).map fun r => (.value (.bool r), H)
    | .neq => (eqD P t (X) (Y) H).map fun r => (.value (.bool !r), H)
    | _ => none
theorem binR_binV (P : Program) (op : BinOp) (t : TypeId) (x y : Operand) (ρ : Operand → Value) (H : World) : binR P op t x y ρ H = binV P op t x y (ρ x) (ρ y) H := rfl
theorem semD_semR (P : Program) (o : Oper) (a : Act) (H : World) : semD P o a H = semR P o a.eval H := rfl

/-! ### environments -/
def lk : List (Nat × Value) → Nat → Value
  | [], _ => undef
  | (i, v) :: e, j => if j = i then v else lk e j
theorem lk_cons (i : Nat) (v : Value) (e : List (Nat × Value)) (j : Nat) : lk ((i, v) :: e) j = if j = i then v else lk e j := by simp [lk]
def evE (e : List (Nat × Value)) : Operand → Value
  | .tmp t => lk e t
  | .const v => v
  | .global g => .pointer (some ⟨g, 0, none⟩)
  | .func f => .func (.func f) #[] #[]
structure EnvOk (n : Nat) (e : List (Nat × Value)) (a : Act) : Prop where
  size : a.tmps.size = n
  get : ∀ t, a.tmps.getD t undef = lk e t
theorem EnvOk.eval {n : Nat} {e : List (Nat × Value)} {a : Act} (h : EnvOk n e a) : a.eval = evE e := by
  funext x
  cases x with
  | tmp t => exact h.get t
  | _ => rfl
def putE (e : List (Nat × Value)) (dst : Option Tmp) (v : Value) : List (Nat × Value) :=
  match dst with
  | some d => (d, v) :: e
  | none => e
theorem EnvOk.put {n : Nat} {e : List (Nat × Value)} {a : Act} (h : EnvOk n e a) (dst : Option Tmp) (hd : ∀ d, dst = some d → d < n) (v : Value) : EnvOk n (putE e dst v) (a.put dst v) := by
  cases dst with
  | none => exact h
  | some d =>
    refine ⟨by simp [Act.put, h.size], fun t => ?_⟩
    simp only [Act.put, putE, lk_cons]
    rw [Array.getD_eq_getD_getElem?, Array.getElem?_setIfInBounds]
    have := hd d rfl
    by_cases hdt : d = t
    · subst hdt
      rw [if_pos rfl, if_pos (by rw [h.size]; exact this), if_pos rfl]; rfl
    · rw [if_neg hdt, if_neg (fun e => hdt e.symm), ← h.get, Array.getD_eq_getD_getElem?]
def yieldE (ops : Array Oper) (e : List (Nat × Value)) (j : Nat) : Option Bool :=
  match (ops[j]?).bind (·.dst) with
  | some d => match lk e d with
    | .bool b => some b
    | _ => none
  | none => none
theorem EnvOk.yielded {n : Nat} {e : List (Nat × Value)} {a : Act} (h : EnvOk n e a) (ops : Array Oper) : yielded ops a.tmps = yieldE ops e := by
  funext j
  unfold Go.yielded yieldE
  cases hd : (ops[j]?).bind (·.dst) with
  | none => rfl
  | some d =>
    simp only [Option.bind_some]
    rw [← h.get d, Array.getD_eq_getD_getElem?]
    cases a.tmps[d]? with
    | none => rfl
    | some v => cases v <;> rfl

/-- Operations one behind the other, as a condition. -/
def OQ (x : Cx) (n : Nat) (ops : Array Oper) : List Nat → List (Nat × Value) → World → (List (Nat × Value) → World → Prop) → Prop
  | [], e, H, K => K e H
  | i :: l, e, H, K =>
    match ops[i]? with
    | none => False
    | some o =>
      (∀ d, o.dst = some d → d < n) ∧
      if Region.wanted o (yieldE ops e) then
        match semR x.P o (evE e) H with
        | some (.value v, H1) => OQ x n ops l (putE e o.dst v) H1 K
        | some (.skip, H1) => OQ x n ops l (putE e o.dst undef) H1 K
        | some (.enter f args, H1) => FW x f args H1 fun v H2 => OQ x n ops l (putE e o.dst v) H2 K
        | some (.round g _ t as b, H1) => RW x g t as b H1 fun v H2 => OQ x n ops l (putE e o.dst v) H2 K
        | _ => False
      else OQ x n ops l (putE e o.dst undef) H K
theorem OQ.ow {x : Cx} {n : Nat} {ops : Array Oper} {K : List (Nat × Value) → World → Prop} {Q : Act → World → Prop} {ds : List Deferred} (hQ : ∀ e a H, EnvOk n e a → a.defers = ds → K e H → Q a H) :
    ∀ (l : List Nat) (e : List (Nat × Value)) (a : Act) (H : World), EnvOk n e a → a.defers = ds → OQ x n ops l e H K → OW x ops l a H Q
  | [], e, a, H, he, hd, h => OW.nil (hQ e a H he hd h)
  | i :: l, e, a, H, he, hd, h => by
    unfold OQ at h
    cases ho : ops[i]? with
    | none => rw [ho] at h; exact h.elim
    | some o =>
      simp only [ho] at h
      obtain ⟨hdst, h⟩ := h
      have hput : ∀ v, (a.put o.dst v).defers = ds := fun v => by cases hds : o.dst <;> exact hd
      split at h
      · rename_i hw
        have hw' : Region.wanted o (Go.yielded ops a.tmps) = true := by rw [he.yielded]; exact hw
        cases hs : semR x.P o (evE e) H with
        | none => rw [hs] at h; exact h.elim
        | some p =>
          obtain ⟨nx, H1⟩ := p
          rw [hs] at h
          have hs' : semD x.P o a H = some (nx, H1) := by rw [semD_semR, he.eval]; exact hs
          cases nx with
          | value v =>
            obtain ⟨r, q, k0, hk⟩ := OQ.ow hQ l _ _ H1 (he.put o.dst hdst v) (hput v) h
            refine ⟨r, q, k0, fun k hkk => ?_⟩
            show opsD x.P (x.E k) ops (i :: l) a H = _
            unfold opsD
            simp only [ho, hw', if_true, opD, hs']
            exact hk k hkk
          | skip =>
            obtain ⟨r, q, k0, hk⟩ := OQ.ow hQ l _ _ H1 (he.put o.dst hdst undef) (hput _) h
            refine ⟨r, q, k0, fun k hkk => ?_⟩
            show opsD x.P (x.E k) ops (i :: l) a H = _
            unfold opsD
            simp only [ho, hw', if_true, opD, hs']
            exact hk k hkk
          | enter f args =>
            obtain ⟨⟨v, H2⟩, h2, k1, hk1⟩ := h
            obtain ⟨r, q, k0, hk⟩ := OQ.ow hQ l _ _ H2 (he.put o.dst hdst v) (hput v) h2
            refine ⟨r, q, max k0 k1, fun k hkk => ?_⟩
            show opsD x.P (x.E k) ops (i :: l) a H = _
            unfold opsD
            have h1 : (x.E k).fn f args H1 = some (v, H2) := hk1 k (by omega)
            simp only [ho, hw', if_true, opD, hs', h1, Option.map_some]
            exact hk k (by omega)
          | round g f t as b =>
            obtain ⟨⟨v, H2⟩, h2, k1, hk1⟩ := h
            obtain ⟨r, q, k0, hk⟩ := OQ.ow hQ l _ _ H2 (he.put o.dst hdst v) (hput v) h2
            refine ⟨r, q, max k0 k1, fun k hkk => ?_⟩
            show opsD x.P (x.E k) ops (i :: l) a H = _
            unfold opsD
            have h1 : (x.E k).round g t as b H1 = some (v, H2) := hk1 k (by omega)
            simp only [ho, hw', if_true, opD, hs', h1, Option.map_some]
            exact hk k (by omega)
          | _ => exact h.elim
      · rename_i hw
        have hw' : ¬ Region.wanted o (Go.yielded ops a.tmps) = true := by rw [he.yielded]; exact hw
        obtain ⟨r, q, k0, hk⟩ := OQ.ow hQ l _ _ H (he.put o.dst hdst undef) (hput _) h
        refine ⟨r, q, k0, fun k hkk => ?_⟩
        show opsD x.P (x.E k) ops (i :: l) a H = _
        unfold opsD
        simp only [ho]
        rw [if_neg hw']
        exact hk k hkk
end Go.Proofs.YtmmmdmandocbhaaDoor.Den
end

section
/- Code over environments. -/
set_option linter.unusedVariables false
set_option linter.unusedSimpArgs false
namespace Go.Proofs.YtmmmdmandocbhaaDoor.Den
abbrev Env := List (Nat × Value)

def CE (x : Cx) (ro : Option Nat) (n : Nat) (c : Code) (e : Env) (ds : List Deferred) (H : World) (Q : Exit → Env → List Deferred → World → Prop) : Prop :=
  ∀ a, EnvOk n e a → a.defers = ds → CW x ro c a H fun ex a1 H1 => ∃ e1, EnvOk n e1 a1 ∧ Q ex e1 a1.defers H1
def thenE (K : Env → List Deferred → World → Prop) (Q : Exit → Env → List Deferred → World → Prop) : Exit → Env → List Deferred → World → Prop
  | .normal, e, ds, H => K e ds H
  | ex, e, ds, H => Q ex e ds H
def blockE (id : Nat) (Q : Exit → Env → List Deferred → World → Prop) : Exit → Env → List Deferred → World → Prop
  | .exit id', e, ds, H => if id' = id then Q .normal e ds H else Q (.exit id') e ds H
  | ex, e, ds, H => Q ex e ds H

section
variable {x : Cx} {ro : Option Nat} {n : Nat} {e : Env} {ds : List Deferred} {H : World} {Q : Exit → Env → List Deferred → World → Prop}
theorem CE.imp {c : Code} {Q' : Exit → Env → List Deferred → World → Prop} (h : CE x ro n c e ds H Q) (hq : ∀ ex e ds H, Q ex e ds H → Q' ex e ds H) : CE x ro n c e ds H Q' :=
  fun a he hd => (h a he hd).imp fun ex a1 H1 ⟨e1, h1, q⟩ => ⟨e1, h1, hq _ _ _ _ q⟩
theorem CE.skip (h : Q .normal e ds H) : CE x ro n .skip e ds H Q := fun a he hd => CW.skip ⟨e, he, hd ▸ h⟩
theorem CE.label {l : Nat} (h : Q .normal e ds H) : CE x ro n (.label l) e ds H Q := fun a he hd => CW.label ⟨e, he, hd ▸ h⟩
theorem CE.ret (h : Q .ret e ds H) : CE x ro n .ret e ds H Q := fun a he hd => CW.ret ⟨e, he, hd ▸ h⟩
theorem CE.exit {id : Nat} (h : Q (.exit id) e ds H) : CE x ro n (.exit id) e ds H Q := fun a he hd => CW.exit ⟨e, he, hd ▸ h⟩
theorem CE.seq {c d : Code} (h : CE x ro n c e ds H (thenE (fun e1 ds1 H1 => CE x ro n d e1 ds1 H1 Q) Q)) : CE x ro n (.seq c d) e ds H Q := fun a he hd =>
  CW.seq ((h a he hd).imp fun ex a1 H1 ⟨e1, h1, q⟩ => by
    cases ex with
    | normal => exact q a1 h1 rfl
    | _ => exact ⟨e1, h1, q⟩)
theorem CE.cond {c : Operand} {d d' : Code} {t : Bool} (hc : evE e c = .bool t) (h : CE x ro n (if t then d else d') e ds H Q) : CE x ro n (.cond c d d') e ds H Q := fun a he hd =>
  CW.cond (by rw [he.eval]; exact hc) (h a he hd)
theorem CE.test {c : Operand} {d d' : Code} {p : Prop} [Decidable p] (hc : evE e c = .bool (decide p)) (h1 : p → CE x ro n d e ds H Q) (h2 : ¬ p → CE x ro n d' e ds H Q) : CE x ro n (.cond c d d') e ds H Q := by
  refine CE.cond hc ?_
  by_cases hp : p
  · simp only [hp, decide_true, if_true]; exact h1 hp
  · simp only [hp, decide_false, Bool.false_eq_true, if_false]; exact h2 hp
theorem CE.block {id : Nat} {c : Code} (h : CE x ro n c e ds H (blockE id Q)) : CE x ro n (.block id c) e ds H Q := fun a he hd =>
  CW.block ((h a he hd).imp fun ex a1 H1 ⟨e1, h1, q⟩ => by
    cases ex with
    | exit id' =>
      simp only [Exit.inBlock]
      simp only [blockE] at q
      split
      · rename_i hid; rw [if_pos hid] at q; exact ⟨e1, h1, q⟩
      · rename_i hid; rw [if_neg hid] at q; exact ⟨e1, h1, q⟩
    | _ => exact ⟨e1, h1, q⟩)
theorem CE.loop {c : Code} (h : CE x ro n c e ds H (thenE (fun e1 ds1 H1 => CE x ro n (.loop c) e1 ds1 H1 Q) Q)) : CE x ro n (.loop c) e ds H Q := fun a he hd =>
  CW.loop ((h a he hd).imp fun ex a1 H1 ⟨e1, h1, q⟩ => by
    cases ex with
    | normal => exact q a1 h1 rfl
    | _ => exact ⟨e1, h1, q⟩)
theorem CE.region {id : Nat} {ops : Array Oper} (h : OQ x n ops (List.range ops.size) e H fun e1 H1 => Q .normal e1 ds H1) : CE x ro n (.region id ops false) e ds H Q := fun a he hd =>
  CW.region (OQ.ow (ds := ds) (fun e1 a1 H1 h1 hd1 q => ⟨e1, h1, hd1 ▸ q⟩) _ e a H he hd h)
/-- A region that draws, where nothing that floats can see what moves. -/
theorem opsD_trace {P : Program} {E : Evs} {ops : Array Oper} : ∀ (l : List Nat) (a : Act) (H : World) (r : Act × World), opsD P E ops l a H = some r → ∃ tr, traceD P E ops l a H = some tr ∧ tr[l.length]? = some r
  | [], a, H, r, h => by cases h; exact ⟨[(a, H)], rfl, rfl⟩
  | i :: l, a, H, r, h => by
    unfold opsD at h
    unfold traceD stepD
    cases ho : ops[i]? with
    | none => rw [ho] at h; cases h
    | some o =>
      simp only [ho] at h ⊢
      split at h
      · rename_i hw
        simp only [hw, if_true]
        cases hop : opD P E o a H with
        | none => rw [hop] at h; cases h
        | some p =>
          obtain ⟨a1, H1⟩ := p
          rw [hop] at h
          obtain ⟨tr, h1, h2⟩ := opsD_trace l a1 H1 r h
          simp only [h1, Option.map_some]
          exact ⟨_, rfl, by simpa using h2⟩
      · rename_i hw
        rw [if_neg hw]
        obtain ⟨tr, h1, h2⟩ := opsD_trace l _ H r h
        simp only [h1, Option.map_some]
        exact ⟨_, rfl, by simpa using h2⟩
theorem CE.draw {id : Nat} {ops : Array Oper} (hs : drawStatic x.P ops = true) (hr : rePairs x.P ops = []) (h : OQ x n ops (List.range ops.size) e H fun e1 H1 => Q .normal e1 ds H1) : CE x ro n (.region id ops true) e ds H Q := fun a he hd => by
  obtain ⟨⟨a1, H1⟩, q, k0, hk⟩ := OQ.ow (Q := fun a1 H1 => ∃ e1, EnvOk n e1 a1 ∧ Q .normal e1 a1.defers H1) (ds := ds) (fun e1 a1 H1 h1 hd1 q => ⟨e1, h1, hd1 ▸ q⟩) _ e a H he hd h
  refine ⟨(.normal, a1, H1), q, k0, fun k hkk => ?_⟩
  obtain ⟨tr, h1, h2⟩ := opsD_trace _ _ _ _ (hk k hkk)
  show codeD drawD x.P (x.E k) ro (.region id ops true) a H = _
  unfold codeD
  simp only [if_true, drawD, drawS, h1, hs, hr, List.all_nil, Bool.and_self]
  rw [List.length_range] at h2
  rw [h2]; rfl
/-- The checks of a region that makes rows. -/
def NOk (P : Program) (H : World) (ops : Array Oper) (e1 : List (Nat × Value)) : Prop := ∀ (i : Nat) (o : Oper), ops[i]? = some o → Region.wanted o (yieldE ops e1) = true → newOkV P H o (evE e1) = true
theorem CE.newQ {id : Nat} {ops : Array Oper} (hd : drawStatic x.P ops = false) (hs : newStatic ops = true) (h : OQ x n ops (List.range ops.size) e H fun e1 H1 => NOk x.P H ops e1 ∧ Q .normal e1 ds (deadN (H1.heap.size - H.heap.size) H1)) : CE x ro n (.region id ops true) e ds H Q := fun a he hdd => by
  obtain ⟨⟨a1, H1⟩, ⟨e1, q1, q2, q3⟩, k0, hk⟩ := OQ.ow (Q := fun a1 H1 => ∃ e1, EnvOk n e1 a1 ∧ NOk x.P H ops e1 ∧ Q .normal e1 a1.defers (deadN (H1.heap.size - H.heap.size) H1)) (ds := ds) (fun e1 a1 H1 h1 hd1 q => ⟨e1, h1, q.1, hd1 ▸ q.2⟩) _ e a H he hdd h
  refine ⟨(.normal, a1, deadN (H1.heap.size - H.heap.size) H1), ⟨e1, q1, q3⟩, k0, fun k hkk => ?_⟩
  obtain ⟨tr, h1, h2⟩ := opsD_trace _ _ _ _ (hk k hkk)
  show codeD drawD x.P (x.E k) ro (.region id ops true) a H = _
  unfold codeD
  rw [List.length_range] at h2
  have hok : newChk x.P H ops a1 = true := by
    unfold newChk
    rw [List.all_eq_true]
    intro i hi
    cases ho : ops[i]? with
    | none => rfl
    | some o =>
      simp only
      cases hw : Region.wanted o (Go.yielded ops a1.tmps) with
      | false => rfl
      | true =>
        rw [q1.yielded] at hw
        have := q2 i o ho hw
        unfold newOk
        rw [q1.eval, this]; rfl
  simp only [if_true, drawD, newD, h1, hd, hs, h2, hok, Bool.false_eq_true, if_false, Option.map_some]
end

/-! ### functions -/
def resultsE (fn : Func) (e : Env) : Sem Value := do
  let vs ← fn.results.mapM fun
    | .tmp t => pure (lk e t)
    | .cell a t => do loadVar t (← asAddr (lk e a))
  pure (if h : vs.size = 1 then vs[0] else .tuple vs)
theorem EnvOk.results {n : Nat} {e : Env} {a : Act} (h : EnvOk n e a) (fn : Func) : results fn a.tmps = resultsE fn e := by
  unfold Go.results resultsE
  congr 2
  funext r
  cases r with
  | tmp t => simp only; rw [h.get]
  | cell p t => simp only; rw [h.get]
def envOf : Nat → List Value → Env
  | _, [] => []
  | i, v :: vs => (i, v) :: envOf (i + 1) vs
theorem lk_envOf : ∀ (vs : List Value) (i t : Nat), lk (envOf i vs) t = if i ≤ t then (vs[t - i]?).getD undef else undef
  | [], i, t => by simp [envOf, lk]
  | v :: vs, i, t => by
    simp only [envOf, lk_cons, lk_envOf vs]
    by_cases h : t = i
    · subst h; simp
    · rw [if_neg h]
      by_cases h2 : i ≤ t
      · rw [if_pos h2, if_pos (by omega)]
        obtain ⟨d, hd⟩ : ∃ d, t - i = d + 1 := ⟨t - i - 1, by omega⟩
        rw [hd, show t - (i + 1) = d by omega]; simp
      · rw [if_neg h2, if_neg (by omega)]
theorem envOk_start (args : Array Value) (n : Nat) (h : args.size ≤ n) : EnvOk n (envOf 0 args.toList) { tmps := args ++ Array.replicate (n - args.size) undef, defers := [] } := by
  refine ⟨by simp; omega, fun t => ?_⟩
  rw [lk_envOf, if_pos (Nat.zero_le _), Nat.sub_zero, Array.getElem?_toList, Array.getD_eq_getD_getElem?, Array.getElem?_append]
  split
  · rfl
  · rename_i ht
    rw [Array.getElem?_replicate, Array.getElem?_eq_none (xs := args) (by omega)]
    split <;> rfl
def endE (x : Cx) (fn : Func) (Q : Value → World → Prop) : Exit → Env → List Deferred → World → Prop
  | .normal, e, ds, H | .ret, e, ds, H => ∃ H2 v H3, leaveD ds H = some H2 ∧ okRun ((resultsE fn e).run x.P H2) = some (v, H3) ∧ Q v H3
  | _, _, _, _ => False
theorem endE_end {x : Cx} {fn : Func} {Q : Value → World → Prop} {n : Nat} {ex : Exit} {e : Env} {a : Act} {H : World} (he : EnvOk n e a) (h : endE x fn Q ex e a.defers H) : endW x fn Q ex a H := by
  cases ex with
  | normal => obtain ⟨H2, v, H3, h1, h2, h3⟩ := h; exact ⟨H2, v, H3, h1, by rw [he.results]; exact h2, h3⟩
  | ret => obtain ⟨H2, v, H3, h1, h2, h3⟩ := h; exact ⟨H2, v, H3, h1, by rw [he.results]; exact h2, h3⟩
  | _ => exact h
theorem FW.ofE {x : Cx} {f : FuncId} {fn : Func} {c : Code} {args : Array Value} {H : World} {Q : Value → World → Prop} {n : Nat} (ha : x.plain f = true) (hf : x.P.funcs[f]? = some fn) (hn : fn.ntmps = n) (hb : fn.body = some c) (hs : args.size ≤ n)
    (h : CE x none n c (envOf 0 args.toList) [] H (endE x fn Q)) : FW x f args H Q := by
  refine FW.of ha hf hb ?_
  rw [hn]
  exact (h _ (envOk_start args n hs) rfl).imp fun ex a1 H1 ⟨e1, h1, q⟩ => endE_end h1 q
theorem FW.aloneE {x : Cx} {f : FuncId} {fn : Func} {c : Code} {args : Array Value} {H : World} {Q : Value → World → Prop} {n : Nat} (ha : (x.al f && args.all (plain deep)) = true) (hf : x.P.funcs[f]? = some fn) (hn : fn.ntmps = n) (hb : fn.body = some c) (hs : args.size ≤ n)
    (h : CE x none n c (envOf 0 args.toList) [] World0 (endE x fn fun v0 H0 => ∃ v, strip deep x.P H0 v0 = some v ∧ Q v H)) : FW x f args H Q := by
  refine FW.alone ha hf hb ?_
  rw [hn]
  exact (h _ (envOk_start args n hs) rfl).imp fun ex a1 H1 ⟨e1, h1, q⟩ => endE_end h1 q
end Go.Proofs.YtmmmdmandocbhaaDoor.Den
end

section
/- What single operations come to. -/
set_option linter.unusedVariables false
set_option linter.unusedSimpArgs false
namespace Go.Proofs.YtmmmdmandocbhaaDoor.Den
variable {P : Program} {ρ : Operand → Value} {H : World}

theorem binV_int {op : BinOp} {t : TypeId} {x y : Operand} {k l : IntKind} {n m : Int} {v : Value} (h : okRun ((Go.binOp op t (.int k n) (.int l m)).run P H) = some (v, H)) (hv : flat1 v = true) :
    binV P op t x y (.int k n) (.int l m) H = some (.value v, H) := by
  have hg : ∀ w, (Go.eqGuard op t x y (.int k n) (.int l m)).run P w = .ok () w := by
    intro w; unfold Go.eqGuard; split <;> simp
  unfold binV
  have h1 : flatFor op (.int k n) = true := by unfold flatFor; split <;> rfl
  have h2 : flatFor op (.int l m) = true := by unfold flatFor; split <;> rfl
  simp only [h1, h2, Bool.and_self, if_true, Sem.run_bind, hg, Result.andThen_ok, h, hv]
section
variable {t : TypeId} {x y : Operand} {k : IntKind} {n m : Int}
theorem binV_eql : binV P .eql t x y (.int k n) (.int k m) H = some (.value (.bool (n == m)), H) := binV_int (by simp [Go.binOp, Op.intCmp, okRun]) rfl
theorem binV_neq : binV P .neq t x y (.int k n) (.int k m) H = some (.value (.bool (n != m)), H) := binV_int (by simp [Go.binOp, Op.intCmp, okRun]) rfl
theorem binV_lss : binV P .lss t x y (.int k n) (.int k m) H = some (.value (.bool (decide (n < m))), H) := binV_int (by simp [Go.binOp, Op.intCmp, okRun]) rfl
theorem binV_leq : binV P .leq t x y (.int k n) (.int k m) H = some (.value (.bool (decide (n ≤ m))), H) := binV_int (by simp [Go.binOp, Op.intCmp, okRun]) rfl
theorem binV_gtr : binV P .gtr t x y (.int k n) (.int k m) H = some (.value (.bool (decide (m < n))), H) := binV_int (by simp [Go.binOp, Op.intCmp, okRun]) rfl
theorem binV_geq : binV P .geq t x y (.int k n) (.int k m) H = some (.value (.bool (decide (m ≤ n))), H) := binV_int (by simp [Go.binOp, Op.intCmp, okRun]) rfl
theorem binV_add : binV P .add t x y (.int k n) (.int k m) H = some (.value (.int k (k.wrap (n + m))), H) := binV_int (by simp [Go.binOp, Op.intArith, okRun]) rfl
theorem binV_sub : binV P .sub t x y (.int k n) (.int k m) H = some (.value (.int k (k.wrap (n - m))), H) := binV_int (by simp [Go.binOp, Op.intArith, okRun]) rfl
end

/-! ### a region over the list of its operations -/
def OL (x : Cx) (n : Nat) (ops : Array Oper) : List Oper → Env → World → (Env → World → Prop) → Prop
  | [], e, H, K => K e H
  | o :: l, e, H, K =>
    (match o.dst with | some d => decide (d < n) | none => true) = true ∧
      if Region.wanted o (yieldE ops e) then
        match semR x.P o (evE e) H with
        | some (.value v, H1) => OL x n ops l (putE e o.dst v) H1 K
        | some (.skip, H1) => OL x n ops l (putE e o.dst undef) H1 K
        | some (.enter f args, H1) => FW x f args H1 fun v H2 => OL x n ops l (putE e o.dst v) H2 K
        | some (.round g _ t as b, H1) => RW x g t as b H1 fun v H2 => OL x n ops l (putE e o.dst v) H2 K
        | _ => False
      else OL x n ops l (putE e o.dst undef) H K
theorem OQ.of_OL {x : Cx} {n : Nat} {ops : Array Oper} {K : Env → World → Prop} : ∀ (l : List Oper) (s : Nat) (e : Env) (H : World), ops.toList.drop s = l → OL x n ops l e H K → OQ x n ops (List.range' s l.length) e H K
  | [], s, e, H, hl, h => h
  | o :: l, s, e, H, hl, h => by
    have ho : ops[s]? = some o := by
      rw [← Array.getElem?_toList]
      have := List.getElem?_drop (xs := ops.toList) (i := s) (j := 0)
      rw [hl] at this
      simpa using this.symm
    have hl' : ops.toList.drop (s + 1) = l := by
      rw [← List.drop_drop, hl]; rfl
    simp only [List.length_cons, List.range'_succ]
    unfold OQ
    unfold OL at h
    rw [ho]
    obtain ⟨hd, h⟩ := h
    refine ⟨fun d he => by rw [he] at hd; simpa using hd, ?_⟩
    split
    · rename_i hw
      rw [if_pos hw] at h
      split at h
      · rename_i heq; try rw [heq]
        exact OQ.of_OL l (s + 1) _ _ hl' h
      · rename_i heq; try rw [heq]
        exact OQ.of_OL l (s + 1) _ _ hl' h
      · rename_i heq; try rw [heq]
        exact FW.imp h fun v H2 h2 => OQ.of_OL l (s + 1) _ _ hl' h2
      · rename_i heq; try rw [heq]
        exact Ev.imp h fun r h2 => OQ.of_OL l (s + 1) _ _ hl' h2
      · exact h.elim
    · rename_i hw
      rw [if_neg hw] at h
      exact OQ.of_OL l (s + 1) _ _ hl' h
theorem CE.reg {x : Cx} {ro : Option Nat} {n : Nat} {e : Env} {ds : List Deferred} {H : World} {Q : Exit → Env → List Deferred → World → Prop} {id : Nat} {ops : List Oper} (h : OL x n ops.toArray ops e H fun e1 H1 => Q .normal e1 ds H1) : CE x ro n (.region id ops.toArray false) e ds H Q := by
  refine CE.region ?_
  have := OQ.of_OL (ops := ops.toArray) ops 0 e H (by simp) h
  rwa [← List.range_eq_range'] at this

/-! ### simple operations -/
theorem ok_tmp (t : Nat) : operandOk (.tmp t) = true := by simp [operandOk, constOk, constOk1]
theorem ok_func (t : Nat) : operandOk (.func t) = true := by simp [operandOk, constOk, constOk1]
theorem ok_bool (b : Bool) : operandOk (.const (.bool b)) = true := by simp [operandOk, constOk, constOk1]
theorem ok_int (k : IntKind) (n : Int) : operandOk (.const (.int k n)) = true := by simp [operandOk, constOk, constOk1]
theorem ok_string (s : ByteArray) : operandOk (.const (.string s)) = true := by simp [operandOk, constOk, constOk1]
theorem ok_slice (n c : Nat) : operandOk (.const (.slice none n c)) = true := by simp [operandOk, constOk, constOk1]
theorem ok_ptr : operandOk (.const (.pointer none)) = true := by simp [operandOk, constOk, constOk1]
theorem ok_map : operandOk (.const (.map none)) = true := by simp [operandOk, constOk, constOk1]
theorem ok_nilFunc : operandOk (.const .nilFunc) = true := by simp [operandOk, constOk, constOk1]
theorem ok_nilIface : operandOk (.const .nilIface) = true := by simp [operandOk, constOk, constOk1]
theorem ok_agg (cs : Array Value) (h : cs.all constOk1 = true) : operandOk (.const (.agg cs)) = true := h
theorem ev_tmp (e : Env) (t : Nat) : evE e (.tmp t) = lk e t := by simp [evE]
theorem ev_const (e : Env) (v : Value) : evE e (.const v) = v := by simp [evE]
theorem ev_func (e : Env) (f : Nat) : evE e (.func f) = .func (.func f) #[] #[] := by simp [evE]

end Go.Proofs.YtmmmdmandocbhaaDoor.Den
end

section
/- The opening: what came in, as values without addresses. -/
set_option linter.unusedVariables false
set_option linter.unusedSimpArgs false
namespace Go.Proofs.YtmmmdmandocbhaaDoor.Den
variable {P : Program} {H : Type} {enc : TypeId × Value → H}

def okFs (f : TypeId → Bool) (P : Program) : Nat → List Field → Nat → Bool
  | acc, [], n => acc == n
  | acc, fl :: fs, n => fl.offset == acc && f fl.type && okFs f P (acc + P.cellsOf fl.type) fs n
/-- The types of what can come in. -/
def okTy (P : Program) : Nat → TypeId → Bool
  | 0, _ => false
  | d + 1, t => match P.underlying t with
    | some .bool => true
    | some (.int _) => true
    | some .string => true
    | some (.slice e) => (match P.underlying e with
      | some _ => decide (0 < P.cellsOf e ∧ 0 < P.bytesOf e) && okTy P d e
      | none => false)
    | some (.struct fs) => okFs (okTy P d) P 0 fs.toList (P.cellsOf t)
    | _ => false
def TyF (T : TypeId → List Value → Prop) : List Field → List Value → Prop
  | [], cs => cs = []
  | fl :: fs, cs => ∃ a b, cs = a ++ b ∧ T fl.type a ∧ TyF T fs b
def elemOf (ag : Bool) (c : List Value) : Value := if ag then .agg c.toArray else c.headD undef
def aggU (P : Program) (t : TypeId) : Bool := (P.underlying t).elim false aggT
/-- What such cells look like. -/
def TyC (B : Nat) (P : Program) : Nat → TypeId → List Value → Prop
  | 0, _, _ => False
  | d + 1, t, cs => match P.underlying t with
    | some .bool => ∃ b, cs = [.bool b]
    | some (.int k) => ∃ n, cs = [.int k n] ∧ (Lit.int k n).wf = true
    | some .string => ∃ s, cs = [.string s] ∧ s.size ≤ B
    | some (.slice e) => cs = [.slice none 0 0] ∨ ∃ l : List (List Value), cs = [vs (P.cellsOf e) (l.map (elemOf (aggU P e))).toArray] ∧ l.length ≤ B ∧ ∀ c ∈ l, TyC B P d e c
    | some (.struct fs) => TyF (TyC B P d) fs.toList cs
    | _ => False

theorem mapM_some {α β : Type} {f : α → Option β} : ∀ (l : List α) (r : List β), l.mapM f = some r → r.length = l.length ∧ ∀ (k : Nat) (x : α), l[k]? = some x → ∃ y, f x = some y ∧ r[k]? = some y
  | [], r, h => by
    simp at h; subst h
    exact ⟨rfl, fun k x hx => by simp at hx⟩
  | a :: l, r, h => by
    simp only [List.mapM_cons, Option.bind_eq_bind, Option.bind_eq_some_iff, Option.pure_def, Option.some.injEq] at h
    obtain ⟨b, hb, r0, hr, rfl⟩ := h
    obtain ⟨h1, h2⟩ := mapM_some l r0 hr
    refine ⟨by simp [h1], fun k x hx => ?_⟩
    cases k with
    | zero => simp at hx; subst hx; exact ⟨b, hb, rfl⟩
    | succ k => obtain ⟨y, hy, hy2⟩ := h2 k x (by simpa using hx); exact ⟨y, hy, by simpa using hy2⟩
theorem cells_some {w : World} {a : Addr} {n : Nat} {l : List Value} (h : w.cells? 0 a n = some l) : l.length = n ∧ ∀ j, j < n → w.cell? (a.add j) = l[j]? := by
  unfold World.cells? at h
  rw [if_pos (Nat.zero_le _)] at h
  obtain ⟨h1, h2⟩ := mapM_some _ _ h
  refine ⟨by simpa using h1, fun j hj => ?_⟩
  obtain ⟨y, hy, hy2⟩ := h2 j j (by simp [hj])
  rw [hy, hy2]

/-- Cells that came in. -/
def CellsIn (B : Nat) (P : Program) (w : World) (d : Nat) (t : TypeId) (cs lcs : List Value) : Prop :=
  TyC B P d t lcs ∧ lcs.length = cs.length ∧ ∀ (k : Nat) (v v' : Value), lcs[k]? = some v → cs[k]? = some v' → VRel (pins w) v v'
theorem CellsIn.one {B : Nat} {w : World} {d : Nat} {t : TypeId} {v v' : Value} (h : TyC B P d t [v]) (hr : VRel (pins w) v v') : CellsIn B P w d t [v'] [v] := by
  refine ⟨h, rfl, fun k x x' hx hx' => ?_⟩
  cases k with
  | zero => simp at hx hx'; subst hx hx'; exact hr
  | succ k => simp at hx

theorem elem_single {B d : Nat} {t : TypeId} {c : List Value} (h : TyC B P d t c) (ha : aggU P t = false) : ∃ v, c = [v] ∧ notAgg v = true := by
  cases d with
  | zero => exact h.elim
  | succ d =>
    unfold TyC at h
    unfold aggU at ha
    split at h
    · obtain ⟨b, rfl⟩ := h; exact ⟨_, rfl, rfl⟩
    · obtain ⟨b, rfl, _⟩ := h; exact ⟨_, rfl, rfl⟩
    · obtain ⟨b, rfl, _⟩ := h; exact ⟨_, rfl, rfl⟩
    · rcases h with rfl | ⟨l, rfl, _⟩
      · exact ⟨_, rfl, rfl⟩
      · exact ⟨_, rfl, rfl⟩
    · rename_i fs hu
      rw [hu] at ha; cases ha
    · exact h.elim
theorem elem_cells {B d : Nat} {t : TypeId} {c : List Value} (h : TyC B P d t c) : (elemOf (aggU P t) c).cells = c.toArray := by
  unfold elemOf
  cases ha : aggU P t with
  | true => rfl
  | false =>
    obtain ⟨v, rfl, hv⟩ := elem_single h ha
    simp only [Bool.false_eq_true, if_false, List.headD_cons]
    rw [notAgg_cells hv]

theorem start_slice {B : Nat} {w : World} {d : Nat} {t e : TypeId} {a : Addr} {len cap : Nat} (hu : P.underlying t = some (.slice e)) (hp : 0 < P.cellsOf e) (hl : len ≤ cap) (hcap : len ≤ B)
    (h : ∀ i, i < len → ∃ l, w.cells? 0 (a.add (i * P.cellsOf e)) (P.cellsOf e) = some l ∧ ∃ lcs, CellsIn B P w d e l lcs) : ∃ lcs, CellsIn B P w (d + 1) t [.slice (some a) len cap] lcs := by
  by_cases hn : len = 0
  · subst hn
    refine ⟨[vs (P.cellsOf e) #[]], .one ?_ (.vsE _ _ _)⟩
    unfold TyC; rw [hu]
    exact .inr ⟨[], rfl, Nat.zero_le _, fun c hc => by simp at hc⟩
  · have hsp : a.spot = none := by
      obtain ⟨l, hc, _⟩ := h 0 (by omega)
      obtain ⟨hn2, hc⟩ := cells_some hc
      have := hc 0 hp
      rw [Nat.zero_mul] at this
      have hl0 : 0 < l.length := by omega
      rw [List.getElem?_eq_getElem hl0] at this
      exact World.cell?_spot (by simpa [Addr.add] using this)
    obtain ⟨b, off, spot⟩ := a
    simp only at hsp
    subst hsp
    have h' : ∀ i, ∃ lcs : List Value, i < len → TyC B P d e lcs ∧ lcs.length = P.cellsOf e ∧ ∀ (j : Nat) (v v' : Value), lcs[j]? = some v → w.cell? ⟨b, off + i * P.cellsOf e + j, none⟩ = some v' → VRel (pins w) v v' := by
      intro i
      by_cases hi : i < len
      · obtain ⟨l, hc, lcs, h1, h2, h3⟩ := h i hi
        obtain ⟨hn2, hc⟩ := cells_some hc
        refine ⟨lcs, fun _ => ⟨h1, by omega, fun j v v' hv hv' => h3 j v v' hv ?_⟩⟩
        have hj := (List.getElem?_eq_some_iff.1 hv).1
        rw [← hc j (by omega), add_plain, add_plain]
        exact hv'
      · exact ⟨[], fun h => absurd h hi⟩
    have hcell : ∀ i j, i < len → j < P.cellsOf e → ∃ v', w.cell? ⟨b, off + i * P.cellsOf e + j, none⟩ = some v' := by
      intro i j hi hj
      obtain ⟨l, hc, lcs, h1, h2, h3⟩ := h i hi
      obtain ⟨hn2, hc⟩ := cells_some hc
      have := hc j hj
      rw [add_plain, add_plain] at this
      exact ⟨l[j]'(by omega), by rw [this]; exact List.getElem?_eq_getElem _⟩
    let C : Nat → List Value := fun i => Classical.choose (h' i)
    have hC : ∀ i, i < len → _ := fun i => Classical.choose_spec (h' i)
    obtain ⟨v0, hv0⟩ := hcell 0 0 (by omega) hp
    obtain ⟨cs', e', fr, hrow, _⟩ := cell_some hv0
    have hfz : (pins w).fz b = some cs' := by simp only [pins, cellsAt, hrow]
    have hlast : off + len * P.cellsOf e ≤ cs'.size := by
      obtain ⟨v1, hv1⟩ := hcell (len - 1) (P.cellsOf e - 1) (by omega) (by omega)
      rw [cell_of hrow] at hv1
      have := (Array.getElem?_eq_some_iff.1 hv1).1
      have h3 : len * P.cellsOf e = (len - 1) * P.cellsOf e + P.cellsOf e := by
        rw [← Nat.succ_mul]; congr 1; omega
      omega
    refine ⟨[vs (P.cellsOf e) (((List.range len).map C).map (elemOf (aggU P e))).toArray], .one ?_ ?_⟩
    · unfold TyC; rw [hu]
      refine .inr ⟨(List.range len).map C, rfl, by simp; omega, fun c hc => ?_⟩
      simp only [List.mem_map, List.mem_range] at hc
      obtain ⟨i, hi, rfl⟩ := hc
      exact (hC i hi).1
    · have := VRel.vs (ι := pins w) (P.cellsOf e) (((List.range len).map C).map (elemOf (aggU P e))).toArray b off cap cs' hfz (by simp; exact hl) (fun k x hx => ?_) (by simpa using hlast) fun k j x y y' hx hy hy' => ?_
      · simpa [vs] using this
      · simp only [List.getElem?_toArray, List.getElem?_map, Option.map_eq_some_iff] at hx
        obtain ⟨_, ⟨i, hi, rfl⟩, rfl⟩ := hx
        obtain ⟨hi1, hi2⟩ := List.getElem?_eq_some_iff.1 hi
        simp at hi1 hi2; subst hi2
        obtain ⟨h1, h2, h3⟩ := hC _ hi1
        rw [elem_cells h1]
        simpa using h2
      · simp only [List.getElem?_toArray, List.getElem?_map, Option.map_eq_some_iff] at hx
        obtain ⟨_, ⟨i, hi, rfl⟩, rfl⟩ := hx
        obtain ⟨hi1, hi2⟩ := List.getElem?_eq_some_iff.1 hi
        simp at hi1 hi2; subst hi2
        obtain ⟨h1, h2, h3⟩ := hC _ hi1
        rw [elem_cells h1] at hy
        exact h3 j y y' (by simpa using hy) (by rw [cell_of hrow]; exact hy')
theorem okFs_mem {f : TypeId → Bool} {n : Nat} : ∀ (fs : List Field) (acc : Nat), okFs f P acc fs n = true → ∀ fl ∈ fs, f fl.type = true
  | [], acc, h, fl, hfl => by cases hfl
  | g :: fs, acc, h, fl, hfl => by
    simp only [okFs, Bool.and_eq_true] at h
    rcases List.mem_cons.1 hfl with rfl | hfl
    · exact h.1.2
    · exact okFs_mem fs _ h.2 fl hfl
theorem okFs_le {f : TypeId → Bool} {n : Nat} : ∀ (fs : List Field) (acc : Nat), okFs f P acc fs n = true → acc ≤ n ∧ ∀ fl ∈ fs, acc ≤ fl.offset ∧ fl.offset + P.cellsOf fl.type ≤ n
  | [], acc, h => by
    simp [okFs] at h; subst h
    exact ⟨Nat.le_refl _, fun fl hfl => by cases hfl⟩
  | g :: fs, acc, h => by
    simp only [okFs, Bool.and_eq_true, beq_iff_eq] at h
    obtain ⟨h1, h2⟩ := okFs_le fs _ h.2
    refine ⟨by omega, fun fl hfl => ?_⟩
    rcases List.mem_cons.1 hfl with rfl | hfl
    · omega
    · have := h2 fl hfl; omega
theorem start_fields {B : Nat} {w : World} {d n : Nat} : ∀ (fs : List Field) (acc : Nat) (cs : List Value), acc + cs.length = n → okFs (okTy P d) P acc fs n = true →
    (∀ fl ∈ fs, ∃ lcs, CellsIn B P w d fl.type ((cs.drop (fl.offset - acc)).take (P.cellsOf fl.type)) lcs) →
    ∃ lcs, TyF (TyC B P d) fs lcs ∧ lcs.length = cs.length ∧ ∀ (k : Nat) (v v' : Value), lcs[k]? = some v → cs[k]? = some v' → VRel (pins w) v v'
  | [], acc, cs, hn, hok, h => by
    simp [okFs] at hok
    have : cs = [] := List.length_eq_zero_iff.1 (by omega)
    subst this
    exact ⟨[], rfl, rfl, fun k v v' hv => by simp at hv⟩
  | fl :: fs, acc, cs, hn, hok, h => by
    simp only [okFs, Bool.and_eq_true, beq_iff_eq] at hok
    obtain ⟨⟨hoff, hf⟩, hrest⟩ := hok
    obtain ⟨a, ha1, ha2, ha3⟩ := h fl List.mem_cons_self
    rw [hoff, Nat.sub_self, List.drop_zero] at ha2 ha3
    obtain ⟨hle, hall⟩ := okFs_le fs _ hrest
    have hsz : (cs.take (P.cellsOf fl.type)).length = P.cellsOf fl.type := by rw [List.length_take]; omega
    obtain ⟨b, hb1, hb2, hb3⟩ := start_fields fs (acc + P.cellsOf fl.type) (cs.drop (P.cellsOf fl.type)) (by rw [List.length_drop]; omega) hrest fun g hg => by
      obtain ⟨lcs, hl⟩ := h g (List.mem_cons_of_mem _ hg)
      refine ⟨lcs, ?_⟩
      have := hall g hg
      rw [List.drop_drop, show P.cellsOf fl.type + (g.offset - (acc + P.cellsOf fl.type)) = g.offset - acc by omega]
      exact hl
    refine ⟨a ++ b, ⟨a, b, rfl, ha1, hb1⟩, by rw [List.length_append, ha2, hb2, hsz, List.length_drop]; omega, fun k v v' hv hv' => ?_⟩
    rw [List.getElem?_append] at hv
    split at hv
    · rename_i hk
      refine ha3 k v v' hv ?_
      rw [List.getElem?_take, if_pos (by omega)]; exact hv'
    · rename_i hk
      refine hb3 _ v v' hv ?_
      rw [List.getElem?_drop, ← hv']; congr 1; omega
theorem weightsAll_mem {l : List (DataW H)} {e : TypeId} {y : DataW H} (hy : y ∈ l) {n : Nat} (hn : n ∈ y.weights P e) : n ∈ DataW.weightsAll P e l := by
  induction l with
  | nil => cases hy
  | cons z l ih =>
    unfold DataW.weightsAll
    rcases List.mem_cons.1 hy with rfl | hy
    · exact List.mem_append_left _ hn
    · exact List.mem_append_right _ (ih hy)
theorem mapM_mem {α β : Type} {f : α → Option β} {l : List α} {r : List β} (h : l.mapM f = some r) {k : Nat} {x : α} (hk : l[k]? = some x) : ∃ y, f x = some y ∧ r[k]? = some y := (mapM_some l r h).2 k x hk
theorem start_cells {B : Nat} {w : World} {spare : Nat → Bool} {held : Bool} : ∀ (d fuel : Nat) (t : TypeId) (cs : List Value) (x : DataW H × List MemPlace), okTy P d t = true → DataW.trod enc P w 0 spare held fuel t cs = some x → (B = maxLen ∨ ∀ n ∈ x.1.weights P t, n ≤ B) → ∃ lcs, CellsIn B P w d t cs lcs
  | 0, _, _, _, _, h, _, _ => by cases h
  | _ + 1, 0, _, _, _, _, h, _ => by cases h
  | d + 1, fuel + 1, t, cs, x, hok, h, hB => by
    unfold okTy at hok
    unfold DataW.trod at h
    split at hok
    · rename_i hu
      rw [hu] at h
      split at h <;> first | (rename_i heq; cases heq; done) | cases h | skip
      all_goals first | (rename_i hc _; skip) | skip
      all_goals try (cases ‹some TypeDesc.bool = _›)
      all_goals first | exact ⟨[_], .one (by simp only [TyC, hu]; exact ⟨_, rfl⟩) (.bool _)⟩ | skip
    · rename_i k hu
      rw [hu] at h
      split at h
      all_goals try (cases ‹some (TypeDesc.int k) = _›)
      all_goals first | cases h | skip
      all_goals try (replace h := of_if' h; obtain ⟨⟨hk, hwf⟩, h⟩ := h; subst hk)
      all_goals first | exact ⟨[_], .one (by simp only [TyC, hu]; exact ⟨_, rfl, hwf⟩) (.int _ _)⟩ | skip
    · rename_i hu
      rw [hu] at h
      split at h
      all_goals try (cases ‹some TypeDesc.string = _›)
      all_goals first | cases h | skip
      all_goals try (replace h := of_if' h; obtain ⟨hk, h⟩ := h)
      all_goals try (injection h with h; subst h)
      all_goals first | exact ⟨[_], .one (by simp only [TyC, hu]; exact ⟨_, rfl, by
        rcases hB with rfl | hB
        · exact hk
        · exact hB _ (by simp only [DataW.weights]; exact List.mem_singleton.2 rfl)⟩) (.string _)⟩ | skip
    · rename_i e hu
      rw [hu] at h
      split at h
      all_goals try (cases ‹some (TypeDesc.slice e) = _›)
      all_goals first | cases h | skip
      · exact ⟨[_], .one (by unfold TyC; rw [hu]; exact .inl rfl) (.slNil _ _)⟩
      · rename_i a len cap
        replace h := of_if' h
        obtain ⟨⟨_, hlen, hcap⟩, h⟩ := h
        simp only [Option.bind_eq_some_iff] at h
        obtain ⟨elems, hel, h⟩ := h
        simp only [Option.map_eq_some_iff] at h
        obtain ⟨rest, _, h⟩ := h
        subst h
        split at hok
        case h_2 => cases hok
        rename_i de hue
        simp only [Bool.and_eq_true, decide_eq_true_eq] at hok
        have hel2 := mapM_some _ _ hel
        have hll : len ≤ B := by
          rcases hB with rfl | hB
          · exact Nat.le_trans hlen hcap
          · have := hB ((elems.length + rest.length) * P.bytesOf e) (by simp [DataW.weights, hu])
            have h1 : elems.length = len := by simpa using hel2.1
            have h3 : elems.length ≤ (elems.length + rest.length) * P.bytesOf e := Nat.le_trans (Nat.le_add_right _ _) (Nat.le_mul_of_pos_right _ hok.1.2)
            omega
        refine start_slice hu hok.1.1 hlen hll fun i hi => ?_
        obtain ⟨y, hy, hyel⟩ := hel2.2 i i (by simp [hi])
        simp only [Option.bind_eq_some_iff] at hy
        obtain ⟨l, hl, hy⟩ := hy
        exact ⟨l, hl, start_cells d fuel e l y hok.2 hy (hB.imp_right fun hB n hn => hB n (by
          simp only [DataW.weights, hu]
          refine List.mem_cons_of_mem _ (List.mem_append_left _ (weightsAll_mem (y := y.1) (List.mem_map_of_mem (List.mem_of_getElem? hyel)) hn))))⟩
    · rename_i fs hu
      rw [hu] at h
      simp only at h
      replace h := of_if' h
      obtain ⟨hlen, h⟩ := h
      simp only [Option.map_eq_some_iff] at h
      obtain ⟨xs, hxs, h⟩ := h
      subst h
      have h2 := mapM_some _ _ hxs
      obtain ⟨lcs, h3, h4, h5⟩ := start_fields (B := B) (P := P) (w := w) (d := d) (n := P.cellsOf t) fs.toList 0 cs (by simpa using hlen) hok fun fl hfl => by
        obtain ⟨k, hk⟩ := List.getElem?_of_mem hfl
        obtain ⟨y, hy, hyel⟩ := h2.2 k fl hk
        have hokf : okTy P d fl.type = true := okFs_mem fs.toList 0 hok fl hfl
        have := start_cells d fuel fl.type _ y hokf hy (hB.imp_right fun hB n hn => hB n (by
          simp only [DataW.weights, hu]
          exact DataW.weights_mem_each (ts := fs.toList.map (·.type)) (ds := xs.map (·.1)) (j := k) (by simp [hk]) (by simp [hyel]) n hn))
        rw [Nat.sub_zero]
        exact this
      exact ⟨lcs, by unfold TyC; rw [hu]; exact h3, h4, h5⟩
    · cases hok

/-- An argument that came in, its sizes told. -/
theorem start_argB {B : Nat} {w : World} {spare : Nat → Bool} {held : Bool} {d : Nat} {t : TypeId} {v : Value} {x : DataW H} {ps : List MemPlace} {r : Go.Reach} {b0 : Nat} (hok : okTy P d t = true) (hv : Value.okWide P w r b0 t v) (h : DataW.Trod enc P w 0 spare held t v x ps) (hB : B = maxLen ∨ ∀ n ∈ x.weights P t, n ≤ B) :
    ∃ lcs, TyC B P d t lcs ∧ VRel (pins w) (elemOf (aggU P t) lcs) v := by
  obtain ⟨fuel, h⟩ := h
  obtain ⟨lcs, h1, h2, h3⟩ := start_cells d fuel t _ _ hok h hB
  refine ⟨lcs, h1, ?_⟩
  unfold elemOf
  cases ha : aggU P t with
  | true =>
    unfold Value.okWide at hv
    have : ∃ cs, v = .agg cs := by
      unfold aggU at ha
      split at hv
      · obtain ⟨cs, h, _⟩ := hv; exact ⟨cs, h⟩
      · obtain ⟨cs, h, _⟩ := hv; exact ⟨cs, h⟩
      · rename_i hn1 hn2
        exfalso
        cases hu : P.underlying t with
        | none => rw [hu] at ha; cases ha
        | some u =>
          rw [hu] at ha
          cases u <;> first | (cases ha; done) | skip
          · exact hn2 _ _ hu
          · exact hn1 _ hu
    obtain ⟨cs, rfl⟩ := this
    exact .agg _ _ (by simpa [Value.cells] using h2) fun k y y' hy hy' => h3 k y y' (by simpa using hy) (by simpa [Value.cells] using hy')
  | false =>
    obtain ⟨u, rfl, hu⟩ := elem_single h1 ha
    simp only [Bool.false_eq_true, if_false, List.headD_cons]
    have hl : v.cells.toList.length = 1 := h2.symm
    cases v with
    | agg cs =>
      exfalso
      unfold Value.okWide at hv
      unfold aggU at ha
      split at hv
      · rename_i hu2; rw [hu2] at ha; cases ha
      · rename_i hu2; rw [hu2] at ha; cases ha
      · unfold Cell.okWide at hv
        split at hv <;> first | (simp_all; done) | (unfold Cell.ok at hv; split at hv <;> simp_all)
    | _ => exact h3 0 _ _ rfl rfl
/-- An argument that came in. -/
theorem start_arg {w : World} {spare : Nat → Bool} {held : Bool} {d : Nat} {t : TypeId} {v : Value} {x : DataW H} {ps : List MemPlace} {r : Go.Reach} {b0 : Nat} (hok : okTy P d t = true) (hv : Value.okWide P w r b0 t v) (h : DataW.Trod enc P w 0 spare held t v x ps) :
    ∃ lcs, TyC maxLen P d t lcs ∧ VRel (pins w) (elemOf (aggU P t) lcs) v := start_argB hok hv h (.inl rfl)
end Go.Proofs.YtmmmdmandocbhaaDoor.Den
end
