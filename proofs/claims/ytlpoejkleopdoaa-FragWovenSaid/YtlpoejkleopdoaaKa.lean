/- Helpers of this claim: an evaluator over plain values and its laws. -/
import Derived.Test.YtlpoejkleopdoaaJe
section
set_option linter.unusedVariables false
set_option linter.unusedSimpArgs false
namespace Go.Proofs.Ytlpoejkleopdoaa
open Go Go.Proofs.Ytlpoejkleopdoaa.Den
/-! ### pieces of different messages, woven in any order: plain lists alone -/
inductive Wov : List (List Pc) → List Pc → Prop
  | nil : Wov [] []
  | cons {R R' : List (List Pc)} {p : Pc} {t : List Pc} {w : List Pc} : R.Perm ((p :: t) :: R') → Wov (if t = [] then R' else t :: R') w → Wov R (p :: w)
theorem Wov.perm {R R2 : List (List Pc)} {w : List Pc} (h : Wov R w) (hp : R.Perm R2) : Wov R2 w := by
  cases h with
  | nil => rw [List.nil_perm.1 hp]; exact .nil
  | cons h1 h2 => exact .cons (hp.symm.trans h1) h2
theorem neL_of_ne {R : List (List Pc)} (h : ∀ x ∈ R, x ≠ []) : neL R = R := by
  unfold neL
  rw [List.filter_eq_self]
  intro x hx
  have := h x hx
  cases x with
  | nil => exact absurd rfl this
  | cons a x => rfl
theorem neL_set {R : List (List Pc)} (h : ∀ x ∈ R, x ≠ []) {i : Nat} {p : Pc} {t : List Pc} (hi : R[i]? = some (p :: t)) :
    ∃ R', R.Perm ((p :: t) :: R') ∧ (neL (R.set i t)).Perm (if t = [] then R' else t :: R') := by
  obtain ⟨hl, hg⟩ := List.getElem?_eq_some_iff.1 hi
  refine ⟨R.take i ++ R.drop (i + 1), ?_, ?_⟩
  · have e : R = R.take i ++ (p :: t) :: R.drop (i + 1) := by
      rw [← hg, ← List.drop_eq_getElem_cons hl, List.take_append_drop]
    have h2 : (R.take i ++ (p :: t) :: R.drop (i + 1)).Perm ((p :: t) :: (R.take i ++ R.drop (i + 1))) := List.perm_middle
    rw [← e] at h2
    exact h2
  · rw [List.set_eq_take_append_cons_drop, if_pos hl]
    have h1 : neL (R.take i) = R.take i := neL_of_ne fun x hx => h x (List.mem_of_mem_take hx)
    have h2 : neL (R.drop (i + 1)) = R.drop (i + 1) := neL_of_ne fun x hx => h x (List.mem_of_mem_drop hx)
    unfold neL at *
    rw [List.filter_append, List.filter_cons, h1, h2]
    by_cases ht : t = []
    · subst ht; simp
    · have : (!t.isEmpty) = true := by cases t <;> simp_all
      rw [if_pos this, if_neg ht]
      exact List.perm_middle
theorem wov_seq (turns : List Int) (L : List (List Pc)) : ∀ (d k : Nat), k + d = totalW L → ∃ w, (seqW turns L (totalW L)).2 = (seqW turns L k).2 ++ w ∧ Wov (seqW turns L k).1 w
  | 0, k, h => ⟨[], by rw [← h]; simp, by
      have := seqW_total turns L
      rw [← h, Nat.add_zero] at this
      rw [this]; exact .nil⟩
  | d + 1, k, h => by
    obtain ⟨w, h1, h2⟩ := wov_seq turns L d (k + 1) (by omega)
    by_cases he : (seqW turns L k).1 = []
    · have : seqW turns L (k + 1) = seqW turns L k := by
        show (if (seqW turns L k).1 = [] then seqW turns L k else _) = _
        rw [if_pos he]
      rw [this] at h1 h2
      exact ⟨w, h1, h2⟩
    · have hs : seqW turns L (k + 1) = nextW (idxW turns k (seqW turns L k).1.length) (seqW turns L k) := by
        show (if (seqW turns L k).1 = [] then seqW turns L k else _) = _
        rw [if_neg he]
      obtain ⟨p, t, e1, e2⟩ := nextW_at (seqW_ne turns L k) (idxW_lt (turns := turns) (k := k) (List.length_pos_iff.2 he))
      obtain ⟨R', p1, p2⟩ := neL_set (seqW_ne turns L k) e1
      rw [hs, e2] at h1 h2
      refine ⟨p :: w, by rw [h1]; simp, .cons p1 (h2.perm p2)⟩
theorem wov_weave (turns : List Int) (L : List (List Pc)) : Wov (neL L) (weaveW turns L) := by
  obtain ⟨w, h1, h2⟩ := wov_seq turns L (totalW L) 0 (by omega)
  unfold weaveW
  rw [h1]
  exact h2
/-- What is left of one message. -/
def RestP (id : Int) : Nat → List UInt8 → List Pc → Prop
  | _, _, [] => False
  | i, bd, p :: t => p.id = id ∧ p.place = (i : Int) ∧ valid p = true ∧ ((t = [] ∧ p.more = false ∧ p.body = bd) ∨ (t ≠ [] ∧ p.more = true ∧ ∃ bd2, bd = p.body ++ bd2 ∧ RestP id (i + 1) bd2 t))
theorem restP_made {id : Int} (hid : 0 ≤ id ∧ id ≤ 1000000) {size : Nat → Int} (hs : ∀ i, 1 ≤ size i) (i : Nat) (bd : List UInt8) (hb : i + bd.length ≤ 60000) : RestP id i bd (madeW id size i bd) := by
  induction h : bd.length using Nat.strongRecOn generalizing bd i with
  | _ m ih =>
    subst h
    rw [madeW]
    have hsi := hs i
    split
    · refine ⟨rfl, rfl, ?_, .inl ⟨rfl, rfl, rfl⟩⟩
      simp [valid]; omega
    · rename_i hc
      have hd : (bd.drop (size i).toNat).length = bd.length - (size i).toNat := List.length_drop
      refine ⟨rfl, rfl, ?_, .inr ⟨?_, rfl, bd.drop (size i).toNat, (List.take_append_drop _ _).symm, ih (bd.drop (size i).toNat).length (by omega) (i + 1) (bd.drop (size i).toNat) (by omega) rfl⟩⟩
      · have : ¬ bd = [] := fun h => by subst h; simp at hc; omega
        have h3 : ¬ (size i).toNat = 0 := by omega
        simp [valid, List.length_take, this]
        omega
      · rw [madeW]; split <;> simp
def startedW (x : List Pc) : Bool := match x with | p :: _ => decide (0 < p.place) | [] => false
def bodyS (x : List Pc) : Nat := (x.map fun p => p.body.length).sum
def hidW (x : List Pc) : Int := match x with | p :: _ => p.id | [] => 0
theorem restP_hid {id : Int} {i : Nat} {bd : List UInt8} {x : List Pc} (h : RestP id i bd x) : hidW x = id := by
  cases x with
  | nil => exact h.elim
  | cons p t => exact h.1
theorem restP_started {id : Int} {i : Nat} {bd : List UInt8} {x : List Pc} (h : RestP id i bd x) : startedW x = decide (0 < i) := by
  cases x with
  | nil => exact h.elim
  | cons p t => simp [startedW, h.2.1]
theorem findO_put {o : Op} : ∀ (L : List Op), findO o.id (putO o L) = some o
  | [] => by simp [putO, findO]
  | x :: L => by
    unfold putO
    split
    · simp [findO]
    · rename_i h
      simp [findO, h, findO_put L]
theorem findO_put_ne {o : Op} {id : Int} (h : o.id ≠ id) : ∀ (L : List Op), findO id (putO o L) = findO id L
  | [] => by simp [putO, findO, h]
  | x :: L => by
    unfold putO
    split
    · rename_i h2
      have : ¬ x.id = id := by omega
      simp [findO, this, h]
    · simp [findO, findO_put_ne h L]
theorem findO_del_ne {a id : Int} (h : a ≠ id) : ∀ (L : List Op), findO id (delO a L) = findO id L
  | [] => rfl
  | x :: L => by
    unfold delO
    split
    · rename_i h2
      have : ¬ x.id = id := by omega
      simp [findO, this]
    · simp [findO, findO_del_ne h L]
theorem findO_app {o : Op} {id : Int} : ∀ (L : List Op), findO id (L ++ [o]) = match findO id L with | some x => some x | none => if o.id = id then some o else none
  | [] => rfl
  | x :: L => by
    by_cases h : x.id = id
    · simp [findO, h]
    · simp [findO, h, findO_app L]
/-- How the joiner stands behind some pieces: R is left, O is open, ids are told. -/
structure WInv (n : Nat) (total : Nat) (B : Int → List UInt8) (R : List (List Pc)) (O : List Op) (ids : List Int) : Prop where
  rest : ∀ x ∈ R, ∃ id i bd, 1 ≤ id ∧ id ≤ (n : Int) ∧ RestP id i bd x ∧ id ∉ ids ∧ (i = 0 → findO id O = none ∧ bd = B id) ∧ (0 < i → ∃ pre, findO id O = some ⟨id, i, pre⟩ ∧ pre ++ bd = B id)
  diff : R.Pairwise fun x y => hidW x ≠ hidW y
  nod : ids.Nodup
  rng : ∀ id ∈ ids, 1 ≤ id ∧ id ≤ (n : Int)
  count : ids.length + R.length = n
  opn : O.length = (R.filter startedW).length
  bytes : bytesO O + (R.map bodyS).sum ≤ total
theorem WInv.perm {n total : Nat} {B : Int → List UInt8} {R R2 : List (List Pc)} {O : List Op} {ids : List Int} (h : WInv n total B R O ids) (hp : R.Perm R2) : WInv n total B R2 O ids := by
  obtain ⟨h1, h2, h3, h4, h5, h6, h7⟩ := h
  refine ⟨fun x hx => h1 x (hp.mem_iff.2 hx), (hp.pairwise_iff (fun h => h.symm)).1 h2, h3, h4, by rw [← hp.length_eq]; exact h5, by rw [← (hp.filter _).length_eq]; exact h6, ?_⟩
  rw [← (hp.map bodyS).sum_nat]; exact h7
theorem wov_step {n total : Nat} {B : Int → List UInt8} {R' : List (List Pc)} {p : Pc} {t : List Pc} {O : List Op} {ids : List Int} (hn : n ≤ 100) (ht : total ≤ 60000) (h : WInv n total B ((p :: t) :: R') O ids) :
    (takeW n (total + 1) O p).2.2.2 = 0 ∧
    ((takeW n (total + 1) O p).2.2.1 = true → (takeW n (total + 1) O p).2.1 = B p.id ∧ WInv n total B (if t = [] then R' else t :: R') (takeW n (total + 1) O p).1 (ids ++ [p.id])) ∧
    ((takeW n (total + 1) O p).2.2.1 = false → WInv n total B (if t = [] then R' else t :: R') (takeW n (total + 1) O p).1 ids) := by
  obtain ⟨h1, h2, h3, h4, h5, h6, h7⟩ := h
  obtain ⟨id, i, bd, q1, q2, ⟨r1, r2, r3, r4⟩, q4, q5, q6⟩ := h1 _ List.mem_cons_self
  subst r1
  rw [List.pairwise_cons] at h2
  obtain ⟨d1, d2⟩ := h2
  have hRid : ∀ x ∈ R', ∀ id i bd, RestP id i bd x → p.id ≠ id := fun x hx id i bd hr => by
    have := d1 x hx
    rw [restP_hid hr] at this
    exact this
  simp only [List.map_cons, List.sum_cons, List.length_cons] at h5 h7
  have hbp : bodyS (p :: t) = p.body.length + bodyS t := by simp [bodyS]
  have hst : startedW (p :: t) = decide (0 < i) := by simp [startedW, r2]
  rw [List.filter_cons, hst] at h6
  have hfl : (R'.filter startedW).length ≤ R'.length := List.length_filter_le _ _
  unfold takeW
  rw [if_neg (by rw [r3]; simp)]
  rcases Nat.eq_zero_or_pos i with h0 | h0
  · subst h0
    obtain ⟨f1, f2⟩ := q5 rfl
    subst f2
    simp only [Nat.lt_irrefl, decide_false, Bool.false_eq_true, if_false] at h6
    rw [f1]
    simp only
    rw [if_neg (by rw [r2]; simp)]
    rcases r4 with ⟨t0, t1, t2⟩ | ⟨t0, t1, bd2, t2, t3⟩
    · rw [if_pos t1, if_neg (by omega)]
      subst t0
      refine ⟨rfl, fun _ => ⟨t2, ?_⟩, fun h => by cases h⟩
      rw [if_pos rfl]
      refine ⟨fun x hx => ?_, d2, ?_, ?_, by simp; omega, h6, by simp only [hbp] at h7; show bytesO O + _ ≤ _; omega⟩
      · obtain ⟨id, i, bd, a1, a2, a3, a4, a5, a6⟩ := h1 x (List.mem_cons_of_mem _ hx)
        refine ⟨id, i, bd, a1, a2, a3, ?_, a5, a6⟩
        have := hRid x hx _ _ _ a3
        simp [a4]; omega
      · rw [List.nodup_append]
        refine ⟨h3, by simp, ?_⟩
        intro a ha b hb
        simp at hb; subst hb
        intro e; subst e; exact q4 ha
      · intro id hid
        rcases List.mem_append.1 hid with h | h
        · exact h4 id h
        · simp at h; subst h; exact ⟨q1, q2⟩
    · have hm : ¬ p.more = false := by rw [t1]; simp
      rw [if_neg hm, if_neg (by omega), if_neg (by omega)]
      refine ⟨rfl, fun h => (by cases h), fun _ => ?_⟩
      rw [if_neg t0]
      have hdiff : ∀ y ∈ R', hidW t ≠ hidW y := fun y hy => by rw [restP_hid t3]; exact d1 y hy
      refine ⟨fun x hx => ?_, List.pairwise_cons.2 ⟨hdiff, d2⟩, h3, h4, by simp; omega, ?_, ?_⟩
      · rcases List.mem_cons.1 hx with rfl | hx
        · refine ⟨p.id, 1, bd2, q1, q2, t3, q4, fun h => (by cases h), fun _ => ⟨p.body, ?_, t2.symm⟩⟩
          rw [findO_app, f1]; simp
        · obtain ⟨id, i, bd, a1, a2, a3, a4, a5, a6⟩ := h1 x (List.mem_cons_of_mem _ hx)
          have hne := hRid x hx _ _ _ a3
          refine ⟨id, i, bd, a1, a2, a3, a4, fun h => ?_, fun h => ?_⟩
          · obtain ⟨b1, b2⟩ := a5 h
            refine ⟨?_, b2⟩
            rw [findO_app, b1]; simp [hne]
          · obtain ⟨pre, b1, b2⟩ := a6 h
            refine ⟨pre, ?_, b2⟩
            rw [findO_app, b1]
      · rw [List.filter_cons, restP_started t3]; simp [h6]
      · simp [bytesO] at *; omega
  · obtain ⟨pre, f1, f2⟩ := q6 h0
    simp only [h0, decide_true, if_true, List.length_cons] at h6
    obtain ⟨e1, e2⟩ := delO_some f1
    rw [f1]
    simp only at *
    rw [if_neg (by rw [r2]; simp), if_neg (by omega)]
    rcases r4 with ⟨t0, t1, t2⟩ | ⟨t0, t1, bd2, t2, t3⟩
    · rw [if_pos t1]
      subst t0 t2
      refine ⟨rfl, fun _ => ⟨f2, ?_⟩, fun h => by cases h⟩
      rw [if_pos rfl]
      refine ⟨fun x hx => ?_, d2, ?_, ?_, by simp; omega, by show (delO _ _).length = _; omega, by show bytesO (delO _ _) + _ ≤ _; omega⟩
      · obtain ⟨id, i, bd, a1, a2, a3, a4, a5, a6⟩ := h1 x (List.mem_cons_of_mem _ hx)
        have hne := hRid x hx _ _ _ a3
        refine ⟨id, i, bd, a1, a2, a3, ?_, fun h => ?_, fun h => ?_⟩
        · simp [a4]; omega
        · obtain ⟨b1, b2⟩ := a5 h
          exact ⟨by rw [findO_del_ne hne]; exact b1, b2⟩
        · obtain ⟨pre, b1, b2⟩ := a6 h
          exact ⟨pre, by rw [findO_del_ne hne]; exact b1, b2⟩
      · rw [List.nodup_append]
        refine ⟨h3, by simp, ?_⟩
        intro a ha b hb
        simp at hb; subst hb
        intro e; subst e; exact q4 ha
      · intro id hid
        rcases List.mem_append.1 hid with h | h
        · exact h4 id h
        · simp at h; subst h; exact ⟨q1, q2⟩
    · have hm : ¬ p.more = false := by rw [t1]; simp
      rw [if_neg hm]
      refine ⟨rfl, fun h => (by cases h), fun _ => ?_⟩
      rw [if_neg t0]
      subst t2
      have hdiff : ∀ y ∈ R', hidW t ≠ hidW y := fun y hy => by rw [restP_hid t3]; exact d1 y hy
      obtain ⟨g1, g2⟩ := putO_some (o := ⟨p.id, (i : Int) + 1, pre ++ p.body⟩) f1
      simp only [List.length_append] at g1
      refine ⟨fun x hx => ?_, List.pairwise_cons.2 ⟨hdiff, d2⟩, h3, h4, by simp; omega, ?_, ?_⟩
      · rcases List.mem_cons.1 hx with rfl | hx
        · refine ⟨p.id, i + 1, bd2, q1, q2, t3, q4, fun h => (by cases h), fun _ => ⟨pre ++ p.body, ?_, by rw [← f2]; simp⟩⟩
          exact findO_put (o := ⟨p.id, (i : Int) + 1, pre ++ p.body⟩) O
        · obtain ⟨id, j, bd, a1, a2, a3, a4, a5, a6⟩ := h1 x (List.mem_cons_of_mem _ hx)
          have hne := hRid x hx _ _ _ a3
          refine ⟨id, j, bd, a1, a2, a3, a4, fun h => ?_, fun h => ?_⟩
          · obtain ⟨b1, b2⟩ := a5 h
            exact ⟨by rw [findO_put_ne (o := ⟨p.id, (i : Int) + 1, pre ++ p.body⟩) hne]; exact b1, b2⟩
          · obtain ⟨pre, b1, b2⟩ := a6 h
            exact ⟨pre, by rw [findO_put_ne (o := ⟨p.id, (i : Int) + 1, _⟩) hne]; exact b1, b2⟩
      · rw [List.filter_cons, restP_started t3]; simp; show (putO _ _).length = _; omega
      · simp; show bytesO (putO _ _) + _ ≤ _; omega
theorem run_wov {n total : Nat} {B : Int → List UInt8} (hn : n ≤ 100) (ht : total ≤ 60000) {R : List (List Pc)} {w : List Pc} (hw : Wov R w) : ∀ (k : Nat) (O : List Op) (ids : List Int), WInv n total B R O ids →
    ∃ ids', runW n (total + 1) k O ids (ids.map B) w = (ids', ids'.map B, -1, 0) ∧ ids'.length = n ∧ ids'.Nodup ∧ ∀ id ∈ ids', 1 ≤ id ∧ id ≤ (n : Int) := by
  induction hw with
  | nil =>
    intro k O ids h
    refine ⟨ids, rfl, ?_, h.nod, h.rng⟩
    have := h.count
    simpa using this
  | @cons R R' p t w h1 h2 ih =>
    intro k O ids h
    obtain ⟨s1, s2, s3⟩ := wov_step hn ht (h.perm h1)
    unfold runW
    rw [if_neg (by rw [s1]; simp)]
    cases hb : (takeW n (total + 1) O p).2.2.1 with
    | true =>
      obtain ⟨s4, s5⟩ := s2 hb
      rw [if_pos rfl, s4]
      have := ih (k + 1) _ _ s5
      rw [List.map_append] at this
      exact this
    | false =>
      rw [if_neg (by simp)]
      exact ih (k + 1) _ _ (s3 hb)
end Go.Proofs.Ytlpoejkleopdoaa
end
