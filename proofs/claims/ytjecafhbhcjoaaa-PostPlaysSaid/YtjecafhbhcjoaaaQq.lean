/- Helpers of this claim: an evaluator over plain values and its laws. -/
import Derived.Test.YtjecafhbhcjoaaaQp
section
set_option linter.unusedVariables false
set_option linter.unusedSimpArgs false
namespace Go.Proofs.Ytjecafhbhcjoaaa
open Go Go.Proofs.Ytjecafhbhcjoaaa.Den
/-! ### the plain law: a post that keeps letters by pointers, and one that keeps all of them -/
def liv (x : Lt) : Bool := decide (x.st ≠ 6)
def Num (l : List Lt) : Prop := ∀ i (h : i < l.length), l[i].num = (i : Int) + 1
def Fine (x : Lt) : Prop := 1 ≤ x.st ∧ x.st ≤ 6 ∧ 0 ≤ x.pri ∧ x.pri ≤ 100 ∧ 0 ≤ x.unt ∧ x.unt ≤ 1000000000000
structure Sim (p : PP) (q : RP) (m : Nat) : Prop where
  order : p.order = q.order
  room : p.room = q.room
  pause : p.pause = q.pause
  now : p.now = q.now
  ord : 1 ≤ q.order ∧ q.order ≤ 4
  pos : 0 ≤ q.now
  all : p.all = q.l.filter liv
  num : Num q.l
  fine : ∀ x ∈ q.l, Fine x
  len : q.l.length ≤ m
  put : p.put = q.l.length
  ans : p.ans = cntS 3 q.l
  giv : p.giv = cntS 4 q.l
  lat : p.lat = cntS 5 q.l
  wdr : p.wdr = cntS 6 q.l
theorem Num.inj {l : List Lt} (h : Num l) {i j : Nat} (hi : i < l.length) (hj : j < l.length) (e : l[i].num = l[j].num) : i = j := by
  rw [h i hi, h j hj] at e; omega
/-- Writing by place is writing by number. -/
def upd (n : Int) (x : Lt) (l : List Lt) : List Lt := l.map fun y => if y.num = n then x else y
theorem set_upd {l : List Lt} (hu : ∀ i j (hi : i < l.length) (hj : j < l.length), l[i].num = l[j].num → i = j) {i : Nat} (hi : i < l.length) (x : Lt) : l.set i x = upd l[i].num x l := by
  apply List.ext_getElem
  · simp [upd]
  · intro j h1 h2
    simp only [upd, List.getElem_map, List.getElem_set]
    have hj : j < l.length := by simpa using h1
    by_cases h : i = j
    · subst h; simp
    · rw [if_neg h, if_neg (fun e => h (hu j i hj hi e).symm)]
theorem filter_inj {l : List Lt} (h : Num l) (f : Lt → Bool) : ∀ i j (hi : i < (l.filter f).length) (hj : j < (l.filter f).length), (l.filter f)[i].num = (l.filter f)[j].num → i = j := by
  have hp : (l.map (·.num)).Pairwise (· < ·) := by
    rw [List.pairwise_iff_getElem]
    intro i j hi hj hij
    simp only [List.getElem_map]
    rw [h i (by simpa using hi), h j (by simpa using hj)]
    omega
  have hp2 : (l.filter f).Pairwise (fun a b => a.num < b.num) := by
    rw [List.pairwise_map] at hp
    exact hp.filter _
  intro i j hi hj e
  rcases Nat.lt_trichotomy i j with h1 | h1 | h1
  · have := List.pairwise_iff_getElem.1 hp2 i j hi hj h1; omega
  · exact h1
  · have := List.pairwise_iff_getElem.1 hp2 j i hj hi h1; omega
theorem Num.asc {l : List Lt} (h : Num l) (hl : l.length ≤ 1000) (f : Lt → Bool) : Asc (l.filter f) := by
  have hp2 : (l.filter f).Pairwise (fun a b => a.num < b.num) := by
    have hp : l.Pairwise (fun a b => a.num < b.num) := by
      rw [List.pairwise_iff_getElem]
      intro i j hi hj hij
      rw [h i hi, h j hj]
      omega
    exact hp.filter _
  refine ⟨fun i j hi hj hij => List.pairwise_iff_getElem.1 hp2 i j hi hj hij, fun x hx => ?_⟩
  obtain ⟨hx, _⟩ := List.mem_filter.1 hx
  obtain ⟨i, hi, rfl⟩ := List.getElem_of_mem hx
  rw [h i hi]; omega
theorem upd_filter {l : List Lt} {n : Int} {x : Lt} (hx : liv x = true) (hl : ∀ y ∈ l, y.num = n → liv y = true) : (upd n x l).filter liv = upd n x (l.filter liv) := by
  unfold upd
  induction l with
  | nil => rfl
  | cons y l ih =>
    rw [List.map_cons, List.filter_cons, List.filter_cons, ih (fun z hz => hl z (List.mem_cons_of_mem _ hz))]
    by_cases h : y.num = n
    · rw [if_pos h, if_pos hx, if_pos (hl y (by simp) h), List.map_cons, if_pos h]
    · rw [if_neg h]
      split
      · rw [List.map_cons, if_neg h]
      · rfl
/-- A letter of both: at its places in both lists. -/
theorem both_set {l : List Lt} (h : Num l) {i j : Nat} (hi : i < l.length) (hj : j < (l.filter liv).length) (he : (l.filter liv)[j] = l[i]) {x : Lt} (hx : liv x = true) : (l.filter liv).set j x = (l.set i x).filter liv := by
  have hm : l[i] ∈ l.filter liv := by rw [← he]; exact List.getElem_mem hj
  obtain ⟨_, hl⟩ := List.mem_filter.1 hm
  rw [set_upd (fun a b ha hb e => h.inj ha hb e) hi, set_upd (filter_inj h liv) hj, he, upd_filter hx]
  intro y hy hn
  obtain ⟨k, hk, rfl⟩ := List.getElem_of_mem hy
  have := h.inj hk hi hn
  subst this
  exact hl
theorem both_erase {l : List Lt} (h : Num l) {i j : Nat} (hi : i < l.length) (hj : j < (l.filter liv).length) (he : (l.filter liv)[j] = l[i]) {x : Lt} (hx : liv x = false) : (l.filter liv).eraseIdx j = (l.set i x).filter liv := by
  have key : ∀ (f : List Lt) (j : Nat) (hj : j < f.length), (∀ a b (ha : a < f.length) (hb : b < f.length), f[a].num = f[b].num → a = b) → f.eraseIdx j = f.filter fun y => decide (y.num ≠ f[j].num) := by
    intro f
    induction f with
    | nil => intro j hj; simp at hj
    | cons y f ih =>
      intro j hj hu
      cases j with
      | zero =>
        simp only [List.eraseIdx_cons_zero, List.getElem_cons_zero, List.filter_cons, ne_eq, not_true_eq_false, decide_false, Bool.false_eq_true, if_false]
        symm
        rw [List.filter_eq_self]
        intro z hz
        obtain ⟨k, hk, rfl⟩ := List.getElem_of_mem hz
        simp only [decide_eq_true_eq]
        intro e
        have := hu (k + 1) 0 (by simpa using hk) (by simp) (by simpa using e)
        omega
      | succ j =>
        have hj' : j < f.length := by simpa using hj
        rw [List.eraseIdx_cons_succ, List.getElem_cons_succ, List.filter_cons, if_pos, ih j hj' (fun a b ha hb e => by
          have := hu (a + 1) (b + 1) (by simpa using ha) (by simpa using hb) (by simpa using e); omega)]
        simp only [decide_eq_true_eq]
        intro e
        have := hu 0 (j + 1) (by simp) (by simpa using hj) (by simpa using e)
        omega
  rw [key _ j hj (filter_inj h liv), he, set_upd (fun a b ha hb e => h.inj ha hb e) hi]
  unfold upd
  generalize l[i].num = n
  clear he hj hi h
  induction l with
  | nil => rfl
  | cons y l ih =>
    rw [List.map_cons, List.filter_cons, List.filter_cons]
    by_cases hn : y.num = n
    · rw [if_pos hn, hx, ← ih]
      simp only [Bool.false_eq_true, if_false]
      split
      · rw [List.filter_cons, if_neg (by simp [hn])]
      · rfl
    · rw [if_neg hn]
      split
      · rw [List.filter_cons, if_pos (by simp [hn]), ih]
      · exact ih
/-! finding -/
theorem find_none {l : List Lt} (h : Num l) {n : Int} : findP n (l.filter liv) = none ↔ getR n l = none := by
  constructor
  · intro hf
    cases hg : getR n l with
    | none => rfl
    | some ix =>
      obtain ⟨i, x⟩ := ix
      obtain ⟨hn, h6, hi, hx⟩ := getR_at hg
      have hm : x ∈ l.filter liv := List.mem_filter.2 ⟨by rw [← hx]; exact List.getElem_mem hi, by simp [liv, h6]⟩
      obtain ⟨k, hk, hkx⟩ := List.getElem_of_mem hm
      refine absurd ?_ (findP_no hf k hk)
      rw [hkx, ← hx, h i hi]; omega
  · intro hg
    cases hf : findP n (l.filter liv) with
    | none => rfl
    | some ix =>
      obtain ⟨i, x⟩ := ix
      obtain ⟨hi, hx, hn⟩ := findP_at hf
      have hm : x ∈ l.filter liv := by rw [← hx]; exact List.getElem_mem hi
      obtain ⟨hm, hl⟩ := List.mem_filter.1 hm
      obtain ⟨k, hk, hkx⟩ := List.getElem_of_mem hm
      have := h k hk
      rw [hkx, hn] at this
      unfold getR at hg
      rw [if_pos ⟨by omega, by omega⟩, show (n - 1).toNat = k by omega, List.getElem?_eq_getElem hk, hkx] at hg
      simp [liv] at hl
      simp [hl] at hg
theorem find_some {l : List Lt} (h : Num l) {n : Int} {j : Nat} {x : Lt} (hf : findP n (l.filter liv) = some (j, x)) : ∃ i, getR n l = some (i, x) ∧ ∃ (hi : i < l.length) (hj : j < (l.filter liv).length), l[i] = x ∧ (l.filter liv)[j] = l[i] := by
  obtain ⟨hj, hx, hn⟩ := findP_at hf
  have hm : x ∈ l.filter liv := by rw [← hx]; exact List.getElem_mem hj
  obtain ⟨hm, hl⟩ := List.mem_filter.1 hm
  obtain ⟨k, hk, hkx⟩ := List.getElem_of_mem hm
  have := h k hk
  rw [hkx, hn] at this
  refine ⟨k, ?_, hk, hj, hkx, by rw [hx, hkx]⟩
  unfold getR
  rw [if_pos ⟨by omega, by omega⟩, show (n - 1).toNat = k by omega, List.getElem?_eq_getElem hk, hkx]
  simp [liv] at hl
  simp [hl]
end Go.Proofs.Ytjecafhbhcjoaaa
end

section
set_option linter.unusedVariables false
set_option linter.unusedSimpArgs false
namespace Go.Proofs.Ytjecafhbhcjoaaa
open Go Go.Proofs.Ytjecafhbhcjoaaa.Den
theorem cntS_cons (c : Int) (x : Lt) (l : List Lt) : cntS c (x :: l) = cntS c l + if x.st = c then 1 else 0 := by
  unfold cntS
  rw [List.countP_cons]
  simp
theorem cntS_set {c : Int} : ∀ {l : List Lt} {i : Nat} (hi : i < l.length) (x : Lt), cntS c (l.set i x) + (if l[i].st = c then 1 else 0) = cntS c l + (if x.st = c then 1 else 0)
  | [], i, hi, x => by simp at hi
  | y :: l, 0, hi, x => by simp only [List.set_cons_zero, cntS_cons, List.getElem_cons_zero]; omega
  | y :: l, i + 1, hi, x => by
    have := cntS_set (c := c) (l := l) (i := i) (by simpa using hi) x
    simp only [List.set_cons_succ, cntS_cons, List.getElem_cons_succ]; omega
theorem cntS_app (c : Int) (l m : List Lt) : cntS c (l ++ m) = cntS c l + cntS c m := by unfold cntS; rw [List.countP_append]
theorem cntS_len (c : Int) (l : List Lt) : cntS c l ≤ l.length := List.countP_le_length
theorem lateS_liv (now : Int) (x : Lt) : liv (lateS now x) = liv x := by
  unfold lateS liv
  split
  · rename_i h; simp [h.1]
  · rfl
theorem filter_map_liv {f : Lt → Lt} (h : ∀ x, liv (f x) = liv x) (l : List Lt) : (l.map f).filter liv = (l.filter liv).map f := by
  induction l with
  | nil => rfl
  | cons x l ih =>
    rw [List.map_cons, List.filter_cons, List.filter_cons, h, ih]
    split <;> rfl
theorem latF_count (now : Int) : ∀ (l : List Lt) (a : Nat), a + l.length < 2 ^ 60 → latF now a (l.filter liv) = (a : Int) + cntS 5 (l.map (lateS now)) - cntS 5 l
  | [], a, h => by simp [latF, cntS]
  | x :: l, a, h => by
    simp only [List.length_cons] at h
    rw [List.map_cons, cntS_cons, cntS_cons, List.filter_cons]
    by_cases h6 : x.st = 6
    · rw [if_neg (by simp [liv, h6]), latF_count now l a (by omega)]
      have : lateS now x = x := by unfold lateS; rw [if_neg (by simp [h6])]
      rw [this]; omega
    · rw [if_pos (by simp [liv, h6])]
      unfold latF
      by_cases hc : x.st = 1 ∧ overL' x now = true
      · rw [if_pos hc, wrap64 (by omega) (by omega), show (a : Int) + 1 = ((a + 1 : Nat) : Int) by omega, latF_count now l (a + 1) (by omega)]
        have : lateS now x = { x with st := 5 } := by unfold lateS; rw [if_pos hc]
        rw [this]
        simp [hc.1]; omega
      · rw [if_neg hc, latF_count now l a (by omega)]
        have : lateS now x = x := by unfold lateS; rw [if_neg hc]
        rw [this]; omega
theorem cntS_late {c : Int} (h1 : c ≠ 1) (h5 : c ≠ 5) (now : Int) (l : List Lt) : cntS c (l.map (lateS now)) = cntS c l := by
  induction l with
  | nil => rfl
  | cons x l ih =>
    rw [List.map_cons, cntS_cons, cntS_cons, ih]
    congr 1
    unfold lateS
    split
    · rename_i h
      rw [if_neg (by simpa using h5.symm), if_neg (by rw [h.1]; exact h1.symm)]
    · rfl
theorem Num.map {l : List Lt} (h : Num l) {f : Lt → Lt} (hf : ∀ x, (f x).num = x.num) : Num (l.map f) := fun i hi => by
  rw [List.getElem_map, hf]; exact h i (by simpa using hi)
theorem Num.set {l : List Lt} (h : Num l) {i : Nat} (hi : i < l.length) {x : Lt} (hx : x.num = l[i].num) : Num (l.set i x) := fun j hj => by
  rw [List.getElem_set]
  by_cases e : i = j
  · subst e; rw [if_pos rfl, hx]; exact h _ hi
  · rw [if_neg e]; exact h j (by simpa using hj)
section
variable {p : PP} {q : RP} {m : Nat}
theorem Sim.bad (h : Sim p q m) (now : Int) : atBad p now ↔ badR q now := by unfold atBad badR; rw [h.now]
theorem Sim.at (h : Sim p q m) (hm : m ≤ 1000) {now : Int} (hb : ¬ badR q now) : Sim (atP p now) (atR q now) m := by
  have hl := h.len
  refine ⟨h.order, h.room, h.pause, rfl, h.ord, ?_, ?_, h.num.map (lateS_num now), ?_, by simpa [atR] using hl, ?_, ?_, ?_, ?_, ?_⟩
  · unfold badR at hb; have := h.pos; show (0 : Int) ≤ now; omega
  · show p.all.map (lateS now) = (q.l.map (lateS now)).filter liv
    rw [filter_map_liv (lateS_liv now), h.all]
  · intro x hx
    obtain ⟨y, hy, rfl⟩ := List.mem_map.1 (show x ∈ q.l.map (lateS now) from hx)
    have := h.fine y hy
    unfold lateS
    split
    · exact ⟨by simp, by simp, this.2.2⟩
    · exact this
  · show p.put = ((q.l.map (lateS now)).length : Int); rw [List.length_map]; exact h.put
  · show p.ans = (cntS 3 (q.l.map (lateS now)) : Int); rw [cntS_late (by decide) (by decide)]; exact h.ans
  · show p.giv = (cntS 4 (q.l.map (lateS now)) : Int); rw [cntS_late (by decide) (by decide)]; exact h.giv
  · show latF now p.lat p.all = (cntS 5 (q.l.map (lateS now)) : Int)
    rw [h.lat, h.all, latF_count now q.l _ (by have := cntS_len 5 q.l; omega)]; omega
  · show p.wdr = (cntS 6 (q.l.map (lateS now)) : Int); rw [cntS_late (by decide) (by decide)]; exact h.wdr
theorem Sim.mono (h : Sim p q m) {k : Nat} (hk : m ≤ k) : Sim p q k := ⟨h.order, h.room, h.pause, h.now, h.ord, h.pos, h.all, h.num, h.fine, Nat.le_trans h.len hk, h.put, h.ans, h.giv, h.lat, h.wdr⟩
/-- A letter turned in both. -/
theorem Sim.set (h : Sim p q m) {i j : Nat} (hi : i < q.l.length) (hj : j < (q.l.filter liv).length) (he : (q.l.filter liv)[j] = q.l[i]) {x : Lt} (hx : x.st ≠ 6) (hn : x.num = q.l[i].num) (hf : Fine x) {a g l : Int}
    (ha : a = p.ans - (if q.l[i].st = 3 then 1 else 0) + (if x.st = 3 then 1 else 0)) (hg : g = p.giv - (if q.l[i].st = 4 then 1 else 0) + (if x.st = 4 then 1 else 0)) (hl : l = p.lat - (if q.l[i].st = 5 then 1 else 0) + (if x.st = 5 then 1 else 0)) (h6 : q.l[i].st ≠ 6) :
    Sim { p with ans := a, giv := g, lat := l, all := p.all.set j x } { q with l := q.l.set i x } m := by
  have c3 := cntS_set (c := 3) hi x
  have c4 := cntS_set (c := 4) hi x
  have c5 := cntS_set (c := 5) hi x
  have c6 := cntS_set (c := 6) hi x
  refine ⟨h.order, h.room, h.pause, h.now, h.ord, h.pos, ?_, h.num.set hi hn, fun y hy => ?_, by simpa using h.len, by simpa using h.put, ?_, ?_, ?_, ?_⟩
  · show p.all.set j x = (q.l.set i x).filter liv
    rw [h.all, both_set h.num hi hj he (by simp [liv, hx])]
  · rcases List.mem_or_eq_of_mem_set hy with hy | rfl
    · exact h.fine y hy
    · exact hf
  · show a = (cntS 3 (q.l.set i x) : Int); rw [ha, h.ans]; by_cases e1 : q.l[i].st = 3 <;> by_cases e2 : x.st = 3 <;> simp [e1, e2] at c3 ⊢ <;> omega
  · show g = (cntS 4 (q.l.set i x) : Int); rw [hg, h.giv]; by_cases e1 : q.l[i].st = 4 <;> by_cases e2 : x.st = 4 <;> simp [e1, e2] at c4 ⊢ <;> omega
  · show l = (cntS 5 (q.l.set i x) : Int); rw [hl, h.lat]; by_cases e1 : q.l[i].st = 5 <;> by_cases e2 : x.st = 5 <;> simp [e1, e2] at c5 ⊢ <;> omega
  · show p.wdr = (cntS 6 (q.l.set i x) : Int)
    rw [if_neg h6, if_neg hx] at c6
    rw [h.wdr]; simp at c6; omega
end
end Go.Proofs.Ytjecafhbhcjoaaa
end
