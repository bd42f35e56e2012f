/- Helpers of this claim: an evaluator over plain values and its laws. -/
import Derived.Test.YtmmmdmandocbhaaNc
section
set_option linter.unusedVariables false
set_option linter.unusedSimpArgs false
namespace Go.Proofs.Ytmmmdmandocbhaa
open Go Go.Proofs.Ytmmmdmandocbhaa.Den
/-! ### the plain law of NetTold -/
theorem lookM_put {α : Type} [DecidableEq α] (j k : α) (v : Value) : ∀ L : List (α × Value), lookM j (putM k v L) = if j = k then some v else lookM j L
  | [] => by
    unfold putM lookM
    by_cases h : k = j
    · rw [if_pos h, if_pos h.symm]
    · rw [if_neg h, if_neg (fun e => h e.symm)]; rfl
  | (a, w) :: L => by
    unfold putM
    by_cases h : a = k
    · subst h
      rw [if_pos rfl]
      unfold lookM
      by_cases h2 : a = j
      · rw [if_pos h2, if_pos h2.symm]
      · rw [if_neg h2, if_neg h2, if_neg (fun e => h2 e.symm)]
    · rw [if_neg h]
      unfold lookM
      by_cases h2 : a = j
      · subst h2
        rw [if_pos rfl, if_pos rfl, if_neg h]
      · rw [if_neg h2, if_neg h2]
        exact lookM_put j k v L
def cBump (c : Int → Int) (i : Int) : Int → Int := fun j => if j = i then c j + 1 else c j
abbrev before (f g : Fl) : Prop := f.id = g.id → f.twice = false ∧ g.twice = true
/-- What was told of the flights that are to arrive. -/
structure Told (R : List Fl) (next dbl : Int) (S : List (Int × Value)) (c : Int → Int) (tw : Int) : Prop where
  sent : ∀ f ∈ R, ∃ t, lookM f.id S = some (encP { f with time := t }) ∧ t ≤ f.time
  ids : ∀ f ∈ R, f.id < next
  pw : R.Pairwise before
  cnt : ∀ f ∈ R, c f.id = 0 ∨ (f.twice = true ∧ c f.id ≤ 1)
  zero : ∀ i, next ≤ i → c i = 0
  lo : ∀ i, 0 ≤ c i ∧ c i ≤ 2
  tw0 : 0 ≤ tw
  tw1 : tw + (R.countP (·.twice) : Nat) ≤ dbl
theorem Told.sub {R R' : List Fl} {next dbl tw : Int} {S : List (Int × Value)} {c : Int → Int} (h : Told R next dbl S c tw) (hs : R'.Sublist R) : Told R' next dbl S c tw :=
  ⟨fun f hf => h.sent f (hs.subset hf), fun f hf => h.ids f (hs.subset hf), h.pw.sublist hs, fun f hf => h.cnt f (hs.subset hf), h.zero, h.lo, h.tw0, by have := hs.countP_le (p := (·.twice)); have := h.tw1; omega⟩
theorem Told.take {y : Fl} {R : List Fl} {next dbl tw : Int} {S : List (Int × Value)} {c : Int → Int} (h : Told (y :: R) next dbl S c tw) : c y.id ≤ 1 ∧ Told R next dbl S (cBump c y.id) (if c y.id + 1 = 2 then tw + 1 else tw) := by
  obtain ⟨p1, p2⟩ := List.pairwise_cons.1 h.pw
  have hy := h.cnt y (List.mem_cons_self ..)
  have hi := h.ids y (List.mem_cons_self ..)
  have hlo := h.lo
  have h1 : c y.id ≤ 1 := by omega
  refine ⟨h1, fun f hf => h.sent f (List.mem_cons_of_mem _ hf), fun f hf => h.ids f (List.mem_cons_of_mem _ hf), p2, fun f hf => ?_, fun i hn => ?_, fun i => ?_, ?_, ?_⟩
  · unfold cBump
    by_cases e : f.id = y.id
    · rw [if_pos e]
      obtain ⟨q1, q2⟩ := p1 f hf e.symm
      rcases hy with hy | ⟨hy, _⟩
      · rw [e, hy]; exact .inr ⟨q2, by decide⟩
      · rw [q1] at hy; cases hy
    · rw [if_neg e]; exact h.cnt f (List.mem_cons_of_mem _ hf)
  · unfold cBump
    rw [if_neg (by omega)]; exact h.zero i hn
  · unfold cBump
    have := hlo i
    split
    · rename_i e; subst e; omega
    · exact this
  · have := h.tw0
    split <;> omega
  · have ht := h.tw1
    rw [List.countP_cons] at ht
    split
    · rename_i e
      rcases hy with hy | ⟨hy, _⟩
      · omega
      · rw [hy] at ht; simp at ht; omega
    · split at ht <;> omega
theorem putF_pw1 {r : Fl → Fl → Prop} {x : Fl} : ∀ {l : List Fl}, l.Pairwise r → (∀ y ∈ l, r y x ∧ r x y) → (putF l x).Pairwise r
  | [], _, _ => List.pairwise_singleton _ _
  | y :: l, h, hx => by
    obtain ⟨h1, h2⟩ := List.pairwise_cons.1 h
    by_cases hk : kLt y x
    · rw [putF_cons_t hk]
      refine List.pairwise_cons.2 ⟨fun b hb => ?_, putF_pw1 h2 fun z hz => hx z (List.mem_cons_of_mem _ hz)⟩
      rcases putF_mem.1 hb with rfl | hb
      · exact (hx y (List.mem_cons_self ..)).1
      · exact h1 b hb
    · rw [putF_cons_f hk]
      exact List.pairwise_cons.2 ⟨fun b hb => (hx b hb).2, h⟩
theorem putF_pw2 {x : Fl} (ht : x.twice = true) : ∀ {l : List Fl}, Sorted l → l.Pairwise before → (∀ y ∈ l, y.id = x.id → y.twice = false ∧ kLt y x) → (putF l x).Pairwise before
  | [], _, _, _ => List.pairwise_singleton _ _
  | y :: l, hs, h, hx => by
    obtain ⟨h1, h2⟩ := List.pairwise_cons.1 h
    obtain ⟨s1, s2⟩ := List.pairwise_cons.1 hs
    by_cases hk : kLt y x
    · rw [putF_cons_t hk]
      refine List.pairwise_cons.2 ⟨fun b hb => ?_, putF_pw2 ht s2 h2 fun z hz => hx z (List.mem_cons_of_mem _ hz)⟩
      rcases putF_mem.1 hb with rfl | hb
      · exact fun e => ⟨(hx y (List.mem_cons_self ..) e).1, ht⟩
      · exact h1 b hb
    · rw [putF_cons_f hk]
      refine List.pairwise_cons.2 ⟨fun b hb e => ?_, h⟩
      have hb2 := (hx b hb e.symm).2
      rcases List.mem_cons.1 hb with rfl | hb
      · exact absurd hb2 hk
      · exact absurd hb2 (kLt_up (s1 b hb) hk)
theorem putF_countP (p : Fl → Bool) (l : List Fl) (x : Fl) : (putF l x).countP p = l.countP p + if p x = true then 1 else 0 := by
  unfold putF insA
  have e : l.countP p = (l.take (pos l x) ++ l.drop (pos l x)).countP p := by rw [List.take_append_drop]
  rw [List.countP_append, List.countP_cons, e, List.countP_append]
  omega
section
variable {R : List Fl} {next dbl tw : Int} {S : List (Int × Value)} {c : Int → Int}
theorem Told.keepS (h : Told R next dbl S c tw) (v : Value) : ∀ f ∈ R, ∃ t, lookM f.id (putM next v S) = some (encP { f with time := t }) ∧ t ≤ f.time := fun f hf => by
  have := h.ids f hf
  rw [lookM_put, if_neg (by omega)]
  exact h.sent f hf
theorem Told.lost (h : Told R next dbl S c tw) (v : Value) : Told R (next + 1) dbl (putM next v S) c tw :=
  ⟨h.keepS v, fun f hf => by have := h.ids f hf; omega, h.pw, h.cnt, fun i hi => h.zero i (by omega), h.lo, h.tw0, h.tw1⟩
theorem Told.put1 (h : Told R next dbl S c tw) {x : Fl} {t : Int} (hi : x.id = next) (hx : x.twice = false) (ht : t ≤ x.time) : Told (putF R x) (next + 1) dbl (putM next (encP { x with time := t }) S) c tw := by
  refine ⟨fun f hf => ?_, fun f hf => ?_, putF_pw1 h.pw fun y hy => ?_, fun f hf => ?_, fun i hi => h.zero i (by omega), h.lo, h.tw0, ?_⟩
  · rcases putF_mem.1 hf with rfl | hf
    · exact ⟨t, by rw [lookM_put, if_pos hi], ht⟩
    · exact h.keepS _ f hf
  · rcases putF_mem.1 hf with rfl | hf
    · omega
    · have := h.ids f hf; omega
  · have := h.ids y hy
    exact ⟨fun e => by omega, fun e => by omega⟩
  · rcases putF_mem.1 hf with rfl | hf
    · exact .inl (h.zero _ (by omega))
    · exact h.cnt f hf
  · rw [putF_countP, hx]; simpa using h.tw1
theorem Told.put2 (h : Told R next dbl S c tw) (hs : Sorted R) {x y : Fl} {t : Int} (hi : x.id = next) (hx : x.twice = false) (ht : t ≤ x.time) (hyi : y.id = x.id) (hyf : y.frm = x.frm) (hyt : y.to = x.to) (hyb : y.body = x.body) (hy : y.twice = true) (hlt : x.time < y.time) :
    Told (putF (putF R x) y) (next + 1) (dbl + 1) (putM next (encP { x with time := t }) S) c tw := by
  have g := h.put1 hi hx ht
  refine ⟨fun f hf => ?_, fun f hf => ?_, putF_pw2 hy (putF_sorted x hs) g.pw fun z hz e => ?_, fun f hf => ?_, g.zero, h.lo, h.tw0, ?_⟩
  · rcases putF_mem.1 hf with rfl | hf
    · refine ⟨t, ?_, by omega⟩
      rw [lookM_put, if_pos (by omega)]
      simp only [encP, cellsP, hyi, hyf, hyt, hyb]
    · exact g.sent f hf
  · rcases putF_mem.1 hf with rfl | hf
    · omega
    · exact g.ids f hf
  · rcases putF_mem.1 hz with rfl | hz
    · exact ⟨hx, .inl hlt⟩
    · have := h.ids z hz; omega
  · rcases putF_mem.1 hf with rfl | hf
    · exact .inl (h.zero _ (by omega))
    · exact g.cnt f hf
  · have := g.tw1
    rw [putF_countP, hy, if_pos rfl]; omega
end
end Go.Proofs.Ytmmmdmandocbhaa
end
