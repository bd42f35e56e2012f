/- Helpers of this claim: an evaluator over plain values and its laws. -/
import Derived.Test.YtlpoejkleopdoaaJe
section
set_option linter.unusedVariables false
set_option linter.unusedSimpArgs false
namespace Go.Proofs.Ytlpoejkleopdoaa
open Go Go.Proofs.Ytlpoejkleopdoaa.Den
/-! ### the twin's joiner -/
def encO (x : Op) : Value := .agg #[.int .i64 x.id, .int .i64 x.count, .string (sB x.body)]
@[simp] theorem encO_cells (x : Op) : (encO x).cells = #[.int .i64 x.id, .int .i64 x.count, .string (sB x.body)] := by simp [encO]
@[simp] theorem encO_agg (x : Op) : (.agg #[.int .i64 x.id, .int .i64 x.count, .string (sB x.body)] : Value) = encO x := rfl
def AccO (H : World) (v : Value) (L : List Op) : Prop := Den.Acc H v 3 87 L.length ((L.map encO).flatMap fun v => v.cells.toList)
structure RSt (H : World) (jb : Nat) (most room : Int) (L : List Op) (v : Value) : Prop where
  hj : getO H jb = some (.cells #[.int .i64 most, .int .i64 room, v] 84 (0, 0))
  acc : AccO H v L
  ap : Apart v jb
def idxO (id : Int) : List Op → Int
  | [] => -1
  | x :: L => if x.id = id then 0 else if idxO id L < 0 then -1 else idxO id L + 1
theorem idxO_find {id : Int} : ∀ (L : List Op), (findO id L = none ∧ idxO id L = -1) ∨ ∃ k : Nat, ∃ (hk : k < L.length), idxO id L = k ∧ findO id L = some L[k] ∧ ∀ j (hj : j < k), L[j].id ≠ id
  | [] => .inl ⟨rfl, rfl⟩
  | x :: L => by
    unfold findO idxO
    by_cases h : x.id = id
    · exact .inr ⟨0, by simp, by rw [if_pos h]; rfl, by rw [if_pos h]; rfl, fun j hj => by omega⟩
    · rw [if_neg h, if_neg h]
      rcases idxO_find (id := id) L with ⟨h1, h2⟩ | ⟨k, hk, h1, h2, h3⟩
      · exact .inl ⟨h1, by rw [h2]; rfl⟩
      · refine .inr ⟨k + 1, by simpa using hk, by rw [h1, if_neg (by omega)]; rfl, by rw [h2]; rfl, fun j hj => ?_⟩
        cases j with
        | zero => exact h
        | succ j => exact h3 j (by omega)
theorem flatO_len (L : List Op) : ((L.map encO).flatMap fun v => v.cells.toList).length = L.length * 3 := by
  induction L with
  | nil => rfl
  | cons x xs ih => rw [List.map_cons, List.flatMap_cons, List.length_append, ih]; simp [Nat.succ_mul, Nat.add_comm]
set_option maxRecDepth 100000 in
theorem find55 {H : World} {jb : Nat} {most room : Int} {L : List Op} {v : Value} (st : RSt H jb most room L v) (hl : L.length ≤ 1000) (id : Int) {Q : Value → World → Prop} (hq : ∀ H', Keep H H' → Q (.int .i64 (idxO id L)) H') : FW X 55 #[p0 jb, .int .i64 id] H Q := by
  refine FW.walk (by simp [X]) Try.func55 Try.ntmps55 rfl (by simp) ?_
  have hj := st.hj
  have hlen := fun H0 => Acc.len (P := Try.prog) (H0 := H0) (t := 82) st.acc (by simp)
  simp [hj, hlen]
  refine CE.range (m := L.length) (fun k e H' => Keep H H' ∧ lk e 10 = v ∧ lk e 1 = .int .i64 id ∧ ∀ j (hj : j < L.length), j < k → L[j].id ≠ id) ?_ (by omega) ?_ ?_ ?_
  · decide
  · simp
    exact Keep.refl
  · rintro k e H' hk h1 h2 ⟨hK, h3, h4, h5⟩
    obtain ⟨r, rfl, hr⟩ := Acc.pos st.acc (by omega)
    obtain ⟨cs, hcs⟩ : ∃ cs, cs = (L.map encO).flatMap fun v => v.cells.toList := ⟨_, rfl⟩
    rw [← hcs] at hr
    have hclen : cs.length = L.length * 3 := by rw [hcs, flatO_len]
    have hr' := hK _ _ hr
    have hg := enc_get' (es := 3) (enc := encO) (fun x => by simp) hcs k hk
    have hb : k * 3 + 3 ≤ L.length * 3 := by omega
    simp [h1, h2, h3, h4, hk, allocX, hr', hclen, hb, hg, szO]
    refine gIf_dec (fun h => ?_) (fun h => ?_)
    · simp
      have : idxO id L = k := by
        rcases idxO_find (id := id) L with ⟨f1, f2⟩ | ⟨j, hj', f1, f2, f3⟩
        · exfalso
          have : ∀ (L : List Op), findO id L = none → ∀ x ∈ L, x.id ≠ id := by
            intro L
            induction L with
            | nil => intro _ x hx; cases hx
            | cons a L ih =>
              intro h x hx
              unfold findO at h
              split at h
              · cases h
              · rcases List.mem_cons.1 hx with rfl | hx
                · assumption
                · exact ih h x hx
          exact this L f1 _ (List.getElem_mem hk) h
        · rcases Nat.lt_trichotomy j k with hlt | heq | hgt
          · have h6 := h5 j hj' hlt
            have := (findO_mem f2).2
            exact absurd this h6
          · rw [f1, heq]
          · exact absurd h (f3 k hgt)
      rw [← this]
      exact hq _ (hK.push _)
    · simp [h1, h2, h3, h4]
      refine ⟨hK.push _, fun j hj hj2 => ?_⟩
      by_cases hjk : j = k
      · subst hjk; exact h
      · exact h5 j hj (by omega)
  · rintro e H' h1 h2 ⟨hK, h3, h4, h5⟩
    simp
    have : idxO id L = -1 := by
      rcases idxO_find (id := id) L with ⟨f1, f2⟩ | ⟨j, hj', f1, f2, f3⟩
      · exact f2
      · exact absurd (findO_mem f2).2 (h5 j hj' hj')
    rw [← this]
    exact hq _ hK
end Go.Proofs.Ytlpoejkleopdoaa
end
