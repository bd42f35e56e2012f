/- Helpers of this claim: an evaluator over plain values and its laws. -/
import Derived.Test.YtlpoejkleopdoaaCt
section
set_option linter.unusedVariables false
set_option linter.unusedSimpArgs false
namespace Go.Proofs.Ytlpoejkleopdoaa
open Go Go.Proofs.Ytlpoejkleopdoaa.Den
structure MadeP (id : Int) (i : Nat) (bd : List UInt8) (L : List Pc) : Prop where
  pos : 0 < L.length
  len : L.length ≤ bd.length + 1
  bod : bodies L = bd
  at' : ∀ k (hk : k < L.length), L[k].id = id ∧ L[k].place = ((i + k : Nat) : Int) ∧ L[k].more = decide (k + 1 < L.length) ∧ L[k].body.length ≤ bd.length ∧ (L[k].more = true → L[k].body ≠ [])
theorem madeW_ok (id : Int) (size : Nat → Int) (i : Nat) (bd : List UInt8) : MadeP id i bd (madeW id size i bd) := by
  induction h : bd.length using Nat.strongRecOn generalizing bd i with
  | _ m ih =>
    subst h
    rw [madeW]
    split
    · refine ⟨by simp, by simp, by simp [bodies], fun k hk => ?_⟩
      have : k = 0 := by simpa using hk
      subst this
      simp
    · rename_i hc
      have hd : (bd.drop (size i).toNat).length = bd.length - (size i).toNat := List.length_drop
      obtain ⟨p1, p2, p3, p4⟩ := ih (bd.drop (size i).toNat).length (by omega) (i + 1) (bd.drop (size i).toNat) rfl
      refine ⟨by simp, by simp only [List.length_cons]; omega, ?_, fun k hk => ?_⟩
      · simp only [bodies, List.map_cons, List.flatten_cons] at p3 ⊢
        rw [p3, List.take_append_drop]
      · cases k with
        | zero =>
          refine ⟨rfl, rfl, ?_, ?_, fun _ h => ?_⟩
          · simp; omega
          · simp only [List.getElem_cons_zero, List.length_take]; omega
          · have := congrArg List.length h
            simp only [List.getElem_cons_zero, List.length_take, List.length_nil] at this
            omega
        | succ k =>
          obtain ⟨q1, q2, q3, q4, q5⟩ := p4 k (by simpa using hk)
          simp only [List.getElem_cons_succ, List.length_cons]
          refine ⟨q1, by rw [q2]; congr 1; omega, by rw [q3, decide_eq_decide]; omega, by omega, q5⟩
theorem madeP_join {id : Int} {bd : List UInt8} {L : List Pc} (h : MadeP id 0 bd L) (hm : msgW id bd = true) (hb : bd.length ≤ 1999) : okPieces (some L) = true ∧ joinW L = (id, bd, 0) := by
  obtain ⟨p1, p2, p3, p4⟩ := h
  simp only [msgW, Bool.and_eq_true, decide_eq_true_eq] at hm
  have hok : okPieces (some L) = true := by
    simp only [okPieces, Option.getD_some, Bool.and_eq_true, decide_eq_true_eq, allValid, List.all_eq_true]
    refine ⟨by omega, fun x hx => ?_⟩
    obtain ⟨k, hk, rfl⟩ := List.getElem_of_mem hx
    obtain ⟨q1, q2, q3, q4, q5⟩ := p4 k hk
    simp only [valid, Bool.and_eq_true, decide_eq_true_eq, Bool.or_eq_true, Bool.not_eq_true', q1, q2]
    refine ⟨⟨⟨⟨⟨hm.1.1, hm.1.2⟩, by omega⟩, by omega⟩, by omega⟩, ?_⟩
    cases hmo : L[k].more with
    | false => exact .inl rfl
    | true => exact .inr (by simpa using q5 hmo)
  refine ⟨hok, ?_⟩
  have hh : hid L = id := by rw [← hid_at p1]; exact (p4 0 p1).1
  rw [joinW6 hok (List.length_pos_iff.1 p1) (fun k hk => by rw [hh]; exact (p4 k hk).1) (fun k hk => ?_) (by rw [p3]; omega), hh, p3]
  obtain ⟨q1, q2, q3, q4, q5⟩ := p4 k hk
  simp only [okAt, Bool.and_eq_true, decide_eq_true_eq, q2, q3, beq_iff_eq, decide_eq_decide]
  omega
theorem again_made {id : Int} {bd : List UInt8} {L : List Pc} (h : MadeP id 0 bd L) (hm : msgW id bd = true) (hb : bd.length ≤ 1999) (n : Int) : againW L n = cutW id bd n := by
  obtain ⟨h1, h2⟩ := madeP_join h hm hb
  unfold againW cutW
  rw [if_neg (by rw [h1]; decide), h2, if_pos hm]
  cases hs : sizedW n with
  | true => simp [hm, hs, cutW]
  | false => simp
theorem cutW_size (id : Int) (bd : List UInt8) (n : Int) : ((cutW id bd n).1.getD []).length ≤ bd.length + 1 := by
  unfold cutW
  repeat' split
  all_goals simp
  exact (madeW_ok _ _ _ _).len
theorem sizesW_size (id : Int) (bd : List UInt8) (ns : List Int) : ((sizesW id bd ns).1.getD []).length ≤ bd.length + 1 := by
  unfold sizesW
  repeat' split
  all_goals simp
  exact (madeW_ok _ _ _ _).len
theorem cutW_made {id : Int} {bd : List UInt8} {n : Int} (h : (cutW id bd n).2 = 0) : msgW id bd = true ∧ ∃ L, (cutW id bd n).1 = some L ∧ MadeP id 0 bd L := by
  unfold cutW at *
  split at h
  · rename_i hm
    split at h
    · rename_i hs
      rw [if_pos hm, if_pos hs]
      exact ⟨hm, _, rfl, madeW_ok _ _ _ _⟩
    · cases h
  · cases h
theorem sizesW_made {id : Int} {bd : List UInt8} {ns : List Int} (h : (sizesW id bd ns).2 = 0) : msgW id bd = true ∧ ∃ L, (sizesW id bd ns).1 = some L ∧ MadeP id 0 bd L := by
  unfold sizesW at *
  split at h
  · rename_i hm
    split at h
    · rename_i hs
      rw [if_pos hm, if_pos hs]
      exact ⟨hm, _, rfl, madeW_ok _ _ _ _⟩
    · cases h
  · cases h
set_option maxRecDepth 100000 in
theorem Cuts5 (id : Int) (bd : List UInt8) (n m : Int) (ns : Option (List Int)) (hl : (ns.getD []).length < 2 ^ 63) (H : World) :
    FW X 5 #[.int .i64 id, .string (sB bd), .int .i64 n, .int .i64 m, ints ns] H fun v H' => v = .bool true := by
  refine FW.walk (by simp [X]) Try.func5 Try.ntmps5 rfl (by simp) ?_
  simp
  by_cases hb : 300 < bd.length
  · repeat' (first | refine gIf_dec (fun h => ?_) (fun h => ?_) | refine gIf_ndec (fun h => ?_) (fun h => ?_) | refine gIf_nb (fun h => ?_) (fun h => ?_) | refine gIf_split (fun h => ?_) (fun h => ?_) | (exfalso; omega; done) | (simp [awake_eq, *]; done) | simp [awake_eq, *])
  have hb1 : ¬ (300 : Int) < bd.length := by omega
  have same1 : ∀ H Q, FW X 12 #[sl (cutW id bd n).1, sl (cutW id bd n).1] H Q = Q (.bool true) H := fun H Q => by
    have := cutW_size id bd n
    rw [Same_eq _ _ (by omega)]
    simp [same]
  have same2 : ∀ H Q, FW X 12 #[sl (cutW id bd m).1, sl (cutW id bd m).1] H Q = Q (.bool true) H := fun H Q => by
    have := cutW_size id bd m
    rw [Same_eq _ _ (by omega)]
    simp [same]
  have same3 : ∀ H Q, FW X 12 #[sl (sizesW id bd (ns.getD [])).1, sl (sizesW id bd (ns.getD [])).1] H Q = Q (.bool true) H := fun H Q => by
    have := sizesW_size id bd (ns.getD [])
    rw [Same_eq _ _ (by omega)]
    simp [same]
  simp [hb1]
  have k1 : (cutW id bd n).2 = 0 → ∃ L, (cutW id bd n).1 = some L ∧ L.length < 2 ^ 63 ∧ joinW L = (id, bd, 0) ∧ ∀ m, againW L m = cutW id bd m := fun h => by
    obtain ⟨hm, L, e, mp⟩ := cutW_made h
    have := mp.len
    exact ⟨L, e, by omega, (madeP_join mp hm (by omega)).2, again_made mp hm (by omega)⟩
  have k2 : (sizesW id bd (ns.getD [])).2 = 0 → ∃ L, (sizesW id bd (ns.getD [])).1 = some L ∧ L.length < 2 ^ 63 ∧ joinW L = (id, bd, 0) := fun h => by
    obtain ⟨hm, L, e, mp⟩ := sizesW_made h
    have := mp.len
    exact ⟨L, e, by omega, (madeP_join mp hm (by omega)).2⟩
  refine gIf_dec (fun h => ?_) (fun h => ?_)
  · simp [awake_eq]
  have hc19 := Cut19 id bd n
  have hc20 := Cut20 id bd n
  have hc20m := Cut20 id bd m
  have hs21 := Sizes21 id bd ns hl
  have hs22 := Sizes22 id bd ns hl
  generalize hcw : cutW id bd n = cw at *
  generalize hsw : sizesW id bd (ns.getD []) = sw at *
  obtain ⟨c1, c2⟩ := cw
  obtain ⟨s1, s2⟩ := sw
  simp only at *
  simp [hc19, hc20, hs21, hs22, same1, same3]
  refine gIf_dec (fun h1 => ?_) (fun h1 => ?_)
  · obtain ⟨L, rfl, hL, hj, ha⟩ := k1 h1
    have hj15 := Join15 (some L) (by simpa using hL)
    have ha17 := Again17 (some L) m (by simpa using hL)
    simp only [Option.getD_some, hj, ha, joinV] at hj15 ha17
    simp [hj15, ha17, hc20m, same2]
    refine gIf_dec (fun h2 => ?_) (fun h2 => ?_)
    · obtain ⟨L2, rfl, hL2, hj2⟩ := k2 h2
      have hj152 := Join15 (some L2) (by simpa using hL2)
      simp only [Option.getD_some, hj2, joinV] at hj152
      simp [hj152, awake_eq]
    · simp [awake_eq]
  · simp
    refine gIf_dec (fun h2 => ?_) (fun h2 => ?_)
    · obtain ⟨L2, rfl, hL2, hj2⟩ := k2 h2
      have hj152 := Join15 (some L2) (by simpa using hL2)
      simp only [Option.getD_some, hj2, joinV] at hj152
      simp [hj152, awake_eq]
    · simp [awake_eq]
end Go.Proofs.Ytlpoejkleopdoaa
end
