/- Helpers of this claim: an evaluator over plain values and its laws. -/
import Derived.Test.YtlpoejkleopdoaaCp
section
set_option linter.unusedVariables false
set_option linter.unusedSimpArgs false
namespace Go.Proofs.Ytlpoejkleopdoaa
open Go Go.Proofs.Ytlpoejkleopdoaa.Den
@[simp] theorem bneq4 (x y : Operand) (a b : Bool) (H : World) : binX Try.prog .neq 4 x y (.bool a) (.bool b) H = some (.value (.bool (!(a == b))), H) := bX_bneq Try.underlying4
@[simp] theorem beql4 (x y : Operand) (a b : Bool) (H : World) : binX Try.prog .eql 4 x y (.bool a) (.bool b) H = some (.value (.bool (a == b)), H) := bX_beql Try.underlying4
def okAt (n : Nat) (j : Nat) (p : Pc) : Bool := decide (p.place = j) && (p.more == decide ((j : Int) < (n : Int) - 1))
def placesOk (l : List Pc) : Bool := decide (∀ i : Fin l.length, okAt l.length i l[i] = true)
def bodies (l : List Pc) : List UInt8 := (l.map (·.body)).flatten
def hid (l : List Pc) : Int := (l.head?.map (·.id)).getD 0
def joinW (l : List Pc) : Int × List UInt8 × Int :=
  if okPieces (some l) = false then (0, [], 1) else if l = [] then (0, [], 11) else if (l.any fun p => !decide (p.id = hid l)) = true then (0, [], 10)
  else if placesOk l = false then (0, [], 9) else if 65536 < (bodies l).length then (0, [], 4) else (hid l, bodies l, 0)
abbrev joinV (l : List Pc) : Value := .tuple #[.int .i64 (joinW l).1, .string (sB (joinW l).2.1), .int .i64 (joinW l).2.2]
theorem placesOk_no {l : List Pc} {k : Nat} (hk : k < l.length) (h : okAt l.length k l[k] = false) : placesOk l = false := by
  unfold placesOk
  rw [decide_eq_false_iff_not]
  intro ha
  have := ha ⟨k, hk⟩
  simp only [Fin.getElem_fin] at this
  rw [this] at h; cases h
theorem placesOk_yes {l : List Pc} (h : ∀ j (hj : j < l.length), okAt l.length j l[j] = true) : placesOk l = true := by
  unfold placesOk
  rw [decide_eq_true_eq]
  exact fun i => h i.1 i.2
theorem bodies_take {l : List Pc} {k : Nat} (hk : k < l.length) : bodies (l.take (k + 1)) = bodies (l.take k) ++ l[k].body := by
  unfold bodies
  rw [List.take_succ_eq_append_getElem hk, List.map_append, List.flatten_append]
  simp
theorem valid_len {p : Pc} (h : valid p = true) : p.body.length ≤ 65536 := by
  simp only [valid, Bool.and_eq_true, decide_eq_true_eq] at h
  omega
theorem ok_valid {l : List Pc} (h : okPieces (some l) = true) : l.length ≤ 2000 ∧ ∀ k (hk : k < l.length), l[k].body.length ≤ 65536 := by
  simp only [okPieces, Option.getD_some, Bool.and_eq_true, decide_eq_true_eq, allValid, List.all_eq_true] at h
  exact ⟨h.1, fun k hk => valid_len (h.2 _ (List.getElem_mem hk))⟩
theorem bodies_bound {l : List Pc} (h : okPieces (some l) = true) : ∀ k, k ≤ l.length → (bodies (l.take k)).length ≤ k * 65536
  | 0, _ => by simp [bodies]
  | k + 1, hk => by
    have := bodies_bound h k (by omega)
    rw [bodies_take (by omega), List.length_append]
    have := (ok_valid h).2 k (by omega)
    omega
theorem hid_at {l : List Pc} (h : 0 < l.length) : l[0].id = hid l := by
  cases l with
  | nil => simp at h
  | cons p l => rfl
theorem joinW1 {l : List Pc} (h : okPieces (some l) = false) : joinW l = (0, [], 1) := by unfold joinW; rw [if_pos h]
theorem joinW2 {l : List Pc} (h : okPieces (some l) = true) (h0 : l = []) : joinW l = (0, [], 11) := by unfold joinW; rw [if_neg (by rw [h]; decide), if_pos h0]
theorem joinW3 {l : List Pc} (h : okPieces (some l) = true) (h0 : ¬ l = []) {k : Nat} (hk : k < l.length) (h1 : ¬ l[k].id = hid l) : joinW l = (0, [], 10) := by
  unfold joinW; rw [if_neg (by rw [h]; decide), if_neg h0, if_pos (List.any_eq_true.2 ⟨_, List.getElem_mem hk, by simpa using h1⟩)]
theorem ids_ok {l : List Pc} (h1 : ∀ k (hk : k < l.length), l[k].id = hid l) : ¬ (l.any fun p => !decide (p.id = hid l)) = true := by
  rw [List.any_eq_true]
  rintro ⟨x, hx, h⟩
  obtain ⟨j, hj, rfl⟩ := List.getElem_of_mem hx
  simp [h1 j hj] at h
theorem joinW4 {l : List Pc} (h : okPieces (some l) = true) (h0 : ¬ l = []) (h1 : ∀ k (hk : k < l.length), l[k].id = hid l) {k : Nat} (hk : k < l.length) (h2 : okAt l.length k l[k] = false) : joinW l = (0, [], 9) := by
  unfold joinW; rw [if_neg (by rw [h]; decide), if_neg h0, if_neg (ids_ok h1), if_pos (placesOk_no hk h2)]
theorem joinW5 {l : List Pc} (h : okPieces (some l) = true) (h0 : ¬ l = []) (h1 : ∀ k (hk : k < l.length), l[k].id = hid l) (h2 : ∀ k (hk : k < l.length), okAt l.length k l[k] = true) (h3 : 65536 < (bodies l).length) : joinW l = (0, [], 4) := by
  unfold joinW; rw [if_neg (by rw [h]; decide), if_neg h0, if_neg (ids_ok h1), if_neg (by rw [placesOk_yes h2]; decide), if_pos h3]
theorem joinW6 {l : List Pc} (h : okPieces (some l) = true) (h0 : ¬ l = []) (h1 : ∀ k (hk : k < l.length), l[k].id = hid l) (h2 : ∀ k (hk : k < l.length), okAt l.length k l[k] = true) (h3 : ¬ 65536 < (bodies l).length) : joinW l = (hid l, bodies l, 0) := by
  unfold joinW; rw [if_neg (by rw [h]; decide), if_neg h0, if_neg (ids_ok h1), if_neg (by rw [placesOk_yes h2]; decide), if_neg h3]
set_option maxRecDepth 100000 in
theorem Join16 (o : Option (List Pc)) (hl : (o.getD []).length < 2 ^ 63) (H : World) (Q : Value → World → Prop) : FW X 16 #[sl o] H Q = Q (joinV (o.getD [])) H := by
  refine FW.aloneEq ?_ Try.func16 Try.ntmps16 rfl (by simp) ?_ H Q
  · simp [X, plainS]
  have hok0 : okPieces (some (o.getD [])) = okPieces o := rfl
  obtain ⟨l, hol⟩ : ∃ l, o.getD [] = l := ⟨_, rfl⟩
  simp [piecesR_eq o hl]
  rw [hol] at hl hok0
  cases hok : okPieces o with
  | false => simp [joinV, hol, joinW1 (hok0.trans hok)]
  | true =>
  have hokl := hok0.trans hok
  simp [hol]
  refine gIf_dec (fun h0 => ?_) (fun h0 => ?_)
  · simp [joinV, hol, joinW2 hokl h0]
  have hpos : 0 < l.length := List.length_pos_iff.2 h0
  have hpos' : 0 < (o.getD []).length := by rw [hol]; exact hpos
  obtain ⟨hl2, hvl⟩ := ok_valid hokl
  simp [hol]
  refine CE.range (m := l.length) (fun k e H' => lk e 0 = sl o ∧ lk e 3 = .string (sB []) ∧ lk e 18 = sl o ∧ ∀ j (hj : j < l.length), j < k → l[j].id = hid l) ?_ hl ?_ ?_ ?_
  · decide
  · simp
  · rintro k e H' hk h1 h2 ⟨h3, h33, h4, h5⟩
    subst hol
    simp [h1, h2, h3, h33, h4, hk, allocX, szO]
    refine WP.draw0 (by decide +kernel) (by decide +kernel) ?_
    simp [h1, h2, h3, h33, h4, hk, hpos, hid_at hpos]
    refine gIf_ndec (fun hi => ?_) (fun hi => ?_)
    · simp [h1, h2, h3, h33, h4]
      intro j hj hj2
      by_cases hjk : j = k
      · subst hjk; exact hi
      · exact h5 j hj (by omega)
    · simp [joinV, joinW3 hokl h0 hk hi]
  · rintro e H' h1 h2 ⟨h3, h33, h4, h5⟩
    have hids : ∀ j (hj : j < l.length), l[j].id = hid l := fun j hj => h5 j hj hj
    simp [h3, hol]
    refine CE.range (m := l.length) (fun k e H' => lk e 0 = sl o ∧ lk e 3 = .string (sB []) ∧ lk e 32 = sl o ∧ lk e 7 = .int .i64 (bodies (l.take k)).length ∧ ∀ j (hj : j < l.length), j < k → okAt l.length j l[j] = true) ?_ hl ?_ ?_ ?_
    · decide
    · simp [h3, h33, bodies]
    · rintro k e H' hk g1 g2 ⟨g3, g33, g4, g7, g5⟩
      subst hol
      have hbb := bodies_bound hokl k (by omega)
      have hvk := hvl k hk
      have hw : IntKind.i64.wrap (((bodies ((o.getD []).take k)).length : Int) + ((o.getD [])[k].body.length : Int)) = ((bodies ((o.getD []).take (k + 1))).length : Int) := by
        rw [wrap64 (by omega) (by omega), bodies_take hk, List.length_append]; omega
      have hw2 : IntKind.i64.wrap (((o.getD []).length : Int) - 1) = ((o.getD []).length : Int) - 1 := wrap64 (by omega) (by omega)
      simp [g1, g2, g3, g33, g4, g7, hk, allocX, szO]
      refine gIf_dec (fun hp => ?_) (fun hp => ?_)
      · simp [g1, g2, g3, g33, g4, g7, hp, hw2]
        refine gIf_nb (fun hm => ?_) (fun hm => ?_)
        · simp [g1, g2, g3, g33, g4, g7, hw]
          intro j hj hj2
          by_cases hjk : j = k
          · subst hjk; simp [okAt, hp, hm]
          · exact g5 j hj (by omega)
        · have hno : okAt (o.getD []).length k (o.getD [])[k] = false := by simp [okAt, hm]
          simp [joinV, joinW4 hokl h0 hids hk hno]
      · have hno : okAt (o.getD []).length k (o.getD [])[k] = false := by simp [okAt, hp]
        simp [joinV, joinW4 hokl h0 hids hk hno, g3, g33, hp]
    · rintro e H' g1 g2 ⟨g3, g33, g4, g7, g5⟩
      have hok2 : ∀ j (hj : j < l.length), okAt l.length j l[j] = true := fun j hj => g5 j hj hj
      rw [List.take_length] at g7
      simp [g1, g2, g3, g33, g4, g7]
      refine gIf_dec (fun hb => ?_) (fun hb => ?_)
      · simp [joinV, hol, joinW5 hokl h0 hids hok2 (by omega)]
      simp [g3, hol]
      refine CE.range (m := l.length) (fun k e H' => lk e 0 = sl o ∧ lk e 61 = sl o ∧ lk e 3 = .string (sB (bodies (l.take k)))) ?_ hl ?_ ?_ ?_
      · decide
      · simp [g3, g33, bodies]
      · rintro k e H' hk r1 r2 ⟨r3, r33, r4⟩
        subst hol
        have hbb := bodies_bound hokl k (by omega)
        have hvk := hvl k hk
        have hadd : (bodies ((o.getD []).take k)).length + (o.getD [])[k].body.length ≤ 9223372036854775807 := by omega
        simp [r1, r2, r3, r33, r4, hk, allocX, szO, bodies_take hk, hadd]
      · rintro e H' r1 r2 ⟨r3, r33, r4⟩
        rw [List.take_length] at r4
        subst hol
        simp [r3, r4, hpos, hid_at hpos, joinV, joinW6 hokl h0 hids hok2 (by omega)]
end Go.Proofs.Ytlpoejkleopdoaa
end
