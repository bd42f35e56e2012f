/- Helpers of this claim: an evaluator over plain values and its laws. -/
import Derived.Test.YtlpoejkleopdoaaCq
section
set_option linter.unusedVariables false
set_option linter.unusedSimpArgs false
namespace Go.Proofs.Ytlpoejkleopdoaa
open Go Go.Proofs.Ytlpoejkleopdoaa.Den
set_option maxRecDepth 100000 in
theorem call36 {l : List Pc} (hpos : 0 < l.length) {b : Nat} {o : Option (List Pc)} (hol : o.getD [] = l) (x : Pc) {H : World} (h : getO H b = some (.cells #[sl o] 24 (0, 0))) {Q : Value → World → Prop} (hq : ∀ H', Keep H H' → Q (.bool (!decide (x.id = hid l))) H') : FW X 36 (#[encP x] ++ #[p0 b]) H Q := by
  refine FW.walk (by simp [X]) Try.func36 Try.ntmps36 rfl (by simp) ?_
  have hb := getO_lt h
  have hb2 : ¬ b = H.heap.size := by omega
  subst hol
  simp [szO]
  refine WP.draw0 (by decide +kernel) (by decide +kernel) ?_
  simp [h, hb2, hpos, hid_at hpos]
  exact hq _ (Keep.refl.push _)
/-- Bytes appended. -/
theorem AccB.add {H : World} {v : Value} {xs : List UInt8} (h : AccB 5 H v xs) (ys : List UInt8) (hl : xs.length + ys.length ≤ 2 ^ 40) : ∃ v' H', builtinX Try.prog .append #[57, 9] #[v, .string (sB ys)] H = some (.value v', H') ∧
    AccB 5 H' v' (xs ++ ys) ∧ (∀ i o, getO H i = some o → Apart v i → getO H' i = some o) ∧ H.heap.size ≤ H'.heap.size ∧ (∀ i, Apart v i → i < H.heap.size → Apart v' i) := by
  obtain ⟨v', H', e1, acc', keepO, hsz, hap⟩ := Acc.append Try.prog (t1 := 57) (t2 := 9) h Try.underlying57 (by simp) info5 zero5 rfl rfl (by decide) (by decide) (by decide)
    (SrcX.string (P := Try.prog) (l := ys) (H := H)) (by simp) (by simp) (by simp [bytes5]; omega)
  refine ⟨v', H', e1, ?_, keepO, hsz, hap⟩
  unfold AccB
  rw [List.map_append, List.length_append]
  exact acc'
set_option maxRecDepth 100000 in
theorem Join15 (o : Option (List Pc)) (hl : (o.getD []).length < 2 ^ 63) (H : World) (Q : Value → World → Prop) : FW X 15 #[sl o] H Q = Q (joinV (o.getD [])) H := by
  refine FW.aloneEq ?_ Try.func15 Try.ntmps15 rfl (by simp) ?_ H Q
  · simp [X, plainS]
  have hok0 : okPieces (some (o.getD [])) = okPieces o := rfl
  obtain ⟨l, hol⟩ : ∃ l, o.getD [] = l := ⟨_, rfl⟩
  have hl' := hl
  rw [hol] at hl hok0
  simp [pieces_eq o hl', szO]
  cases hok : okPieces o with
  | false => simp [joinV, hol, joinW1 (hok0.trans hok)]
  | true =>
  have hokl := hok0.trans hok
  simp [hol]
  refine gIf_dec (fun h0 => ?_) (fun h0 => ?_)
  · simp [joinV, hol, joinW2 hokl h0]
  have hpos : 0 < l.length := List.length_pos_iff.2 h0
  have hpos' : 0 < (o.getD []).length := by rw [hol]; exact hpos
  obtain ⟨hl2, hvl⟩ := ok_valid hokl
  simp
  refine Contains35G (g := 36) (caps := #[p0 0]) (by simp) (fun x => !decide (x.id = hid l)) o hl' _ ?_ ?_
  · intro x H1 hK Q hq
    exact call36 hpos hol x (hK 0 _ (by simp)) hq
  intro H1 hK
  have b0 : getO H1 0 = some (.cells #[sl o] 24 (0, 0)) := hK 0 _ (by simp)
  rw [hol]
  simp
  refine gIf_split (fun hany => ?_) (fun hany => ?_)
  · obtain ⟨x, hx, hxi⟩ := List.any_eq_true.1 hany
    obtain ⟨j, hj, rfl⟩ := List.getElem_of_mem hx
    simp [joinV, hol, joinW3 hokl h0 hj (by simpa using hxi)]
  have hids : ∀ j (hj : j < l.length), l[j].id = hid l := fun j hj => by
    have := List.any_eq_false.1 hany _ (List.getElem_mem hj)
    simpa using this
  simp [b0, hol]
  refine CE.range (m := l.length) (fun k e H' => getO H' 0 = some (.cells #[sl o] 24 (0, 0)) ∧ lk e 1 = p0 0 ∧ lk e 23 = sl o ∧ lk e 6 = .int .i64 (bodies (l.take k)).length ∧ ∀ j (hj : j < l.length), j < k → okAt l.length j l[j] = true) ?_ hl ?_ ?_ ?_
  · decide
  · simp [b0, bodies]
  · rintro k e H' hk g1 g2 ⟨g0, g3, g4, g7, g5⟩
    subst hol
    have hbb := bodies_bound hokl k (by omega)
    have hvk := hvl k hk
    have hw : IntKind.i64.wrap (((bodies ((o.getD []).take k)).length : Int) + ((o.getD [])[k].body.length : Int)) = ((bodies ((o.getD []).take (k + 1))).length : Int) := by
      rw [wrap64 (by omega) (by omega), bodies_take hk, List.length_append]; omega
    have hw2 : IntKind.i64.wrap (((o.getD []).length : Int) - 1) = ((o.getD []).length : Int) - 1 := wrap64 (by omega) (by omega)
    have l0 := getO_lt g0
    have n0 : ¬ 0 = H'.heap.size := by omega
    simp [g0, g1, g2, g3, g4, g7, hk, allocX, szO, n0]
    refine gIf_dec (fun hp => ?_) (fun hp => ?_)
    · simp [g0, g1, g2, g3, g4, g7, hp, hw2, n0]
      refine gIf_nb (fun hm => ?_) (fun hm => ?_)
      · simp [g0, g1, g2, g3, g4, g7, hw, n0]
        intro j hj hj2
        by_cases hjk : j = k
        · subst hjk; simp [okAt, hp, hm]
        · exact g5 j hj (by omega)
      · have hno : okAt (o.getD []).length k (o.getD [])[k] = false := by simp [okAt, hm]
        simp [joinV, joinW4 hokl h0 hids hk hno]
    · have hno : okAt (o.getD []).length k (o.getD [])[k] = false := by simp [okAt, hp]
      simp [joinV, joinW4 hokl h0 hids hk hno, hp]
  · rintro e H' g1 g2 ⟨g0, g3, g4, g7, g5⟩
    have hok2 : ∀ j (hj : j < l.length), okAt l.length j l[j] = true := fun j hj => g5 j hj hj
    rw [List.take_length] at g7
    simp [g1, g2, g3, g4, g7]
    refine gIf_dec (fun hb => ?_) (fun hb => ?_)
    · simp [joinV, hol, joinW5 hokl h0 hids hok2 (by omega)]
    simp [g0, g3, hol]
    refine CE.range (m := l.length) (fun k e H' => getO H' 0 = some (.cells #[sl o] 24 (0, 0)) ∧ lk e 1 = p0 0 ∧ lk e 52 = sl o ∧ ∃ v, lk e 9 = v ∧ AccB 5 H' v (bodies (l.take k)) ∧ Apart v 0) ?_ hl ?_ ?_ ?_
    · decide
    · refine ⟨by simp, by simp, g0, by simp [g3], by simp, nil0, by simp, ?_, fun _ _ _ h => by cases h⟩
      exact Acc.nil
    · rintro k e H' hk r1 r2 ⟨r0, r3, r4, v, r9, acc, ap⟩
      subst hol
      have hbb := bodies_bound hokl k (by omega)
      have hvk := hvl k hk
      have l0 := getO_lt r0
      have n0 : ¬ 0 = H'.heap.size := by omega
      obtain ⟨v', H5, e1, acc', keepO, hsz, hap⟩ := AccB.add (H := pushObj H' (.cells #[.int .i64 (o.getD [])[k].id, .int .i64 (o.getD [])[k].place, .bool (o.getD [])[k].more, .string (sB (o.getD [])[k].body)] 33 (0, 0))) (Acc.push acc _) (o.getD [])[k].body (by omega)
      have r0' := keepO 0 _ (by rw [get_push, if_neg (by omega)]; exact r0) ap
      rw [← bodies_take hk] at acc'
      simp [r0, r1, r2, r3, r4, r9, hk, allocX, szO, n0, e1]
      exact ⟨r0', acc', hap 0 ap (by simp)⟩
    · rintro e H' r1 r2 ⟨r0, r3, r4, v, r9, acc, ap⟩
      rw [List.take_length] at acc
      subst hol
      have hcv := conv_bytes (P := Try.prog) (src := 57) (dst := 9) Try.underlying57 Try.underlying5 Try.underlying9 acc
      simp
      refine WP.draw0 (by decide +kernel) (by decide +kernel) ?_
      simp [r0, r3, r9, hpos, hid_at hpos, hcv, joinV, joinW6 hokl h0 hids hok2 (by omega)]
end Go.Proofs.Ytlpoejkleopdoaa
end
