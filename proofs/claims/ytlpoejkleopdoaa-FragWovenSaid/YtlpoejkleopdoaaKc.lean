/- Helpers of this claim: an evaluator over plain values and its laws. -/
import Derived.Test.YtlpoejkleopdoaaKb
section
set_option linter.unusedVariables false
set_option linter.unusedSimpArgs false
namespace Go.Proofs.Ytlpoejkleopdoaa
open Go Go.Proofs.Ytlpoejkleopdoaa.Den
theorem addLL {H : World} {v : Value} {L : LL} (h : Den.Acc H v 1 24 L.length (L.map sl)) (hl : L.length ≤ 2 ^ 21) (x : Option (List Pc)) : ∃ v' H', builtinX Try.prog .append #[22, 22] #[v, .slice (some ⟨H.heap.size, 0, none⟩) 1 1] (pushObj H (.cells #[sl x] 24 (0, 0))) = some (.value v', H') ∧
    Den.Acc H' v' 1 24 (L ++ [x]).length ((L ++ [x]).map sl) := by
  obtain ⟨v', H', e1, acc', keepO, hsz, hap⟩ := Acc.append Try.prog (t1 := 22) (t2 := 22) (Acc.push h (.cells #[sl x] 24 (0, 0))) Try.underlying22 (by simp) info24 zero24 rfl rfl (by decide) (by decide) (by decide)
    (SrcX.row (r := H.heap.size) (n := 1) (c := 1) (cs := [sl x]) (e := 24) (fr := (0, 0)) (by simp) rfl) rfl (by cases x <;> rfl) (by simp [bytes24]; omega)
  refine ⟨v', H', e1, ?_⟩
  rw [List.map_append, List.length_append]
  exact acc'
theorem cut_made {k : Int} (h0 : 0 ≤ k) (h1 : k ≤ 1000) {bd : List UInt8} (hb : bd.length ≤ 100) {n : Int} (hn : 1 ≤ n ∧ n ≤ 100) : cutW k bd n = (some (madeW k (fun _ => n) 0 bd), 0) := by
  unfold cutW
  rw [if_pos (by simp [msgW]; omega), if_pos (by simp [sizedW]; omega)]
theorem zerosB (n : Nat) : zerosX n [Value.bool false] = (List.replicate n false).map Value.bool := by
  induction n with
  | zero => rfl
  | succ n ih => simp only [zerosX, List.replicate_succ, List.flatten_cons, List.map_cons] at ih ⊢; rw [ih]; rfl
theorem nodup_at {l : List Int} (h : l.Nodup) {i j : Nat} (hi : i < l.length) (hj : j < l.length) (e : l[i] = l[j]) : i = j :=
  (List.getElem_inj h).1 e
set_option maxRecDepth 100000 in
theorem Woven7 (bs : Option (List (List UInt8))) (ss ts : Option (List Int)) (hlb : (bs.getD []).length < 2 ^ 63) (hls : (ss.getD []).length < 2 ^ 63) (hlt : (ts.getD []).length < 2 ^ 63) (H : World) :
    FW X 7 #[txts bs, ints ss, ints ts] H fun v H' => v = .bool true := by
  refine FW.walk (by simp [X]) Try.func7 Try.ntmps7 rfl (by simp) ?_
  simp [awake_eq]
  by_cases hg : (bs.getD []).length < 1 ∨ 10 < (bs.getD []).length ∨ (ss.getD []).length < 1 ∨ 300 < (ts.getD []).length
  · repeat' (first | refine gIf_dec (fun h => ?_) (fun h => ?_) | refine gIf_ndec (fun h => ?_) (fun h => ?_) | refine gIf_nb (fun h => ?_) (fun h => ?_) | refine gIf_split (fun h => ?_) (fun h => ?_) | (exfalso; omega; done) | (simp [*]; done) | (simp [awake_eq, *]; done) | simp [awake_eq, *])
  · obtain ⟨g1, g2, g3, g4⟩ : ¬ ((bs.getD []).length : Int) < 1 ∧ ¬ 10 < ((bs.getD []).length : Int) ∧ ¬ ((ss.getD []).length : Int) < 1 ∧ ¬ 300 < ((ts.getD []).length : Int) := by omega
    simp [g1, g2, g3, g4]
    generalize hB : bs.getD [] = B at *
    generalize hS : ss.getD [] = S at *
    generalize hT : ts.getD [] = T at *
    refine CE.range (m := T.length) (fun k e H' => H' = H ∧ lk e 0 = txts bs ∧ lk e 1 = ints ss ∧ lk e 2 = ints ts ∧ lk e 44 = ints ts ∧ ∀ j (hj : j < T.length), j < k → 0 ≤ T[j]) ?_ hlt ?_ ?_ ?_
    · decide
    · simp
    · rintro k e H' hk h1 h2 ⟨rfl, h3, h4, h5, h6, h7⟩
      simp [h1, h2, h3, h4, h5, h6, hk, hT]
      refine gIf_dec (fun hn => ?_) (fun hn => ?_)
      · simp [awake_eq]
      · simp [h1, h2, h3, h4, h5, h6]
        intro j hj hj2
        by_cases hjk : j = k
        · subst hjk; omega
        · exact h7 j hj (by omega)
    · rintro e H' h1 h2 ⟨rfl, h3, h4, h5, h6, h7⟩
      simp [h3, h4, h5, hB]
      refine CE.range (m := B.length) (fun k e H' => lk e 0 = txts bs ∧ lk e 1 = ints ss ∧ lk e 2 = ints ts ∧ lk e 54 = txts bs ∧ lk e 10 = .int .i64 (sumB B k) ∧ (∃ v, lk e 9 = v ∧ Den.Acc H' v 1 24 k ((cutL B S k).map sl)) ∧ sumB B k ≤ k * 100 ∧ ∀ j, j < k → okB B S j) ?_ hlb ?_ ?_ ?_
      · decide
      · simp [h3, h4, h5]
        exact ⟨rfl, Acc.nil, by simp [sumB]⟩
      · rintro k e H' hk h1 h2 ⟨h3, h4, h5, h54, h10, ⟨v, h9, acc⟩, hsl, hok⟩
        obtain ⟨m, hm⟩ : ∃ m, m = k % S.length := ⟨_, rfl⟩
        have hmlt : m < S.length := by rw [hm]; exact Nat.mod_lt _ (by omega)
        have hmod : (k : Int).tmod (S.length : Int) = (m : Int) := by rw [hm]; rfl
        have hmg : S[m] = sizeAt S k := by
          unfold sizeAt
          rw [List.getD_eq_getElem?_getD, ← hm, List.getElem?_eq_getElem hmlt]; rfl
        generalize hsz : sizeAt S k = sz at *
        have hBk : B.getD k [] = B[k] := by rw [List.getD_eq_getElem?_getD, List.getElem?_eq_getElem hk]; rfl
        have hS0 : ¬ S.length = 0 := by omega
        have hS1 : ¬ S = [] := fun h => hS0 (by rw [h]; rfl)
        simp [h1, h2, h3, h4, h5, h54, h10, h9, hk, hB, hS, hmod, hmlt, hmg, hS0, hS1]
        have hk1 : IntKind.i64.wrap ((k : Int) + 1) = (k : Int) + 1 := wrap64 (by omega) (by omega)
        by_cases hbad : 100 < (B[k].length : Int) ∨ sz < 1 ∨ 100 < sz
        · repeat' (first | refine gIf_dec (fun h => ?_) (fun h => ?_) | refine gIf_ndec (fun h => ?_) (fun h => ?_) | (exfalso; omega; done) | (simp [*]; done) | (simp [awake_eq, *]; done) | simp [awake_eq, *])
        · obtain ⟨b1, b2, b3⟩ : ¬ 100 < (B[k].length : Int) ∧ ¬ sz < 1 ∧ ¬ 100 < sz := by omega
          have hcut := cut_made (k := (k : Int) + 1) (by omega) (by omega) (bd := B[k]) (by omega) (n := sz) (by omega)
          have hpc : madeW ((k : Int) + 1) (fun _ => sz) 0 B[k] = pcsW B S k := by unfold pcsW; rw [hsz, hBk]
          rw [hpc] at hcut
          obtain ⟨v', H2, e1, acc'⟩ := addLL (L := cutL B S k) (by rw [cutL_len]; exact acc) (by rw [cutL_len]; omega) (some (pcsW B S k))
          simp only [sl, Option.map_some] at e1
          have hsum := sumB_succ hk
          have hsw : IntKind.i64.wrap ((sumB B k : Int) + (B[k].length : Int)) = ((sumB B (k + 1) : Nat) : Int) := by rw [wrap64 (by omega) (by omega)]; omega
          simp [b1, b2, b3, hk1, Cut19, hcut, h9, h10, buildSliceX, inOrder, catCells, szO, e1, h10, hsw, h1, h2, h3, h4, h5, h54]
          refine ⟨?_, by omega, fun j hj => ?_⟩
          · rw [cutL_succ]
            rw [List.length_append, cutL_len] at acc'
            exact acc'
          · by_cases hjk : j = k
            · subst hjk
              exact ⟨by rw [hBk]; omega, by omega, by omega⟩
            · exact hok j (by omega)
      · rintro e H' h1 h2 ⟨h3, h4, h5, h54, h10, ⟨v, h9, acc⟩, hsl, hok⟩
        have hB1 : 1 ≤ B.length := by omega
        have hB10 : B.length ≤ 10 := by omega
        obtain ⟨ids, hall, hid1, hid2, hid3⟩ := all_woven T hB1 hB10 hok
        have hokA := ok_cutL hB10 hok
        have htot := total_cutL hok B.length (Nat.le_refl _)
        have hclen := cutL_len B S B.length
        have hneg : (T.any fun n => decide (n < 0)) = false := by
          rw [List.any_eq_false]
          intro x hx
          obtain ⟨j, hj, rfl⟩ := List.getElem_of_mem hx
          have := h7 j hj hj
          simp; omega
        have hres : resW (some (cutL B S B.length)) ts = (opt (weaveW T (lists (cutL B S B.length))), 0) := by
          unfold resW
          simp only [Option.getD_some, hT]
          rw [if_pos hokA, if_pos ⟨by omega, by omega, hneg⟩]
        have hwl : (weaveW T (lists (cutL B S B.length))).length ≤ totalW (lists (cutL B S B.length)) := seqW_le _ _ _
        have hweave : ∀ Q, FW X 10 #[v, ints ts] H' Q = Q (.tuple #[sl (opt (weaveW T (lists (cutL B S B.length)))), .int .i64 0]) H' := by
          have fa := Weave10A (some (cutL B S B.length)) ts (by simp only [Option.getD_some]; omega) (fun x hx => by
            have := le_total hx
            simp only [Option.getD_some] at this; omega) (by rw [hT]; omega)
          rw [hres] at fa
          refine fa_eq fa (by simp [X]) ?_
          have acc2 : Den.Acc H' v 1 24 (cutL B S B.length).length ((cutL B S B.length).map sl) := by rw [hclen]; exact acc
          have hst := Acc.strip_one (P := Try.prog) (d := 11) (xs := cutL B S B.length) (enc := sl) acc2 Try.underlying24 rfl info24 rfl (fun x => ⟨plain_of (d := 2) (plain_slMap plainP x) (by decide), by cases x <;> rfl⟩)
          show stripAll (strip deep Try.prog H') [v, ints ts] = _
          have hne : ¬ cutL B S B.length = [] := fun h => by rw [h] at hclen; simp at hclen; omega
          rw [stripAll_cons, stripAll_cons, strip_plain _ _ _ _ (plainI ts), show deep = 11 + 1 from rfl, hst, if_neg hne]
          rfl
        generalize weaveW T (lists (cutL B S B.length)) = w at *
        have hgd : (opt w).getD [] = w := by unfold opt; split <;> simp [*]
        have hAll := fun Q => All23 (opt w) B.length ((sumB B B.length : Nat) + 1) (by rw [hgd]; omega) H' Q
        rw [hgd, hall] at hAll
        have hsw : IntKind.i64.wrap ((sumB B B.length : Int) + 1) = (sumB B B.length : Int) + 1 := wrap64 (by omega) (by omega)
        have hidn : ¬ ids = [] := fun h => by rw [h] at hid1; simp at hid1; omega
        have hmapn : ¬ ids.map (bodyOf B) = [] := by simpa using hidn
        simp only [allV, if_neg hidn, if_neg hmapn] at hAll
        have hLI : (B.length : Int) ≤ 4294967296 := by omega
        generalize hr9 : H'.heap.size = rn
        simp [h3, h4, h5, h54, h10, h9, hweave, hsw, hAll, hB, hid1, makeSliceX, hLI, szO, hr9]
        refine CE.range (m := B.length) (fun k e H' => lk e 0 = txts bs ∧ lk e 143 = ints (some ids) ∧ lk e 19 = txts (some (ids.map (bodyOf B))) ∧ lk e 22 = hp rn B.length B.length ∧
          ∃ M : List Bool, getO H' rn = some (.cells (M.map Value.bool).toArray 4 (0, 0)) ∧ M.length = B.length ∧ ∀ j (hj : j < M.length), M[j] = true → ∃ i, ∃ (hi : i < ids.length), i < k ∧ ids[i] = (j : Int) + 1) ?_ hlb ?_ ?_ ?_
        · decide
        · simp [h3]
          refine ⟨List.replicate B.length false, ?_, by simp, fun j hj => by simp⟩
          rw [← zerosB]; simp [← hr9]
        · rintro k e H' hk h1 h2 ⟨h3, h143, h19, h22, M, hM, hMl, hMt⟩
          have hki : k < ids.length := by omega
          obtain ⟨i1, i2⟩ := hid3 _ (List.getElem_mem hki)
          obtain ⟨x, hx⟩ : ∃ x : Nat, ids[k] = (x : Int) + 1 := ⟨(ids[k] - 1).toNat, by omega⟩
          have hxl : x < B.length := by omega
          have hxm : x < M.length := by omega
          have hMx : M[x] = false := by
            cases hmx : M[x] with
            | false => rfl
            | true =>
              obtain ⟨i, hi, hik, e2⟩ := hMt x hxm hmx
              have := nodup_at hid2 hi hki (by rw [e2, hx])
              omega
          have hxw : IntKind.i64.wrap (x : Int) = (x : Int) := wrap64 (by omega) (by omega)
          have hbo : bodyOf B ((x : Int) + 1) = B[x] := by
            unfold bodyOf
            rw [show ((x : Int) + 1 - 1).toNat = x by omega, List.getD_eq_getElem?_getD, List.getElem?_eq_getElem hxl]; rfl
          have hx1 : x + 1 ≤ B.length := hxl
          have rnlt := getO_lt hM
          have c1 : ¬ ((x : Int) + 1 < 1) := by omega
          have c2 : ¬ ((B.length : Int) < (x : Int) + 1) := by omega
          simp [h1, h2, h3, h143, h19, h22, hk, hki, hx]
          refine WP.draw0 (by decide +kernel) (by decide +kernel) ?_
          simp [h1, h2, h3, h143, h19, h22, hk, hki, hx, hM, hMl, hMx, hxw, hbo, c1, c2, hB, hxl, hxm, hx1, rnlt]
          refine ⟨M.set x true, ?_, by simpa using hMl, fun j hj hjt => ?_⟩
          · rw [List.map_set]
          · rw [List.getElem_set] at hjt
            split at hjt
            · rename_i hxj
              subst hxj
              exact ⟨k, by omega, hki, hx⟩
            · obtain ⟨i, hi, hik, e2⟩ := hMt j (by simpa using hj) hjt
              exact ⟨i, by omega, hi, e2⟩
        · rintro e H' h1 h2 ⟨h3, h143, h19, h22, M, hM, hMl, hMt⟩
          simp [awake_eq]
end Go.Proofs.Ytlpoejkleopdoaa
end
