/- Helpers of this claim: an evaluator over plain values and its laws. -/
import Derived.Test.YtlpoejkleopdoaaCb
section
set_option linter.unusedVariables false
set_option linter.unusedSimpArgs false
namespace Go.Proofs.Ytlpoejkleopdoaa
open Go Go.Proofs.Ytlpoejkleopdoaa.Den
/-- How Weave stands: the lists that are left, what is out. -/
structure WSt (H : World) (s : WS) (ls : List (Option (List Pc))) (c : Nat) (v : Value) : Prop where
  hs : ls.map (·.getD []) = s.1
  hc : ls.length ≤ c
  hc2 : c ≤ 100
  h0 : getO H 0 = some (.cells #[hp 3 ls.length c] 22 (0, 0))
  h3 : getO H 3 = some (rowL ls c)
  h1 : getO H 1 = some (.cells #[keep] 25 (0, 0))
  h4 : getO H 4 = some (.cells #[v] 24 (0, 0))
  acc : Acc H v 4 33 s.2.length ((s.2.map encP).flatMap fun v => v.cells.toList)
  a0 : Apart v 0
  a1 : Apart v 1
  a3 : Apart v 3
  a4 : Apart v 4
abbrev p0 (r : Nat) : Value := .pointer (some ⟨r, 0, none⟩)
theorem row_set {ls : List (Option (List Pc))} {c i : Nat} {o : Option (List Pc)} (hi : i < ls.length) : ((ls.map sl ++ List.replicate (c - ls.length) nil0).set i (sl o)) = (ls.set i o).map sl ++ List.replicate (c - (ls.set i o).length) nil0 := by
  rw [List.set_append_left _ _ (by simpa using hi)]
  simp
theorem neO_map (ls : List (Option (List Pc))) : (neO ls).map (·.getD []) = neL (ls.map (·.getD [])) := by
  unfold neO neL
  rw [List.filter_map]
  congr 1
  apply List.filter_congr
  intro o _
  cases h : o.getD [] <;> simp [h]
set_option maxRecDepth 100000 in
theorem next33 {H : World} {s : WS} {ls : List (Option (List Pc))} {c : Nat} {v : Value} (st : WSt H s ls c v) {i : Nat} (hi : i < s.1.length) (hne : ∀ x ∈ s.1, x ≠ []) (hroom : s.2.length ≤ 2 ^ 20) {Q : Value → World → Prop}
    (hq : ∀ v H' ls' v', WSt H' (nextW i s) ls' c v' → Q v H') : FW X 33 #[.int .i64 i, p0 4, p0 0, p0 1] H Q := by
  obtain ⟨hs, hc, hc2, h0, h3, h1, h4, acc, a0, a1, a3, a4⟩ := st
  have hil : i < ls.length := by rw [← hs] at hi; simpa using hi
  obtain ⟨p, t, hp1, hp2⟩ := nextW_at hne hi
  have hli : ls[i].getD [] = p :: t := by
    rw [← hs] at hp1
    simp only [List.getElem?_map, List.getElem?_eq_getElem hil, Option.map_some] at hp1
    injection hp1
  obtain ⟨xs, hxs⟩ : ∃ xs, ls[i] = some xs := by
    cases h : ls[i] with
    | none => rw [h] at hli; cases hli
    | some xs => exact ⟨xs, rfl⟩
  rw [hxs] at hli
  simp only [Option.getD_some] at hli
  subst hli
  have hcell : (ls.map sl ++ List.replicate (c - ls.length) nil0)[i]? = some (sl (some (p :: t))) := by
    rw [List.getElem?_append_left (by simpa using hil)]; simp [hil, hxs]
  have hiI : (i : Int) < ls.length := by omega
  have l0 := getO_lt h0
  have l1 := getO_lt h1
  have l3 := getO_lt h3
  have l4 := getO_lt h4
  unfold rowL at h3
  have hP : (pushObj H (.cells #[.int .i64 p.id, .int .i64 p.place, .bool p.more, .string (sB p.body)] 33 (0, 0))).heap.size = H.heap.size + 1 := by simp
  obtain ⟨v', H', e1, acc', keepO, hsz, hap⟩ := Acc.append Try.prog (t1 := 24) (t2 := 24) (acc.push (.cells #[.int .i64 p.id, .int .i64 p.place, .bool p.more, .string (sB p.body)] 33 (0, 0))) Try.underlying24 (by simp) info33 zero33 rfl rfl (by decide) (by decide) (by decide)
    (SrcX.row (r := H.heap.size) (n := 1) (c := 1) (cs := [.int .i64 p.id, .int .i64 p.place, .bool p.more, .string (sB p.body)]) (e := 33) (fr := (0, 0)) (by simp) rfl) rfl (by simp) (by simp [bytes33]; omega)
  have g0 := keepO 0 _ (by rw [get_push, if_neg (by omega)]; exact h0) a0
  have g1 := keepO 1 _ (by rw [get_push, if_neg (by omega)]; exact h1) a1
  have g3 := keepO 3 _ (by rw [get_push, if_neg (by omega)]; exact h3) a3
  have g4 := keepO 4 _ (by rw [get_push, if_neg (by omega)]; exact h4) a4
  have b0 := hap 0 a0 (by rw [hP]; omega)
  have b1 := hap 1 a1 (by rw [hP]; omega)
  have b3 := hap 3 a3 (by rw [hP]; omega)
  have b4 := hap 4 a4 (by rw [hP]; omega)
  have m0 := getO_lt g0
  have m1 := getO_lt g1
  have m3 := getO_lt g3
  have m4 := getO_lt g4
  obtain ⟨c1, c2⟩ := acc'.one
  refine FW.walk (by simp [X]) Try.func33 Try.ntmps33 rfl (by simp) ?_
  simp
  refine WP.drawP [(0, 8)] (by decide +kernel) (by decide +kernel) ?_
  simp [h0, h1, h3, h4, hil, hiI, hcell, buildSliceX, inOrder, catCells, szO]
  simp [e1, c1, c2, g4, m4, l4, g0, g1, g3]
  refine ⟨Checks.cons rfl rfl rfl ?_ .nil, ?_⟩
  · unfold reV
    have hv := acc.veq
    have : ¬ 4 = H.heap.size := by omega
    simp [h4, this, hv]
  refine WP.draw0 (by decide +kernel) (by decide +kernel) ?_
  have hs1 : ∀ H, sliceX Try.prog 24 (sl (some (p :: t))) (some (.int .i64 1)) none none H = some (.value (sl (some t)), H) := fun H => by
    have := slice_vs Try.prog (t := 24) (e := 33) (es := 4) (l := 1) (h := (p :: t).length) (lo := some (.int .i64 1)) (hi := none) (xs := (p :: t).map encP) (inf := Try.t33) (H := H) Try.underlying24 info33 rfl (by simp [vBound]) (by simp [vBound]; omega)
    have e : (((p :: t).map encP).take (p :: t).length).drop 1 = t.map encP := by rw [List.take_of_length_le (by simp)]; rfl
    rw [e] at this
    exact this
  have hic : i + 1 ≤ ls.length + (c - ls.length) := by omega
  have hrs : (Obj.cells ((ls.map sl).set i (slV 4 (some (t.map encP))) ++ List.replicate (c - ls.length) nil0).toArray 24 (1, 0)) = rowL (ls.set i (some t)) c := by
    unfold rowL
    rw [List.length_set, List.map_set]; rfl
  have hlen : (ls.set i (some t)).length = ls.length := by simp
  have hD := fun (H : World) (hr : getO H 3 = some (rowL (ls.set i (some t)) c)) => Delete31 (ls.set i (some t)) 3 c H hr (by simpa using hc) (by omega)
  rw [hlen] at hD
  simp [g0, g1, g3, g4, m0, m1, m3, m4, hil, hiI, hcell, hs1, hic, hrs]
  rw [hD _ (by simp [m3])]
  simp [g0, g1, g3, g4, m0, m1, m3, m4]
  refine hq _ _ (neO (ls.set i (some t))) v' ?_
  rw [hp2]
  refine ⟨?_, ?_, hc2, by simp [m0], by simp [m3], by simp [g1], by simp [m4], ?_, b0, b1, b3, b4⟩
  · rw [neO_map, List.map_set, hs]; rfl
  · have := neO_len_le (ls.set i (some t)); rw [hlen] at this; omega
  · have : ((s.2 ++ [p]).map encP).flatMap (fun v => v.cells.toList) = ((s.2.map encP).flatMap fun v => v.cells.toList) ++ [.int .i64 p.id, .int .i64 p.place, .bool p.more, .string (sB p.body)] := by simp
    simp only [this, List.length_append, List.length_cons, List.length_nil]
    exact ((acc'.set _ b4).set _ b3).set _ b0
end Go.Proofs.Ytlpoejkleopdoaa
end
