/- Helpers of this claim: an evaluator over plain values and its laws. -/
import Derived.Test.YtjecafhbhcjoaaaQa
section
set_option linter.unusedVariables false
set_option linter.unusedSimpArgs false
namespace Go.Proofs.Ytjecafhbhcjoaaa
open Go Go.Proofs.Ytjecafhbhcjoaaa.Den
section
variable {H : World} {a b c c2 : Nat} {x y : Lt}
abbrev fn70 : Value := .func (.func 70) #[] #[]
abbrev fn71 : Value := .func (.func 71) #[] #[]
set_option maxRecDepth 100000 in
theorem pri72 (ha : getO H a = some (letO x)) (hb : getO H b = some (letO y)) (hc : getO H c = some (.cells #[fn70] 102 (0, 0))) {Q : Value → World → Prop} (hq : ∀ H', Keep H H' → H.heap.size ≤ H'.heap.size → Q (.int .i64 (lessW 3 x y)) H') : FW X 72 #[p0 a, p0 b, p0 c] H Q := by
  refine FW.walk (by simp [X]) Try.func72 Try.ntmps72 rfl (by simp) ?_
  have hf := fun Q => first70 ha hb Q
  simp
  refine WP.drawP [(0, 15), (1, 15), (2, 15), (3, 15), (4, 15), (5, 15), (6, 15), (7, 15), (8, 15), (9, 15), (10, 15)] (by decide +kernel) (by decide +kernel) ?_
  simp [ha, hb, hc, hf, buildSliceX, inOrder, catCells, szO]
  have hr : getO (pushObj H (.cells #[.int .i64 (IntKind.i64.wrap (y.pri - x.pri)), .int .i64 (numD x y)] 3 (0, 0))) H.heap.size = some (.cells #[.int .i64 (IntKind.i64.wrap (y.pri - x.pri)), .int .i64 (numD x y)] 3 (0, 0)) := by simp
  have h73 := fun Q => or73 hr Q
  simp [h73]
  refine ⟨(Checks.cons rfl rfl rfl ?_ (Checks.cons rfl rfl rfl ?_ (Checks.cons rfl rfl rfl ?_ (Checks.cons rfl rfl rfl ?_ (Checks.cons rfl rfl rfl ?_ (Checks.cons rfl rfl rfl ?_ (Checks.cons rfl rfl rfl ?_ (Checks.cons rfl rfl rfl ?_ (Checks.cons rfl rfl rfl ?_ (Checks.cons rfl rfl rfl ?_ (Checks.cons rfl rfl rfl ?_ .nil))))))))))), ?_⟩
  iterate 11
    · unfold reV
      simp [ha, hb, q_int, q_ptr]
  have := hq (pushObj H (.cells #[.int .i64 (IntKind.i64.wrap (y.pri - x.pri)), .int .i64 (numD x y)] 3 (0, 0))) (fun i o h => by have := getO_lt h; rw [get_push, if_neg (by omega)]; exact h) (by simp)
  simpa [lessW] using this
set_option maxRecDepth 100000 in
theorem unt74 (ha : getO H a = some (letO x)) (hb : getO H b = some (letO y)) (hc2 : getO H c2 = some (.cells #[fn71] 111 (0, 0))) (hc : getO H c = some (.cells #[fn70] 102 (0, 0))) {Q : Value → World → Prop} (hq : ∀ H', Keep H H' → H.heap.size ≤ H'.heap.size → Q (.int .i64 (lessW 4 x y)) H') : FW X 74 #[p0 a, p0 b, p0 c2, p0 c] H Q := by
  refine FW.walk (by simp [X]) Try.func74 Try.ntmps74 rfl (by simp) ?_
  have hf := fun Q => first70 ha hb Q
  have hu := fun Q => until71 ha Q
  have hv := fun Q => until71 hb Q
  simp
  refine WP.drawP [(3, 0), (4, 0), (6, 11), (7, 0), (7, 3), (8, 0), (8, 3), (9, 0), (9, 3)] (by decide +kernel) (by decide +kernel) ?_
  have hr : getO (pushObj H (.cells #[.int .i64 (IntKind.i64.wrap (untW x - untW y)), .int .i64 (numD x y)] 3 (0, 0))) H.heap.size = some (.cells #[.int .i64 (IntKind.i64.wrap (untW x - untW y)), .int .i64 (numD x y)] 3 (0, 0)) := by simp
  have h73 := fun Q => or73 hr Q
  simp [ha, hb, hc, hc2, hf, hu, hv, buildSliceX, inOrder, catCells, szO, h73]
  refine ⟨(Checks.cons rfl rfl rfl ?_ (Checks.cons rfl rfl rfl ?_ (Checks.cons rfl rfl rfl ?_ (Checks.cons rfl rfl rfl ?_ (Checks.cons rfl rfl rfl ?_ (Checks.cons rfl rfl rfl ?_ (Checks.cons rfl rfl rfl ?_ (Checks.cons rfl rfl rfl ?_ (Checks.cons rfl rfl rfl ?_ .nil))))))))), ?_⟩
  iterate 9
    · unfold reV
      simp [hc, hc2, q_int, q_ptr, veq, veq2, Go.Proofs.Ytjecafhbhcjoaaa.Den.veq1, Go.Proofs.Ytjecafhbhcjoaaa.Den.veqA]
  have := hq (pushObj H (.cells #[.int .i64 (IntKind.i64.wrap (untW x - untW y)), .int .i64 (numD x y)] 3 (0, 0))) (fun i o h => by have := getO_lt h; rw [get_push, if_neg (by omega)]; exact h) (by simp)
  simpa [lessW] using this
set_option maxRecDepth 100000 in
theorem rules60 (H : World) {Q : Value → World → Prop} (hq : ∀ H' c c2, Keep H H' → H.heap.size ≤ H'.heap.size → getO H' c = some (.cells #[fn70] 102 (0, 0)) → getO H' c2 = some (.cells #[fn71] 111 (0, 0)) → H.heap.size ≤ c → H.heap.size ≤ c2 →
    Q (.agg #[fn70, fn70, .func (.func 72) #[] #[p0 c], .func (.func 74) #[] #[p0 c2, p0 c]]) H') : FW X 60 #[] H Q := by
  refine FW.walk (by simp [X]) Try.func60 Try.ntmps60 rfl (by simp) ?_
  have n1 : ∀ n : Nat, ¬ n = n + 1 + 1 := fun n => by omega
  have n2 : ∀ n : Nat, ¬ n + 1 = n := fun n => by omega
  have n3 : ∀ n : Nat, ¬ n + 1 + 1 = n := fun n => by omega
  have n4 : ∀ n : Nat, n < n + 1 + 1 + 1 := fun n => by omega
  simp [allocX, szO, buildQ, fillX, Value.cells, overL, n1, n4]
  have key := fun H' => hq H' (H.heap.size + 1) (H.heap.size + 1 + 1)
  refine key _ (fun i o h => ?_) ?_ ?_ ?_ (by omega) (by omega)
  · have := getO_lt h
    simp only [get_set, get_push, size_push, size_set]
    rw [if_neg (by omega), if_neg (by omega), if_neg (by omega), if_neg (by omega), if_neg (by omega), if_neg (by omega)]; exact h
  · simp; omega
  · simp [n1, n2, n3]
  · simp [n1, n2, n3]
end
end Go.Proofs.Ytjecafhbhcjoaaa
end

section
set_option linter.unusedVariables false
set_option linter.unusedSimpArgs false
namespace Go.Proofs.Ytjecafhbhcjoaaa
open Go Go.Proofs.Ytjecafhbhcjoaaa.Den
@[simp] theorem stepY {n : Nat} {dsts : List (Option Tmp)} {l : List Oper} {e : Env} {d : Option Tmp} {K : Env → World → Prop} {r : Nat} {args : Array Value} {H : World} : stepX X n dsts l e d (callX Try.prog (.func (.yield r) #[] #[]) args H) K = yieldW X r args H fun v H2 => OX X n dsts l (putE e d v) H2 K := stepX_yield'
set_option maxRecDepth 100000 in
theorem open44 {pb : Nat} (H : World) (Q : Value → World → Prop) : FW X 44 #[p0 pb] H Q = Q (.func (.func 65) #[] #[p0 H.heap.size]) (pushObj H (.cells #[p0 pb] 32 (0, 0))) := by
  refine FW.eqE (by simp [X]) Try.func44 Try.ntmps44 rfl (by simp) ?_ Q
  simp [szO]
set_option maxRecDepth 100000 in
theorem open65 {l c pb : Nat} {p : PP} {v : Value} {bs : List Nat} (hl : bs.length < 2 ^ 62) (hbl : bs.length = p.all.length) (S : Nat → World → Prop)
    (hb : ∀ k H, S k H → PSt H pb p v bs ∧ getO H c = some (.cells #[p0 pb] 32 (0, 0)))
    (hskip : ∀ k H (hk : k < bs.length), S k H → ¬ (p.all[k]'(hbl ▸ hk)).st = 1 → S (k + 1) H)
    (hyield : ∀ k H (hk : k < bs.length), S k H → (p.all[k]'(hbl ▸ hk)).st = 1 → yieldW X l #[p0 bs[k]] H fun u H' => u = .bool true ∧ S (k + 1) H')
    (H : World) (h0 : S 0 H) : FW X 65 #[.func (.yield l) #[] #[], p0 c] H fun _ H' => S bs.length H' := by
  refine FW.walk (by simp [X]) Try.func65 Try.ntmps65 rfl (by simp) ?_
  obtain ⟨st, hc⟩ := hb 0 H h0
  have hlen := fun H0 => st.hv.len (H0 := H0)
  simp [hc, st.hp, hlen]
  refine CE.range (m := bs.length) (fun k e H' => lk e 0 = .func (.yield l) #[] #[] ∧ lk e 8 = v ∧ S k H') ?_ (by omega) ?_ ?_ ?_
  · decide
  · simp [h0]
  · rintro k e H' hk q1 q2 ⟨e0, e8, hS⟩
    obtain ⟨stk, hck⟩ := hb k H' hS
    obtain ⟨r, cp, cs, rfl, hnc, hr, hcs⟩ := stk.row (by omega)
    have hbs := hcs k hk
    have hlk := stk.look hk
    have hsk := hskip k H' hk hS
    have hyk := hyield k H' hk hS
    generalize p.all[k]'(hbl ▸ hk) = x at *
    by_cases h1 : x.st = 1
    · simp [q1, q2, e0, e8, hr, hk, hbs, hlk, h1]
      refine yieldW.imp (hyk h1) fun u H2 ⟨hu, hS2⟩ => ?_
      subst hu
      simp [q1, q2, e0, e8, hS2]
    · simp [q1, q2, e0, e8, hr, hk, hbs, hlk, h1]
      exact hsk h1
  · rintro e H' q1 q2 ⟨e0, e8, hS⟩
    simp [hS]
end Go.Proofs.Ytjecafhbhcjoaaa
end
