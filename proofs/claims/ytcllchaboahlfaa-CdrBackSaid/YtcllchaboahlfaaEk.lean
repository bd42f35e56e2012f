/- Helpers of this claim: an evaluator over plain values and its laws. -/
import Derived.Test.YtcllchaboahlfaaEj
section
set_option linter.unusedVariables false
set_option linter.unusedSimpArgs false
namespace Go.Proofs.Ytcllchaboahlfaa
open Go Go.Proofs.Ytcllchaboahlfaa.Den
theorem veq_encA (a : Ac) : veq (encA a) (encA a) = true := by
  show veqA [.int .i64 a.kind, .int .i64 a.n, .int .i64 a.m, .string (sB a.s)] [.int .i64 a.kind, .int .i64 a.n, .int .i64 a.m, .string (sB a.s)] = true
  simp [q_cons, q_nil, q1_int, q1_str]
set_option maxRecDepth 100000 in
theorem CdrWrites3 (big : Bool) (at' : Int) (o : Option (List Ac)) (hl : (o.getD []).length < 2 ^ 63) (hs : ∀ a ∈ o.getD [], a.s.length ≤ 140737488351232) (H : World) :
    FW X 3 #[.bool big, .int .i64 at', acts o] H fun v _ => v = .bool true := by
  refine FW.walk (by simp [X]) Try.func3 Try.ntmps3 rfl (by simp) ?_
  simp [light9 o hl]
  cases hlt : lightW (o.getD []) with
  | false => simp [awake_eq]
  | true =>
    obtain ⟨h60, hs3⟩ := light_s hlt hs
    generalize hL : o.getD [] = L at *
    simp
    refine New11 big at' H fun H1 st1 k1 z1 => ?_
    simp
    refine New12 big at' H1 fun H2 st2 k2 z2 => ?_
    have st1' : WSt H2 64 H.heap.size big (atW at') [] (.slice none 0 0) := ⟨k2 _ _ st1.hw, Acc.nil, st1.ap, st1.at0, st1.at7, st1.len⟩
    have two0 : TwoW H2 H.heap.size H1.heap.size big (atW at') [] [] (.slice none 0 0) (.slice none 0 0) :=
      ⟨st1', st2, by omega, fun r n c h => (by cases h), fun r n c h => (by cases h), fun r n c h => (by cases h)⟩
    generalize H.heap.size = wb at *
    generalize H1.heap.size = vb at *
    simp [hL]
    refine CE.range (m := L.length) (fun k e H' => lk e 7 = p0 wb ∧ lk e 8 = p0 vb ∧ lk e 22 = acts o ∧ ∃ out v u, TwoW H' wb vb big (atW at') out out v u) ?_ hl ?_ ?_ ?_
    · decide
    · simp
      exact ⟨_, _, _, two0⟩
    · rintro k e H' hk h1 h2 ⟨h7, h8, h22, out, v, u, two⟩
      simp [h1, h2, h7, h8, h22, hL, hk, allocX, szO]
      refine WP.drawP [(3, 0), (4, 0), (10, 6)] (by decide +kernel) (by decide +kernel) ?_
      have hsk := hs3 _ (List.getElem_mem hk)
      generalize ha : L[k] = a at *
      have twoA := two.push (.cells #[.int .i64 a.kind, .int .i64 a.n, .int .i64 a.m, .string (sB a.s)] 30 (0, 0))
      have gA : getO (pushObj H' (.cells #[.int .i64 a.kind, .int .i64 a.n, .int .i64 a.m, .string (sB a.s)] 30 (0, 0))) H'.heap.size = some (.cells #[.int .i64 a.kind, .int .i64 a.n, .int .i64 a.m, .string (sB a.s)] 30 (0, 0)) := by simp
      have nw := two.w.fresh (i := H'.heap.size) (Nat.le_refl _)
      have nr := two.r.fresh (i := H'.heap.size) (Nat.le_refl _)
      have szA : (pushObj H' (.cells #[.int .i64 a.kind, .int .i64 a.n, .int .i64 a.m, .string (sB a.s)] 30 (0, 0))).heap.size = H'.heap.size + 1 := by simp
      generalize hHA : pushObj H' (.cells #[.int .i64 a.kind, .int .i64 a.n, .int .i64 a.m, .string (sB a.s)] 30 (0, 0)) = HA at *
      generalize hq : H'.heap.size = q at *
      simp [h7, h8, gA]
      refine write13 twoA.w a (by omega) fun v1 H5 w5 f5 => ?_
      have two5 := twoA.left w5 f5
      have g5 := f5.keep _ _ gA nw.2 nw.1
      simp [h8, g5]
      refine wrote14 two5.r a (by omega) fun u1 H6 r6 f6 => ?_
      have two6 := two5.right r6 f6
      have g6 := f6.keep _ _ g5 nr.2 nr.1
      simp [h7, h8, Place15 two6.w, Place16 two6.r]
      refine ⟨Checks.cons rfl rfl rfl ?_ (Checks.cons rfl rfl rfl ?_ (Checks.cons rfl rfl rfl ?_ .nil)), h1, h2, h22, _, _, _, two6⟩
      iterate 3
        · unfold reV
          simp [h7, h8, gA, g5, q_ptr, veq_encA]
    · rintro e H' h1 h2 ⟨h7, h8, h22, out, v, u, two⟩
      simp [h7, h8, All17 two.w, All18 two.r, nilOctet]
      refine nilPut 0 1 H' fun H3 k3 => ?_
      simp [nilPlace, nilAll, awake_eq]
end Go.Proofs.Ytcllchaboahlfaa
end
