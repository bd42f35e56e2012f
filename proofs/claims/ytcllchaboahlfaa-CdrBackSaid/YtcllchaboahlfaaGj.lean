/- Helpers of this claim: an evaluator over plain values and its laws. -/
import Derived.Test.YtcllchaboahlfaaGi
section
set_option linter.unusedVariables false
set_option linter.unusedSimpArgs false
namespace Go.Proofs.Ytcllchaboahlfaa
open Go Go.Proofs.Ytcllchaboahlfaa.Den
deriving instance DecidableEq for Td
theorem eqFsT (p q : Td) : eqFs Try.prog [{ name := "n", type := 3, offset := 0, embedded := false, tag := "", pkgPath := "intermede/intermedelaw01", byteOffset := 0 },
        { name := "s", type := 9, offset := 1, embedded := false, tag := "", pkgPath := "intermede/intermedelaw01", byteOffset := 8 },
        { name := "e", type := 31, offset := 2, embedded := false, tag := "", pkgPath := "intermede/intermedelaw01", byteOffset := 24 }] #[.int .i64 p.n, .string (sB p.s), .int .i64 p.e] #[.int .i64 q.n, .string (sB q.s), .int .i64 q.e] = some (decide (p = q)) := by
  have e : ∀ (a1 b1 : Int) (a2 b2 : List UInt8) (a3 b3 : Int), decide ((⟨a1, a2, a3⟩ : Td) = ⟨b1, b2, b3⟩) = (decide (a1 = b1) && (decide (a2 = b2) && decide (a3 = b3))) := by
    intros; simp [Td.mk.injEq, decide_eq_decide, Bool.decide_and]
  obtain ⟨a1, a2, a3⟩ := p
  obtain ⟨b1, b2, b3⟩ := q
  rw [e]
  simp [eqFs, eqV, sB_beq]
  by_cases h1 : a1 = b1 <;> by_cases h2 : a2 = b2 <;> by_cases h3 : a3 = b3 <;> simp [h1, h2, h3]
theorem bxT (p q : Td) (x y : Operand) (H : World) : binX Try.prog .eql 52 x y (encT p) (encT q) H = some (.value (.bool (decide (p = q))), H) ∧ binX Try.prog .neq 52 x y (encT p) (encT q) H = some (.value (.bool (!decide (p = q))), H) :=
  binV_struct Try.underlying52 Try.stoodInHeld52 (by decide +kernel) (by simp [flat1]) (by simp [flat1]) (eqFsT p q)
theorem neqT (p q : Td) (x y : Operand) (H : World) : binX Try.prog .neq 52 x y (encT p) (encT q) H = some (.value (.bool (!decide (p = q))), H) := (bxT p q x y H).2
/-! ### where readers stand -/
theorem tailR_le {s : List UInt8} {at' : Int} {r : RS} {n : Nat} (h : r.nx + n ≤ s.length) : (tailR s at' r n).2.nx ≤ s.length := by
  have := zeroW_le (sliceW s r.nx (n - 1))
  have h2 : (sliceW s r.nx (n - 1)).length ≤ n - 1 := by simp [sliceW]; omega
  unfold tailR
  split
  · simp only [failR]; omega
  · split
    · simp only; omega
    · simp only [failR]; omega
theorem flagR_le {s : List UInt8} {at' : Int} {r : RS} (hn : r.nx ≤ s.length) : (flagR s at' r).2.nx ≤ s.length := by
  have := octR_le (at' := at') hn
  unfold flagR
  split
  · simp only [failR]; omega
  · exact this
theorem rawR_le {s : List UInt8} {at' : Int} {r : RS} (hn : r.nx ≤ s.length) (n : Int) : (rawR s at' r n).2.nx ≤ s.length := by
  unfold rawR
  split
  · exact hn
  · split
    · exact hn
    · split
      · exact Nat.le_refl _
      · simp only; omega
theorem bytesR_le {s : List UInt8} {at' : Int} {big : Bool} {r : RS} (hn : r.nx ≤ s.length) : (bytesR s at' big r).2.nx ≤ s.length := by
  have := countR_le (at' := at') (big := big) (least := 0) hn
  unfold bytesR
  split
  · exact rawR_le this _
  · exact this
theorem textR_le {s : List UInt8} {at' : Int} {big : Bool} {r : RS} (hn : r.nx ≤ s.length) : (textR s at' big r).2.nx ≤ s.length := by
  have h1 := countR_le (at' := at') (big := big) (least := 1) hn
  have h2 := countR_ok (s := s) (at' := at') (big := big) (r := r) (least := 1)
  unfold textR
  split
  · rename_i h
    rcases h2 with ⟨h3, _⟩ | ⟨_, h4, h5⟩
    · rw [h] at h3; cases h3
    · exact tailR_le (by omega)
  · exact h1
theorem alignR_le {s : List UInt8} {at' : Int} {r : RS} (hn : r.nx ≤ s.length) (size : Int) : (alignR s at' r size).2.nx ≤ s.length := by
  unfold alignR
  split
  · exact hn
  · split
    · exact (padS_le hn).1
    · exact hn
theorem readR_le {s : List UInt8} {at' : Int} {big : Bool} {r : RS} (hn : r.nx ≤ s.length) (a : Ac) : (readR s at' big r a).2.nx ≤ s.length := by
  unfold readR
  split
  · exact octR_le hn
  split
  · exact flagR_le hn
  split
  · exact rnum_le (big := big) hn
  split
  · exact rnum_le (big := big) hn
  split
  · exact rnum_le (big := big) hn
  split
  · exact textR_le hn
  split
  · exact bytesR_le hn
  split
  · exact rawR_le hn _
  · exact alignR_le hn _
/-! ### new readers -/
set_option maxRecDepth 100000 in
theorem New25 (s : List UInt8) (big : Bool) (at' : Int) (H : World) (Q : Value → World → Prop) : FW X 25 #[.string (sB s), .bool big, .int .i64 at'] H Q = Q (p0 H.heap.size) (pushObj H (rdP s big (atW at') ⟨0, -1⟩)) := by
  refine FW.eqE (by simp [X]) Try.func25 Try.ntmps25 rfl (by simp) ?_ Q
  simp [framed39, buildQ, fillX, szO, Value.cells]
  rfl
set_option maxRecDepth 100000 in
theorem New26 (s : List UInt8) (big : Bool) (at' : Int) (H : World) (Q : Value → World → Prop) : FW X 26 #[.string (sB s), .bool big, .int .i64 at'] H Q = Q (p0 H.heap.size) (pushObj H (rdR s big (atW at') ⟨0, -1⟩)) := by
  refine FW.eqE (by simp [X]) Try.func26 Try.ntmps26 rfl (by simp) ?_ Q
  simp [from40, buildQ, fillX, szO, Value.cells]
  rfl
/-! ### no reader -/
set_option maxRecDepth 100000 in
theorem nready (H : World) (Q : Value → World → Prop) : FW X 81 #[.pointer none] H Q = Q (.int .i64 1) H := by
  refine FW.eqE (by simp [X]) Try.func81 Try.ntmps81 rfl (by simp) ?_ Q
  simp [rnil_nil]
set_option maxRecDepth 100000 in
theorem nnumber (n : Int) (H : World) (Q : Value → World → Prop) : FW X 94 #[.pointer none, .int .i64 n] H Q = Q (.tuple #[.int .i64 0, .int .i64 1]) (pushObj H (.cells #[.pointer none] 47 (0, 0))) := by
  refine FW.eqE (by simp [X]) Try.func94 Try.ntmps94 rfl (by simp) ?_ Q
  simp [szO, nready]
set_option maxRecDepth 100000 in
theorem ncounted (n : Int) (H : World) (Q : Value → World → Prop) : FW X 78 #[.pointer none, .int .i64 n] H Q = Q (.tuple #[.int .i64 0, .int .i64 1]) (pushObj H (.cells #[.pointer none] 47 (0, 0))) := by
  refine FW.eqE (by simp [X]) Try.func78 Try.ntmps78 rfl (by simp) ?_ Q
  simp [nnumber]
set_option maxRecDepth 100000 in
theorem nText (H : World) (Q : Value → World → Prop) : FW X 35 #[.pointer none] H Q = Q (.tuple #[.string (sB []), .int .i64 1]) (pushObj H (.cells #[.pointer none] 47 (0, 0))) := by
  refine FW.eqE (by simp [X]) Try.func35 Try.ntmps35 rfl (by simp) ?_ Q
  simp [ncounted]
set_option maxRecDepth 100000 in
theorem nAlign (n : Int) (H : World) (Q : Value → World → Prop) : FW X 36 #[.pointer none, .int .i64 n] H Q = Q (.int .i64 1) H := by
  refine FW.eqE (by simp [X]) Try.func36 Try.ntmps36 rfl (by simp) ?_ Q
  simp [nready]
set_option maxRecDepth 100000 in
theorem nBad (H : World) (Q : Value → World → Prop) : FW X 33 #[.pointer none] H Q = Q (.int .i64 0) H := by
  refine FW.eqE (by simp [X]) Try.func33 Try.ntmps33 rfl (by simp) ?_ Q
  simp [rnil_nil]
set_option maxRecDepth 100000 in
theorem nLeft (H : World) (Q : Value → World → Prop) : FW X 31 #[.pointer none] H Q = Q (.int .i64 0) H := by
  refine FW.eqE (by simp [X]) Try.func31 Try.ntmps31 rfl (by simp) ?_ Q
  simp [rnil_nil]
set_option maxRecDepth 100000 in
theorem CdrReads6 (s : List UInt8) (big : Bool) (at' : Int) (o : Option (List Ac)) (hl : (o.getD []).length < 2 ^ 63) (H : World) :
    FW X 6 #[.string (sB s), .bool big, .int .i64 at', acts o] H fun v _ => v = .bool true := by
  refine FW.walk (by simp [X]) Try.func6 Try.ntmps6 rfl (by simp) ?_
  simp [light9 o hl]
  cases hlt : lightW (o.getD []) with
  | false => simp [awake_eq]
  | true =>
    by_cases h2000 : 2000 < (s.length : Int)
    · simp [h2000, awake_eq]
    · have hs40 : s.length ≤ 2 ^ 40 := by omega
      generalize hL : o.getD [] = L at *
      obtain ⟨a0, a7⟩ := atW_ok at'
      have n1 : ¬ H.heap.size = H.heap.size + 1 := by omega
      have h1 : getO (pushObj (pushObj H (rdP s big (atW at') ⟨0, -1⟩)) (rdR s big (atW at') ⟨0, -1⟩)) H.heap.size = some (rdP s big (atW at') ⟨0, -1⟩) := by simp [n1]
      have h2 : getO (pushObj (pushObj H (rdP s big (atW at') ⟨0, -1⟩)) (rdR s big (atW at') ⟨0, -1⟩)) (H.heap.size + 1) = some (rdR s big (atW at') ⟨0, -1⟩) := by simp
      simp [h2000, New25, New26]
      have ne : H.heap.size ≠ H.heap.size + 1 := by omega
      have lt1 := getO_lt h1
      have lt2 := getO_lt h2
      generalize pushObj (pushObj H (rdP s big (atW at') ⟨0, -1⟩)) (rdR s big (atW at') ⟨0, -1⟩) = H2 at *
      generalize H.heap.size + 1 = vb at *
      generalize H.heap.size = rb at *
      simp [hL]
      refine CE.range (m := L.length) (fun k e H' => lk e 9 = p0 rb ∧ lk e 10 = p0 vb ∧ lk e 33 = acts o ∧ ∃ r : RS, r.nx ≤ s.length ∧ getO H' rb = some (rdP s big (atW at') r) ∧ getO H' vb = some (rdR s big (atW at') r)) ?_ hl ?_ ?_ ?_
      · decide
      · simp
        exact ⟨⟨0, -1⟩, Nat.zero_le _, h1, h2⟩
      · rintro k e H' hk q1 q2 ⟨h7, h8, h22, r, hn, g1, g2⟩
        simp [q1, q2, h7, h8, h22, hL, hk, allocX, szO]
        refine WP.drawP [(3, 0), (4, 0), (10, 6), (17, 12), (24, 19)] (by decide +kernel) (by decide +kernel) ?_
        generalize ha : L[k] = a at *
        have gA : getO (pushObj H' (.cells #[.int .i64 a.kind, .int .i64 a.n, .int .i64 a.m, .string (sB a.s)] 30 (0, 0))) H'.heap.size = some (.cells #[.int .i64 a.kind, .int .i64 a.n, .int .i64 a.m, .string (sB a.s)] 30 (0, 0)) := by simp
        have g1' : getO (pushObj H' (.cells #[.int .i64 a.kind, .int .i64 a.n, .int .i64 a.m, .string (sB a.s)] 30 (0, 0))) rb = some (rdP s big (atW at') r) := by have := getO_lt g1; rw [get_push, if_neg (by omega)]; exact g1
        have g2' : getO (pushObj H' (.cells #[.int .i64 a.kind, .int .i64 a.n, .int .i64 a.m, .string (sB a.s)] 30 (0, 0))) vb = some (rdR s big (atW at') r) := by have := getO_lt g2; rw [get_push, if_neg (by omega)]; exact g2
        have nA1 : H'.heap.size ≠ rb := by have := getO_lt g1; omega
        have nA2 : H'.heap.size ≠ vb := by have := getO_lt g2; omega
        generalize hHA : pushObj H' (.cells #[.int .i64 a.kind, .int .i64 a.n, .int .i64 a.m, .string (sB a.s)] 30 (0, 0)) = HA at *
        generalize hq : H'.heap.size = q at *
        simp [h7, h8, gA]
        refine read27 g1' a0 a7 hs40 hn a fun H5 g5 f5 => ?_
        have g5A := f5.keep _ _ gA nA1
        have g5v := f5.keep _ _ g2' ne.symm
        simp [h8, g5A]
        refine answered28 g5v a0 a7 hs40 hn a fun H6 g6 f6 => ?_
        have g6A := f6.keep _ _ g5A nA2
        have g6r := f6.keep _ _ g5 ne
        have hle := readR_le (at' := atW at') (big := big) hn a
        generalize readR s (atW at') big r a = x at *
        simp [h7, h8, neqT, Place29 g6r a0 a7 (by omega), Place30 g6 a0 a7 (by omega), Left31 g6r hs40 hle, Left32 g6 hs40 hle, Bad33 g6r, Bad34 g6]
        refine ⟨Checks.cons rfl rfl rfl ?_ (Checks.cons rfl rfl rfl ?_ (Checks.cons rfl rfl rfl ?_ (Checks.cons rfl rfl rfl ?_ (Checks.cons rfl rfl rfl ?_ .nil)))), q1, q2, h22, _, hle, g6r, g6⟩
        iterate 5
          · unfold reV
            simp [h7, h8, gA, g5A, q_ptr, veq_encA]
      · rintro e H' q1 q2 ⟨h7, h8, h22, r, hn, g1, g2⟩
        simp [nText, nAlign, nBad, nLeft, awake_eq]
end Go.Proofs.Ytcllchaboahlfaa
end
