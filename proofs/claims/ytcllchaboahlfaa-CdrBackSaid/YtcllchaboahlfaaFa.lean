/- Helpers of this claim: an evaluator over plain values and its laws. -/
import Derived.Test.YtcllchaboahlfaaEl
section
set_option linter.unusedVariables false
set_option linter.unusedSimpArgs false
namespace Go.Proofs.Ytcllchaboahlfaa.Den
@[simp] theorem indexAddrQ_arr {P : Program} {t : TypeId} (b o : Nat) (k : IntKind) (i : Int) : indexAddrQ P t (.pointer (some ⟨b, o, none⟩)) (.int k i) = match P.underlying t with
    | some (.array n e) => match P.info? e with
      | some inf => if 0 ≤ i ∧ i < n then some (.pointer (some ⟨b, o + i.toNat * inf.size, none⟩)) else none
      | none => none
    | _ => none := by
  unfold indexAddrQ
  have : vIndexAddr P t (.pointer (some ⟨b, o, none⟩)) (.int k i) = none := rfl
  rw [this]
  simp only
  cases P.underlying t with
  | none => rfl
  | some d =>
    cases d with
    | array n e =>
      simp only [add_plain]
      cases P.info? e <;> rfl
    | _ => rfl
end Go.Proofs.Ytcllchaboahlfaa.Den
namespace Go.Proofs.Ytcllchaboahlfaa
open Go Go.Proofs.Ytcllchaboahlfaa.Den
theorem swap_num (n : Int) {size : Nat} (h : 1 ≤ size) : swapL (numL n size true) size = numL n size false := by
  apply List.ext_getElem?
  intro k
  by_cases hk : k < size
  · rw [swapL_get (by simpa using hk), Nat.mod_eq_of_lt hk, numL_get hk, List.getD_eq_getElem?_getD, numL_get (by omega)]
    simp only [Option.getD_some]
    congr 2
    show size - 1 - (k - k + (size - 1 - k)) = k
    omega
  · rw [List.getElem?_eq_none (by simpa using hk), List.getElem?_eq_none (by simpa using hk)]
theorem pad_place {at' : Int} (h0 : 0 ≤ at') (h7 : at' ≤ 7) {size : Nat} (hs : size = 2 ∨ size = 4 ∨ size = 8) : (at' + (padN at' [] size : Int)).tmod size = 0 := by
  have ha : at' = 0 ∨ at' = 1 ∨ at' = 2 ∨ at' = 3 ∨ at' = 4 ∨ at' = 5 ∨ at' = 6 ∨ at' = 7 := by omega
  rcases hs with rfl | rfl | rfl <;> rcases ha with rfl | rfl | rfl | rfl | rfl | rfl | rfl | rfl <;> rfl
theorem number_new {at' : Int} (h0 : 0 ≤ at') (h7 : at' ≤ 7) (n : Int) {size : Nat} (hs : size = 2 ∨ size = 4 ∨ size = 8) (big : Bool) (hb : numBad n size = false) : numberW at' [] n size big = (List.replicate (padN at' [] size) 0 ++ numL n size big, 0) ∧ padN at' [] size < 8 := by
  have hp : padN at' [] size < 8 := by
    have := padW_nat (place := at' + ([] : List UInt8).length) (size := size) (sizeW_iff.2 (by omega)) (by simp; omega)
    unfold padN; omega
  refine ⟨?_, hp⟩
  unfold numberW
  rw [if_neg (by rw [hb]; simp)]
  unfold putW
  rw [if_neg (by simp; omega)]
  rfl
set_option maxRecDepth 100000 in
theorem CdrOrders5 (at' n size : Int) (H : World) : FW X 5 #[.int .i64 at', .int .i64 n, .int .i64 size] H fun v _ => v = .bool true := by
  refine FW.walk (by simp [X]) Try.func5 Try.ntmps5 rfl (by simp) ?_
  obtain ⟨q, hq⟩ : ∃ q, q = (IntKind.u64.wrap size).tmod 3 := ⟨_, rfl⟩
  have hw : 0 ≤ IntKind.u64.wrap size := by simp [IntKind.wrap, IntKind.bits, IntKind.signed]; omega
  have q0 : q = 0 ∨ q = 1 ∨ q = 2 := by
    have h1 : 0 ≤ q := by rw [hq]; exact Int.tmod_nonneg _ hw
    have h2 : q < 3 := by rw [hq]; exact Int.tmod_lt_of_pos _ (by omega)
    omega
  obtain ⟨a0, a7⟩ := atW_ok at'
  simp [buildQ, fillX, allocX, szO, ← hq, overL, Value.cells, Value.oneCell']
  obtain ⟨s, kd, hsk⟩ : ∃ (s : Nat) (kd : Int), (q = 0 ∧ s = 2 ∧ kd = 2) ∨ (q = 1 ∧ s = 4 ∧ kd = 3) ∨ (q = 2 ∧ s = 8 ∧ kd = 4) := by
    rcases q0 with h | h | h
    · exact ⟨2, 2, .inl ⟨h, rfl, rfl⟩⟩
    · exact ⟨4, 3, .inr (.inl ⟨h, rfl, rfl⟩)⟩
    · exact ⟨8, 4, .inr (.inr ⟨h, rfl, rfl⟩)⟩
  have hs : s = 2 ∨ s = 4 ∨ s = 8 := by omega
  have hget : ∀ x, (qX H (if 0 ≤ q ∧ q < 3 then x else none)) = qX H x := fun x => by rw [if_pos (by omega)]
  have qq : 0 ≤ q ∧ q < 3 := by omega
  have hv1 : ∀ h, ([Value.int .i64 2, Value.int .i64 4, Value.int .i64 8] : List Value)[q.toNat]'h = .int .i64 s := by
    rcases hsk with ⟨h1, h2, h3⟩ | ⟨h1, h2, h3⟩ | ⟨h1, h2, h3⟩ <;> (subst h1 h2; intro h; rfl)
  have hv2 : ∀ h, ([Value.int .i64 2, Value.int .i64 3, Value.int .i64 4] : List Value)[q.toNat]'h = .int .i64 kd := by
    rcases hsk with ⟨h1, h2, h3⟩ | ⟨h1, h2, h3⟩ | ⟨h1, h2, h3⟩ <;> (subst h1 h3; intro h; rfl)
  simp [qq, hv1]
  refine New11 true at' _ fun H1 st1 k1 z1 => ?_
  simp
  refine New11 false at' H1 fun H2 st2 k2 z2 => ?_
  have st1' : WSt H2 64 _ true (atW at') [] (.slice none 0 0) := ⟨k2 _ _ st1.hw, Acc.nil, st1.ap, st1.at0, st1.at7, st1.len⟩
  have hne : (pushObj H (.cells #[.int .i64 2, .int .i64 4, .int .i64 8] 44 (0, 0))).heap.size ≠ H1.heap.size := by omega
  simp only [size_push] at st1' hne
  generalize H.heap.size + 1 = wb at *
  generalize H1.heap.size = vb at *
  simp [buildQ, fillX, allocX, szO, ← hq, qq, hv2, partQ, Value.cells, Value.oneCell', overL]
  have e0 : encA ⟨kd, n, 0, []⟩ = .agg #[.int .i64 kd, .int .i64 n, .int .i64 0, .string (sB [])] := rfl
  have hact : ∀ big out, actW (atW at') big out ⟨kd, n, 0, []⟩ = numberW (atW at') out n s big := fun big out => by
    rcases hsk with ⟨h1, h2, h3⟩ | ⟨h1, h2, h3⟩ | ⟨h1, h2, h3⟩ <;> (subst h2 h3; rfl)
  have wA := st1'.push (.cells #[.int .i64 kd, .int .i64 n, .int .i64 0, .string (sB [])] 30 (0, 0))
  have vA := st2.push (.cells #[.int .i64 kd, .int .i64 n, .int .i64 0, .string (sB [])] 30 (0, 0))
  have gA : getO (pushObj H2 (.cells #[.int .i64 kd, .int .i64 n, .int .i64 0, .string (sB [])] 30 (0, 0))) H2.heap.size = some (.cells #[.int .i64 kd, .int .i64 n, .int .i64 0, .string (sB [])] 30 (0, 0)) := by simp
  have nw := st1'.fresh (i := H2.heap.size) (Nat.le_refl _)
  have nv := st2.fresh (i := H2.heap.size) (Nat.le_refl _)
  generalize hHA : pushObj H2 (.cells #[.int .i64 kd, .int .i64 n, .int .i64 0, .string (sB [])] 30 (0, 0)) = HA at *
  generalize H2.heap.size = q2 at *
  refine WP.drawP [(3, 0), (4, 0)] (by decide +kernel) (by decide +kernel) ?_
  have ve0 : veq (.agg #[.int .i64 kd, .int .i64 n, .int .i64 0, .string (sB [])]) (.agg #[.int .i64 kd, .int .i64 n, .int .i64 0, .string (sB [])]) = true := veq_encA ⟨kd, n, 0, []⟩
  have nilA : ∀ i, Apart (.slice none 0 0) i := fun i r n c h => by cases h
  have nilV : ∀ u, ApV (.slice none 0 0) u := fun u r n c _ => nilA r
  simp [gA]
  refine write13 wA ⟨kd, n, 0, []⟩ (by simp) fun v1 H5 w5 f5 => ?_
  rw [hact] at w5 ⊢
  have vA5 := WSt.other (t' := 64) vA f5 hne (nilA _) (nilA _) (nilV _)
  have g5 := f5.keep _ _ gA nw.2 nw.1
  simp [g5]
  refine write13 vA5 ⟨kd, n, 0, []⟩ (by simp) fun v2 H6 w6 f6 => ?_
  rw [hact] at w6 ⊢
  have w56 := WSt.other (t' := 64) w5 f6 hne.symm (nilA _) (f5.apart _ (getO_lt vA.hw) (nilA _)) (nilV _)
  cases hbad : numBad n s with
  | true =>
    have e1 : ∀ big, numberW (atW at') [] n s big = ([], 7) := fun big => by unfold numberW; rw [if_pos hbad]
    rw [e1] at w56 w6 ⊢
    rw [e1]
    simp [All17 w56, All17 w6, awake_eq]
    refine Checks.cons rfl rfl rfl ?_ (Checks.cons rfl rfl rfl ?_ .nil)
    · unfold reV
      simp [q_ptr]
    · unfold reV
      simp [gA, g5, ve0]
  | false =>
    obtain ⟨e1, hp8⟩ := number_new a0 a7 n hs true hbad
    obtain ⟨e2, _⟩ := number_new a0 a7 n hs false hbad
    rw [e1] at w56 ⊢
    rw [e2] at w6 ⊢
    have hpl := pad_place a0 a7 hs
    generalize padN (atW at') [] s = p at *
    have hlen : ∀ big, (List.replicate p (0 : UInt8) ++ numL n s big).length = p + s := fun big => by simp
    have wl : IntKind.i64.wrap (p : Int) = (p : Int) := wrap64' (by omega) (by omega)
    have pos : 1 ≤ s := by omega
    have hlb : (numL n s true).length = s := numL_len _ _ _
    have hsl : ∀ big H, sliceX Try.prog 9 (.string (sB (List.replicate p (0 : UInt8) ++ numL n s big))) (some (.int .i64 p)) none none H = some (.value (.string (sB (numL n s big))), H) := fun big H => by
      have := slice_str_from (P := Try.prog) (t := 9) (l := List.replicate p (0 : UInt8) ++ numL n s big) (k := .i64) (n := (p : Int)) (H := H) Try.underlying9 (by omega) (by simp; omega)
      rw [this]
      congr 5
      simp
    have hsw := Swap23 (numL n s true) s (by simp; omega)
    have hok : swapOk (numL n s true) s = 0 := by
      unfold swapOk
      rw [if_pos (sizeW_iff.2 (by omega)), if_pos (by simp)]
    have hsr : swapR (numL n s true) s = numL n s false := by
      unfold swapR
      rw [if_pos hok, Int.toNat_natCast, swap_num n pos]
    rw [hok, hsr] at hsw
    have hpla := fun Q => Place15 w56 Q
    rw [hlen] at hpla
    have s0 : ¬ s = 0 := by omega
    have wq : IntKind.i64.wrap (atW at' + ((p : Int) + (s : Int)) - (s : Int)) = atW at' + (p : Int) := by rw [wrap64' (by omega) (by omega)]; omega
    simp [All17 w56, All17 w6, awake_eq, wl, hsl, hsw, hpla, s0, wq, hpl]
    refine Checks.cons rfl rfl rfl ?_ (Checks.cons rfl rfl rfl ?_ .nil)
    · unfold reV
      simp [q_ptr]
    · unfold reV
      simp [gA, g5, ve0]
end Go.Proofs.Ytcllchaboahlfaa
end
