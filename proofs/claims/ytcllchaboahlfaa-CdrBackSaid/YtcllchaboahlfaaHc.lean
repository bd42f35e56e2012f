/- Helpers of this claim: an evaluator over plain values and its laws. -/
import Derived.Test.YtcllchaboahlfaaHb
section
set_option linter.unusedVariables false
set_option linter.unusedSimpArgs false
namespace Go.Proofs.Ytcllchaboahlfaa
open Go Go.Proofs.Ytcllchaboahlfaa.Den
/-- copy of a longer string's first bytes into a row. -/
theorem copy_strN (P : Program) {t1 t2 e : TypeId} {r o n c : Nat} {cs : Array Value} {fr : Nat × Nat} {inf : TypeInfo} {l : List UInt8} {H : World} (hu : P.underlying t1 = some (.slice e)) (hi : P.info? e = some inf) (hs : inf.size = 1) (hr : getO H r = some (.cells cs e fr)) (hfr : mayW fr = true) (hn : n ≤ l.length) (hb : o + n ≤ cs.size) :
    builtinX P .copy #[t1, t2] #[.slice (some ⟨r, o, none⟩) n c, .string (sB l)] H = some (.value (.int .i64 n), setO H r (.cells (overL cs o ((l.take n).map fun b => Value.int .u8 b.toNat)) e fr)) := by
  have hst := run_overL (P := P) hfr ((l.take n).map fun b => Value.int .u8 b.toNat) 0 o cs H hr (by simp; omega) (fun v hv => by obtain ⟨b, _, rfl⟩ := List.mem_map.1 hv; rfl)
  rw [Nat.add_zero] at hst
  have key : okRun ((Builtin.copy_ #[t1, t2] 0 #[.slice (some ⟨r, o, none⟩) n c, .string (sB l)]).run P H) = some (.int .i64 n, setO H r (.cells (overL cs o ((l.take n).map fun b => Value.int .u8 b.toNat)) e fr)) := by
    unfold Builtin.copy_
    have hmin : Nat.min l.length n = n := Nat.min_eq_right hn
    have hfc : (Builtin.firstCells inf.size n (.string (sB l))).run P H = .ok (((l.take n).map fun b => Value.int .u8 b.toNat).toArray) H := by
      rw [hs]
      unfold Builtin.firstCells
      have : (sB l).extract 0 n = sB (l.take n) := by
        rw [sB_extract]; simp
      show (pure (((sB l).extract 0 n).data.map fun b => Value.int .u8 b.toNat) : Sem (Array Value)).run P H = _
      rw [this]
      simp
    simp only [List.getElem?_toArray, List.getElem?_cons_zero, List.getElem?_cons_succ, Sem.run_bind, run_underlying' hu, Result.andThen_ok, Builtin.lenOf, Sem.run_pure, sB_size, hmin, run_sizeOf' hi, hfc, hst, okRun]
    rfl
  show (builtinD P .copy #[t1, t2] #[.slice (some ⟨r, o, none⟩) n c, .string (sB l)] H).map _ = _
  have hd : builtinD P .copy #[t1, t2] #[.slice (some ⟨r, o, none⟩) n c, .string (sB l)] H = okRun ((Builtin.copy_ #[t1, t2] 0 #[.slice (some ⟨r, o, none⟩) n c, .string (sB l)]).run P H) := rfl
  rw [hd, key]; rfl
theorem runR_take {s : List UInt8} {big : Bool} {r : RS} {l : List Ac} {k : Nat} (hk : k < l.length) : runR s big r (l.take (k + 1)) = (readR s 0 big (runR s big r (l.take k)) l[k]).2 := by
  unfold runR
  rw [List.take_succ_eq_append_getElem hk, List.foldl_append]
  rfl
theorem runR_le {s : List UInt8} {big : Bool} : ∀ (l : List Ac) (r : RS), r.nx ≤ s.length → (runR s big r l).nx ≤ s.length
  | [], r, h => h
  | a :: l, r, h => runR_le l _ (readR_le h a)
set_option maxRecDepth 100000 in
theorem CdrFirst7 (s other : List UInt8) (big : Bool) (o : Option (List Ac)) (hl : (o.getD []).length < 2 ^ 63) (H : World) :
    FW X 7 #[.string (sB s), .string (sB other), .bool big, acts o] H fun v _ => v = .bool true := by
  refine FW.walk (by simp [X]) Try.func7 Try.ntmps7 rfl (by simp) ?_
  simp [light9 o hl]
  cases hlt : lightW (o.getD []) with
  | false => simp [awake_eq]
  | true =>
    by_cases h2000 : 2000 < (s.length : Int)
    · simp [h2000, awake_eq]
    by_cases g2000 : 2000 < (other.length : Int)
    · simp [h2000, g2000, awake_eq]
    have hs40 : s.length ≤ 2 ^ 40 := by omega
    generalize hL : o.getD [] = L at *
    have z0 : atW 0 = 0 := rfl
    simp [h2000, g2000, New25, z0, hL]
    have h1 : getO (pushObj H (rdP s big 0 ⟨0, -1⟩)) H.heap.size = some (rdP s big 0 ⟨0, -1⟩) := by simp
    have lt1 := getO_lt h1
    generalize pushObj H (rdP s big 0 ⟨0, -1⟩) = H1 at *
    generalize H.heap.size = rb at *
    refine CE.range (m := L.length) (fun k e H' => lk e 9 = p0 rb ∧ lk e 35 = acts o ∧ lk e 0 = .string (sB s) ∧ lk e 1 = .string (sB other) ∧ lk e 2 = .bool big ∧ lk e 3 = acts o ∧ getO H' rb = some (rdP s big 0 (runR s big ⟨0, -1⟩ (L.take k)))) ?_ hl ?_ ?_ ?_
    · decide
    · simp
      exact h1
    · rintro k e H' hk q1 q2 ⟨h9, h35, h0, ho, h2, h3, g1⟩
      have hn := runR_le (big := big) (L.take k) ⟨0, -1⟩ (Nat.zero_le s.length)
      have hst := runR_take (s := s) (big := big) (r := ⟨0, -1⟩) hk
      rw [hst]
      generalize runR s big ⟨0, -1⟩ (L.take k) = r at *
      simp [q1, q2, h9, h35, h0, h3, hL, hk, allocX, szO]
      generalize ha : L[k] = a at *
      have gA : getO (pushObj H' (.cells #[.int .i64 a.kind, .int .i64 a.n, .int .i64 a.m, .string (sB a.s)] 30 (0, 0))) H'.heap.size = some (.cells #[.int .i64 a.kind, .int .i64 a.n, .int .i64 a.m, .string (sB a.s)] 30 (0, 0)) := by simp
      have g1' : getO (pushObj H' (.cells #[.int .i64 a.kind, .int .i64 a.n, .int .i64 a.m, .string (sB a.s)] 30 (0, 0))) rb = some (rdP s big 0 r) := by have := getO_lt g1; rw [get_push, if_neg (by omega)]; exact g1
      generalize pushObj H' (.cells #[.int .i64 a.kind, .int .i64 a.n, .int .i64 a.m, .string (sB a.s)] 30 (0, 0)) = HA at *
      generalize hq : H'.heap.size = q at *
      simp [h9, gA]
      refine read27 g1' (by omega) (by omega) hs40 hn a fun H5 g5 f5 => ?_
      simp [q1, q2, h9, h35, h0, ho, h2, h3]
      exact g5
    · rintro e H' q1 q2 ⟨h9, h35, h0, ho, h2, h3, g1⟩
      rw [List.take_length] at g1
      have hB : ∀ (b : List UInt8) (K : Nat), Agree s b K → ∀ B : Int, 0 ≤ B → B < s.length → (∀ i : Nat, (i : Int) < B + 4 → i < s.length → i < K) → (runR s big ⟨0, -1⟩ L).bad = B → (runR b big ⟨0, -1⟩ L).bad = B := fun b K ha B b0 b1 hK hb => runR_first ha b0 b1 hK L ⟨0, -1⟩ (Nat.zero_le _) (by decide) hb
      generalize runR s big ⟨0, -1⟩ L = r at *
      by_cases hb0 : r.bad < 0
      · simp [h9, h0, Bad33 g1, hb0, awake_eq]
      by_cases hb1 : (s.length : Int) ≤ r.bad
      · simp [h9, h0, Bad33 g1, hb0, hb1, awake_eq]
      obtain ⟨B, hBe⟩ := Int.eq_ofNat_of_zero_le (Int.not_lt.1 hb0)
      rw [hBe] at hb1 hB
      have nB : ¬ (B : Int) < 0 := by omega
      have hcs : ∀ H, convX Try.prog 9 57 (.string (sB s)) H = _ := fun H => conv_str (H := H) (bs := s) Try.underlying9 Try.underlying57 Try.underlying5 info5 rfl
      have w1 : IntKind.i64.wrap ((B : Int) + 1) = ((B + 1 : Nat) : Int) := by rw [wrap64' (by omega) (by omega)]; omega
      simp [h9, h0, Bad33 g1, hBe, hb1, nB, hcs, w1]
      have gq : getO (pushObj H' (rowB s (1, 0))) H'.heap.size = some (rowB s (1, 0)) := by simp
      show CE _ _ _ _ _ _ (pushObj H' (rowB s (1, 0))) _
      generalize pushObj H' (rowB s (1, 0)) = H2 at *
      generalize H'.heap.size = q at *
      refine CE.imp (Q := fun ex e ds H => ex = .exit 2 ∧ ds = [] ∧ ∃ bs : List UInt8, bs.length = s.length ∧ lk e 0 = .string (sB s) ∧ lk e 2 = .bool big ∧ lk e 3 = acts o ∧ lk e 12 = .int .i64 B ∧ lk e 13 = sliceA q 0 s.length s.length ∧ getO H q = some (rowB bs (1, 0))) ?_ ?_
      · refine CE.inv (fun d e H' => ∃ (i : Nat) (bs : List UInt8), d = s.length - i ∧ B + 1 ≤ i ∧ i ≤ s.length ∧ bs.length = s.length ∧ lk e 0 = .string (sB s) ∧ lk e 1 = .string (sB other) ∧ lk e 2 = .bool big ∧ lk e 3 = acts o ∧ lk e 12 = .int .i64 B ∧ lk e 13 = sliceA q 0 s.length s.length ∧ lk e 14 = .int .i64 i ∧ getO H' q = some (rowB bs (1, 0))) ?_ ⟨B + 1, s, rfl, Nat.le_refl _, by omega, rfl, by simp [h0], by simp [ho], by simp [h2], by simp [h3], by simp, by simp, by simp, gq⟩
        rintro d e H' ⟨i, bs, rfl, i1, i2, hbl, h0, ho, h2, h3, h12, h13, h14, gq⟩
        by_cases hi : i < s.length
        · have w2 : IntKind.i64.wrap ((i : Int) - (B : Int)) = ((i - B : Nat) : Int) := by rw [wrap64' (by omega) (by omega)]; omega
          have w3 : IntKind.i64.wrap (((i - B : Nat) : Int) - 1) = ((i - B - 1 : Nat) : Int) := by rw [wrap64' (by omega) (by omega)]; omega
          have w4 : IntKind.i64.wrap ((i : Int) + 1) = ((i + 1 : Nat) : Int) := by rw [wrap64' (by omega) (by omega)]; omega
          generalize hy : i - B - 1 = y at *
          by_cases hyo : y < other.length
          · have rlt := getO_lt gq
            have hib : i < bs.length := by omega
            have hib1 : i + 1 ≤ bs.length := by omega
            generalize i - B = y1 at *
            simp [h0, ho, h2, h3, h12, h13, h14, hi, w2, w3, hyo, gq, rlt, hib, hib1, overL, w4]
            refine ⟨_, ?_, i + 1, rfl, by omega, by omega, bs.set i (other[y]), by simpa using hbl, by omega, ?_⟩
            · omega
            · simp only [List.map_set]
          · generalize i - B = y1 at *
            simp [h0, ho, h2, h3, h12, h13, h14, hi, w2, w3, hyo]
            exact ⟨bs, hbl, gq⟩
        · simp [h0, ho, h2, h3, h12, h13, h14, hi]
          exact ⟨bs, hbl, gq⟩
      · rintro ex e ds H3 ⟨rfl, rfl, bs, hbl, h0, h2, h3, h12, h13, gq⟩
        obtain ⟨K, hK⟩ : ∃ K : Nat, (if (B : Int) + 4 < (s.length : Int) then (B : Int) + 4 else (s.length : Int)) = (K : Int) := by
          split
          · exact ⟨B + 4, by omega⟩
          · exact ⟨s.length, rfl⟩
        have hKs : K ≤ s.length := by split at hK <;> omega
        have hKi : ∀ i : Nat, (i : Int) < (B : Int) + 4 → i < s.length → i < K := fun i h1 h2 => by split at hK <;> omega
        have w5 : IntKind.i64.wrap ((B : Int) + 4) = (B : Int) + 4 := wrap64' (by omega) (by omega)
        have hsl : sliceX Try.prog 57 (sliceA q 0 s.length s.length) none (some (.int .i64 K)) none H3 = some (.value (sliceA q 0 K s.length), H3) := by
          have := slice_heap (P := Try.prog) (t := 57) (r := q) (o := 0) (n := s.length) (c := s.length) (l := 0) (h := K) (lo := none) (hi := some (.int .i64 K)) Try.underlying57 info5 gq rfl (Nat.le_refl _) (by simp [vBound]; omega) (by simp [vBound])
          rw [this]
          simp
        have hcp := copy_strN Try.prog (t1 := 57) (t2 := 9) (r := q) (o := 0) (n := K) (c := s.length) (l := s) Try.underlying57 info5 rfl gq rfl hKs (by simp; omega)
        have hrow : overL (bs.map u8V).toArray 0 ((s.take K).map fun b => Value.int .u8 b.toNat) = ((s.take K ++ bs.drop K).map u8V).toArray := by
          rw [overL_list _ _ _ (by simp; omega)]
          simp [Nat.min_eq_left hKs]
        rw [hrow] at hcp
        have hag : Agree s (s.take K ++ bs.drop K) K := ⟨by simp; omega, fun i hi => by rw [List.getElem?_append_left (by simp; omega), List.getElem?_take, if_pos hi]⟩
        have hfin := hB _ K hag B (by omega) (by omega) hKi rfl
        have hbl2 := hag.len
        have rlt := getO_lt gq
        generalize s.take K ++ bs.drop K = b2 at *
        have gq2 : getO (setO H3 q (rowB b2 (1, 0))) q = some (rowB b2 (1, 0)) := by rw [get_set, if_pos rfl, if_pos rlt]
        have hcv : convX Try.prog 57 9 (sliceA q 0 s.length s.length) (setO H3 q (rowB b2 (1, 0))) = some (.value (.string (sB b2)), setO H3 q (rowB b2 (1, 0))) := by
          rw [← hbl2]
          exact conv_row (src := 57) (dst := 9) Try.underlying57 Try.underlying5 Try.underlying9 gq2
        simp [h0, h2, h3, h12, h13, w5, hK, hsl, hcp, hcv, New25, z0, hL]
        have hsz : (setO H3 q (rowB b2 (1, 0))).heap.size = H3.heap.size := by simp
        generalize setO H3 q (rowB b2 (1, 0)) = H4 at *
        have h1 : getO (pushObj H4 (rdP b2 big 0 ⟨0, -1⟩)) H4.heap.size = some (rdP b2 big 0 ⟨0, -1⟩) := by simp
        have lt1 := getO_lt h1
        generalize pushObj H4 (rdP b2 big 0 ⟨0, -1⟩) = H5 at *
        rw [hsz] at h1 lt1
        generalize H3.heap.size = rb at *
        have hs40 : b2.length ≤ 2 ^ 40 := by omega
        refine CE.range (m := L.length) (fun k e H' => lk e 15 = p0 rb ∧ lk e 97 = acts o ∧ lk e 12 = .int .i64 B ∧ getO H' rb = some (rdP b2 big 0 (runR b2 big ⟨0, -1⟩ (L.take k)))) ?_ hl ?_ ?_ ?_
        · decide
        · simp [h12]
          exact h1
        · rintro k e H' hk q1 q2 ⟨h15, h97, h12, g1⟩
          have hn := runR_le (big := big) (L.take k) ⟨0, -1⟩ (Nat.zero_le b2.length)
          have hst := runR_take (s := b2) (big := big) (r := ⟨0, -1⟩) hk
          rw [hst]
          generalize runR b2 big ⟨0, -1⟩ (L.take k) = r at *
          simp [q1, q2, h15, h97, hL, hk, allocX, szO]
          generalize ha : L[k] = a at *
          have gA : getO (pushObj H' (.cells #[.int .i64 a.kind, .int .i64 a.n, .int .i64 a.m, .string (sB a.s)] 30 (0, 0))) H'.heap.size = some (.cells #[.int .i64 a.kind, .int .i64 a.n, .int .i64 a.m, .string (sB a.s)] 30 (0, 0)) := by simp
          have g1' : getO (pushObj H' (.cells #[.int .i64 a.kind, .int .i64 a.n, .int .i64 a.m, .string (sB a.s)] 30 (0, 0))) rb = some (rdP b2 big 0 r) := by have := getO_lt g1; rw [get_push, if_neg (by omega)]; exact g1
          generalize pushObj H' (.cells #[.int .i64 a.kind, .int .i64 a.n, .int .i64 a.m, .string (sB a.s)] 30 (0, 0)) = HA at *
          generalize hq : H'.heap.size = q at *
          simp [h15, gA]
          refine read27 g1' (by omega) (by omega) hs40 hn a fun H5 g5 f5 => ?_
          simp [q1, q2, h15, h97, h12]
          exact g5
        · rintro e H' q1 q2 ⟨h15, h97, h12, g1⟩
          rw [List.take_length] at g1
          simp [h15, h12, Bad33 g1, hfin, awake_eq]
end Go.Proofs.Ytcllchaboahlfaa
end
