/- Helpers of this claim: an evaluator over plain values and its laws. -/
import Derived.Test.YtcllchaboahlfaaDb
section
set_option linter.unusedVariables false
set_option linter.unusedSimpArgs false
namespace Go.Proofs.Ytcllchaboahlfaa
open Go Go.Proofs.Ytcllchaboahlfaa.Den
/-! ### Swap -/
def swapL (s : List UInt8) (m : Nat) : List UInt8 := (List.range s.length).map fun i => s.getD (i - i % m + (m - 1 - i % m)) 0
@[simp] theorem swapL_len (s : List UInt8) (m : Nat) : (swapL s m).length = s.length := by simp [swapL]
theorem swapL_get {s : List UInt8} {m k : Nat} (hk : k < s.length) : (swapL s m)[k]? = some (s.getD (k - k % m + (m - 1 - k % m)) 0) := by simp [swapL, hk]
def mixL (s : List UInt8) (m i : Nat) : List UInt8 := (swapL s m).take i ++ s.drop i
theorem mixL_len {s : List UInt8} {m i : Nat} (hi : i ≤ s.length) : (mixL s m i).length = s.length := by simp [mixL]; omega
theorem mixL_get {s : List UInt8} {m i k : Nat} (hi : i ≤ s.length) (hk : k < s.length) : (mixL s m i)[k]? = some (if k < i then s.getD (k - k % m + (m - 1 - k % m)) 0 else s.getD k 0) := by
  unfold mixL
  by_cases h : k < i
  · rw [if_pos h, List.getElem?_append_left (by simp; omega), List.getElem?_take, if_pos h, swapL_get hk]
  · rw [if_neg h, List.getElem?_append_right (by simp; omega), List.getElem?_drop]
    simp only [List.length_take, swapL_len, Nat.min_eq_left hi]
    rw [show i + (k - i) = k by omega, List.getD_eq_getElem?_getD, List.getElem?_eq_getElem hk]; rfl
theorem mix_step {s : List UInt8} {m i : Nat} (hm : 1 ≤ m) (him : i % m = 0) (hi : i + m ≤ s.length) : revAll (mixL s m i) i m = mixL s m (i + m) := by
  have hl := mixL_len (s := s) (m := m) (i := i) (by omega)
  apply List.ext_getElem?
  intro k
  by_cases hk : k < s.length
  · unfold revAll
    rw [revSeg_get (by omega), mixL_get hi hk]
    congr 1
    have get : ∀ j, j < s.length → (mixL s m i).getD j 0 = if j < i then s.getD (j - j % m + (m - 1 - j % m)) 0 else s.getD j 0 := fun j hj => by
      rw [List.getD_eq_getElem?_getD, mixL_get (by omega) hj]; rfl
    by_cases hki : k < i
    · rw [if_neg (by omega), if_pos (by omega), get k hk, if_pos hki]
    · by_cases hkm : k < i + m
      · have hmod : k % m = k - i := by
          have : k = i + (k - i) := by omega
          rw [this, Nat.add_mod, him, Nat.zero_add, Nat.mod_mod, Nat.mod_eq_of_lt (by omega)]; omega
        rw [if_pos hkm, hmod]
        by_cases h2 : i ≤ k ∧ k < i + m ∧ (k < i + m / 2 ∨ i + m ≤ k + m / 2)
        · rw [if_pos h2, get _ (by omega), if_neg (by omega)]
          congr 1; omega
        · rw [if_neg h2, get k hk, if_neg hki]
          congr 1; omega
      · rw [if_neg (by omega), if_neg hkm, get k hk, if_neg hki]
  · rw [List.getElem?_eq_none (by unfold revAll; rw [revSeg_len]; omega), List.getElem?_eq_none (by rw [mixL_len hi]; omega)]
theorem mix_set {s : List UInt8} {m k : Nat} (hk : k < s.length) : (mixL s m k).set k (s.getD (k - k % m + (m - 1 - k % m)) 0) = mixL s m (k + 1) := by
  have hl := mixL_len (s := s) (m := m) (i := k) (by omega)
  have hl2 := mixL_len (s := s) (m := m) (i := k + 1) (by omega)
  apply List.ext_getElem?
  intro j
  rw [List.getElem?_set]
  by_cases hj : j < s.length
  · rw [mixL_get (by omega) hj, mixL_get (by omega) hj]
    by_cases h : k = j
    · subst h
      rw [if_pos rfl, if_pos (by omega), if_pos (by omega)]
    · rw [if_neg h]
      by_cases h2 : j < k
      · rw [if_pos h2, if_pos (by omega)]
      · rw [if_neg h2, if_neg (by omega)]
  · rw [if_neg (by omega), List.getElem?_eq_none (by omega), List.getElem?_eq_none (by omega)]
theorem mix_zero (s : List UInt8) (m : Nat) : mixL s m 0 = s := by simp [mixL]
theorem mix_all (s : List UInt8) (m : Nat) : mixL s m s.length = swapL s m := by simp [mixL]; exact List.take_of_length_le (by simp)
def swapOk (s : List UInt8) (size : Int) : Int := if sizeW size = true then if s.length % size.toNat = 0 then 0 else 11 else 7
def swapR (s : List UInt8) (size : Int) : List UInt8 := if swapOk s size = 0 then swapL s size.toNat else []
def outL (s : List UInt8) (m i : Nat) : List UInt8 := (swapL s m).take i ++ List.replicate (s.length - i) 0
theorem outL_len {s : List UInt8} {m i : Nat} (hi : i ≤ s.length) : (outL s m i).length = s.length := by simp [outL]; omega
theorem out_step {s : List UInt8} {m i : Nat} (hi : i + m ≤ s.length) : (outL s m i).take i ++ ((mixL s m (i + m)).drop i).take m ++ (outL s m i).drop (i + m) = outL s m (i + m) := by
  have e1 : (outL s m i).take i = (swapL s m).take i := by
    unfold outL
    rw [List.take_append_of_le_length (by simp; omega), List.take_take, Nat.min_self]
  have e2 : ((mixL s m (i + m)).drop i).take m = ((swapL s m).take (i + m)).drop i := by
    unfold mixL
    rw [List.drop_append_of_le_length (by simp; omega), List.take_append_of_le_length (by simp; omega), List.take_of_length_le (by simp; omega)]
  have e3 : (outL s m i).drop (i + m) = List.replicate (s.length - (i + m)) 0 := by
    unfold outL
    rw [List.drop_append, List.drop_eq_nil_of_le (by simp; omega), List.drop_replicate]
    simp only [List.length_take, swapL_len, List.nil_append]
    congr 1; omega
  rw [e1, e2, e3]
  unfold outL
  congr 1
  have := List.take_append_drop i ((swapL s m).take (i + m))
  rw [List.take_take, Nat.min_eq_left (by omega)] at this
  exact this
theorem zerosX_one (n : Nat) (z : Value) : zerosX n [z] = List.replicate n z := by
  induction n with
  | zero => rfl
  | succ n ih => simp only [zerosX, List.replicate_succ, List.flatten_cons] at ih ⊢; rw [ih]; rfl
/-- How Swap stands. -/
structure SwSt (r : Loop) (s : List UInt8) (m i : Nat) (H : World) : Prop where
  h0 : getO H 0 = some (rowB (outL s m i) (0, 0))
  h1 : getO H 1 = some (.cells #[sliceA 0 0 i s.length] 57 (0, 0))
  h2 : getO H 2 = some (rowB (mixL s m i) (1, 0))
  h3 : getO H 3 = some (.cells #[sliceA 2 0 s.length s.length] 57 (0, 0))
  h4 : getO H 4 = some (.cells #[.int .i64 m] 3 (0, 0))
  h5 : getO H 5 = some (.deferred (some []))
  h6 : getO H 6 = some (.loop r)
set_option maxRecDepth 100000 in
theorem Swap23 (s : List UInt8) (size : Int) (hl : s.length ≤ 2 ^ 20) (H : World) (Q : Value → World → Prop) : FW X 23 #[.string (sB s), .int .i64 size] H Q = Q (.tuple #[.string (sB (swapR s size)), .int .i64 (swapOk s size)]) H := by
  refine FW.aloneEq ?_ Try.func23 Try.ntmps23 rfl (by simp) ?_ H Q
  · simp [X, plainDI, plainDS]
  simp [padding58, padOk]
  cases hs : sizeW size with
  | false => simp [swapR, swapOk, hs]
  | true =>
    obtain ⟨m, rfl, hm1, hm8⟩ : ∃ m : Nat, size = (m : Int) ∧ 1 ≤ m ∧ m ≤ 8 := by
      have := sizeW_iff.1 hs
      exact ⟨size.toNat, by omega, by omega, by omega⟩
    have hm0 : ¬ m = 0 := by omega
    have hrem : (s.length : Int).tmod (m : Int) = ((s.length % m : Nat) : Int) := rfl
    simp [hm0]
    refine gIf_ndec (fun h => ?_) (fun h => ?_)
    · have hmod : s.length % m = 0 := by have : ((s.length % m : Nat) : Int) = 0 := h; omega
      have hr : swapR s (m : Int) = swapL s m := by simp [swapR, swapOk, hs, hmod]
      have ho : swapOk s (m : Int) = 0 := by simp [swapOk, hs, hmod]
      rw [hr, ho]
      have hcs : ∀ H, convX Try.prog 9 57 (.string (sB s)) H = _ := fun H => conv_str (H := H) (bs := s) Try.underlying9 Try.underlying57 Try.underlying5 info5 rfl
      have hch := fun H Q => Chunk60 (sliceA 2 0 s.length s.length) (m : Int) (by omega) rfl H Q
      have hLI : (s.length : Int) ≤ 4294967296 := by omega
      simp [makeSliceX, szO, allocX, hcs, hch, hLI]
      refine CE.rangeFunc (f := 93) (fs := #[]) (cs := #[p0 3, p0 4]) (by simp) (by simp) (by simp) ?_
      intro T hT
      simp only [size_push, size_set, size_world0, Nat.reduceAdd]
      refine FW.inLoop fun r hr => ?_
      simp only [size_push, size_set, size_world0, Nat.reduceAdd] at hr
      have round : ∀ i H, SwSt r s m i H ∧ i % m = 0 → i + m ≤ s.length → yieldW X 6 #[sliceA 2 i m m] H fun v H' => v = .bool true ∧ SwSt r s m (i + m) H' ∧ (i + m) % m = 0 := by
        rintro i H ⟨⟨h0, h1, h2, h3, h4, h5, h6⟩, him⟩ hi
        have h6' := h6
        rw [hr] at h6
        refine yieldW.one h6 hT (by decide) ?_
        have hrs : r.state = .ready := by rw [hr]; rfl
        have l6 := getO_lt h6
        simp
        refine ⟨_, h6', hrs, ?_⟩
        generalize hbz : Obj.loop { state := LoopState.busy, pending := r.pending, fn := r.fn, tmps := r.tmps, params := r.params, assign := r.assign, body := r.body, defers := r.defers } = bz
        have hml := mixL_len (s := s) (m := m) (i := i) (by omega)
        have hrv := fun Q => Reverse61 (r := 2) (off := i) (m := m) (c := m) (bs := mixL s m i) (fr := (1, 0)) rfl (by omega) (by omega) (setO H 6 bz) (by rw [get_set, if_neg (by decide)]; exact h2) Q
        rw [mix_step hm1 him hi] at hrv
        have l2 := getO_lt h2
        have l0 := getO_lt h0
        have l1 := getO_lt h1
        have g2 : getO (setO (setO H 6 bz) 2 (rowB (mixL s m (i + m)) (1, 0))) 2 = some (rowB (mixL s m (i + m)) (1, 0)) := by simp [l2]
        have src := SrcX.rowOff (P := Try.prog) (es := 1) (off := i) (n := m) (c := m) g2 (by rw [List.length_map, mixL_len hi]; omega)
        rw [Nat.mul_one, ← List.map_drop, ← List.map_take] at src
        have g0 : getO (setO (setO H 6 bz) 2 (rowB (mixL s m (i + m)) (1, 0))) 0 = some (rowB (outL s m i) (0, 0)) := by simp [h0]
        have hlo := outL_len (s := s) (m := m) (i := i) (by omega)
        have happ := append_room Try.prog (n := i) (c := s.length) (m := m) (t1 := 57) (t2 := 57) g0 rfl Try.underlying57 (appended_src Try.prog (by simp) rfl src) info5 rfl (by simp [mixL_len hi]; omega) (by rw [List.all_eq_true]; intro x hx; obtain ⟨b, _, rfl⟩ := List.mem_map.1 hx; rfl) (by simp [hlo]) hi
        rw [overL_list _ _ _ (by simp [hlo, mixL_len hi]; omega)] at happ
        have hmap : ((outL s m i).map u8V).take i ++ (((mixL s m (i + m)).drop i).take m).map u8V ++ ((outL s m i).map u8V).drop (i + ((((mixL s m (i + m)).drop i).take m).map u8V).length) = (outL s m (i + m)).map u8V := by
          have hlm : ((((mixL s m (i + m)).drop i).take m).map u8V).length = m := by simp [mixL_len hi]; omega
          rw [hlm, ← out_step hi]
          simp only [List.map_append, List.map_take, List.map_drop]
        rw [hmap] at happ
        simp [hrv, h1, happ, l0, l1]
        subst hbz
        refine ⟨_, by rw [get_set, if_neg (by decide), get_set, if_neg (by decide), get_set, if_neg (by decide), get_set, if_pos rfl, if_pos l6], rfl, ?_, him⟩
        have hrr : ({ state := LoopState.ready, pending := none, fn := r.fn, tmps := r.tmps, params := r.params, assign := r.assign, body := r.body, defers := r.defers } : Loop) = r := by rw [hr]; rfl
        simp only [hrr]
        refine ⟨?_, ?_, ?_, ?_, ?_, ?_, ?_⟩ <;> simp [l0, l1, l2, l6, h3, h4, h5]
      refine FW.imp (chunk93 (l := 6) (r1 := 3) (r2 := 4) (r := 2) (m := m) (c := s.length) (L := s.length) hm1 (by omega) (Nat.le_refl _) (fun i H => SwSt r s m i H ∧ i % m = 0) ?_ hmod hm8 round _ ?_) ?_
      · rintro i H ⟨st, _⟩
        exact ⟨st.h3, st.h4, _, st.h2⟩
      · have hz : zerosX s.length [Value.int .u8 0] = (List.replicate s.length (0 : UInt8)).map u8V := by
          rw [zerosX_one]; simp
        refine ⟨?_, by simp⟩
        refine ⟨?_, ?_, ?_, ?_, ?_, ?_, ?_⟩ <;> simp [hz, outL, mix_zero]
      · rintro _ H ⟨st, _⟩
        have hj : r.pending = none := by rw [hr]; rfl
        have hb : (r.state == LoopState.busy) = false := by rw [hr]; rfl
        have l6 := getO_lt st.h6
        have h0 := st.h0
        have h1 := st.h1
        have h5 := st.h5
        refine ⟨r, .normal, st.h6, hb, by rw [hj]; rfl, ?_⟩
        have hout : outL s m s.length = swapL s m := by
          unfold outL
          rw [Nat.sub_self, List.replicate_zero, List.append_nil]
          exact List.take_of_length_le (by simp)
        rw [hout] at h0
        have hcv : ∀ o, convX Try.prog 57 9 (sliceA 0 0 s.length s.length) (setO H 6 o) = some (.value (.string (sB (swapL s m))), setO H 6 o) := fun o => by
          have := conv_row (P := Try.prog) (src := 57) (dst := 9) (r := 0) (c := s.length) (fr := (0, 0)) (bs := swapL s m) (H := setO H 6 o) Try.underlying57 Try.underlying5 Try.underlying9 (by rw [get_set, if_neg (by decide)]; exact h0)
          rw [swapL_len] at this
          exact this
        simp [h1, hcv]
        rw [endE_mark (by rw [get_set, if_neg (by decide)]; exact h5)]
        simp
    · have hmod : ¬ s.length % m = 0 := fun e => h (by show ((s.length % m : Nat) : Int) = 0; omega)
      simp [swapR, swapOk, hs, hmod]
set_option maxRecDepth 100000 in
theorem Swap24 (s : List UInt8) (size : Int) (hl : s.length ≤ 2 ^ 20) (H : World) (Q : Value → World → Prop) : FW X 24 #[.string (sB s), .int .i64 size] H Q = Q (.tuple #[.string (sB (swapR s size)), .int .i64 (swapOk s size)]) H := by
  refine FW.aloneEq ?_ Try.func24 Try.ntmps24 rfl (by simp) ?_ H Q
  · simp [X, plainDI, plainDS]
  simp [Size59]
  cases hs : sizeW size with
  | false => simp [swapR, swapOk, hs]
  | true =>
    obtain ⟨m, rfl, hm1, hm8⟩ : ∃ m : Nat, size = (m : Int) ∧ 1 ≤ m ∧ m ≤ 8 := by
      have := sizeW_iff.1 hs
      exact ⟨size.toNat, by omega, by omega, by omega⟩
    have hm0 : ¬ m = 0 := by omega
    simp [hm0]
    refine gIf_ndec (fun h => ?_) (fun h => ?_)
    · have hmod : s.length % m = 0 := by have : ((s.length % m : Nat) : Int) = 0 := h; omega
      have hr : swapR s (m : Int) = swapL s m := by simp [swapR, swapOk, hs, hmod]
      have ho : swapOk s (m : Int) = 0 := by simp [swapOk, hs, hmod]
      rw [hr, ho]
      have hcs : ∀ H, convX Try.prog 9 57 (.string (sB s)) H = _ := fun H => conv_str (H := H) (bs := s) Try.underlying9 Try.underlying57 Try.underlying5 info5 rfl
      simp [hcs]
      refine CE.range (m := s.length) (fun k e H' => lk e 0 = .string (sB s) ∧ lk e 1 = .int .i64 m ∧ lk e 6 = sliceA 0 0 s.length s.length ∧ getO H' 0 = some (rowB (mixL s m k) (1, 0))) ?_ (by omega) ?_ ?_ ?_
      · decide
      · simp [mix_zero]
      · rintro k e H' hk h1 h2 ⟨h3, h4, h5, h6⟩
        have hk2 : k % m < m := Nat.mod_lt _ (by omega)
        have hk3 : k % m ≤ k := Nat.mod_le _ _
        have r1 : (k : Int).tmod (m : Int) = ((k % m : Nat) : Int) := rfl
        obtain ⟨q, hq⟩ : ∃ q, q = k % m := ⟨_, rfl⟩
        rw [← hq] at r1 hk2 hk3
        obtain ⟨a, ha⟩ : ∃ a, a = k - q := ⟨_, rfl⟩
        obtain ⟨j1, hj1⟩ : ∃ j1, j1 = a + m - 1 := ⟨_, rfl⟩
        obtain ⟨j, hj⟩ : ∃ j, j = j1 - q := ⟨_, rfl⟩
        have w1 : IntKind.i64.wrap ((k : Int) - (q : Int)) = (a : Int) := by rw [wrap64' (by omega) (by omega)]; omega
        have w2 : IntKind.i64.wrap ((a : Int) + (m : Int)) = (a : Int) + (m : Int) := wrap64' (by omega) (by omega)
        have w3 : IntKind.i64.wrap ((a : Int) + (m : Int) - 1) = (j1 : Int) := by rw [wrap64' (by omega) (by omega)]; omega
        have w4 : IntKind.i64.wrap ((j1 : Int) - (q : Int)) = (j : Int) := by rw [wrap64' (by omega) (by omega)]; omega
        have him : a + m ≤ s.length := by
          refine mod_step hm1 ?_ hmod (by omega)
          rw [ha, hq]; exact Nat.sub_mod_eq_zero_of_mod_eq (by simp)
        have hjl : j < s.length := by omega
        simp [h1, h2, h3, h4, h5, h6, hk]
        refine WP.draw0 (by decide +kernel) (by decide +kernel) ?_
        have hkk : k + 1 ≤ s.length := hk
        have l0 := getO_lt h6
        have hml := mixL_len (s := s) (m := m) (i := k) (by omega)
        have hset := mix_set (s := s) (m := m) hk
        rw [← hq, show k - q + (m - 1 - q) = j by omega, List.getD_eq_getElem?_getD, List.getElem?_eq_getElem hjl] at hset
        simp [h1, h2, h3, h4, h5, h6, hk, hm0, r1, w1, w2, w3, w4, hjl, l0, hml, hkk, overL]
        rw [← hset]
        simp only [rowB, List.map_set, Option.getD_some]
      · rintro e H' h1 h2 ⟨h3, h4, h5, h6⟩
        rw [mix_all] at h6
        have hcv : convX Try.prog 57 9 (sliceA 0 0 s.length s.length) H' = some (.value (.string (sB (swapL s m))), H') := by
          have := conv_row (P := Try.prog) (src := 57) (dst := 9) (r := 0) (c := s.length) (fr := (1, 0)) (bs := swapL s m) (H := H') Try.underlying57 Try.underlying5 Try.underlying9 h6
          rw [swapL_len] at this
          exact this
        simp [h5, hcv]
    · have hmod : ¬ s.length % m = 0 := fun e => h (by show ((s.length % m : Nat) : Int) = 0; omega)
      simp [swapR, swapOk, hs, hmod]
end Go.Proofs.Ytcllchaboahlfaa
end
