/- Helpers of this claim: an evaluator over plain values and its laws. -/
import Derived.Test.YtlpoejkleopdoaaJf
section
set_option linter.unusedVariables false
set_option linter.unusedSimpArgs false
namespace Go.Proofs.Ytlpoejkleopdoaa
open Go Go.Proofs.Ytlpoejkleopdoaa.Den
theorem bytesO_take {L : List Op} {k : Nat} (hk : k < L.length) : bytesO (L.take (k + 1)) = bytesO (L.take k) + L[k].body.length := by
  rw [List.take_succ_eq_append_getElem hk]
  simp only [bytesO, List.map_append, List.sum_append, List.map_cons, List.map_nil, List.sum_cons, List.sum_nil, Nat.add_zero]
theorem bytesO_le (L : List Op) (k : Nat) : bytesO (L.take k) ≤ bytesO L := by
  have : bytesO L = bytesO (L.take k) + bytesO (L.drop k) := by
    conv => lhs; rw [← List.take_append_drop k L]
    simp only [bytesO, List.map_append, List.sum_append]
  omega
set_option maxRecDepth 100000 in
theorem Bytes56 {H : World} {jb : Nat} {most room : Int} {L : List Op} {v : Value} (st : RSt H jb most room L v) (hi : OInv most room L) {Q : Value → World → Prop} (hq : ∀ H', Keep H H' → Q (.int .i64 (bytesO L)) H') : FW X 56 #[p0 jb] H Q := by
  refine FW.walk (by simp [X]) Try.func56 Try.ntmps56 rfl (by simp) ?_
  have hj := st.hj
  have hlen := fun H0 => Acc.len (P := Try.prog) (H0 := H0) (t := 82) st.acc (by simp)
  have hmost := hi.most0
  have hll := hi.len
  have hby := hi.bytes
  have hrm := hi.room0
  simp [hj, hlen]
  refine CE.range (m := L.length) (fun k e H' => Keep H H' ∧ lk e 9 = v ∧ lk e 3 = .int .i64 (bytesO (L.take k))) ?_ (by omega) ?_ ?_ ?_
  · decide
  · simp [bytesO]
    exact Keep.refl
  · rintro k e H' hk h1 h2 ⟨hK, h3, h4⟩
    obtain ⟨r, rfl, hr⟩ := Acc.pos st.acc (by omega)
    obtain ⟨cs, hcs⟩ : ∃ cs, cs = (L.map encO).flatMap fun v => v.cells.toList := ⟨_, rfl⟩
    rw [← hcs] at hr
    have hclen : cs.length = L.length * 3 := by rw [hcs, flatO_len]
    have hr' := hK _ _ hr
    have hg := enc_get' (es := 3) (enc := encO) (fun x => by simp) hcs k hk
    have hb : k * 3 + 3 ≤ L.length * 3 := by omega
    have hle := bytesO_le L (k + 1)
    have htk := bytesO_take hk
    have hw : IntKind.i64.wrap ((bytesO (L.take k) : Int) + (L[k].body.length : Int)) = (bytesO (L.take (k + 1)) : Int) := by rw [wrap64 (by omega) (by omega)]; omega
    simp [h1, h2, h3, h4, hk, allocX, hr', hclen, hb, hg, szO, hw]
    exact hK.push _
  · rintro e H' h1 h2 ⟨hK, h3, h4⟩
    rw [List.take_length] at h4
    simp [h4]
    exact hq _ hK
/-- What a take leaves alone. -/
structure FrR (H H' : World) (jb : Nat) (v v' : Value) : Prop where
  keep : ∀ j o, getO H j = some o → j ≠ jb → Apart v j → getO H' j = some o
  apart : ∀ j, j < H.heap.size → Apart v j → Apart v' j
  size : H.heap.size ≤ H'.heap.size
theorem FrR.refl {H : World} {jb : Nat} {v : Value} : FrR H H jb v v := ⟨fun _ _ h _ _ => h, fun _ _ h => h, Nat.le_refl _⟩
theorem FrR.trans {H H' H2 : World} {jb : Nat} {v v' v2 : Value} (h : FrR H H' jb v v') (g : FrR H' H2 jb v' v2) : FrR H H2 jb v v2 :=
  ⟨fun j o h1 h2 h4 => g.keep j o (h.keep j o h1 h2 h4) h2 (h.apart j (getO_lt h1) h4), fun j h1 h2 => g.apart j (Nat.lt_of_lt_of_le h1 h.size) (h.apart j h1 h2), Nat.le_trans h.size g.size⟩
theorem FrR.ofKeep {H H' : World} {jb : Nat} {v : Value} (h : Keep H H') (hs : H.heap.size ≤ H'.heap.size) : FrR H H' jb v v := ⟨fun j o h1 _ _ => h j o h1, fun _ _ h => h, hs⟩
theorem RSt.keep {H H' : World} {jb : Nat} {most room : Int} {L : List Op} {v : Value} (st : RSt H jb most room L v) (h : Keep H H') : RSt H' jb most room L v :=
  ⟨h _ _ st.hj, Acc.keep (u := nil0) st.acc (fun i o hi _ => h i o hi) (fun _ _ _ _ _ _ _ h => by cases h), st.ap⟩
/-- One open message more. -/
theorem AccO.add {H : World} {v : Value} {xs : List Op} (h : AccO H v xs) (hl : xs.length ≤ 2 ^ 21) (p : Op) : ∃ v' H', builtinX Try.prog .append #[82, 82] #[v, .slice (some ⟨H.heap.size, 0, none⟩) 1 1] (pushObj H (.cells #[.int .i64 p.id, .int .i64 p.count, .string (sB p.body)] 87 (0, 0))) = some (.value v', H') ∧
    AccO H' v' (xs ++ [p]) ∧ (∀ i o, getO H i = some o → Apart v i → getO H' i = some o) ∧ H.heap.size ≤ H'.heap.size ∧ (∀ i, Apart v i → i < H.heap.size → Apart v' i) := by
  obtain ⟨v', H', e1, acc', keepO, hsz, hap⟩ := Acc.append Try.prog (t1 := 82) (t2 := 82) (Acc.push h (.cells #[.int .i64 p.id, .int .i64 p.count, .string (sB p.body)] 87 (0, 0))) Try.underlying82 (by simp) info87 zero87 rfl rfl (by decide) (by decide) (by decide)
    (SrcX.row (r := H.heap.size) (n := 1) (c := 1) (cs := [.int .i64 p.id, .int .i64 p.count, .string (sB p.body)]) (e := 87) (fr := (0, 0)) (by simp) rfl) rfl (by simp) (by simp [bytes87]; omega)
  refine ⟨v', H', e1, ?_, fun i o hi ha => keepO i o (by have := getO_lt hi; rw [get_push, if_neg (by omega)]; exact hi) ha, by rw [size_push] at hsz; omega, fun i ha hi => hap i ha (by rw [size_push]; omega)⟩
  unfold AccO
  rw [List.map_append, List.flatMap_append, List.length_append]
  exact acc'
theorem delO_idx {id : Int} {x : Op} : ∀ {L : List Op} {k : Nat} (hk : k < L.length), (∀ j (hj : j < k), L[j].id ≠ id) → L[k].id = id → delO id L = L.take k ++ L.drop (k + 1)
  | [], k, hk, _, _ => by simp at hk
  | y :: L, 0, hk, _, h => by
    unfold delO
    rw [if_pos (by simpa using h)]
    simp
  | y :: L, k + 1, hk, h1, h => by
    unfold delO
    have h0 : ¬ y.id = id := by simpa using h1 0 (by omega)
    rw [if_neg h0]
    have hk' : k < L.length := by simpa using hk
    have := delO_idx (x := x) hk' (fun j hj => by simpa using h1 (j + 1) (by omega)) (by simpa using h)
    rw [this]
    simp
theorem rem_step {L : List Op} {i k : Nat} (hk : k < L.length) : (L.take (k + 1)).take i ++ (L.take (k + 1)).drop (i + 1) = ((L.take k).take i ++ (L.take k).drop (i + 1)) ++ if k = i then [] else [L[k]] := by
  have hl : (L.take k).length = k := by simp; omega
  rw [List.take_succ_eq_append_getElem hk]
  rcases Nat.lt_trichotomy k i with h | h | h
  · have a1 : (L.take k ++ [L[k]]).take i = L.take k ++ [L[k]] := List.take_of_length_le (by simp; omega)
    have a2 : (L.take k ++ [L[k]]).drop (i + 1) = [] := List.drop_eq_nil_of_le (by simp; omega)
    have a3 : (L.take k).take i = L.take k := List.take_of_length_le (by omega)
    have a4 : (L.take k).drop (i + 1) = [] := List.drop_eq_nil_of_le (by omega)
    rw [a1, a2, a3, a4, if_neg (by omega)]
    simp
  · subst h
    rw [List.take_append_of_le_length (by omega), List.drop_eq_nil_of_le (by simp; omega), List.drop_eq_nil_of_le (by omega), if_pos rfl]
    simp
  · rw [List.take_append_of_le_length (by omega), List.drop_append_of_le_length (by omega), if_neg (by omega)]
    simp
theorem veq_encO (p : Op) : veq (encO p) (encO p) = true := by
  have e : (sB p.body == sB p.body) = true := by rw [sB_beq]; simp
  unfold encO veq veq2
  simp only [veqA, veq1, beq_self_eq_true, Bool.and_self, e]
set_option maxRecDepth 100000 in
theorem remove57 {H : World} {jb : Nat} {most room : Int} {L : List Op} {v : Value} (st : RSt H jb most room L v) (hl : L.length ≤ 1000) {i : Nat} (hi : i < L.length) {Q : Value → World → Prop}
    (hq : ∀ H' v', RSt H' jb most room (L.take i ++ L.drop (i + 1)) v' → FrR H H' jb v v' → Q (.tuple #[]) H') : FW X 57 #[p0 jb, .int .i64 i] H Q := by
  refine FW.walk (by simp [X]) Try.func57 Try.ntmps57 rfl (by simp) ?_
  have hj := st.hj
  have hlen := fun H0 => Acc.len (P := Try.prog) (H0 := H0) (t := 82) st.acc (by simp)
  simp [hj, hlen]
  refine CE.range (m := L.length) (fun k e H' => Keep H H' ∧ H.heap.size ≤ H'.heap.size ∧ lk e 0 = p0 jb ∧ lk e 1 = .int .i64 i ∧ lk e 10 = v ∧ ∃ v', lk e 4 = v' ∧ AccO H' v' ((L.take k).take i ++ (L.take k).drop (i + 1)) ∧ ∀ j, j < H.heap.size → Apart v' j) ?_ (by omega) ?_ ?_ ?_
  · decide
  · refine ⟨by simp, by simp, Keep.refl, Nat.le_refl _, by simp, by simp, by simp, nil0, by simp, ?_, fun j _ _ _ _ h => by cases h⟩
    simp
    exact Acc.nil
  · rintro k e H' hk h1 h2 ⟨hK, hs, h0, h11, h3, v', h4, acc, hap⟩
    obtain ⟨r, rfl, hr⟩ := Acc.pos st.acc (by omega)
    obtain ⟨cs, hcs⟩ : ∃ cs, cs = (L.map encO).flatMap fun v => v.cells.toList := ⟨_, rfl⟩
    rw [← hcs] at hr
    have hclen : cs.length = L.length * 3 := by rw [hcs, flatO_len]
    have hr' := hK _ _ hr
    have hg := enc_get' (es := 3) (enc := encO) (fun x => by simp) hcs k hk
    have hb : k * 3 + 3 ≤ L.length * 3 := by omega
    have hll : ((L.take k).take i ++ (L.take k).drop (i + 1)).length ≤ 1000 := by simp; omega
    obtain ⟨v2, H5, e1, acc2, keepO, hsz, hap2⟩ := AccO.add (Acc.push acc (.cells #[.int .i64 L[k].id, .int .i64 L[k].count, .string (sB L[k].body)] 87 (0, 0))) (by omega) L[k]
    simp [h0, h1, h2, h3, h4, h11, hk, allocX, hr', hclen, hb, hg, szO]
    have hstep := rem_step (i := i) hk
    have lh := getO_lt st.hj
    refine gIf_ndec (fun hki => ?_) (fun hki => ?_)
    · have hki : k = i := by omega
      rw [if_pos hki, List.append_nil] at hstep
      simp [h0, h1, h2, h3, h4, h11]
      refine ⟨hK.push _, by omega, ?_, hap⟩
      rw [hstep]
      exact Acc.push acc _
    · have hki : ¬ k = i := by omega
      rw [if_neg hki] at hstep
      have nsz : ¬ H'.heap.size = H'.heap.size + 1 := by omega
      rw [size_push] at e1 hsz hap2
      simp [h0, h1, h2, h3, h4, h11, buildSliceX, inOrder, catCells, szO, e1]
      refine ⟨fun j o hj => keepO j o (by have := hK j o hj; have := getO_lt this; rw [get_push, if_neg (by omega)]; assumption) (hap j (getO_lt hj)), by omega, ?_, fun j hj => hap2 j (hap j hj) (by omega)⟩
      rw [hstep]
      exact acc2
  · rintro e H' h1 h2 ⟨hK, hs, h0, h11, h3, v', h4, acc, hap⟩
    have hj' := hK _ _ hj
    have lj := getO_lt hj
    have lj' := getO_lt hj'
    rw [List.take_length] at acc
    obtain ⟨c1, c2⟩ := Acc.one acc
    simp [h0, h4, hj', c1, c2]
    refine hq _ v' ⟨by simp [lj'], Acc.set acc _ (hap jb lj), hap jb lj⟩ ⟨fun j o h1 h2 h3 => ?_, fun j h1 h2 => hap j h1, by simp; omega⟩
    rw [get_set, if_neg h2]
    exact hK j o h1
end Go.Proofs.Ytlpoejkleopdoaa
end
