/- Helpers of this claim: an evaluator over plain values and its laws. -/
import Derived.Test.YtlpoejkleopdoaaCn
section
set_option linter.unusedVariables false
set_option linter.unusedSimpArgs false
namespace Go.Proofs.Ytlpoejkleopdoaa
open Go Go.Proofs.Ytlpoejkleopdoaa.Den
theorem stripP {H : World} {v : Value} {xs : List Pc} (h : AccP H v xs) : strip 11 Try.prog H v = some (sl (opt xs)) := by
  rw [Acc.strip_agg (P := Try.prog) (d := 10) (xs := xs) (enc := encP) h Try.underlying33 (by simp) info33 rfl (by decide) encP_ten]
  unfold opt
  split <;> rfl
theorem build33b (a b : Int) (s : List UInt8) : buildQ Try.prog 33 [(0, .int .i64 a), (1, .int .i64 b), (3, .string (sB s))] = some (encP ⟨a, b, false, s⟩) := by
  simp [buildQ, encP, fillX]
theorem plainDI (k : IntKind) (n : Int) : plain deep (.int k n) = true := rfl
theorem plainDS (s : ByteArray) : plain deep (.string s) = true := rfl
/-- One piece more. -/
theorem AccP.add {H : World} {v : Value} {xs : List Pc} (h : AccP H v xs) (hl : xs.length ≤ 2 ^ 21) (p : Pc) : ∃ v' H', builtinX Try.prog .append #[24, 24] #[v, .slice (some ⟨H.heap.size, 0, none⟩) 1 1] (pushObj H (.cells #[.int .i64 p.id, .int .i64 p.place, .bool p.more, .string (sB p.body)] 33 (0, 0))) = some (.value v', H') ∧
    AccP H' v' (xs ++ [p]) ∧ (∀ i o, getO H i = some o → Apart v i → getO H' i = some o) ∧ H.heap.size ≤ H'.heap.size ∧ (∀ i, Apart v i → i < H.heap.size → Apart v' i) := by
  obtain ⟨v', H', e1, acc', keepO, hsz, hap⟩ := Acc.append Try.prog (t1 := 24) (t2 := 24) (Acc.push h (.cells #[.int .i64 p.id, .int .i64 p.place, .bool p.more, .string (sB p.body)] 33 (0, 0))) Try.underlying24 (by simp) info33 zero33 rfl rfl (by decide) (by decide) (by decide)
    (SrcX.row (r := H.heap.size) (n := 1) (c := 1) (cs := [.int .i64 p.id, .int .i64 p.place, .bool p.more, .string (sB p.body)]) (e := 33) (fr := (0, 0)) (by simp) rfl) rfl (by simp) (by simp [bytes33]; omega)
  refine ⟨v', H', e1, ?_, fun i o hi ha => keepO i o (by have := getO_lt hi; rw [get_push, if_neg (by omega)]; exact hi) ha, by rw [size_push] at hsz; omega, fun i ha hi => hap i ha (by rw [size_push]; omega)⟩
  unfold AccP
  rw [List.map_append, List.flatMap_append, List.length_append]
  exact acc'
theorem madeW_ne (id : Int) (size : Nat → Int) (i : Nat) (bd : List UInt8) : madeW id size i bd ≠ [] := by
  rw [madeW]
  split <;> simp
theorem madeW_opt (id : Int) (size : Nat → Int) (i : Nat) (bd : List UInt8) : opt (madeW id size i bd) = some (madeW id size i bd) := if_neg (madeW_ne id size i bd)
theorem msgW_len {id : Int} {bd : List UInt8} (h : msgW id bd = true) : bd.length ≤ 65536 := by
  simp only [msgW, Bool.and_eq_true, decide_eq_true_eq] at h
  omega
theorem sizedW_iff {n : Int} : sizedW n = true ↔ 1 ≤ n ∧ n ≤ 65536 := by simp [sizedW]
set_option maxRecDepth 100000 in
theorem call41 (i : Nat) {n : Int} {b : Nat} {H : World} (h : getO H b = some (.cells #[.int .i64 n] 3 (0, 0))) (Q : Value → World → Prop) : FW X 41 (#[.int .i64 i] ++ #[p0 b]) H Q = Q (.int .i64 n) H := by
  refine FW.eqE (by simp [X]) Try.func41 Try.ntmps41 rfl (by simp) ?_ Q
  simp [h]
set_option maxRecDepth 100000 in
theorem Cut19 (id : Int) (bd : List UInt8) (n : Int) (H : World) (Q : Value → World → Prop) : FW X 19 #[.int .i64 id, .string (sB bd), .int .i64 n] H Q = Q (.tuple #[sl (cutW id bd n).1, .int .i64 (cutW id bd n).2]) H := by
  refine FW.aloneEq ?_ Try.func19 Try.ntmps19 rfl (by simp) ?_ H Q
  · simp [X, plain, deep, constOk1]
  simp [message39, szO]
  cases hm : msgW id bd with
  | false => simp [cutW, hm]
  | true =>
  simp [sized37]
  cases hs : sizedW n with
  | false => simp [cutW, hm, hs]
  | true =>
  simp
  have hb := msgW_len hm
  refine made40 (by simp) (fun _ => n) (by omega) _ ?_ ?_
  · intro i H Q hk
    exact call41 i (hk 0 _ (by simp)) Q
  · intro v H hv
    have := stripP hv
    rw [madeW_opt] at this
    simp [cutW, hm, hs, this]
set_option maxRecDepth 100000 in
theorem Cut20 (id : Int) (bd : List UInt8) (n : Int) (H : World) (Q : Value → World → Prop) : FW X 20 #[.int .i64 id, .string (sB bd), .int .i64 n] H Q = Q (.tuple #[sl (cutW id bd n).1, .int .i64 (cutW id bd n).2]) H := by
  refine FW.aloneEq ?_ Try.func20 Try.ntmps20 rfl (by simp) ?_ H Q
  · simp [X, plain, deep, constOk1]
  simp [message42]
  cases hm : msgW id bd with
  | false => simp [cutW, hm]
  | true =>
  simp [sized38]
  cases hs : sizedW n with
  | false => simp [cutW, hm, hs]
  | true =>
  simp
  have hb := msgW_len hm
  obtain ⟨hs1, hs2⟩ := sizedW_iff.1 hs
  refine CE.inv (fun d e H => ∃ vo out bd', d = bd'.length ∧ lk e 0 = .int .i64 id ∧ lk e 1 = .string (sB bd') ∧ lk e 2 = .int .i64 n ∧ lk e 8 = vo ∧ AccP H vo out ∧ out.length + bd'.length ≤ 65536 ∧ out ++ madeW id (fun _ => n) out.length bd' = madeW id (fun _ => n) 0 bd) ?_
    ⟨nil0, [], bd, rfl, by simp, by simp, by simp, by simp, Acc.nil, by simpa using hb, rfl⟩
  rintro d e H' ⟨vo, out, bd', rfl, h0, h1, h2, h8, acc, hl, hout⟩
  have hlen := fun H0 => Acc.len (P := Try.prog) (H0 := H0) (t := 24) acc (by simp)
  simp [h1, h2]
  refine gIf_dec (fun hc => ?_) (fun hc => ?_)
  · have hto : ∀ H, sliceX Try.prog 9 (.string (sB bd')) none (some (.int .i64 n)) none H = _ := fun H => slice_str_to (H := H) Try.underlying9 (by omega) (by omega)
    have hfrom : ∀ H, sliceX Try.prog 9 (.string (sB bd')) (some (.int .i64 n)) none none H = _ := fun H => slice_str_from (H := H) Try.underlying9 (by omega) (by omega)
    obtain ⟨v', H5, e1, acc', -⟩ := AccP.add acc (by omega) ⟨id, out.length, true, bd'.take n.toNat⟩
    simp [h0, h1, h2, h8, hlen, hto, hfrom, build33, buildSliceX, inOrder, catCells, szO, e1]
    refine ⟨bd'.length - n.toNat, by omega, v', out ++ [⟨id, out.length, true, bd'.take n.toNat⟩], bd'.drop n.toNat, by simp, ?_⟩
    refine ⟨rfl, rfl, acc', by simp; omega, ?_⟩
    rw [List.length_append, List.length_singleton, ← hout, List.append_assoc, madeW.eq_1 id _ out.length bd', dif_neg (by omega)]
    rfl
  · obtain ⟨v', H5, e1, acc', -⟩ := AccP.add acc (by omega) ⟨id, out.length, false, bd'⟩
    have hfin : madeW id (fun _ => n) 0 bd = out ++ [⟨id, out.length, false, bd'⟩] := by rw [← hout, madeW.eq_1 id _ out.length bd', dif_pos (by omega)]
    have hst := stripP acc'
    rw [← hfin, madeW_opt] at hst
    simp [h0, h1, h2, h8, hlen, build33b, buildSliceX, inOrder, catCells, szO, e1, hst, cutW, hm, hs]
theorem call43 (n : Int) (H : World) (Q : Value → World → Prop) : FW X 43 #[.int .i64 n] H Q = Q (.bool (!sizedW n)) H := by
  refine FW.aloneEq ?_ Try.func43 Try.ntmps43 rfl (by simp) ?_ H Q
  · simp [X, plain, deep, constOk1]
  simp [sized37]
set_option maxRecDepth 100000 in
theorem call44 (i : Nat) {o : Option (List Int)} (hl : (o.getD []).length < 2 ^ 63) {b : Nat} {H : World} (h : getO H b = some (.cells #[ints o] 23 (0, 0))) (Q : Value → World → Prop) : FW X 44 (#[.int .i64 i] ++ #[p0 b]) H Q = Q (.int .i64 ((o.getD [])[i]?.getD 0)) H := by
  refine FW.eqE (by simp [X]) Try.func44 Try.ntmps44 rfl (by simp) ?_ Q
  simp [h]
  refine gIf_dec (fun hc => ?_) (fun hc => ?_)
  · simp [h, hc]
  · simp [List.getElem?_eq_none (Nat.le_of_not_lt hc)]
set_option maxRecDepth 100000 in
theorem Index50G {g : Nat} {caps : Array Value} (hf : isFn Try.prog g = true) (p : Int → Bool) (o : Option (List Int)) (hl : (o.getD []).length < 2 ^ 63) (H : World) (hg : ∀ n Q, FW X g (#[.int .i64 n] ++ caps) H Q = Q (.bool (p n)) H) (Q : Value → World → Prop) : FW X 50 #[ints o, .func (.func g) #[] caps] H Q = Q (.int .i64 (idxI p (o.getD []))) H := by
  refine FW.eqE (by simp [X]) Try.func50 Try.ntmps50 rfl (by simp) ?_ Q
  simp
  refine CE.range (m := (o.getD []).length) (fun k e H' => H' = H ∧ lk e 0 = ints o ∧ lk e 1 = .func (.func g) #[] caps ∧ ∀ j (hj : j < (o.getD []).length), j < k → p (o.getD [])[j] = false) ?_ hl ?_ ?_ ?_
  · decide
  · simp
  · rintro k e H' hk h1 h2 ⟨rfl, h3, h4, h5⟩
    simp [h1, h2, h3, h4, hk, hf, hg]
    refine gIf_split (fun h => ?_) (fun h => ?_)
    · simp
      exact (idxI_at hk (fun j hj => h5 j (by omega) hj) h).symm
    · simp [h1, h2, h3, h4]
      intro j hj hj2
      by_cases hjk : j = k
      · subst hjk; exact h
      · exact h5 j hj (by omega)
  · rintro e H' h1 h2 ⟨rfl, h3, h4, h5⟩
    simp
    exact (idxI_none fun j hj => h5 j hj hj).symm
set_option maxRecDepth 100000 in
theorem Contains28G {g : Nat} {caps : Array Value} (hf : isFn Try.prog g = true) (p : Int → Bool) (o : Option (List Int)) (hl : (o.getD []).length < 2 ^ 63) (H : World) (hg : ∀ n Q, FW X g (#[.int .i64 n] ++ caps) H Q = Q (.bool (p n)) H) (Q : Value → World → Prop) : FW X 28 #[ints o, .func (.func g) #[] caps] H Q = Q (.bool ((o.getD []).any p)) H := by
  refine FW.eqE (by simp [X]) Try.func28 Try.ntmps28 rfl (by simp) ?_ Q
  simp [Index50G hf p o hl H hg, idxI_any]
set_option maxRecDepth 100000 in
theorem Sizes21 (id : Int) (bd : List UInt8) (ns : Option (List Int)) (hl : (ns.getD []).length < 2 ^ 63) (H : World) (Q : Value → World → Prop) : FW X 21 #[.int .i64 id, .string (sB bd), ints ns] H Q = Q (.tuple #[sl (sizesW id bd (ns.getD [])).1, .int .i64 (sizesW id bd (ns.getD [])).2]) H := by
  refine FW.aloneEq ?_ Try.func21 Try.ntmps21 rfl (by simp) ?_ H Q
  · simp [X, plainDI, plainDS, plainI]
  simp [message39, szO]
  cases hm : msgW id bd with
  | false => simp [sizesW, hm]
  | true =>
  have hc := fun H => Contains28G (g := 43) (caps := #[]) (by simp) (fun n => !sizedW n) ns hl H (fun n Q => call43 n H Q)
  have hall : ((ns.getD []).any fun n => !sizedW n) = !(ns.getD []).all sizedW := by simp [List.all_eq_not_any_not]
  simp [hc, hall]
  cases hs : (ns.getD []).all sizedW with
  | false => simp [sizesW, hm, hs]
  | true =>
  simp
  have hb := msgW_len hm
  refine made40 (by simp) (fun i => (ns.getD [])[i]?.getD 0) (by omega) _ ?_ ?_
  · intro i H Q hk
    exact call44 i hl (hk 0 _ (by simp)) Q
  · intro v H hv
    have := stripP hv
    rw [madeW_opt] at this
    simp [sizesW, hm, hs, this]
set_option maxRecDepth 100000 in
theorem Sizes22 (id : Int) (bd : List UInt8) (ns : Option (List Int)) (hl : (ns.getD []).length < 2 ^ 63) (H : World) (Q : Value → World → Prop) : FW X 22 #[.int .i64 id, .string (sB bd), ints ns] H Q = Q (.tuple #[sl (sizesW id bd (ns.getD [])).1, .int .i64 (sizesW id bd (ns.getD [])).2]) H := by
  refine FW.aloneEq ?_ Try.func22 Try.ntmps22 rfl (by simp) ?_ H Q
  · simp [X, plainDI, plainDS, plainI]
  simp [message42]
  cases hm : msgW id bd with
  | false => simp [sizesW, hm]
  | true =>
  simp
  have hb := msgW_len hm
  refine CE.range (m := (ns.getD []).length) (fun k e H' => H' = World0 ∧ lk e 0 = .int .i64 id ∧ lk e 1 = .string (sB bd) ∧ lk e 2 = ints ns ∧ lk e 17 = ints ns ∧ ∀ j (hj : j < (ns.getD []).length), j < k → sizedW (ns.getD [])[j] = true) ?_ hl ?_ ?_ ?_
  · decide
  · simp
  · rintro k e H' hk h1 h2 ⟨rfl, h0, h3, h4, h5, h6⟩
    simp [h1, h2, h0, h3, h4, h5, hk, sized38]
    refine gIf_nb (fun h => ?_) (fun h => ?_)
    · simp [h1, h2, h0, h3, h4, h5]
      intro j hj hj2
      by_cases hjk : j = k
      · subst hjk; exact h
      · exact h6 j hj (by omega)
    · have : (ns.getD []).all sizedW = false := by
        rw [Bool.eq_false_iff]
        intro ha
        rw [List.all_eq_true] at ha
        rw [ha _ (List.getElem_mem hk)] at h; cases h
      simp [sizesW, hm, this]
  · rintro e H' h1 h2 ⟨rfl, h0, h3, h4, h5, h6⟩
    have hall : (ns.getD []).all sizedW = true := by
      rw [List.all_eq_true]
      intro x hx
      obtain ⟨j, hj, rfl⟩ := List.getElem_of_mem hx
      exact h6 j hj hj
    have hres : sizesW id bd (ns.getD []) = (some (madeW id (fun i => (ns.getD [])[i]?.getD 0) 0 bd), 0) := by simp [sizesW, hm, hall]
    rw [hres]
    simp [h0, h3, h4]
    refine CE.imp (Q := fun ex e ds H => ex = .exit 2 ∧ ds = [] ∧ ∃ vo out bd', lk e 0 = .int .i64 id ∧ lk e 1 = .string (sB bd') ∧ lk e 10 = vo ∧ AccP H vo out ∧ out.length + bd'.length ≤ 65536 ∧ madeW id (fun i => (ns.getD [])[i]?.getD 0) 0 bd = out ++ [⟨id, out.length, false, bd'⟩]) ?_ ?_
    · refine CE.range (m := (ns.getD []).length) (fun k e H => lk e 0 = .int .i64 id ∧ lk e 27 = ints ns ∧ ∃ vo out bd', lk e 1 = .string (sB bd') ∧ lk e 10 = vo ∧ AccP H vo out ∧ out.length = k ∧ out.length + bd'.length ≤ 65536 ∧ out ++ madeW id (fun i => (ns.getD [])[i]?.getD 0) k bd' = madeW id (fun i => (ns.getD [])[i]?.getD 0) 0 bd) ?_ hl ?_ ?_ ?_
      · decide
      · refine ⟨by simp, by simp, by simp [h0], by simp, nil0, [], bd, by simp [h3], by simp, Acc.nil, rfl, by simpa using hb, rfl⟩
      · rintro k e H' hk h1 h2 ⟨h0, h27, vo, out, bd', h4, h10, acc, hok, hl2, hout⟩
        have hlen := fun H0 => Acc.len (P := Try.prog) (H0 := H0) (t := 24) acc (by simp)
        have hsk := sizedW_iff.1 (h6 k hk hk)
        have hgk : (ns.getD [])[k]?.getD 0 = (ns.getD [])[k] := by simp [hk]
        simp [h1, h2, h0, h27, h4, h10, hk]
        refine gIf_dec (fun hc => ?_) (fun hc => ?_)
        · simp
          refine ⟨h0, vo, out, bd', h4, h10, acc, hl2, ?_⟩
          rw [← hout, hok, madeW.eq_1 id _ k bd', dif_pos (by rw [hgk]; right; exact hc)]
        · have hto : ∀ H, sliceX Try.prog 9 (.string (sB bd')) none (some (.int .i64 (ns.getD [])[k])) none H = _ := fun H => slice_str_to (H := H) Try.underlying9 (by omega) (by omega)
          have hfrom : ∀ H, sliceX Try.prog 9 (.string (sB bd')) (some (.int .i64 (ns.getD [])[k])) none none H = _ := fun H => slice_str_from (H := H) Try.underlying9 (by omega) (by omega)
          obtain ⟨v', H5, e1, acc', -⟩ := AccP.add acc (by omega) ⟨id, out.length, true, bd'.take (ns.getD [])[k].toNat⟩
          simp [h1, h2, h0, h4, h10, h27, hlen, hto, hfrom, build33, buildSliceX, inOrder, catCells, szO, e1]
          have hd : (bd'.drop (ns.getD [])[k].toNat).length = bd'.length - (ns.getD [])[k].toNat := List.length_drop
          refine ⟨_, acc', by simp [hok], by simp; omega, ?_⟩
          rw [List.append_assoc, ← hout, madeW.eq_1 id _ k bd', dif_neg (by rw [hgk]; omega), hgk, hok]
          rfl
      · rintro e H' h1 h2 ⟨h0, h27, vo, out, bd', h4, h10, acc, hok, hl2, hout⟩
        refine ⟨rfl, rfl, vo, out, bd', by simpa using h0, by simpa using h4, by simpa using h10, acc, hl2, ?_⟩
        rw [← hout, madeW.eq_1, dif_pos (by simp), hok]
    · rintro ex e1 ds1 H1 ⟨rfl, rfl, vo, out, bd', h0, h4, h10, acc, hl2, hout⟩
      have hlen := fun H0 => Acc.len (P := Try.prog) (H0 := H0) (t := 24) acc (by simp)
      obtain ⟨v', H5, e1, acc', -⟩ := AccP.add acc (by omega) ⟨id, out.length, false, bd'⟩
      have hst := stripP acc'
      rw [← hout, madeW_opt] at hst
      simp [h0, h4, h10, hlen, build33b, buildSliceX, inOrder, catCells, szO, e1, hst]
end Go.Proofs.Ytlpoejkleopdoaa
end
