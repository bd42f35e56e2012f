/- Helpers of this claim: an evaluator over plain values and its laws. -/
import Derived.Test.YtlpoejkleopdoaaJk
section
set_option linter.unusedVariables false
set_option linter.unusedSimpArgs false
namespace Go.Proofs.Ytlpoejkleopdoaa
open Go Go.Proofs.Ytlpoejkleopdoaa.Den
structure BInv (H : World) (jb : Nat) (most room : Int) (L : List Op) (v : Value) (vi : Value) (ids : List Int) (vb : Value) (bs : List (List UInt8)) : Prop where
  st : RSt H jb most room L v
  ai : Den.Acc H vi 1 3 ids.length (ids.map (Value.int .i64))
  ab : Den.Acc H vb 1 9 bs.length (bs.map fun l => Value.string (sB l))
  si : Apart vi jb
  sb : Apart vb jb
  ib : ApV vi vb
  sm : ApV v vi ∧ ApV v vb
theorem BInv.push {H : World} {jb : Nat} {most room : Int} {L : List Op} {v vi : Value} {ids : List Int} {vb : Value} {bs : List (List UInt8)} (h : BInv H jb most room L v vi ids vb bs) (o : Obj) : BInv (pushObj H o) jb most room L v vi ids vb bs :=
  ⟨h.st.push o, Acc.push h.ai o, Acc.push h.ab o, h.si, h.sb, h.ib, h.sm⟩
theorem BInv.take {H H' : World} {jb : Nat} {most room : Int} {L L' : List Op} {v v' vi : Value} {ids : List Int} {vb : Value} {bs : List (List UInt8)} (h : BInv H jb most room L v vi ids vb bs) (st : RSt H' jb most room L' v') (fr : FrR H H' jb v v') : BInv H' jb most room L' v' vi ids vb bs := by
  have key : ∀ (u : Value) (es : Nat) (e : TypeId) (n : Nat) (cs : List Value), Den.Acc H u es e n cs → Apart u jb → ApV v u → Den.Acc H' u es e n cs ∧ ApV v' u := by
    intro u es e n cs ha a1 a3
    have hsep : ApV v' u := fun r m c hv => fr.apart r (Acc.row_lt ha hv) (a3 r m c hv)
    refine ⟨?_, hsep⟩
    obtain ⟨h1, h2 | ⟨r, rfl, hn, hr⟩⟩ := ha
    · exact ⟨h1, .inl h2⟩
    · exact ⟨h1, .inr ⟨r, rfl, hn, fr.keep r _ hr (fun e => a1 r n n rfl e.symm) (a3 r n n rfl)⟩⟩
  obtain ⟨k1, k2⟩ := key _ _ _ _ _ h.ai h.si h.sm.1
  obtain ⟨k3, k4⟩ := key _ _ _ _ _ h.ab h.sb h.sm.2
  exact ⟨st, k1, k3, h.si, h.sb, h.ib, k2, k4⟩
theorem RSt.keepA {H H' : World} {jb : Nat} {most room : Int} {L : List Op} {v u : Value} (st : RSt H jb most room L v) (hk : ∀ i o, getO H i = some o → Apart u i → getO H' i = some o) (a1 : Apart u jb) (a3 : ApV u v) : RSt H' jb most room L v :=
  ⟨hk _ _ st.hj a1, Acc.keep st.acc hk a3, st.ap⟩
theorem BInv.addI {H H' : World} {jb : Nat} {most room : Int} {L : List Op} {v vi vi' : Value} {ids ids' : List Int} {vb : Value} {bs : List (List UInt8)} (h : BInv H jb most room L v vi ids vb bs) (acc' : Den.Acc H' vi' 1 3 ids'.length (ids'.map (Value.int .i64))) (hk : ∀ i o, getO H i = some o → Apart vi i → getO H' i = some o) (hap : ∀ i, Apart vi i → i < H.heap.size → Apart vi' i) : BInv H' jb most room L v vi' ids' vb bs := by
  have lj := getO_lt h.st.hj
  have sm' : ApV v vi' := ApV.symm fun r n c e => hap r (ApV.symm h.sm.1 r n c e) (Acc.row_lt h.st.acc e)
  exact ⟨h.st.keepA hk h.si (ApV.symm h.sm.1), acc', Acc.keep h.ab hk h.ib, hap _ h.si lj, h.sb, fun r n c e => hap r (h.ib r n c e) (Acc.row_lt h.ab e), sm', h.sm.2⟩
theorem BInv.addB {H H' : World} {jb : Nat} {most room : Int} {L : List Op} {v vi : Value} {ids : List Int} {vb vb' : Value} {bs bs' : List (List UInt8)} (h : BInv H jb most room L v vi ids vb bs) (acc' : Den.Acc H' vb' 1 9 bs'.length (bs'.map fun l => Value.string (sB l))) (hk : ∀ i o, getO H i = some o → Apart vb i → getO H' i = some o) (hap : ∀ i, Apart vb i → i < H.heap.size → Apart vb' i) : BInv H' jb most room L v vi ids vb' bs' := by
  have lj := getO_lt h.st.hj
  have sm' : ApV v vb' := ApV.symm fun r n c e => hap r (ApV.symm h.sm.2 r n c e) (Acc.row_lt h.st.acc e)
  exact ⟨h.st.keepA hk h.sb (ApV.symm h.sm.2), Acc.keep h.ai hk (ApV.symm h.ib), acc', h.si, hap _ h.sb lj, ApV.symm fun r n c e => hap r (ApV.symm h.ib r n c e) (Acc.row_lt h.ai e), h.sm.1, sm'⟩
theorem BInv.strip {H : World} {jb : Nat} {most room : Int} {L : List Op} {v vi : Value} {ids : List Int} {vb : Value} {bs : List (List UInt8)} (h : BInv H jb most room L v vi ids vb bs) : strip 11 Try.prog H vi = some (ints (if ids = [] then none else some ids)) ∧ strip 11 Try.prog H vb = some (txts (if bs = [] then none else some bs)) := by
  constructor
  · rw [Acc.strip_one (P := Try.prog) (d := 10) (enc := Value.int .i64) h.ai Try.underlying3 rfl info3 rfl fun x => ⟨rfl, rfl⟩]
    split <;> rfl
  · rw [Acc.strip_one (P := Try.prog) (d := 10) (enc := fun l => Value.string (sB l)) h.ab Try.underlying9 rfl info9 rfl fun x => ⟨rfl, rfl⟩]
    split <;> rfl
set_option maxRecDepth 100000 in
theorem New47 (most room : Int) (H : World) {Q : Value → World → Prop} (hq : (1 ≤ most ∧ most ≤ 100 ∧ 1 ≤ room ∧ room ≤ 1000000) → RSt (pushObj H (.cells #[.int .i64 most, .int .i64 room, nil0] 84 (0, 0))) H.heap.size most room [] nil0 → Q (.tuple #[p0 H.heap.size, .int .i64 0]) (pushObj H (.cells #[.int .i64 most, .int .i64 room, nil0] 84 (0, 0))))
    (hq2 : ¬ (1 ≤ most ∧ most ≤ 100 ∧ 1 ≤ room ∧ room ≤ 1000000) → Q (.tuple #[.pointer none, .int .i64 7]) H) : FW X 47 #[.int .i64 most, .int .i64 room] H Q := by
  refine FW.walk (by simp [X]) Try.func47 Try.ntmps47 rfl (by simp) ?_
  simp
  by_cases hok : 1 ≤ most ∧ most ≤ 100 ∧ 1 ≤ room ∧ room ≤ 1000000
  · obtain ⟨a1, a2, a3, a4⟩ := hok
    have b1 : ¬ most < 1 := by omega
    have b2 : ¬ 100 < most := by omega
    have b3 : ¬ room < 1 := by omega
    have b4 : ¬ 1000000 < room := by omega
    simp [b1, b2, b3, b4, buildQ, fillX, szO]
    exact hq ⟨a1, a2, a3, a4⟩ ⟨by simp, Acc.nil, fun _ _ _ h => by cases h⟩
  · have hq2 := hq2 hok
    repeat' (first | refine gIf_dec (fun h => ?_) (fun h => ?_) | refine gIf_ndec (fun h => ?_) (fun h => ?_) | (exfalso; omega; done) | (simp [*]; done) | simp [*])
set_option maxRecDepth 100000 in
theorem All24 (o : Option (List Pc)) (most room : Int) (hl : (o.getD []).length < 2 ^ 63) (H : World) (Q : Value → World → Prop) : FW X 24 #[sl o, .int .i64 most, .int .i64 room] H Q = Q (allV (allW (o.getD []) most room)) H := by
  refine FW.aloneEq ?_ Try.func24 Try.ntmps24 rfl (by simp) ?_ H Q
  · simp [X, plainS, plainDI]
  simp
  refine gIf_dec (fun h0 => ?_) (fun h0 => ?_)
  · have h0' : 2000 < (o.getD []).length := by omega
    simp [allW, h0', ints_none, txts_none]
  have h0' : ¬ 2000 < (o.getD []).length := by omega
  simp
  refine New47 most room World0 (fun hok st => ?_) (fun hno => ?_)
  rotate_left
  · simp [allW, h0', hno, ints_none, txts_none]
  have hall : allW (o.getD []) most room = runW most room 0 [] [] [] (o.getD []) := by
    unfold allW; rw [if_neg h0', if_neg (fun h => h hok)]
  rw [hall]
  have hi0 : OInv most room [] := ⟨⟨hok.2.2.1, hok.2.2.2⟩, ⟨hok.1, hok.2.1⟩, by simp [bytesO]; omega, by simp; omega, fun x hx => absurd hx (by simp)⟩
  simp
  refine CE.range (m := (o.getD []).length) (fun k e H => lk e 10 = p0 0 ∧ lk e 28 = sl o ∧ ∃ L v vi ids vb bs, lk e 6 = vi ∧ lk e 7 = vb ∧ BInv H 0 most room L v vi ids vb bs ∧ OInv most room L ∧ ids.length ≤ k ∧ bs.length ≤ k ∧ runW most room k L ids bs ((o.getD []).drop k) = runW most room 0 [] [] [] (o.getD [])) ?_ hl ?_ ?_ ?_
  · decide
  · refine ⟨by simp, by simp, by simp, by simp, [], nil0, nil0, [], nil0, [], by simp, by simp, ⟨st, Acc.nil, Acc.nil, ?_, ?_, ?_, ?_⟩, hi0, Nat.le_refl _, Nat.le_refl _, rfl⟩
    all_goals first | exact ⟨fun _ _ _ h => (by cases h), fun _ _ _ h => (by cases h)⟩ | exact fun _ _ _ h => (by cases h)
  · rintro k e H hk h1 h2 ⟨h10, h28, L, v, vi, ids, vb, bs, h6, h7, inv, hi, hli, hlb, hrun⟩
    have hdrop := List.drop_eq_getElem_cons hk
    rw [hdrop] at hrun
    have inv1 := inv.push (.cells #[.int .i64 (o.getD [])[k].id, .int .i64 (o.getD [])[k].place, .bool (o.getD [])[k].more, .string (sB (o.getD [])[k].body)] 33 (0, 0))
    simp [h1, h2, h10, h28, h6, h7, hk, allocX, szO]
    refine Take48 inv1.st hi _ fun H' v' st' fr => ?_
    have inv2 := inv1.take st' fr
    have l1 := getO_lt inv.st.hj
    have g12 : getO H' H.heap.size = some (.cells #[.int .i64 (o.getD [])[k].id, .int .i64 (o.getD [])[k].place, .bool (o.getD [])[k].more, .string (sB (o.getD [])[k].body)] 33 (0, 0)) := fr.keep H.heap.size _ (by simp) (by omega) (Acc.fresh inv.st.acc (Nat.le_refl _))
    have hi' := takeW_inv hi (o.getD [])[k]
    rw [runW] at hrun
    generalize htk : takeW most room L (o.getD [])[k] = tk at *
    obtain ⟨L', bb, wh, er⟩ := tk
    simp only at *
    simp
    refine gIf_ndec (fun he => ?_) (fun he => ?_)
    rotate_left
    · rw [if_pos he] at hrun
      obtain ⟨s1, s2⟩ := inv2.strip
      simp [h6, h7, s1, s2, ← hrun]
    rw [if_neg (fun h => h he)] at hrun
    simp
    refine gIf_split (fun hw => ?_) (fun hw => ?_)
    · rw [if_pos hw] at hrun
      obtain ⟨vi', H5, e1, acc1, k1, z1, a1⟩ := addInt inv2.ai (by omega) (o.getD [])[k].id
      have inv3 := (inv2.push _).addI acc1 k1 a1
      obtain ⟨vb', H6, e2, acc2, k2, z2, a2⟩ := addStr inv3.ab (by omega) bb
      have inv4 := (inv3.push _).addB acc2 k2 a2
      simp [h1, h2, h6, h7, h10, h28, g12, buildSliceX, inOrder, catCells, szO, e1, e2]
      exact ⟨L', _, _, _, inv4, hi', by simp; omega, by simp; omega, hrun⟩
    · rw [if_neg (by rw [hw]; decide)] at hrun
      simp [h1, h2, h6, h7, h10, h28]
      exact ⟨L', _, _, _, inv2, hi', by omega, by omega, hrun⟩
  · rintro e H h1 h2 ⟨h10, h28, L, v, vi, ids, vb, bs, h6, h7, inv, hi, hli, hlb, hrun⟩
    obtain ⟨s1, s2⟩ := inv.strip
    rw [List.drop_length, runW] at hrun
    simp [h6, h7, s1, s2, ← hrun]
end Go.Proofs.Ytlpoejkleopdoaa
end
