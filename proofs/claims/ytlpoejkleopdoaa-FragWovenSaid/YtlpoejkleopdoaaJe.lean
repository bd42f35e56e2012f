/- Helpers of this claim: an evaluator over plain values and its laws. -/
import Derived.Test.YtlpoejkleopdoaaJd
section
set_option linter.unusedVariables false
set_option linter.unusedSimpArgs false
namespace Go.Proofs.Ytlpoejkleopdoaa.Den
theorem ApV.symm {u v : Value} (h : ApV u v) : ApV v u := fun r n c e r' n' c' e' h2 => h r' n' c' e' r n c e h2.symm
end Go.Proofs.Ytlpoejkleopdoaa.Den
namespace Go.Proofs.Ytlpoejkleopdoaa
open Go Go.Proofs.Ytlpoejkleopdoaa.Den
/-! ### all pieces -/
abbrev AllR := List Int × List (List UInt8) × Int × Int
def runW (most room : Int) : Nat → List Op → List Int → List (List UInt8) → List Pc → AllR
  | _, _, ids, bs, [] => (ids, bs, -1, 0)
  | i, L, ids, bs, p :: l =>
    if ¬ (takeW most room L p).2.2.2 = 0 then (ids, bs, i, (takeW most room L p).2.2.2)
    else if (takeW most room L p).2.2.1 = true then runW most room (i + 1) (takeW most room L p).1 (ids ++ [p.id]) (bs ++ [(takeW most room L p).2.1]) l
    else runW most room (i + 1) (takeW most room L p).1 ids bs l
def allW (l : List Pc) (most room : Int) : AllR :=
  if 2000 < l.length then ([], [], 0, 1) else if ¬ (1 ≤ most ∧ most ≤ 100 ∧ 1 ≤ room ∧ room ≤ 1000000) then ([], [], 0, 7) else runW most room 0 [] [] [] l
def optL {α : Type} (xs : List α) : Option (List α) := if xs = [] then none else some xs
abbrev txts (o : Option (List (List UInt8))) : Value := slV 1 (o.map (List.map fun l => Value.string (sB l)))
theorem ints_none : ints none = .slice none 0 0 := by simp [ints, slV_none]
theorem txts_none : txts none = .slice none 0 0 := by simp [txts, slV_none]
abbrev allV (r : AllR) : Value := .tuple #[ints (if r.1 = [] then none else some r.1), txts (if r.2.1 = [] then none else some r.2.1), .int .i64 r.2.2.1, .int .i64 r.2.2.2]
structure AInv (H : World) (jb mb : Nat) (most room : Int) (M : List (Op × Value)) (vi : Value) (ids : List Int) (vb : Value) (bs : List (List UInt8)) : Prop where
  st : JSt H jb mb most room M
  ai : Den.Acc H vi 1 3 ids.length (ids.map (Value.int .i64))
  ab : Den.Acc H vb 1 9 bs.length (bs.map fun l => Value.string (sB l))
  si : Apart vi jb ∧ Apart vi mb
  sb : Apart vb jb ∧ Apart vb mb
  ib : ApV vi vb
  sm : ∀ x ∈ M, ApV x.2 vi ∧ ApV x.2 vb
theorem AInv.push {H : World} {jb mb : Nat} {most room : Int} {M : List (Op × Value)} {vi : Value} {ids : List Int} {vb : Value} {bs : List (List UInt8)} (h : AInv H jb mb most room M vi ids vb bs) (o : Obj) : AInv (pushObj H o) jb mb most room M vi ids vb bs :=
  ⟨h.st.push o, Acc.push h.ai o, Acc.push h.ab o, h.si, h.sb, h.ib, h.sm⟩
theorem AInv.take {H H' : World} {jb mb : Nat} {most room : Int} {M M' : List (Op × Value)} {vi : Value} {ids : List Int} {vb : Value} {bs : List (List UInt8)} (h : AInv H jb mb most room M vi ids vb bs) (st : JSt H' jb mb most room M') (fr : Fram H H' jb mb M M') : AInv H' jb mb most room M' vi ids vb bs := by
  have key : ∀ (v : Value) (es : Nat) (e : TypeId) (n : Nat) (cs : List Value), Den.Acc H v es e n cs → Apart v jb → Apart v mb → (∀ x ∈ M, ApV x.2 v) → Den.Acc H' v es e n cs ∧ ∀ x ∈ M', ApV x.2 v := by
    intro v es e n cs ha a1 a2 a3
    have hsep : ∀ x ∈ M', ApV x.2 v := fun x hx r m c hv => fr.apart r (Acc.row_lt ha hv) (fun y hy => a3 y hy r m c hv) x hx
    refine ⟨?_, hsep⟩
    obtain ⟨h1, h2 | ⟨r, rfl, hn, hr⟩⟩ := ha
    · exact ⟨h1, .inl h2⟩
    · refine ⟨h1, .inr ⟨r, rfl, hn, fr.keep r _ hr (fun e => a1 r n n rfl e.symm) (fun e => a2 r n n rfl e.symm) fun x hx => a3 x hx r n n rfl⟩⟩
  obtain ⟨k1, k2⟩ := key _ _ _ _ _ h.ai h.si.1 h.si.2 fun x hx => (h.sm x hx).1
  obtain ⟨k3, k4⟩ := key _ _ _ _ _ h.ab h.sb.1 h.sb.2 fun x hx => (h.sm x hx).2
  exact ⟨st, k1, k3, h.si, h.sb, h.ib, fun x hx => ⟨k2 x hx, k4 x hx⟩⟩
theorem JSt.keep {H H' : World} {jb mb : Nat} {most room : Int} {M : List (Op × Value)} {u : Value} (st : JSt H jb mb most room M) (hk : ∀ i o, getO H i = some o → Apart u i → getO H' i = some o) (a1 : Apart u jb) (a2 : Apart u mb) (a3 : ∀ x ∈ M, ApV u x.2) : JSt H' jb mb most room M :=
  ⟨hk _ _ st.hj a1, st.hm.keep fun o h => hk _ _ h a2, fun x hx => have ⟨b1, b2, b3⟩ := st.hb x hx; ⟨Acc.keep b1 hk (a3 x hx), b2, b3⟩, st.hd⟩
theorem AInv.addI {H H' : World} {jb mb : Nat} {most room : Int} {M : List (Op × Value)} {vi vi' : Value} {ids ids' : List Int} {vb : Value} {bs : List (List UInt8)} (h : AInv H jb mb most room M vi ids vb bs) (acc' : Den.Acc H' vi' 1 3 ids'.length (ids'.map (Value.int .i64))) (hk : ∀ i o, getO H i = some o → Apart vi i → getO H' i = some o) (hap : ∀ i, Apart vi i → i < H.heap.size → Apart vi' i) : AInv H' jb mb most room M vi' ids' vb bs := by
  have lj := getO_lt h.st.hj
  have lm := h.st.hm.lt
  have sm' : ∀ x ∈ M, ApV x.2 vi' := fun x hx => ApV.symm fun r n c e => hap r ((ApV.symm (h.sm x hx).1) r n c e) (Acc.row_lt (h.st.hb x hx).1 e)
  exact ⟨h.st.keep hk h.si.1 h.si.2 fun x hx => (ApV.symm (h.sm x hx).1), acc', Acc.keep h.ab hk h.ib, ⟨hap _ h.si.1 lj, hap _ h.si.2 lm⟩, h.sb, fun r n c e => hap r (h.ib r n c e) (Acc.row_lt h.ab e), fun x hx => ⟨sm' x hx, (h.sm x hx).2⟩⟩
theorem AInv.addB {H H' : World} {jb mb : Nat} {most room : Int} {M : List (Op × Value)} {vi : Value} {ids : List Int} {vb vb' : Value} {bs bs' : List (List UInt8)} (h : AInv H jb mb most room M vi ids vb bs) (acc' : Den.Acc H' vb' 1 9 bs'.length (bs'.map fun l => Value.string (sB l))) (hk : ∀ i o, getO H i = some o → Apart vb i → getO H' i = some o) (hap : ∀ i, Apart vb i → i < H.heap.size → Apart vb' i) : AInv H' jb mb most room M vi ids vb' bs' := by
  have lj := getO_lt h.st.hj
  have lm := h.st.hm.lt
  have sm' : ∀ x ∈ M, ApV x.2 vb' := fun x hx => ApV.symm fun r n c e => hap r ((ApV.symm (h.sm x hx).2) r n c e) (Acc.row_lt (h.st.hb x hx).1 e)
  exact ⟨h.st.keep hk h.sb.1 h.sb.2 fun x hx => (ApV.symm (h.sm x hx).2), Acc.keep h.ai hk (ApV.symm h.ib), acc', h.si, ⟨hap _ h.sb.1 lj, hap _ h.sb.2 lm⟩, ApV.symm fun r n c e => hap r ((ApV.symm h.ib) r n c e) (Acc.row_lt h.ai e), fun x hx => ⟨(h.sm x hx).1, sm' x hx⟩⟩
theorem addInt {H : World} {v : Value} {ids : List Int} (h : Den.Acc H v 1 3 ids.length (ids.map (Value.int .i64))) (hl : ids.length ≤ 2 ^ 21) (n : Int) : ∃ v' H', builtinX Try.prog .append #[23, 23] #[v, .slice (some ⟨H.heap.size, 0, none⟩) 1 1] (pushObj H (.cells #[.int .i64 n] 3 (0, 0))) = some (.value v', H') ∧
    Den.Acc H' v' 1 3 (ids ++ [n]).length ((ids ++ [n]).map (Value.int .i64)) ∧ (∀ i o, getO (pushObj H (.cells #[.int .i64 n] 3 (0, 0))) i = some o → Apart v i → getO H' i = some o) ∧ (pushObj H (.cells #[.int .i64 n] 3 (0, 0))).heap.size ≤ H'.heap.size ∧ (∀ i, Apart v i → i < (pushObj H (.cells #[.int .i64 n] 3 (0, 0))).heap.size → Apart v' i) := by
  obtain ⟨v', H', e1, acc', keepO, hsz, hap⟩ := Acc.append Try.prog (t1 := 23) (t2 := 23) (Acc.push h (.cells #[.int .i64 n] 3 (0, 0))) Try.underlying23 (by simp) info3 zero3 rfl rfl (by decide) (by decide) (by decide)
    (SrcX.row (r := H.heap.size) (n := 1) (c := 1) (cs := [.int .i64 n]) (e := 3) (fr := (0, 0)) (by simp) rfl) rfl (by simp) (by simp [bytes3]; omega)
  refine ⟨v', H', e1, ?_, keepO, hsz, hap⟩
  rw [List.map_append, List.length_append]
  exact acc'
theorem addStr {H : World} {v : Value} {bs : List (List UInt8)} (h : Den.Acc H v 1 9 bs.length (bs.map fun l => Value.string (sB l))) (hl : bs.length ≤ 2 ^ 21) (b : List UInt8) : ∃ v' H', builtinX Try.prog .append #[42, 42] #[v, .slice (some ⟨H.heap.size, 0, none⟩) 1 1] (pushObj H (.cells #[.string (sB b)] 9 (0, 0))) = some (.value v', H') ∧
    Den.Acc H' v' 1 9 (bs ++ [b]).length ((bs ++ [b]).map fun l => Value.string (sB l)) ∧ (∀ i o, getO (pushObj H (.cells #[.string (sB b)] 9 (0, 0))) i = some o → Apart v i → getO H' i = some o) ∧ (pushObj H (.cells #[.string (sB b)] 9 (0, 0))).heap.size ≤ H'.heap.size ∧ (∀ i, Apart v i → i < (pushObj H (.cells #[.string (sB b)] 9 (0, 0))).heap.size → Apart v' i) := by
  obtain ⟨v', H', e1, acc', keepO, hsz, hap⟩ := Acc.append Try.prog (t1 := 42) (t2 := 42) (Acc.push h (.cells #[.string (sB b)] 9 (0, 0))) Try.underlying42 (by simp) info9 zero9 rfl rfl (by decide) (by decide) (by decide)
    (SrcX.row (r := H.heap.size) (n := 1) (c := 1) (cs := [.string (sB b)]) (e := 9) (fr := (0, 0)) (by simp) rfl) rfl (by simp) (by simp [bytes9]; omega)
  refine ⟨v', H', e1, ?_, keepO, hsz, hap⟩
  rw [List.map_append, List.length_append]
  exact acc'
theorem AInv.strip {H : World} {jb mb : Nat} {most room : Int} {M : List (Op × Value)} {vi : Value} {ids : List Int} {vb : Value} {bs : List (List UInt8)} (h : AInv H jb mb most room M vi ids vb bs) : strip 11 Try.prog H vi = some (ints (if ids = [] then none else some ids)) ∧ strip 11 Try.prog H vb = some (txts (if bs = [] then none else some bs)) := by
  constructor
  · rw [Acc.strip_one (P := Try.prog) (d := 10) (enc := Value.int .i64) h.ai Try.underlying3 rfl info3 rfl fun x => ⟨rfl, rfl⟩]
    split <;> rfl
  · rw [Acc.strip_one (P := Try.prog) (d := 10) (enc := fun l => Value.string (sB l)) h.ab Try.underlying9 rfl info9 rfl fun x => ⟨rfl, rfl⟩]
    split <;> rfl
set_option maxRecDepth 100000 in
theorem All23 (o : Option (List Pc)) (most room : Int) (hl : (o.getD []).length < 2 ^ 63) (H : World) (Q : Value → World → Prop) : FW X 23 #[sl o, .int .i64 most, .int .i64 room] H Q = Q (allV (allW (o.getD []) most room)) H := by
  refine FW.aloneEq ?_ Try.func23 Try.ntmps23 rfl (by simp) ?_ H Q
  · simp [X, plainS, plainDI]
  simp
  refine gIf_dec (fun h0 => ?_) (fun h0 => ?_)
  · have h0' : 2000 < (o.getD []).length := by omega
    simp [allW, h0', ints_none, txts_none]
  have h0' : ¬ 2000 < (o.getD []).length := by omega
  simp
  refine New45 most room World0 (fun hok st => ?_) (fun hno => ?_)
  rotate_left
  · simp [allW, h0', hno, ints_none, txts_none]
  have hall : allW (o.getD []) most room = runW most room 0 [] [] [] (o.getD []) := by
    unfold allW; rw [if_neg h0', if_neg (fun h => h hok)]
  rw [hall]
  have hi0 : OInv most room [] := ⟨⟨hok.2.2.1, hok.2.2.2⟩, ⟨hok.1, hok.2.1⟩, by simp [bytesO]; omega, by simp; omega, fun x hx => absurd hx (by simp)⟩
  simp
  refine CE.range (m := (o.getD []).length) (fun k e H => lk e 10 = p0 1 ∧ lk e 28 = sl o ∧ ∃ M vi ids vb bs, lk e 6 = vi ∧ lk e 7 = vb ∧ AInv H 1 0 most room M vi ids vb bs ∧ OInv most room (M.map (·.1)) ∧ ids.length ≤ k ∧ bs.length ≤ k ∧ runW most room k (M.map (·.1)) ids bs ((o.getD []).drop k) = runW most room 0 [] [] [] (o.getD [])) ?_ hl ?_ ?_ ?_
  · decide
  · refine ⟨by simp, by simp, by simp, by simp, [], nil0, [], nil0, [], by simp, by simp, ⟨st, Acc.nil, Acc.nil, ?_, ?_, ?_, fun x hx => absurd hx (by simp)⟩, hi0, Nat.le_refl _, Nat.le_refl _, rfl⟩
    all_goals first | exact ⟨fun _ _ _ h => (by cases h), fun _ _ _ h => (by cases h)⟩ | exact fun _ _ _ h => (by cases h)
  · rintro k e H hk h1 h2 ⟨h10, h28, M, vi, ids, vb, bs, h6, h7, inv, hi, hli, hlb, hrun⟩
    have hdrop := List.drop_eq_getElem_cons hk
    rw [hdrop] at hrun
    have inv1 := inv.push (.cells #[.int .i64 (o.getD [])[k].id, .int .i64 (o.getD [])[k].place, .bool (o.getD [])[k].more, .string (sB (o.getD [])[k].body)] 33 (0, 0))
    simp [h1, h2, h10, h28, h6, h7, hk, allocX, szO]
    refine Take46 inv1.st hi _ fun H' M' st' hM' fr => ?_
    have inv2 := inv1.take st' fr
    have l1 := getO_lt inv.st.hj
    have g12 : getO H' H.heap.size = some (.cells #[.int .i64 (o.getD [])[k].id, .int .i64 (o.getD [])[k].place, .bool (o.getD [])[k].more, .string (sB (o.getD [])[k].body)] 33 (0, 0)) := fr.keep H.heap.size _ (by simp) (by omega) (by omega) fun x hx => Acc.fresh (inv.st.hb x hx).1 (Nat.le_refl _)
    have hi' : OInv most room (M'.map (·.1)) := by rw [hM']; exact takeW_inv hi _
    rw [runW] at hrun
    generalize htk : takeW most room (M.map (·.1)) (o.getD [])[k] = tk at *
    obtain ⟨L', bb, wh, er⟩ := tk
    simp only at *
    simp
    refine gIf_ndec (fun he => ?_) (fun he => ?_)
    rotate_left
    · rw [if_pos he] at hrun
      obtain ⟨s1, s2⟩ := inv2.strip
      simp [h6, h7, s1, s2, ← hrun]
    rw [if_neg (fun h => h he)] at hrun
    simp
    refine gIf_split (fun hw => ?_) (fun hw => ?_)
    · rw [if_pos hw] at hrun
      obtain ⟨vi', H5, e1, acc1, k1, z1, a1⟩ := addInt inv2.ai (by omega) (o.getD [])[k].id
      have inv3 := (inv2.push _).addI acc1 k1 a1
      obtain ⟨vb', H6, e2, acc2, k2, z2, a2⟩ := addStr inv3.ab (by omega) bb
      have inv4 := (inv3.push _).addB acc2 k2 a2
      simp [h1, h2, h6, h7, h10, h28, g12, buildSliceX, inOrder, catCells, szO, e1, e2]
      exact ⟨M', _, _, inv4, hi', by simp; omega, by simp; omega, by rw [hM']; exact hrun⟩
    · rw [if_neg (by rw [hw]; decide)] at hrun
      simp [h1, h2, h6, h7, h10, h28]
      exact ⟨M', _, _, inv2, hi', by omega, by omega, by rw [hM']; exact hrun⟩
  · rintro e H h1 h2 ⟨h10, h28, M, vi, ids, vb, bs, h6, h7, inv, hi, hli, hlb, hrun⟩
    obtain ⟨s1, s2⟩ := inv.strip
    rw [List.drop_length, runW] at hrun
    simp [h6, h7, s1, s2, ← hrun]
end Go.Proofs.Ytlpoejkleopdoaa
end
