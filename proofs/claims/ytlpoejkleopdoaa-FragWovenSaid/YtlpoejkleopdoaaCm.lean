/- Helpers of this claim: an evaluator over plain values and its laws. -/
import Derived.Test.YtlpoejkleopdoaaCg
section
set_option linter.unusedVariables false
set_option linter.unusedSimpArgs false
namespace Go.Proofs.Ytlpoejkleopdoaa
open Go Go.Proofs.Ytlpoejkleopdoaa.Den
/-- The pieces of a message, by its sizes. -/
def madeW (id : Int) (size : Nat → Int) (i : Nat) (bd : List UInt8) : List Pc :=
  if h : size i < 1 ∨ (bd.length : Int) ≤ size i then [⟨id, i, false, bd⟩] else ⟨id, i, true, bd.take (size i).toNat⟩ :: madeW id size (i + 1) (bd.drop (size i).toNat)
termination_by bd.length
decreasing_by simp; omega
@[simp] theorem stepY {n : Nat} {dsts : List (Option Tmp)} {l : List Oper} {e : Env} {d : Option Tmp} {K : Env → World → Prop} {r : Nat} {args : Array Value} {H : World} : stepX X n dsts l e d (callX Try.prog (.func (.yield r) #[] #[]) args H) K = yieldW X r args H fun v H2 => OX X n dsts l (putE e d v) H2 K := stepX_yield'
set_option maxRecDepth 100000 in
theorem cuts58 {r3 r4 l fsz B : Nat} {caps : Array Value} (hfs : isFn Try.prog fsz = true) (size : Nat → Int) (S : Nat → List UInt8 → World → Prop) (Fin : World → Prop) (hB : B < 2 ^ 62)
    (hb : ∀ i bd H, S i bd H → i + bd.length ≤ B ∧ getO H r3 = some (.cells #[.string (sB bd)] 9 (0, 0)) ∧ getO H r4 = some (.cells #[.func (.func fsz) #[] caps] 60 (0, 0)))
    (hsz : ∀ i bd H Q, S i bd H → FW X fsz (#[.int .i64 i] ++ caps) H Q = Q (.int .i64 (size i)) H)
    (hstep : ∀ i bd H, S i bd H → 1 ≤ size i → size i < (bd.length : Int) → yieldW X l #[.int .i64 i, .string (sB (bd.take (size i).toNat))] H fun v H' => v = .bool true ∧ getO H' r3 = some (.cells #[.string (sB bd)] 9 (0, 0)) ∧ S (i + 1) (bd.drop (size i).toNat) (setO H' r3 (.cells #[.string (sB (bd.drop (size i).toNat))] 9 (0, 0))))
    (hlast : ∀ i bd H, S i bd H → size i < 1 ∨ (bd.length : Int) ≤ size i → yieldW X l #[.int .i64 i, .string (sB bd)] H fun v H' => Fin H')
    (bd : List UInt8) (H : World) (h0 : S 0 bd H) : FW X 58 #[.func (.yield l) #[] #[], p0 r4, p0 r3] H fun v H' => Fin H' := by
  refine FW.walk (by simp [X]) Try.func58 Try.ntmps58 rfl (by simp) ?_
  simp
  refine CE.inv (fun d e H => ∃ i bd, d = bd.length ∧ S i bd H ∧ lk e 0 = .func (.yield l) #[] #[] ∧ lk e 1 = p0 r4 ∧ lk e 2 = p0 r3 ∧ lk e 4 = .int .i64 i) ?_ ⟨0, bd, rfl, h0, by simp, by simp, by simp, by simp⟩
  rintro d e H ⟨i, bd, rfl, hS, h0, h1, h2, h4⟩
  obtain ⟨hib, g3, g4⟩ := hb i bd H hS
  have hs := fun Q => hsz i bd H Q hS
  simp [h0, h1, h2, h4, g3, g4, hfs, hs]
  refine gIf_ndec (fun hc => ?_) (fun hc => ?_)
  · simp [h0, h1, h2, h4, g3, g4, hc]
    refine yieldW.imp (hlast i bd H hS (.inl hc)) fun v H' hF => ?_
    exact hF
  · simp [h0, h1, h2, h4, g3, g4, hc]
    refine gIf_dec (fun hd => ?_) (fun hd => ?_)
    · simp [h0, h1, h2, h4, g3, g4]
      refine yieldW.imp (hlast i bd H hS (.inr hd)) fun v H' hF => ?_
      exact hF
    · have hn : 1 ≤ size i := by omega
      have hlt : size i < (bd.length : Int) := by omega
      have hto : ∀ H, sliceX Try.prog 9 (.string (sB bd)) none (some (.int .i64 (size i))) none H = _ := fun H => slice_str_to (H := H) Try.underlying9 (by omega) (by omega)
      have hfrom : ∀ H, sliceX Try.prog 9 (.string (sB bd)) (some (.int .i64 (size i))) none none H = _ := fun H => slice_str_from (H := H) Try.underlying9 (by omega) (by omega)
      have hw : IntKind.i64.wrap ((i : Int) + 1) = ((i + 1 : Nat) : Int) := by rw [wrap64 (by omega) (by omega)]; omega
      simp [h0, h1, h2, h4, g3, g4, hd, hto]
      refine yieldW.imp (hstep i bd H hS hn hlt) fun v H' ⟨hv, g3', hS'⟩ => ?_
      subst hv
      simp [h0, h1, h2, h4, g3', hfrom, hw]
      refine ⟨_, ?_, i + 1, bd.drop (size i).toNat, rfl, hS', by simp⟩
      simp; omega
theorem build33 (a b : Int) (c : Bool) (s : List UInt8) : buildQ Try.prog 33 [(0, .int .i64 a), (1, .int .i64 b), (2, .bool c), (3, .string (sB s))] = some (encP ⟨a, b, c, s⟩) := by
  simp [buildQ, encP, fillX]
/-- How 'made' stands: what is left to cut, the number of bytes that is told left, the pieces. -/
structure MSt (H0 : World) (id : Int) (n : Nat) (fv : Value) (r : Loop) (H : World) (bd : List UInt8) (lf : Nat) (vo : Value) (out : List Pc) : Prop where
  keep : ∀ i o, getO H0 i = some o → getO H i = some o
  h0 : getO H n = some (.cells #[.int .i64 id] 3 (0, 0))
  h1 : getO H (n + 1) = some (.cells #[vo] 24 (0, 0))
  h2 : getO H (n + 2) = some (.cells #[.int .i64 lf] 3 (0, 0))
  h3 : getO H (n + 3) = some (.cells #[.string (sB bd)] 9 (0, 0))
  h4 : getO H (n + 4) = some (.cells #[fv] 60 (0, 0))
  h5 : getO H (n + 5) = some (.deferred (some []))
  h6 : getO H (n + 6) = some (.loop r)
  acc : AccP H vo out
  apart : ∀ i, i ≤ n + 6 → Apart vo i
theorem MSt.setBody {H0 : World} {id : Int} {n : Nat} {fv : Value} {r : Loop} {H : World} {bd bd' : List UInt8} {lf : Nat} {vo : Value} {out : List Pc} (st : MSt H0 id n fv r H bd lf vo out) (hn : H0.heap.size = n) : MSt H0 id n fv r (setO H (n + 3) (.cells #[.string (sB bd')] 9 (0, 0))) bd' lf vo out := by
  have l3 := getO_lt st.h3
  have g : ∀ j o, getO H j = some o → j ≠ n + 3 → getO (setO H (n + 3) (.cells #[.string (sB bd')] 9 (0, 0))) j = some o := fun j o h hj => by
    rw [get_set, if_neg hj]; exact h
  refine ⟨fun j o h => g j o (st.keep j o h) (by have := getO_lt h; omega), g _ _ st.h0 (by omega), g _ _ st.h1 (by omega), g _ _ st.h2 (by omega), ?_, g _ _ st.h4 (by omega), g _ _ st.h5 (by omega), g _ _ st.h6 (by omega), Acc.set st.acc _ (st.apart _ (by omega)), st.apart⟩
  rw [get_set, if_pos rfl, if_pos l3]
set_option maxRecDepth 100000 in
theorem cuts53 (s : List UInt8) (fsz : Nat) (caps : Array Value) (H : World) (Q : Value → World → Prop) : FW X 53 #[.string (sB s), .func (.func fsz) #[] caps] H Q = Q (.func (.func 58) #[] #[p0 (H.heap.size + 1), p0 H.heap.size]) (pushObj (pushObj H (.cells #[.string (sB s)] 9 (0, 0))) (.cells #[.func (.func fsz) #[] caps] 60 (0, 0))) := by
  refine FW.eqE (by simp [X]) Try.func53 Try.ntmps53 rfl (by simp) ?_ Q
  simp [allocX, szO]
set_option maxRecDepth 100000 in
theorem made40 {id : Int} {bd0 : List UInt8} {fsz : Nat} {caps : Array Value} (hfs : isFn Try.prog fsz = true) (size : Nat → Int) (hB : bd0.length ≤ 2 ^ 20) (H0 : World)
    (hsz : ∀ i H Q, (∀ j o, getO H0 j = some o → getO H j = some o) → FW X fsz (#[.int .i64 i] ++ caps) H Q = Q (.int .i64 (size i)) H)
    {Q : Value → World → Prop} (hq : ∀ v H, AccP H v (madeW id size 0 bd0) → Q v H) : FW X 40 #[.int .i64 id, .string (sB bd0), .func (.func fsz) #[] caps] H0 Q := by
  refine FW.walk (by simp [X]) Try.func40 Try.ntmps40 rfl (by simp) ?_
  simp [allocX, szO, cuts53]
  generalize hn : H0.heap.size = n
  refine CE.rangeFunc (f := 58) (fs := #[]) (cs := #[p0 (n + 4), p0 (n + 3)]) (by simp) (by simp) (by simp) ?_
  intro T hT
  have hsz9 : (pushObj (pushObj (setO (pushObj (pushObj (pushObj H0 (.cells #[.int .i64 id] 3 (0, 0))) (.cells #[nil0] 24 (0, 0))) (.cells #[.int .i64 0] 3 (0, 0))) (n + 1 + 1) (.cells #[.int .i64 bd0.length] 3 (0, 0))) (.cells #[.string (sB bd0)] 9 (0, 0))) (.cells #[.func (.func fsz) #[] caps] 60 (0, 0))).heap.size = n + 5 := by simp [hn]
  rw [hsz9]
  refine FW.inLoop fun r hr => ?_
  rw [hsz9] at hr
  have round : ∀ (i : Nat) (bd s rest : List UInt8) (H : World) (vo : Value) (out : List Pc), MSt H0 id n (.func (.func fsz) #[] caps) r H bd bd.length vo out → bd = s ++ rest → bd.length ≤ 2 ^ 20 → out.length ≤ 2 ^ 20 →
      yieldW X (n + 6) #[.int .i64 i, .string (sB s)] H fun v H' => v = .bool true ∧ ∃ vo', MSt H0 id n (.func (.func fsz) #[] caps) r H' bd rest.length vo' (out ++ [⟨id, i, decide (0 < rest.length), s⟩]) := by
    intro i bd s rest H vo out st hbd hl1 hl2
    obtain ⟨keep, h0, h1, h2, h3, h4, h5, h6, acc, apart⟩ := st
    have h6' := h6
    rw [hr] at h6
    refine yieldW.two h6 hT (by decide) (by decide) ?_
    have hrs : r.state = .ready := by rw [hr]; rfl
    have l6 := getO_lt h6
    have hw : IntKind.i64.wrap ((bd.length : Int) - (s.length : Int)) = (rest.length : Int) := by
      have : bd.length = s.length + rest.length := by rw [hbd, List.length_append]
      rw [wrap64 (by omega) (by omega)]; omega
    simp
    refine ⟨_, h6', hrs, ?_⟩
    have n1 : ¬ n + 1 + 1 = n + 6 := by omega
    have n2 : ¬ n + 1 = n + 6 := by omega
    have n3 : ¬ n = n + 6 := by omega
    have n4 : ¬ n + 1 = n + 1 + 1 := by omega
    have n5 : ¬ n = n + 1 + 1 := by omega
    have l2 : n + 1 + 1 < H.heap.size := getO_lt h2
    have l1 : n + 1 < H.heap.size := getO_lt h1
    have k0 := apart n (by omega)
    have k1 := apart (n + 1) (by omega)
    have k2 := apart (n + 1 + 1) (by omega)
    have k3 := apart (n + 3) (by omega)
    have k4 := apart (n + 4) (by omega)
    have k5 := apart (n + 5) (by omega)
    have k6 := apart (n + 6) (by omega)
    generalize hbz : Obj.loop { state := LoopState.busy, pending := r.pending, fn := r.fn, tmps := r.tmps, params := r.params, assign := r.assign, body := r.body, defers := r.defers } = bz
    have accA : AccP (setO (setO H (n + 6) bz) (n + 1 + 1) (.cells #[.int .i64 rest.length] 3 (0, 0))) vo out := Acc.set (Acc.set acc _ k6) _ k2
    generalize hHa : (setO (setO H (n + 6) bz) (n + 1 + 1) (.cells #[.int .i64 rest.length] 3 (0, 0))) = Ha at accA
    have szA : Ha.heap.size = H.heap.size := by rw [← hHa]; simp
    have accB := Acc.push accA (.cells #[.int .i64 id, .int .i64 i, .bool (decide (0 < rest.length)), .string (sB s)] 33 (0, 0))
    obtain ⟨vo', H5, e1', acc', keepO, hsz5, hap⟩ := Acc.append Try.prog (t1 := 24) (t2 := 24) accB Try.underlying24 (by simp) info33 zero33 rfl rfl (by decide) (by decide) (by decide)
      (SrcX.row (r := Ha.heap.size) (n := 1) (c := 1) (cs := [.int .i64 id, .int .i64 i, .bool (decide (0 < rest.length)), .string (sB s)]) (e := 33) (fr := (0, 0)) (by simp) rfl) rfl (by simp) (by simp [bytes33]; omega)
    have toB : ∀ j o, getO Ha j = some o → getO (pushObj Ha (.cells #[.int .i64 id, .int .i64 i, .bool (decide (0 < rest.length)), .string (sB s)] 33 (0, 0))) j = some o := fun j o h => by
      have := getO_lt h
      rw [get_push, if_neg (by omega)]; exact h
    have fromH : ∀ j, j ≠ n + 6 → j ≠ n + 1 + 1 → getO Ha j = getO H j := fun j h1 h2 => by
      rw [← hHa, get_set, if_neg h2, get_set, if_neg h1]
    have old : ∀ j o, getO H j = some o → Apart vo j → j ≠ n + 6 → j ≠ n + 1 + 1 → getO H5 j = some o := fun j o h ha h1 h2 => keepO j o (toB j o (by rw [fromH j h1 h2]; exact h)) ha
    have gA6 : getO Ha (n + 6) = some bz := by rw [← hHa]; simp [l6, show ¬ n + 6 = n + 1 + 1 by omega]
    have gA2 : getO Ha (n + 1 + 1) = some (.cells #[.int .i64 rest.length] 3 (0, 0)) := by rw [← hHa]; simp [l2]
    have g6 := keepO _ _ (toB _ _ gA6) k6
    have g2 := keepO _ _ (toB _ _ gA2) k2
    have g1 := old (n + 1) _ h1 k1 (by omega) (by omega)
    have ll1 := getO_lt g1
    have ll6 := getO_lt g6
    subst hbz
    have hbz' := hHa
    simp [n1, n2, n3, n4, n5, show getO H (n + 1 + 1) = _ from h2, hw, h1, h0, l2, buildSliceX, inOrder, catCells, szO]
    simp [hHa, build33, buildSliceX, inOrder, catCells, szO, e1']
    obtain ⟨c1, c2⟩ := Acc.one acc'
    simp [g1, ll1, n2, c1, c2]
    refine ⟨_, by rw [get_set, if_neg (by omega)]; exact g6, rfl, vo', ?_⟩
    have hrr : ({ state := LoopState.ready, pending := none, fn := r.fn, tmps := r.tmps, params := r.params, assign := r.assign, body := r.body, defers := r.defers } : Loop) = r := by rw [hr]; rfl
    simp only [hrr]
    have oldj : ∀ j o, getO H j = some o → j ≤ n + 5 → j ≠ n + 1 → j ≠ n + 2 → getO (setO (setO H5 (n + 1) (.cells #[vo'] 24 (0, 0))) (n + 6) (.loop r)) j = some o := fun j o h a1 a2 a3 => by
      rw [get_set, if_neg (by omega), get_set, if_neg a2]
      exact old j o h (apart j (by omega)) (by omega) (by omega)
    refine ⟨fun j o h => ?_, oldj _ _ h0 (by omega) (by omega) (by omega), ?_, ?_, oldj _ _ h3 (by omega) (by omega) (by omega), oldj _ _ h4 (by omega) (by omega) (by omega), oldj _ _ h5 (by omega) (by omega) (by omega), ?_, ?_, ?_⟩
    · have := getO_lt h
      exact oldj j o (keep j o h) (by omega) (by omega) (by omega)
    · rw [get_set, if_neg (by omega), get_set, if_pos rfl, if_pos ll1]
    · rw [get_set, if_neg (by omega), get_set, if_neg (by omega)]; exact g2
    · rw [get_set, if_pos rfl, if_pos (by simpa using ll6)]
    · have a' : ∀ j, j ≤ n + 6 → Apart vo' j := fun j hj => hap j (apart j hj) (by simp [szA]; omega)
      refine Acc.set (Acc.set ?_ _ (a' _ (by omega))) _ (a' _ (by omega))
      rw [List.map_append, List.flatMap_append, List.length_append]
      exact acc'
    · exact fun j hj => hap j (apart j hj) (by simp [szA]; omega)
  refine FW.imp (cuts58 (l := n + 6) (r3 := n + 3) (r4 := n + 4) (B := 2 ^ 20) (caps := caps) hfs size (fun i bd H => i + bd.length ≤ 2 ^ 20 ∧ ∃ vo out, MSt H0 id n (.func (.func fsz) #[] caps) r H bd bd.length vo out ∧ out.length = i ∧ out ++ madeW id size i bd = madeW id size 0 bd0)
    (fun H => ∃ vo bd lf, MSt H0 id n (.func (.func fsz) #[] caps) r H bd lf vo (madeW id size 0 bd0)) (by decide) ?_ ?_ ?_ ?_ bd0 _ ?_) ?_
  · rintro i bd H ⟨hi, vo, out, st, _⟩
    exact ⟨hi, st.h3, st.h4⟩
  · rintro i bd H Q ⟨hi, vo, out, st, _⟩
    exact hsz i H Q st.keep
  · rintro i bd H ⟨hi, vo, out, st, hoi, hout⟩ hs1 hs2
    have hdl : (bd.drop (size i).toNat).length = bd.length - (size i).toNat := List.length_drop
    refine yieldW.imp (round i bd _ (bd.drop (size i).toNat) H vo out st (List.take_append_drop _ _).symm (by omega) (by omega)) fun v H' ⟨hv, vo', st'⟩ => ?_
    have hpos : decide (0 < (bd.drop (size i).toNat).length) = true := by rw [decide_eq_true_eq]; omega
    rw [hpos] at st'
    refine ⟨hv, st'.h3, by omega, vo', out ++ [⟨id, i, true, bd.take (size i).toNat⟩], st'.setBody hn, by simp [hoi], ?_⟩
    rw [← hout, List.append_assoc]
    congr 1
    rw [madeW.eq_1 id size i bd, dif_neg (by omega)]
    rfl
  · rintro i bd H ⟨hi, vo, out, st, hoi, hout⟩ hs
    refine yieldW.imp (round i bd bd [] H vo out st (by simp) (by omega) (by omega)) fun v H' ⟨hv, vo', st'⟩ => ?_
    refine ⟨vo', bd, 0, ?_⟩
    have : madeW id size 0 bd0 = out ++ [⟨id, i, false, bd⟩] := by rw [← hout, madeW.eq_1 id size i bd, dif_pos hs]
    rw [this]
    exact st'
  · refine ⟨by omega, nil0, [], ?_, rfl, rfl⟩
    have hkeep : ∀ j o, getO H0 j = some o → j < n := fun j o h => by rw [← hn]; exact getO_lt h
    refine ⟨fun j o h => ?_, ?_, ?_, ?_, ?_, ?_, ?_, ?_, Acc.nil, fun j _ => (fun _ _ _ h => by cases h)⟩
    · have := hkeep j o h
      simp [hn, show ¬ j = n + 1 + 1 + 1 + 1 + 1 + 1 by omega, show ¬ j = n + 1 + 1 + 1 + 1 + 1 by omega, show ¬ j = n + 1 + 1 + 1 + 1 by omega, show ¬ j = n + 1 + 1 + 1 by omega, show ¬ j = n + 1 + 1 by omega, show ¬ j = n + 1 by omega, show ¬ j = n by omega, h]
    all_goals simp [hn, show ¬ n = n + 1 + 1 + 1 + 1 + 1 + 1 by omega, show ¬ n = n + 1 + 1 + 1 + 1 + 1 by omega, show ¬ n = n + 1 + 1 + 1 + 1 by omega, show ¬ n = n + 1 + 1 + 1 by omega, show ¬ n = n + 1 + 1 by omega]
  · rintro _ H ⟨vo, bd, lf, st⟩
    have hj : r.pending = none := by rw [hr]; rfl
    have hb : (r.state == LoopState.busy) = false := by rw [hr]; rfl
    have l1 := getO_lt st.h1
    have l5 := getO_lt st.h5
    have l6 := getO_lt st.h6
    refine ⟨r, .normal, st.h6, hb, by rw [hj]; rfl, ?_⟩
    have h1 := st.h1
    have h5 := st.h5
    have n1 : ¬ n + 1 = n + 6 := by omega
    have n5 : ¬ n + 5 = n + 6 := by omega
    simp [h1, n1]
    rw [endE_mark (by rw [get_set, if_neg n5]; exact h5)]
    simp
    exact hq vo _ (Acc.set (Acc.set st.acc _ (st.apart _ (by omega))) _ (st.apart _ (by omega)))
end Go.Proofs.Ytlpoejkleopdoaa
end
