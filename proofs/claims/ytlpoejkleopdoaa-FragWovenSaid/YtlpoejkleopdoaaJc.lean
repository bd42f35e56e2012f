/- Helpers of this claim: an evaluator over plain values and its laws. -/
import Derived.Test.YtlpoejkleopdoaaJb
section
set_option linter.unusedVariables false
set_option linter.unusedSimpArgs false
namespace Go.Proofs.Ytlpoejkleopdoaa
open Go Go.Proofs.Ytlpoejkleopdoaa.Den
theorem JSt.ne {H : World} {jb mb : Nat} {most room : Int} {M : List (Op × Value)} (st : JSt H jb mb most room M) : ¬ mb = jb := by
  intro e
  obtain ⟨es, c, h, _⟩ := st.hm
  rw [e, st.hj] at h
  cases h
theorem find_mem {id : Int} {x : Op × Value} : ∀ {M : List (Op × Value)}, (M.find? fun x => x.1.id == id) = some x → x ∈ M := fun h => List.mem_of_find?_eq_some h
/-- The memory after both blocks have been set. -/
theorem JSt.del {H : World} {jb mb : Nat} {most room : Int} {M : List (Op × Value)} (st : JSt H jb mb most room M) (id : Int) {o : Obj}
    (hm : MapIs KI (setO (setO H jb (.cells #[.int .i64 most, .int .i64 room, .int .i64 (bytesO (delO id (M.map (·.1)))), .map (some mb)] 78 (0, 0))) mb o) mb (delM id (M.map heldV))) :
    JSt (setO (setO H jb (.cells #[.int .i64 most, .int .i64 room, .int .i64 (bytesO (delO id (M.map (·.1)))), .map (some mb)] 78 (0, 0))) mb o) jb mb most room (delP id M) := by
  have hne := st.ne
  have lj := getO_lt st.hj
  obtain ⟨e1, e2⟩ := delP_1 id M
  refine ⟨?_, by rw [e2]; exact hm, fun x hx => ?_, st.hd.sublist (delP_sub M)⟩
  · rw [get_set, if_neg (fun e => hne e.symm), get_set, if_pos rfl, if_pos lj, e1]
  · obtain ⟨h1, h2, h3⟩ := st.hb x (delP_mem hx)
    exact ⟨Acc.set (Acc.set h1 _ h2) _ h3, h2, h3⟩
/-- What is held of a message: its bytes, and of how many pieces. -/
theorem JSt.look {H : World} {jb mb : Nat} {most room : Int} {M : List (Op × Value)} (st : JSt H jb mb most room M) (id : Int) : ∃ bv, (∀ ok, lookupD Try.prog 76 (.map (some mb)) (.int .i64 id) ok H = some (if ok then .tuple #[.agg #[bv, .int .i64 (((findO id (M.map (·.1))).map (·.count)).getD 0)], .bool (findO id (M.map (·.1))).isSome] else .agg #[bv, .int .i64 (((findO id (M.map (·.1))).map (·.count)).getD 0)])) ∧
    AccB 5 H bv (((findO id (M.map (·.1))).map (·.body)).getD []) ∧ Apart bv jb ∧ Apart bv mb ∧ (∀ x ∈ delP id M, ApV bv x.2 ∧ ApV x.2 bv) ∧ (∀ j, (∀ y ∈ M, Apart y.2 j) → Apart bv j) := by
  have hlk := map_look (P := Try.prog) (t := 76) Try.underlying76 Try.underlying3 (keyInt .i64) (z := .agg #[nil0, .int .i64 0]) (by simp) st.hm id
  rw [look_held] at hlk
  rw [find_held]
  cases hf : M.find? (fun x => x.1.id == id) with
  | none =>
    rw [hf] at hlk
    exact ⟨nil0, hlk, Acc.nil, fun _ _ _ h => (by cases h), fun _ _ _ h => (by cases h), fun x _ => ⟨fun _ _ _ _ _ _ _ h => (by cases h), fun _ _ _ h => (by cases h)⟩, fun _ _ _ _ _ h => (by cases h)⟩
  | some x =>
    rw [hf] at hlk
    have hx := find_mem hf
    obtain ⟨b1, b2, b3⟩ := st.hb x hx
    refine ⟨x.2, hlk, b1, b2, b3, ?_, fun j h => h x hx⟩
    have : ∀ (M : List (Op × Value)), (M.find? fun x => x.1.id == id) = some x → (M.Pairwise fun x y => ApV x.2 y.2 ∧ ApV y.2 x.2) → ∀ y ∈ delP id M, ApV x.2 y.2 ∧ ApV y.2 x.2 := by
      intro M
      induction M with
      | nil => intro h; cases h
      | cons a M ih =>
        intro h hp y hy
        rw [List.find?_cons] at h
        unfold delP at hy
        rw [List.pairwise_cons] at hp
        by_cases ha : a.1.id = id
        · simp [ha] at h
          rw [if_pos ha] at hy
          subst h
          exact hp.1 y hy
        · have hb : (a.1.id == id) = false := by simpa using ha
          rw [hb] at h
          rw [if_neg ha] at hy
          rcases List.mem_cons.1 hy with rfl | hy
          · have := hp.1 x (find_mem h)
            exact ⟨this.2, this.1⟩
          · exact ih h hp.2 y hy
    exact this M hf st.hd
theorem OInv.sum {most room : Int} {L : List Op} (h : OInv most room L) (id : Int) : bytesO (delO id L) + (((findO id L).map (·.body)).getD []).length = bytesO L := by
  cases hf : findO id L with
  | none => rw [delO_none hf]; rfl
  | some x => exact (delO_some hf).1
set_option maxRecDepth 100000 in
theorem forget54 {H : World} {jb mb : Nat} {most room : Int} {M : List (Op × Value)} (st : JSt H jb mb most room M) (hi : OInv most room (M.map (·.1))) (id : Int) {Q : Value → World → Prop}
    (hq : ∀ H', JSt H' jb mb most room (delP id M) → (∀ j, j ≠ jb → j ≠ mb → getO H' j = getO H j) → H'.heap.size = H.heap.size → Q (.tuple #[]) H') : FW X 54 #[p0 jb, .int .i64 id] H Q := by
  refine FW.walk (by simp [X]) Try.func54 Try.ntmps54 rfl (by simp) ?_
  have hne := st.ne
  have lj := getO_lt st.hj
  have lm := st.hm.lt
  have hj := st.hj
  obtain ⟨bv, hlk, acc, -, -, -, -⟩ := st.look id
  have hlen := fun H0 => Acc.len (P := Try.prog) (H0 := H0) (t := 57) acc (by simp)
  have hsum := hi.sum id
  have hrm := hi.room0
  have hby := hi.bytes
  have hw : IntKind.i64.wrap ((bytesO (M.map (·.1)) : Int) - ((((findO id (M.map (·.1))).map (·.body)).getD []).length : Int)) = (bytesO (delO id (M.map (·.1))) : Int) := by rw [wrap64 (by omega) (by omega)]; omega
  obtain ⟨o, hd, hm'⟩ := map_del (P := Try.prog) (t := 76) Try.underlying76 Try.underlying3 (keyInt .i64) (st.hm.set (i := jb) (.cells #[.int .i64 most, .int .i64 room, .int .i64 (bytesO (delO id (M.map (·.1)))), .map (some mb)] 78 (0, 0)) hne) id
  have hdel := st.del id hm'
  generalize ((findO id (M.map (·.1))).map (·.count)).getD 0 = cnt at *
  generalize (((findO id (M.map (·.1))).map (·.body)).getD []).length = n at *
  simp
  refine WP.draw0 (by decide +kernel) (by decide +kernel) ?_
  simp [hj, hlk, hlen, hw, lj, X_delete, hd]
  refine hq _ hdel (fun j h1 h2 => ?_) (by simp)
  rw [get_set, if_neg h2, get_set, if_neg h1]
/-- The same, where only the lengths of what is held are known. -/
theorem forgetL {H : World} {jb mb : Nat} {most room : Int} {M : List (Op × Value)} (hj : getO H jb = some (.cells #[.int .i64 most, .int .i64 room, .int .i64 (bytesO (M.map (·.1))), .map (some mb)] 78 (0, 0))) (hm : MapIs KI H mb (M.map heldV))
    (hl : ∀ x ∈ M, ∀ H0, builtinX Try.prog .len #[57] #[x.2] H0 = some (.value (.int .i64 x.1.body.length), H0)) (hi : OInv most room (M.map (·.1))) (id : Int) {Q : Value → World → Prop}
    (hq : ∀ H', getO H' jb = some (.cells #[.int .i64 most, .int .i64 room, .int .i64 (bytesO ((delP id M).map (·.1))), .map (some mb)] 78 (0, 0)) → MapIs KI H' mb ((delP id M).map heldV) → (∀ j, j ≠ jb → j ≠ mb → getO H' j = getO H j) → H'.heap.size = H.heap.size → (∀ v : Value, ∀ es e n cs, Den.Acc H v es e n cs → Apart v jb → Apart v mb → Den.Acc H' v es e n cs) → Q (.tuple #[]) H') : FW X 54 #[p0 jb, .int .i64 id] H Q := by
  refine FW.walk (by simp [X]) Try.func54 Try.ntmps54 rfl (by simp) ?_
  have hne : ¬ mb = jb := by
    intro e
    obtain ⟨es, c, h, _⟩ := hm
    rw [e, hj] at h
    cases h
  have lj := getO_lt hj
  have lm := hm.lt
  obtain ⟨bv, cnt, hlk, hlen⟩ : ∃ bv cnt, lookupD Try.prog 76 (.map (some mb)) (.int .i64 id) false H = some (.agg #[bv, .int .i64 cnt]) ∧ ∀ H0, builtinX Try.prog .len #[57] #[bv] H0 = some (.value (.int .i64 ((((findO id (M.map (·.1))).map (·.body)).getD []).length)), H0) := by
    have hlk := map_look (P := Try.prog) (t := 76) Try.underlying76 Try.underlying3 (keyInt .i64) (z := .agg #[nil0, .int .i64 0]) (by simp) hm id false
    rw [look_held] at hlk
    rw [find_held]
    cases hf : M.find? (fun x => x.1.id == id) with
    | none =>
      rw [hf] at hlk
      exact ⟨nil0, _, hlk, fun H0 => Acc.len (P := Try.prog) (H := H0) (es := 1) (e := 5) (cs := []) Acc.nil (by simp)⟩
    | some x =>
      rw [hf] at hlk
      exact ⟨x.2, _, hlk, hl x (find_mem hf)⟩
  have hsum := hi.sum id
  have hrm := hi.room0
  have hby := hi.bytes
  obtain ⟨e1, e2⟩ := delP_1 id M
  have hw : IntKind.i64.wrap ((bytesO (M.map (·.1)) : Int) - ((((findO id (M.map (·.1))).map (·.body)).getD []).length : Int)) = (bytesO ((delP id M).map (·.1)) : Int) := by rw [wrap64 (by omega) (by omega), e1]; omega
  obtain ⟨o, hd, hm'⟩ := map_del (P := Try.prog) (t := 76) Try.underlying76 Try.underlying3 (keyInt .i64) (hm.set (i := jb) (.cells #[.int .i64 most, .int .i64 room, .int .i64 (bytesO ((delP id M).map (·.1))), .map (some mb)] 78 (0, 0)) hne) id
  rw [← e2] at hm'
  generalize (((findO id (M.map (·.1))).map (·.body)).getD []).length = n at *
  simp
  refine WP.draw0 (by decide +kernel) (by decide +kernel) ?_
  simp [hj, hlk, hlen, hw, lj, X_delete, hd]
  refine hq _ ?_ hm' (fun j h1 h2 => ?_) (by simp) fun v es e n cs h a1 a2 => Acc.set (Acc.set h _ a1) _ a2
  · rw [get_set, if_neg (fun e => hne e.symm), get_set, if_pos rfl, if_pos lj]
  · rw [get_set, if_neg h2, get_set, if_neg h1]
end Go.Proofs.Ytlpoejkleopdoaa
end
