/- Helpers of this claim: an evaluator over plain values and its laws. -/
import Derived.Test.YtlpoejkleopdoaaCc
section
set_option linter.unusedVariables false
set_option linter.unusedSimpArgs false
namespace Go.Proofs.Ytlpoejkleopdoaa
open Go Go.Proofs.Ytlpoejkleopdoaa.Den
abbrev LL := List (Option (List Pc))
abbrev lls (o : Option LL) : Value := slV 1 (o.map (List.map sl))
theorem plainLL (o : Option LL) : plain deep (lls o) = true := plain_of (d := 3) (plain_slMap (fun x => plain_slMap (d := 1) plainP x) o) (by decide)
def lists (L : LL) : List (List Pc) := L.map (·.getD [])
def okAll (L : LL) : Bool := L.all okPieces && decide (totalW (lists L) ≤ 2000)
def opt (xs : List Pc) : Option (List Pc) := if xs = [] then none else some xs
def resW (l : Option LL) (turns : Option (List Int)) : Option (List Pc) × Int :=
  if okAll (l.getD []) = true then
    if 1 ≤ (l.getD []).length ∧ (l.getD []).length ≤ 100 ∧ ((turns.getD []).any fun n => decide (n < 0)) = false then (opt (weaveW (turns.getD []) (lists (l.getD []))), 0) else (none, 7)
  else (none, 1)
@[simp] theorem cells_nilFunc : (Value.nilFunc).cells = #[.nilFunc] := _root_.id rfl
@[simp] theorem sl_none : sl none = .slice none 0 0 := by simp [sl, slV_none]
theorem lists_append (a b : LL) : totalW (lists (a ++ b)) = totalW (lists a) + totalW (lists b) := by
  unfold totalW lists
  rw [List.map_append, List.flatten_append, List.length_append]
theorem total_take {L : LL} {k : Nat} (hk : k < L.length) : totalW (lists (L.take (k + 1))) = totalW (lists (L.take k)) + (L[k].getD []).length := by
  rw [List.take_succ_eq_append_getElem hk, lists_append]
  simp [totalW, lists]
theorem total_le {L : LL} (k : Nat) : totalW (lists (L.take k)) ≤ totalW (lists L) := by
  have : totalW (lists L) = totalW (lists (L.take k)) + totalW (lists (L.drop k)) := by
    rw [← lists_append, List.take_append_drop]
  omega
theorem okAll_no {L : LL} {k : Nat} (hk : k < L.length) (h : okPieces L[k] = false) : okAll L = false := by
  unfold okAll
  have : L.all okPieces = false := by
    rw [Bool.eq_false_iff]
    intro ha
    rw [List.all_eq_true] at ha
    rw [ha _ (List.getElem_mem hk)] at h; cases h
  rw [this]; rfl
theorem okAll_no2 {L : LL} {k : Nat} (h : 2000 < totalW (lists (L.take k))) : okAll L = false := by
  have := total_le (L := L) k
  simp [okAll]; intro _; omega
theorem flat_sl (L : LL) : ((L.map sl).flatMap fun v => v.cells.toList) = L.map sl := by
  induction L with
  | nil => rfl
  | cons x L ih => rw [List.map_cons, List.flatMap_cons, ih]; cases x <;> rfl
theorem Clone32 (L : LL) (hL : 0 < L.length) (hL2 : L.length ≤ 100) (H : World) (Q : Value → World → Prop) : FW X 32 #[lls (some L)] H Q = Q (hp (H.heap.size + 1) L.length L.length) (pushObj (pushObj H (.cells #[] 24 (0, 0))) (rowL L L.length)) := by
  refine FW.eqE (by simp [X]) Try.func32 Try.ntmps32 rfl (by simp) ?_ Q
  have hn : binX Try.prog .eql 22 (.tmp 3) (.const (.slice none 0 0)) (lls (some L)) (.slice none 0 0) H = some (.value (.bool false), H) := by
    exact slV_nil (P := Try.prog) (H := H) (t := 22) (x := .tmp 3) (y := .const (.slice none 0 0)) (es := 1) (o := some (L.map sl)) (by simp)
  have ha := append_empty Try.prog (H := pushObj H (.cells #[] 24 (0, 0))) (k := H.heap.size) (es := 1) (e := 24) (fr := (0, 0)) (m := L.length) (new := L.map sl) (x := lls (some L)) (t1 := 22) (t2 := 22) (inf := Try.t24) (z := nil0) (by simp) rfl Try.underlying22 (by simp) info24 zero24 rfl rfl (by decide) (by decide) (by decide)
    (by
      have := SrcX.slV (P := Try.prog) (es := 1) (o := some (L.map sl)) (H := pushObj H (.cells #[] 24 (0, 0)))
      have e := flat_sl L
      show SrcX Try.prog 1 (slV 1 (some (L.map sl))) (pushObj H (.cells #[] 24 (0, 0))) L.length (L.map sl)
      simp only [Option.getD_some, List.length_map] at this
      rw [e] at this
      exact this) hL (by simp; omega)
  simp [hn, buildSliceX, inOrder, catCells, szO]
  simp [ha]
  unfold rowL
  simp
structure PostW (turns : List Int) (L : LL) (c k : Nat) (e : Env) (H : World) (ls : LL) (v : Value) : Prop where
  st : WSt H (seqW turns (lists L) k) ls c v
  l9 : lk e 9 = p0 0
  l11 : lk e 11 = p0 4
  l12 : lk e 12 = .func (.func 33) #[] #[p0 4, p0 0, p0 1]
def EndW (turns : List Int) (L : LL) (c : Nat) (e : Env) (H : World) : Prop := ∃ k ls v, PostW turns L c k e H ls v ∧ (turns.length ≤ k ∨ (seqW turns (lists L) k).1 = [])
def InvB (turns : List Int) (L : LL) (c d : Nat) (e : Env) (H : World) : Prop := ∃ k ls v, d = (seqW turns (lists L) k).1.flatten.length ∧ PostW turns L c k e H ls v ∧ (turns.length ≤ k ∨ (seqW turns (lists L) k).1 = [])
theorem encP_ten (x : Pc) : ∃ c : List Value, encP x = .agg c.toArray ∧ c.length = 4 ∧ ∀ y ∈ c, plain 10 y = true := by
  refine ⟨_, rfl, rfl, ?_⟩
  simp [plain, constOk1]
theorem seqW_le (turns : List Int) (L : List (List Pc)) (k : Nat) : (seqW turns L k).2.length ≤ totalW L := by
  have := seqW_len turns L k; omega
theorem seqW_next (turns : List Int) (L : List (List Pc)) {k : Nat} (h : (seqW turns L k).1 ≠ []) : seqW turns L (k + 1) = nextW (idxW turns k (seqW turns L k).1.length) (seqW turns L k) := by
  show (if (seqW turns L k).1 = [] then seqW turns L k else _) = _
  rw [if_neg h]
theorem encP_ten0 {P : Program} {H : World} (x : Pc) : ∃ c : List Value, encP x = .agg c.toArray ∧ c.length = 4 ∧ ∀ y ∈ c, strip0 10 P H y = some y := by
  refine ⟨_, rfl, rfl, ?_⟩
  simp
set_option maxRecDepth 100000 in
theorem Weave10A (l : Option LL) (turns : Option (List Int)) (hl : (l.getD []).length < 2 ^ 63) (hx : ∀ x ∈ l.getD [], (x.getD []).length < 2 ^ 63) (ht : (turns.getD []).length < 2 ^ 63) :
    FA X 10 [lls l, ints turns] (.tuple #[sl (resW l turns).1, .int .i64 (resW l turns).2]) := by
  refine fa_of Try.func10 Try.ntmps10 rfl (by simp) ?_
  simp
  refine CE.range (m := (l.getD []).length) (fun k e H' => H' = World0 ∧ lk e 0 = lls l ∧ lk e 1 = ints turns ∧ lk e 15 = lls l ∧ lk e 6 = .int .i64 (totalW (lists ((l.getD []).take k))) ∧ totalW (lists ((l.getD []).take k)) ≤ 2000 ∧
      ∀ j (hj : j < (l.getD []).length), j < k → okPieces (l.getD [])[j] = true) ?_ hl ?_ ?_ ?_
  · decide
  · simp [totalW, lists]
  · rintro k e H' hk h1 h2 ⟨rfl, h3, h4, h5, h6, h7, h8⟩
    have hxk := hx _ (List.getElem_mem hk)
    have hp := pieces_eq (l.getD [])[k] (by omega)
    have htk := total_take hk
    simp [h1, h2, h3, h4, h5, h6, hk, hp]
    cases hok : okPieces (l.getD [])[k] with
    | false =>
      have hno := okAll_no hk hok
      simp [resW, hno]
    | true =>
      have hle : ((l.getD [])[k].getD []).length ≤ 2000 := by
        simp only [okPieces, Bool.and_eq_true, decide_eq_true_eq] at hok
        exact hok.1
      have hw : IntKind.i64.wrap ((totalW (lists ((l.getD []).take k)) : Int) + (((l.getD [])[k].getD []).length : Int)) = ((totalW (lists ((l.getD []).take (k + 1))) : Nat) : Int) := by rw [wrap64 (by omega) (by omega), htk]; omega
      simp [h6, hw]
      refine gIf_dec (fun h => ?_) (fun h => ?_)
      · have hno := okAll_no2 (L := l.getD []) (k := k + 1) (by omega)
        simp [resW, hno]
      · simp [h1, h2, h3, h4, h5, h6]
        refine ⟨by omega, fun j hj hj2 => ?_⟩
        by_cases hjk : j = k
        · subst hjk; exact hok
        · exact h8 j hj (by omega)
  · rintro e H' h1 h2 ⟨rfl, h3, h4, h5, h6, h7, h8⟩
    rw [List.take_length] at h6 h7
    have hok : okAll (l.getD []) = true := by
      simp only [okAll, Bool.and_eq_true, List.all_eq_true, decide_eq_true_eq]
      exact ⟨fun x hx => by obtain ⟨j, hj, rfl⟩ := List.getElem_of_mem hx; exact h8 j hj hj, h7⟩
    simp [h1, h2, h3, h4, h5]
    refine gIf_ndec (fun h => ?_) (fun h => ?_)
    · have : ¬ (1 ≤ (l.getD []).length) := by omega
      simp [h, resW, hok, this]
    simp [h, h3]
    refine gIf_ndec (fun h9 => ?_) (fun h9 => ?_)
    · have : ¬ ((l.getD []).length ≤ 100) := by omega
      simp [h9, resW, hok, this]
    simp [h9, h4, Contains28 turns ht]
    cases hneg : (turns.getD []).any fun n => decide (n < 0) with
    | true => simp [resW, hok, hneg]
    | false =>
    have hres : resW l turns = (opt (weaveW (turns.getD []) (lists (l.getD []))), 0) := by
      unfold resW
      rw [if_pos hok, if_pos ⟨by omega, by omega, hneg⟩]
    rw [hres]
    obtain ⟨L, rfl⟩ : ∃ L, l = some L := by
      cases l with
      | none => simp at h
      | some L => exact ⟨L, rfl⟩
    simp only [Option.getD_some] at *
    have hL : 0 < L.length := by omega
    have hL2 : L.length ≤ 100 := by omega
    simp [allocX, szO, h3]
    refine WP.drawP [(2, 0)] (by decide +kernel) (by decide +kernel) ?_
    simp [Clone32 L hL hL2, szO, h3]
    rw [Delete31 L 3 L.length _ (by simp) (Nat.le_refl _) (by omega)]
    simp [h3]
    refine ⟨Checks.cons rfl rfl rfl ?_ .nil, ?_⟩
    · unfold reV
      simp [veq, veq2, veq1, veqA]
    simp [szO, allocX, h3, h4]
    have st0 : WSt (pushObj (setO (setO (pushObj (pushObj (setO (pushObj (pushObj World0 (.cells #[.slice none 0 0] 22 (0, 0))) (.cells #[.nilFunc] 25 (0, 0))) 1 (.cells #[keep] 25 (0, 0))) (.cells #[] 24 (0, 0))) (rowL L L.length)) 3 (rowL (neO L) L.length)) 0 (.cells #[hp 3 (neO L).length L.length] 22 (0, 0))) (.cells #[nil0] 24 (0, 0))) (seqW (turns.getD []) (lists L) 0) (neO L) L.length nil0 := by
      refine ⟨neO_map L, neO_len_le L, hL2, by simp, by simp, by simp, by simp, Acc.nil, ?_, ?_, ?_, ?_⟩ <;> (intro r n c h; cases h)
    generalize (pushObj (setO (setO (pushObj (pushObj (setO (pushObj (pushObj World0 (.cells #[.slice none 0 0] 22 (0, 0))) (.cells #[.nilFunc] 25 (0, 0))) 1 (.cells #[keep] 25 (0, 0))) (.cells #[] 24 (0, 0))) (rowL L L.length)) 3 (rowL (neO L) L.length)) 0 (.cells #[hp 3 (neO L).length L.length] 22 (0, 0))) (.cells #[nil0] 24 (0, 0))) = H9 at st0 ⊢
    refine CE.imp (Q := fun ex e ds H => ex = .exit 2 ∧ ds = [] ∧ EndW (turns.getD []) L L.length e H) ?_ ?_
    · refine CE.range (m := (turns.getD []).length) (fun k e H' => lk e 50 = ints turns ∧ ∃ ls v, PostW (turns.getD []) L L.length k e H' ls v) ?_ ht ?_ ?_ ?_
      · decide
      · simp
        exact ⟨_, _, st0, by simp, by simp, by simp⟩
      · rintro k e H' hk h1 h2 ⟨h50, ls, v, st, l9, l11, l12⟩
        simp [h1, h2, h50, l9, l11, l12, st.h0, hk]
        have hse : ls = [] → (seqW (turns.getD []) (lists L) k).1 = [] := fun h => by rw [← st.hs, h]; rfl
        have hnn : 0 ≤ (turns.getD [])[k] := by
          have := List.any_eq_false.1 hneg _ (List.getElem_mem hk)
          simpa using this
        refine gIf_dec (fun h0 => ?_) (fun h0 => ?_)
        · simp
          exact ⟨k, ls, v, ⟨st, by simp [l9], by simp [l11], by simp [l12]⟩, .inr (hse h0)⟩
        · have hlen : (seqW (turns.getD []) (lists L) k).1.length = ls.length := by rw [← st.hs, List.length_map]
          have hpos : 0 < ls.length := List.length_pos_iff.2 h0
          have hsn : (seqW (turns.getD []) (lists L) k).1 ≠ [] := fun h => by rw [h] at hlen; simp at hlen; omega
          have hc1 := st.hc
          have hmod : (turns.getD [])[k].tmod (ls.length : Int) = ((idxW (turns.getD []) k ls.length : Nat) : Int) := by
            unfold idxW
            rw [List.getElem?_eq_getElem hk]
            simp only
            obtain ⟨m, hm⟩ : ∃ m : Nat, (turns.getD [])[k] = (m : Int) := ⟨_, (Int.toNat_of_nonneg hnn).symm⟩
            rw [hm]
            simp [Int.tmod]
          simp [l9, l11, l12, st.h0, h0, hmod]
          refine next33 st (by rw [hlen]; exact idxW_lt hpos) (seqW_ne _ _ k) ?_ ?_
          · have := seqW_le (turns.getD []) (lists L) k
            omega
          intro v' H1 ls' v2 st'
          simp [h1, h2, h50]
          refine ⟨ls', v2, ?_, by simpa using l9, by simpa using l11, by simpa using l12⟩
          rw [seqW_next _ _ hsn, hlen]
          exact st'
      · rintro e H' h1 h2 ⟨h50, ls, v, st, l9, l11, l12⟩
        exact ⟨rfl, rfl, _, ls, v, ⟨st, by simpa using l9, by simpa using l11, by simpa using l12⟩, .inl (Nat.le_refl _)⟩
    · rintro ex e1 ds1 H1 ⟨rfl, rfl, k, ls, v, pw, hk⟩
      simp
      refine CE.inv (InvB (turns.getD []) L L.length) ?_ ⟨k, ls, v, rfl, pw, hk⟩
      rintro d e H' ⟨k, ls, v, rfl, ⟨st, l9, l11, l12⟩, hk⟩
      have hlen : (seqW (turns.getD []) (lists L) k).1.length = ls.length := by rw [← st.hs, List.length_map]
      have hc1 := st.hc
      simp [l9, l11, l12, st.h0]
      refine gIf_dec (fun h0 => ?_) (fun h0 => ?_)
      · have hsn : (seqW (turns.getD []) (lists L) k).1 ≠ [] := fun h => by rw [h] at hlen; simp at hlen; omega
        have hkt : (turns.getD []).length ≤ k := hk.resolve_right hsn
        simp [l12]
        have hix : idxW (turns.getD []) k ls.length = 0 := by
          unfold idxW
          rw [List.getElem?_eq_none hkt]
        have hsq := seqW_next _ _ hsn
        rw [hlen, hix] at hsq
        refine next33 st (i := 0) (by rw [hlen]; exact h0) (seqW_ne _ _ k) ?_ ?_
        · have := seqW_le (turns.getD []) (lists L) k
          omega
        intro v' H1 ls' v2 st'
        simp
        refine ⟨_, ?_, k + 1, ls', v2, rfl, ⟨?_, by simpa using l9, by simpa using l11, by simpa using l12⟩, .inl (by omega)⟩
        · have e1 := seqW_len (turns.getD []) (lists L) k
          have e2 := seqW_len (turns.getD []) (lists L) (k + 1)
          obtain ⟨p, t, hp1, hp2⟩ := nextW_at (seqW_ne (turns.getD []) (lists L) k) (i := 0) (by rw [hlen]; exact h0)
          rw [hsq, hp2] at e2
          rw [hsq, hp2]
          simp only [List.length_append, List.length_cons, List.length_nil, List.length_flatten] at e1 e2 ⊢
          omega
        · rw [hsq]; exact st'
      · have hs0 : (seqW (turns.getD []) (lists L) k).1 = [] := List.length_eq_zero_iff.1 (by omega)
        have hw := weaveW_eq (turns.getD []) (lists L) hs0
        have hst := Acc.strip0_agg (P := Try.prog) (H := H') (d := 10) (xs := (seqW (turns.getD []) (lists L) k).2) (enc := encP) st.acc Try.underlying33 (by simp) info33 rfl (by decide) encP_ten0
        have h4 := st.h4
        simp [l11, h4]
        rw [hw, hst]
        unfold opt
        by_cases hz : (seqW (turns.getD []) (lists L) k).2 = []
        · simp [hz]
        · simp only [if_neg hz]; rfl
theorem Weave10 (l : Option LL) (turns : Option (List Int)) (hl : (l.getD []).length < 2 ^ 63) (hx : ∀ x ∈ l.getD [], (x.getD []).length < 2 ^ 63) (ht : (turns.getD []).length < 2 ^ 63) (H : World) (Q : Value → World → Prop) :
    FW X 10 #[lls l, ints turns] H Q = Q (.tuple #[sl (resW l turns).1, .int .i64 (resW l turns).2]) H :=
  fa_eq (Weave10A l turns hl hx ht) (by simp [X]) (stripArgs_plain Try.prog H [lls l, ints turns] (by simp [plainLL, plainI])) Q
end Go.Proofs.Ytlpoejkleopdoaa
end
