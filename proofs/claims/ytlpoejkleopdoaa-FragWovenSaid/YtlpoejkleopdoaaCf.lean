/- Helpers of this claim: an evaluator over plain values and its laws. -/
import Derived.Test.YtlpoejkleopdoaaCe
section
set_option linter.unusedVariables false
set_option linter.unusedSimpArgs false
namespace Go.Proofs.Ytlpoejkleopdoaa.Den
def ApV (u v : Value) : Prop := ∀ r n c, v = .slice (some ⟨r, 0, none⟩) n c → Apart u r
theorem Acc.keep {H H' : World} {u v : Value} {es : Nat} {e : TypeId} {n : Nat} {cs : List Value} (h : Acc H v es e n cs) (hk : ∀ i o, getO H i = some o → Apart u i → getO H' i = some o) (ha : ApV u v) : Acc H' v es e n cs := by
  obtain ⟨h1, h2 | ⟨r, rfl, hn, hr⟩⟩ := h
  · exact ⟨h1, .inl h2⟩
  · exact ⟨h1, .inr ⟨r, rfl, hn, hk r _ hr (ha r n n rfl)⟩⟩
theorem Acc.row_lt {H : World} {v : Value} {es : Nat} {e : TypeId} {n : Nat} {cs : List Value} (h : Acc H v es e n cs) {r m c : Nat} (hv : v = .slice (some ⟨r, 0, none⟩) m c) : r < H.heap.size := by
  subst hv
  obtain ⟨h1, ⟨h2, _⟩ | ⟨r', h2, hn, hr⟩⟩ := h
  · cases h2
  · injection h2 with h3 h4 h5
    injection h3 with h3
    injection h3 with h3
    subst h3
    exact getO_lt hr
end Go.Proofs.Ytlpoejkleopdoaa.Den
namespace Go.Proofs.Ytlpoejkleopdoaa
open Go Go.Proofs.Ytlpoejkleopdoaa.Den
def AccP (H : World) (v : Value) (xs : List Pc) : Prop := Acc H v 4 33 xs.length ((xs.map encP).flatMap fun v => v.cells.toList)
theorem flatP_len (xs : List Pc) : ((xs.map encP).flatMap fun v => v.cells.toList).length = xs.length * 4 := by
  induction xs with
  | nil => rfl
  | cons x xs ih => rw [List.map_cons, List.flatMap_cons, List.length_append, ih]; simp [Nat.succ_mul, Nat.add_comm]
theorem flatP_one (xs : List Pc) : ((xs.map encP).flatMap fun v => v.cells.toList).all Value.oneCell' = true := by
  induction xs with
  | nil => rfl
  | cons x xs ih => rw [List.map_cons, List.flatMap_cons, List.all_append, ih]; simp
theorem lists_take {L : LL} {k : Nat} (hk : k < L.length) : (lists (L.take (k + 1))).flatten = (lists (L.take k)).flatten ++ L[k].getD [] := by
  rw [List.take_succ_eq_append_getElem hk, lists, List.map_append, List.flatten_append]
  simp [lists]
theorem getD_map (o : Option (List Pc)) : (o.map (List.map encP)).getD [] = (o.getD []).map encP := by cases o <;> rfl
/-- How the twin stands before round k. -/
structure RIn (turns : Option (List Int)) (L : LL) (rn k : Nat) (e : Env) (H : World) (va : Value) (nx : List Nat) (vo : Value) (outs : List Pc) : Prop where
  e0 : lk e 0 = lls (some L)
  e1 : lk e 1 = ints turns
  e6 : lk e 6 = va
  e11 : lk e 11 = hp rn L.length L.length
  e12 : lk e 12 = vo
  e13 : lk e 13 = .int .i64 k
  row : getO H rn = some (.cells (nx.map fun n : Nat => Value.int .i64 (n : Int)).toArray 3 (0, 0))
  nxl : nx.length = L.length
  seq : seqW (turns.getD []) (lists L) k = (neL (remW (lists L) nx), outs)
  acc : AccP H vo outs
  apart : Apart vo rn
def RInv (turns : Option (List Int)) (L : LL) (rn : Nat) (va : Value) (d : Nat) (e : Env) (H : World) : Prop := ∃ k nx vo outs, d = (seqW (turns.getD []) (lists L) k).1.flatten.length ∧ RIn turns L rn k e H va nx vo outs
def AccI (H : World) (v : Value) (xs : List Nat) : Prop := Acc H v 1 3 xs.length (xs.map fun n : Nat => Value.int .i64 (n : Int))
/-- Within a round: which lists have pieces left. -/
structure LIn (turns : Option (List Int)) (L : LL) (rn k : Nat) (va : Value) (nx : List Nat) (vo : Value) (outs : List Pc) (j : Nat) (e : Env) (H : World) (vl : Value) : Prop where
  r : RIn turns L rn k e H va nx vo outs
  e57 : lk e 57 = lls (some L)
  e14 : lk e 14 = vl
  accl : AccI H vl (nzW 0 ((remW (lists L) nx).take j))
  a1 : Apart vl rn
  a2 : ApV vl vo
def LInv (turns : Option (List Int)) (L : LL) (rn k : Nat) (va : Value) (nx : List Nat) (vo : Value) (outs : List Pc) (j : Nat) (e : Env) (H : World) : Prop := ∃ vl, LIn turns L rn k va nx vo outs j e H vl
theorem zeros1 (n : Nat) : zerosX n [Value.int .i64 0] = (List.replicate n 0).map fun n : Nat => Value.int .i64 (n : Int) := by
  induction n with
  | zero => rfl
  | succ n ih =>
    unfold zerosX at *
    rw [List.replicate_succ, List.flatten_cons, ih]; rfl
theorem nz_step {L : LL} {nx : List Nat} (h : nx.length = L.length) {j : Nat} (hj : j < L.length) : nzW 0 ((remW (lists L) nx).take (j + 1)) = nzW 0 ((remW (lists L) nx).take j) ++ if nx[j] < (L[j].getD []).length then [j] else [] := by
  have hll : (lists L).length = L.length := by simp [lists]
  have hrl : (remW (lists L) nx).length = L.length := by rw [remW_length (by omega), hll]
  have hg := remW_get (L := lists L) (nx := nx) (by omega) (k := j) (by omega)
  have hjr : j < (remW (lists L) nx).length := by omega
  have hg2 : (remW (lists L) nx)[j] = (L[j].getD []).drop nx[j] := by
    have := List.getElem?_eq_getElem hjr
    rw [hg] at this
    injection this with this
    rw [← this]
    simp [lists]
  rw [List.take_succ_eq_append_getElem hjr, nzW_append, List.length_take, Nat.min_eq_left (by omega), hg2, Nat.zero_add]
  congr 1
  unfold nzW
  by_cases hlt : nx[j] < (L[j].getD []).length
  · have hne : ((L[j].getD []).drop nx[j]).isEmpty = false := by
      rw [Bool.eq_false_iff]
      intro hh
      have := List.isEmpty_iff.1 hh
      have := congrArg List.length this
      simp at this
      omega
    simp [hne, hlt, nzW]
  · have hne : ((L[j].getD []).drop nx[j]).isEmpty = true := by
      rw [List.isEmpty_iff, List.drop_eq_nil_iff]; omega
    simp [hne, hlt, nzW]
set_option maxRecDepth 100000 in
theorem Weave11 (l : Option LL) (turns : Option (List Int)) (hl : (l.getD []).length < 2 ^ 63) (htot : totalW (lists (l.getD [])) ≤ 2 ^ 20) (ht : (turns.getD []).length < 2 ^ 63) (H : World) (Q : Value → World → Prop) :
    FW X 11 #[lls l, ints turns] H Q = Q (.tuple #[sl (resW l turns).1, .int .i64 (resW l turns).2]) H := by
  refine FW.aloneEq ?_ Try.func11 Try.ntmps11 rfl (by simp) ?_ H Q
  · simp [X, plainLL, plainI]
  simp
  refine CE.range (m := (l.getD []).length) (fun k e H' => lk e 0 = lls l ∧ lk e 1 = ints turns ∧ lk e 17 = lls l ∧ ∃ v, lk e 6 = v ∧ AccP H' v (lists ((l.getD []).take k)).flatten) ?_ hl ?_ ?_ ?_
  · decide
  · refine ⟨by simp, by simp, by simp, by simp, by simp, _, rfl, ?_⟩
    simp [lists]
    exact Acc.nil
  · rintro k e H' hk h1 h2 ⟨h3, h4, h5, v, h6, acc⟩
    have hle := total_le (L := l.getD []) (k + 1)
    have htk := total_take hk
    have src := SrcX.slV (P := Try.prog) (es := 4) (o := (l.getD [])[k].map (List.map encP)) (H := H')
    rw [getD_map, List.length_map] at src
    have hn : (lists ((l.getD []).take k)).flatten.length = totalW (lists ((l.getD []).take k)) := rfl
    obtain ⟨v', H2, e1, acc', -⟩ := Acc.append Try.prog (t1 := 24) (t2 := 24) acc Try.underlying24 (by simp) info33 zero33 rfl rfl (by decide) (by decide) (by decide)
      src (flatP_len _) (flatP_one _) (by simp only [bytes33]; omega)
    have hh : (((lists ((l.getD []).take (k + 1))).flatten.map encP).flatMap fun v => v.cells.toList) = (((lists ((l.getD []).take k)).flatten.map encP).flatMap fun v => v.cells.toList) ++ (((l.getD [])[k].getD []).map encP).flatMap fun v => v.cells.toList := by
      rw [lists_take hk, List.map_append, List.flatMap_append]
    rw [← hh, ← List.length_append, ← lists_take hk] at acc'
    simp [h1, h2, h3, h4, h5, h6, hk, e1]
    exact acc'
  · rintro e H' h1 h2 ⟨h3, h4, h5, v, h6, acc⟩
    rw [List.take_length] at acc
    simp [h1, h2, h3, h4, h5, h6]
    refine piecesH _ acc (by show totalW _ < _; omega) fun H2 hK => ?_
    rw [all_okAll]
    cases hok : okAll (l.getD []) with
    | false => simp [resW, hok]
    | true =>
    simp [h3]
    refine gIf_ndec (fun h => ?_) (fun h => ?_)
    · have : ¬ (1 ≤ (l.getD []).length) := by omega
      simp [h, resW, hok, this]
    simp [h, h3]
    refine gIf_dec (fun h9 => ?_) (fun h9 => ?_)
    · have : ¬ ((l.getD []).length ≤ 100) := by omega
      simp [h9, resW, hok, this]
    simp [h9, h4]
    refine CE.range (m := (turns.getD []).length) (fun k e H' => H' = H2 ∧ lk e 0 = lls l ∧ lk e 1 = ints turns ∧ lk e 38 = ints turns ∧ lk e 6 = v ∧ ∀ j (hj : j < (turns.getD []).length), j < k → 0 ≤ (turns.getD [])[j]) ?_ ht ?_ ?_ ?_
    · decide
    · simp [h3, h4, h6]
    · rintro k e H' hk h1 h2 ⟨rfl, h3, h4, h5, h6, h7⟩
      simp [h1, h2, h3, h4, h5, h6, hk]
      refine gIf_dec (fun hn => ?_) (fun hn => ?_)
      · have hany : ((turns.getD []).any fun n => decide (n < 0)) = true := List.any_eq_true.2 ⟨_, List.getElem_mem hk, by simpa using hn⟩
        simp [resW, hok, hany]
      · simp [h1, h2, h3, h4, h5, h6]
        intro j hj hj2
        by_cases hjk : j = k
        · subst hjk; omega
        · exact h7 j hj (by omega)
    · rintro e H' h1 h2 ⟨rfl, h3, h4, h5, h6, h7⟩
      have hneg : ((turns.getD []).any fun n => decide (n < 0)) = false := by
        rw [List.any_eq_false]
        intro x hx
        obtain ⟨j, hj, rfl⟩ := List.getElem_of_mem hx
        have := h7 j hj hj
        simp; omega
      have hres : resW l turns = (opt (weaveW (turns.getD []) (lists (l.getD []))), 0) := by
        unfold resW
        rw [if_pos hok, if_pos ⟨by omega, by omega, hneg⟩]
      rw [hres]
      obtain ⟨L, rfl⟩ : ∃ L, l = some L := by
        cases l with
        | none => simp at h
        | some L => exact ⟨L, rfl⟩
      simp only [Option.getD_some] at *
      have hL : 0 < L.length := by omega
      have hL2 : L.length ≤ 100 := by omega
      have hLI : (L.length : Int) ≤ 4294967296 := by omega
      have hva := fun H0 => Acc.len (P := Try.prog) (H0 := H0) (t := 24) acc (by simp)
      generalize hr9 : H'.heap.size = rn
      simp [makeSliceX, h3, hLI, szO, hr9]
      refine CE.inv (RInv turns L rn v) ?_ ⟨0, List.replicate L.length 0, nil0, [], rfl, ?_⟩
      rotate_left
      · refine ⟨by simp [h3], by simp [h4], by simp [h6], by simp, by simp, by simp, ?_, by simp, ?_, Acc.nil, ?_⟩
        · rw [← zeros1]; simp [← hr9]
        · have : (lists L).length = L.length := by simp [lists]
          rw [← this, remW_zero]; rfl
        · intro r n c hh; cases hh
      rintro d e H3 ⟨k, nx, vo, outs, rfl, e0, e1, e6, e11, e12, e13, row, nxl, seq, acc, apart⟩
      have hvo := fun H0 => Acc.len (P := Try.prog) (H0 := H0) (t := 24) acc (by simp)
      have htl : (lists L).flatten.length = totalW (lists L) := rfl
      have hlen := seqW_len (turns.getD []) (lists L) k
      rw [htl] at hva
      have hout : (seqW (turns.getD []) (lists L) k).2 = outs := by rw [seq]
      have hrem : (seqW (turns.getD []) (lists L) k).1 = neL (remW (lists L) nx) := by rw [seq]
      simp [e6, e12, hvo, hva]
      refine gIf_dec (fun h0 => ?_) (fun h0 => ?_)
      · simp [e0]
        refine CE.imp (Q := fun ex e ds H => ex = .exit 6 ∧ ds = [] ∧ LInv turns L rn k v nx vo outs L.length e H) ?_ ?_
        · refine CE.range (m := L.length) (LInv turns L rn k v nx vo outs) ?_ hl ?_ ?_ ?_
          · decide
          · refine ⟨by simp, by simp, nil0, ⟨⟨by simp [e0], by simp [e1], by simp [e6], by simp [e11], by simp [e12], by simp [e13], row, nxl, seq, acc, apart⟩, by simp, by simp, ?_, ?_, ?_⟩⟩
            · simp [nzW]
              exact Acc.nil
            · intro r n c hh; cases hh
            · intro r n c _ r n c hh; cases hh
          · rintro j e H4 hj h1 h2 ⟨vl, ⟨e0, e1, e6, e11, e12, e13, row, nxl, seq, acc, apart⟩, e57, e14, accl, a1, a2⟩
            have hjn : j < nx.length := by omega
            simp [h1, h2, e0, e1, e6, e11, e12, e13, e14, e57]
            refine WP.draw0 (by decide +kernel) (by decide +kernel) ?_
            simp [h1, h2, e0, e1, e6, e11, e12, e13, e14, e57, row, hj, hjn]
            refine gIf_dec (fun hb => ?_) (fun hb => ?_)
            · have hstep := nz_step nxl hj
              rw [if_pos hb] at hstep
              have hP : (pushObj H4 (.cells #[.int .i64 j] 3 (0, 0))).heap.size = H4.heap.size + 1 := by simp
              have hrnlt := getO_lt row
              have hnl : (nzW 0 ((remW (lists L) nx).take j)).length ≤ L.length := by
                rw [nzW_length]
                refine Nat.le_trans (List.length_filter_le _ _) ?_
                have : (lists L).length = L.length := by simp [lists]
                simp [remW, nxl, this]
                omega
              obtain ⟨vl', H5, e1', accl', keepO, hsz, hap⟩ := Acc.append Try.prog (t1 := 23) (t2 := 23) (Acc.push accl (.cells #[.int .i64 j] 3 (0, 0))) Try.underlying23 (by simp) info3 zero3 rfl rfl (by decide) (by decide) (by decide)
                (SrcX.row (r := H4.heap.size) (n := 1) (c := 1) (cs := [.int .i64 j]) (e := 3) (fr := (0, 0)) (by simp) rfl) rfl (by simp) (by simp [bytes3]; omega)
              simp [h1, h2, e14, buildSliceX, inOrder, catCells, szO, e1']
              have row' := keepO rn _ (by rw [get_push, if_neg (by omega)]; exact row) a1
              have acc' : AccP H5 vo outs := Acc.keep (u := vl) (Acc.push acc (.cells #[.int .i64 j] 3 (0, 0))) keepO a2
              refine ⟨vl', ⟨by simpa using e0, by simpa using e1, by simpa using e6, by simpa using e11, by simpa using e12, by simpa using e13, row', nxl, seq, acc', apart⟩, by simpa using e57, by simp, ?_, hap rn a1 (by omega), ?_⟩
              · unfold AccI
                rw [hstep, List.map_append, List.length_append]
                exact accl'
              · intro r n c hvo'
                exact hap r (a2 r n c hvo') (by have := Acc.row_lt acc hvo'; omega)
            · have hstep := nz_step nxl hj
              rw [if_neg hb, List.append_nil] at hstep
              simp [h1, h2]
              refine ⟨vl, ⟨by simpa using e0, by simpa using e1, by simpa using e6, by simpa using e11, by simpa using e12, by simpa using e13, row, nxl, seq, acc, apart⟩, by simpa using e57, by simpa using e14, ?_, a1, a2⟩
              rw [hstep]; exact accl
          · rintro e H4 h1 h2 ⟨vl, ⟨e0, e1, e6, e11, e12, e13, row, nxl, seq, acc, apart⟩, e57, e14, accl, a1, a2⟩
            exact ⟨rfl, rfl, vl, ⟨by simpa using e0, by simpa using e1, by simpa using e6, by simpa using e11, by simpa using e12, by simpa using e13, row, nxl, seq, acc, apart⟩, by simpa using e57, by simpa using e14, accl, a1, a2⟩
        · rintro ex e1 ds1 H4 ⟨rfl, rfl, vl, ⟨e0, e1, e6, e11, e12, e13, row, nxl, seq, acc, apart⟩, e57, e14, accl, a1, a2⟩
          have hll : (lists L).length = L.length := by simp [lists]
          have hrl : (remW (lists L) nx).length = L.length := by rw [remW_length (by omega), hll]
          rw [List.take_of_length_le (by omega)] at accl
          have hsn : (seqW (turns.getD []) (lists L) k).1 ≠ [] := fun h => by rw [h, hout] at hlen; simp at hlen; omega
          have hnl : (nzW 0 (remW (lists L) nx)).length = (seqW (turns.getD []) (lists L) k).1.length := by rw [nzW_length, hrem]
          have hnpos : 0 < (nzW 0 (remW (lists L) nx)).length := by rw [hnl]; exact List.length_pos_iff.2 hsn
          obtain ⟨rl, rfl, hrl2⟩ := Acc.pos accl hnpos
          have hsq := seqW_next _ _ hsn
          have hix : idxW (turns.getD []) k (nzW 0 (remW (lists L) nx)).length < (nzW 0 (remW (lists L) nx)).length := idxW_lt hnpos
          rw [← hnl] at hsq
          generalize hnz : nzW 0 (remW (lists L) nx) = nz at *
          obtain ⟨m, hm⟩ : ∃ m, nz[idxW (turns.getD []) k nz.length]? = some m := ⟨_, List.getElem?_eq_getElem hix⟩
          have hm' := hm
          rw [← hnz] at hm
          rw [hnz] at hm
          obtain ⟨d, x, hd1, hd2, hd3, hd4⟩ := nzW_get (remW (lists L) nx) 0 (idxW (turns.getD []) k nz.length) m (by rw [hnz]; exact hm)
          simp [e14, hrl2, hnpos, e13, e1]
          have hdL : d < L.length := by
            rw [← hrl]
            exact (List.getElem?_eq_some_iff.1 hd2).1
          have hdn : d < nx.length := by omega
          have hx0 : x ≠ [] := neL_ne (List.mem_of_getElem? hd3)
          have hxd : x = (L[d].getD []).drop nx[d] := by
            have := remW_get (L := lists L) (nx := nx) (by omega) (k := d) (by omega)
            rw [hd2] at this
            injection this with this
            rw [this]; simp [lists]
          obtain ⟨p, t, rfl⟩ : ∃ p t, x = p :: t := by
            cases x with
            | nil => exact absurd rfl hx0
            | cons p t => exact ⟨p, t, rfl⟩
          have hlt : nx[d] < (L[d].getD []).length := by
            rcases Nat.lt_or_ge nx[d] (L[d].getD []).length with h | h
            · exact h
            · rw [List.drop_eq_nil_of_le h] at hxd; cases hxd
          have hcons := List.drop_eq_getElem_cons hlt
          rw [hcons] at hxd
          injection hxd with hp ht2
          have hbig : (L[d].getD []).length ≤ 2 ^ 20 := by
            have h1 := total_take hdL
            have h2 := total_le (L := L) (d + 1)
            omega
          have hkc : outs.length = k := by rw [← hout]; exact seqW_count _ _ k hsn
          have hwk : IntKind.i64.wrap ((k : Int) + 1) = ((k + 1 : Nat) : Int) := by rw [wrap64 (by omega) (by omega)]; omega
          have hwn : IntKind.i64.wrap ((nx[d] : Int) + 1) = ((nx[d] + 1 : Nat) : Int) := by rw [wrap64 (by omega) (by omega)]; omega
          have hm0 : m = d := by omega
          have hdn1 : d + 1 ≤ nx.length := hdn
          subst hm0
          have hll2 : (lists L)[m]'(by omega) = L[m].getD [] := by simp [lists]
          have hseq1 : seqW (turns.getD []) (lists L) (k + 1) = (neL (remW (lists L) (nx.set m (nx[m] + 1))), outs ++ [p]) := by
            rw [hsq, seq]
            unfold nextW
            simp only [hd3]
            rw [← hd4, remW_set (by omega) (by omega), hll2, ht2]
          have hdec : (seqW (turns.getD []) (lists L) (k + 1)).1.flatten.length < ((seqW (turns.getD []) (lists L) k).1.map List.length).sum := by
            have e2 := seqW_len (turns.getD []) (lists L) (k + 1)
            have e3 : (seqW (turns.getD []) (lists L) (k + 1)).2.length = outs.length + 1 := by rw [hseq1]; simp
            rw [hout] at hlen
            simp only [List.length_flatten] at hlen e2 ⊢
            omega
          have hP : (pushObj H4 (.cells #[.int .i64 p.id, .int .i64 p.place, .bool p.more, .string (sB p.body)] 33 (0, 0))).heap.size = H4.heap.size + 1 := by simp
          obtain ⟨vo', H5, e1', acc', keepO, hsz, hap⟩ := Acc.append Try.prog (t1 := 24) (t2 := 24) (Acc.push acc (.cells #[.int .i64 p.id, .int .i64 p.place, .bool p.more, .string (sB p.body)] 33 (0, 0))) Try.underlying24 (by simp) info33 zero33 rfl rfl (by decide) (by decide) (by decide)
            (SrcX.row (r := H4.heap.size) (n := 1) (c := 1) (cs := [.int .i64 p.id, .int .i64 p.place, .bool p.more, .string (sB p.body)]) (e := 33) (fr := (0, 0)) (by simp) rfl) rfl (by simp) (by simp [bytes33]; omega)
          have hrnlt := getO_lt row
          have row' := keepO rn _ (by rw [get_push, if_neg (by omega)]; exact row) apart
          have rnlt5 := getO_lt row'
          have apart' := hap rn apart (by omega)
          have hvq := Acc.veq acc
          refine gIf_dec (fun hkt => ?_) (fun hkt => ?_)
          · have hnn : 0 ≤ (turns.getD [])[k] := h7 k hkt hkt
            have hmod : (turns.getD [])[k].tmod (nz.length : Int) = ((idxW (turns.getD []) k nz.length : Nat) : Int) := by
              unfold idxW
              rw [List.getElem?_eq_getElem hkt]
              simp only
              obtain ⟨m, hm⟩ : ∃ m : Nat, (turns.getD [])[k] = (m : Int) := ⟨_, (Int.toNat_of_nonneg hnn).symm⟩
              rw [hm]
              simp [Int.tmod]
            have hmg := (List.getElem?_eq_some_iff.1 hm').2
            have hnz0 : ¬ nz = [] := fun h => by rw [h] at hnpos; simp at hnpos
            simp [e14, hrl2, hnpos, e13, e1, hkt, hmod, hix, hnz0, hmg]
            refine WP.drawP [(0, 12)] (by decide +kernel) (by decide +kernel) ?_
            simp [e0, e11, e12, hdL, row, hdn, hlt, ← hp, buildSliceX, inOrder, catCells, szO, e1']
            refine ⟨Checks.cons rfl rfl rfl ?_ .nil, ?_⟩
            · unfold reV
              simp [hvq, e12]
            simp [e0, e1, e6, e11, e12, e13, hdL, row', hdn, hdn1, hwn, hwk, rnlt5]
            refine ⟨_, ?_, k + 1, nx.set m (nx[m] + 1), vo', outs ++ [p], rfl, by simpa using e0, by simpa using e1, by simpa using e6, by simpa using e11, by simp, by simp, ?_, by simpa using nxl, ?_, ?_, apart'⟩
            · exact hdec
            · simp [rnlt5]
            · exact hseq1
            · unfold AccP
              rw [List.map_append, List.flatMap_append, List.length_append]
              exact Acc.set acc' _ apart'
          · have hi0 : idxW (turns.getD []) k nz.length = 0 := by
              unfold idxW
              rw [List.getElem?_eq_none (by omega)]
            have hmg : nz[0] = m := by
              rw [hi0] at hm'
              exact (List.getElem?_eq_some_iff.1 hm').2
            simp [hmg]
            refine WP.drawP [(0, 12)] (by decide +kernel) (by decide +kernel) ?_
            simp [e0, e11, e12, hdL, row, hdn, hlt, ← hp, buildSliceX, inOrder, catCells, szO, e1']
            refine ⟨Checks.cons rfl rfl rfl ?_ .nil, ?_⟩
            · unfold reV
              simp [hvq, e12]
            simp [e0, e1, e6, e11, e12, e13, hdL, row', hdn, hdn1, hwn, hwk, rnlt5]
            refine ⟨_, ?_, k + 1, nx.set m (nx[m] + 1), vo', outs ++ [p], rfl, by simpa using e0, by simpa using e1, by simpa using e6, by simpa using e11, by simp, by simp, ?_, by simpa using nxl, ?_, ?_, apart'⟩
            · exact hdec
            · simp [rnlt5]
            · exact hseq1
            · unfold AccP
              rw [List.map_append, List.flatMap_append, List.length_append]
              exact Acc.set acc' _ apart'
      · have hs0 : (seqW (turns.getD []) (lists L) k).1 = [] := by
          cases hc : (seqW (turns.getD []) (lists L) k).1 with
          | nil => rfl
          | cons x t =>
            have hx := seqW_ne (turns.getD []) (lists L) k x (by rw [hc]; exact List.mem_cons_self)
            rw [hc, hout] at hlen
            simp only [List.flatten_cons, List.length_append] at hlen
            have : 0 < x.length := List.length_pos_iff.2 hx
            omega
        have hw := weaveW_eq (turns.getD []) (lists L) hs0
        have hst := Acc.strip_agg (P := Try.prog) (d := 10) (xs := outs) (enc := encP) acc Try.underlying33 (by simp) info33 rfl (by decide) encP_ten
        simp [e12]
        rw [hw, hst, hout]
        unfold opt
        by_cases hz : outs = []
        · simp [hz]
        · simp only [if_neg hz]; rfl
end Go.Proofs.Ytlpoejkleopdoaa
end
