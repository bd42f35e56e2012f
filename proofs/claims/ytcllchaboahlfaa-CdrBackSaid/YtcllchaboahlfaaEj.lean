/- Helpers of this claim: an evaluator over plain values and its laws. -/
import Derived.Test.YtcllchaboahlfaaEi
section
set_option linter.unusedVariables false
set_option linter.unusedSimpArgs false
namespace Go.Proofs.Ytcllchaboahlfaa
open Go Go.Proofs.Ytcllchaboahlfaa.Den
abbrev acts (o : Option (List Ac)) : Value := slV 4 (o.map (List.map encA))
theorem plainActs (o : Option (List Ac)) : plain deep (acts o) = true := plain_of (d := 2) (plain_slMap plainA o) (by decide)
def sumA (l : List Ac) : Int := l.foldl (fun n a => IntKind.i64.wrap (n + a.s.length)) 0
theorem sumA_take {l : List Ac} {k : Nat} (hk : k < l.length) : sumA (l.take (k + 1)) = IntKind.i64.wrap (sumA (l.take k) + l[k].s.length) := by
  unfold sumA
  rw [List.take_succ_eq_append_getElem hk, List.foldl_append]
  rfl
def lightW (l : List Ac) : Bool := decide (l.length ≤ 60) && decide (sumA l ≤ 300000)
set_option maxRecDepth 100000 in
theorem light9 (o : Option (List Ac)) (hl : (o.getD []).length < 2 ^ 63) (H : World) (Q : Value → World → Prop) : FW X 9 #[acts o] H Q = Q (.bool (lightW (o.getD []))) H := by
  refine FW.aloneEq ?_ Try.func9 Try.ntmps9 rfl (by simp) ?_ H Q
  · simp [X, plainActs]
  simp
  refine CE.range (m := (o.getD []).length) (fun k e H => lk e 3 = .int .i64 (sumA ((o.getD []).take k)) ∧ lk e 0 = acts o ∧ lk e 6 = acts o) ?_ hl ?_ ?_ ?_
  · decide
  · simp [sumA]
  · intro k e H hk h1 h2 ⟨h3, h4, h5⟩
    simp [h1, h2, h3, h4, h5, hk, allocX, sumA_take]
  · intro e H h1 h2 ⟨h3, h4, h5⟩
    simp [h1, h2, h3, h4, h5]
    by_cases h : (o.getD []).length ≤ 60
    · have h' : ((o.getD []).length : Int) ≤ 60 := by omega
      simp [h', h, h3, lightW]
    · have h' : ¬ ((o.getD []).length : Int) ≤ 60 := by omega
      simp [h', h, lightW]
/-- What light says, where no text is longer than a process can hold. -/
theorem light_s {l : List Ac} (h : lightW l = true) (hs : ∀ a ∈ l, a.s.length ≤ 140737488351232) : l.length ≤ 60 ∧ ∀ a ∈ l, a.s.length ≤ 300000 := by
  simp only [lightW, Bool.and_eq_true, decide_eq_true_eq] at h
  obtain ⟨h1, h2⟩ := h
  have key : ∀ k, k ≤ l.length → 0 ≤ sumA (l.take k) ∧ sumA (l.take k) ≤ k * 140737488351232 ∧ ∀ j (hj : j < l.length), j < k → (l[j].s.length : Int) ≤ sumA (l.take k) := by
    intro k
    induction k with
    | zero => intro _; exact ⟨by simp [sumA], by simp [sumA], fun j _ h => absurd h (by omega)⟩
    | succ k ih =>
      intro hk
      obtain ⟨i1, i2, i3⟩ := ih (by omega)
      have hlk := hs _ (List.getElem_mem (show k < l.length by omega))
      rw [sumA_take (by omega), wrap64 (by omega) (by omega)]
      refine ⟨by omega, by omega, fun j hj hjk => ?_⟩
      by_cases e : j = k
      · subst e; omega
      · have := i3 j hj (by omega); omega
  obtain ⟨k1, k2, k3⟩ := key l.length (Nat.le_refl _)
  rw [List.take_length] at k1 k2 k3
  refine ⟨h1, fun a ha => ?_⟩
  obtain ⟨j, hj, rfl⟩ := List.getElem_of_mem ha
  have := k3 j hj hj
  omega
/-! ### two writers -/
structure TwoW (H : World) (wb vb : Nat) (big : Bool) (at' : Int) (o1 o2 : List UInt8) (v u : Value) : Prop where
  w : WSt H 64 wb big at' o1 v
  r : WSt H 67 vb big at' o2 u
  ne : wb ≠ vb
  a1 : Apart v vb
  a2 : Apart u wb
  vu : ApV v u
section
variable {H H' : World} {wb vb : Nat} {big : Bool} {at' : Int} {o1 o2 o' : List UInt8} {v u v' : Value}
theorem TwoW.push (st : TwoW H wb vb big at' o1 o2 v u) (o : Obj) : TwoW (pushObj H o) wb vb big at' o1 o2 v u := ⟨st.w.push o, st.r.push o, st.ne, st.a1, st.a2, st.vu⟩
theorem WSt.other {t t' : TypeId} {big2 : Bool} {at2 : Int} (st : WSt H t vb big2 at2 o2 u) (fr : FrW H H' wb v v') (ne : wb ≠ vb) (a1 : Apart v vb) (a2 : Apart u wb) (vu : ApV v u) : WSt H' t vb big2 at2 o2 u := by
  refine ⟨fr.keep _ _ st.hw ne.symm a1, ?_, st.ap, st.at0, st.at7, st.len⟩
  obtain ⟨h1, ⟨h2, h3⟩ | ⟨r, h2, h3, h4⟩⟩ := st.hv
  · exact ⟨h1, .inl ⟨h2, h3⟩⟩
  · exact ⟨h1, .inr ⟨r, h2, h3, fr.keep r _ h4 (fun e => a2 r _ _ h2 e.symm) (vu r _ _ h2)⟩⟩
theorem TwoW.left (st : TwoW H wb vb big at' o1 o2 v u) (w' : WSt H' 64 wb big at' o' v') (fr : FrW H H' wb v v') : TwoW H' wb vb big at' o' o2 v' u := by
  refine ⟨w', WSt.other (t' := 64) st.r fr st.ne st.a1 st.a2 st.vu, st.ne, fr.apart _ (getO_lt st.r.hw) st.a1, st.a2, fun r n c h => ?_⟩
  exact fr.apart r (Acc.row_lt st.r.hv h) (st.vu r n c h)
theorem TwoW.right (st : TwoW H wb vb big at' o1 o2 v u) (r' : WSt H' 67 vb big at' o' v') (fr : FrW H H' vb u v') : TwoW H' wb vb big at' o1 o' v v' := by
  have uv := ApV.symm st.vu
  refine ⟨WSt.other (t' := 67) st.w fr st.ne.symm st.a2 st.a1 uv, r', st.ne, st.a1, fr.apart _ (getO_lt st.w.hw) st.a2, ApV.symm fun r n c h => ?_⟩
  exact fr.apart r (Acc.row_lt st.w.hv h) (uv r n c h)
end
set_option maxRecDepth 100000 in
theorem nilPut (a b : Int) (H : World) {Q : Value → World → Prop} (hq : ∀ H', (∀ i o, getO H i = some o → getO H' i = some o) → Q (.int .i64 1) H') : FW X 20 #[.pointer none, .int .i64 a, .int .i64 b] H Q := by
  refine FW.walk (by simp [X]) Try.func20 Try.ntmps20 rfl (by simp) ?_
  have e : ∀ n : Nat, ¬ n = n + 1 + 1 := fun n => by omega
  simp [szO, wnil_nil, e]
  refine hq _ fun i o hi => ?_
  have := getO_lt hi
  simp only [get_push, size_push]
  rw [if_neg (by omega), if_neg (by omega), if_neg (by omega)]; exact hi
set_option maxRecDepth 100000 in
theorem nilOctet (a : Int) (H : World) (Q : Value → World → Prop) : FW X 19 #[.pointer none, .int .i64 a] H Q = Q (.int .i64 1) H := by
  refine FW.eqE (by simp [X]) Try.func19 Try.ntmps19 rfl (by simp) ?_ Q
  simp [wnil_nil]
set_option maxRecDepth 100000 in
theorem nilPlace (H : World) (Q : Value → World → Prop) : FW X 15 #[.pointer none] H Q = Q (.int .i64 0) H := by
  refine FW.eqE (by simp [X]) Try.func15 Try.ntmps15 rfl (by simp) ?_ Q
  simp [wnil_nil]
set_option maxRecDepth 100000 in
theorem nilAll (H : World) (Q : Value → World → Prop) : FW X 17 #[.pointer none] H Q = Q (.string (sB [])) H := by
  refine FW.eqE (by simp [X]) Try.func17 Try.ntmps17 rfl (by simp) ?_ Q
  simp [wnil_nil]
theorem actW_len {at' : Int} {big : Bool} {out : List UInt8} (a : Ac) (h : out.length ≤ 65536) : True := trivial
end Go.Proofs.Ytcllchaboahlfaa
end
