/- Helpers of this claim: an evaluator over plain values and its laws. -/
import Derived.Test.YtmmmdmandocbhaaPu
section
set_option linter.unusedVariables false
set_option linter.unusedSimpArgs false
namespace Go.Proofs.Ytmmmdmandocbhaa
open Go Go.Proofs.Ytmmmdmandocbhaa.Den
/-- A row of packets stands apart from a network. -/
structure Sp3 (v : Value) (b : Nat) (vn vf : Value) : Prop where
  b : Apart v b
  n : ∀ r o m c, vn = .slice (some ⟨r, o, none⟩) m c → Apart v r
  f : ∀ r o m c, vf = .slice (some ⟨r, o, none⟩) m c → Apart v r
theorem Sp3.nil {b : Nat} {vn vf : Value} : Sp3 (.slice none 0 0) b vn vf := ⟨fun r n c e => by (cases e), fun _ _ _ _ _ r n c e => by (cases e), fun _ _ _ _ _ r n c e => by (cases e)⟩
section
variable {H H' : World} {b T : Nat} {n : NN} {vn vf vf' v v' w : Value} {xs ys : List Fl}
theorem Sp3.row (s : Sp3 v b vn vf) {r m c : Nat} (e : v = .slice (some ⟨r, 0, none⟩) m c) : r ≠ b ∧ ApO vn r ∧ ApO vf r :=
  ⟨fun h => s.b r m c e h.symm, fun r' o' m' c' e' h => s.n r' o' m' c' e' r m c e h.symm, fun r' o' m' c' e' h => s.f r' o' m' c' e' r m c e h.symm⟩
theorem accp_fr (h : AccP H v xs) (f : FrN H H' b vf vf') (s : Sp3 v b vn vf) : AccP H' v xs ∧ Sp3 v b vn vf' := by
  obtain ⟨h1, h2⟩ := h
  rcases h2 with ⟨rfl, h0⟩ | ⟨r, rfl, hp, hr⟩
  · exact ⟨⟨h1, .inl ⟨rfl, h0⟩⟩, .nil⟩
  · obtain ⟨a1, a2, a3⟩ := s.row rfl
    refine ⟨⟨h1, .inr ⟨r, rfl, hp, f.keep _ _ hr a1 a3⟩⟩, s.b, s.n, fun r' o m c e r2 n2 c2 e2 => ?_⟩
    cases e2
    exact fun h => f.fresh r (getO_lt hr) a1 a3 _ _ _ _ e h.symm
/-- What appending to one row leaves. -/
structure App (H H' : World) (v v' : Value) : Prop where
  keep : ∀ i o, getO H i = some o → Apart v i → getO H' i = some o
  size : H.heap.size ≤ H'.heap.size
  fresh : ∀ i, Apart v i → i < H.heap.size → Apart v' i
theorem App.nst (a : App H H' v v') (st : NSt H b n vn vf) (s : Sp3 v b vn vf) : NSt H' b n vn vf ∧ Sp3 v' b vn vf := by
  refine ⟨st.keepR (fun o h => a.keep _ _ h s.b) (fun r o m c e x hx => a.keep _ _ hx (s.n _ _ _ _ e)) (fun r o m c e x hx => a.keep _ _ hx (s.f _ _ _ _ e)), a.fresh _ s.b (getO_lt st.net), fun r o m c e => ?_, fun r o m c e => ?_⟩
  · rcases st.nums with ⟨e2, _⟩ | ⟨r', c', fr, e2, hr⟩
    · rw [e2] at e; cases e
    · rw [e2] at e; cases e
      exact a.fresh _ (s.n _ _ _ _ e2) (getO_lt hr)
  · rcases st.fl with ⟨e2, _⟩ | ⟨r', pre, e2, hr⟩
    · rw [e2] at e; cases e
    · rw [e2] at e; cases e
      exact a.fresh _ (s.f _ _ _ _ e2) (getO_lt hr)
/-- Two rows of packets stand apart. -/
def Two (v w : Value) : Prop := ∀ r n c, v = .slice (some ⟨r, 0, none⟩) n c → Apart w r
theorem Two.nil_l : Two (.slice none 0 0) w := fun r n c e => by cases e
theorem Two.nil_r : Two v (.slice none 0 0) := fun _ _ _ _ r n c e => by cases e
theorem Two.symm (h : Two v w) : Two w v := fun r n c e r' n' c' e' h' => h _ _ _ e' _ _ _ e h'.symm
theorem App.acc (a : App H H' v v') (hw : AccP H w ys) (t : Two w v) : AccP H' w ys ∧ Two w v' := by
  obtain ⟨h1, h2⟩ := hw
  rcases h2 with ⟨rfl, h0⟩ | ⟨r, rfl, hp, hr⟩
  · exact ⟨⟨h1, .inl ⟨rfl, h0⟩⟩, .nil_l⟩
  · refine ⟨⟨h1, .inr ⟨r, rfl, hp, a.keep _ _ hr (t _ _ _ rfl)⟩⟩, fun r' n' c' e => ?_⟩
    cases e
    exact a.fresh _ (t _ _ _ rfl) (getO_lt hr)
/-- A row that is new stands apart from what was there. -/
theorem Sp3.new (st : NSt H b n vn vf) (h : ∀ j, j < H.heap.size → ApO v j) (hf : ∀ j, ApO vf j → ApO vf' j) : Sp3 v b vn vf' := by
  have ap : ∀ j, j < H.heap.size → Apart v j := fun j hj r n c e => h j hj r 0 n c e
  refine ⟨ap _ (getO_lt st.net), fun r o m' c e => ?_, fun r o m' c e r2 n2 c2 e2 h2 => ?_⟩
  · rcases st.nums with ⟨e2, _⟩ | ⟨r', c', fr, e2, hr⟩
    · rw [e2] at e; cases e
    · rw [e2] at e; cases e; exact ap _ (getO_lt hr)
  · have hr2 : H.heap.size ≤ r2 := by
      refine Classical.byContradiction fun hc => ?_
      exact ap r2 (by omega) _ _ _ e2 rfl
    exact hf r2 (st.fresh hr2).2.2 _ _ _ _ e h2.symm
end
/-- The state of the law's loop. -/
structure LI (hosts : Int) (k : Nat) (H : World) (b : Nat) (n : NN) (vn vf vw vg : Value) (got : List Fl) : Prop where
  st : NSt H b n vn vf
  iv : Inv n k
  pl : PlainN n
  now : n.now ≤ k
  hosts : n.hosts = hosts
  w : AccP H vw (got ++ n.fl)
  g : AccP H vg got
  gt : ∀ f ∈ got, f.time ≤ n.now
  arr : n.arr = got.length
  len : got.length + n.fl.length ≤ k
  sw : Sp3 vw b vn vf
  sg : Sp3 vg b vn vf
  two : Two vw vg
end Go.Proofs.Ytmmmdmandocbhaa
end
