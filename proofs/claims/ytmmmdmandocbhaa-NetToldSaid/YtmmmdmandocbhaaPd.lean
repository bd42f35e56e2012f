/- Helpers of this claim: an evaluator over plain values and its laws. -/
import Derived.Test.YtmmmdmandocbhaaPc
section
set_option linter.unusedVariables false
set_option linter.unusedSimpArgs false
namespace Go.Proofs.Ytmmmdmandocbhaa
open Go Go.Proofs.Ytmmmdmandocbhaa.Den
/-- The next number, and the network behind it. -/
def pNum (n : NN) : Int × NN := match n.nums[n.used.toNat]? with
  | some k => (k, { n with used := n.used + 1 })
  | none => (0, n)
structure Used (n : NN) : Prop where
  lo : 0 ≤ n.used
  hi : n.used ≤ n.nums.length
  len : n.nums.length ≤ 10010
set_option maxRecDepth 100000 in
theorem number45 {H : World} {b : Nat} {n : NN} {vn vf : Value} (st : NSt H b n vn vf) (hu : Used n) {Q : Value → World → Prop}
    (hq : ∀ H', NSt H' b (pNum n).2 vn vf → FrN H H' b vf vf → Q (.int .i64 (pNum n).1) H') : FW X 45 #[p0 b] H Q := by
  refine FW.walk (by simp [X, sp17_no]) Try.func45 Try.ntmps45 rfl (by simp) ?_
  have h := st.net
  have hl := fun H0 => st.nums.len (H0 := H0)
  obtain ⟨l1, l2, l3⟩ := hu
  simp
  refine WP.draw0 (by decide +kernel) (by decide +kernel) ?_
  by_cases he : n.used = n.nums.length
  · have e : n.nums[n.used.toNat]? = none := by rw [List.getElem?_eq_none]; omega
    have hp : pNum n = (0, n) := by unfold pNum; rw [e]
    rw [hp] at hq
    simp [h, hl, he]
    exact hq _ st FrN.refl
  · have hlt : n.used.toNat < n.nums.length := by omega
    have e : n.nums[n.used.toNat]? = some n.nums[n.used.toNat] := List.getElem?_eq_getElem hlt
    have hp : pNum n = (n.nums[n.used.toNat], { n with used := n.used + 1 }) := by unfold pNum; rw [e]
    rw [hp] at hq
    have hw : IntKind.i64.wrap (n.used + 1) = n.used + 1 := wrap64 (by omega) (by omega)
    have hw2 : IntKind.i64.wrap n.used = n.used := wrap64 (by omega) (by omega)
    have st2 := st.write { n with used := n.used + 1 } ⟨st.wf.links, st.wf.sides, st.wf.down⟩ rfl rfl
    have hb := getO_lt h
    have hz : 7 ≤ (cellsN n vn vf).length := cN_le st.wf (by decide)
    simp [h, hl, he, hb, hw, hz]
    have g2 := st2.net
    generalize hH2 : setO H b (netO { n with used := n.used + 1 } vn vf) = H2 at *
    refine WP.draw0 (by decide +kernel) (by decide +kernel) ?_
    rcases st2.nums with ⟨_, h0⟩ | ⟨r, c, fr, rfl, hr⟩
    · simp at h0; rw [h0] at hlt; simp at hlt
    simp at hr
    have hlt2 : n.used < n.nums.length := by omega
    simp [g2, hw2, idxS, l1, hlt2, hr, e]
    refine hq _ st2 ?_
    rw [← hH2]; exact FrN.setB _
theorem new40 (H : World) (i : Int) (Q : Value → World → Prop) : FW X 40 #[.int .i64 i] H Q = Q (.bool (decide (i < 0))) H := by
  refine FW.aloneEq ?_ Try.func40 Try.ntmps40 rfl (by simp) ?_ H Q
  · simp [X, plainDI]
  simp
theorem plainLk1 (x : Lk) : plain 1 (encLk x) = true := by simp [plain, constOk1]
theorem plainLk (x : Lk) : plain deep (encLk x) = true := plain_of (d := 1) (plainLk1 x) (by decide)
def vLink (l : Lk) : Bool := decide (0 ≤ l.delay ∧ l.delay ≤ 1000 ∧ 0 ≤ l.jitter ∧ l.jitter ≤ 1000 ∧ 0 ≤ l.loss ∧ l.loss ≤ 100 ∧ 0 ≤ l.dbl ∧ l.dbl ≤ 100)
set_option maxRecDepth 100000 in
theorem valid19 (H : World) (l : Lk) (Q : Value → World → Prop) : FW X 19 #[encLk l] H Q = Q (.bool (vLink l)) H := by
  refine FW.aloneEq ?_ Try.func19 Try.ntmps19 rfl (by simp) ?_ H Q
  · simp only [X, plainLk]; simp [plainLk]
  by_cases h0 : 0 ≤ l.delay
  rotate_left
  · simp [vLink, h0]
  by_cases h1 : l.delay ≤ 1000
  rotate_left
  · simp [vLink, h0, h1]
  by_cases h2 : 0 ≤ l.jitter
  rotate_left
  · simp [vLink, h0, h1, h2]
  by_cases h3 : l.jitter ≤ 1000
  rotate_left
  · simp [vLink, h0, h1, h2, h3]
  by_cases h4 : 0 ≤ l.loss
  rotate_left
  · simp [vLink, h0, h1, h2, h3, h4]
  by_cases h5 : l.loss ≤ 100
  rotate_left
  · simp [vLink, h0, h1, h2, h3, h4, h5]
  by_cases h6 : 0 ≤ l.dbl
  rotate_left
  · simp [vLink, h0, h1, h2, h3, h4, h5, h6]
  by_cases h7 : l.dbl ≤ 100
  rotate_left
  · simp [vLink, h0, h1, h2, h3, h4, h5, h6, h7]
  simp [vLink, h0, h1, h2, h3, h4, h5, h6, h7]
set_option maxRecDepth 100000 in
theorem has59 {H : World} {b c : Nat} {n : NN} {vn vf : Value} (hn : getO H b = some (netO n vn vf)) (hc : getO H c = some (.cells #[p0 b] 25 (0, 0))) (i : Int) (Q : Value → World → Prop) : FW X 59 #[.int .i64 i, p0 c] H Q = Q (.bool (decide (i < 0 ∨ n.hosts ≤ i))) H := by
  refine FW.eqE (by simp [X, sp17_no]) Try.func59 Try.ntmps59 rfl (by simp) ?_ Q
  by_cases h : i < 0
  · simp [hc, hn, h]
  · by_cases h2 : n.hosts ≤ i
    · simp [hc, hn, h, h2]
    · simp [hc, hn, h, h2]
/-- A row of numbers that can be read. -/
structure Rd (H : World) (v : Value) (l : List Int) : Prop where
  len : ∀ H0, builtinX Try.prog .len #[29] #[v] H0 = some (.value (.int .i64 l.length), H0)
  get : ∀ i (h : i < l.length), ∃ a, indexAddrQ Try.prog 29 v (.int .i64 i) = some a ∧ loadX Try.prog 3 a H = some (.value (.int .i64 l[i]), H)
theorem Rd.row {H : World} {r c : Nat} {l : List Int} {e : TypeId} {fr : Nat × Nat} (h : getO H r = some (.cells (l.map (Value.int .i64)).toArray e fr)) : Rd H (.slice (some ⟨r, 0, none⟩) l.length c) l :=
  ⟨fun H0 => by simp, fun i hi => ⟨.pointer (some ⟨r, i, none⟩), by simp [idxS, hi], by simp [h, hi]⟩⟩
theorem Rd.slV {H : World} {o : Option (List Int)} : Rd H (slV 1 (o.map fun l => l.map (Value.int .i64))) (o.getD []) :=
  ⟨fun H0 => by cases o <;> simp, fun i hi => by
    cases o with
    | none => simp at hi
    | some l => simp at hi; exact ⟨rf #[.int .i64 l[i]], by simp [idxV, hi, Value.cells], by simp⟩⟩
def idxF (p : Int → Bool) (l : List Int) : Int := match l.findIdx? p with
  | some i => i
  | none => -1
theorem findIdx_none {p : Int → Bool} {l : List Int} (h : ∀ k (hk : k < l.length), p l[k] = false) : l.findIdx? p = none := by
  rw [List.findIdx?_eq_none_iff]
  intro x hx
  obtain ⟨k, hk, rfl⟩ := List.getElem_of_mem hx
  exact h k hk
theorem any_of_none {p : Int → Bool} {l : List Int} (h : ∀ k (hk : k < l.length), p l[k] = false) : l.any p = false := by
  rw [List.any_eq_false]
  intro x hx
  obtain ⟨k, hk, rfl⟩ := List.getElem_of_mem hx
  rw [h k hk]; simp
set_option maxRecDepth 100000 in
theorem index57 {H : World} {v : Value} {l : List Int} (hv : Rd H v l) (hl : l.length < 2 ^ 62) {g : Nat} {cs : List Value} {p : Int → Bool} (hg : isFn Try.prog g = true) (hf : ∀ x Q, FW X g (#[.int .i64 x] ++ cs.toArray) H Q = Q (.bool (p x)) H) {Q : Value → World → Prop}
    (hq : ∀ i : Int, (decide (0 ≤ i)) = l.any p → Q (.int .i64 i) H) : FW X 57 #[v, .func (.func g) #[] cs.toArray] H Q := by
  refine FW.walk (by simp [X, sp17_no]) Try.func57 Try.ntmps57 rfl (by simp) ?_
  have hlen := hv.len
  simp [hlen]
  refine CE.range (m := l.length) (fun k e H' => H' = H ∧ lk e 0 = v ∧ lk e 1 = .func (.func g) #[] cs.toArray ∧ ∀ j (hj : j < l.length), j < k → p l[j] = false) ?_ (by omega) ?_ ?_ ?_
  · decide
  · simp
  · rintro k e H' hk q1 q2 ⟨rfl, e0, e1, hno⟩
    obtain ⟨a, a1, a2⟩ := hv.get k hk
    have hf1 := fun Q => hf l[k] Q
    simp at hf1
    cases hp : p l[k] with
    | true =>
      simp [q1, q2, e0, e1, a1, a2, hf1, hp, hg]
      refine hq _ ?_
      simp
      exact ⟨_, List.getElem_mem hk, hp⟩
    | false =>
      simp [q1, q2, e0, e1, a1, a2, hf1, hp, hg]
      intro j hj hjk
      by_cases e : j = k
      · subst e; exact hp
      · exact hno j hj (by omega)
  · rintro e H' q1 q2 ⟨rfl, e0, e1, hno⟩
    simp
    refine hq _ ?_
    rw [any_of_none fun k hk => hno k hk hk]; decide
theorem contains39 {H : World} {v : Value} {l : List Int} (hv : Rd H v l) (hl : l.length < 2 ^ 62) {g : Nat} {cs : List Value} {p : Int → Bool} (hg : isFn Try.prog g = true) (hf : ∀ x Q, FW X g (#[.int .i64 x] ++ cs.toArray) H Q = Q (.bool (p x)) H) {Q : Value → World → Prop}
    (hq : Q (.bool (l.any p)) H) : FW X 39 #[v, .func (.func g) #[] cs.toArray] H Q := by
  refine FW.walk (by simp [X, sp17_no]) Try.func39 Try.ntmps39 rfl (by simp) ?_
  simp
  refine index57 hv hl hg hf fun i hi => ?_
  simp [hi]
  exact hq
theorem has43 {H : World} {b r : Nat} {n : NN} {vn vf : Value} (hn : getO H b = some (netO n vn vf)) {i j : Int} {e : TypeId} {fr : Nat × Nat} (hr : getO H r = some (.cells #[.int .i64 i, .int .i64 j] e fr)) {Q : Value → World → Prop}
    (hq : Q (.bool (decide (0 ≤ i ∧ i < n.hosts ∧ 0 ≤ j ∧ j < n.hosts))) (pushObj H (.cells #[p0 b] 25 (0, 0)))) : FW X 43 #[p0 b, .slice (some ⟨r, 0, none⟩) 2 2] H Q := by
  refine FW.walk (by simp [X, sp17_no]) Try.func43 Try.ntmps43 rfl (by simp) ?_
  have hrl := getO_lt hr
  have hbl := getO_lt hn
  simp
  refine contains39 (l := [i, j]) (cs := [p0 (szO H)]) (p := fun x => decide (x < 0 ∨ n.hosts ≤ x)) (Rd.row (e := e) (fr := fr) ?_) (by simp) (by simp) (fun x Q => has59 (b := b) (n := n) (vn := vn) (vf := vf) ?_ ?_ x Q) ?_
  · simp; rw [if_neg (by omega)]; exact hr
  · rw [get_push, if_neg (by omega)]; exact hn
  · simp
  have e : ([i, j].any fun x => decide (x < 0 ∨ n.hosts ≤ x)) = !decide (0 ≤ i ∧ i < n.hosts ∧ 0 ≤ j ∧ j < n.hosts) := by
    rw [Bool.eq_iff_iff]; simp; omega
  rw [e]
  generalize decide (0 ≤ i ∧ i < n.hosts ∧ 0 ≤ j ∧ j < n.hosts) = d at *
  simp
  exact hq
end Go.Proofs.Ytmmmdmandocbhaa
end
