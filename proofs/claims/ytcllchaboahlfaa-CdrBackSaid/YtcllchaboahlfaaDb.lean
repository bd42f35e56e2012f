/- Helpers of this claim: an evaluator over plain values and its laws. -/
import Derived.Test.YtcllchaboahlfaaDa
section
set_option linter.unusedVariables false
set_option linter.unusedSimpArgs false
namespace Go.Proofs.Ytcllchaboahlfaa
open Go Go.Proofs.Ytcllchaboahlfaa.Den
@[simp] theorem stepY {n : Nat} {dsts : List (Option Tmp)} {l : List Oper} {e : Env} {d : Option Tmp} {K : Env → World → Prop} {r : Nat} {args : Array Value} {H : World} : stepX X n dsts l e d (callX Try.prog (.func (.yield r) #[] #[]) args H) K = yieldW X r args H fun v H2 => OX X n dsts l (putE e d v) H2 K := stepX_yield'
abbrev u8V (b : UInt8) : Value := .int .u8 b.toNat
abbrev rowB (bs : List UInt8) (fr : Nat × Nat) : Obj := .cells (bs.map u8V).toArray 5 fr
abbrev sliceA (r off n c : Nat) : Value := .slice (some ⟨r, off, none⟩) n c
/-- A row where of a segment the first i and the last i have changed places. -/
def revSeg (bs : List UInt8) (off m i : Nat) : List UInt8 := (List.range bs.length).map fun k => if off ≤ k ∧ k < off + m ∧ (k < off + i ∨ off + m ≤ k + i) then bs.getD (2 * off + m - 1 - k) 0 else bs.getD k 0
@[simp] theorem revSeg_len (bs : List UInt8) (off m i : Nat) : (revSeg bs off m i).length = bs.length := by simp [revSeg]
theorem revSeg_get {bs : List UInt8} {off m i k : Nat} (hk : k < bs.length) : (revSeg bs off m i)[k]? = some (if off ≤ k ∧ k < off + m ∧ (k < off + i ∨ off + m ≤ k + i) then bs.getD (2 * off + m - 1 - k) 0 else bs.getD k 0) := by
  simp [revSeg, hk]
theorem revSeg_zero (bs : List UInt8) (off m : Nat) : revSeg bs off m 0 = bs := by
  apply List.ext_getElem?
  intro k
  by_cases hk : k < bs.length
  · rw [revSeg_get hk, if_neg (by omega), List.getD_eq_getElem?_getD, List.getElem?_eq_getElem hk]; rfl
  · rw [List.getElem?_eq_none (by simpa using hk), List.getElem?_eq_none (by simpa using hk)]
theorem revSeg_succ {bs : List UInt8} {off m i : Nat} (hm : off + m ≤ bs.length) (hi : 2 * i + 1 < m) :
    (((revSeg bs off m i).set (off + i) (bs.getD (off + m - 1 - i) 0)).set (off + m - 1 - i) (bs.getD (off + i) 0)) = revSeg bs off m (i + 1) := by
  apply List.ext_getElem?
  intro k
  by_cases hk : k < bs.length
  · rw [revSeg_get hk, List.getElem?_set, List.getElem?_set]
    simp only [revSeg_len, List.length_set]
    by_cases h1 : off + m - 1 - i = k
    · rw [if_pos h1, if_pos (by omega), if_pos (by omega)]
      congr 2; omega
    · rw [if_neg h1]
      by_cases h2 : off + i = k
      · rw [if_pos h2, if_pos (by omega), if_pos (by omega)]
        congr 2; omega
      · rw [if_neg h2, revSeg_get hk]
        congr 1
        by_cases h3 : off ≤ k ∧ k < off + m ∧ (k < off + i ∨ off + m ≤ k + i)
        · rw [if_pos h3, if_pos (by omega)]
        · rw [if_neg h3, if_neg (by omega)]
  · rw [List.getElem?_eq_none (by simpa using hk), List.getElem?_eq_none (by simpa using hk)]
theorem revSeg_old {bs : List UInt8} {off m i k : Nat} (hk : k < bs.length) (h : ¬ (off ≤ k ∧ k < off + m ∧ (k < off + i ∨ off + m ≤ k + i))) : (revSeg bs off m i)[k]'(by simpa using hk) = bs.getD k 0 := by
  have := revSeg_get (off := off) (m := m) (i := i) hk
  rw [List.getElem?_eq_getElem (by simpa using hk)] at this
  injection this with this
  rw [this, if_neg h]
/-- How far a reversal goes. -/
def revAll (bs : List UInt8) (off m : Nat) : List UInt8 := revSeg bs off m (m / 2)
set_option maxRecDepth 100000 in
theorem Reverse61 {r off m c : Nat} {bs : List UInt8} {fr : Nat × Nat} (hfr : mayW fr = true) (hm : off + m ≤ bs.length) (hb : bs.length < 2 ^ 62) (H : World) (hr : getO H r = some (rowB bs fr)) (Q : Value → World → Prop) : FW X 61 #[sliceA r off m c] H Q = Q (.tuple #[]) (setO H r (rowB (revAll bs off m) fr)) := by
  refine FW.eqE (by simp [X]) Try.func61 Try.ntmps61 rfl (by simp) ?_ Q
  have hw1 : IntKind.i64.wrap ((m : Int) - 1) = (m : Int) - 1 := wrap64' (by omega) (by omega)
  simp [hw1]
  refine CE.inv (fun d e H' => ∃ i : Nat, d = m - i ∧ i ≤ m / 2 ∧ lk e 0 = sliceA r off m c ∧ lk e 2 = .int .i64 i ∧ lk e 3 = .int .i64 ((m : Int) - 1 - i) ∧ H' = setO H r (rowB (revSeg bs off m i) fr)) ?_ ⟨0, rfl, by omega, by simp, by simp, by simp, by rw [revSeg_zero]; exact (set_same hr).symm⟩
  rintro d e H' ⟨i, rfl, hi, h0, h2, h3, rfl⟩
  have rlt := getO_lt hr
  simp [h0, h2, h3]
  refine gIf_dec (fun hc => ?_) (fun hc => ?_)
  · have h2i : 2 * i + 1 < m := by omega
    obtain ⟨j, hj⟩ : ∃ j : Nat, (m : Int) - 1 - i = (j : Int) := ⟨m - 1 - i, by omega⟩
    rw [hj] at h3
    have hlen : (revSeg bs off m i).length = bs.length := revSeg_len _ _ _ _
    have i1 : i < m := by omega
    have j1 : j < m := by omega
    have oi : off + i < bs.length := by omega
    have oj : off + j < bs.length := by omega
    have oi1 : off + i + 1 ≤ bs.length := oi
    have oj1 : off + j + 1 ≤ bs.length := oj
    have gi := revSeg_old (off := off) (m := m) (i := i) oi (by omega)
    have gj := revSeg_old (off := off) (m := m) (i := i) oj (by omega)
    simp [h0, h2, h3]
    refine WP.drawP [(2, 14), (3, 14)] (by decide +kernel) (by decide +kernel) ?_
    simp [h0, h2, h3, i1, j1, rlt, oi, oj, oi1, oj1, gi, gj, hfr, overL]
    refine ⟨Checks.cons rfl rfl rfl ?_ (Checks.cons rfl rfl rfl ?_ .nil), ?_⟩
    · unfold reV
      simp [h0, veq, veq2, Go.Proofs.Ytcllchaboahlfaa.Den.veq1]
    · unfold reV
      simp [h3, q_int]
    have w1 : IntKind.i64.wrap ((i : Int) + 1) = ((i + 1 : Nat) : Int) := by rw [wrap64 (by omega) (by omega)]; omega
    have w2 : IntKind.i64.wrap ((j : Int) - 1) = (j : Int) - 1 := wrap64' (by omega) (by omega)
    simp [h0, h2, h3, w1, w2]
    refine ⟨_, ?_, i + 1, rfl, by omega, by omega, by omega, ?_⟩
    · omega
    · have hjj : off + m - 1 - i = off + j := by omega
      rw [← revSeg_succ hm h2i, hjj, List.getD_eq_getElem?_getD, List.getD_eq_getElem?_getD, List.getElem?_eq_getElem oi, List.getElem?_eq_getElem oj]
      simp only [rowB, List.map_set, Option.getD_some]
  · simp
    have : i = m / 2 := by omega
    subst this
    rfl
/-! ### pieces -/
set_option maxRecDepth 100000 in
theorem Chunk60 (sv : Value) (n : Int) (hn : 1 ≤ n) (hs : sv.cells = #[sv]) (H : World) (Q : Value → World → Prop) : FW X 60 #[sv, .int .i64 n] H Q = Q (.func (.func 93) #[] #[p0 H.heap.size, p0 (H.heap.size + 1)]) (pushObj (pushObj H (.cells #[sv] 57 (0, 0))) (.cells #[.int .i64 n] 3 (0, 0))) := by
  refine FW.eqE (by simp [X]) Try.func60 Try.ntmps60 rfl (by simp) ?_ Q
  have hn1 : ¬ n < 1 := by omega
  simp [szO, hs, hn1]
theorem mod_step {m i L : Nat} (hm : 1 ≤ m) (hi : i % m = 0) (hL : L % m = 0) (h : i < L) : i + m ≤ L := by
  obtain ⟨a, rfl⟩ := Nat.dvd_of_mod_eq_zero hi
  obtain ⟨b, rfl⟩ := Nat.dvd_of_mod_eq_zero hL
  have : a < b := Nat.lt_of_mul_lt_mul_left h
  have := Nat.mul_le_mul_left m (show a + 1 ≤ b from this)
  rw [Nat.mul_add] at this; omega
set_option maxRecDepth 100000 in
theorem chunk93 {r1 r2 l r m c : Nat} {L : Nat} (hm : 1 ≤ m) (hL : L < 2 ^ 40) (hc : L ≤ c) (S : Nat → World → Prop)
    (hb : ∀ i H, S i H → getO H r1 = some (.cells #[sliceA r 0 L c] 57 (0, 0)) ∧ getO H r2 = some (.cells #[.int .i64 m] 3 (0, 0)) ∧ ∃ cs, getO H r = some (rowB cs (1, 0)))
    (hmod : L % m = 0) (hm2 : m ≤ 8)
    (hstep : ∀ i H, S i H → i + m ≤ L → yieldW X l #[sliceA r i m m] H fun v H' => v = .bool true ∧ S (i + m) H')
    (H : World) (h0 : S 0 H) : FW X 93 #[.func (.yield l) #[] #[], p0 r1, p0 r2] H fun v H' => S L H' := by
  refine FW.walk (by simp [X]) Try.func93 Try.ntmps93 rfl (by simp) ?_
  simp
  refine CE.inv (fun d e H => ∃ i, d = L - i ∧ S i H ∧ i ≤ L ∧ i % m = 0 ∧ lk e 0 = .func (.yield l) #[] #[] ∧ lk e 1 = p0 r1 ∧ lk e 2 = p0 r2 ∧ lk e 4 = .int .i64 i) ?_ ⟨0, rfl, h0, by omega, by simp, by simp, by simp, by simp, by simp⟩
  rintro d e H ⟨i, rfl, hS, hi, him, h0, h1, h2, h4⟩
  obtain ⟨g1, g2, cs, g3⟩ := hb i H hS
  simp [h0, h1, h2, h4, g1, g2]
  refine gIf_dec (fun hd => ?_) (fun hd => ?_)
  · have him2 : i + m ≤ L := mod_step hm him hmod (by omega)
    have hs1 : ∀ H', H'.heap.size = H'.heap.size → getO H' r = some (rowB cs (1, 0)) → sliceX Try.prog 57 (sliceA r 0 L c) (some (.int .i64 i)) none none H' = some (.value (sliceA r i (L - i) (c - i)), H') := fun H' _ hr => by
      have := slice_heap Try.prog (t := 57) (e := 5) (r := r) (o := 0) (n := L) (c := c) (l := i) (h := L) (lo := some (.int .i64 i)) (hi := none) (fr := (1, 0)) (inf := Try.t5) (H := H') Try.underlying57 info5 hr rfl hc (by simp [vBound]) (by simp [vBound]; omega)
      simpa using this
    have hs2 : ∀ H', getO H' r = some (rowB cs (1, 0)) → sliceX Try.prog 57 (sliceA r 0 L c) (some (.int .i64 i)) (some (.int .i64 ((i : Int) + (m : Int)))) (some (.int .i64 ((i : Int) + (m : Int)))) H' = some (.value (sliceA r i m m), H') := fun H' hr => by
      have := slice_heap3 Try.prog (t := 57) (e := 5) (r := r) (o := 0) (n := L) (c := c) (l := i) (h := i + m) (m := i + m) (fr := (1, 0)) (inf := Try.t5) (H := H') Try.underlying57 info5 hr rfl hc (by omega) (by omega) (by omega)
      simpa using this
    have hw : IntKind.i64.wrap ((i : Int) + (m : Int)) = (i : Int) + (m : Int) := wrap64 (by omega) (by omega)
    have hmin : ¬ ((L - i : Nat) : Int) < (m : Int) := by omega
    simp [h0, h1, h2, h4, g1, g2]
    refine WP.draw0 (by decide +kernel) (by decide +kernel) ?_
    simp [h0, h1, h2, h4, g1, g2, hs1 H rfl g3, hmin]
    simp [h0, h1, h2, h4, g1, g2, hs2 H g3, hw]
    refine yieldW.imp (hstep i H hS him2) fun v H' ⟨hv, hS'⟩ => ?_
    subst hv
    obtain ⟨g1, g2, cs', g3⟩ := hb _ H' hS'
    simp [h0, h1, h2, h4, g1, g2, hw]
    refine ⟨_, ?_, i + m, rfl, hS', him2, ?_, rfl⟩
    · omega
    · rw [Nat.add_mod, him]; simp
  · simp
    have : i = L := by omega
    subst this
    exact hS
end Go.Proofs.Ytcllchaboahlfaa
end
