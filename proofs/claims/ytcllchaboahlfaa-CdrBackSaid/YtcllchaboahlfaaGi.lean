/- Helpers of this claim: an evaluator over plain values and its laws. -/
import Derived.Test.YtcllchaboahlfaaGh
section
set_option linter.unusedVariables false
set_option linter.unusedSimpArgs false
namespace Go.Proofs.Ytcllchaboahlfaa
open Go Go.Proofs.Ytcllchaboahlfaa.Den
structure Td where
  n : Int
  s : List UInt8
  e : Int
def encT (t : Td) : Value := .agg #[.int .i64 t.n, .string (sB t.s), .int .i64 t.e]
@[simp] theorem encT_cells (t : Td) : (encT t).cells = #[.int .i64 t.n, .string (sB t.s), .int .i64 t.e] := rfl
@[simp] theorem encT_agg (n : Int) (s : List UInt8) (e : Int) : (.agg #[.int .i64 n, .string (sB s), .int .i64 e] : Value) = encT ⟨n, s, e⟩ := rfl
def ofN (x : RN) : Td × RS := (⟨x.1.1, [], x.1.2⟩, x.2)
def ofT (x : RT) : Td × RS := (⟨0, x.1.1, x.1.2⟩, x.2)
def ofF (x : (Bool × Int) × RS) : Td × RS := (⟨if x.1.1 = true then 1 else 0, [], x.1.2⟩, x.2)
def readR (s : List UInt8) (at' : Int) (big : Bool) (r : RS) (a : Ac) : Td × RS :=
  if a.kind = 0 then ofN (octR s at' r) else if a.kind = 1 then ofF (flagR s at' r) else if a.kind = 2 then ofN (rnum s at' big r 2) else if a.kind = 3 then ofN (rnum s at' big r 4) else if a.kind = 4 then ofN (rnum s at' big r 8)
  else if a.kind = 5 then ofT (textR s at' big r) else if a.kind = 6 then ofT (bytesR s at' big r) else if a.kind = 7 then ofT (rawR s at' r a.n) else (⟨0, [], (alignR s at' r a.n).1⟩, (alignR s at' r a.n).2)
section
variable {H : World} {rb : Nat} {s : List UInt8} {big : Bool} {at' : Int} {r : RS}
set_option maxRecDepth 100000 in
theorem read27 (h : getO H rb = some (rdP s big at' r)) (a0 : 0 ≤ at') (a7 : at' ≤ 7) (hl : s.length ≤ 2 ^ 40) (hn : r.nx ≤ s.length) (a : Ac) {Q : Value → World → Prop}
    (hq : ∀ H', getO H' rb = some (rdP s big at' (readR s at' big r a).2) → FrB H H' rb → Q (encT (readR s at' big r a).1) H') : FW X 27 #[p0 rb, encA a] H Q := by
  refine FW.walk (by simp [X]) Try.func27 Try.ntmps27 rfl (by simp) ?_
  obtain ⟨kind, n, m, z⟩ := a
  have lt := getO_lt h
  have n1 : ¬ H.heap.size = H.heap.size + 1 + 1 := by omega
  have hse : setO (pushObj (pushObj (pushObj H (.cells #[.int .i64 kind, .int .i64 n, .int .i64 m, .string (sB z)] 30 (0, 0))) (.cells #[.int .i64 0, .string (sB []), .int .i64 0] 52 (0, 0))) (.cells #[.int .i64 0, .string (sB []), .int .i64 0] 52 (0, 0))) (H.heap.size + 1 + 1) (.cells #[.int .i64 0, .string (sB []), .int .i64 0] 52 (0, 0)) =
    pushObj (pushObj (pushObj H (.cells #[.int .i64 kind, .int .i64 n, .int .i64 m, .string (sB z)] 30 (0, 0))) (.cells #[.int .i64 0, .string (sB []), .int .i64 0] 52 (0, 0))) (.cells #[.int .i64 0, .string (sB []), .int .i64 0] 52 (0, 0)) := set_same (by simp)
  simp [szO, allocX, buildQ, fillX, n1, hse]
  have fr1 : FrB H (pushObj (pushObj (pushObj H (.cells #[.int .i64 kind, .int .i64 n, .int .i64 m, .string (sB z)] 30 (0, 0))) (.cells #[.int .i64 0, .string (sB []), .int .i64 0] 52 (0, 0))) (.cells #[.int .i64 0, .string (sB []), .int .i64 0] 52 (0, 0))) rb := ((FrB.push _).trans (FrB.push _)).trans (FrB.push _)
  have g3 : getO (pushObj (pushObj (pushObj H (.cells #[.int .i64 kind, .int .i64 n, .int .i64 m, .string (sB z)] 30 (0, 0))) (.cells #[.int .i64 0, .string (sB []), .int .i64 0] 52 (0, 0))) (.cells #[.int .i64 0, .string (sB []), .int .i64 0] 52 (0, 0))) H.heap.size = some (.cells #[.int .i64 kind, .int .i64 n, .int .i64 m, .string (sB z)] 30 (0, 0)) := by simp [n1]
  have g4 : getO (pushObj (pushObj (pushObj H (.cells #[.int .i64 kind, .int .i64 n, .int .i64 m, .string (sB z)] 30 (0, 0))) (.cells #[.int .i64 0, .string (sB []), .int .i64 0] 52 (0, 0))) (.cells #[.int .i64 0, .string (sB []), .int .i64 0] 52 (0, 0))) (H.heap.size + 1) = some (.cells #[.int .i64 0, .string (sB []), .int .i64 0] 52 (0, 0)) := by simp
  have g5 : getO (pushObj (pushObj (pushObj H (.cells #[.int .i64 kind, .int .i64 n, .int .i64 m, .string (sB z)] 30 (0, 0))) (.cells #[.int .i64 0, .string (sB []), .int .i64 0] 52 (0, 0))) (.cells #[.int .i64 0, .string (sB []), .int .i64 0] 52 (0, 0))) (H.heap.size + 1 + 1) = some (.cells #[.int .i64 0, .string (sB []), .int .i64 0] 52 (0, 0)) := by simp
  have h1 := fr1.keep
  have hr1 : getO (pushObj (pushObj (pushObj H (.cells #[.int .i64 kind, .int .i64 n, .int .i64 m, .string (sB z)] 30 (0, 0))) (.cells #[.int .i64 0, .string (sB []), .int .i64 0] 52 (0, 0))) (.cells #[.int .i64 0, .string (sB []), .int .i64 0] 52 (0, 0))) rb = some (rdP s big at' r) := by
    simp only [get_push, size_push]
    rw [if_neg (by omega), if_neg (by omega), if_neg (by omega)]; exact h
  generalize pushObj (pushObj (pushObj H (.cells #[.int .i64 kind, .int .i64 n, .int .i64 m, .string (sB z)] 30 (0, 0))) (.cells #[.int .i64 0, .string (sB []), .int .i64 0] 52 (0, 0))) (.cells #[.int .i64 0, .string (sB []), .int .i64 0] 52 (0, 0)) = H1 at *
  have fin : ∀ {x : Td × RS}, (∀ H', getO H' rb = some (rdP s big at' x.2) → FrB H H' rb → Q (encT x.1) H') → ∀ H2, getO H2 rb = some (rdP s big at' x.2) → FrB H1 H2 rb → ∀ o2 o3 v, v = encT x.1 → Q v (setO (setO H2 (H.heap.size + 1 + 1) o2) (H.heap.size + 1) o3) := by
    rintro x hq H2 h2 f2 o2 o3 v rfl
    exact hq _ (by rw [get_set, if_neg (by omega), get_set, if_neg (by omega)]; exact h2) (((fr1.trans f2).setFresh _ (by omega)).setFresh _ (by omega))
  generalize hm : H.heap.size = q at *
  have ne : ¬ q + 1 + 1 = q + 1 := by omega
  have ne2 : ¬ q + 1 = q + 1 + 1 := by omega
  have st : ∀ {H2 : World}, FrB H1 H2 rb → getO H2 q = some (.cells #[.int .i64 kind, .int .i64 n, .int .i64 m, .string (sB z)] 30 (0, 0)) ∧ getO H2 (q + 1) = some (.cells #[.int .i64 0, .string (sB []), .int .i64 0] 52 (0, 0)) ∧ getO H2 (q + 1 + 1) = some (.cells #[.int .i64 0, .string (sB []), .int .i64 0] 52 (0, 0)) ∧ q + 1 < H2.heap.size ∧ q + 1 + 1 < H2.heap.size := fun f =>
    ⟨f.keep _ _ g3 (by omega), f.keep _ _ g4 (by omega), f.keep _ _ g5 (by omega), getO_lt (f.keep _ _ g4 (by omega)), getO_lt (f.keep _ _ g5 (by omega))⟩
  unfold readR at hq
  simp only at hq
  by_cases k0 : kind = 0
  · rw [if_pos k0] at hq
    simp [g3, k0]
    refine Octet62 hr1 a0 a7 hl hn fun H2 h2 f2 => ?_
    obtain ⟨b3, b4, b5, l4, l5⟩ := st f2
    simp [b3, b4, b5, l4, l5, overL, ne, ne2]
    exact fin hq H2 h2 f2 _ _ _ rfl
  rw [if_neg k0] at hq
  by_cases k1 : kind = 1
  · rw [if_pos k1] at hq
    simp [g3, k1]
    refine Flag63 hr1 a0 a7 hl hn fun H2 h2 f2 => ?_
    obtain ⟨b3, b4, b5, l4, l5⟩ := st f2
    rcases hf : flagR s at' r with ⟨⟨b, e⟩, r2⟩
    rw [hf] at hq h2
    cases b with
    | true =>
      simp [b3, b4, b5, l4, l5, overL, ne, ne2]
      exact fin hq H2 h2 f2 _ _ _ rfl
    | false =>
      simp [b3, b4, b5, l4, l5, overL, ne, ne2]
      exact fin hq H2 h2 f2 _ _ _ rfl
  rw [if_neg k1] at hq
  by_cases k2 : kind = 2
  · rw [if_pos k2] at hq
    simp [g3, k2]
    refine Short64 hr1 a0 a7 hl hn fun H2 h2 f2 => ?_
    obtain ⟨b3, b4, b5, l4, l5⟩ := st f2
    simp [b3, b4, b5, l4, l5, overL, ne, ne2]
    exact fin hq H2 h2 f2 _ _ _ rfl
  rw [if_neg k2] at hq
  by_cases k3 : kind = 3
  · rw [if_pos k3] at hq
    simp [g3, k3]
    refine Long65 hr1 a0 a7 hl hn fun H2 h2 f2 => ?_
    obtain ⟨b3, b4, b5, l4, l5⟩ := st f2
    simp [b3, b4, b5, l4, l5, overL, ne, ne2]
    exact fin hq H2 h2 f2 _ _ _ rfl
  rw [if_neg k3] at hq
  by_cases k4 : kind = 4
  · rw [if_pos k4] at hq
    simp [g3, k4]
    refine Huge66 hr1 a0 a7 hl hn fun H2 h2 f2 => ?_
    obtain ⟨b3, b4, b5, l4, l5⟩ := st f2
    simp [b3, b4, b5, l4, l5, overL, ne, ne2]
    exact fin hq H2 h2 f2 _ _ _ rfl
  rw [if_neg k4] at hq
  by_cases k5 : kind = 5
  · rw [if_pos k5] at hq
    simp [g3, k5]
    refine Text35 hr1 a0 a7 hl hn fun H2 h2 f2 => ?_
    obtain ⟨b3, b4, b5, l4, l5⟩ := st f2
    simp [b3, b4, b5, l4, l5, overL, ne, ne2]
    exact fin hq H2 h2 f2 _ _ _ rfl
  rw [if_neg k5] at hq
  by_cases k6 : kind = 6
  · rw [if_pos k6] at hq
    simp [g3, k6]
    refine Bytes67 hr1 a0 a7 hl hn fun H2 h2 f2 => ?_
    obtain ⟨b3, b4, b5, l4, l5⟩ := st f2
    simp [b3, b4, b5, l4, l5, overL, ne, ne2]
    exact fin hq H2 h2 f2 _ _ _ rfl
  rw [if_neg k6] at hq
  by_cases k7 : kind = 7
  · rw [if_pos k7] at hq
    simp [g3, k7]
    refine Raw68 hr1 a0 a7 hl hn n fun H2 h2 f2 => ?_
    obtain ⟨b3, b4, b5, l4, l5⟩ := st f2
    simp [b3, b4, b5, l4, l5, overL, ne, ne2]
    exact fin hq H2 h2 f2 _ _ _ rfl
  rw [if_neg k7] at hq
  simp [g3, k0, k1, k2, k3, k4, k5, k6, k7]
  refine Align36 hr1 a0 a7 hl hn n fun H2 h2 f2 => ?_
  obtain ⟨b3, b4, b5, l4, l5⟩ := st f2
  simp [b3, b4, b5, l4, l5, overL, ne, ne2]
  exact fin hq H2 h2 f2 _ _ _ rfl
set_option maxRecDepth 100000 in
theorem answered28 (h : getO H rb = some (rdR s big at' r)) (a0 : 0 ≤ at') (a7 : at' ≤ 7) (hl : s.length ≤ 2 ^ 40) (hn : r.nx ≤ s.length) (a : Ac) {Q : Value → World → Prop}
    (hq : ∀ H', getO H' rb = some (rdR s big at' (readR s at' big r a).2) → FrB H H' rb → Q (encT (readR s at' big r a).1) H') : FW X 28 #[p0 rb, encA a] H Q := by
  refine FW.walk (by simp [X]) Try.func28 Try.ntmps28 rfl (by simp) ?_
  obtain ⟨kind, n, m, z⟩ := a
  have lt := getO_lt h
  have n1 : ¬ H.heap.size = H.heap.size + 1 + 1 := by omega
  have hse : setO (pushObj (pushObj (pushObj H (.cells #[.int .i64 kind, .int .i64 n, .int .i64 m, .string (sB z)] 30 (0, 0))) (.cells #[.int .i64 0, .string (sB []), .int .i64 0] 52 (0, 0))) (.cells #[.int .i64 0, .string (sB []), .int .i64 0] 52 (0, 0))) (H.heap.size + 1 + 1) (.cells #[.int .i64 0, .string (sB []), .int .i64 0] 52 (0, 0)) =
    pushObj (pushObj (pushObj H (.cells #[.int .i64 kind, .int .i64 n, .int .i64 m, .string (sB z)] 30 (0, 0))) (.cells #[.int .i64 0, .string (sB []), .int .i64 0] 52 (0, 0))) (.cells #[.int .i64 0, .string (sB []), .int .i64 0] 52 (0, 0)) := set_same (by simp)
  simp [szO, allocX, buildQ, fillX, n1, hse]
  have fr1 : FrB H (pushObj (pushObj (pushObj H (.cells #[.int .i64 kind, .int .i64 n, .int .i64 m, .string (sB z)] 30 (0, 0))) (.cells #[.int .i64 0, .string (sB []), .int .i64 0] 52 (0, 0))) (.cells #[.int .i64 0, .string (sB []), .int .i64 0] 52 (0, 0))) rb := ((FrB.push _).trans (FrB.push _)).trans (FrB.push _)
  have g3 : getO (pushObj (pushObj (pushObj H (.cells #[.int .i64 kind, .int .i64 n, .int .i64 m, .string (sB z)] 30 (0, 0))) (.cells #[.int .i64 0, .string (sB []), .int .i64 0] 52 (0, 0))) (.cells #[.int .i64 0, .string (sB []), .int .i64 0] 52 (0, 0))) H.heap.size = some (.cells #[.int .i64 kind, .int .i64 n, .int .i64 m, .string (sB z)] 30 (0, 0)) := by simp [n1]
  have g4 : getO (pushObj (pushObj (pushObj H (.cells #[.int .i64 kind, .int .i64 n, .int .i64 m, .string (sB z)] 30 (0, 0))) (.cells #[.int .i64 0, .string (sB []), .int .i64 0] 52 (0, 0))) (.cells #[.int .i64 0, .string (sB []), .int .i64 0] 52 (0, 0))) (H.heap.size + 1) = some (.cells #[.int .i64 0, .string (sB []), .int .i64 0] 52 (0, 0)) := by simp
  have g5 : getO (pushObj (pushObj (pushObj H (.cells #[.int .i64 kind, .int .i64 n, .int .i64 m, .string (sB z)] 30 (0, 0))) (.cells #[.int .i64 0, .string (sB []), .int .i64 0] 52 (0, 0))) (.cells #[.int .i64 0, .string (sB []), .int .i64 0] 52 (0, 0))) (H.heap.size + 1 + 1) = some (.cells #[.int .i64 0, .string (sB []), .int .i64 0] 52 (0, 0)) := by simp
  have h1 := fr1.keep
  have hr1 : getO (pushObj (pushObj (pushObj H (.cells #[.int .i64 kind, .int .i64 n, .int .i64 m, .string (sB z)] 30 (0, 0))) (.cells #[.int .i64 0, .string (sB []), .int .i64 0] 52 (0, 0))) (.cells #[.int .i64 0, .string (sB []), .int .i64 0] 52 (0, 0))) rb = some (rdR s big at' r) := by
    simp only [get_push, size_push]
    rw [if_neg (by omega), if_neg (by omega), if_neg (by omega)]; exact h
  generalize pushObj (pushObj (pushObj H (.cells #[.int .i64 kind, .int .i64 n, .int .i64 m, .string (sB z)] 30 (0, 0))) (.cells #[.int .i64 0, .string (sB []), .int .i64 0] 52 (0, 0))) (.cells #[.int .i64 0, .string (sB []), .int .i64 0] 52 (0, 0)) = H1 at *
  have fin : ∀ {x : Td × RS}, (∀ H', getO H' rb = some (rdR s big at' x.2) → FrB H H' rb → Q (encT x.1) H') → ∀ H2, getO H2 rb = some (rdR s big at' x.2) → FrB H1 H2 rb → ∀ o2 o3 v, v = encT x.1 → Q v (setO (setO H2 (H.heap.size + 1 + 1) o2) (H.heap.size + 1) o3) := by
    rintro x hq H2 h2 f2 o2 o3 v rfl
    exact hq _ (by rw [get_set, if_neg (by omega), get_set, if_neg (by omega)]; exact h2) (((fr1.trans f2).setFresh _ (by omega)).setFresh _ (by omega))
  generalize hm : H.heap.size = q at *
  have ne : ¬ q + 1 + 1 = q + 1 := by omega
  have ne2 : ¬ q + 1 = q + 1 + 1 := by omega
  have st : ∀ {H2 : World}, FrB H1 H2 rb → getO H2 q = some (.cells #[.int .i64 kind, .int .i64 n, .int .i64 m, .string (sB z)] 30 (0, 0)) ∧ getO H2 (q + 1) = some (.cells #[.int .i64 0, .string (sB []), .int .i64 0] 52 (0, 0)) ∧ getO H2 (q + 1 + 1) = some (.cells #[.int .i64 0, .string (sB []), .int .i64 0] 52 (0, 0)) ∧ q + 1 < H2.heap.size ∧ q + 1 + 1 < H2.heap.size := fun f =>
    ⟨f.keep _ _ g3 (by omega), f.keep _ _ g4 (by omega), f.keep _ _ g5 (by omega), getO_lt (f.keep _ _ g4 (by omega)), getO_lt (f.keep _ _ g5 (by omega))⟩
  unfold readR at hq
  simp only at hq
  by_cases k0 : kind = 0
  · rw [if_pos k0] at hq
    simp [g3, k0]
    rw [Octet69 hr1 a0 a7 hl hn]
    obtain ⟨h2, f2⟩ : getO (setO H1 rb (rdR s big at' (octR s at' r).2)) rb = some (rdR s big at' (octR s at' r).2) ∧ FrB H1 (setO H1 rb (rdR s big at' (octR s at' r).2)) rb := ⟨by rw [get_set, if_pos rfl, if_pos (getO_lt hr1)], FrB.set _⟩
    generalize setO H1 rb (rdR s big at' (octR s at' r).2) = H2 at *
    obtain ⟨b3, b4, b5, l4, l5⟩ := st f2
    simp [b3, b4, b5, l4, l5, overL, ne, ne2]
    exact fin hq H2 h2 f2 _ _ _ rfl
  rw [if_neg k0] at hq
  by_cases k1 : kind = 1
  · rw [if_pos k1] at hq
    simp [g3, k1]
    rw [Flag70 hr1 a0 a7 hl hn]
    obtain ⟨h2, f2⟩ : getO (setO H1 rb (rdR s big at' (flagR s at' r).2)) rb = some (rdR s big at' (flagR s at' r).2) ∧ FrB H1 (setO H1 rb (rdR s big at' (flagR s at' r).2)) rb := ⟨by rw [get_set, if_pos rfl, if_pos (getO_lt hr1)], FrB.set _⟩
    generalize setO H1 rb (rdR s big at' (flagR s at' r).2) = H2 at *
    obtain ⟨b3, b4, b5, l4, l5⟩ := st f2
    rcases hf : flagR s at' r with ⟨⟨b, e⟩, r2⟩
    rw [hf] at hq h2
    cases b with
    | true =>
      simp [b3, b4, b5, l4, l5, overL, ne, ne2]
      exact fin hq H2 h2 f2 _ _ _ rfl
    | false =>
      simp [b3, b4, b5, l4, l5, overL, ne, ne2]
      exact fin hq H2 h2 f2 _ _ _ rfl
  rw [if_neg k1] at hq
  by_cases k2 : kind = 2
  · rw [if_pos k2] at hq
    simp [g3, k2]
    rw [Short71 hr1 a0 a7 hl hn]
    obtain ⟨h2, f2⟩ : getO (setO H1 rb (rdR s big at' (rnum s at' big r 2).2)) rb = some (rdR s big at' (rnum s at' big r 2).2) ∧ FrB H1 (setO H1 rb (rdR s big at' (rnum s at' big r 2).2)) rb := ⟨by rw [get_set, if_pos rfl, if_pos (getO_lt hr1)], FrB.set _⟩
    generalize setO H1 rb (rdR s big at' (rnum s at' big r 2).2) = H2 at *
    obtain ⟨b3, b4, b5, l4, l5⟩ := st f2
    simp [b3, b4, b5, l4, l5, overL, ne, ne2]
    exact fin hq H2 h2 f2 _ _ _ rfl
  rw [if_neg k2] at hq
  by_cases k3 : kind = 3
  · rw [if_pos k3] at hq
    simp [g3, k3]
    rw [Long72 hr1 a0 a7 hl hn]
    obtain ⟨h2, f2⟩ : getO (setO H1 rb (rdR s big at' (rnum s at' big r 4).2)) rb = some (rdR s big at' (rnum s at' big r 4).2) ∧ FrB H1 (setO H1 rb (rdR s big at' (rnum s at' big r 4).2)) rb := ⟨by rw [get_set, if_pos rfl, if_pos (getO_lt hr1)], FrB.set _⟩
    generalize setO H1 rb (rdR s big at' (rnum s at' big r 4).2) = H2 at *
    obtain ⟨b3, b4, b5, l4, l5⟩ := st f2
    simp [b3, b4, b5, l4, l5, overL, ne, ne2]
    exact fin hq H2 h2 f2 _ _ _ rfl
  rw [if_neg k3] at hq
  by_cases k4 : kind = 4
  · rw [if_pos k4] at hq
    simp [g3, k4]
    rw [Huge73 hr1 a0 a7 hl hn]
    obtain ⟨h2, f2⟩ : getO (setO H1 rb (rdR s big at' (rnum s at' big r 8).2)) rb = some (rdR s big at' (rnum s at' big r 8).2) ∧ FrB H1 (setO H1 rb (rdR s big at' (rnum s at' big r 8).2)) rb := ⟨by rw [get_set, if_pos rfl, if_pos (getO_lt hr1)], FrB.set _⟩
    generalize setO H1 rb (rdR s big at' (rnum s at' big r 8).2) = H2 at *
    obtain ⟨b3, b4, b5, l4, l5⟩ := st f2
    simp [b3, b4, b5, l4, l5, overL, ne, ne2]
    exact fin hq H2 h2 f2 _ _ _ rfl
  rw [if_neg k4] at hq
  by_cases k5 : kind = 5
  · rw [if_pos k5] at hq
    simp [g3, k5]
    rw [Text74 hr1 a0 a7 hl hn]
    obtain ⟨h2, f2⟩ : getO (setO H1 rb (rdR s big at' (textR s at' big r).2)) rb = some (rdR s big at' (textR s at' big r).2) ∧ FrB H1 (setO H1 rb (rdR s big at' (textR s at' big r).2)) rb := ⟨by rw [get_set, if_pos rfl, if_pos (getO_lt hr1)], FrB.set _⟩
    generalize setO H1 rb (rdR s big at' (textR s at' big r).2) = H2 at *
    obtain ⟨b3, b4, b5, l4, l5⟩ := st f2
    simp [b3, b4, b5, l4, l5, overL, ne, ne2]
    exact fin hq H2 h2 f2 _ _ _ rfl
  rw [if_neg k5] at hq
  by_cases k6 : kind = 6
  · rw [if_pos k6] at hq
    simp [g3, k6]
    rw [Bytes75 hr1 a0 a7 hl hn]
    obtain ⟨h2, f2⟩ : getO (setO H1 rb (rdR s big at' (bytesR s at' big r).2)) rb = some (rdR s big at' (bytesR s at' big r).2) ∧ FrB H1 (setO H1 rb (rdR s big at' (bytesR s at' big r).2)) rb := ⟨by rw [get_set, if_pos rfl, if_pos (getO_lt hr1)], FrB.set _⟩
    generalize setO H1 rb (rdR s big at' (bytesR s at' big r).2) = H2 at *
    obtain ⟨b3, b4, b5, l4, l5⟩ := st f2
    simp [b3, b4, b5, l4, l5, overL, ne, ne2]
    exact fin hq H2 h2 f2 _ _ _ rfl
  rw [if_neg k6] at hq
  by_cases k7 : kind = 7
  · rw [if_pos k7] at hq
    simp [g3, k7]
    rw [Raw76 hr1 a0 a7 hl hn n]
    obtain ⟨h2, f2⟩ : getO (setO H1 rb (rdR s big at' (rawR s at' r n).2)) rb = some (rdR s big at' (rawR s at' r n).2) ∧ FrB H1 (setO H1 rb (rdR s big at' (rawR s at' r n).2)) rb := ⟨by rw [get_set, if_pos rfl, if_pos (getO_lt hr1)], FrB.set _⟩
    generalize setO H1 rb (rdR s big at' (rawR s at' r n).2) = H2 at *
    obtain ⟨b3, b4, b5, l4, l5⟩ := st f2
    simp [b3, b4, b5, l4, l5, overL, ne, ne2]
    exact fin hq H2 h2 f2 _ _ _ rfl
  rw [if_neg k7] at hq
  simp [g3, k0, k1, k2, k3, k4, k5, k6, k7]
  rw [Align77 hr1 a0 a7 hl hn n]
  obtain ⟨h2, f2⟩ : getO (setO H1 rb (rdR s big at' (alignR s at' r n).2)) rb = some (rdR s big at' (alignR s at' r n).2) ∧ FrB H1 (setO H1 rb (rdR s big at' (alignR s at' r n).2)) rb := ⟨by rw [get_set, if_pos rfl, if_pos (getO_lt hr1)], FrB.set _⟩
  generalize setO H1 rb (rdR s big at' (alignR s at' r n).2) = H2 at *
  obtain ⟨b3, b4, b5, l4, l5⟩ := st f2
  simp [b3, b4, b5, l4, l5, overL, ne, ne2]
  exact fin hq H2 h2 f2 _ _ _ rfl
end
end Go.Proofs.Ytcllchaboahlfaa
end
