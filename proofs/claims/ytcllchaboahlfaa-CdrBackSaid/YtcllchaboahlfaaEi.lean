/- Helpers of this claim: an evaluator over plain values and its laws. -/
import Derived.Test.YtcllchaboahlfaaEh
section
set_option linter.unusedVariables false
set_option linter.unusedSimpArgs false
namespace Go.Proofs.Ytcllchaboahlfaa
open Go Go.Proofs.Ytcllchaboahlfaa.Den
structure Ac where
  kind : Int
  n : Int
  m : Int
  s : List UInt8
def encA (a : Ac) : Value := .agg #[.int .i64 a.kind, .int .i64 a.n, .int .i64 a.m, .string (sB a.s)]
@[simp] theorem encA_cells (a : Ac) : (encA a).cells = #[.int .i64 a.kind, .int .i64 a.n, .int .i64 a.m, .string (sB a.s)] := rfl
theorem plainA (a : Ac) : plain 1 (encA a) = true := by simp [plain, encA, constOk1]
@[simp] theorem encA_agg (a : Ac) : (.agg #[.int .i64 a.kind, .int .i64 a.n, .int .i64 a.m, .string (sB a.s)] : Value) = encA a := rfl
def actW (at' : Int) (big : Bool) (out : List UInt8) (a : Ac) : List UInt8 × Int :=
  if a.kind = 0 then octetW at' out a.n else if a.kind = 1 then flagW at' out (decide (a.n = 1)) else if a.kind = 2 then numberW at' out a.n 2 big else if a.kind = 3 then numberW at' out a.n 4 big else if a.kind = 4 then numberW at' out a.n 8 big
  else if a.kind = 5 then textW at' out a.s big else if a.kind = 6 then bytesW at' out a.s big else if a.kind = 7 then putW at' out a.s 1 else if a.kind = 8 then alignW at' out a.n else putAtW at' out a.n a.m big
section
variable {H : World} {wb : Nat} {big : Bool} {at' : Int} {out : List UInt8} {v : Value}
set_option maxRecDepth 100000 in
theorem write13 (st : WSt H 64 wb big at' out v) (a : Ac) (hs : a.s.length < 2 ^ 19) {Q : Value → World → Prop}
    (hq : ∀ v' H', WSt H' 64 wb big at' (actW at' big out a).1 v' → FrW H H' wb v v' → Q (.int .i64 (actW at' big out a).2) H') : FW X 13 #[p0 wb, encA a] H Q := by
  refine FW.walk (by simp [X]) Try.func13 Try.ntmps13 rfl (by simp) ?_
  obtain ⟨kind, n, m, s⟩ := a
  simp only at hs
  have st1 := st.push (.cells #[.int .i64 kind, .int .i64 n, .int .i64 m, .string (sB s)] 30 (0, 0))
  have fr1 : FrW H (pushObj H (.cells #[.int .i64 kind, .int .i64 n, .int .i64 m, .string (sB s)] 30 (0, 0))) wb v v := FrW.push _
  simp [szO]
  generalize hH1 : pushObj H (.cells #[.int .i64 kind, .int .i64 n, .int .i64 m, .string (sB s)] 30 (0, 0)) = H1 at *
  have hb : getO H1 H.heap.size = some (.cells #[.int .i64 kind, .int .i64 n, .int .i64 m, .string (sB s)] 30 (0, 0)) := by rw [← hH1]; simp
  unfold actW at hq
  simp only at hq
  have fin : ∀ {r : List UInt8 × Int}, (∀ v' H', WSt H' 64 wb big at' r.1 v' → FrW H H' wb v v' → Q (.int .i64 r.2) H') → ∀ v2 H2, WSt H2 64 wb big at' r.1 v2 → FrW H1 H2 wb v v2 → Q (.int .i64 r.2) H2 := fun h v2 H2 s2 f2 => h v2 H2 s2 (fr1.trans f2)
  by_cases k0 : kind = 0
  · rw [if_pos k0] at hq
    simp [hb, k0]
    exact Octet19 st1 n fun v2 H2 s2 f2 => by simp; exact fin hq v2 H2 s2 f2
  rw [if_neg k0] at hq
  by_cases k1 : kind = 1
  · rw [if_pos k1] at hq
    simp [hb, k1]
    exact Flag41 st1 _ fun v2 H2 s2 f2 => by simp; exact fin hq v2 H2 s2 f2
  rw [if_neg k1] at hq
  by_cases k2 : kind = 2
  · rw [if_pos k2] at hq
    simp [hb, k2]
    exact Short42 st1 n fun v2 H2 s2 f2 => by simp; exact fin hq v2 H2 s2 f2
  rw [if_neg k2] at hq
  by_cases k3 : kind = 3
  · rw [if_pos k3] at hq
    simp [hb, k3]
    exact Long37 st1 n fun v2 H2 s2 f2 => by simp; exact fin hq v2 H2 s2 f2
  rw [if_neg k3] at hq
  by_cases k4 : kind = 4
  · rw [if_pos k4] at hq
    simp [hb, k4]
    exact Huge43 st1 n fun v2 H2 s2 f2 => by simp; exact fin hq v2 H2 s2 f2
  rw [if_neg k4] at hq
  by_cases k5 : kind = 5
  · rw [if_pos k5] at hq
    simp [hb, k5]
    exact Text38 st1 s hs fun v2 H2 s2 f2 => by simp; exact fin hq v2 H2 s2 f2
  rw [if_neg k5] at hq
  by_cases k6 : kind = 6
  · rw [if_pos k6] at hq
    simp [hb, k6]
    exact Bytes44 st1 s (by omega) fun v2 H2 s2 f2 => by simp; exact fin hq v2 H2 s2 f2
  rw [if_neg k6] at hq
  by_cases k7 : kind = 7
  · rw [if_pos k7] at hq
    simp [hb, k7]
    exact Raw45 st1 s (by omega) fun v2 H2 s2 f2 => by simp; exact fin hq v2 H2 s2 f2
  rw [if_neg k7] at hq
  by_cases k8 : kind = 8
  · rw [if_pos k8] at hq
    simp [hb, k8]
    exact Align46 st1 n fun v2 H2 s2 f2 => by simp; exact fin hq v2 H2 s2 f2
  rw [if_neg k8] at hq
  simp [hb, k0, k1, k2, k3, k4, k5, k6, k7, k8]
  exact Put20 st1 n m fun v2 H2 s2 f2 => by simp; exact fin hq v2 H2 s2 f2
set_option maxRecDepth 100000 in
theorem wrote14 (st : WSt H 67 wb big at' out v) (a : Ac) (hs : a.s.length < 2 ^ 19) {Q : Value → World → Prop}
    (hq : ∀ v' H', WSt H' 67 wb big at' (actW at' big out a).1 v' → FrW H H' wb v v' → Q (.int .i64 (actW at' big out a).2) H') : FW X 14 #[p0 wb, encA a] H Q := by
  refine FW.walk (by simp [X]) Try.func14 Try.ntmps14 rfl (by simp) ?_
  obtain ⟨kind, n, m, s⟩ := a
  simp only at hs
  have st1 := st.push (.cells #[.int .i64 kind, .int .i64 n, .int .i64 m, .string (sB s)] 30 (0, 0))
  have fr1 : FrW H (pushObj H (.cells #[.int .i64 kind, .int .i64 n, .int .i64 m, .string (sB s)] 30 (0, 0))) wb v v := FrW.push _
  simp [szO]
  generalize hH1 : pushObj H (.cells #[.int .i64 kind, .int .i64 n, .int .i64 m, .string (sB s)] 30 (0, 0)) = H1 at *
  have hb : getO H1 H.heap.size = some (.cells #[.int .i64 kind, .int .i64 n, .int .i64 m, .string (sB s)] 30 (0, 0)) := by rw [← hH1]; simp
  unfold actW at hq
  simp only at hq
  have fin : ∀ {r : List UInt8 × Int}, (∀ v' H', WSt H' 67 wb big at' r.1 v' → FrW H H' wb v v' → Q (.int .i64 r.2) H') → ∀ v2 H2, WSt H2 67 wb big at' r.1 v2 → FrW H1 H2 wb v v2 → Q (.int .i64 r.2) H2 := fun h v2 H2 s2 f2 => h v2 H2 s2 (fr1.trans f2)
  by_cases k0 : kind = 0
  · rw [if_pos k0] at hq
    simp [hb, k0]
    exact Octet47 st1 n fun v2 H2 s2 f2 => by simp; exact fin hq v2 H2 s2 f2
  rw [if_neg k0] at hq
  by_cases k1 : kind = 1
  · rw [if_pos k1] at hq
    simp [hb, k1]
    exact Flag48 st1 _ fun v2 H2 s2 f2 => by simp; exact fin hq v2 H2 s2 f2
  rw [if_neg k1] at hq
  by_cases k2 : kind = 2
  · rw [if_pos k2] at hq
    simp [hb, k2]
    exact Short49 st1 n fun v2 H2 s2 f2 => by simp; exact fin hq v2 H2 s2 f2
  rw [if_neg k2] at hq
  by_cases k3 : kind = 3
  · rw [if_pos k3] at hq
    simp [hb, k3]
    exact Long50 st1 n fun v2 H2 s2 f2 => by simp; exact fin hq v2 H2 s2 f2
  rw [if_neg k3] at hq
  by_cases k4 : kind = 4
  · rw [if_pos k4] at hq
    simp [hb, k4]
    exact Huge51 st1 n fun v2 H2 s2 f2 => by simp; exact fin hq v2 H2 s2 f2
  rw [if_neg k4] at hq
  by_cases k5 : kind = 5
  · rw [if_pos k5] at hq
    simp [hb, k5]
    exact Text52 st1 s hs fun v2 H2 s2 f2 => by simp; exact fin hq v2 H2 s2 f2
  rw [if_neg k5] at hq
  by_cases k6 : kind = 6
  · rw [if_pos k6] at hq
    simp [hb, k6]
    exact Bytes53 st1 s (by omega) fun v2 H2 s2 f2 => by simp; exact fin hq v2 H2 s2 f2
  rw [if_neg k6] at hq
  by_cases k7 : kind = 7
  · rw [if_pos k7] at hq
    simp [hb, k7]
    exact Raw54 st1 s (by omega) fun v2 H2 s2 f2 => by simp; exact fin hq v2 H2 s2 f2
  rw [if_neg k7] at hq
  by_cases k8 : kind = 8
  · rw [if_pos k8] at hq
    simp [hb, k8]
    exact Align55 st1 n fun v2 H2 s2 f2 => by simp; exact fin hq v2 H2 s2 f2
  rw [if_neg k8] at hq
  simp [hb, k0, k1, k2, k3, k4, k5, k6, k7, k8]
  exact Put56 st1 n m fun v2 H2 s2 f2 => by simp; exact fin hq v2 H2 s2 f2
end
end Go.Proofs.Ytcllchaboahlfaa
end
