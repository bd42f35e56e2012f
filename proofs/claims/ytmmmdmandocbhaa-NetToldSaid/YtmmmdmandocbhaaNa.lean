/- Helpers of this claim: an evaluator over plain values and its laws. -/
import Derived.Test.YtmmmdmandocbhaaPy
section
set_option linter.unusedVariables false
set_option linter.unusedSimpArgs false
namespace Go.Proofs.Ytmmmdmandocbhaa
open Go Go.Proofs.Ytmmmdmandocbhaa.Den
theorem clone_app0 {H : World} {b : Nat} {x : Value} (hb : getO H b = some (.cells #[] 3 (0, 0))) (hx : SrcX Try.prog 1 x H 0 []) :
    builtinX Try.prog .append #[29, 29] #[.slice (some ⟨b, 0, none⟩) 0 0, x] H = some (.value (.slice (some ⟨b, 0, none⟩) 0 0), H) := by
  refine builtin_append (r := (_, _)) ?_
  have hap : appended Try.prog (some 29) Try.t3 x H = some (0, #[]) := appended_src Try.prog (es := 1) (by simp) (by simp) hx
  have h1 : ((#[29, 29] : Array TypeId)[0]?).bind Try.prog.underlying = some (.slice 3) := by simp
  have h2 : (#[29, 29] : Array TypeId)[1]? = some 29 := rfl
  simp only [lappend, h1, h2, info3, hap, Nat.add_zero, Nat.le_refl, if_true, storeCells, Sem.run_pure, okRun, Option.map_some]
set_option maxRecDepth 100000 in
/-- The copy of a row of numbers that came in. -/
theorem clone41v {H : World} (o : Option (List Int)) (hn : (o.getD []).length ≤ 2 ^ 20) {Q : Value → World → Prop}
    (hq : ∀ H' a m c, Nums H' (.slice a m c) (o.getD []) → Keep H H' → H.heap.size ≤ H'.heap.size → (∀ r o2 m2 c2, Value.slice a m c = .slice (some ⟨r, o2, none⟩) m2 c2 → H.heap.size ≤ r) → Q (.slice a m c) H') : FW X 41 #[sidesV o] H Q := by
  refine FW.walk (by simp [X, sp17_no]) Try.func41 Try.ntmps41 rfl (by simp) ?_
  have hnil := fun x y H0 => slV_nil (P := Try.prog) (t := 29) (x := x) (y := y) (H := H0) (es := 1) (o := o.map fun l => l.map (Value.int .i64)) (by simp)
  cases o with
  | none =>
    simp [hnil]
    exact hq H none 0 0 (.inl ⟨rfl, rfl⟩) (fun _ _ h => h) (Nat.le_refl _) (fun r o2 m2 c2 e => by cases e)
  | some l =>
  have hb : getO (pushObj H (.cells #[] 3 (0, 0))) H.heap.size = some (.cells #[] 3 (0, 0)) := by rw [get_push, if_pos rfl]
  have hx : SrcX Try.prog 1 (sidesV (some l)) (pushObj H (.cells #[] 3 (0, 0))) l.length (l.map (Value.int .i64)) := by
    have h := SrcX.slV (P := Try.prog) (es := 1) (o := some (l.map (Value.int .i64))) (H := pushObj H (.cells #[] 3 (0, 0)))
    simp [List.flatMap_map] at h
    rw [List.map_eq_flatMap]
    exact h
  have k1 : Keep H (pushObj H (.cells #[] 3 (0, 0))) := fun j o hj => by
    have := getO_lt hj
    rw [get_push, if_neg (by omega)]; exact hj
  by_cases hl : l = []
  · subst hl
    have ha := clone_app0 hb hx
    simp [hnil, buildSliceX, inOrder, catCells, szO, ha]
    exact hq _ _ _ _ (.inr ⟨H.heap.size, 0, (0, 0), rfl, hb⟩) k1 (by simp) (fun r o2 m2 c2 e => by cases e; omega)
  · have ha := clone_app hb hx hl hn
    have hz : (pushObj H (.cells #[] 3 (0, 0))).heap.size = H.heap.size + 1 := by simp
    rw [hz] at ha
    simp [hnil, buildSliceX, inOrder, catCells, szO, ha]
    refine hq _ _ _ _ (.inr ⟨H.heap.size + 1, l.length, (1, 0), rfl, by rw [get_push, if_pos (by simp)]; rfl⟩) (fun j o hj => ?_) (by simp; omega) (fun r o2 m2 c2 e => by cases e; omega)
    have := getO_lt hj
    rw [get_push, if_neg (by simp; omega), get_push, if_neg (by omega)]; exact hj
/-- What New answers. -/
def eNew (h : Int) (l : List Int) : Int := if h < 1 ∨ 16 < h ∨ (l.any fun x => decide (x < 0)) = true then 7 else if 10000 < l.length then 4 else 0
set_option maxRecDepth 100000 in
/-- New of numbers that came in. -/
theorem new8v {H : World} (o : Option (List Int)) (hlen : (o.getD []).length < 2 ^ 62) (h : Int) {Q : Value → World → Prop}
    (hq : ∀ H' b vn, eNew h (o.getD []) = 0 → H.heap.size ≤ b → NSt H' b (netZ h (o.getD []) ⟨1, 0, 0, 0⟩) vn (.slice none 0 0) → Keep H H' → H.heap.size ≤ H'.heap.size → Q (.tuple #[p0 b, .int .i64 0]) H')
    (hz : eNew h (o.getD []) ≠ 0 → Q (.tuple #[.pointer none, .int .i64 (eNew h (o.getD []))]) H) : FW X 8 #[.int .i64 h, sidesV o] H Q := by
  have rd : Rd H (sidesV o) (o.getD []) := Rd.slV
  have hcl := fun hn Q => clone41v (H := H) o hn (Q := Q)
  have hvlen := fun H0 => rd.len H0
  generalize hv : sidesV o = v at *
  generalize o.getD [] = l at *
  refine FW.walk (by simp [X, sp17_no]) Try.func8 Try.ntmps8 rfl (by simp) ?_
  by_cases a1 : h < 1
  · have e : eNew h l = 7 := by simp [eNew, a1]
    rw [e] at hz
    simp [a1]
    exact hz (by decide)
  by_cases a2 : 16 < h
  · have e : eNew h l = 7 := by simp [eNew, a2]
    rw [e] at hz
    simp [a1, a2]
    exact hz (by decide)
  simp [a1, a2]
  refine contains39 (l := l) (cs := []) (p := fun x => decide (x < 0)) rd (by omega) (by simp) (fun x Q => by simpa using new40 H x Q) ?_
  cases hany : (l.any fun x => decide (x < 0)) with
  | true =>
    have e : eNew h l = 7 := by unfold eNew; rw [if_pos (.inr (.inr hany))]
    rw [e] at hz
    simp
    exact hz (by decide)
  | false =>
  by_cases hbig : 10000 < l.length
  · have e : eNew h l = 4 := by unfold eNew; rw [hany, if_neg (by simp; omega), if_pos hbig]
    rw [e] at hz
    have hb' : (10000 : Int) < l.length := by omega
    simp [hvlen, hb']
    exact hz (by decide)
  have e : eNew h l = 0 := by unfold eNew; rw [hany, if_neg (by simp; omega), if_neg hbig]
  rw [e] at hq
  have hb' : ¬ (10000 : Int) < l.length := by omega
  simp [hvlen, hb']
  refine hcl (by omega) _ fun H1 av am ac nums k1 z1 fresh => ?_
  have b78 := build78 h l av am ac
  generalize hvn : Value.slice av am ac = vn at *
  simp [b78, szO]
  have gnb : getO (pushObj H1 (netO (netZ h l ⟨0, 0, 0, 0⟩) vn (.slice none 0 0))) H1.heap.size = some (netO (netZ h l ⟨0, 0, 0, 0⟩) vn (.slice none 0 0)) := by rw [get_push, if_pos rfl]
  have k2 : Keep H1 (pushObj H1 (netO (netZ h l ⟨0, 0, 0, 0⟩) vn (.slice none 0 0))) := fun j o hj => by
    have := getO_lt hj
    rw [get_push, if_neg (by omega)]; exact hj
  have z2 : (pushObj H1 (netO (netZ h l ⟨0, 0, 0, 0⟩) vn (.slice none 0 0))).heap.size = H1.heap.size + 1 := by simp
  have nums2 : Nums (pushObj H1 (netO (netZ h l ⟨0, 0, 0, 0⟩) vn (.slice none 0 0))) vn l := nums.imp fun r o m c e x hx => k2 _ _ hx
  have apn : ApO vn H1.heap.size := fun r o n c e => by
    rcases nums with ⟨e2, _⟩ | ⟨r2, c2, fr2, e2, hr⟩
    · rw [e2] at e; cases e
    · rw [e2] at e; cases e; have := getO_lt hr; omega
  generalize hH2 : pushObj H1 (netO (netZ h l ⟨0, 0, 0, 0⟩) vn (.slice none 0 0)) = H2 at *
  generalize hnb : H1.heap.size = nb at *
  have hset0 : H2 = setO H2 nb (netO (netL h l (0 * 16)) vn (.slice none 0 0)) := by
    rw [Nat.zero_mul, netL_0]
    exact (set_same gnb).symm
  have lnb : nb < H2.heap.size := by omega
  refine CE.inv (NwO nb H2 h l vn) ?_ (d := 16) ⟨by simp, 0, rfl, by omega, by simp, hset0⟩
  rintro d e H' ⟨e6, i, rfl, hi, e27, hH'⟩
  by_cases hlt : i < 16
  rotate_left
  · have hi16 : i = 16 := by omega
    subst hi16
    simp [e27, e6]
    rw [show 16 * 16 = 256 from rfl, netL_256] at hH'
    rw [hH']
    refine hq _ nb vn rfl (by omega) ⟨by rw [get_set, if_pos rfl, if_pos lnb], ⟨List.length_replicate, List.length_replicate, List.length_replicate⟩, ?_, .inl ⟨rfl, rfl⟩, apn, ?_, ?_⟩ ?_ ?_
    · exact nums2.imp fun r o m c e x hx => by rw [get_set, if_neg (fun e' => apn _ _ _ _ e e'.symm)]; exact hx
    · intro r o n c e; cases e
    · intro r o n c e r' o' n' c' e'; cases e'
    · intro j o hj
      have := getO_lt hj
      rw [get_set, if_neg (by omega)]; exact k2 _ _ (k1 _ _ hj)
    · simp; omega
  have hlt' : (i : Int) < 16 := by omega
  simp [e27, e6, hlt']
  refine CE.inv (NwI nb H2 h l vn i) ?_ (d := 16) ⟨by simp [e6], by simp, by simp [e27], 0, rfl, by omega, by simp, by simpa using hH'⟩
  rintro d e H' ⟨e6, e7, e27, k, rfl, hk, e30, hH'⟩
  by_cases hkt : k < 16
  rotate_left
  · have hk16 : k = 16 := by omega
    subst hk16
    have wi : IntKind.i64.wrap ((i : Int) + 1) = ((i + 1 : Nat) : Int) := by rw [wrap64 (by omega) (by omega)]; omega
    simp [e30, e27, wi]
    refine ⟨16 - (i + 1), by omega, by simp [e6], i + 1, rfl, by omega, by simp, ?_⟩
    rw [hH', show (i + 1) * 16 = i * 16 + 16 by omega]
  have hkt' : (k : Int) < 16 := by omega
  have gN : getO H' nb = some (netO (netL h l (i * 16 + k)) vn (.slice none 0 0)) := by rw [hH', get_set, if_pos rfl, if_pos lnb]
  have lN := getO_lt gN
  have wf := netL_wf h l (t := i * 16 + k) (by omega)
  have sl := sN_link (n := netL h l (i * 16 + k)) (vn := vn) (vf := .slice none 0 0) wf (k := i * 16 + k) (j := 0) (by omega) (by decide) (c := .int .i64 1) (x := ⟨1, 0, 0, 0⟩) (by rw [netL_get h l (by omega)]; rfl)
  rw [netL_set h l (by omega), show 9 + (i * 16 + k) * 4 + 0 = 9 + i * 64 + k * 4 by omega] at sl
  have hlo : 9 + i * 64 + k * 4 + 1 ≤ (cellsN (netL h l (i * 16 + k)) vn (.slice none 0 0)).length := cN_le wf (by omega)
  have wk : IntKind.i64.wrap ((k : Int) + 1) = ((k + 1 : Nat) : Int) := by rw [wrap64 (by omega) (by omega)]; omega
  simp [e30, e7, e6, hkt', hlt', idxP, gN, lN, overL, sl, hlo, wk]
  refine ⟨16 - (k + 1), by omega, by simp [e6], by simp [e7], by simp [e27], k + 1, rfl, by omega, by simp, ?_⟩
  rw [hH', set_set, Nat.add_assoc]
end Go.Proofs.Ytmmmdmandocbhaa
end
