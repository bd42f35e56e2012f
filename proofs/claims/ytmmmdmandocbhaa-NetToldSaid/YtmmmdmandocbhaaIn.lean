/- Helpers of this claim: an evaluator over plain values and its laws. -/
import Derived.Test.YtmmmdmandocbhaaS
section
/- slices.Insert as a rule of its own: rows that are written on by copies. -/
set_option linter.unusedVariables false
set_option linter.unusedSimpArgs false
namespace Go.Proofs.Ytmmmdmandocbhaa.Den
variable {P : Program} {ι : Emb}
/-- Cells stored into a row of which nothing is frozen. -/
theorem run_overM {b : Nat} {e : TypeId} {fr : Nat × Nat} : ∀ (l : List Value) (k off : Nat) (cs : Array Value) (H : World), H.heap[b]? = some (.cells cs e fr) → (∀ j, j < cs.size → ¬ (fr.1 ≤ j ∧ j < fr.2)) → off + k + l.length ≤ cs.size → (∀ v ∈ l, v.oneCell' = true) →
    (Go.storeCells ⟨b, off, none⟩ l k).run P H = .ok () (setO H b (.cells (overL cs (off + k) l) e fr))
  | [], k, off, cs, H, hb, hfr, hl, ho => by
    unfold Go.storeCells
    simp only [Sem.run_pure, overL]
    congr 1
    exact (set_same (show getO H b = _ from hb)).symm
  | v :: l, k, off, cs, H, hb, hfr, hl, ho => by
    unfold Go.storeCells
    simp only [List.length_cons] at hl
    have hlt : off + k < cs.size := by omega
    have hf : H.frozen? ⟨b, off + k, none⟩ = false := by
      unfold World.frozen?
      simp only [hb]
      rw [Bool.eq_false_iff]
      simpa using hfr (off + k) hlt
    rw [add_plain]
    simp only [Sem.run_bind]
    rw [run_store_some (ho v List.mem_cons_self) ((cell_of hb).trans (Array.getElem?_eq_getElem hlt)) hf]
    simp only [Result.andThen_ok]
    rw [setCell_eq hb]
    have hb2 : (setO H b (.cells (cs.setIfInBounds (off + k) v) e fr)).heap[b]? = some (.cells (cs.setIfInBounds (off + k) v) e fr) := by
      have hlt := (Array.getElem?_eq_some_iff.1 hb).1
      simp [setO, hlt]
    rw [run_overM l (k + 1) off _ _ hb2 (fun j hj => hfr j (by simpa using hj)) (by simp; omega) fun x hx => ho x (List.mem_cons_of_mem _ hx), set_set]
    rfl
/-- copy, from row to row. -/
theorem run_copyRow {t1 t2 ty elem : TypeId} {inf : TypeInfo} (hu : P.underlying t1 = some (.slice elem)) (hi : P.info? elem = some inf) {w : World} {b o nd dc sb so ns sc k : Nat} {cs ss : Array Value} {e e2 : TypeId} {fr fr2 : Nat × Nat}
    (hb : w.heap[b]? = some (.cells cs e fr)) (hs : w.heap[sb]? = some (.cells ss e2 fr2)) (hfr : ∀ j, j < cs.size → ¬ (fr.1 ≤ j ∧ j < fr.2)) (hk : Nat.min ns nd = k) (hd : o + k * inf.size ≤ cs.size) (hss : so + k * inf.size ≤ ss.size) (ho : ∀ v ∈ (ss.extract so (so + k * inf.size)).toList, v.oneCell' = true) :
    (Builtin.copy_ #[t1, t2] ty #[.slice (some ⟨b, o, none⟩) nd dc, .slice (some ⟨sb, so, none⟩) ns sc]).run P w = .ok (goInt k) (setO w b (.cells (overL cs o (ss.extract so (so + k * inf.size)).toList) e fr)) := by
  have hload := run_loadCells_row (P := P) (off := so) (n := k * inf.size) hs (by omega)
  have hst := run_overM (P := P) (ss.extract so (so + k * inf.size)).toList 0 o cs w hb hfr (by simp; omega) ho
  rw [Nat.add_zero] at hst
  unfold Builtin.copy_
  have hfc : (Builtin.firstCells inf.size k (.slice (some ⟨sb, so, none⟩) ns sc)).run P w = .ok (ss.extract so (so + k * inf.size)) w := by
    unfold Builtin.firstCells
    exact hload
  simp only [List.getElem?_toArray, List.getElem?_cons_zero, List.getElem?_cons_succ, Sem.run_bind, run_underlying' hu, Result.andThen_ok, Builtin.lenOf, Sem.run_pure, hk, run_sizeOf' hi, hfc, hst]
end Go.Proofs.Ytmmmdmandocbhaa.Den
end
