/- Helpers of this claim: an evaluator over plain values and its laws. -/
import Derived.Test.YtmmmdmandocbhaaPf
section
set_option linter.unusedVariables false
set_option linter.unusedSimpArgs false
namespace Go.Proofs.Ytmmmdmandocbhaa
open Go Go.Proofs.Ytmmmdmandocbhaa.Den
def insA (l : List Fl) (i : Nat) (x : Fl) : List Fl := l.take i ++ x :: l.drop i
theorem flat_ext (pre l : List Fl) (i j : Nat) (hij : i ≤ j) (hj : j ≤ l.length) : (flatE encF (pre ++ l)).toArray.extract (pre.length * 6 + i * 6) (pre.length * 6 + j * 6) = (flatE encF ((l.drop i).take (j - i))).toArray := by
  have h1 : flatE encF (pre ++ l) = flatE encF (pre ++ l.take i) ++ (flatE encF ((l.drop i).take (j - i)) ++ flatE encF ((l.drop i).drop (j - i))) := by
    rw [← flatE_append, ← flatE_append, List.take_append_drop, List.append_assoc, List.take_append_drop]
  have h2 : (flatE encF (pre ++ l.take i)).length = pre.length * 6 + i * 6 := by
    rw [flatE_len encF_size]; simp; omega
  have h3 : (flatE encF ((l.drop i).take (j - i))).length = j * 6 - i * 6 := by
    rw [flatE_len encF_size]; simp; omega
  rw [h1]
  apply Array.toList_inj.1
  simp only [List.extract_toArray, List.extract_eq_take_drop]
  rw [List.drop_append_of_le_length (by omega), List.drop_eq_nil_of_le (by omega), List.nil_append, List.take_append_of_le_length (by omega), List.take_of_length_le (by omega)]
theorem insA_len {l : List Fl} {i : Nat} (hi : i ≤ l.length) (x : Fl) : (insA l i x).length = l.length + 1 := by
  simp [insA]; omega
theorem cellsF_one (x : Fl) : (cellsF x).all Value.oneCell' = true := by simp [Value.oneCell']
theorem flat_one (l : List Fl) : (flatE encF l).toArray.all Value.oneCell' = true := by
  rw [Array.all_eq_true']
  intro v hv
  rw [List.mem_toArray] at hv
  unfold flatE at hv
  rw [List.mem_flatMap] at hv
  obtain ⟨w, hw, hv⟩ := hv
  rw [List.mem_map] at hw
  obtain ⟨x, _, rfl⟩ := hw
  have h := cellsF_one x
  rw [Array.all_eq_true'] at h
  exact h v (Array.mem_toList_iff.1 hv)
theorem insD_row {H : World} {r off n vb i : Nat} {cs cx : Array Value} (hr : getO H r = some (.cells cs 83 (1, 0))) (hb : getO H vb = some (.cells cx 83 (0, 0))) (hcs : off + n * 6 = cs.size) (hcx : cx.size = 6) (ho : cs.all Value.oneCell' = true) (hox : cx.all Value.oneCell' = true) (hi : i ≤ n) (hl : n ≤ 2 ^ 20) :
    insD Try.prog 76 #[.slice (some ⟨r, off, none⟩) n n, .int .i64 i, .slice (some ⟨vb, 0, none⟩) 1 1] H = some (.slice (some ⟨H.heap.size, 0, none⟩) (n + 1) (n + 1), killObj (pushObj H (.cells (cs.extract off (off + i * 6) ++ cx ++ cs.extract (off + i * 6) (off + n * 6)) 83 (1, 0))) r) := by
  have hx0 : SrcX Try.prog 6 (.slice (some ⟨vb, 0, none⟩) 1 1) H 1 cx.toList := SrcX.row (cs := cx.toList) (e := 83) (fr := (0, 0)) (by simpa using hb) (by simpa using hcx)
  have hap : appended Try.prog (some 76) Try.t83 (.slice (some ⟨vb, 0, none⟩) 1 1) H = some (1, cx) := by
    have := appended_src Try.prog (t2 := 76) (inf := Try.t83) (es := 6) (by simp) (by simp) hx0
    simpa using this
  have hr' : H.heap[r]? = some (.cells cs 83 (1, 0)) := hr
  have hb' : H.heap[vb]? = some (.cells cx 83 (0, 0)) := hb
  have h40 : n ≤ 2 ^ 40 := by omega
  have hby : (n + 1) * 56 ≤ 2 ^ 40 := by omega
  have hne' : ¬ (n + 1 ≤ n) := by omega
  unfold insD
  by_cases hin : i = n
  · subst hin
    have hload : okRun ((loadCells ⟨r, off, none⟩ (i * 6)).run Try.prog H) = some (cs.extract off (off + i * 6), H) := by
      rw [run_loadCells_row hr' (by omega)]
      rfl
    have hg : growsFrom H (some ⟨r, off, none⟩) 83 i 6 = some (some r) := by
      simp only [growsFrom, hr', and_self, if_true, hcs]
    have hz : cs.extract (off + i * 6) (off + i * 6) = #[] := by
      apply Array.toList_inj.1
      simp
    have hlap : lappend Try.prog #[76, 76] (.slice (some ⟨r, off, none⟩) i i) (.slice (some ⟨vb, 0, none⟩) 1 1) H = some (.slice (some ⟨H.heap.size, 0, none⟩) (i + 1) (i + 1), killObj (pushObj H (.cells (cs.extract off (off + i * 6) ++ cx) 83 (1, 0))) r) := by
      have h1 : ((#[76, 76] : Array TypeId)[0]?).bind Try.prog.underlying = some (.slice 83) := by simp
      have h2 : (#[76, 76] : Array TypeId)[1]? = some 76 := rfl
      unfold lappend
      simp only [h1, h2, info83, hap, if_neg hne', size83, bytes83, zero83, cellsOfD, hload, hg, Option.map_some]
      rw [if_pos ⟨by decide, by decide, by decide, hby⟩]
      simp only [hox]
      rw [if_pos ⟨by decide, trivial⟩]
    simp only [hlap, hz, Array.append_empty]
    simp [h40]
  · have hlt : i < n := by omega
    have hne : ¬ r = vb := fun e => by subst e; rw [hr] at hb; simp at hb
    have hlt' : (i : Int) < n := by omega
    have hni : ¬ (i : Int) = n := by omega
    simp only [Try.underlying76, info83, insMid, hr', hb', size83, bytes83, zero83]
    rw [if_pos ⟨by decide, h40, by omega, Nat.le_refl _, by simp⟩, if_neg hni, if_pos hlt']
    simp only [Int.toNat_natCast]
    have hcx6 : cx.extract 0 6 = cx := by rw [← hcx]; exact Array.extract_size
    rw [if_pos]
    · simp [hcx6]
    · refine ⟨trivial, trivial, trivial, hcs, trivial, by omega, hne, by decide, by decide, by decide, hby, ho, hox, by decide⟩
theorem ins_fls {H : World} {v : Value} {l : List Fl} (hv : Fls H v l) {x : Fl} {vb : Nat} (hb : getO H vb = some (.cells (cellsF x) 83 (0, 0))) {i : Nat} (hi : i ≤ l.length) (hl : l.length ≤ 2 ^ 20) :
    ∃ H1, insD Try.prog 76 #[v, .int .i64 i, .slice (some ⟨vb, 0, none⟩) 1 1] H = some (.slice (some ⟨H.heap.size, 0, none⟩) (l.length + 1) (l.length + 1), H1) ∧ Fls H1 (.slice (some ⟨H.heap.size, 0, none⟩) (l.length + 1) (l.length + 1)) (insA l i x) ∧
      (∀ j o, getO H j = some o → ApO v j → getO H1 j = some o) ∧ H.heap.size ≤ H1.heap.size := by
  have hbl := getO_lt hb
  have hfin : ∀ H1, getO H1 H.heap.size = some (.cells (flatE encF (insA l i x)).toArray 83 (1, 0)) → Fls H1 (.slice (some ⟨H.heap.size, 0, none⟩) (l.length + 1) (l.length + 1)) (insA l i x) := fun H1 h => by
    refine .inr ⟨H.heap.size, [], ?_, by simpa using h⟩
    rw [insA_len hi]; simp
  have hx0 : SrcX Try.prog 6 (.slice (some ⟨vb, 0, none⟩) 1 1) H 1 (cellsF x).toList := SrcX.row (e := 83) (fr := (0, 0)) hb (by simp)
  have hap : appended Try.prog (some 76) Try.t83 (.slice (some ⟨vb, 0, none⟩) 1 1) H = some (1, cellsF x) := appended_src Try.prog (es := 6) (by simp) (by simp) hx0
  rcases hv with ⟨rfl, rfl⟩ | ⟨r, pre, rfl, hr⟩
  · have hi0 : i = 0 := by simpa using hi
    subst hi0
    refine ⟨pushObj H (.cells (cellsF x) 83 (1, 0)), ?_, hfin _ ?_, fun j o hj _ => ?_, by simp⟩
    · simp [insD, lappend, hap, cellsOfD, growsFrom]
    · rw [get_push, if_pos rfl]
      simp [insA, flatE_cons, Value.cells]
    · have := getO_lt hj
      rw [get_push, if_neg (by omega)]; exact hj
  · have hrl := getO_lt hr
    have hcl : (flatE encF (pre ++ l)).length = pre.length * 6 + l.length * 6 := by rw [flatE_len encF_size]; simp; omega
    have hr' : H.heap[r]? = some (.cells (flatE encF (pre ++ l)).toArray 83 (1, 0)) := hr
    have hb' : H.heap[vb]? = some (.cells (cellsF x) 83 (0, 0)) := hb
    have hcont : (flatE encF (pre ++ l)).toArray.extract (pre.length * 6) (pre.length * 6 + i * 6) ++ cellsF x ++ (flatE encF (pre ++ l)).toArray.extract (pre.length * 6 + i * 6) (pre.length * 6 + l.length * 6) = (flatE encF (insA l i x)).toArray := by
      have e1 := flat_ext pre l 0 i (Nat.zero_le _) hi
      have e2 := flat_ext pre l i l.length hi (Nat.le_refl _)
      simp only [Nat.zero_mul, Nat.add_zero, List.drop_zero, Nat.sub_zero] at e1
      have e3 : (l.drop i).take (l.length - i) = l.drop i := List.take_of_length_le (by simp)
      rw [e1, e2, e3]
      simp [insA, flatE_append, flatE_cons, Value.cells]
    refine ⟨killObj (pushObj H (.cells (flatE encF (insA l i x)).toArray 83 (1, 0))) r, ?_, hfin _ ?_, fun j o hj ha => ?_, by simp [killObj]⟩
    · have h := insD_row (off := pre.length * 6) (n := l.length) hr hb (by simp [hcl]) (by simp) (flat_one _) (cellsF_one x) hi hl
      rw [hcont] at h
      exact h
    · rw [kill_set, get_set, if_neg (by omega), get_push, if_pos rfl]
    · have hjr : j ≠ r := ha r _ _ _ rfl
      have := getO_lt hj
      rw [kill_set, get_set, if_neg hjr, get_push, if_neg (by omega)]
      exact hj
end Go.Proofs.Ytmmmdmandocbhaa
end
