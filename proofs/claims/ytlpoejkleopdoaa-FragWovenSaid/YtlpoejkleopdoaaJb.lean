/- Helpers of this claim: an evaluator over plain values and its laws. -/
import Derived.Test.YtlpoejkleopdoaaJa
section
set_option linter.unusedVariables false
set_option linter.unusedSimpArgs false
namespace Go.Proofs.Ytlpoejkleopdoaa
open Go Go.Proofs.Ytlpoejkleopdoaa.Den
abbrev KI : Int → Value := fun n => .int .i64 n
def heldV (x : Op × Value) : Int × Value := (x.1.id, .agg #[x.2, .int .i64 x.1.count])
/-- How the joiner stands in memory: M are the open messages, each with its bytes. -/
structure JSt (H : World) (jb mb : Nat) (most room : Int) (M : List (Op × Value)) : Prop where
  hj : getO H jb = some (.cells #[.int .i64 most, .int .i64 room, .int .i64 (bytesO (M.map (·.1))), .map (some mb)] 78 (0, 0))
  hm : MapIs KI H mb (M.map heldV)
  hb : ∀ x ∈ M, AccB 5 H x.2 x.1.body ∧ Apart x.2 jb ∧ Apart x.2 mb
  hd : M.Pairwise fun x y => ApV x.2 y.2 ∧ ApV y.2 x.2
theorem look_held (id : Int) : ∀ (M : List (Op × Value)), lookM id (M.map heldV) = match M.find? (fun x => x.1.id == id) with | some x => some (.agg #[x.2, .int .i64 x.1.count]) | none => none
  | [] => rfl
  | x :: M => by
    simp only [List.map_cons, heldV, lookM, List.find?_cons]
    by_cases h : x.1.id = id
    · simp [h]
    · have : (x.1.id == id) = false := by simpa using h
      simp only [h, if_false, this]
      exact look_held id M
theorem find_held (id : Int) : ∀ (M : List (Op × Value)), findO id (M.map (·.1)) = (M.find? fun x => x.1.id == id).map (·.1)
  | [] => rfl
  | x :: M => by
    simp only [List.map_cons, findO, List.find?_cons]
    by_cases h : x.1.id = id
    · simp [h]
    · have : (x.1.id == id) = false := by simpa using h
      simp only [h, if_false, this]
      exact find_held id M
def delP (id : Int) : List (Op × Value) → List (Op × Value)
  | [] => []
  | x :: M => if x.1.id = id then M else x :: delP id M
def putP (o : Op × Value) : List (Op × Value) → List (Op × Value)
  | [] => [o]
  | x :: M => if x.1.id = o.1.id then o :: M else x :: putP o M
theorem delP_1 (id : Int) : ∀ M : List (Op × Value), (delP id M).map (·.1) = delO id (M.map (·.1)) ∧ (delP id M).map heldV = delM id (M.map heldV)
  | [] => ⟨rfl, rfl⟩
  | x :: M => by
    obtain ⟨h1, h2⟩ := delP_1 id M
    simp only [delP, List.map_cons, delO, delM, heldV]
    split
    · exact ⟨rfl, rfl⟩
    · simp [h1, ← h2, heldV]
theorem putP_1 (o : Op × Value) : ∀ M : List (Op × Value), (putP o M).map (·.1) = putO o.1 (M.map (·.1)) ∧ (putP o M).map heldV = putM o.1.id (.agg #[o.2, .int .i64 o.1.count]) (M.map heldV)
  | [] => ⟨rfl, rfl⟩
  | x :: M => by
    obtain ⟨h1, h2⟩ := putP_1 o M
    simp only [putP, List.map_cons, putO, putM, heldV]
    split
    · exact ⟨rfl, rfl⟩
    · simp [h1, ← h2, heldV]
theorem delP_mem {id : Int} {x : Op × Value} : ∀ {M : List (Op × Value)}, x ∈ delP id M → x ∈ M
  | [], h => by cases h
  | y :: L, h => by
    unfold delP at h
    split at h
    · exact List.mem_cons_of_mem _ h
    · rcases List.mem_cons.1 h with rfl | h
      · exact List.mem_cons_self
      · exact List.mem_cons_of_mem _ (delP_mem h)
theorem delP_sub {id : Int} : ∀ (M : List (Op × Value)), (delP id M).Sublist M
  | [] => .slnil
  | y :: L => by
    unfold delP
    split
    · exact List.sublist_cons_self _ _
    · exact (delP_sub L).cons_cons _
set_option maxRecDepth 100000 in
theorem New45 (most room : Int) (H : World) {Q : Value → World → Prop} (hq : (1 ≤ most ∧ most ≤ 100 ∧ 1 ≤ room ∧ room ≤ 1000000) → JSt (pushObj (pushObj H (.map #[] 0)) (.cells #[.int .i64 most, .int .i64 room, .int .i64 0, .map (some H.heap.size)] 78 (0, 0))) (H.heap.size + 1) H.heap.size most room [] → Q (.tuple #[p0 (H.heap.size + 1), .int .i64 0]) (pushObj (pushObj H (.map #[] 0)) (.cells #[.int .i64 most, .int .i64 room, .int .i64 0, .map (some H.heap.size)] 78 (0, 0))))
    (hq2 : ¬ (1 ≤ most ∧ most ≤ 100 ∧ 1 ≤ room ∧ room ≤ 1000000) → Q (.tuple #[.pointer none, .int .i64 7]) H) : FW X 45 #[.int .i64 most, .int .i64 room] H Q := by
  refine FW.walk (by simp [X]) Try.func45 Try.ntmps45 rfl (by simp) ?_
  simp
  by_cases hok : 1 ≤ most ∧ most ≤ 100 ∧ 1 ≤ room ∧ room ≤ 1000000
  · obtain ⟨a1, a2, a3, a4⟩ := hok
    have b1 : ¬ most < 1 := by omega
    have b2 : ¬ 100 < most := by omega
    have b3 : ¬ room < 1 := by omega
    have b4 : ¬ 1000000 < room := by omega
    simp [b1, b2, b3, b4, buildQ, fillX, szO]
    refine hq ⟨a1, a2, a3, a4⟩ ⟨by simp [bytesO], ?_, (fun x hx => absurd hx (by simp)), List.Pairwise.nil⟩
    exact (MapIs.new (K := KI)).push _
  · have hq2 := hq2 hok
    repeat' (first | refine gIf_dec (fun h => ?_) (fun h => ?_) | refine gIf_ndec (fun h => ?_) (fun h => ?_) | (exfalso; omega; done) | (simp [*]; done) | simp [*])
end Go.Proofs.Ytlpoejkleopdoaa
end
