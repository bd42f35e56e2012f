/- Helpers of this claim: an evaluator over plain values and its laws. -/
import Derived.Test.YtmmmdmandocbhaaDoorAl
section
/- '==' between structs of plain fields. -/
set_option linter.unusedVariables false
set_option linter.unusedSimpArgs false
namespace Go.Proofs.YtmmmdmandocbhaaDoor.Den
variable {P : Program} {H : World}
def eqV (P : Program) (t : TypeId) (a b : Value) : Option Bool :=
  match P.underlying t, a, b with
  | some .bool, .bool x, .bool y => some (x == y)
  | some (.int _), .int k x, .int k' y => if k = k' then some (decide (x = y)) else none
  | some .string, .string x, .string y => some (x == y)
  | _, _, _ => none
def eqFs (P : Program) : List Field → Array Value → Array Value → Option Bool
  | [], _, _ => some true
  | f :: fs, xs, ys => if f.name ≠ "_" then match partQ P f.type xs f.offset, partQ P f.type ys f.offset with
      | some a, some b => match eqV P f.type a b with
        | some r => if r = true then eqFs P fs xs ys else some false
        | none => none
      | _, _ => none
    else eqFs P fs xs ys
theorem eqV_run {t : TypeId} {a b : Value} {r : Bool} (h : eqV P t a b = some r) (d : Nat) : (Op.equalIn (d + 1) t a b).run P H = .ok r H := by
  unfold eqV at h
  split at h
  · rename_i hu; injection h with h; subst h
    simp only [Op.equalIn, Sem.run_bind, run_underlying' hu, Result.andThen_ok, Sem.run_pure]
  · rename_i hu
    replace h := of_if' h
    obtain ⟨rfl, h⟩ := h
    injection h with h; subst h
    simp only [Op.equalIn, Sem.run_bind, run_underlying' hu, Result.andThen_ok, if_true, Sem.run_pure]
    rfl
  · rename_i hu; injection h with h; subst h
    simp only [Op.equalIn, Sem.run_bind, run_underlying' hu, Result.andThen_ok, Sem.run_pure]
  · cases h
theorem eqFs_run {xs ys : Array Value} (d : Nat) : ∀ (fs : List Field) (r : Bool), eqFs P fs xs ys = some r →
    (forIn fs ((none, ()) : Option Bool × Unit) fun f __s => (if f.name ≠ "_" then do
        let a ← part f.type xs f.offset
        let b ← part f.type ys f.offset
        let q ← Op.equalIn (d + 1) f.type a b
        if (!q) = true then pure (ForInStep.done (some false, ())) else pure (ForInStep.yield (none, ()))
      else pure (ForInStep.yield (none, ())) : Sem (ForInStep (Option Bool × Unit)))).run P H = .ok (if r = true then (none, ()) else (some false, ())) H
  | [], r, h => by
    cases h
    rw [List.forIn_nil]; rfl
  | f :: fs, r, h => by
    rw [List.forIn_cons]
    unfold eqFs at h
    split at h
    · rename_i hn
      split at h
      · rename_i a b ha hb
        split at h
        · rename_i q hq
          simp only [if_pos hn, Sem.run_bind, run_part ha, run_part hb, eqV_run hq, Result.andThen_ok]
          split at h
          · rename_i hq1
            subst hq1
            simp only [Bool.not_true, Bool.false_eq_true, if_false, Sem.run_pure, Result.andThen_ok]
            exact eqFs_run d fs r h
          · rename_i hq1
            have hq1 : q = false := by simpa using hq1
            subst hq1
            injection h with h; subst h
            simp only [Bool.not_false, if_true, Sem.run_pure, Result.andThen_ok, Bool.false_eq_true, if_false]
        · cases h
      · cases h
    · rename_i hn
      simp only [if_neg hn, Sem.run_bind, Sem.run_pure, Result.andThen_ok]
      exact eqFs_run d fs r h
theorem eqStruct_run {t : TypeId} {fs : Array Field} {xs ys : Array Value} {r : Bool} (hu : P.underlying t = some (.struct fs)) (hst : P.stoodInHeld t = false) (h : eqFs P fs.toList xs ys = some r) (d : Nat) :
    (Op.equalIn (d + 2) t (.agg xs) (.agg ys)).run P H = .ok r H := by
  have key := eqFs_run (H := H) d fs.toList r h
  show (Op.equalIn ((d + 1) + 1) t (.agg xs) (.agg ys)).run P H = .ok r H
  generalize d + 1 = e at key ⊢
  simp only [Op.equalIn, Sem.run_bind, run_underlying' hu, Result.andThen_ok, run_program, hst, Bool.false_eq_true, if_false, ← Array.forIn_toList]
  rw [key]
  cases r <;> rfl
theorem binV_struct {t : TypeId} {x y : Operand} {fs : Array Field} {xs ys : Array Value} {r : Bool} (hu : P.underlying t = some (.struct fs)) (hst : P.stoodInHeld t = false) (hg : P.eqGuardType P.depth t = false)
    (hx : xs.all flat1 = true) (hy : ys.all flat1 = true) (h : eqFs P fs.toList xs ys = some r) :
    binX P .eql t x y (.agg xs) (.agg ys) H = some (.value (.bool r), H) ∧ binX P .neq t x y (.agg xs) (.agg ys) H = some (.value (.bool !r), H) := by
  have hgd : ∀ op, (op = .eql ∨ op = .neq) → (Go.eqGuard op t x y (.agg xs) (.agg ys)).run P H = .ok () H := by
    rintro op (rfl | rfl) <;> simp [Go.eqGuard, run_program, hg]
  have he : (Op.equal t (.agg xs) (.agg ys)).run P H = .ok r H := eqStruct_run hu hst h 9998
  constructor
  · unfold binX binV
    simp only [vNilOp, vNil, Option.map_none]
    have h1 : flatFor .eql (.agg xs) = true := hx
    have h2 : flatFor .eql (.agg ys) = true := hy
    simp only [h1, h2, Bool.and_self, if_true, Sem.run_bind, hgd .eql (.inl rfl), Result.andThen_ok, Go.binOp, he, Sem.run_pure, okRun, flat1]
  · unfold binX binV
    simp only [vNilOp, vNil, Option.map_none]
    have h1 : flatFor .neq (.agg xs) = true := hx
    have h2 : flatFor .neq (.agg ys) = true := hy
    simp only [h1, h2, Bool.and_self, if_true, Sem.run_bind, hgd .neq (.inr rfl), Result.andThen_ok, Go.binOp, he, Sem.run_pure, okRun, flat1]
theorem sB_beq (a b : List UInt8) : (sB a == sB b) = decide (a = b) := by
  rw [Bool.eq_iff_iff]
  constructor
  · intro h; simpa using bytes_beq h
  · intro h
    have h : a = b := by simpa using h
    subst h
    show ((sB a).data == (sB a).data) = true
    simp
end Go.Proofs.YtmmmdmandocbhaaDoor.Den
end
