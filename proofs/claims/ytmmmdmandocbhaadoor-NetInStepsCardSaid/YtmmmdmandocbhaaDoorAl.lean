/- Helpers of this claim: an evaluator over plain values and its laws. -/
import Derived.Test.YtmmmdmandocbhaaDoorAk
section
/- Regions that draw, for simp. -/
set_option linter.unusedVariables false
set_option linter.unusedSimpArgs false
namespace Go.Proofs.YtmmmdmandocbhaaDoor.Den
section
variable {x : Cx} {ro : Option Nat} {n : Nat} {e : Env} {ds : List Deferred} {H : World} {Q : Exit → Env → List Deferred → World → Prop}
/-- A region that draws: as OX, with the rechecks that are due at its end. -/
def DX (x : Cx) (n : Nat) (ops : Array Oper) (pairs : List (Nat × Nat)) (dsts : List (Option Tmp)) : List Oper → Env → World → List (Env × World) → (Env → World → Prop) → Prop
  | [], e, H, tr, K => Checks x.P ops (tr ++ [(e, H)]) pairs ∧ K e H
  | o :: l, e, H, tr, K =>
    okDst n o.dst = true ∧
      if wantL dsts e o.guard = true then
        match semX x.P o (evE e) H with
        | some (.value v, H1) => DX x n ops pairs dsts l (putE e o.dst v) H1 (tr ++ [(e, H)]) K
        | some (.skip, H1) => DX x n ops pairs dsts l (putE e o.dst undef) H1 (tr ++ [(e, H)]) K
        | some (.enter f args, H1) => FW x f args H1 fun v H2 => DX x n ops pairs dsts l (putE e o.dst v) H2 (tr ++ [(e, H)]) K
        | some (.round g _ t as b, H1) => RW x g t as b H1 fun v H2 => DX x n ops pairs dsts l (putE e o.dst v) H2 (tr ++ [(e, H)]) K
        | _ => False
      else DX x n ops pairs dsts l (putE e o.dst undef) H (tr ++ [(e, H)]) K
theorem DX.dl {ops : Array Oper} {K : Env → World → Prop} {pairs : List (Nat × Nat)} (hp : rePairs x.P ops = pairs) : ∀ (l : List Oper) (e : Env) (H : World) (tr : List (Env × World)), DX x n ops pairs (ops.toList.map (·.dst)) l e H tr K → DL x n ops l e H tr K
  | [], e, H, tr, h => by subst hp; exact h
  | o :: l, e, H, tr, h => by
    unfold DX at h
    unfold DL
    obtain ⟨h1, h⟩ := h
    refine ⟨h1, ?_⟩
    rw [wantL_eq]
    split
    · rename_i hw
      rw [if_pos hw] at h
      cases hs : semX x.P o (evE e) H with
      | none => rw [hs] at h; exact h.elim
      | some p =>
        obtain ⟨nx, H1⟩ := p
        rw [hs] at h
        cases nx with
        | value v => exact DX.dl hp l _ _ _ h
        | skip => exact DX.dl hp l _ _ _ h
        | enter f args => exact FW.imp h fun v H2 h2 => DX.dl hp l _ _ _ h2
        | round g f t as b => exact Ev.imp h fun r h2 => DX.dl hp l _ _ _ h2
        | _ => exact h.elim
    · rename_i hw
      rw [if_neg hw] at h
      exact DX.dl hp l _ _ _ h
theorem WP.drawP {id : Nat} {ops : List Oper} (pairs : List (Nat × Nat)) (hs : drawStatic x.P ops.toArray = true) (hp : rePairs x.P ops.toArray = pairs) (h : DX x n ops.toArray pairs (ops.map (·.dst)) ops e H [] fun e1 H1 => Q .normal e1 ds H1) : WP x ro n (.region id ops.toArray true) e ds H Q :=
  CE.drawL hs (DX.dl hp _ _ _ _ h)
theorem DL.of_OX {ops : Array Oper} {K : Env → World → Prop} (hp : rePairs x.P ops = []) : ∀ (l : List Oper) (e : Env) (H : World) (tr : List (Env × World)), OX x n (ops.toList.map (·.dst)) l e H K → DL x n ops l e H tr K
  | [], e, H, tr, h => by unfold DL; rw [hp]; exact ⟨trivial, h⟩
  | o :: l, e, H, tr, h => by
    unfold OX at h
    unfold DL
    obtain ⟨h1, h⟩ := h
    refine ⟨h1, ?_⟩
    rw [wantL_eq]
    split
    · rename_i hw
      rw [if_pos hw] at h
      cases hs : semX x.P o (evE e) H with
      | none => rw [hs] at h; exact h.elim
      | some p =>
        obtain ⟨nx, H1⟩ := p
        rw [hs] at h
        cases nx with
        | value v => exact DL.of_OX hp l _ _ _ h
        | skip => exact DL.of_OX hp l _ _ _ h
        | enter f args => exact FW.imp h fun v H2 h2 => DL.of_OX hp l _ _ _ h2
        | round g f t as b => exact Ev.imp h fun r h2 => DL.of_OX hp l _ _ _ h2
        | _ => exact h.elim
    · rename_i hw
      rw [if_neg hw] at h
      exact DL.of_OX hp l _ _ _ h
theorem WP.draw0 {id : Nat} {ops : List Oper} (hs : drawStatic x.P ops.toArray = true) (hp : rePairs x.P ops.toArray = []) (h : OX x n (ops.map (·.dst)) ops e H fun e1 H1 => Q .normal e1 ds H1) : WP x ro n (.region id ops.toArray true) e ds H Q :=
  CE.drawL hs (DL.of_OX hp _ _ _ _ h)
def stepDX (x : Cx) (n : Nat) (ops : Array Oper) (pairs : List (Nat × Nat)) (dsts : List (Option Tmp)) (l : List Oper) (e : Env) (d : Option Tmp) (tr : List (Env × World)) (r : Option (Next × World)) (K : Env → World → Prop) : Prop :=
  match r with
  | some (.value v, H1) => DX x n ops pairs dsts l (putE e d v) H1 tr K
  | some (.skip, H1) => DX x n ops pairs dsts l (putE e d undef) H1 tr K
  | some (.enter f args, H1) => FW x f args H1 fun v H2 => DX x n ops pairs dsts l (putE e d v) H2 tr K
  | some (.round g _ t as b, H1) => RW x g t as b H1 fun v H2 => DX x n ops pairs dsts l (putE e d v) H2 tr K
  | _ => False
variable {ops : Array Oper} {pairs : List (Nat × Nat)} {dsts : List (Option Tmp)} {l : List Oper} {tr : List (Env × World)} {K : Env → World → Prop}
@[simp] theorem DX_nil : DX x n ops pairs dsts [] e H tr K = (Checks x.P ops (tr ++ [(e, H)]) pairs ∧ K e H) := _root_.id rfl
@[simp] theorem DX_cons (d : Option Tmp) (op : Op) (ty : TypeId) (pos : String) (af : Array Edge) (g : Option (Nat × Bool)) :
    DX x n ops pairs dsts (⟨d, op, ty, pos, af, g⟩ :: l) e H tr K = (okDst n d = true ∧ gIf (wantL dsts e g) (stepDX x n ops pairs dsts l e d (tr ++ [(e, H)]) (semX x.P ⟨d, op, ty, pos, af, g⟩ (evE e) H) K) (DX x n ops pairs dsts l (putE e d undef) H (tr ++ [(e, H)]) K)) := _root_.id rfl
@[simp] theorem stepDX_value (d : Option Tmp) (v : Value) (H1 : World) : stepDX x n ops pairs dsts l e d tr (some (.value v, H1)) K = DX x n ops pairs dsts l (putE e d v) H1 tr K := _root_.id rfl
@[simp] theorem stepDX_skip (d : Option Tmp) (H1 : World) : stepDX x n ops pairs dsts l e d tr (some (.skip, H1)) K = DX x n ops pairs dsts l (putE e d undef) H1 tr K := _root_.id rfl
@[simp] theorem stepDX_enter (d : Option Tmp) (f : FuncId) (args : Array Value) (H1 : World) : stepDX x n ops pairs dsts l e d tr (some (.enter f args, H1)) K = FW x f args H1 fun v H2 => DX x n ops pairs dsts l (putE e d v) H2 tr K := _root_.id rfl
@[simp] theorem stepDX_none (d : Option Tmp) : stepDX x n ops pairs dsts l e d tr none K = False := _root_.id rfl
@[congr] theorem DX_congr {dsts' : List (Option Tmp)} {e' : Env} {H' : World} {tr' : List (Env × World)} (hd : tk dsts = dsts') (he : tk e = e') (hH : tk H = H') (ht : tk tr = tr') : DX x n ops pairs dsts l e H tr K = DX x n ops pairs dsts' l e' H' tr' K := by subst hd; subst he; subst hH; subst ht; rfl
@[congr] theorem stepDX_congr {d : Option Tmp} {r r' : Option (Next × World)} {e' : Env} {tr' : List (Env × World)} (he : tk e = e') (ht : tk tr = tr') (hr : tk r = r') : stepDX x n ops pairs dsts l e d tr r K = stepDX x n ops pairs dsts l e' d tr' r' K := by subst he; subst ht; subst hr; rfl
@[congr] theorem Checks_congr {P : Program} {tr' : List (Env × World)} (ht : tk tr = tr') : Checks P ops tr pairs = Checks P ops tr' pairs := by subst ht; rfl
/-- A recheck: the operation, its values then and there. -/
def reV (P : Program) (o : Oper) (dsts : List (Option Tmp)) (e : Env) (H H' : World) : Prop :=
  if wantL dsts e o.guard = true then
    match semX P o (evE e) H, semX P o (evE e) H' with
    | some (.value v, _), some (.value v', _) => (pureD P o.op (evE e)).isSome = true ∨ veq v v' = true
    | _, _ => False
  else True
theorem reV_sound {P : Program} {i : Nat} {o : Oper} {H' : World} (ho : ops[i]? = some o) (h : reV P o (ops.toList.map (·.dst)) e H H') : reOneE P ops i e H H' := by
  unfold reOneE
  rw [ho]
  simp only
  unfold reV at h
  rw [wantL_eq]
  split
  · rename_i hw
    rw [if_pos hw] at h
    split at h
    · rename_i h1 h2
      rcases h with h | h
      · exact .inl h
      · exact .inr (by rw [semX_sound _ h1, semX_sound _ h2]; exact h)
    · exact h.elim
  · trivial
theorem Checks.cons {P : Program} {i j : Nat} {pairs : List (Nat × Nat)} {o : Oper} {e1 e2 : Env} {H1 H2 : World} (ho' : ops.toList[i]? = some o) (hi : tr[i]? = some (e1, H1)) (hj : tr[j]? = some (e2, H2)) (h : reV P o (ops.toList.map (·.dst)) e1 H1 H2) (hr : Checks P ops tr pairs) : Checks P ops tr ((i, j) :: pairs) := by
  have ho : ops[i]? = some o := by rw [← Array.getElem?_toList]; exact ho'
  refine ⟨?_, hr⟩
  simp only [hi, hj]
  exact reV_sound ho h
theorem Checks.nil {P : Program} : Checks P ops tr [] := trivial
/-- The checks, one by one. -/
def NL (P : Program) (H : World) (dsts : List (Option Tmp)) : List Oper → Env → Prop
  | [], e => True
  | o :: l, e => (wantL dsts e o.guard = true → newOkV P H o (evE e) = true) ∧ NL P H dsts l e
theorem NL.ok {P : Program} {H : World} {ops : Array Oper} {e : Env} (h : NL P H (ops.toList.map (·.dst)) ops.toList e) : NOk P H ops e := by
  intro i o ho hw
  rw [wantL_eq] at hw
  have key : ∀ (l : List Oper), NL P H (ops.toList.map (·.dst)) l e → ∀ (i : Nat), l[i]? = some o → newOkV P H o (evE e) = true := by
    intro l
    induction l with
    | nil => intro _ i hi; simp at hi
    | cons a l ih =>
      intro hl i hi
      unfold NL at hl
      cases i with
      | zero =>
        simp at hi
        subst hi
        exact hl.1 hw
      | succ i => exact ih hl.2 i (by simpa using hi)
  exact key _ h i (by rw [← Array.getElem?_toList] at ho; exact ho)
theorem WP.new {id : Nat} {ops : List Oper} (hd : drawStatic x.P ops.toArray = false) (hs : newStatic ops.toArray = true) (h : OX x n (ops.map (·.dst)) ops e H fun e1 H1 => NL x.P H (ops.map (·.dst)) ops e1 ∧ Q .normal e1 ds (deadN (H1.heap.size - H.heap.size) H1)) : WP x ro n (.region id ops.toArray true) e ds H Q :=
  CE.new hd hs (OX.imp (fun e1 H1 q => ⟨NL.ok q.1, q.2⟩) _ _ _ h)
@[simp] theorem NL_nil {P : Program} {H : World} {dsts : List (Option Tmp)} {e : Env} : NL P H dsts [] e = True := _root_.id rfl
@[simp] theorem NL_cons {P : Program} {H : World} {dsts : List (Option Tmp)} {e : Env} (d : Option Tmp) (op : Op) (ty : TypeId) (pos : String) (af : Array Edge) (g : Option (Nat × Bool)) (l : List Oper) : NL P H dsts (⟨d, op, ty, pos, af, g⟩ :: l) e = ((wantL dsts e g = true → newOkV P H ⟨d, op, ty, pos, af, g⟩ (evE e) = true) ∧ NL P H dsts l e) := _root_.id rfl
end
end Go.Proofs.YtmmmdmandocbhaaDoor.Den
end
