/- Helpers of this claim: an evaluator over plain values and its laws. -/
import Derived.Test.YtmmmdmandocbhaaDoorAf
section
/- The reckoning of WP, as rules for simp. -/
set_option linter.unusedVariables false
set_option linter.unusedSimpArgs false
namespace Go.Proofs.YtmmmdmandocbhaaDoor.Den
/-- Its rule for simp is no 'rfl': a congruence that asks it counts as one that has turned something, so simp does not look at the parts that the congruence leaves out. -/
def tk {α : Type} (a : α) : α := a
@[simp] theorem tk_eq {α : Type} (a : α) : tk a = a := _root_.id rfl
/-- A branch: nothing is looked at behind it until its test is known. -/
def gIf (b : Bool) (A B : Prop) : Prop := if b = true then A else B
@[congr] theorem gIf_congr {b b' : Bool} {A B : Prop} (h : tk b = b') : gIf b A B = gIf b' A B := by subst h; rfl
@[simp] theorem gIf_true (A B : Prop) : gIf true A B = A := _root_.id rfl
@[simp] theorem gIf_false (A B : Prop) : gIf false A B = B := _root_.id rfl
theorem gIf_split {b : Bool} {A B : Prop} (h1 : b = true → A) (h2 : b = false → B) : gIf b A B := by
  cases b with
  | true => exact h1 rfl
  | false => exact h2 rfl
theorem gIf_dec {p : Prop} [Decidable p] {A B : Prop} (h1 : p → A) (h2 : ¬ p → B) : gIf (decide p) A B := by
  by_cases h : p
  · rw [decide_eq_true h]; exact h1 h
  · rw [decide_eq_false h]; exact h2 h
theorem gIf_ndec {p : Prop} [Decidable p] {A B : Prop} (h1 : p → B) (h2 : ¬ p → A) : gIf (!decide p) A B := by
  by_cases h : p
  · rw [decide_eq_true h]; exact h1 h
  · rw [decide_eq_false h]; exact h2 h
theorem gIf_nb {b : Bool} {A B : Prop} (h1 : b = true → B) (h2 : b = false → A) : gIf (!b) A B := by
  cases b with
  | true => exact h1 rfl
  | false => exact h2 rfl
section
variable {x : Cx} {ro : Option Nat} {n : Nat} {e : Env} {ds : List Deferred} {H : World} {Q : Exit → Env → List Deferred → World → Prop}
@[simp] theorem WP_skip : WP x ro n .skip e ds H Q = Q .normal e ds H := _root_.id rfl
@[simp] theorem WP_label (l : Nat) : WP x ro n (.label l) e ds H Q = Q .normal e ds H := _root_.id rfl
@[simp] theorem WP_ret : WP x ro n .ret e ds H Q = Q .ret e ds H := _root_.id rfl
@[simp] theorem WP_exit (id : Nat) : WP x ro n (.exit id) e ds H Q = Q (.exit id) e ds H := _root_.id rfl
@[simp] theorem WP_seq (a b : Code) : WP x ro n (.seq a b) e ds H Q = WP x ro n a e ds H (thenE (fun e ds H => WP x ro n b e ds H Q) Q) := _root_.id rfl
@[simp] theorem WP_block (id : Nat) (c : Code) : WP x ro n (.block id c) e ds H Q = WP x ro n c e ds H (blockE id Q) := _root_.id rfl
@[simp] theorem WP_region (id : Nat) (ops : List Oper) : WP x ro n (.region id ops.toArray false) e ds H Q = OX x n (ops.map (·.dst)) ops e H fun e1 H1 => Q .normal e1 ds H1 := _root_.id rfl
@[simp] theorem WP_loop (c : Code) : WP x ro n (.loop c) e ds H Q = CE x ro n (.loop c) e ds H Q := _root_.id rfl
def condX (v : Value) (A B : Prop) : Prop :=
  match boolV v with
  | some t => gIf t A B
  | none => False
@[simp] theorem WP_cond (c : Operand) (a b : Code) : WP x ro n (.cond c a b) e ds H Q = condX (evE e c) (WP x ro n a e ds H Q) (WP x ro n b e ds H Q) := _root_.id rfl
@[simp] theorem condX_bool (t : Bool) (A B : Prop) : condX (.bool t) A B = gIf t A B := _root_.id rfl
@[congr] theorem condX_congr {v v' : Value} {A B : Prop} (h : tk v = v') : condX v A B = condX v' A B := by subst h; rfl
@[simp] theorem thenE_normal (K : Env → List Deferred → World → Prop) : thenE K Q .normal e ds H = K e ds H := _root_.id rfl
@[simp] theorem thenE_ret (K : Env → List Deferred → World → Prop) : thenE K Q .ret e ds H = Q .ret e ds H := _root_.id rfl
@[simp] theorem thenE_exit (K : Env → List Deferred → World → Prop) (id : Nat) : thenE K Q (.exit id) e ds H = Q (.exit id) e ds H := _root_.id rfl
@[simp] theorem blockE_normal (id : Nat) : blockE id Q .normal e ds H = Q .normal e ds H := _root_.id rfl
@[simp] theorem blockE_ret (id : Nat) : blockE id Q .ret e ds H = Q .ret e ds H := _root_.id rfl
@[simp] theorem blockE_exit (id id' : Nat) : blockE id Q (.exit id') e ds H = if id' = id then Q .normal e ds H else Q (.exit id') e ds H := _root_.id rfl

def stepX (x : Cx) (n : Nat) (dsts : List (Option Tmp)) (l : List Oper) (e : Env) (d : Option Tmp) (r : Option (Next × World)) (K : Env → World → Prop) : Prop :=
  match r with
  | some (.value v, H1) => OX x n dsts l (putE e d v) H1 K
  | some (.skip, H1) => OX x n dsts l (putE e d undef) H1 K
  | some (.enter f args, H1) => FW x f args H1 fun v H2 => OX x n dsts l (putE e d v) H2 K
  | some (.round g _ t as b, H1) => RW x g t as b H1 fun v H2 => OX x n dsts l (putE e d v) H2 K
  | _ => False
variable {dsts : List (Option Tmp)} {l : List Oper} {K : Env → World → Prop}
@[simp] theorem OX_nil : OX x n dsts [] e H K = K e H := _root_.id rfl
@[simp] theorem OX_cons (d : Option Tmp) (op : Op) (ty : TypeId) (pos : String) (af : Array Edge) (g : Option (Nat × Bool)) :
    OX x n dsts (⟨d, op, ty, pos, af, g⟩ :: l) e H K = (okDst n d = true ∧ gIf (wantL dsts e g) (stepX x n dsts l e d (semX x.P ⟨d, op, ty, pos, af, g⟩ (evE e) H) K) (OX x n dsts l (putE e d undef) H K)) := _root_.id rfl
@[simp] theorem stepX_value (d : Option Tmp) (v : Value) (H1 : World) : stepX x n dsts l e d (some (.value v, H1)) K = OX x n dsts l (putE e d v) H1 K := _root_.id rfl
@[simp] theorem stepX_skip (d : Option Tmp) (H1 : World) : stepX x n dsts l e d (some (.skip, H1)) K = OX x n dsts l (putE e d undef) H1 K := _root_.id rfl
@[simp] theorem stepX_enter (d : Option Tmp) (f : FuncId) (args : Array Value) (H1 : World) : stepX x n dsts l e d (some (.enter f args, H1)) K = FW x f args H1 fun v H2 => OX x n dsts l (putE e d v) H2 K := _root_.id rfl
@[simp] theorem stepX_round (d : Option Tmp) (g f : Nat) (t : Array Value) (as b : Code) (H1 : World) : stepX x n dsts l e d (some (.round g f t as b, H1)) K = RW x g t as b H1 fun v H2 => OX x n dsts l (putE e d v) H2 K := _root_.id rfl
@[simp] theorem stepX_none (d : Option Tmp) : stepX x n dsts l e d none K = False := _root_.id rfl
@[simp] theorem okDst_some (d : Nat) : okDst n (some d) = decide (d < n) := _root_.id rfl
@[simp] theorem okDst_none : okDst n none = true := _root_.id rfl
@[simp] theorem wantL_none : wantL dsts e none = true := _root_.id rfl
@[simp] theorem wantL_some (j : Nat) (w : Bool) : wantL dsts e (some (j, w)) = (yieldL dsts e j == some w) := _root_.id rfl
@[congr] theorem WP_congr {c : Code} {e' : Env} {H' : World} (he : tk e = e') (hH : tk H = H') : WP x ro n c e ds H Q = WP x ro n c e' ds H' Q := by subst he; subst hH; rfl
@[congr] theorem OX_congr {dsts' : List (Option Tmp)} {e' : Env} {H' : World} (hd : tk dsts = dsts') (he : tk e = e') (hH : tk H = H') : OX x n dsts l e H K = OX x n dsts' l e' H' K := by subst hd; subst he; subst hH; rfl
@[congr] theorem stepX_congr {d : Option Tmp} {r r' : Option (Next × World)} {e' : Env} (he : tk e = e') (hr : tk r = r') : stepX x n dsts l e d r K = stepX x n dsts l e' d r' K := by subst he; subst hr; rfl
@[congr] theorem thenE_congr {K : Env → List Deferred → World → Prop} {ex ex' : Exit} {e' : Env} {H' : World} (hx : tk ex = ex') (he : tk e = e') (hH : tk H = H') : thenE K Q ex e ds H = thenE K Q ex' e' ds H' := by subst hx; subst he; subst hH; rfl
@[congr] theorem blockE_congr {id : Nat} {ex ex' : Exit} {e' : Env} {H' : World} (hx : tk ex = ex') (he : tk e = e') (hH : tk H = H') : blockE id Q ex e ds H = blockE id Q ex' e' ds H' := by subst hx; subst he; subst hH; rfl
@[congr] theorem CE_congr {c : Code} {e' : Env} {H' : World} (he : tk e = e') (hH : tk H = H') : CE x ro n c e ds H Q = CE x ro n c e' ds H' Q := by subst he; subst hH; rfl
@[congr] theorem FW_congr {f : FuncId} {args args' : Array Value} {H' : World} {K : Value → World → Prop} (he : tk args = args') (hH : tk H = H') : FW x f args H K = FW x f args' H' K := by subst he; subst hH; rfl
def yieldV : Value → Option Bool
  | .bool b => some b
  | _ => none
@[simp] theorem yieldV_undef : yieldV undef = none := _root_.id rfl
@[simp] theorem yieldV_bool (b : Bool) : yieldV (.bool b) = some b := _root_.id rfl
@[simp] theorem yieldL_of (j : Nat) : yieldL dsts e j = match dsts[j]? with | some (some d) => yieldV (lk e d) | _ => none := by
  unfold yieldL
  split
  · rename_i h; rw [h]; rfl
  · rename_i h
    split
    · rename_i d hd; exact absurd hd (h d)
    · rfl
@[simp] theorem putE_some (d : Nat) (v : Value) : putE e (some d) v = (d, v) :: e := _root_.id rfl
@[simp] theorem putE_none (v : Value) : putE e none v = e := _root_.id rfl
@[simp] theorem lk_hd (i : Nat) (v : Value) (e : Env) (j : Nat) : lk ((i, v) :: e) j = if j = i then v else lk e j := by simp [lk]
@[simp] theorem evE_tmp (t : Nat) : evE e (.tmp t) = lk e t := _root_.id rfl
@[simp] theorem evE_const (v : Value) : evE e (.const v) = v := _root_.id rfl
@[simp] theorem evE_func (f : Nat) : evE e (.func f) = .func (.func f) #[] #[] := _root_.id rfl
@[simp] theorem envOf_nil (i : Nat) : envOf i [] = [] := _root_.id rfl
@[simp] theorem envOf_cons (i : Nat) (v : Value) (l : List Value) : envOf i (v :: l) = (i, v) :: envOf (i + 1) l := _root_.id rfl
theorem OX_mono {dsts : List (Option Tmp)} {K K' : Env → World → Prop} (hK : ∀ e H, K e H → K' e H) : ∀ (l : List Oper) (e : Env) (H : World), OX x n dsts l e H K → OX x n dsts l e H K'
  | [], e, H, h => hK e H h
  | o :: l, e, H, h => by
    unfold OX at h ⊢
    obtain ⟨h1, h⟩ := h
    refine ⟨h1, ?_⟩
    split
    · rename_i hw
      rw [if_pos hw] at h
      cases hs : semX x.P o (evE e) H with
      | none => rw [hs] at h; exact h
      | some p =>
        obtain ⟨nx, H1⟩ := p
        rw [hs] at h
        cases nx with
        | value v => exact OX_mono hK l _ _ h
        | skip => exact OX_mono hK l _ _ h
        | enter f args => exact FW.imp h fun v H2 h2 => OX_mono hK l _ _ h2
        | round g f t as b => exact Ev.imp h fun r h2 => OX_mono hK l _ _ h2
        | _ => exact h
    · rename_i hw
      rw [if_neg hw] at h
      exact OX_mono hK l _ _ h
theorem DL_mono {ops : Array Oper} {K K' : Env → World → Prop} (hK : ∀ e H, K e H → K' e H) : ∀ (l : List Oper) (e : Env) (H : World) (tr : List (Env × World)), DL x n ops l e H tr K → DL x n ops l e H tr K'
  | [], e, H, tr, h => ⟨h.1, hK e H h.2⟩
  | o :: l, e, H, tr, h => by
    unfold DL at h ⊢
    obtain ⟨h1, h⟩ := h
    refine ⟨h1, ?_⟩
    split
    · rename_i hw
      rw [if_pos hw] at h
      cases hs : semX x.P o (evE e) H with
      | none => rw [hs] at h; exact h
      | some p =>
        obtain ⟨nx, H1⟩ := p
        rw [hs] at h
        cases nx with
        | value v => exact DL_mono hK l _ _ _ h
        | skip => exact DL_mono hK l _ _ _ h
        | enter f args => exact FW.imp h fun v H2 h2 => DL_mono hK l _ _ _ h2
        | round g f t as b => exact Ev.imp h fun r h2 => DL_mono hK l _ _ _ h2
        | _ => exact h
    · rename_i hw
      rw [if_neg hw] at h
      exact DL_mono hK l _ _ _ h
theorem WP_mono : ∀ (c : Code) (e : Env) (ds : List Deferred) (H : World) (Q Q' : Exit → Env → List Deferred → World → Prop), (∀ ex e ds H, Q ex e ds H → Q' ex e ds H) → WP x ro n c e ds H Q → WP x ro n c e ds H Q'
  | .skip, e, ds, H, Q, Q', hq, h => hq _ _ _ _ h
  | .label _, e, ds, H, Q, Q', hq, h => hq _ _ _ _ h
  | .ret, e, ds, H, Q, Q', hq, h => hq _ _ _ _ h
  | .exit id, e, ds, H, Q, Q', hq, h => hq _ _ _ _ h
  | .seq a b, e, ds, H, Q, Q', hq, h => WP_mono a _ _ _ _ _ (fun ex e ds H q => by
      cases ex with
      | normal => exact WP_mono b _ _ _ _ _ hq q
      | _ => exact hq _ _ _ _ q) h
  | .cond c a b, e, ds, H, Q, Q', hq, h => by
    rw [WP_cond] at h ⊢
    unfold condX at h ⊢
    split at h
    · rename_i t ht
      cases t with
      | true => exact WP_mono a _ _ _ _ _ hq h
      | false => exact WP_mono b _ _ _ _ _ hq h
    · exact h
  | .block id c, e, ds, H, Q, Q', hq, h => WP_mono c _ _ _ _ _ (fun ex e ds H q => by
      cases ex with
      | exit id' =>
        rw [blockE_exit] at q ⊢
        split at q
        · rename_i h1; rw [if_pos h1]; exact hq _ _ _ _ q
        · rename_i h1; rw [if_neg h1]; exact hq _ _ _ _ q
      | _ => exact hq _ _ _ _ q) h
  | .region id ops false, e, ds, H, Q, Q', hq, h => OX_mono (fun e H q => hq _ _ _ _ q) _ _ _ h
  | .region id ops true, e, ds, H, Q, Q', hq, h => CE.imp h hq
  | .loop c, e, ds, H, Q, Q', hq, h => CE.imp h hq
  | .rangeFunc g ps as b, e, ds, H, Q, Q', hq, h => CE.imp h hq
  | .scope _, _, _, _, _, _, _, h => h
  | .goto _, _, _, _, _, _, _, h => h
  | .refuse _, _, _, _, _, _, _, h => h
attribute [simp] ok_tmp ok_func ok_bool ok_int ok_string ok_slice ok_ptr ok_map ok_nilFunc ok_nilIface
end

section
variable {P : Program} {ρ : Operand → Value} {H : World}
variable {d : Option Tmp} {ty : TypeId} {pos : String} {af : Array Edge} {g : Option (Nat × Bool)}
def pickX (c a b : Value) (H : World) : Option (Next × World) := match c with | .bool t => some (.value (if t = true then a else b), H) | _ => none
@[simp] theorem pickX_bool (t : Bool) (a b : Value) : pickX (.bool t) a b H = some (.value (if t = true then a else b), H) := _root_.id rfl
theorem all1 {x : Operand} : (#[x] : Array Operand).all operandOk = operandOk x := by simp
theorem all2 {x y : Operand} : (#[x, y] : Array Operand).all operandOk = (operandOk x && operandOk y) := by simp
@[simp] theorem X_move {x : Operand} : semX P ⟨d, .move x, ty, pos, af, g⟩ ρ H = if operandOk x = true then some (.value (ρ x), H) else none := by simp [semX, Op.operands]
@[simp] theorem X_assign {x : Operand} : semX P ⟨d, .assign x, ty, pos, af, g⟩ ρ H = if operandOk x = true then some (.value (ρ x), H) else none := by simp [semX, Op.operands]
@[simp] theorem X_pick {c a b : Operand} : semX P ⟨d, .pick c a b, ty, pos, af, g⟩ ρ H = if operandOk c = true ∧ operandOk a = true ∧ operandOk b = true then pickX (ρ c) (ρ a) (ρ b) H else none := by
  simp only [semX, Op.operands, pickX]
  simp [and_assoc]
  rfl
def allocX (P : Program) (e : TypeId) (H : World) : Option (Next × World) := match P.info? e with
  | some inf => (match inf.zero with | some z => some (.value (.pointer (some ⟨szO H, 0, none⟩)), pushObj H (.cells z.cells e (0, 0))) | none => none)
  | none => none
@[simp] theorem X_alloc {e : TypeId} : semX P ⟨d, .alloc e, ty, pos, af, g⟩ ρ H = allocX P e H := by
  simp [semX, Op.operands]; rfl
@[simp] theorem X_box {e : TypeId} {x : Operand} : semX P ⟨d, .box e x, ty, pos, af, g⟩ ρ H = if operandOk x = true then some (.value (.pointer (some ⟨szO H, 0, none⟩)), pushObj H (.cells (ρ x).cells e (0, 0))) else none := by simp [semX, Op.operands]
@[simp] theorem X_build {t : TypeId} {ps : List (Nat × Operand)} : semX P ⟨d, .build t ps.toArray, ty, pos, af, g⟩ ρ H = if (ps.map (·.2)).all operandOk = true then qX H (buildQ P t (ps.map fun p => (p.1, ρ p.2))) else none := by
  have h : (Op.build t ps.toArray).operands.all operandOk = (ps.map (·.2)).all operandOk := by simp [Op.operands]
  unfold semX
  split
  · rename_i h1; rw [if_pos (h ▸ h1)]
  · rename_i h1; rw [if_neg (h ▸ h1)]
@[simp] theorem X_buildSlice {t n : Nat} {ps : List (Nat × Operand)} : semX P ⟨d, .buildSlice t n ps.toArray, ty, pos, af, g⟩ ρ H = if (ps.map (·.2)).all operandOk = true then buildSliceX P t n (ps.map fun p => (p.1, ρ p.2)) H else none := by
  have h : (Op.buildSlice t n ps.toArray).operands.all operandOk = (ps.map (·.2)).all operandOk := by simp [Op.operands]
  unfold semX
  split
  · rename_i h1; rw [if_pos (h ▸ h1)]
  · rename_i h1; rw [if_neg (h ▸ h1)]
@[simp] theorem X_load {t : TypeId} {x : Operand} : semX P ⟨d, .load t x, ty, pos, af, g⟩ ρ H = if operandOk x = true then loadX P t (ρ x) H else none := by simp [semX, Op.operands]
@[simp] theorem X_store {t : TypeId} {x y : Operand} : semX P ⟨d, .store t x y, ty, pos, af, g⟩ ρ H = if operandOk x = true ∧ operandOk y = true then storeX P t (ρ x) (ρ y) H else none := by simp [semX, Op.operands]
@[simp] theorem X_bin {op : BinOp} {t u : TypeId} {x y : Operand} : semX P ⟨d, .binOp op t x y u, ty, pos, af, g⟩ ρ H = if operandOk x = true ∧ operandOk y = true then binX P op t x y (ρ x) (ρ y) H else none := by simp [semX, Op.operands]
@[simp] theorem X_un {op : UnOp} {t : TypeId} {x : Operand} : semX P ⟨d, .unOp op t x, ty, pos, af, g⟩ ρ H = if operandOk x = true then qX H (unQ op (ρ x)) else none := by simp [semX, Op.operands]
@[simp] theorem X_conv {s t : TypeId} {x : Operand} : semX P ⟨d, .convert s t x, ty, pos, af, g⟩ ρ H = if operandOk x = true then convX P s t (ρ x) H else none := by simp [semX, Op.operands]
@[simp] theorem X_makeFunc {f : Nat} {fs cs : List Operand} : semX P ⟨d, .makeFunc (.func f) fs.toArray cs.toArray, ty, pos, af, g⟩ ρ H = if (fs ++ cs).all operandOk = true then some (.value (.func (.func f) (fs.map ρ).toArray (cs.map ρ).toArray), H) else none := by
  simp only [semX, Op.operands]
  simp
@[simp] theorem X_makeMap {t : TypeId} : semX P ⟨d, .makeMap t none, ty, pos, af, g⟩ ρ H = some (.value (.map (some (szO H))), pushObj H (.map #[] 0)) := by simp [semX, Op.operands]
@[simp] theorem X_makeSlice {t : TypeId} {x y : Operand} : semX P ⟨d, .makeSlice t x y, ty, pos, af, g⟩ ρ H = if operandOk x = true ∧ operandOk y = true then makeSliceX P t (ρ x) (ρ y) H else none := by simp [semX, Op.operands]
def okOpt : Option Operand → Bool
  | none => true
  | some x => operandOk x
@[simp] theorem okOpt_none : okOpt none = true := _root_.id rfl
@[simp] theorem okOpt_some (x : Operand) : okOpt (some x) = operandOk x := _root_.id rfl
@[simp] theorem X_slice {t : TypeId} {x : Operand} {lo hi mx : Option Operand} : semX P ⟨d, .slice t x lo hi mx, ty, pos, af, g⟩ ρ H = if operandOk x = true ∧ okOpt lo = true ∧ okOpt hi = true ∧ okOpt mx = true then sliceX P t (ρ x) (lo.map ρ) (hi.map ρ) (mx.map ρ) H else none := by
  have h : (Op.slice t x lo hi mx).operands.all operandOk = (operandOk x && (okOpt lo && (okOpt hi && okOpt mx))) := by
    cases lo <;> cases hi <;> cases mx <;> simp [Op.operands, okOpt, Bool.and_assoc]
  unfold semX
  split
  · rename_i h1
    have h1 := h ▸ h1
    simp only [Bool.and_eq_true] at h1
    rw [if_pos h1]
  · rename_i h1
    have h1 : ¬ (operandOk x && (okOpt lo && (okOpt hi && okOpt mx))) = true := h ▸ h1
    simp only [Bool.and_eq_true] at h1
    rw [if_neg h1]
@[simp] theorem X_fieldAddr {s f : Nat} {x : Operand} : semX P ⟨d, .fieldAddr s x f, ty, pos, af, g⟩ ρ H = if operandOk x = true then qX H (fieldAddrQ P s f (ρ x)) else none := by simp [semX, Op.operands]
@[simp] theorem X_field {s f : Nat} {x : Operand} : semX P ⟨d, .field s x f, ty, pos, af, g⟩ ρ H = if operandOk x = true then qX H (fieldQ P s f (ρ x)) else none := by simp [semX, Op.operands]
@[simp] theorem X_indexAddr {t : TypeId} {x y : Operand} : semX P ⟨d, .indexAddr t x y, ty, pos, af, g⟩ ρ H = if operandOk x = true ∧ operandOk y = true then qX H (indexAddrQ P t (ρ x) (ρ y)) else none := by simp [semX, Op.operands]
@[simp] theorem X_index {t : TypeId} {x y : Operand} : semX P ⟨d, .index t x y, ty, pos, af, g⟩ ρ H = if operandOk x = true ∧ operandOk y = true then qX H (indexQ P t (ρ x) (ρ y)) else none := by simp [semX, Op.operands]
@[simp] theorem X_extract {k : Nat} {x : Operand} : semX P ⟨d, .extract x k, ty, pos, af, g⟩ ρ H = if operandOk x = true then qX H (extractQ k (ρ x)) else none := by simp [semX, Op.operands]
@[simp] theorem X_lookup {t : TypeId} {m k : Operand} {ok : Bool} : semX P ⟨d, .lookup t m k ok, ty, pos, af, g⟩ ρ H = if operandOk m = true ∧ operandOk k = true then qX H (lookupD P t (ρ m) (ρ k) ok H) else none := by
  simp only [semX, Op.operands]; simp
  congr 1
  cases lookupD P t (ρ m) (ρ k) ok H <;> rfl
def mapX (r : Option World) : Option (Next × World) := match r with | some H1 => some (.skip, H1) | none => none
@[simp] theorem mapX_some (H1 : World) : mapX (some H1) = some (.skip, H1) := _root_.id rfl
@[simp] theorem X_mapUpdate {t : TypeId} {m k v : Operand} : semX P ⟨d, .mapUpdate t m k v, ty, pos, af, g⟩ ρ H = if operandOk m = true ∧ operandOk k = true ∧ operandOk v = true then mapX (mapUpdateD P t (ρ m) (ρ k) (ρ v) H) else none := by
  simp only [semX, Op.operands]; simp [and_assoc]
  congr 1
  cases mapUpdateD P t (ρ m) (ρ k) (ρ v) H <;> rfl
@[simp] theorem X_insert {t : TypeId} {m k v : Operand} : semX P ⟨d, .insert t m k v, ty, pos, af, g⟩ ρ H = if operandOk m = true ∧ operandOk k = true ∧ operandOk v = true then mapX (mapUpdateD P t (ρ m) (ρ k) (ρ v) H) else none := by
  simp only [semX, Op.operands]; simp [and_assoc]
  congr 1
  cases mapUpdateD P t (ρ m) (ρ k) (ρ v) H <;> rfl
@[simp] theorem X_nilCheck {x : Operand} : semX P ⟨d, .nilCheck x, ty, pos, af, g⟩ ρ H = if operandOk x = true then nilCheckX (ρ x) H else none := by simp [semX, Op.operands]
@[simp] theorem X_builtin {b : Builtin} {args : List Operand} {ts : Array TypeId} : semX P ⟨d, .call ⟨.builtin b, args.toArray, ts⟩, ty, pos, af, g⟩ ρ H = if args.all operandOk = true then builtinX P b ts (args.map ρ).toArray H else none := by
  simp only [semX, Op.operands, Call.operands]; simp
@[simp] theorem X_call {f : Operand} {args : List Operand} {ts : Array TypeId} : semX P ⟨d, .call ⟨.value f, args.toArray, ts⟩, ty, pos, af, g⟩ ρ H = if operandOk f = true ∧ args.all operandOk = true then callX P (ρ f) (args.map ρ).toArray H else none := by
  simp only [semX, Op.operands, Call.operands]; simp
@[congr] theorem semX_congr {o : Oper} {kk : Nat} (hk : tk 0 = kk) : semX P o ρ H = semX P o ρ H := rfl
@[congr] theorem evE_congr {e : Env} {o o' : Operand} (h : tk o = o') : evE e o = evE e o' := by subst h; rfl
@[simp] theorem qX_some (v : Value) : qX H (some v) = some (.value v, H) := _root_.id rfl
@[simp] theorem qX_none : qX H none = none := _root_.id rfl
end
end Go.Proofs.YtmmmdmandocbhaaDoor.Den
end
