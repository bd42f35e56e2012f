/- Helpers of this claim: an evaluator over plain values and its laws. -/
import Derived.Test.YtmmmdmandocbhaaDoorAh
section
/- Rules for simp: memory, slices, calls. -/
set_option linter.unusedVariables false
set_option linter.unusedSimpArgs false
namespace Go.Proofs.YtmmmdmandocbhaaDoor.Den
variable {P : Program} {H : World} {t : TypeId} {x y : Operand}
attribute [simp] size_push size_set size_world0 get_push get_set set_push get_world0 kill_set setD_set set_set

def isSliceT (P : Program) (t : TypeId) : Bool := match P.underlying t with | some (.slice _) => true | _ => false
def isStrT (P : Program) (t : TypeId) : Bool := match P.underlying t with | some .string => true | _ => false

attribute [simp] isSliceT isStrT aggT
/-! ### loads and stores -/
@[simp] theorem loadX_rf (cs : List Value) : loadX P t (rf cs.toArray) H = match P.underlying t, P.info? t with
    | some d, some inf => if cs.length = inf.size then (if aggT d = true then some (.value (.agg cs.toArray), H) else qX H cs[0]?) else none
    | _, _ => none := by
  unfold loadX vLoad rf
  simp only
  cases P.underlying t with
  | none => rfl
  | some d =>
    cases P.info? t with
    | none => rfl
    | some inf =>
      simp only [true_and, List.size_toArray]
      split
      · rename_i u hu
        split at hu
        · split at hu
          · injection hu with hu; subst hu; rename_i h1 h2; rw [if_pos h1, if_pos h2]
          · rename_i h1 h2; rw [if_pos h1, if_neg h2]; simp at hu; rw [hu]; rfl
        · cases hu
      · rename_i hu
        split at hu
        · split at hu
          · cases hu
          · rename_i h1 h2; rw [if_pos h1, if_neg h2]; simp at hu; subst hu; rfl
        · rename_i h1; rw [if_neg h1]
@[simp] theorem loadX_ptr (a : Addr) : loadX P t (.pointer (some a)) H = match P.underlying t, P.info? t with
    | some dd, some inf => if aggT dd = true then qX H ((rowAt H a inf.size).map .agg) else qX H (cellAt H a)
    | _, _ => none := by
  unfold loadX
  simp only [vLoad]
  cases P.underlying t with
  | none => rfl
  | some d =>
    cases P.info? t with
    | none => rfl
    | some inf =>
      simp only
      split
      · cases rowAt H a inf.size <;> rfl
      · cases cellAt H a <;> rfl
@[simp] theorem rowAt_mk (b o n : Nat) : rowAt H ⟨b, o, none⟩ n = match getO H b with
    | some (.cells cs _ _) => if o + n ≤ cs.size then some (cs.extract o (o + n)) else none
    | _ => none := by
  unfold rowAt; simp only [true_and]; rfl
@[simp] theorem cellAt_mk (b o : Nat) : cellAt H ⟨b, o, none⟩ = match getO H b with
    | some (.cells cs _ _) => cs[o]?
    | _ => none := by
  unfold cellAt; simp only [if_true]; rfl
@[simp] theorem storeX_ptr (b o : Nat) (v : Value) : storeX P t (.pointer (some ⟨b, o, none⟩)) v H = match P.info? t, getO H b with
    | some inf, some (.cells cs e fr) => if v.cells.size = inf.size ∧ o + v.cells.size ≤ cs.size ∧ mayW fr = true ∧ v.cells.all Value.oneCell' = true then some (.skip, setO H b (.cells (overL cs o v.cells.toList) e fr)) else none
    | _, _ => none := by
  unfold storeX; simp only [true_and]; rfl
@[simp] theorem mayW_00 : mayW (0, 0) = true := _root_.id rfl
@[simp] theorem mayW_10 : mayW (1, 0) = true := _root_.id rfl
@[simp] theorem overL_nil (cs : Array Value) (o : Nat) : overL cs o [] = cs := _root_.id rfl
@[simp] theorem overL_cons (cs : Array Value) (o : Nat) (v : Value) (l : List Value) : overL cs o (v :: l) = overL (cs.setIfInBounds o v) (o + 1) l := _root_.id rfl
@[simp] theorem cells_agg (cs : Array Value) : (Value.agg cs).cells = cs := _root_.id rfl
@[simp] theorem cells_int (k : IntKind) (n : Int) : (Value.int k n).cells = #[.int k n] := _root_.id rfl
@[simp] theorem cells_bool (b : Bool) : (Value.bool b).cells = #[.bool b] := _root_.id rfl
@[simp] theorem cells_string (s : ByteArray) : (Value.string s).cells = #[.string s] := _root_.id rfl
@[simp] theorem cells_vs (es : Nat) (xs : Array Value) : (vs es xs).cells = #[vs es xs] := _root_.id rfl
@[simp] theorem cells_slice (a : Option Addr) (n c : Nat) : (Value.slice a n c).cells = #[.slice a n c] := _root_.id rfl
@[simp] theorem cells_ptr (a : Option Addr) : (Value.pointer a).cells = #[.pointer a] := _root_.id rfl
@[simp] theorem cells_func (f : Fn) (a b : Array Value) : (Value.func f a b).cells = #[.func f a b] := _root_.id rfl
@[simp] theorem cells_map (r : Option Nat) : (Value.map r).cells = #[.map r] := _root_.id rfl
@[simp] theorem one_int (k : IntKind) (n : Int) : Value.oneCell' (.int k n) = true := _root_.id rfl
@[simp] theorem one_bool (b : Bool) : Value.oneCell' (.bool b) = true := _root_.id rfl
@[simp] theorem one_string (s : ByteArray) : Value.oneCell' (.string s) = true := _root_.id rfl
@[simp] theorem one_vs (es : Nat) (xs : Array Value) : Value.oneCell' (vs es xs) = true := _root_.id rfl
@[simp] theorem one_slice (a : Option Addr) (n c : Nat) : Value.oneCell' (.slice a n c) = true := _root_.id rfl
@[simp] theorem one_ptr (a : Option Addr) : Value.oneCell' (.pointer a) = true := _root_.id rfl
@[simp] theorem one_func (f : Fn) (a b : Array Value) : Value.oneCell' (.func f a b) = true := _root_.id rfl
@[simp] theorem one_map (r : Option Nat) : Value.oneCell' (.map r) = true := _root_.id rfl

/-! ### addresses -/
@[simp] theorem fieldAddrQ_ptr (b o f : Nat) : fieldAddrQ P t f (.pointer (some ⟨b, o, none⟩)) = match P.underlying t with
    | some (.struct fs) => match fs[f]? with
      | some fl => match P.info? fl.type with
        | some i => if i.size ≠ 0 then some (.pointer (some ⟨b, o + fl.offset, none⟩)) else none
        | none => none
      | none => none
    | _ => none := by
  unfold fieldAddrQ
  simp only [vFieldAddr, add_plain]
  rfl
@[simp] theorem fieldAddrQ_rf (cs : List Value) (f : Nat) : fieldAddrQ P t f (rf cs.toArray) = match P.underlying t with
    | some (.struct fs) => match fs[f]? with
      | some fl => match P.info? fl.type with
        | some i => if i.size ≠ 0 ∧ fl.offset + i.size ≤ cs.length then some (rf ((cs.take (fl.offset + i.size)).drop fl.offset).toArray) else none
        | none => none
      | none => none
    | _ => none := by
  unfold fieldAddrQ vFieldAddr rf
  simp only
  cases P.underlying t with
  | none => rfl
  | some d =>
    cases d with
    | struct fs =>
      simp only
      cases fs[f]? with
      | none => rfl
      | some fl =>
        simp only
        cases P.info? fl.type with
        | none => rfl
        | some i =>
          simp only [true_and, List.size_toArray]
          split
          · rename_i u hu
            replace hu := of_if' hu
            rw [if_pos hu.1]
            rw [← hu.2]
            congr 3
            apply Array.ext_getElem?
            intro k
            simp only [Array.getElem?_extract, List.getElem?_toArray, List.getElem?_drop, List.getElem?_take, List.size_toArray]
            by_cases h : k < min (fl.offset + i.size) cs.length - fl.offset
            · rw [if_pos h, if_pos (by omega)]
            · rw [if_neg h]
              split
              · rw [List.getElem?_eq_none (by omega)]
              · rfl
          · rename_i hu
            split at hu
            · cases hu
            · rename_i h; rw [if_neg h]
    | _ => rfl
def idxV (P : Program) (t : TypeId) (es : Nat) (l : List Value) (i : Int) : Option Value :=
  match P.underlying t with
  | some (.slice elem) => match P.info? elem with
    | some inf => if es = inf.size ∧ 0 ≤ i ∧ i < l.length then (l[i.toNat]?).map fun e => rf e.cells else none
    | none => none
  | _ => none
@[simp] theorem indexAddrQ_vs (es : Nat) (l : List Value) (k : IntKind) (i : Int) : indexAddrQ P t (vs es l.toArray) (.int k i) = idxV P t es l i := by
  unfold indexAddrQ vIndexAddr vs idxV
  simp only
  have h1 : ∀ n, (vsT + es = vsT + n) = (es = n) := fun n => by simp
  cases P.underlying t with
  | none => rfl
  | some d =>
    cases d with
    | slice e =>
      simp only
      cases P.info? e with
      | none => rfl
      | some inf =>
        simp only [h1, List.size_toArray, List.getElem?_toArray]
        split
        · rename_i u hu; exact hu.symm
        · rename_i hu; exact hu.symm
    | array n e =>
      simp only
      cases P.info? e with
      | none => rfl
      | some inf =>
        have : ¬ (vsT + es = rfT) := by unfold vsT rfT; omega
        simp only [this, false_and, if_false]
    | _ => rfl
def idxS (P : Program) (t : TypeId) (a : Addr) (n : Nat) (i : Int) : Option Value :=
  match P.underlying t with
  | some (.slice e) => match P.info? e with
    | some inf => if 0 ≤ i ∧ i < n then some (.pointer (some (a.add (i.toNat * inf.size)))) else none
    | none => none
  | _ => none
@[simp] theorem indexAddrQ_slice (a : Addr) (n c : Nat) (k : IntKind) (i : Int) : indexAddrQ P t (.slice (some a) n c) (.int k i) = idxS P t a n i := by
  unfold indexAddrQ
  simp only [vIndexAddr]
  rfl
@[simp] theorem fieldQ_agg (cs : Array Value) (f : Nat) : fieldQ P t f (.agg cs) = match P.underlying t with
    | some (.struct fs) => match fs[f]? with
      | some fl => partQ P fl.type cs fl.offset
      | none => none
    | _ => none := rfl
@[simp] theorem partQ_mk (cs : List Value) (off : Nat) : partQ P t cs.toArray off = match P.underlying t, P.info? t with
    | some d, some inf => if aggT d = true then some (.agg ((cs.take (off + inf.size)).drop off).toArray) else cs[off]?
    | _, _ => none := by
  unfold partQ
  split
  · rename_i d inf h1 h2
    rw [h1, h2]
    simp only
    split
    · congr 2
      apply Array.ext_getElem?
      intro k
      simp only [Array.getElem?_extract, List.getElem?_toArray, List.getElem?_drop, List.getElem?_take, List.size_toArray]
      by_cases h : k < min (off + inf.size) cs.length - off
      · rw [if_pos h, if_pos (by omega)]
      · rw [if_neg h]
        split
        · rw [List.getElem?_eq_none (by omega)]
        · rfl
    · simp
  · rename_i h
    split
    · rename_i d inf h1 h2; exact absurd h2 (h _ _ h1)
    · rfl
@[simp] theorem extractQ_tuple (cs : List Value) (k : Nat) : extractQ k (.tuple cs.toArray) = cs[k]? := by unfold extractQ; simp
@[simp] theorem unQ_not (b : Bool) : unQ .not (.bool b) = some (.bool !b) := _root_.id rfl
@[simp] theorem unQ_neg (k : IntKind) (n : Int) : unQ .neg (.int k n) = some (.int k (k.wrap (0 - n))) := _root_.id rfl
def idxStr (P : Program) (t : TypeId) (l : List UInt8) (i : Int) : Option Value := if isStrT P t = true ∧ 0 ≤ i then (l[i.toNat]?).map fun b => .int .u8 b.toNat else none
@[simp] theorem indexQ_string (l : List UInt8) (k : IntKind) (i : Int) : indexQ P t (.string (sB l)) (.int k i) = idxStr P t l i := by
  unfold indexQ idxStr isStrT
  simp only [sB_get]
  cases P.underlying t with
  | none => simp
  | some d => cases d <;> simp

attribute [simp] idxV idxS idxStr add_plain
/-! ### len -/
def lenJ (P : Program) (t : TypeId) (v : Value) (H : World) : Option (Next × World) := builtinX P .len #[t] #[v] H
@[simp] theorem len_vs (es : Nat) (l : List Value) : builtinX P .len #[t] #[vs es l.toArray] H = if isSliceT P t = true then some (.value (.int .i64 l.length), H) else lenJ P t (vs es l.toArray) H := by
  split
  · rename_i h
    unfold isSliceT at h
    split at h
    case h_2 => cases h
    rename_i e hu
    have : vsT ≤ vsT + es := Nat.le_add_right _ _
    simp [builtinX, vLen, vs, hu, this, goInt]
  · rfl
@[simp] theorem len_slice (a : Option Addr) (n c : Nat) : builtinX P .len #[t] #[.slice a n c] H = if isSliceT P t = true then some (.value (.int .i64 n), H) else lenJ P t (.slice a n c) H := by
  split
  · rename_i h
    unfold isSliceT at h
    split at h
    case h_2 => cases h
    rename_i e hu
    simp [builtinX, vLen, lenD, hu, goInt]
  · rfl
@[simp] theorem len_string (l : List UInt8) : builtinX P .len #[t] #[.string (sB l)] H = if isStrT P t = true then some (.value (.int .i64 l.length), H) else lenJ P t (.string (sB l)) H := by
  split
  · rename_i h
    unfold isStrT at h
    split at h
    case h_2 => cases h
    rename_i hu
    simp [builtinX, vLen, lenD, hu, goInt]
  · rfl

/-! ### calls -/
def isFn (P : Program) (f : FuncId) : Bool := match P.funcs[f]? with | some fn => !(fn.name == "runtime.NumGoroutine" || fn.body.isNone) | none => false
def callJ (P : Program) (g : Value) (args : Array Value) (H : World) : Option (Next × World) := callX P g args H
@[simp] theorem callX_func (f : FuncId) (fs cs args : Array Value) : callX P (.func (.func f) fs cs) args H = if isFn P f = true then some (.enter f ((fs ++ args) ++ cs), H) else callJ P (.func (.func f) fs cs) args H := by
  split
  · rename_i h
    unfold isFn at h
    unfold callX callD
    split at h
    · rename_i fn hf
      simp only [Bool.not_eq_true', Bool.or_eq_false_iff] at h
      simp [h, hf]
    · cases h
  · rfl
def isIdx (P : Program) (f : FuncId) : Bool := match P.funcs[f]? with | some fn => (fn.name == "internal/bytealg.IndexByteString" && fn.origin == "") && (fn.name == "runtime.NumGoroutine" || fn.body.isNone) | none => false
theorem callJ_idx (f : FuncId) (s : ByteArray) (c : Int) (h : isIdx P f = true) : callJ P (.func (.func f) #[] #[]) #[.string s, .int .u8 c] H = some (.value (.int .i64 (Lib.indexByte s.data.toList c.toNat.toUInt8)), H) := by
  unfold isIdx at h
  split at h
  · rename_i fn hf
    rw [Bool.and_eq_true] at h
    obtain ⟨h1, h2⟩ := h
    unfold callJ callX callD
    simp only [hf, if_pos h2]
    simp [externD, h1]
  · cases h
@[simp] theorem nilCheckX_ptr (p : Addr) : nilCheckX (.pointer (some p)) H = some (.value (.pointer (some p)), H) := _root_.id rfl
@[simp] theorem nilCheckX_func (f : Nat) (a b : Array Value) : nilCheckX (.func (.func f) a b) H = some (.value (.func (.func f) a b), H) := _root_.id rfl
@[simp] theorem nilCheckX_rf (cs : Array Value) : nilCheckX (rf cs) H = some (.value (rf cs), H) := _root_.id rfl

/-! ### the end -/
def cellV (P : Program) (H : World) (t : TypeId) (v : Value) : Option Value := match v with
  | .pointer (some a) => match P.underlying t, P.info? t with
    | some dd, some inf => if aggT dd = true then (rowAt H a inf.size).map .agg else cellAt H a
    | _, _ => none
  | _ => none
@[simp] theorem cellV_ptr (a : Addr) : cellV P H t (.pointer (some a)) = match P.underlying t, P.info? t with
    | some dd, some inf => if aggT dd = true then (rowAt H a inf.size).map .agg else cellAt H a
    | _, _ => none := _root_.id rfl
theorem cellV_run {v u : Value} (h : cellV P H t v = some u) : (do loadVar t (← asAddr v) : Sem Value).run P H = .ok u H := by
  unfold cellV at h
  split at h
  case h_2 => cases h
  rename_i a
  split at h
  case h_2 => cases h
  rename_i dd inf hd hi
  simp only [Sem.run_bind]
  show (Go.loadVar t a).run P H = _
  unfold Go.loadVar
  simp only [Sem.run_bind, run_isAgg' hd, Result.andThen_ok]
  split at h
  · rename_i ha
    rw [if_pos ha]
    simp only [Option.map_eq_some_iff] at h
    obtain ⟨cs, hc, rfl⟩ := h
    simp only [Sem.run_bind, run_sizeOf' hi, Result.andThen_ok, run_rowAt hc, Sem.run_pure]
  · rename_i ha
    rw [if_neg ha]
    simp only [run_load, cell_cellAt h]
def resV (P : Program) (H : World) (fn : Func) (e : Env) : List ResultVar → Option (List Value)
  | [] => some []
  | .tmp t :: l => (resV P H fn e l).map (lk e t :: ·)
  | .cell a t :: l => match cellV P H t (lk e a) with
    | some v => (resV P H fn e l).map (v :: ·)
    | none => none
def oneOr (l : List Value) : Value := match l with | [v] => v | l => .tuple l.toArray
theorem resV_run {fn : Func} {e : Env} : ∀ (rs : List ResultVar) (l : List Value), resV P H fn e rs = some l → (rs.mapM fun r => (match r with | .tmp t => Pure.pure (lk e t) | .cell a t => do loadVar t (← asAddr (lk e a)) : Sem Value)).run P H = .ok l H
  | [], l, h => by
    cases h
    rw [List.mapM_nil]; rfl
  | .tmp t :: rs, l, h => by
    simp only [resV, Option.map_eq_some_iff] at h
    obtain ⟨l0, h0, rfl⟩ := h
    rw [List.mapM_cons]
    simp only [Sem.run_bind, Sem.run_pure, Result.andThen_ok, resV_run rs l0 h0]
  | .cell a t :: rs, l, h => by
    unfold resV at h
    split at h
    case h_2 => cases h
    rename_i v hv
    simp only [Option.map_eq_some_iff] at h
    obtain ⟨l0, h0, rfl⟩ := h
    rw [List.mapM_cons]
    have hc := cellV_run hv
    simp only [Sem.run_bind] at hc ⊢
    rw [hc]
    simp only [Sem.run_pure, Result.andThen_ok, resV_run rs l0 h0]
/-- What a function's end asks, where it holds no marks. -/
theorem endE_of {x : Cx} {fn : Func} {Q : Value → World → Prop} {ex : Exit} {e : Env} {H : World} {l : List Value} (hex : ex = .ret ∨ ex = .normal) (hr : resV x.P H fn e fn.results.toList = some l) (h : Q (oneOr l) H) : endE x fn Q ex e [] H := by
  have : okRun ((resultsE fn e).run x.P H) = some (oneOr l, H) := by
    unfold resultsE
    rw [Array.mapM_eq_mapM_toList]
    have hm := resV_run (P := x.P) (H := H) _ _ hr
    simp only [Sem.run_bind, Sem.run_map]
    refine (congrArg (fun r => okRun ((Result.andThen r _).andThen _)) hm).trans ?_
    simp only [Result.andThen_ok, Sem.run_pure, okRun]
    unfold oneOr
    match l with
    | [] => rfl
    | [v] => rfl
    | a :: b :: l => simp
  rcases hex with rfl | rfl
  · exact ⟨H, _, H, rfl, this, h⟩
  · exact ⟨H, _, H, rfl, this, h⟩
def endJ (x : Cx) (fn : Func) (Q : Value → World → Prop) (ex : Exit) (e : Env) (ds : List Deferred) (H : World) : Prop := endE x fn Q ex e ds H
theorem endE_eq {x : Cx} {fn : Func} {Q : Value → World → Prop} {ex : Exit} {e : Env} {H : World} (hex : ex = .ret ∨ ex = .normal) : endE x fn Q ex e [] H = match resV x.P H fn e fn.results.toList with
    | some l => Q (oneOr l) H
    | none => endJ x fn Q ex e [] H := by
  split
  · rename_i l hl
    apply propext
    refine ⟨fun h => ?_, endE_of hex hl⟩
    have h2 : endE x fn (fun v H1 => v = oneOr l ∧ H1 = H) ex e [] H := endE_of hex hl ⟨rfl, rfl⟩
    rcases hex with rfl | rfl
    · obtain ⟨A, v, B, a1, a2, a3⟩ := h
      obtain ⟨A', v', B', b1, b2, b3⟩ := h2
      rw [a1] at b1; injection b1 with b1; subst b1
      rw [a2] at b2; injection b2 with b2; injection b2 with b4 b5; subst b4 b5
      obtain ⟨rfl, rfl⟩ := b3
      exact a3
    · obtain ⟨A, v, B, a1, a2, a3⟩ := h
      obtain ⟨A', v', B', b1, b2, b3⟩ := h2
      rw [a1] at b1; injection b1 with b1; subst b1
      rw [a2] at b2; injection b2 with b2; injection b2 with b4 b5; subst b4 b5
      obtain ⟨rfl, rfl⟩ := b3
      exact a3
  · rfl
@[congr] theorem endE_congr {x : Cx} {fn : Func} {Q : Value → World → Prop} {ex ex' : Exit} {e e' : Env} {ds : List Deferred} {H H' : World} (hx : tk ex = ex') (he : tk e = e') (hH : tk H = H') : endE x fn Q ex e ds H = endE x fn Q ex' e' ds H' := by subst hx; subst he; subst hH; rfl
@[simp] theorem endE_ret {x : Cx} {fn : Func} {Q : Value → World → Prop} {e : Env} {H : World} : endE x fn Q .ret e [] H = match resV x.P H fn e fn.results.toList with
    | some l => Q (oneOr l) H
    | none => endJ x fn Q .ret e [] H := endE_eq (.inl rfl)
@[simp] theorem endE_normal {x : Cx} {fn : Func} {Q : Value → World → Prop} {e : Env} {H : World} : endE x fn Q .normal e [] H = match resV x.P H fn e fn.results.toList with
    | some l => Q (oneOr l) H
    | none => endJ x fn Q .normal e [] H := endE_eq (.inr rfl)
@[simp] theorem resV_nil {fn : Func} {e : Env} : resV P H fn e [] = some [] := _root_.id rfl
@[simp] theorem resV_tmp {fn : Func} {e : Env} (t : Nat) (l : List ResultVar) : resV P H fn e (.tmp t :: l) = (resV P H fn e l).map (lk e t :: ·) := _root_.id rfl
@[simp] theorem resV_cell {fn : Func} {e : Env} (a : Nat) (t : TypeId) (l : List ResultVar) : resV P H fn e (.cell a t :: l) = match cellV P H t (lk e a) with
    | some v => (resV P H fn e l).map (v :: ·)
    | none => none := _root_.id rfl
@[simp] theorem oneOr_one (v : Value) : oneOr [v] = v := _root_.id rfl
@[simp] theorem oneOr_nil : oneOr [] = .tuple #[] := _root_.id rfl
@[simp] theorem oneOr_two (v w : Value) (l : List Value) : oneOr (v :: w :: l) = .tuple (v :: w :: l).toArray := _root_.id rfl

/-! ### what is left behind -/
@[simp] theorem strip_bool (d : Nat) (b : Bool) : strip d P H (.bool b) = some (.bool b) := by cases d <;> rfl
@[simp] theorem strip_int (d : Nat) (k : IntKind) (n : Int) : strip d P H (.int k n) = some (.int k n) := by cases d <;> rfl
@[simp] theorem strip_string (d : Nat) (s : ByteArray) : strip d P H (.string s) = some (.string s) := by cases d <;> rfl
@[simp] theorem strip_nilSlice (d n c : Nat) : strip d P H (.slice none n c) = some (.slice none n c) := by cases d <;> rfl
@[simp] theorem strip_nilPtr (d : Nat) : strip d P H (.pointer none) = some (.pointer none) := by cases d <;> rfl
@[simp] theorem strip_nilMap (d : Nat) : strip d P H (.map none) = some (.map none) := by cases d <;> rfl
@[simp] theorem stripAll_nil (f : Value → Option Value) : stripAll f [] = some [] := _root_.id rfl
@[simp] theorem stripAll_cons (f : Value → Option Value) (v : Value) (l : List Value) : stripAll f (v :: l) = match f v with | some x => (stripAll f l).map (x :: ·) | none => none := _root_.id rfl
theorem strip_tuple (d : Nat) (l : List Value) : strip (d + 1) P H (.tuple l.toArray) = (stripAll (strip d P H) l).map fun l => .tuple l.toArray := rfl
theorem strip_agg (d : Nat) (l : List Value) : strip (d + 1) P H (.agg l.toArray) = (stripAll (strip d P H) l).map fun l => .agg l.toArray := rfl
@[simp] theorem strip_tuple12 (l : List Value) : strip deep P H (.tuple l.toArray) = (stripAll (strip 11 P H) l).map fun l => .tuple l.toArray := strip_tuple 11 l
@[simp] theorem strip_agg12 (l : List Value) : strip deep P H (.agg l.toArray) = (stripAll (strip 11 P H) l).map fun l => .agg l.toArray := strip_agg 11 l
@[simp] theorem strip_agg11 (l : List Value) : strip 11 P H (.agg l.toArray) = (stripAll (strip 10 P H) l).map fun l => .agg l.toArray := strip_agg 10 l
/-- A value that is plain already. -/
theorem strip_plain (P : Program) (H : World) : ∀ (d : Nat) (v : Value), plain d v = true → strip d P H v = some v
  | 0, v, h => by
    simp only [plain] at h
    simp [strip, h]
  | d + 1, v, h => by
    have all : ∀ (l : List Value), (∀ x ∈ l, plain d x = true) → stripAll (strip d P H) l = some l := by
      intro l
      induction l with
      | nil => intro _; rfl
      | cons a l ih =>
        intro hl
        rw [stripAll_cons, strip_plain P H d a (hl a List.mem_cons_self)]
        simp only
        rw [ih fun x hx => hl x (List.mem_cons_of_mem _ hx)]
        rfl
    unfold plain at h
    split at h
    · rename_i cs
      have := all cs.toList fun x hx => by
        obtain ⟨k, hk⟩ := List.getElem?_of_mem hx
        obtain ⟨hlt, rfl⟩ := Array.getElem?_eq_some_iff.1 (by simpa using hk)
        exact (Array.all_eq_true.1 h) k hlt
      simp only [strip, this, Option.map_some]
    · rename_i cs
      have := all cs.toList fun x hx => by
        obtain ⟨k, hk⟩ := List.getElem?_of_mem hx
        obtain ⟨hlt, rfl⟩ := Array.getElem?_eq_some_iff.1 (by simpa using hk)
        exact (Array.all_eq_true.1 h) k hlt
      simp only [strip, this, Option.map_some]
    · rename_i t cs
      simp only [Bool.and_eq_true, decide_eq_true_eq] at h
      simp only [strip]
      rw [if_pos h]
    · rename_i h1 h2 h3
      unfold strip
      split
      · exact absurd rfl (h1 _)
      · exact absurd rfl (h2 _)
      · exact absurd rfl (h3 _ _)
      · simp [constOk1] at h
      · rw [if_pos h]
/-- Elements out of the cells of a row. -/
theorem chunks_agg (es : Nat) : ∀ (n : Nat) (l : List (List Value)) (r : List Value), l.length = n → (∀ c ∈ l, c.length = es) → chunks es true n (l.flatten ++ r) = some (l.map fun c => .agg c.toArray)
  | 0, l, r, hl, h => by
    have : l = [] := List.length_eq_zero_iff.1 hl
    subst this; rfl
  | n + 1, [], r, hl, h => by simp at hl
  | n + 1, c :: l, r, hl, h => by
    have hc := h c List.mem_cons_self
    unfold chunks
    have e1 : ((c :: l).flatten ++ r).take es = c := by
      rw [List.flatten_cons, List.append_assoc, ← hc, List.take_left']; rfl
    have e2 : ((c :: l).flatten ++ r).drop es = l.flatten ++ r := by
      rw [List.flatten_cons, List.append_assoc, ← hc, List.drop_left']; rfl
    rw [e1, e2]
    simp only [hc, if_true]
    rw [chunks_agg es n l r (by simpa using hl) fun x hx => h x (List.mem_cons_of_mem _ hx)]
    rfl
theorem chunks_one : ∀ (n : Nat) (l r : List Value), l.length = n → (∀ c ∈ l, notAgg c = true) → chunks 1 false n (l ++ r) = some l
  | 0, l, r, hl, h => by
    have : l = [] := List.length_eq_zero_iff.1 hl
    subst this; rfl
  | n + 1, [], r, hl, h => by simp at hl
  | n + 1, c :: l, r, hl, h => by
    have hc := h c List.mem_cons_self
    unfold chunks
    simp only [List.cons_append, List.take_succ_cons, List.take_zero, List.drop_succ_cons, List.drop_zero, hc, and_self, if_true]
    rw [chunks_one n l r (by simpa using hl) fun x hx => h x (List.mem_cons_of_mem _ hx)]
    rfl
end Go.Proofs.YtmmmdmandocbhaaDoor.Den
end
