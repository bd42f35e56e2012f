/- Helpers of this claim: an evaluator over plain values and its laws. -/
import Derived.Test.YtmmmdmandocbhaaDoorThr
section
/- What single operations come to, as functions of values. -/
set_option linter.unusedVariables false
set_option linter.unusedSimpArgs false
namespace Go.Proofs.YtmmmdmandocbhaaDoor.Den
variable {P : Program} {ρ : Operand → Value} {H : World}
variable {d : Option Tmp} {ty : TypeId} {pos : String} {af : Array Edge} {g : Option (Nat × Bool)}

/-! ### the logical memory -/
def getO (H : World) (i : Nat) : Option Obj := H.heap[i]?
def setO (H : World) (i : Nat) (o : Obj) : World := { H with heap := H.heap.setIfInBounds i o }
abbrev szO (H : World) : Nat := H.heap.size
theorem size_push (o : Obj) : (pushObj H o).heap.size = H.heap.size + 1 := by simp [pushObj]
theorem size_set (i : Nat) (o : Obj) : (setO H i o).heap.size = H.heap.size := by simp [setO]
theorem size_world0 : World0.heap.size = 0 := rfl
theorem get_push (o : Obj) (i : Nat) : getO (pushObj H o) i = if i = H.heap.size then some o else getO H i := by
  simp only [getO, pushObj, Array.getElem?_push]
theorem get_set (i j : Nat) (o : Obj) : getO (setO H i o) j = if j = i then (if i < H.heap.size then some o else none) else getO H j := by
  simp only [getO, setO, Array.getElem?_setIfInBounds]
  by_cases h : j = i
  · subst h; simp
  · rw [if_neg h, if_neg fun e => h e.symm]
theorem set_push (o o' : Obj) : setO (pushObj H o) H.heap.size o' = pushObj H o' := by
  have : (H.heap.push o).setIfInBounds H.heap.size o' = H.heap.push o' := by
    apply Array.ext
    · simp
    · intro i h1 h2
      simp only [Array.size_setIfInBounds, Array.size_push] at h1
      rw [Array.getElem_setIfInBounds, Array.getElem_push, Array.getElem_push]
      · split
        · rename_i e; subst e; simp
        · split
          · rfl
          · omega
      · simp; omega
  simp only [setO, pushObj, this]
theorem kill_set (r : Nat) : killObj H r = setO H r deadObj := rfl
theorem setD_set (r : Nat) (o : Obj) : setD H r o = setO H r o := rfl
theorem get_world0 (i : Nat) : getO World0 i = none := by simp [getO, World0]

/-- Cells of one row. -/
def rowAt (H : World) (a : Addr) (n : Nat) : Option (Array Value) :=
  match getO H a.block with
  | some (.cells cs _ _) => if a.spot = none ∧ a.off + n ≤ cs.size then some (cs.extract a.off (a.off + n)) else none
  | _ => none
def cellAt (H : World) (a : Addr) : Option Value :=
  match getO H a.block with
  | some (.cells cs _ _) => if a.spot = none then cs[a.off]? else none
  | _ => none
theorem cell_cellAt {a : Addr} {v : Value} (h : cellAt H a = some v) : H.cell? a = some v := by
  obtain ⟨b, o, s⟩ := a
  unfold cellAt getO at h
  split at h
  · rename_i cs e fr hb
    split at h
    · rename_i hs
      simp only at hs; subst hs
      rw [cell_of hb]; exact h
    · cases h
  · cases h
theorem run_rowAt {a : Addr} {n : Nat} {cs : Array Value} (h : rowAt H a n = some cs) : (Go.loadCells a n).run P H = .ok cs H := by
  obtain ⟨b, o, s⟩ := a
  unfold rowAt getO at h
  split at h
  · rename_i cs2 e fr hb
    split at h
    · rename_i hs
      obtain ⟨hs, hn⟩ := hs
      simp only at hs; subst hs
      injection h with h; subst h
      exact run_loadCells_row hb hn
    · cases h
  · cases h

/-! ### loads and stores -/
def loadX (P : Program) (t : TypeId) (v : Value) (H : World) : Option (Next × World) :=
  match vLoad P t v with
  | some u => some (.value u, H)
  | none => match v with
    | .pointer (some a) => match P.underlying t, P.info? t with
      | some dd, some inf => if aggT dd = true then (match rowAt H a inf.size with | some cs => some (.value (.agg cs), H) | none => none) else (match cellAt H a with | some u => some (.value u, H) | none => none)
      | _, _ => none
    | _ => none
/-- An answer is the evaluator's wherever there is one. -/
def Is (a b : Option (Next × World)) : Prop := ∀ r, a = some r → b = some r
theorem loadX_is {t : TypeId} {x : Operand} (hx : operandOk x = true) : Is (loadX P t (ρ x) H) (semR P ⟨d, .load t x, ty, pos, af, g⟩ ρ H) := by
  intro r h
  have hs : semR P ⟨d, .load t x, ty, pos, af, g⟩ ρ H = match vLoad P t (ρ x) with
      | some v => some (.value v, H)
      | none => okRun ((do Pure.pure (Next.value (← Instr.loadAt t (ρ x)))).run P H) := by
    simp [semR, Op.operands, hx, pureD, okOp, execOp]
    cases vLoad P t (ρ x) <;> rfl
  rw [hs]
  unfold loadX at h
  split at h
  · rename_i u hu; exact h
  · rename_i hu
    split at h
    case h_2 => cases h
    rename_i a hv
    split at h
    case h_2 => cases h
    rename_i dd inf hd hi
    rw [hv]
    have hla : (Instr.loadAt t (.pointer (some a))).run P H = (Go.loadVar t a).run P H := by simp [Instr.loadAt, Instr.sureAddr]
    simp only [Sem.run_bind, hla]
    unfold Go.loadVar
    simp only [Sem.run_bind, run_isAgg' hd, Result.andThen_ok]
    split at h
    · rename_i ha
      rw [if_pos ha]
      split at h
      · rename_i cs hc
        simp only [Sem.run_bind, run_sizeOf' hi, Result.andThen_ok, run_rowAt hc, Sem.run_pure, okRun]
        exact h
      · cases h
    · rename_i ha
      rw [if_neg ha]
      split at h
      · rename_i u hc
        simp only [run_load, cell_cellAt hc, Result.andThen_ok, Sem.run_pure, okRun]
        exact h
      · cases h
def overL : Array Value → Nat → List Value → Array Value
  | cs, _, [] => cs
  | cs, o, v :: l => overL (cs.setIfInBounds o v) (o + 1) l
theorem overL_size : ∀ (l : List Value) (cs : Array Value) (o : Nat), (overL cs o l).size = cs.size
  | [], cs, o => rfl
  | v :: l, cs, o => by rw [overL, overL_size]; simp
/-- Is this row one that may be written? -/
def mayW (fr : Nat × Nat) : Bool := fr == (0, 0) || fr == (1, 0)
def storeX (P : Program) (t : TypeId) (p v : Value) (H : World) : Option (Next × World) :=
  match p with
  | .pointer (some a) => match P.info? t, getO H a.block with
    | some inf, some (.cells cs e fr) => if v.cells.size = inf.size ∧ a.spot = none ∧ a.off + v.cells.size ≤ cs.size ∧ mayW fr = true ∧ v.cells.all Value.oneCell' = true then some (.skip, setO H a.block (.cells (overL cs a.off v.cells.toList) e fr)) else none
    | _, _ => none
  | _ => none
theorem setCell_eq {b o : Nat} {cs : Array Value} {e : TypeId} {fr : Nat × Nat} {v : Value} (h : H.heap[b]? = some (.cells cs e fr)) : H.setCell ⟨b, o, none⟩ v = setO H b (.cells (cs.setIfInBounds o v) e fr) := by
  unfold World.setCell setO
  congr 1
  apply Array.ext_getElem?
  intro i
  rw [Array.getElem?_modify, Array.getElem?_setIfInBounds]
  have hlt := (Array.getElem?_eq_some_iff.1 h).1
  by_cases hbi : b = i
  · subst hbi
    simp only [if_true, hlt, h, Option.map_some, Option.isSome_none, Bool.false_eq_true, if_false]
  · simp only [hbi, if_false]
theorem set_set (i : Nat) (o o' : Obj) : setO (setO H i o) i o' = setO H i o' := by
  unfold setO; simp
theorem run_overL {b : Nat} {e : TypeId} {fr : Nat × Nat} (hfr : mayW fr = true) : ∀ (l : List Value) (k off : Nat) (cs : Array Value) (H : World), H.heap[b]? = some (.cells cs e fr) → off + k + l.length ≤ cs.size → (∀ v ∈ l, v.oneCell' = true) →
    (Go.storeCells ⟨b, off, none⟩ l k).run P H = .ok () (setO H b (.cells (overL cs (off + k) l) e fr))
  | [], k, off, cs, H, hb, hl, ho => by
    unfold Go.storeCells
    simp only [Sem.run_pure, overL]
    congr 1
    unfold setO
    have : H.heap.setIfInBounds b (.cells cs e fr) = H.heap := by
      apply Array.ext_getElem?
      intro i
      rw [Array.getElem?_setIfInBounds]
      have hlt := (Array.getElem?_eq_some_iff.1 hb).1
      by_cases hbi : b = i
      · subst hbi; rw [if_pos rfl, if_pos hlt, hb]
      · rw [if_neg hbi]
    rw [this]
  | v :: l, k, off, cs, H, hb, hl, ho => by
    unfold Go.storeCells
    simp only [List.length_cons] at hl
    have hlt : off + k < cs.size := by omega
    have hf : H.frozen? ⟨b, off + k, none⟩ = false := by
      unfold World.frozen?
      simp only [hb]
      unfold mayW at hfr
      simp only [Bool.or_eq_true, beq_iff_eq] at hfr
      rcases hfr with rfl | rfl <;> simp
    rw [add_plain]
    simp only [Sem.run_bind]
    rw [run_store_some (ho v List.mem_cons_self) ((cell_of hb).trans (Array.getElem?_eq_getElem hlt)) hf]
    simp only [Result.andThen_ok]
    rw [setCell_eq hb]
    have hb2 : (setO H b (.cells (cs.setIfInBounds (off + k) v) e fr)).heap[b]? = some (.cells (cs.setIfInBounds (off + k) v) e fr) := by
      have hlt := (Array.getElem?_eq_some_iff.1 hb).1
      simp [setO, hlt]
    rw [run_overL hfr l (k + 1) off _ _ hb2 (by simp; omega) fun x hx => ho x (List.mem_cons_of_mem _ hx), set_set]
    rfl
theorem storeX_is {t : TypeId} {x y : Operand} (hx : operandOk x = true) (hy : operandOk y = true) : Is (storeX P t (ρ x) (ρ y) H) (semR P ⟨d, .store t x y, ty, pos, af, g⟩ ρ H) := by
  intro r h
  have hs : semR P ⟨d, .store t x y, ty, pos, af, g⟩ ρ H = okRun ((do Instr.storeAt t (ρ x) (ρ y); Pure.pure Next.skip).run P H) := by
    simp only [semR, Op.operands, pureD, okOp, execOp]
    simp [hx, hy]
  rw [hs]
  unfold storeX at h
  split at h
  case h_2 => cases h
  rename_i a hp
  split at h
  case h_2 => cases h
  rename_i inf cs e fr hi hb
  replace h := of_if' h
  obtain ⟨⟨h1, h2, h3, h4, h5⟩, h⟩ := h
  obtain ⟨b, o, s⟩ := a
  simp only at h2 h3 hb h; subst h2
  have hrun : (Instr.storeAt t (.pointer (some ⟨b, o, none⟩)) (ρ y)).run P H = .ok () (setO H b (.cells (overL cs o (ρ y).cells.toList) e fr)) := by
    have hsa : (Instr.storeAt t (.pointer (some ⟨b, o, none⟩)) (ρ y)).run P H = (Go.storeVar t ⟨b, o, none⟩ (ρ y)).run P H := by simp [Instr.storeAt, Instr.sureAddr]
    rw [hsa]
    unfold Go.storeVar
    simp only [Sem.run_bind, run_sizeOf' hi, Result.andThen_ok, ne_eq, h1, not_true, if_false]
    exact run_overL h4 _ 0 o cs H hb (by simpa using h3) fun v hv => by
      obtain ⟨k, hk⟩ := List.getElem?_of_mem hv
      obtain ⟨hlt, rfl⟩ := Array.getElem?_eq_some_iff.1 (by simpa using hk)
      exact Array.all_eq_true.1 h5 k hlt
  rw [hp]
  simp only [Sem.run_bind, hrun, Result.andThen_ok, Sem.run_pure, okRun]
  exact h

/-! ### operations that look -/
theorem okRun_val {s : Sem Value} {v : Value} (h : s.run P H = .ok v H) : okRun ((do Pure.pure (Next.value (← s))).run P H) = some (.value v, H) := by
  simp only [Sem.run_bind, h, Result.andThen_ok, Sem.run_pure, okRun]
def fieldAddrQ (P : Program) (s : TypeId) (f : Nat) (v : Value) : Option Value :=
  match vFieldAddr P s f v with
  | some u => some u
  | none => match v with
    | .pointer (some a) => match P.underlying s with
      | some (.struct fs) => match fs[f]? with
        | some fl => match P.info? fl.type with
          | some i => if i.size ≠ 0 then some (.pointer (some (a.add fl.offset))) else none
          | none => none
        | none => none
      | _ => none
    | _ => none
def indexAddrQ (P : Program) (t : TypeId) (v i : Value) : Option Value :=
  match vIndexAddr P t v i with
  | some u => some u
  | none => match v, i with
    | .slice (some a) n _, .int _ i => match P.underlying t with
      | some (.slice e) => match P.info? e with
        | some inf => if 0 ≤ i ∧ i < n then some (.pointer (some (a.add (i.toNat * inf.size)))) else none
        | none => none
      | _ => none
    | .pointer (some a), .int _ i => match P.underlying t with
      | some (.array n e) => match P.info? e with
        | some inf => if 0 ≤ i ∧ i < n then some (.pointer (some (a.add (i.toNat * inf.size)))) else none
        | none => none
      | _ => none
    | _, _ => none
def partQ (P : Program) (t : TypeId) (cs : Array Value) (off : Nat) : Option Value :=
  match P.underlying t, P.info? t with
  | some d, some inf => if aggT d = true then some (.agg (cs.extract off (off + inf.size))) else cs[off]?
  | _, _ => none
def fieldQ (P : Program) (t : TypeId) (f : Nat) (v : Value) : Option Value :=
  match v with
  | .agg cs => match P.underlying t with
    | some (.struct fs) => match fs[f]? with
      | some fl => partQ P fl.type cs fl.offset
      | none => none
    | _ => none
  | _ => none
def indexQ (P : Program) (t : TypeId) (v i : Value) : Option Value :=
  match v, i with
  | .string s, .int _ i => match P.underlying t with
    | some .string => if 0 ≤ i then (s[i.toNat]?).map fun b => .int .u8 b.toNat else none
    | _ => none
  | .agg cs, .int _ i => match P.underlying t with
    | some (.array n e) => match P.info? e with
      | some inf => if 0 ≤ i ∧ i < n then partQ P e cs (i.toNat * inf.size) else none
      | none => none
    | _ => none
  | _, _ => none
def extractQ (k : Nat) (v : Value) : Option Value :=
  match v with
  | .tuple cs => cs[k]?
  | _ => none
def unQ (op : UnOp) (v : Value) : Option Value :=
  match op, v with
  | .not, .bool b => some (.bool !b)
  | .neg, .int k n => some (.int k (k.wrap (0 - n)))
  | .xor, .int k n => match okRun ((Op.unary .xor (.int k n)).run default World0) with
    | some (v, _) => some v
    | none => none
  | _, _ => none
def fillX (places : List (Nat × Nat)) : Array Value → List (Nat × Value) → Option (Array Value)
  | cs, [] => some cs
  | cs, (i, v) :: l => match places[i]? with
    | some (off, size) => if v.cells.size = size ∧ off + size ≤ cs.size then fillX places (overL cs off v.cells.toList) l else none
    | none => none
def buildQ (P : Program) (t : TypeId) (ps : List (Nat × Value)) : Option Value :=
  match P.info? t with
  | some inf => match inf.zero, P.underlying t with
    | some z, some (.struct fs) => if fs.toList.all (fun (f : Field) => (P.info? f.type).isSome) = true then (fillX (fs.toList.map fun (f : Field) => (f.offset, P.cellsOf f.type)) z.cells ps).map .agg else none
    | some z, some (.array n e) => if (P.info? e).isSome = true then (fillX ((List.range (n + 1)).map fun i => (i * P.cellsOf e, P.cellsOf e)) z.cells ps).map .agg else none
    | _, _ => none
  | none => none
theorem run_part {t : TypeId} {cs : Array Value} {off : Nat} {v : Value} (h : partQ P t cs off = some v) : (Go.part t cs off).run P H = .ok v H := by
  unfold partQ at h
  split at h
  case h_2 => cases h
  rename_i d inf hu hi
  unfold Go.part
  simp only [Sem.run_bind, run_isAgg' hu, Result.andThen_ok]
  split at h
  · rename_i ha
    rw [if_pos ha]
    injection h with h; subst h
    simp only [Sem.run_bind, run_sizeOf' hi, Result.andThen_ok, Sem.run_pure]
  · rename_i ha
    rw [if_neg ha, h]
    rfl
theorem fieldAddrQ_run {s : TypeId} {f : Nat} {v u : Value} (h0 : vFieldAddr P s f v = none) (h : fieldAddrQ P s f v = some u) : fieldOk P s f = true ∧ (Instr.fieldAt s v f).run P H = .ok u H := by
  unfold fieldAddrQ at h
  rw [h0] at h
  simp only at h
  split at h
  case h_2 => cases h
  rename_i a
  split at h
  case h_2 => cases h
  rename_i fs hu
  split at h
  case h_2 => cases h
  rename_i fl hf
  split at h
  case h_2 => cases h
  rename_i i hi
  replace h := of_if' h
  obtain ⟨h1, h⟩ := h
  injection h with h; subst h
  refine ⟨by simp [fieldOk, hu, hf, hi, h1], ?_⟩
  simp [Instr.fieldAt, run_underlying' hu, hf, Instr.sureAddr, fieldPlace, run_sizeOf' hi, h1]
theorem indexAddrQ_run {t : TypeId} {v i u : Value} (h0 : vIndexAddr P t v i = none) (h : indexAddrQ P t v i = some u) : (Instr.indexAt t v i).run P H = .ok u H := by
  unfold indexAddrQ at h
  rw [h0] at h
  simp only at h
  split at h
  · split at h
    case h_2 => cases h
    rename_i hu
    split at h
    case h_2 => cases h
    rename_i inf hi
    replace h := of_if' h
    obtain ⟨⟨h1, h2⟩, h⟩ := h
    injection h with h; subst h
    simp [Instr.indexAt, Go.asIntOf, run_underlying' hu, h1, h2, run_sizeOf' hi]
  · split at h
    case h_2 => cases h
    rename_i hu
    split at h
    case h_2 => cases h
    rename_i inf hi
    replace h := of_if' h
    obtain ⟨⟨h1, h2⟩, h⟩ := h
    injection h with h; subst h
    simp [Instr.indexAt, Go.asIntOf, Instr.sureAddr, run_underlying' hu, h1, h2, run_sizeOf' hi]
  · cases h
theorem fieldQ_run {t : TypeId} {f : Nat} {v u : Value} (h : fieldQ P t f v = some u) : (Instr.field t v f).run P H = .ok u H := by
  unfold fieldQ at h
  split at h
  case h_2 => cases h
  split at h
  case h_2 => cases h
  rename_i fs hu
  split at h
  case h_2 => cases h
  rename_i fl hf
  simp [Instr.field, run_underlying' hu, hf, Go.asAgg, run_part h]
theorem indexQ_run {t : TypeId} {v i u : Value} (h : indexQ P t v i = some u) : (Instr.index t v i).run P H = .ok u H := by
  unfold indexQ at h
  split at h
  · split at h
    case h_2 => cases h
    rename_i hu
    replace h := of_if' h
    obtain ⟨h1, h⟩ := h
    simp only [Option.map_eq_some_iff] at h
    obtain ⟨b, hb, rfl⟩ := h
    simp [Instr.index, Go.asIntOf, run_underlying' hu, h1, hb]
  · split at h
    case h_2 => cases h
    rename_i hu
    split at h
    case h_2 => cases h
    rename_i inf hi
    replace h := of_if' h
    obtain ⟨⟨h1, h2⟩, h⟩ := h
    simp [Instr.index, Go.asIntOf, run_underlying' hu, h1, h2, run_sizeOf' hi, run_part h]
  · cases h
theorem extractQ_run {k : Nat} {v u : Value} (h : extractQ k v = some u) : (Instr.extract v k).run P H = .ok u H := by
  unfold extractQ at h
  split at h
  · simp [Instr.extract, h]
  · cases h
theorem unQ_run {op : UnOp} {v u : Value} (h : unQ op v = some u) : (Op.unary op v).run P H = .ok u H := by
  unfold unQ at h
  split at h
  · injection h with h; subst h; simp [Op.unary]
  · injection h with h; subst h; simp [Op.unary, Op.intArith]
  · simp [Op.unary, Op.intBits, okRun] at h ⊢
    exact h
  · cases h
theorem overL_get : ∀ (l : List Value) (cs : Array Value) (o i : Nat), (overL cs o l)[i]? = if o ≤ i ∧ i < o + l.length ∧ i < cs.size then l[i - o]? else cs[i]?
  | [], cs, o, i => by
    rw [overL, if_neg (by simp; omega)]
  | v :: l, cs, o, i => by
    rw [overL, overL_get l, Array.getElem?_setIfInBounds]
    simp only [Array.size_setIfInBounds, List.length_cons]
    by_cases h1 : o = i
    · subst h1
      rw [if_neg (by omega), if_pos rfl]
      by_cases h2 : o < cs.size
      · rw [if_pos h2, if_pos (by omega)]; simp
      · rw [if_neg h2, if_neg (by omega), Array.getElem?_eq_none (by omega)]
    · rw [if_neg h1]
      by_cases h2 : o + 1 ≤ i ∧ i < o + 1 + l.length ∧ i < cs.size
      · rw [if_pos h2, if_pos (by omega), show i - o = (i - (o + 1)) + 1 by omega]; simp
      · rw [if_neg h2, if_neg (by omega)]
theorem zip_overL (off : Nat) : ∀ (l : List Value) (k : Nat) (cs : Array Value), (l.zipIdx k).foldl (fun cs (c, j) => cs.setIfInBounds (off + j) c) cs = overL cs (off + k) l
  | [], k, cs => rfl
  | v :: l, k, cs => by
    rw [List.zipIdx_cons, List.foldl_cons, zip_overL off l (k + 1), overL]
    rfl
theorem fillX_fill {places : List (Nat × Nat)} {pl : Nat → Option (Nat × Nat)} (hpl : ∀ i x, places[i]? = some x → pl i = some x) : ∀ (ps : List (Nat × Value)) (cs c : Array Value), fillX places cs ps = some c → Instr.fill pl cs ps = some c
  | [], cs, c, h => by simpa [fillX, Instr.fill] using h
  | (i, v) :: ps, cs, c, h => by
    unfold fillX at h
    unfold Instr.fill
    cases hp : places[i]? with
    | none => rw [hp] at h; cases h
    | some os =>
      obtain ⟨off, size⟩ := os
      rw [hp] at h
      rw [hpl _ _ hp]
      simp only at h ⊢
      replace h := of_if' h
      obtain ⟨⟨h1, h2⟩, h⟩ := h
      rw [if_neg (by simp; omega)]
      have : v.cells.zipIdx.foldl (fun cs (c, j) => cs.setIfInBounds (off + j) c) cs = overL cs off v.cells.toList := by
        rw [← Array.foldl_toList, Array.toList_zipIdx]
        exact zip_overL off v.cells.toList 0 cs
      rw [this]
      exact fillX_fill hpl ps _ c h
theorem run_placesL : ∀ (fs : List Field), fs.all (fun (f : Field) => (P.info? f.type).isSome) = true → (fs.mapM fun (f : Field) => (do Pure.pure (f.offset, ← Go.sizeOf f.type) : Sem (Nat × Nat))).run P H = .ok (fs.map fun (f : Field) => (f.offset, P.cellsOf f.type)) H
  | [], _ => by rw [List.mapM_nil]; rfl
  | f :: fs, h => by
    simp only [List.all_cons, Bool.and_eq_true] at h
    obtain ⟨i, hi⟩ := Option.isSome_iff_exists.1 h.1
    rw [List.mapM_cons]
    simp only [Sem.run_bind, run_sizeOf' hi, Result.andThen_ok, Sem.run_pure, run_placesL fs h.2, List.map_cons]
    simp [Program.cellsOf, hi]
theorem run_places (fs : Array Field) (h : fs.toList.all (fun (f : Field) => (P.info? f.type).isSome) = true) : (fs.mapM fun (f : Field) => (do Pure.pure (f.offset, ← Go.sizeOf f.type) : Sem (Nat × Nat))).run P H = .ok (fs.map fun (f : Field) => (f.offset, P.cellsOf f.type)) H := by
  rw [Array.mapM_eq_mapM_toList]
  simp only [Sem.run_map, run_placesL fs.toList h, Result.andThen_ok]
  congr 1
  apply Array.toList_inj.1
  simp
theorem buildQ_run {t : TypeId} {ps : Array (Nat × Value)} {u : Value} (h : buildQ P t ps.toList = some u) : (Instr.build t ps).run P H = .ok u H := by
  unfold buildQ at h
  split at h
  case h_2 => cases h
  rename_i inf hi
  split at h
  · rename_i z fs hz hu
    replace h := of_if' h
    obtain ⟨hall, h⟩ := h
    simp only [Option.map_eq_some_iff] at h
    obtain ⟨c, hc, rfl⟩ := h
    have hm := run_places (P := P) (H := H) fs hall
    unfold Instr.build
    simp only [Sem.run_bind, run_zeroValue' hi hz, Result.andThen_ok, run_underlying' hu, hm]
    rw [fillX_fill (pl := fun i => (fs.map fun (f : Field) => (f.offset, P.cellsOf f.type))[i]?) (fun i x hx => by rw [← Array.toList_map, Array.getElem?_toList] at hx; exact hx) _ _ _ hc]
    rfl
  · rename_i z n e hz hu
    replace h := of_if' h
    obtain ⟨hall, h⟩ := h
    simp only [Option.map_eq_some_iff] at h
    obtain ⟨c, hc, rfl⟩ := h
    obtain ⟨ie, hie⟩ := Option.isSome_iff_exists.1 hall
    have hce : P.cellsOf e = ie.size := by simp [Program.cellsOf, hie]
    unfold Instr.build
    simp only [Sem.run_bind, run_zeroValue' hi hz, Result.andThen_ok, run_underlying' hu, run_sizeOf' hie]
    rw [fillX_fill (pl := fun i => some (i * ie.size, ie.size)) (fun i x hx => by
      simp only [List.getElem?_map, Option.map_eq_some_iff] at hx
      obtain ⟨j, hj, rfl⟩ := hx
      obtain ⟨_, hj⟩ := List.getElem?_eq_some_iff.1 hj
      simp at hj; subst hj; rw [hce]) _ _ _ hc]
    rfl
  · cases h
end Go.Proofs.YtmmmdmandocbhaaDoor.Den
end
