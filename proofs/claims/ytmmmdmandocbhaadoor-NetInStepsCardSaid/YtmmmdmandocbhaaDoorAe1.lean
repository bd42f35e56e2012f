/- Helpers of this claim: an evaluator over plain values and its laws. -/
import Derived.Test.YtmmmdmandocbhaaDoorAe
section
/- What single operations come to: those that make, and all of them together. -/
set_option linter.unusedVariables false
set_option linter.unusedSimpArgs false
namespace Go.Proofs.YtmmmdmandocbhaaDoor.Den
variable {P : Program} {ρ : Operand → Value} {H : World}
variable {d : Option Tmp} {ty : TypeId} {pos : String} {af : Array Edge} {g : Option (Nat × Bool)}

/-! ### slices that are made -/
def inOrder : Nat → List (Nat × Value) → Bool
  | _, [] => true
  | k, (i, _) :: l => i == k && inOrder (k + 1) l
def catCells : List (Nat × Value) → List Value
  | [] => []
  | (_, v) :: l => v.cells.toList ++ catCells l
def buildSliceX (P : Program) (t : TypeId) (len : Nat) (ps : List (Nat × Value)) (H : World) : Option (Next × World) :=
  match P.underlying t with
  | some (.slice e) => match P.info? e with
    | some inf => match inf.zero with
      | some z => if ps.length = len ∧ inOrder 0 ps = true ∧ ps.all (fun p => p.2.cells.size == inf.size) = true ∧ 0 < inf.size ∧ len * inf.size ≤ 2 ^ 24 then
          some (.value (.slice (some ⟨szO H, 0, none⟩) len len), pushObj H (.cells (catCells ps).toArray e (0, 0))) else none
      | none => none
    | none => none
  | _ => none
theorem catCells_len {size : Nat} : ∀ (ps : List (Nat × Value)), ps.all (fun p => p.2.cells.size == size) = true → (catCells ps).length = ps.length * size
  | [], _ => by simp [catCells]
  | (i, v) :: l, h => by
    simp only [List.all_cons, Bool.and_eq_true, beq_iff_eq] at h
    simp only [catCells, List.length_append, Array.length_toList, h.1, catCells_len l h.2, List.length_cons, Nat.succ_mul]; omega
theorem fill_inOrder {size : Nat} : ∀ (ps : List (Nat × Value)) (k : Nat) (cs : Array Value), inOrder k ps = true → ps.all (fun p => p.2.cells.size == size) = true → (k + ps.length) * size = cs.size →
    Instr.fill (fun i => some (i * size, size)) cs ps = some (overL cs (k * size) (catCells ps))
  | [], k, cs, _, _, _ => by simp [Instr.fill, catCells, overL]
  | (i, v) :: l, k, cs, ho, hs, hz => by
    simp only [inOrder, Bool.and_eq_true, beq_iff_eq] at ho
    obtain ⟨rfl, ho⟩ := ho
    simp only [List.all_cons, Bool.and_eq_true, beq_iff_eq] at hs
    simp only [List.length_cons] at hz
    unfold Instr.fill
    simp only
    have h1 : (i + (l.length + 1)) * size = i * size + size + l.length * size := by rw [Nat.add_mul, Nat.add_mul, Nat.one_mul]; omega
    rw [if_neg (by simp; omega)]
    have : v.cells.zipIdx.foldl (fun cs (c, j) => cs.setIfInBounds (i * size + j) c) cs = overL cs (i * size) v.cells.toList := by
      rw [← Array.foldl_toList, Array.toList_zipIdx]
      exact zip_overL (i * size) v.cells.toList 0 cs
    rw [this, fill_inOrder l (i + 1) _ ho hs.2 (by rw [overL_size, ← hz]; congr 1; omega)]
    congr 1
    have app : ∀ (a b : List Value) (cs : Array Value) (o : Nat), overL (overL cs o a) (o + a.length) b = overL cs o (a ++ b) := by
      intro a
      induction a with
      | nil => intro b cs o; simp [overL]
      | cons x a ih =>
        intro b cs o
        simp only [overL, List.cons_append, List.length_cons]
        rw [← ih]
        congr 1; omega
    rw [catCells, ← app, Nat.succ_mul]
    congr 2
    simp [hs.1]
theorem overL_all {cs : Array Value} {l : List Value} (h : l.length = cs.size) : overL cs 0 l = l.toArray := by
  apply Array.ext_getElem?
  intro i
  rw [overL_get]
  by_cases hi : i < cs.size
  · rw [if_pos (by omega)]; simp
  · rw [if_neg (by omega), Array.getElem?_eq_none (by omega), List.getElem?_toArray, List.getElem?_eq_none (by omega)]
theorem buildSliceX_run {t : TypeId} {len : Nat} {ps : Array (Nat × Value)} {r : Next × World} (h : buildSliceX P t len ps.toList H = some r) : okRun ((do Pure.pure (Next.value (← Instr.buildSlice t len ps))).run P H) = some r := by
  unfold buildSliceX at h
  split at h
  case h_2 => cases h
  rename_i e hu
  split at h
  case h_2 => cases h
  rename_i inf hi
  split at h
  case h_2 => cases h
  rename_i z hz
  replace h := of_if' h
  obtain ⟨⟨h1, h2, h3, h4, h5⟩, h⟩ := h
  injection h with h; subst h
  have hne : ¬ len * inf.size > 2 ^ 24 := by omega
  have hzero : (zerosOf e (len * inf.size)).run P H = .ok (if len * inf.size = 0 then #[] else z.cells) H := by
    unfold zerosOf
    split
    · rfl
    · simp only [Sem.run_bind, run_zeroValue' hi hz, Result.andThen_ok, Sem.run_pure]
  have hf := fill_inOrder (size := inf.size) ps.toList 0 ((Array.range (len * inf.size)).map ((if len * inf.size = 0 then #[] else z.cells)[· % (if len * inf.size = 0 then #[] else z.cells).size]!)) h2 h3 (by simp [h1])
  rw [Nat.zero_mul, overL_all (by rw [catCells_len _ h3, h1]; simp)] at hf
  rw [buildSlice_eq]
  simp only [Sem.run_bind, run_underlying' hu, Result.andThen_ok, run_sizeOf' hi]
  rw [if_neg hne]
  simp only [Sem.run_bind, hzero, Result.andThen_ok]
  rw [hf]
  simp only [Sem.run_bind, Go.newRow, run_newObj, Result.andThen_ok, Sem.run_pure, okRun, pushObj]

def zerosX (n : Nat) (z : List Value) : List Value := (List.replicate n z).flatten
theorem zerosX_get {z : List Value} (hz : 0 < z.length) : ∀ (n i : Nat), (zerosX n z)[i]? = if i < n * z.length then z[i % z.length]? else none
  | 0, i => by simp [zerosX]
  | n + 1, i => by
    unfold zerosX
    rw [List.replicate_succ, List.flatten_cons, List.getElem?_append]
    by_cases h : i < z.length
    · rw [if_pos h, if_pos (by rw [Nat.succ_mul]; omega), Nat.mod_eq_of_lt h]
    · rw [if_neg h]
      have := zerosX_get hz n (i - z.length)
      unfold zerosX at this
      rw [this, Nat.succ_mul]
      have hm : (i - z.length) % z.length = i % z.length := by
        have e := Nat.add_mod_right (i - z.length) z.length
        rw [Nat.sub_add_cancel (by omega)] at e
        exact e.symm
      rw [hm]
      by_cases h2 : i < n * z.length + z.length
      · rw [if_pos h2, if_pos (by omega)]
      · rw [if_neg h2, if_neg (by omega)]
def makeSliceX (P : Program) (t : TypeId) (l c : Value) (H : World) : Option (Next × World) :=
  match l, c with
  | .int _ l, .int _ c => match P.underlying t with
    | some (.slice e) => match P.info? e with
      | some inf => match inf.zero with
        | some z => if 0 ≤ l ∧ l ≤ c ∧ c ≤ 2 ^ 32 ∧ inf.bytes ≤ 2 ^ 8 ∧ 0 < inf.size ∧ z.cells.size = inf.size then
            some (.value (.slice (some ⟨szO H, 0, none⟩) l.toNat c.toNat), pushObj H (.cells (zerosX c.toNat z.cells.toList).toArray e (0, 0))) else none
        | none => none
      | none => none
    | _ => none
  | _, _ => none
theorem wrap64 {n : Int} (h0 : 0 ≤ n) (h1 : n < 2 ^ 63) : IntKind.i64.wrap n = n := by
  simp [IntKind.wrap, IntKind.min, IntKind.bits, IntKind.signed]
  omega
theorem makeSliceX_run {t : TypeId} {l c : Value} {r : Next × World} (h : makeSliceX P t l c H = some r) : okRun ((do Pure.pure (Next.value (← Instr.makeSlice t l c))).run P H) = some r := by
  unfold makeSliceX at h
  split at h
  case h_2 => cases h
  rename_i kl l kc c
  split at h
  case h_2 => cases h
  rename_i e hu
  split at h
  case h_2 => cases h
  rename_i inf hi
  split at h
  case h_2 => cases h
  rename_i z hz
  replace h := of_if' h
  obtain ⟨⟨h1, h2, h3, h4, h5, h6⟩, h⟩ := h
  injection h with h; subst h
  have wl : IntKind.i64.wrap l = l := wrap64 h1 (by omega)
  have wc : IntKind.i64.wrap c = c := wrap64 (by omega) (by omega)
  have hb : (inf.bytes : Int) * c ≤ 2 ^ 40 := by
    have : (inf.bytes : Int) * c ≤ 2 ^ 8 * 2 ^ 32 := Int.mul_le_mul (by omega) (by omega) (by omega) (by omega)
    omega
  have hroom : ¬ c.toNat * inf.bytes > roomBytes := by
    have : ((c.toNat * inf.bytes : Nat) : Int) = (inf.bytes : Int) * c := by
      rw [Int.natCast_mul, Int.toNat_of_nonneg (by omega), Int.mul_comm]
    unfold roomBytes
    omega
  have hzero : (zerosOf e (c.toNat * inf.size)).run P H = .ok (if c.toNat * inf.size = 0 then #[] else z.cells) H := by
    unfold zerosOf
    split
    · rfl
    · simp only [Sem.run_bind, run_zeroValue' hi hz, Result.andThen_ok, Sem.run_pure]
  have hcells : ((Array.range (c.toNat * inf.size)).map ((if c.toNat * inf.size = 0 then #[] else z.cells)[· % (if c.toNat * inf.size = 0 then #[] else z.cells).size]!)) = (zerosX c.toNat z.cells.toList).toArray := by
    apply Array.ext_getElem?
    intro i
    have hzl : z.cells.toList.length = inf.size := by simpa using h6
    rw [Array.getElem?_map]
    rw [show (zerosX c.toNat z.cells.toList).toArray[i]? = (zerosX c.toNat z.cells.toList)[i]? by simp, zerosX_get (by omega)]
    rw [hzl]
    by_cases hlt : i < c.toNat * inf.size
    · rw [if_pos hlt]
      have hne : ¬ c.toNat * inf.size = 0 := by omega
      simp only [hne, if_false]
      rw [Array.getElem?_range]
      simp only [hlt, if_true, Option.map_some, h6]
      have hm : i % inf.size < z.cells.size := by rw [h6]; exact Nat.mod_lt _ h5
      rw [getElem!_pos z.cells _ hm]
      simp [hm]
    · rw [if_neg hlt, Array.getElem?_eq_none (by simp; omega)]; rfl
  have key : (Instr.makeSlice t (.int kl l) (.int kc c)).run P H = .ok (.slice (some ⟨szO H, 0, none⟩) l.toNat c.toNat) (pushObj H (.cells (zerosX c.toNat z.cells.toList).toArray e (0, 0))) := by
    have hp : ¬ (inf.bytes : Int) * c > 2 ^ 48 := by omega
    rw [makeSlice_eq]
    simp only [Sem.run_bind, run_underlying' hu, Result.andThen_ok, asInt, asIntOf, Sem.run_pure, run_typeInfo' hi, wl, wc]
    rw [if_neg (by simp; omega)]
    simp only [Sem.run_bind, askRoom, if_neg hroom, Sem.run_pure, Result.andThen_ok, run_sizeOf' hi, hzero]
    rw [hcells]
    simp only [Go.newRow, Sem.run_bind, run_newObj, Result.andThen_ok, Sem.run_pure, pushObj]
  simp only [Sem.run_bind, key, Result.andThen_ok, Sem.run_pure, okRun]

/-- Two values and an operator. -/
def vNilOp (P : Program) (op : BinOp) (t : TypeId) (X Y : Value) : Option Value :=
  match op with
  | .eql => (vNil P t X Y).map .bool
  | .neq => (vNil P t X Y).map fun b => .bool !b
  | _ => none
def binX (P : Program) (op : BinOp) (t : TypeId) (x y : Operand) (X Y : Value) (H : World) : Option (Next × World) :=
  match vNilOp P op t X Y with
  | some v => some (.value v, H)
  | none => binV P op t x y X Y H
/-! ### conversions, cuts, builtins -/
def convX (P : Program) (src dst : TypeId) (x : Value) (H : World) : Option (Next × World) :=
  match vConv P src dst x with
  | some v => some (.value v, H)
  | none => match x with
    | .int _ n => match P.underlying src, P.underlying dst with
      | some _, some (.int k) => some (.value (.int k (k.wrap n)), H)
      | _, _ => none
    | .string s => match P.underlying src, P.underlying dst with
      | some _, some .string => some (.value (.string s), H)
      | some _, some (.slice e) => match P.underlying e, P.info? e with
        | some (.int .u8), some inf => if inf.size = 1 then some (.value (.slice (some ⟨szO H, 0, none⟩) s.size s.size), pushObj H (.cells (bytesOf s) e (1, 0))) else none
        | _, _ => none
      | _, _ => none
    | .slice none _ _ => match P.underlying src, P.underlying dst with
      | some (.slice e), some .string => match P.underlying e with
        | some (.int .u8) => some (.value (.string .empty), H)
        | _ => none
      | _, _ => none
    | .slice (some a) n _ => match P.underlying src, P.underlying dst with
      | some (.slice e), some .string => match P.underlying e, rowAt H a n with
        | some (.int .u8), some cs => if cs.all isU8 = true then some (.value (.string (strOf cs.toList)), H) else none
        | _, _ => none
      | _, _ => none
    | _ => none
def sliceX (P : Program) (t : TypeId) (x : Value) (lo hi mx : Option Value) (H : World) : Option (Next × World) :=
  match vSliceOp P t x lo hi mx with
  | some v => some (.value v, H)
  | none => match x with
    | .string s => match P.underlying t, mx with
      | some .string, none => match vBound s.size hi s.size with
        | some h => match vBound h lo 0 with
          | some l => some (.value (.string (s.extract l h)), H)
          | none => none
        | none => none
      | _, _ => none
    | x => (lslice P t x lo hi mx H).map fun r => (.value r.1, r.2)
def builtinX (P : Program) (b : Builtin) (ts : Array TypeId) (vs : Array Value) (H : World) : Option (Next × World) :=
  match b with
  | .len => if vs.size = 1 ∧ ts.size = 1 then (match vLen P (ts.getD 0 0) (vs.getD 0 undef) with
    | some v => some (.value v, H)
    | none => (lenD P (ts.getD 0 0) (vs.getD 0 undef) H).map fun n => (.value (goInt n), H)) else none
  | .append => if vs.size = 2 then (lappend P ts (vs.getD 0 undef) (vs.getD 1 undef) H).map fun r => (.value r.1, r.2) else none
  | b => (builtinD P b ts vs H).map fun r => (.value r.1, r.2)
def callX (P : Program) (g : Value) (args : Array Value) (H : World) : Option (Next × World) := (callD P g args H).map fun x => (x, H)
def nilCheckX (v : Value) (H : World) : Option (Next × World) :=
  match v with
  | .iface tg (.tuple cs) => if tg = rfT then some (.value (rf cs), H) else none
  | .pointer (some p) => some (.value (.pointer (some p)), H)
  | .func (.func f) fs cs => some (.value (.func (.func f) fs cs), H)
  | _ => none
def qX (H : World) (q : Option Value) : Option (Next × World) :=
  match q with
  | some v => some (.value v, H)
  | none => none

/-- The meaning of an operation, as far as it is told by functions of values. -/
def semX (P : Program) (o : Oper) (ρ : Operand → Value) (H : World) : Option (Next × World) :=
  if o.op.operands.all operandOk then
    match o.op with
    | .move x => some (.value (ρ x), H)
    | .assign x => some (.value (ρ x), H)
    | .pick c a b => (match ρ c with | .bool t => some (.value (if t = true then ρ a else ρ b), H) | _ => none)
    | .alloc e => (match P.info? e with
      | some inf => (match inf.zero with | some z => some (.value (.pointer (some ⟨szO H, 0, none⟩)), pushObj H (.cells z.cells e (0, 0))) | none => none)
      | none => none)
    | .box e x => some (.value (.pointer (some ⟨szO H, 0, none⟩)), pushObj H (.cells (ρ x).cells e (0, 0)))
    | .build t ps => qX H (buildQ P t (ps.toList.map fun (i, x) => (i, ρ x)))
    | .buildSlice t n ps => buildSliceX P t n (ps.toList.map fun (i, x) => (i, ρ x)) H
    | .load t x => loadX P t (ρ x) H
    | .store t x y => storeX P t (ρ x) (ρ y) H
    | .binOp op t x y _ => binX P op t x y (ρ x) (ρ y) H
    | .unOp op _ x => qX H (unQ op (ρ x))
    | .convert s t x => convX P s t (ρ x) H
    | .makeFunc (.func f) fs cs => some (.value (.func (.func f) (fs.map ρ) (cs.map ρ)), H)
    | .makeMap _ none => some (.value (.map (some (szO H))), pushObj H (.map #[] 0))
    | .makeSlice t l c => makeSliceX P t (ρ l) (ρ c) H
    | .slice t x lo hi mx => sliceX P t (ρ x) (lo.map ρ) (hi.map ρ) (mx.map ρ) H
    | .fieldAddr s x f => qX H (fieldAddrQ P s f (ρ x))
    | .field s x f => qX H (fieldQ P s f (ρ x))
    | .indexAddr t x y => qX H (indexAddrQ P t (ρ x) (ρ y))
    | .index t x y => qX H (indexQ P t (ρ x) (ρ y))
    | .extract x k => qX H (extractQ k (ρ x))
    | .lookup t m k ok => (lookupD P t (ρ m) (ρ k) ok H).map fun v => (.value v, H)
    | .mapUpdate t m k v => (mapUpdateD P t (ρ m) (ρ k) (ρ v) H).map fun H1 => (.skip, H1)
    | .insert t m k v => (mapUpdateD P t (ρ m) (ρ k) (ρ v) H).map fun H1 => (.skip, H1)
    | .nilCheck x => nilCheckX (ρ x) H
    | .call c => (match c.callee with
      | .builtin b => builtinX P b c.argTypes (c.args.map ρ) H
      | .value g => callX P (ρ g) (c.args.map ρ) H
      | _ => none)
    | _ => none
  else none

/-- semR behind its look at the operands. -/
def semN (P : Program) (o : Oper) (ρ : Operand → Value) (H : World) : Option (Next × World) :=
  match pureD P o.op ρ with
  | some v => some (.value v, H)
  | none =>
  match o.op with
  | .slice t x lo hi mx => (lslice P t (ρ x) (lo.map ρ) (hi.map ρ) (mx.map ρ) H).map fun r => (.value r.1, r.2)
  | .binOp op t x y _ => binR P op t x y ρ H
  | .convert src dst x => (convD P src dst (ρ x) H).map fun r => (.value r.1, r.2)
  | .lookup t m k ok => (lookupD P t (ρ m) (ρ k) ok H).map fun v => (.value v, H)
  | .mapUpdate t m k v => (mapUpdateD P t (ρ m) (ρ k) (ρ v) H).map fun H1 => (.skip, H1)
  | .insert t m k v => (mapUpdateD P t (ρ m) (ρ k) (ρ v) H).map fun H1 => (.skip, H1)
  | .nilCheck x => match ρ x with
    | .pointer (some p) => some (.value (.pointer (some p)), H)
    | .func (.func f) fs cs => some (.value (.func (.func f) fs cs), H)
    | _ => none
  | .call c => callOpR P c ρ H
  | op => if okOp P op then okRun ((execOp ρ o).run P H) else none
theorem semR_ok {o : Oper} (h : o.op.operands.all operandOk = true) : semR P o ρ H = semN P o ρ H := by
  unfold semR
  rw [h]
  rfl
theorem parts_eq (ps : Array (Nat × Operand)) : (ps.map fun (i, x) => (i, ρ x)).toList = ps.toList.map fun (i, x) => (i, ρ x) := by simp
theorem semX_sound {o : Oper} : Is (semX P o ρ H) (semR P o ρ H) := by
  intro r h
  unfold semX at h
  replace h := of_if' h
  obtain ⟨hops, h⟩ := h
  obtain ⟨d, op, ty, pos, af, g⟩ := o
  simp only at hops h
  have hok : ∀ x ∈ op.operands, operandOk x = true := fun x hx => Array.all_eq_true_iff_forall_mem.1 hops x hx
  have base : semR P ⟨d, op, ty, pos, af, g⟩ ρ H = semN P ⟨d, op, ty, pos, af, g⟩ ρ H := semR_ok hops
  cases op
  case load t x => exact loadX_is (hok x (by simp [Op.operands])) r h
  case store t x y => exact storeX_is (hok x (by simp [Op.operands])) (hok y (by simp [Op.operands])) r h
  all_goals rw [base]; clear base
  all_goals unfold semN
  all_goals simp only [pureD] at h ⊢
  case move x => simpa [okOp, execOp, okRun] using h
  case assign x => simpa [okOp, execOp, okRun] using h
  case pick c x y =>
    split at h
    · rename_i t ht
      simp [okOp, execOp, ht, asBool, okRun]
      simpa using h
    · cases h
  case alloc e =>
    split at h
    case h_2 => cases h
    rename_i inf hi
    split at h
    case h_2 => cases h
    rename_i z hz
    have : (Instr.alloc e true (.tuple #[])).run P H = .ok (.pointer (some ⟨szO H, 0, none⟩)) (pushObj H (.cells z.cells e (0, 0))) := by
      simp only [Instr.alloc, Sem.run_bind, run_zeroValue' hi hz, Result.andThen_ok, Go.newVar, Go.newRow, run_newObj, Sem.run_pure, pushObj]
    simp only [okOp, execOp, Sem.run_bind, this, Result.andThen_ok, Sem.run_pure, okRun, if_true]
    exact h
  case box e x =>
    simp only [okOp, execOp, Instr.box, Go.newVar, Go.newRow, Sem.run_bind, run_newObj, Result.andThen_ok, Sem.run_pure, okRun, if_true]
    exact h
  case build t ps =>
    unfold qX at h
    split at h
    case h_2 => cases h
    rename_i u hq
    rw [← parts_eq] at hq
    simp only [okOp, if_true]
    exact (okRun_val (buildQ_run hq)).trans h
  case buildSlice t n ps =>
    rw [← parts_eq] at h
    simp only [okOp, if_true]
    exact buildSliceX_run h
  case binOp op t x y yt =>
    unfold binX vNilOp at h
    cases op <;> exact h
  case unOp op t x =>
    unfold qX at h
    split at h
    case h_2 => cases h
    rename_i u hq
    simp only [okOp, if_true]
    exact (okRun_val (unQ_run hq)).trans h
  case convert src dst x =>
    unfold convX at h
    cases hv : vConv P src dst (ρ x) with
    | some u => rw [hv] at h; exact h
    | none =>
    rw [hv] at h
    simp only at h ⊢
    split at h
    · rename_i k n hx
      split at h
      · rename_i k2 h1 h2
        rw [hx]
        simp only [convD, h1, h2, Option.map_some]
        exact h
      · cases h
    · rename_i s hx
      split at h
      · rename_i h1 h2
        rw [hx]
        simp only [convD, h1, h2, Option.map_some]
        exact h
      · rename_i e h1 h2
        split at h
        · rename_i inf h3 h4
          rw [hx]
          simp only [convD, h1, h2, h3, h4, Option.map_some]
          replace h := of_if' h
          rw [if_pos h.1]
          exact h.2
        · cases h
      · cases h
    · rename_i n c hx
      split at h
      · rename_i e h1 h2
        split at h
        · rename_i h3
          rw [hx]
          simp only [convD, h1, h2, h3, Conv.bytesToString, Sem.run_pure, okRun, Option.map_some]
          exact h
        · cases h
      · cases h
    · rename_i a n c hx
      split at h
      · rename_i e h1 h2
        split at h
        · rename_i cs h3 h4
          replace h := of_if' h
          obtain ⟨hall, h⟩ := h
          rw [hx]
          have hall' : ∀ x ∈ cs.toList, isU8 x = true := fun x hx => by
            obtain ⟨k, hk⟩ := List.getElem?_of_mem hx
            obtain ⟨hlt, rfl⟩ := Array.getElem?_eq_some_iff.1 (by simpa using hk)
            exact (Array.all_eq_true.1 hall) k hlt
          have hf := forIn_bytes (P := P) H cs.toList .empty hall'
          rw [push_strOf] at hf
          have hb : (Conv.bytesToString (.slice (some a) n c)).run P H = .ok (.string (strOf cs.toList)) H := by
            simp only [Conv.bytesToString, Sem.run_bind, run_rowAt h4, Result.andThen_ok, ← Array.forIn_toList]
            simp only [Sem.run_bind, Sem.run_pure, Result.andThen_ok]
            refine (congrArg (fun r => Result.andThen r _) hf).trans ?_
            simp [strOf]
          simp only [convD, h1, h2, h3, hb, okRun, Option.map_some]
          exact h
        · cases h
      · cases h
    · cases h
  case makeFunc f fs cs =>
    cases f with
    | func f =>
      simp only [okOp, execOp, Instr.makeFunc, Sem.run_bind, Sem.run_pure, Result.andThen_ok, okRun, if_true]
      exact h
    | _ => cases h
  case makeMap t r =>
    cases r with
    | none =>
      simp only [okOp, execOp, Option.map_none, Instr.makeMap, Sem.run_bind, run_newObj, Sem.run_pure, Result.andThen_ok, okRun, if_true]
      exact h
    | some r => cases h
  case makeSlice t l c =>
    simp only [okOp, if_true]
    exact makeSliceX_run h
  case slice t x lo hi mx =>
    unfold sliceX at h
    cases hv : vSliceOp P t (ρ x) (lo.map ρ) (hi.map ρ) (mx.map ρ) with
    | some u => rw [hv] at h; exact h
    | none =>
    rw [hv] at h
    simp only at h ⊢
    split at h
    · rename_i s hx
      split at h
      · rename_i hu hm
        split at h
        case h_2 => cases h
        rename_i hh hhe
        split at h
        case h_2 => cases h
        rename_i l hle
        rw [hx, hm]
        have hb : (Instr.sliceBounds false s.size s.size (lo.map ρ) (hi.map ρ) none).run P H = .ok (l, hh, s.size) H := by
          rcases vBound_some hhe with ⟨e1, rfl⟩ | ⟨k1, i1, e1, h10, h11, rfl⟩ <;> rcases vBound_some hle with ⟨e2, rfl⟩ | ⟨k2, i2, e2, h20, h21, rfl⟩
          · rw [e1, e2]; simp [Instr.sliceBounds]
          · rw [e1, e2]; simp [Instr.sliceBounds, sliceBound_ok _ h20 h21]
          · rw [e1, e2]; simp [Instr.sliceBounds, sliceBound_ok _ h10 h11]
          · rw [e1, e2]; simp [Instr.sliceBounds, sliceBound_ok _ h10 h11, sliceBound_ok _ h20 h21]
        have hr : (Instr.slice t (.string s) (lo.map ρ) (hi.map ρ) none).run P H = .ok (.string (s.extract l hh)) H := by
          simp only [Instr.slice, Sem.run_bind, run_underlying' hu, Result.andThen_ok, Option.isSome_none, Bool.false_eq_true, if_false, hb, Sem.run_pure]
        simp only [lslice, hu, hr, okRun, Option.map_some]
        exact h
      · cases h
    · exact h
  case fieldAddr s x f =>
    unfold qX at h
    split at h
    case h_2 => cases h
    rename_i u hq
    cases hv : vFieldAddr P s f (ρ x) with
    | some w =>
      unfold fieldAddrQ at hq
      rw [hv] at hq
      simp only at hq ⊢
      injection hq with hq; subst hq
      exact h
    | none =>
      obtain ⟨h1, h2⟩ := fieldAddrQ_run (H := H) hv hq
      simp only [okOp, h1, if_true]
      exact (okRun_val h2).trans h
  case field s x f =>
    unfold qX at h
    split at h
    case h_2 => cases h
    rename_i u hq
    simp only [okOp, if_true]
    exact (okRun_val (fieldQ_run hq)).trans h
  case indexAddr t x y =>
    unfold qX at h
    split at h
    case h_2 => cases h
    rename_i u hq
    cases hv : vIndexAddr P t (ρ x) (ρ y) with
    | some w =>
      unfold indexAddrQ at hq
      rw [hv] at hq
      simp only at hq ⊢
      injection hq with hq; subst hq
      exact h
    | none =>
      simp only [okOp, if_true]
      exact (okRun_val (indexAddrQ_run hv hq)).trans h
  case index t x y =>
    unfold qX at h
    split at h
    case h_2 => cases h
    rename_i u hq
    simp only [okOp, if_true]
    exact (okRun_val (indexQ_run hq)).trans h
  case extract x k =>
    unfold qX at h
    split at h
    case h_2 => cases h
    rename_i u hq
    simp only [okOp, if_true]
    exact (okRun_val (extractQ_run hq)).trans h
  case lookup t m k ok => exact h
  case mapUpdate t m k v => exact h
  case insert t m k v => exact h
  case nilCheck x =>
    unfold nilCheckX at h
    split at h
    · rename_i tg cs hx
      replace h := of_if' h
      rw [hx]
      simp only [h.1, if_true]
      exact h.2
    · rename_i p hx
      rw [hx]
      exact h
    · rename_i f fs cs hx
      rw [hx]
      exact h
    · cases h
  case call c =>
    unfold callOpR
    split at h
    · rename_i b hb
      unfold builtinX at h
      split at h
      · replace h := of_if' h
        obtain ⟨⟨h1, h2⟩, h⟩ := h
        have h1' : c.args.size = 1 := by simpa using h1
        rw [hb]
        simp only
        cases hv : vLen P (c.argTypes.getD 0 0) ((c.args.map ρ).getD 0 undef) with
        | some u =>
          rw [hv] at h
          rw [if_pos ⟨h1', h2⟩]
          exact h
        | none =>
          rw [hv] at h
          rw [if_pos ⟨h1', h2⟩]
          simp only [builtinD, h1, h2, and_self, if_true, Option.map_map] at h ⊢
          exact h
      · replace h := of_if' h
        rw [hb]
        simp only [builtinD, h.1, if_true]
        exact h.2
      · rename_i b' hb1 hb2
        rw [hb]
        cases b <;> first | exact (hb1 rfl).elim | exact (hb2 rfl).elim | exact h
    · rename_i g hg
      rw [hg]
      exact h
    · cases h
  all_goals cases h
end Go.Proofs.YtmmmdmandocbhaaDoor.Den
end
