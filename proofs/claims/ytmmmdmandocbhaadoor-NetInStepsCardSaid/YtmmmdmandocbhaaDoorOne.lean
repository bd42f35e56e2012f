/- Helpers of this claim: an evaluator over plain values and its laws. -/
import Derived.RangeFuncLeaves
import Derived.Lib.Bytealg
import Derived.Lib.LaidTab
import Derived.Lib.ItoaNum
import GoSem.Claims
import Derived.Laws.World
section
/- The logical evaluator: a deterministic reading of the model's operations over a logical world. -/
set_option linter.unusedVariables false
set_option linter.unusedSimpArgs false
namespace Go.Proofs.YtmmmdmandocbhaaDoor.Den

/-! ### 1. Operands and constants without addresses -/
def constOk1 : Value → Bool
  | .bool _ | .int .. | .float .. | .complex .. | .string _ | .pointer none | .slice none .. | .map none | .chan none | .nilFunc | .nilIface => true
  | _ => false
def constOk : Value → Bool
  | .agg cs => cs.all constOk1
  | .tuple cs => cs.all constOk1
  | v => constOk1 v
def operandOk : Operand → Bool
  | .tmp _ | .func _ => true
  | .const v => constOk v
  | .global _ => false

def deadObj : Obj := .coro none
/-- A row that came in: it is never written. -/
def given : Obj → Bool
  | .cells _ _ fr => fr.1 == 0 && fr.2 != 0
  | _ => false
def live : Obj → Bool
  | .cells .. | .map .. | .loop _ | .deferred _ => true
  | _ => false
def pushObj (H : World) (o : Obj) : World := { H with heap := H.heap.push o }
def killObj (H : World) (r : Nat) : World := { H with heap := H.heap.setIfInBounds r deadObj }

/-- A run that ends well. -/
def okRun {α : Type} : Result α → Option (α × World)
  | .ok a w => some (a, w)
  | .halt .. => none

/-! ### 1b. Slices and pointers that are values: nobody writes what they show. -/
def rfT : Nat := 1000000000
def vsT : Nat := 1000000001
/-- A pointer to cells that are never written. -/
def rf (cs : Array Value) : Value := .iface rfT (.tuple cs)
/-- A slice, not nil, of elements of es cells each, that is never written. -/
def vs (es : Nat) (xs : Array Value) : Value := .iface (vsT + es) (.tuple xs)
def isU8 : Value → Bool
  | .int .u8 _ => true
  | _ => false
def byteV : Value → UInt8
  | .int _ n => UInt8.ofNat n.toNat
  | _ => 0
def strOf (xs : List Value) : ByteArray := ⟨(xs.map byteV).toArray⟩
def vBound (n : Nat) (v : Option Value) (d : Nat) : Option Nat :=
  match v with
  | none => some d
  | some (.int _ i) => if 0 ≤ i ∧ i ≤ n then some i.toNat else none
  | some _ => none
def vSlice (es : Nat) (xs : Array Value) (lo hi mx : Option Value) : Option Value :=
  match mx, hi with
  | none, hi => match vBound xs.size hi xs.size with
    | some h => match vBound h lo 0 with
      | some l => some (vs es (xs.extract l h))
      | none => none
    | none => none
  | some _, none => none
  | some m, some h => match vBound xs.size (some m) 0 with
    | some m => match vBound m (some h) 0 with
      | some h => match vBound h lo 0 with
        | some l => some (vs es (xs.extract l h))
        | none => none
      | none => none
    | none => none
def aggT : TypeDesc → Bool
  | .struct _ | .array _ _ => true
  | _ => false
def vIndexAddr (P : Program) (t : TypeId) (x y : Value) : Option Value :=
  match x, y with
  | .iface tg (.tuple xs), .int _ i => match P.underlying t with
    | some (.slice elem) => match P.info? elem with
      | some inf => if tg = vsT + inf.size ∧ 0 ≤ i ∧ i < xs.size then (xs[i.toNat]?).map fun e => rf e.cells else none
      | none => none
    | some (.array n elem) => match P.info? elem with
      | some inf => if tg = rfT ∧ 0 ≤ i ∧ i < n ∧ xs.size = n * inf.size then some (rf (xs.extract (i.toNat * inf.size) (i.toNat * inf.size + inf.size))) else none
      | none => none
    | _ => none
  | _, _ => none
def vFieldAddr (P : Program) (s : TypeId) (f : Nat) (x : Value) : Option Value :=
  match x with
  | .iface tg (.tuple cs) => match P.underlying s with
    | some (.struct fs) => match fs[f]? with
      | some fl => match P.info? fl.type with
        | some i => if tg = rfT ∧ i.size ≠ 0 ∧ fl.offset + i.size ≤ cs.size then some (rf (cs.extract fl.offset (fl.offset + i.size))) else none
        | none => none
      | none => none
    | _ => none
  | _ => none
def vLoad (P : Program) (t : TypeId) (x : Value) : Option Value :=
  match x with
  | .iface tg (.tuple cs) => match P.underlying t, P.info? t with
    | some d, some inf => if tg = rfT ∧ cs.size = inf.size then (if aggT d then some (.agg cs) else cs[0]?) else none
    | _, _ => none
  | _ => none
def vSliceOp (P : Program) (t : TypeId) (x : Value) (lo hi mx : Option Value) : Option Value :=
  match x with
  | .iface tg (.tuple xs) => match P.underlying t with
    | some (.slice elem) => match P.info? elem with
      | some inf => if tg = vsT + inf.size then vSlice inf.size xs lo hi mx else none
      | none => none
    | _ => none
  | _ => none
def vConv (P : Program) (src dst : TypeId) (x : Value) : Option Value :=
  match x with
  | .iface tg (.tuple xs) => match P.underlying src, P.underlying dst with
    | some (.slice e), some .string => match P.underlying e with
      | some (.int .u8) => if tg = vsT + 1 ∧ xs.all isU8 = true then some (.string (strOf xs.toList)) else none
      | _ => none
    | _, _ => none
  | _ => none
def vLen (P : Program) (t : TypeId) (x : Value) : Option Value :=
  match x with
  | .iface tg (.tuple xs) => match P.underlying t with
    | some (.slice _) => if vsT ≤ tg then some (goInt xs.size) else none
    | _ => none
  | _ => none
def vNil (P : Program) (t : TypeId) (x y : Value) : Option Bool :=
  match x, y with
  | .iface tg (.tuple _), .slice none _ _ => match P.underlying t with
    | some (.slice _) => if vsT ≤ tg then some false else none
    | _ => none
  | .slice none _ _, .iface tg (.tuple _) => match P.underlying t with
    | some (.slice _) => if vsT ≤ tg then some false else none
    | _ => none
  | .iface tg (.tuple _), .pointer none => match P.underlying t with
    | some (.pointer _) => if tg = rfT then some false else none
    | _ => none
  | .pointer none, .iface tg (.tuple _) => match P.underlying t with
    | some (.pointer _) => if tg = rfT then some false else none
    | _ => none
  | _, _ => none
/-- Operations on such values: they look at no memory of the logical world. -/
def pureD (P : Program) (op : Op) (ρ : Operand → Value) : Option Value :=
  match op with
  | .indexAddr t x y => vIndexAddr P t (ρ x) (ρ y)
  | .fieldAddr s x f => vFieldAddr P s f (ρ x)
  | .load t x => vLoad P t (ρ x)
  | .slice t x lo hi mx => vSliceOp P t (ρ x) (lo.map ρ) (hi.map ρ) (mx.map ρ)
  | .convert src dst x => vConv P src dst (ρ x)
  | .binOp .eql t x y _ => (vNil P t (ρ x) (ρ y)).map .bool
  | .binOp .neq t x y _ => (vNil P t (ρ x) (ρ y)).map fun b => .bool !b
  | .nilCheck x => match ρ x with
    | .iface tg (.tuple cs) => if tg = rfT then some (rf cs) else none
    | _ => none
  | .call c => match c.callee with
    | .builtin .len => if c.args.size = 1 ∧ c.argTypes.size = 1 then vLen P (c.argTypes.getD 0 0) ((c.args.map ρ).getD 0 undef) else none
    | _ => none
  | _ => none

/-! ### 2. append and slicing, the capacity of what grew being its length -/
/-- Which row is given up by an append that does not fit: one that append made, where the slice ends at its end. -/
def growsFrom (H : World) (base : Option Addr) (elem : TypeId) (c size : Nat) : Option (Option Nat) :=
  match base with
  | none => some none
  | some a => match H.heap[a.block]? with
    | some (.cells cs e fr) =>
      if fr.1 = 1 ∧ fr.2 = 0 then (if e = elem then some (if a.off + c * size = cs.size then some a.block else none) else none)
      else if fr.1 = 0 then some none else none
    | _ => none

/-- The cells of a slice's first n elements, or of a string. -/
def cellsOfD (P : Program) (size : Nat) (x : Value) (H : World) : Option (Nat × Array Value) :=
  match x with
  | .slice none m _ => if m = 0 then some (0, #[]) else none
  | .slice (some a) m _ => (okRun ((loadCells a (m * size)).run P H)).map fun r => (m, r.1)
  | .string s => if size = 1 then some (s.size, (s.extract 0 s.size).data.map fun b => .int .u8 b.toNat) else none
  | .iface tg (.tuple xs) => if tg = vsT + size then some (xs.size, xs.flatMap Value.cells) else none
  | _ => none
/-- What is appended: how many, and their cells. -/
def appended (P : Program) (t1 : Option TypeId) (inf : TypeInfo) (x : Value) (H : World) : Option (Nat × Array Value) :=
  match t1.bind P.underlying, x with
  | some (.int _), .int _ l =>
    if 0 ≤ IntKind.i64.wrap l ∧ IntKind.i64.wrap l * inf.bytes ≤ 2 ^ 40 then
      match inf.zero with
      | some z => if z.cells.size = inf.size ∧ 0 < inf.size then some ((IntKind.i64.wrap l).toNat, Builtin.zeroCells z.cells (IntKind.i64.wrap l).toNat) else none
      | none => none
    else none
  | some (.int _), _ => none
  | some _, x => cellsOfD P inf.size x H
  | none, _ => none

def lappend (P : Program) (ts : Array TypeId) (s x : Value) (H : World) : Option (Value × World) :=
  match (ts[0]?).bind P.underlying, s with
  | some (.slice elem), .slice base n c =>
    match P.info? elem with
    | none => none
    | some inf =>
      match appended P ts[1]? inf x H with
      | none => none
      | some (m, new) =>
        if n + m ≤ c then
          match base with
          | none => some (.slice none (n + m) c, H)
          | some a => (okRun ((storeCells ⟨a.block, a.off + n * inf.size, none⟩ new.toList).run P H)).map fun r => (.slice (some a) (n + m) c, r.2)
        else if 0 < inf.size ∧ 0 < inf.bytes ∧ inf.bytes ≤ 2 ^ 20 ∧ (n + m) * inf.bytes ≤ 2 ^ 40 then
          match inf.zero, cellsOfD P inf.size (.slice base n c) H, growsFrom H base elem c inf.size with
          | some z, some (_, old), some none =>
            if z.cells.size = inf.size then some (.slice (some ⟨H.heap.size, 0, none⟩) (n + m) (n + m), pushObj H (.cells (old ++ new) elem (1, 0))) else none
          | some z, some (_, old), some (some r) =>
            if z.cells.size = inf.size ∧ new.all Value.oneCell' = true then some (.slice (some ⟨H.heap.size, 0, none⟩) (n + m) (n + m), killObj (pushObj H (.cells (old ++ new) elem (1, 0))) r) else none
          | _, _, _ => none
        else none
  | _, _ => none

/-- May a slice at this base, of this element type, be cut? -/
def baseOk (H : World) (base : Option Addr) (elem : TypeId) : Bool :=
  match base with
  | none => true
  | some a => match H.heap[a.block]? with
    | some (.cells _ e fr) => if fr.1 = 1 ∧ fr.2 = 0 then e == elem else fr.1 == 0
    | _ => false
def exactRow (H : World) (r : Nat) : Bool :=
  match H.heap[r]? with
  | some (.cells _ _ (0, 0)) => true
  | _ => false
def lslice (P : Program) (t : TypeId) (x : Value) (lo hi mx : Option Value) (H : World) : Option (Value × World) :=
  match P.underlying t, x with
  | some (.slice elem), .slice a n c =>
    match P.info? elem, okRun ((Instr.sliceBounds true n c lo hi mx).run P H) with
    | some inf, some ((l, h, m), _) => if baseOk H a elem && decide (n ≤ c) then some (.slice (a.map fun p => ⟨p.block, p.off + l * inf.size, none⟩) (h - l) (m - l), H) else none
    | _, _ => none
  | some .string, .string s => okRun ((Instr.slice t x lo hi mx).run P H)
  | some (.array n elem), .pointer (some p) =>
    match P.info? elem, lo, hi, mx with
    | some _, none, none, none => if exactRow H p.block then some (.slice (some p) n n, H) else none
    | _, _, _, _ => none
  | _, _ => none

/-! ### 3. One operation -/
def flat1 : Value → Bool
  | .bool _ | .int .. | .string _ | .pointer none | .slice none .. | .map none | .chan none | .nilFunc | .nilIface => true
  | _ => false
def flat : Value → Bool
  | .agg cs => cs.all flat1
  | v => flat1 v
/-- '==' where addresses take part. -/
def eqD (P : Program) (t : TypeId) (x y : Value) (H : World) : Option Bool :=
  match P.underlying t, x, y with
  | some (.pointer e), .pointer (some p), .pointer (some q) =>
    match P.info? e with
    | some inf => if inf.size = 0 then none else if p.block = q.block then some (p == q) else if exactRow H p.block && exactRow H q.block then some false else none
    | none => none
  | some (.pointer _), .pointer (some _), .pointer none => some false
  | some (.pointer _), .pointer none, .pointer (some _) => some false
  | some (.slice _), .slice none _ _, .slice (some _) _ _ => some false
  | some (.slice _), .slice (some _) _ _, .slice none _ _ => some false
  | some (.map _ _), .map none, .map (some _) => some false
  | some (.map _ _), .map (some _), .map none => some false
  | some (.func _ _ _), .nilFunc, .func _ _ _ => some false
  | some (.func _ _ _), .func _ _ _, .nilFunc => some false
  | _, _, _ => none
def intOrStr : Value → Bool
  | .int .. | .string _ => true
  | _ => false
def isEq : BinOp → Bool
  | .eql | .neq => true
  | _ => false
def flatFor (op : BinOp) (v : Value) : Bool := if isEq op then flat v else intOrStr v
def binD (P : Program) (op : BinOp) (t : TypeId) (x y : Operand) (a : Act) (H : World) : Option (Next × World) :=
  if flatFor op (a.eval x) && flatFor op (a.eval y) then
    match okRun ((do Go.eqGuard op t x y (a.eval x) (a.eval y); Go.binOp op t (a.eval x) (a.eval y)).run P H) with
    | some (v, H1) => if flat1 v then some (.value v, H1) else none
    | none => none
  else match op with
    | .eql => (eqD P t (a.eval x) (a.eval y) H).map fun r => (.value (.bool r), H)
    | .neq => (eqD P t (a.eval x) (a.eval y) H).map fun r => (.value (.bool !r), H)
    | _ => none

def bytesOf (s : ByteArray) : Array Value := s.data.map fun b => .int .u8 b.toNat
def convD (P : Program) (src dst : TypeId) (x : Value) (H : World) : Option (Value × World) :=
  match P.underlying src, P.underlying dst, x with
  | some _, some (.int k), .int _ n => some (.int k (k.wrap n), H)
  | some _, some .string, .string s => some (.string s, H)
  | some _, some (.slice e), .string s =>
    match P.underlying e, P.info? e with
    | some (.int .u8), some inf => if inf.size = 1 then some (.slice (some ⟨H.heap.size, 0, none⟩) s.size s.size, pushObj H (.cells (bytesOf s) e (1, 0))) else none
    | _, _ => none
  | some (.slice e), some .string, .slice a n c =>
    match P.underlying e with
    | some (.int .u8) => okRun ((Conv.bytesToString (.slice a n c)).run P H)
    | _ => none
  | _, _, _ => none

/-! maps -/
def mapOf (H : World) : Value → Option (Array MapEntry × Nat)
  | .map none => some (#[], 0)
  | .map (some r) => match H.heap[r]? with
    | some (.map es c) => some (es, c)
    | _ => none
  | _ => none
def keyKind : TypeDesc → Bool
  | .int _ | .string | .bool => true
  | _ => false
def findD (P : Program) (kt : TypeId) (k : Value) (es : Array MapEntry) : Option (Option (Nat × Value)) :=
  match P.underlying kt with
  | some d => if keyKind d && flat1 k then Instr.findNow d k es.toList 0 else none
  | none => none
def lookupD (P : Program) (t : TypeId) (m k : Value) (ok : Bool) (H : World) : Option Value :=
  match P.underlying t, mapOf H m with
  | some (.map kt et), some (es, _) =>
    match findD P kt k es with
    | some (some (_, v)) => some (if ok then .tuple #[v, .bool true] else v)
    | some none => ((P.info? et).bind (·.zero)).map fun z => if ok then .tuple #[z, .bool false] else z
    | none => none
  | _, _ => none
def setMap (H : World) (r : Nat) (es : Array MapEntry) (c : Nat) : World := { H with heap := H.heap.setIfInBounds r (.map es c) }
def mapUpdateD (P : Program) (t : TypeId) (m k v : Value) (H : World) : Option World :=
  match P.underlying t, m, mapOf H m with
  | some (.map kt _), .map (some r), some (es, c) =>
    match findD P kt k es with
    | some (some (i, _)) => some (setMap H r (es.modify i fun e => { e with key := k, val := v }) c)
    | some none => some (setMap H r (es.push { key := k, val := v, born := c }) (c + 1))
    | none => none
  | _, _, _ => none
def deleteD (P : Program) (t : TypeId) (m k : Value) (H : World) : Option World :=
  match P.underlying t, m, mapOf H m with
  | some (.map kt _), .map none, _ => match P.underlying kt with
    | some d => if keyKind d then some H else none
    | none => none
  | some (.map kt _), .map (some r), some (es, c) =>
    match findD P kt k es with
    | some (some (i, _)) => some (setMap H r (es.eraseIdxIfInBounds i) c)
    | some none => some (setMap H r es c)
    | none => none
  | _, _, _ => none
def clearD (P : Program) (t : TypeId) (x : Value) (H : World) : Option World :=
  match P.underlying t, x, mapOf H x with
  | some (.map _ _), .map none, _ => some H
  | some (.map _ _), .map (some r), some (_, c) => some (setMap H r #[] c)
  | _, _, _ => none

def lenD (P : Program) (t : TypeId) (x : Value) (H : World) : Option Int :=
  match P.underlying t, x with
  | some .string, .string s => some s.size
  | some (.array n _), _ => some n
  | some (.pointer arr), _ => match P.underlying arr with
    | some (.array n _) => some n
    | _ => none
  | some (.slice _), .slice _ n _ => some n
  | some (.map _ _), _ => (mapOf H x).map fun r => (r.1.size : Int)
  | _, _ => none

def fieldOk (P : Program) (s : TypeId) (f : Nat) : Bool :=
  match P.underlying s with
  | some (.struct fs) => match fs[f]? with
    | some f => match P.info? f.type with
      | some i => i.size != 0
      | none => false
    | none => false
  | _ => false

def okOp (P : Program) : Op → Bool
  | .move _ | .assign _ | .pick .. | .alloc _ | .box .. | .build .. | .buildSlice .. | .load .. | .store .. | .unOp .. | .makeSlice .. | .field .. | .indexAddr .. | .index .. | .extract .. => true
  | .makeFunc (.func _) _ _ => true
  | .makeMap _ none => true
  | .fieldAddr s _ f => fieldOk P s f
  | _ => false

/-- What functions without a body make of constants. -/
def externD (fn : Func) (args : Array Value) : Option Value :=
  if fn.name == "internal/bytealg.IndexByteString" && fn.origin == "" && args.size == 2 then
    match args.getD 0 undef, args.getD 1 undef with
    | .string s, .int .u8 c => some (.int .i64 (Lib.indexByte s.data.toList c.toNat.toUInt8))
    | _, _ => none
  else none
/-- What a call of a value does: a function is entered, or a round begun. -/
def callD (P : Program) (g : Value) (args : Array Value) (H : World) : Option Next :=
  match g with
  | .func (.func f) fs cs => match P.funcs[f]? with
    | some fn => if fn.name == "runtime.NumGoroutine" || fn.body.isNone then (externD fn ((fs ++ args) ++ cs)).map Next.value else some (.enter f ((fs ++ args) ++ cs))
    | none => none
  | .func (.yield l) fs _ => match H.heap[l]? with
    | some (.loop r) => if (fs ++ args).size = r.params.size then some (.round l r.fn ((r.params.zip (fs ++ args)).foldl (fun tmps (t, a) => tmps.setIfInBounds t a) r.tmps) r.assign r.body) else none
    | _ => none
  | _ => none

/-- copy out of a plain slice value, into one that is no shorter. -/
def copyV (P : Program) (ts : Array TypeId) (d x : Value) (H : World) : Option (Value × World) :=
  match d, (ts[0]?).bind P.underlying with
  | .slice b n _, some (.slice e) => match P.info? e with
    | some inf => match cellsOfD P inf.size x H with
      | some (m, cs) => if m ≤ n then match b with
          | none => some (goInt m, H)
          | some a => (okRun ((storeCells a cs.toList).run P H)).map fun r => (goInt m, r.2)
        else none
      | none => none
    | none => none
  | _, _ => none
def builtinD (P : Program) (b : Builtin) (ts : Array TypeId) (vs : Array Value) (H : World) : Option (Value × World) :=
  match b with
  | .append => if vs.size = 2 then lappend P ts (vs.getD 0 undef) (vs.getD 1 undef) H else none
  | .len => if vs.size = 1 ∧ ts.size = 1 then (lenD P (ts.getD 0 0) (vs.getD 0 undef) H).map fun n => (goInt n, H) else none
  | .delete => if vs.size = 2 then (ts[0]?).bind fun t => (deleteD P t (vs.getD 0 undef) (vs.getD 1 undef) H).map fun H1 => (.tuple #[], H1) else none
  | .clear => match vs.getD 0 undef with
    | .slice .. => okRun ((Builtin.clear_ ts 0 vs).run P H)
    | _ => if vs.size = 1 ∧ ts.size = 1 then (clearD P (ts.getD 0 0) (vs.getD 0 undef) H).map fun H1 => (.tuple #[], H1) else none
  | .copy => match vs.getD 1 undef with
    | .iface .. => if vs.size = 2 then copyV P ts (vs.getD 0 undef) (vs.getD 1 undef) H else none
    | _ => okRun ((Builtin.copy_ ts 0 vs).run P H)
  | .max => if vs.size = 2 then match vs.getD 0 undef, vs.getD 1 undef with
      | .int k x, .int _ y => some (.int k (if y > x then y else x), H)
      | _, _ => none
    else none
  | .min => if vs.size = 2 then match vs.getD 0 undef, vs.getD 1 undef with
      | .int k x, .int _ y => some (.int k (if y < x then y else x), H)
      | _, _ => none
    else none
  | _ => none
def callOpD (P : Program) (c : Call) (a : Act) (H : World) : Option (Next × World) :=
  match c.callee with
  | .builtin b => (builtinD P b c.argTypes (c.args.map a.eval) H).map fun r => (.value r.1, r.2)
  | .value g => (callD P (a.eval g) (c.args.map a.eval) H).map fun x => (x, H)
  | _ => none

def semD (P : Program) (o : Oper) (a : Act) (H : World) : Option (Next × World) :=
  if !(o.op.operands.all operandOk) then none else
  match pureD P o.op a.eval with
  | some v => some (.value v, H)
  | none =>
  match o.op with
  | .slice t x lo hi mx => (lslice P t (a.eval x) (lo.map a.eval) (hi.map a.eval) (mx.map a.eval) H).map fun r => (.value r.1, r.2)
  | .binOp op t x y _ => binD P op t x y a H
  | .convert src dst x => (convD P src dst (a.eval x) H).map fun r => (.value r.1, r.2)
  | .lookup t m k ok => (lookupD P t (a.eval m) (a.eval k) ok H).map fun v => (.value v, H)
  | .mapUpdate t m k v => (mapUpdateD P t (a.eval m) (a.eval k) (a.eval v) H).map fun H1 => (.skip, H1)
  | .insert t m k v => (mapUpdateD P t (a.eval m) (a.eval k) (a.eval v) H).map fun H1 => (.skip, H1)
  | .nilCheck x => match a.eval x with
    | .pointer (some p) => some (.value (.pointer (some p)), H)
    | .func (.func f) fs cs => some (.value (.func (.func f) fs cs), H)
    | _ => none
  | .call c => callOpD P c a H
  | op => if okOp P op then okRun ((execOp a.eval o).run P H) else none

/-! ### 4. Code, calls, rounds -/
structure Evs where
  code : Option Nat → Code → Act → World → Option (Exit × Act × World)
  fn : FuncId → Array Value → World → Option (Value × World)
  round : Nat → Array Value → Code → Code → World → Option (Value × World)

def opD (P : Program) (E : Evs) (o : Oper) (a : Act) (H : World) : Option (Act × World) :=
  match semD P o a H with
  | some (.value v, H1) => some (a.put o.dst v, H1)
  | some (.skip, H1) => some (a.put o.dst undef, H1)
  | some (.enter f args, H1) => (E.fn f args H1).map fun r => (a.put o.dst r.1, r.2)
  | some (.round l _ tmps assign body, H1) => (E.round l tmps assign body H1).map fun r => (a.put o.dst r.1, r.2)
  | _ => none

def opsD (P : Program) (E : Evs) (ops : Array Oper) : List Nat → Act → World → Option (Act × World)
  | [], a, H => some (a, H)
  | i :: rest, a, H =>
    match ops[i]? with
    | none => none
    | some o =>
      if Region.wanted o (yielded ops a.tmps) then
        match opD P E o a H with
        | some (a1, H1) => opsD P E ops rest a1 H1
        | none => none
      else opsD P E ops rest (a.put o.dst undef) H

/-! loops over functions -/
def setD (H : World) (r : Nat) (o : Obj) : World := { H with heap := H.heap.setIfInBounds r o }
def newLoop (tmps : Array Value) (ps : Array Tmp) (assign body : Code) (defers : Nat) : Loop := { state := .ready, pending := none, fn := 0, tmps, params := ps, assign, body, defers }
def enterD (ro : Option Nat) (tmps : Array Value) (ps : Array Tmp) (assign body : Code) (H : World) : Option (Nat × List Deferred × World) :=
  match ro with
  | some l => match H.heap[l]? with
    | some (.loop r) => some (H.heap.size, [], pushObj H (.loop (newLoop tmps ps assign body r.defers)))
    | _ => none
  | none => some (H.heap.size + 1, [{ target := .collected H.heap.size, args := #[] }], pushObj (pushObj H (.deferred (some []))) (.loop (newLoop tmps ps assign body H.heap.size)))
def beginD (l : Nat) (H : World) : Option World :=
  match H.heap[l]? with
  | some (.loop r) => match r.state with
    | .ready => some (setD H l (.loop { r with state := .busy }))
    | _ => none
  | _ => none
def endRoundD (l : Nat) (jump : Option Code) (H : World) : Option (Value × World) :=
  match H.heap[l]? with
  | some (.loop r) => some (.bool jump.isNone, setD H l (.loop { r with state := if jump.isNone then .ready else .done, pending := jump }))
  | _ => none
def endLoopD (l : Nat) (H : World) : Option (Option Code × World) :=
  match H.heap[l]? with
  | some (.loop r) => if r.state == .busy then none else some (r.pending, setD H l (.loop { r with state := .exhausted }))
  | _ => none
def leaveD : List Deferred → World → Option World
  | [], H => some H
  | d :: ds, H => match d.target with
    | .collected r => match H.heap[r]? with
      | some (.deferred (some [])) => leaveD ds (setD H r (.deferred none))
      | _ => none
    | _ => none

abbrev DrawD := Program → Evs → Array Oper → Act → World → Option (Act × World)

def jumpD : Option Code → Option Exit
  | none => some .normal
  | some .ret => some .ret
  | some (.exit id) => some (.exit id)
  | _ => none

def rangeD (P : Program) (E : Evs) (ro : Option Nat) (g : Operand) (ps : Array Tmp) (assign body : Code) (a : Act) (H : World) : Option (Exit × Act × World) :=
  if !(operandOk g) then none else
  match enterD ro a.tmps ps assign body H with
  | some (l, mark, H1) =>
    match callD P (a.eval g) #[.func (.yield l) #[] #[]] H1 with
    | some (.enter f args) =>
      match E.fn f args H1 with
      | some (_, H4) =>
        match endLoopD l H4 with
        | some (jump, H5) => (jumpD jump).map fun e => (e, { a with defers := mark ++ a.defers }, H5)
        | none => none
      | none => none
    | _ => none
  | none => none

def codeD (dr : DrawD) (P : Program) (E : Evs) (ro : Option Nat) : Code → Act → World → Option (Exit × Act × World)
  | .skip, a, H => some (.normal, a, H)
  | .label _, a, H => some (.normal, a, H)
  | .ret, a, H => some (.ret, a, H)
  | .exit id, a, H => some (.exit id, a, H)
  | .seq x y, a, H => match codeD dr P E ro x a H with
    | some (.normal, a1, H1) => codeD dr P E ro y a1 H1
    | r => r
  | .cond c x y, a, H => match a.eval c with
    | .bool t => if t then codeD dr P E ro x a H else codeD dr P E ro y a H
    | _ => none
  | .block id c, a, H => match codeD dr P E ro c a H with
    | some (.exit id', a1, H1) => if id' = id then some (.normal, a1, H1) else some (.exit id', a1, H1)
    | r => r
  | .loop c, a, H => match codeD dr P E ro c a H with
    | some (.normal, a1, H1) => E.code ro (.loop c) a1 H1
    | r => r
  | .region _ ops draw, a, H => (if draw then dr P E ops a H else opsD P E ops (List.range ops.size) a H).map fun r => (.normal, r.1, r.2)
  | .rangeFunc g ps assign body, a, H => rangeD P E ro g ps assign body a H
  | _, _, _ => none

def fnD (dr : DrawD) (P : Program) (E : Evs) (f : FuncId) (args : Array Value) (H : World) : Option (Value × World) :=
  match P.funcs[f]? with
  | some fn => match fn.body with
    | some c => match codeD dr P E none c { tmps := args ++ Array.replicate (fn.ntmps - args.size) undef, defers := [] } H with
      | some (.normal, a1, H1) | some (.ret, a1, H1) =>
        match leaveD a1.defers H1 with
        | some H2 => okRun ((results fn a1.tmps).run P H2)
        | none => none
      | _ => none
    | none => none
  | none => none

def roundEnd (l : Nat) : Exit → World → Option (Value × World)
  | .normal, H => endRoundD l none H
  | .ret, H => endRoundD l (some .ret) H
  | .exit id, H => endRoundD l (some (.exit id)) H
  | _, _ => none

def roundD (dr : DrawD) (P : Program) (E : Evs) (l : Nat) (tmps : Array Value) (assign body : Code) (H : World) : Option (Value × World) :=
  match codeD dr P E (some l) assign { tmps := tmps, defers := [] } H with
  | some (.normal, a1, H1) => match beginD l H1 with
    | some H2 => match codeD dr P E (some l) body a1 H2 with
      | some (e, _, H3) => roundEnd l e H3
      | none => none
    | none => none
  | _ => none

def evs0 : Evs := { code := fun _ _ _ _ => none, fn := fun _ _ _ => none, round := fun _ _ _ _ _ => none }
/-- The empty logical world. -/
def World0 : World := { heap := #[], tape := fun _ _ => 0, drawn := 0, os := default, output := #[] }
/-- Values without addresses, whatever they hold. -/
def plain : Nat → Value → Bool
  | 0, v => constOk1 v
  | d + 1, v => match v with
    | .agg cs => cs.all (plain d)
    | .tuple cs => cs.all (plain d)
    | .iface t (.tuple cs) => decide (vsT ≤ t) && cs.all (plain d)
    | v => constOk1 v
def stripAll (f : Value → Option Value) : List Value → Option (List Value)
  | [] => some []
  | v :: l => match f v with
    | some x => (stripAll f l).map (x :: ·)
    | none => none
def notAgg : Value → Bool
  | .agg _ => false
  | _ => true
/-- Elements of es cells each, out of cells. -/
def chunks (es : Nat) (agg : Bool) : Nat → List Value → Option (List Value)
  | 0, _ => some []
  | n + 1, cs => match (cs.take es), agg with
    | c, true => if c.length = es then (chunks es agg n (cs.drop es)).map (Value.agg c.toArray :: ·) else none
    | [c], false => if es = 1 ∧ notAgg c = true then (chunks es agg n (cs.drop es)).map (c :: ·) else none
    | _, false => none
/-- The value without addresses: what it shows of a memory that is given up. -/
def strip : Nat → Program → World → Value → Option Value
  | 0, _, _, v => if constOk1 v then some v else none
  | d + 1, P, H, v => match v with
    | .agg cs => (stripAll (strip d P H) cs.toList).map fun l => .agg l.toArray
    | .tuple cs => (stripAll (strip d P H) cs.toList).map fun l => .tuple l.toArray
    | .iface t (.tuple cs) => if vsT ≤ t ∧ (cs.all (plain d)) = true then some v else none
    | .slice (some a) n _ => match H.heap[a.block]? with
      | some (.cells cs e _) => match P.underlying e, P.info? e with
        | some de, some inf => if 0 < inf.size then match stripAll (strip d P H) (cs.toList.drop a.off |>.take (n * inf.size)) with
            | some l => (chunks inf.size (aggT de) n l).map fun xs => vs inf.size xs.toArray
            | none => none
          else none
        | _, _ => none
      | _ => none
    | v => if constOk1 v then some v else none
/-- The same, where nothing that came in is a part of it. -/
def strip0 : Nat → Program → World → Value → Option Value
  | 0, _, _, v => if constOk1 v then some v else none
  | d + 1, P, H, v => match v with
    | .agg cs => (stripAll (strip0 d P H) cs.toList).map fun l => .agg l.toArray
    | .tuple cs => (stripAll (strip0 d P H) cs.toList).map fun l => .tuple l.toArray
    | .iface _ (.tuple _) => none
    | .slice (some a) n _ => match H.heap[a.block]? with
      | some (.cells cs e _) => match P.underlying e, P.info? e with
        | some de, some inf => if 0 < inf.size then match stripAll (strip0 d P H) (cs.toList.drop a.off |>.take (n * inf.size)) with
            | some l => (chunks inf.size (aggT de) n l).map fun xs => vs inf.size xs.toArray
            | none => none
          else none
        | _, _ => none
      | _ => none
    | v => if constOk1 v then some v else none
/-- How deep values may hold one another. -/
def deep : Nat := 12
/-- A call that stands alone: plain values in, plain values out: it is told in the empty world. -/
def aloneD (dr : DrawD) (P : Program) (E : Evs) (f : FuncId) (args : Array Value) (H : World) : Option (Value × World) :=
  match fnD dr P E f args World0 with
  | some (v, H1) => (strip deep P H1 v).map fun v => (v, H)
  | none => none
/-- Arguments of the heap, as plain values. -/
def stripArgs (P : Program) (H : World) (args : Array Value) : Option (List Value) := stripAll (strip deep P H) args.toList
/-- A call that stands alone: arguments of the heap that strip to plain values. -/
def aloneH (dr : DrawD) (P : Program) (E : Evs) (f : FuncId) (l : List Value) (H : World) : Option (Value × World) :=
  match fnD dr P E f l.toArray World0 with
  | some (v, H1) => (strip0 deep P H1 v).map fun v => (v, H)
  | none => none
/-- Functions that are told by a rule of their own. -/
abbrev Sp := FuncId → Option (Array Value → World → Option (Value × World))
def spNone : Sp := fun _ => none
def callF (dr : DrawD) (alone : FuncId → Bool) (sp : Sp) (P : Program) (E : Evs) (f : FuncId) (args : Array Value) (H : World) : Option (Value × World) :=
  if alone f && args.all (plain deep) then aloneD dr P E f args H
  else match (if alone f then stripArgs P H args else none) with
    | some l => aloneH dr P E f l H
    | none => match sp f with
      | some g => g args H
      | none => fnD dr P E f args H
def evs (dr : DrawD) (alone : FuncId → Bool) (sp : Sp) (P : Program) : Nat → Evs
  | 0 => evs0
  | k + 1 => { code := codeD dr P (evs dr alone sp P k), fn := fun f args H => callF dr alone sp P (evs dr alone sp P k) f args H, round := roundD dr P (evs dr alone sp P k) }

end Go.Proofs.YtmmmdmandocbhaaDoor.Den
end

section
/- How a logical world lies in the machine's world: the relation, and the steps that keep it. -/
set_option linter.unusedVariables false
set_option linter.unusedSimpArgs false
namespace Go.Proofs.YtmmmdmandocbhaaDoor.Den

structure Loc where
  b : Nat
  base : Nat
  len : Nat
  room : Nat
  es : Nat
  grown : Bool
/-- Where logical blocks lie, and which of the machine's rows are never written, with their cells. -/
structure Emb where
  loc : Nat → Option Loc
  fz : Nat → Option (Array Value)
instance : CoeFun Emb (fun _ => Nat → Option Loc) := ⟨Emb.loc⟩
structure Emb.le (ι ι' : Emb) : Prop where
  loc : ∀ i r, ι i = some r → ι' i = some r
  fz : ∀ b cs, ι.fz b = some cs → ι'.fz b = some cs
instance {ι ι' : Emb} : CoeFun (ι.le ι') (fun _ => ∀ i r, ι i = some r → ι' i = some r) := ⟨Emb.le.loc⟩
theorem Emb.le_refl (ι : Emb) : ι.le ι := ⟨fun _ _ h => h, fun _ _ h => h⟩
theorem Emb.le_trans {a b c : Emb} (h : a.le b) (h' : b.le c) : a.le c := ⟨fun i r hi => h'.loc i r (h.loc i r hi), fun i r hi => h'.fz i r (h.fz i r hi)⟩

def SlOk (r : Loc) (o n c : Nat) (a' : Addr) (c' : Nat) : Prop :=
  n ≤ c ∧ c ≤ c' ∧ (a' = ⟨r.b, r.base + o, none⟩ ∨ c' = 0) ∧ (r.grown = false → c' = c) ∧
    (r.grown = true → (c' = c ∨ o + c * r.es = r.len) ∧ o + c' * r.es ≤ r.room)

inductive FnRel (ι : Emb) : Fn → Fn → Prop
  | func (f : FuncId) : FnRel ι (.func f) (.func f)
  | yield (l : Nat) (r : Loc) (h : ι l = some r) : FnRel ι (.yield l) (.yield r.b)

inductive VRel (ι : Emb) : Value → Value → Prop
  | bool (b : Bool) : VRel ι (.bool b) (.bool b)
  | int (k : IntKind) (n : Int) : VRel ι (.int k n) (.int k n)
  | float (k : FloatKind) (n : Nat) : VRel ι (.float k n) (.float k n)
  | complex (k : FloatKind) (n m : Nat) : VRel ι (.complex k n m) (.complex k n m)
  | string (s : ByteArray) : VRel ι (.string s) (.string s)
  | ptrNil : VRel ι (.pointer none) (.pointer none)
  | ptr (i o : Nat) (r : Loc) (h : ι i = some r) : VRel ι (.pointer (some ⟨i, o, none⟩)) (.pointer (some ⟨r.b, r.base + o, none⟩))
  | slNil (n c : Nat) : VRel ι (.slice none n c) (.slice none n c)
  | sl (i o n c : Nat) (a' : Addr) (c' : Nat) (r : Loc) (h : ι i = some r) (hs : SlOk r o n c a' c') : VRel ι (.slice (some ⟨i, o, none⟩) n c) (.slice (some a') n c')
  | mapNil : VRel ι (.map none) (.map none)
  | map (i : Nat) (r : Loc) (h : ι i = some r) : VRel ι (.map (some i)) (.map (some r.b))
  | chanNil : VRel ι (.chan none) (.chan none)
  | func (fn fn' : Fn) (fs fs' cs cs' : Array Value) (h : FnRel ι fn fn') (hf : fs.size = fs'.size) (hc : cs.size = cs'.size)
      (hfs : ∀ (k : Nat) (v v' : Value), fs[k]? = some v → fs'[k]? = some v' → VRel ι v v') (hcs : ∀ (k : Nat) (v v' : Value), cs[k]? = some v → cs'[k]? = some v' → VRel ι v v') :
      VRel ι (.func fn fs cs) (.func fn' fs' cs')
  | nilFunc : VRel ι .nilFunc .nilFunc
  | iface (t : Nat) (v v' : Value) (ht : t < rfT) (h : VRel ι v v') : VRel ι (.iface t v) (.iface t v')
  | vsE (es : Nat) (a' : Addr) (c' : Nat) : VRel ι (.iface (vsT + es) (.tuple #[])) (.slice (some a') 0 c')
  | vs (es : Nat) (xs : Array Value) (b o c' : Nat) (cs' : Array Value) (hp : ι.fz b = some cs') (hc : xs.size ≤ c') (hz : ∀ (k : Nat) (x : Value), xs[k]? = some x → x.cells.size = es) (hb : o + xs.size * es ≤ cs'.size)
      (h : ∀ (k j : Nat) (x y y' : Value), xs[k]? = some x → x.cells[j]? = some y → cs'[o + k * es + j]? = some y' → VRel ι y y') : VRel ι (.iface (vsT + es) (.tuple xs)) (.slice (some ⟨b, o, none⟩) xs.size c')
  | rf (cs : Array Value) (b o : Nat) (cs' : Array Value) (hp : ι.fz b = some cs') (hb : o + cs.size ≤ cs'.size) (h : ∀ (j : Nat) (y y' : Value), cs[j]? = some y → cs'[o + j]? = some y' → VRel ι y y') : VRel ι (.iface rfT (.tuple cs)) (.pointer (some ⟨b, o, none⟩))
  | nilIface : VRel ι .nilIface .nilIface
  | agg (cs cs' : Array Value) (hc : cs.size = cs'.size) (h : ∀ (k : Nat) (v v' : Value), cs[k]? = some v → cs'[k]? = some v' → VRel ι v v') : VRel ι (.agg cs) (.agg cs')
  | tuple (cs cs' : Array Value) (hc : cs.size = cs'.size) (h : ∀ (k : Nat) (v v' : Value), cs[k]? = some v → cs'[k]? = some v' → VRel ι v v') : VRel ι (.tuple cs) (.tuple cs')

/-- Arrays of values, one by one. -/
def ARel (ι : Emb) (cs cs' : Array Value) : Prop := cs.size = cs'.size ∧ ∀ (k : Nat) (v v' : Value), cs[k]? = some v → cs'[k]? = some v' → VRel ι v v'

theorem FnRel.mono {ι ι' : Emb} (hl : ι.le ι') {f f' : Fn} (h : FnRel ι f f') : FnRel ι' f f' := by
  cases h with
  | func f => exact .func f
  | yield l r h => exact .yield l r (hl _ _ h)
theorem VRel.mono {ι ι' : Emb} (hl : ι.le ι') {v v' : Value} (h : VRel ι v v') : VRel ι' v v' := by
  induction h with
  | bool b => exact .bool b
  | int k n => exact .int k n
  | float k n => exact .float k n
  | complex k n m => exact .complex k n m
  | string s => exact .string s
  | ptrNil => exact .ptrNil
  | ptr i o r h => exact .ptr i o r (hl _ _ h)
  | slNil n c => exact .slNil n c
  | sl i o n c a' c' r h hs => exact .sl i o n c a' c' r (hl _ _ h) hs
  | mapNil => exact .mapNil
  | map i r h => exact .map i r (hl _ _ h)
  | chanNil => exact .chanNil
  | func fn fn' fs fs' cs cs' h hf hc _ _ ih1 ih2 => exact .func fn fn' fs fs' cs cs' (h.mono hl) hf hc ih1 ih2
  | nilFunc => exact .nilFunc
  | iface t v v' ht _ ih => exact .iface t v v' ht ih
  | vsE es a' c' => exact .vsE es a' c'
  | vs es xs b o c' cs' hp hc hz hb _ ih => exact .vs es xs b o c' cs' (hl.fz _ _ hp) hc hz hb ih
  | rf cs b o cs' hp hb _ ih => exact .rf cs b o cs' (hl.fz _ _ hp) hb ih
  | nilIface => exact .nilIface
  | agg cs cs' hc _ ih => exact .agg cs cs' hc ih
  | tuple cs cs' hc _ ih => exact .tuple cs cs' hc ih
theorem ARel.mono {ι ι' : Emb} (hl : ι.le ι') {v v' : Array Value} (h : ARel ι v v') : ARel ι' v v' := ⟨h.1, fun k a b ha hb => (h.2 k a b ha hb).mono hl⟩

theorem ARel.get {ι : Emb} {cs cs' : Array Value} (h : ARel ι cs cs') {k : Nat} {v : Value} (hk : cs[k]? = some v) : ∃ v', cs'[k]? = some v' ∧ VRel ι v v' := by
  have hlt : k < cs.size := (Array.getElem?_eq_some_iff.1 hk).1
  have hlt' : k < cs'.size := h.1 ▸ hlt
  exact ⟨cs'[k], Array.getElem?_eq_getElem hlt', h.2 k v _ hk (Array.getElem?_eq_getElem hlt')⟩
theorem ARel.getD {ι : Emb} {cs cs' : Array Value} (h : ARel ι cs cs') (k : Nat) {d d' : Value} (hd : VRel ι d d') : VRel ι (cs.getD k d) (cs'.getD k d') := by
  by_cases hk : k < cs.size
  · have hk' : k < cs'.size := h.1 ▸ hk
    simp only [Array.getD, hk, hk', dite_true]
    exact h.2 k _ _ (Array.getElem?_eq_getElem hk) (Array.getElem?_eq_getElem hk')
  · have hk' : ¬ k < cs'.size := h.1 ▸ hk
    simp only [Array.getD, hk, hk', dite_false]
    exact hd
theorem ARel.empty {ι : Emb} : ARel ι #[] #[] := ⟨rfl, fun k v v' h => by simp at h⟩
theorem ARel.push {ι : Emb} {cs cs' : Array Value} (h : ARel ι cs cs') {v v' : Value} (hv : VRel ι v v') : ARel ι (cs.push v) (cs'.push v') := by
  refine ⟨by simp [h.1], fun k a b ha hb => ?_⟩
  rw [Array.getElem?_push] at ha hb
  by_cases hk : k = cs.size
  · rw [if_pos hk] at ha
    rw [if_pos (by rw [← h.1]; exact hk)] at hb
    injection ha with ha; injection hb with hb
    subst ha hb; exact hv
  · rw [if_neg hk] at ha
    rw [if_neg (by rw [← h.1]; exact hk)] at hb
    exact h.2 k a b ha hb
theorem ARel.append {ι : Emb} {a a' b b' : Array Value} (h : ARel ι a a') (h' : ARel ι b b') : ARel ι (a ++ b) (a' ++ b') := by
  refine ⟨by simp [h.1, h'.1], fun k x y hx hy => ?_⟩
  rw [Array.getElem?_append] at hx hy
  by_cases hk : k < a.size
  · rw [if_pos hk] at hx; rw [if_pos (h.1 ▸ hk)] at hy; exact h.2 k x y hx hy
  · rw [if_neg hk] at hx; rw [if_neg (h.1 ▸ hk)] at hy
    rw [← h.1] at hy
    exact h'.2 _ x y hx hy
theorem ARel.extract {ι : Emb} {a a' : Array Value} (h : ARel ι a a') (i j : Nat) : ARel ι (a.extract i j) (a'.extract i j) := by
  refine ⟨by simp [h.1], fun k x y hx hy => ?_⟩
  rw [Array.getElem?_extract] at hx hy
  rw [← h.1] at hy
  split at hx
  · rename_i hc
    rw [if_pos hc] at hy
    exact h.2 _ x y hx hy
  · cases hx
theorem ARel.set {ι : Emb} {a a' : Array Value} (h : ARel ι a a') (i : Nat) {v v' : Value} (hv : VRel ι v v') : ARel ι (a.setIfInBounds i v) (a'.setIfInBounds i v') := by
  refine ⟨by simp [h.1], fun k x y hx hy => ?_⟩
  rw [Array.getElem?_setIfInBounds] at hx hy
  rw [← h.1] at hy
  by_cases hk : i = k
  · rw [if_pos hk] at hx hy
    by_cases hs : i < a.size
    · rw [if_pos hs] at hx hy
      injection hx with hx; injection hy with hy
      subst hx hy; exact hv
    · rw [if_neg hs] at hx; cases hx
  · rw [if_neg hk] at hx hy; exact h.2 k x y hx hy
theorem ARel.replicate {ι : Emb} (n : Nat) {v v' : Value} (hv : VRel ι v v') : ARel ι (Array.replicate n v) (Array.replicate n v') := by
  refine ⟨by simp, fun k x y hx hy => ?_⟩
  rw [Array.getElem?_replicate] at hx hy
  split at hx
  · rename_i hc
    rw [if_pos hc] at hy
    injection hx with hx; injection hy with hy
    subst hx hy; exact hv
  · cases hx
theorem ARel.map {ι : Emb} {α : Type} (xs : Array α) (f g : α → Value) (h : ∀ (k : Nat) (x : α), xs[k]? = some x → VRel ι (f x) (g x)) : ARel ι (xs.map f) (xs.map g) := by
  refine ⟨by simp, fun k x y hx hy => ?_⟩
  rw [Array.getElem?_map] at hx hy
  cases hk : xs[k]? with
  | none => rw [hk] at hx; cases hx
  | some z =>
    rw [hk] at hx hy
    simp only [Option.map_some, Option.some.injEq] at hx hy
    subst hx hy
    exact h k z hk
theorem ARel.single {ι : Emb} {v v' : Value} (hv : VRel ι v v') : ARel ι #[v] #[v'] := by
  have := ARel.push (ι := ι) .empty hv
  simpa using this
theorem VRel.cells {ι : Emb} {v v' : Value} (h : VRel ι v v') : ARel ι v.cells v'.cells := by
  have hh : VRel ι v v' := h
  cases h with
  | agg cs cs' hc h => exact ⟨hc, h⟩
  | _ => exact ARel.single hh
theorem VRel.undef {ι : Emb} : VRel ι Go.undef Go.undef := .tuple _ _ rfl fun k v v' h => by simp at h

/-! ### constants -/
theorem constOk1_rel {ι : Emb} {v : Value} (h : constOk1 v = true) : VRel ι v v := by
  cases v with
  | bool b => exact .bool b
  | int k n => exact .int k n
  | float k n => exact .float k n
  | complex k n m => exact .complex k n m
  | string s => exact .string s
  | pointer a => cases a with
    | none => exact .ptrNil
    | some a => simp [constOk1] at h
  | slice a n c => cases a with
    | none => exact .slNil n c
    | some a => simp [constOk1] at h
  | map r => cases r with
    | none => exact .mapNil
    | some a => simp [constOk1] at h
  | chan r => cases r with
    | none => exact .chanNil
    | some a => simp [constOk1] at h
  | func fn a b => simp [constOk1] at h
  | nilFunc => exact .nilFunc
  | iface t v => simp [constOk1] at h
  | nilIface => exact .nilIface
  | agg cs => simp [constOk1] at h
  | tuple cs => simp [constOk1] at h
theorem arel_of_all {ι : Emb} {cs : Array Value} (h : cs.all constOk1 = true) : ARel ι cs cs := by
  refine ⟨rfl, fun k v v' hv hv' => ?_⟩
  rw [hv] at hv'; injection hv' with hv'; subst hv'
  rw [Array.all_eq_true] at h
  obtain ⟨hk, rfl⟩ := Array.getElem?_eq_some_iff.1 hv
  exact constOk1_rel (h k hk)
theorem constOk_rel {ι : Emb} {v : Value} (h : constOk v = true) : VRel ι v v := by
  cases v with
  | agg cs => exact .agg _ _ rfl (arel_of_all (ι := ι) (cs := cs) (by simpa [constOk] using h)).2
  | tuple cs => exact .tuple _ _ rfl (arel_of_all (ι := ι) (cs := cs) (by simpa [constOk] using h)).2
  | _ => exact constOk1_rel (by simpa [constOk] using h)

/-! ### objects and worlds -/
structure ERel (ι : Emb) (e e' : MapEntry) : Prop where
  key : VRel ι e.key e'.key
  val : VRel ι e.val e'.val
  born : e.born = e'.born
theorem ERel.mono {ι ι' : Emb} (hl : ι.le ι') {v v' : MapEntry} (h : ERel ι v v') : ERel ι' v v' := ⟨h.key.mono hl, h.val.mono hl, h.born⟩

structure LRel (ι : Emb) (l l' : Loop) : Prop where
  state : l.state = l'.state
  pending : l.pending = l'.pending
  tmps : ARel ι l.tmps l'.tmps
  params : l.params = l'.params
  assign : l.assign = l'.assign
  body : l.body = l'.body
  defers : ∃ r, ι l.defers = some r ∧ l'.defers = r.b
theorem LRel.mono {ι ι' : Emb} (hl : ι.le ι') {v v' : Loop} (h : LRel ι v v') : LRel ι' v v' :=
  ⟨h.state, h.pending, h.tmps.mono hl, h.params, h.assign, h.body, let ⟨r, a, b⟩ := h.defers; ⟨r, hl _ _ a, b⟩⟩

def RowRel (P : Program) (r : Loc) (e : TypeId) (fr fr' : Nat × Nat) (n n' : Nat) : Prop :=
  r.len = n ∧ ((fr.1 = 0 ∧ fr.2 ≠ 0 ∧ n ≤ fr.2 ∧ r.grown = false) ∨ (fr = (0, 0) ∧ fr' = (0, 0) ∧ r.grown = false ∧ r.base = 0 ∧ n' = n) ∨
    (fr = (1, 0) ∧ (∀ k, k < n' → ¬ (fr'.1 ≤ k ∧ k < fr'.2)) ∧ r.grown = true ∧ r.base + r.room ≤ n' ∧ n ≤ r.room ∧ ∃ inf, P.info? e = some inf ∧ inf.size = r.es ∧ 0 < r.es))

inductive ORel (P : Program) (ι : Emb) (r : Loc) : Obj → Obj → Prop
  | cells (cs cs' : Array Value) (e : TypeId) (fr fr' : Nat × Nat) (hr : RowRel P r e fr fr' cs.size cs'.size) (h : ∀ (k : Nat) (v : Value), cs[k]? = some v → ∃ v', cs'[r.base + k]? = some v' ∧ VRel ι v v') :
      ORel P ι r (.cells cs e fr) (.cells cs' e fr')
  | map (es es' : Array MapEntry) (clock : Nat) (hs : es.size = es'.size) (h : ∀ (k : Nat) (e e' : MapEntry), es[k]? = some e → es'[k]? = some e' → ERel ι e e') : ORel P ι r (.map es clock) (.map es' clock)
  | loop (l l' : Loop) (h : LRel ι l l') : ORel P ι r (.loop l) (.loop l')
  | deferred (ds : Option (List Deferred)) (h : ds = none ∨ ds = some []) : ORel P ι r (.deferred ds) (.deferred ds)
theorem ORel.mono {P : Program} {ι ι' : Emb} (hl : ι.le ι') {r : Loc} {o o' : Obj} (h : ORel P ι r o o') : ORel P ι' r o o' := by
  cases h with
  | cells cs cs' e fr fr' hr h => exact .cells cs cs' e fr fr' hr fun k v hk => let ⟨v', a, b⟩ := h k v hk; ⟨v', a, b.mono hl⟩
  | map es es' clock hs h => exact .map es es' clock hs fun k a b ha hb => (h k a b ha hb).mono hl
  | loop l l' h => exact .loop l l' (h.mono hl)
  | deferred ds h => exact .deferred ds h

/-- Tables of the library's that every program lays alike. -/
def tabOf (name : String) : Option (Array Value) :=
  if name = "internal/strconv.uint64pow10" then some ((Lib.pow10Tab.map (Value.int .u64)).toArray) else none
structure Rel (P : Program) (ι : Emb) (H w : World) : Prop where
  fz : ∀ (b : Nat) (cs' : Array Value), ι.fz b = some cs' → (∃ e fr, w.heap[b]? = some (.cells cs' e fr)) ∧ ∀ (i : Nat) (o : Obj) (r : Loc), H.heap[i]? = some o → live o = true → given o = false → ι i = some r → r.b ≠ b
  obj : ∀ (i : Nat) (o : Obj), H.heap[i]? = some o → live o = true → ∃ r o', ι i = some r ∧ w.heap[r.b]? = some o' ∧ ORel P ι r o o'
  inj : ∀ (i j : Nat) (o1 o2 : Obj) (r1 r2 : Loc), H.heap[i]? = some o1 → live o1 = true → H.heap[j]? = some o2 → live o2 = true → ι i = some r1 → ι j = some r2 → r1.b = r2.b → given o1 = false → i = j
  dom : ∀ i r, ι i = some r → i < H.heap.size ∧ r.b < w.heap.size
  only : ∀ (i : Nat) (o : Obj), H.heap[i]? = some o → live o = true ∨ o = deadObj
  tab : ∀ (name : String) (cs : Array Value) (g : Nat), tabOf name = some cs → P.globalNamed name = some g → ι.fz g = some cs

structure Step (P : Program) (ι : Emb) (H w : World) (ι' : Emb) (H' w' : World) : Prop where
  le : ι.le ι'
  rel : Rel P ι' H' w'
  size : w.heap.size ≤ w'.heap.size
  os : w'.os = w.os
  tape : w'.tape = w.tape
  output : w'.output = w.output
  keep : ∀ b : Nat, b < w.heap.size → (∀ (i : Nat) (o : Obj) (r : Loc), H.heap[i]? = some o → live o = true → ι i = some r → r.b ≠ b) → w'.heap[b]? = w.heap[b]?
  pin : ∀ (i : Nat) (o : Obj) (r : Loc), H.heap[i]? = some o → given o = true → ι i = some r → H'.heap[i]? = some o ∧ w'.heap[r.b]? = w.heap[r.b]?
  pins : ∀ (b : Nat) (cs' : Array Value), ι'.fz b = some cs' → ι.fz b = some cs' ∨ w.heap.size ≤ b
  own : ∀ (i : Nat) (o : Obj) (r : Loc), H'.heap[i]? = some o → live o = true → ι' i = some r → w.heap.size ≤ r.b ∨ ∃ j oj rj, H.heap[j]? = some oj ∧ live oj = true ∧ ι j = some rj ∧ rj.b = r.b
  grow : H.heap.size ≤ H'.heap.size
  news : ∀ i, i < H.heap.size → ι' i = ι i

theorem given_live {o : Obj} (h : given o = true) : live o = true := by
  cases o <;> first | rfl | cases h
theorem Step.refl {P : Program} {ι : Emb} {H w : World} (h : Rel P ι H w) : Step P ι H w ι H w :=
  ⟨Emb.le_refl _, h, Nat.le_refl _, rfl, rfl, rfl, fun _ _ _ => rfl, fun i o r hi _ _ => ⟨hi, rfl⟩, fun _ _ h => .inl h, fun i o r hi hl hr => .inr ⟨i, o, r, hi, hl, hr, rfl⟩, Nat.le_refl _, fun _ _ => rfl⟩
theorem Step.trans {P : Program} {ι ι1 ι2 : Emb} {H w H1 w1 H2 w2 : World} (h : Step P ι H w ι1 H1 w1) (h' : Step P ι1 H1 w1 ι2 H2 w2) : Step P ι H w ι2 H2 w2 := by
  refine ⟨Emb.le_trans h.le h'.le, h'.rel, Nat.le_trans h.size h'.size, h'.os.trans h.os, h'.tape.trans h.tape, h'.output.trans h.output, fun b hb hn => ?_, fun i o r hi hg hr => ?_, fun b cs' hb => ?_, fun i o r hi hl hr => ?_, Nat.le_trans h.grow h'.grow, fun i hi => (h'.news i (Nat.lt_of_lt_of_le hi h.grow)).trans (h.news i hi)⟩
  · rw [h'.keep b (Nat.lt_of_lt_of_le hb h.size) ?_, h.keep b hb hn]
    intro i o r hi hl hr hbr
    rcases h.own i o r hi hl hr with hge | ⟨j, oj, rj, hj, hlj, hrj, hbj⟩
    · omega
    · exact hn j oj rj hj hlj hrj (hbj.trans hbr)
  · obtain ⟨h1, h2⟩ := h.pin i o r hi hg hr
    obtain ⟨h3, h4⟩ := h'.pin i o r h1 hg (h.le _ _ hr)
    exact ⟨h3, h4.trans h2⟩
  · rcases h'.pins b cs' hb with h1 | h1
    · exact h.pins b cs' h1
    · exact .inr (Nat.le_trans h.size h1)
  · rcases h'.own i o r hi hl hr with hge | ⟨j, oj, rj, hj, hlj, hrj, hbj⟩
    · exact .inl (Nat.le_trans h.size hge)
    · rcases h.own j oj rj hj hlj hrj with hge | ⟨k, ok, rk, hk, hlk, hrk, hbk⟩
      · exact .inl (hbj ▸ hge)
      · exact .inr ⟨k, ok, rk, hk, hlk, hrk, hbk.trans hbj⟩

/-- Only the count of draws has turned. -/
theorem Rel.drawn {P : Program} {ι : Emb} {H w : World} (h : Rel P ι H w) (n : Nat) : Rel P ι H { w with drawn := n } := ⟨h.fz, h.obj, h.inj, h.dom, h.only, h.tab⟩
theorem Step.drawn {P : Program} {ι : Emb} {H w : World} (h : Rel P ι H w) (n : Nat) : Step P ι H w ι H { w with drawn := n } :=
  ⟨Emb.le_refl _, h.drawn n, Nat.le_refl _, rfl, rfl, rfl, fun _ _ _ => rfl, fun i o r hi _ _ => ⟨hi, rfl⟩, fun _ _ h => .inl h, fun i o r hi hl hr => .inr ⟨i, o, r, hi, hl, hr, rfl⟩, Nat.le_refl _, fun _ _ => rfl⟩

end Go.Proofs.YtmmmdmandocbhaaDoor.Den
end

section
/- The steps on memory, kept by the relation; programs of the model that go side by side. -/
set_option linter.unusedVariables false
set_option linter.unusedSimpArgs false
namespace Go.Proofs.YtmmmdmandocbhaaDoor.Den
variable {P : Program} {ι : Emb}

/-! ### 1. cells -/
theorem cell_some {H : World} {i o : Nat} {v : Value} (h : H.cell? ⟨i, o, none⟩ = some v) : ∃ cs e fr, H.heap[i]? = some (.cells cs e fr) ∧ cs[o]? = some v := by
  unfold World.cell? at h
  simp only at h
  split at h
  · rename_i cs e fr hb
    exact ⟨cs, e, fr, hb, by simpa using h⟩
  · cases h
theorem cell_of {H : World} {i o : Nat} {cs : Array Value} {e : TypeId} {fr : Nat × Nat} (h : H.heap[i]? = some (.cells cs e fr)) : H.cell? ⟨i, o, none⟩ = cs[o]? := by
  unfold World.cell?
  simp [h]
theorem Rel.row {H w : World} (h : Rel P ι H w) {i : Nat} {r : Loc} (hr : ι i = some r) {cs : Array Value} {e : TypeId} {fr : Nat × Nat} (hb : H.heap[i]? = some (.cells cs e fr)) :
    ∃ cs' fr', w.heap[r.b]? = some (.cells cs' e fr') ∧ RowRel P r e fr fr' cs.size cs'.size ∧ ∀ (k : Nat) (v : Value), cs[k]? = some v → ∃ v', cs'[r.base + k]? = some v' ∧ VRel ι v v' := by
  obtain ⟨r', o', hr', hw, ho⟩ := h.obj i _ hb rfl
  rw [hr] at hr'; injection hr' with hr'; subst hr'
  cases ho with
  | cells cs cs' e fr fr' hrow hcs => exact ⟨cs', fr', hw, hrow, hcs⟩
theorem Rel.cell {H w : World} (h : Rel P ι H w) {i o : Nat} {r : Loc} {v : Value} (hr : ι i = some r) (hc : H.cell? ⟨i, o, none⟩ = some v) :
    ∃ v', w.cell? ⟨r.b, r.base + o, none⟩ = some v' ∧ (H.frozen? ⟨i, o, none⟩ = false → w.frozen? ⟨r.b, r.base + o, none⟩ = false) ∧ VRel ι v v' := by
  obtain ⟨cs, e, fr, hb, hv⟩ := cell_some hc
  obtain ⟨cs', fr', hw, hrow, hcs⟩ := h.row hr hb
  obtain ⟨v', hv', hvr⟩ := hcs o v hv
  refine ⟨v', (cell_of hw).trans hv', fun hfz => ?_, hvr⟩
  have hlt := (Array.getElem?_eq_some_iff.1 hv').1
  unfold World.frozen?
  simp only [hw]
  obtain ⟨_, ⟨hf1, hf2, hn, _⟩ | ⟨_, hfr, _⟩ | ⟨_, hfr, _⟩⟩ := hrow
  · exfalso
    have ho := (Array.getElem?_eq_some_iff.1 hv).1
    unfold World.frozen? at hfz
    simp only [hb, hf1] at hfz
    rw [Bool.eq_false_iff] at hfz
    apply hfz
    simp; omega
  · subst hfr; simp
  · have := hfr _ hlt
    rw [Bool.eq_false_iff]
    simpa using this

theorem heap_setCell (H : World) (i o j : Nat) (v : Value) : (H.setCell ⟨i, o, none⟩ v).heap[j]? =
    if i = j then (H.heap[j]?).map (fun | .cells c e f => .cells (c.setIfInBounds o v) e f | x => x) else H.heap[j]? := by
  simp only [World.setCell, Array.getElem?_modify, Option.isSome_none, Bool.false_eq_true, if_false]
  by_cases h : i = j
  · simp only [h, if_true]
    congr 1
  · simp only [h, if_false]

theorem Rel.setCell {H w : World} (h : Rel P ι H w) {i o : Nat} {r : Loc} {u v v' : Value} (hr : ι i = some r) (hc : H.cell? ⟨i, o, none⟩ = some u) (hfz : H.frozen? ⟨i, o, none⟩ = false) (hv : VRel ι v v') :
    Step P ι H w ι (H.setCell ⟨i, o, none⟩ v) (w.setCell ⟨r.b, r.base + o, none⟩ v') := by
  obtain ⟨cs, e, fr, hb, hu⟩ := cell_some hc
  obtain ⟨cs', fr', hw, hrow, hcs⟩ := h.row hr hb
  have hng : given (.cells cs e fr) = false := by
    have ho := (Array.getElem?_eq_some_iff.1 hu).1
    obtain ⟨_, ⟨hf1, hf2, hn, _⟩ | ⟨hfr, _⟩ | ⟨hfr, _⟩⟩ := hrow
    · exfalso
      unfold World.frozen? at hfz
      simp only [hb, hf1] at hfz
      rw [Bool.eq_false_iff] at hfz
      apply hfz
      simp; omega
    · subst hfr; rfl
    · subst hfr; rfl
  have hlive : ∀ (j : Nat) (x : Obj), (H.setCell ⟨i, o, none⟩ v).heap[j]? = some x → ∃ y, H.heap[j]? = some y ∧ live y = live x ∧ (y = deadObj → x = deadObj) ∧ given y = given x := by
    intro j x hx
    rw [heap_setCell] at hx
    by_cases hij : i = j
    · subst hij
      rw [if_pos rfl, hb] at hx
      simp only [Option.map_some, Option.some.injEq] at hx
      subst hx
      exact ⟨_, hb, rfl, fun h => (by cases h), rfl⟩
    · rw [if_neg hij] at hx
      exact ⟨x, hx, rfl, id, rfl⟩
  have hrel : Rel P ι (H.setCell ⟨i, o, none⟩ v) (w.setCell ⟨r.b, r.base + o, none⟩ v') := by
    refine ⟨fun b zs hz => ?_, fun j x hx hl => ?_, fun j k o1 o2 r1 r2 h1 l1 h2 l2 e1 e2 hbb hg1 => ?_, fun j rj hj => ?_, fun j x hx => ?_, h.tab⟩
    · obtain ⟨⟨e1, f1, h1⟩, h2⟩ := h.fz b zs hz
      refine ⟨⟨e1, f1, by rw [heap_setCell, if_neg (h2 i _ r hb rfl hng hr)]; exact h1⟩, fun j x rj hx hl hg hrj => ?_⟩
      obtain ⟨y, hy, hly, _, hgy⟩ := hlive j x hx
      exact h2 j y rj hy (hly.trans hl) (hgy.trans hg) hrj
    · rw [heap_setCell] at hx
      by_cases hij : i = j
      · subst hij
        rw [if_pos rfl, hb] at hx
        simp only [Option.map_some, Option.some.injEq] at hx
        subst hx
        refine ⟨r, .cells (cs'.setIfInBounds (r.base + o) v') e fr', hr, by rw [heap_setCell, if_pos rfl, hw]; rfl, .cells _ _ e fr fr' (by simpa using hrow) fun k x hx => ?_⟩
        rw [Array.getElem?_setIfInBounds] at hx
        by_cases hk : o = k
        · subst hk
          rw [if_pos rfl] at hx
          split at hx
          · injection hx with hx; subst hx
            obtain ⟨u', hu', _⟩ := hcs o u hu
            have := (Array.getElem?_eq_some_iff.1 hu').1
            exact ⟨v', by rw [Array.getElem?_setIfInBounds, if_pos rfl, if_pos this], hv⟩
          · cases hx
        · rw [if_neg hk] at hx
          obtain ⟨x', hx', hxr⟩ := hcs k x hx
          exact ⟨x', by rw [Array.getElem?_setIfInBounds, if_neg (by omega)]; exact hx', hxr⟩
      · rw [if_neg hij] at hx
        obtain ⟨rj, o', hrj, hwj, hoj⟩ := h.obj j x hx hl
        refine ⟨rj, o', hrj, ?_, hoj⟩
        rw [heap_setCell, if_neg ?_]
        · exact hwj
        · intro hbb
          exact hij (h.inj i j _ _ _ _ hb rfl hx hl hr hrj hbb hng)
    · obtain ⟨y1, hy1, hl1, _, hgy⟩ := hlive j o1 h1
      obtain ⟨y2, hy2, hl2, _⟩ := hlive k o2 h2
      exact h.inj j k _ _ _ _ hy1 (hl1.trans l1) hy2 (hl2.trans l2) e1 e2 hbb (hgy.trans hg1)
    · have := h.dom j rj hj
      simpa using this
    · obtain ⟨y, hy, hly, hd, _⟩ := hlive j x hx
      rcases h.only j y hy with h' | h'
      · exact .inl (hly ▸ h')
      · exact .inr (hd h')
  refine ⟨Emb.le_refl _, hrel, by simp, rfl, rfl, rfl, fun b hbs hn => ?_, fun j x rj hj hg hrj => ?_, fun _ _ h => .inl h, fun j x rj hj hl hrj => ?_, by simp, fun _ _ => rfl⟩
  · rw [heap_setCell, if_neg (hn i _ r hb rfl hr)]
  · have hij : i ≠ j := fun e => by
      subst e
      rw [hb] at hj; injection hj with hj; subst hj
      rw [hng] at hg; cases hg
    refine ⟨by rw [heap_setCell, if_neg hij]; exact hj, ?_⟩
    rw [heap_setCell, if_neg fun e => hij (h.inj i j _ _ _ _ hb rfl hj (given_live hg) hr hrj e hng)]
  · obtain ⟨y, hy, hly, _⟩ := hlive j x hj
    exact .inr ⟨j, y, rj, hy, hly.trans hl, hrj, rfl⟩

/-! ### 2. a new object -/
def Emb.put (ι : Emb) (i : Nat) (r : Loc) : Emb := ⟨fun j => if j = i then some r else ι j, ι.fz⟩
theorem Emb.le_put {ι : Emb} {i : Nat} {r : Loc} (h : ι i = none) : ι.le (ι.put i r) := ⟨fun j s hj => by
  unfold Emb.put
  dsimp only
  split
  · rename_i e; subst e; rw [h] at hj; cases hj
  · exact hj, fun _ _ h => h⟩
theorem Emb.put_same (ι : Emb) (i : Nat) (r : Loc) : (ι.put i r) i = some r := by simp [Emb.put]
theorem Rel.fresh {H w : World} (h : Rel P ι H w) : ι H.heap.size = none := by
  cases hi : ι H.heap.size with
  | none => rfl
  | some r => exact absurd (h.dom _ _ hi).1 (Nat.lt_irrefl _)

theorem Rel.new {H w : World} (h : Rel P ι H w) {o o' : Obj} {r : Loc} (hl : live o = true) (hb : r.b = w.heap.size) (ho : ORel P (ι.put H.heap.size r) r o o') :
    Step P ι H w (ι.put H.heap.size r) { H with heap := H.heap.push o } { w with heap := w.heap.push o' } := by
  have hf := h.fresh
  have hle := Emb.le_put (r := r) hf
  refine ⟨hle, ⟨fun b zs hz => ?_, fun j x hx hlx => ?_, fun j k o1 o2 r1 r2 h1 l1 h2 l2 e1 e2 hbb hg1 => ?_, fun j rj hj => ?_, fun j x hx => ?_, fun s zs g h1 h2 => hle.fz _ _ (h.tab s zs g h1 h2)⟩, by simp, rfl, rfl, rfl, fun b hbs hn => ?_, fun j x rj hj hg hrj => ?_, fun _ _ h => .inl h, fun j x rj hj hlx hrj => ?_, by simp, fun i hi => by simp only [Emb.put]; rw [if_neg (by omega)]⟩
  · obtain ⟨⟨e1, f1, h1⟩, h2⟩ := h.fz b zs hz
    have hlt := (Array.getElem?_eq_some_iff.1 h1).1
    refine ⟨⟨e1, f1, by rw [Array.getElem?_push, if_neg (by omega)]; exact h1⟩, fun j x rj hx hl hg hrj => ?_⟩
    simp only [Array.getElem?_push] at hx
    simp only [Emb.put] at hrj
    by_cases hj : j = H.heap.size
    · rw [if_pos hj] at hrj
      injection hrj with hrj; subst hrj
      omega
    · rw [if_neg hj] at hx hrj
      exact h2 j x rj hx hl hg hrj
  · simp only [Array.getElem?_push] at hx
    by_cases hj : j = H.heap.size
    · subst hj
      rw [if_pos rfl] at hx
      injection hx with hx; subst hx
      exact ⟨r, o', Emb.put_same _ _ _, by simp [Array.getElem?_push, hb], ho⟩
    · rw [if_neg hj] at hx
      obtain ⟨rj, oj, hrj, hwj, hoj⟩ := h.obj j x hx hlx
      have := (h.dom _ _ hrj).2
      exact ⟨rj, oj, hle _ _ hrj, by simp only [Array.getElem?_push]; rw [if_neg (by omega)]; exact hwj, hoj.mono hle⟩
  · simp only [Array.getElem?_push] at h1 h2
    simp only [Emb.put] at e1 e2
    by_cases hj : j = H.heap.size <;> by_cases hk : k = H.heap.size
    · exact hj.trans hk.symm
    · rw [if_pos hj] at e1; rw [if_neg hk] at e2
      injection e1 with e1; subst e1
      have := (h.dom _ _ e2).2
      omega
    · rw [if_neg hj] at e1; rw [if_pos hk] at e2
      injection e2 with e2; subst e2
      have := (h.dom _ _ e1).2
      omega
    · rw [if_neg hj] at e1 h1; rw [if_neg hk] at e2 h2
      exact h.inj j k _ _ _ _ h1 l1 h2 l2 e1 e2 hbb hg1
  · simp only [Emb.put] at hj
    split at hj
    · rename_i e; subst e
      injection hj with hj; subst hj
      simp [hb]
    · have := h.dom j rj hj
      simp only [Array.size_push]; omega
  · simp only [Array.getElem?_push] at hx
    by_cases hj : j = H.heap.size
    · rw [if_pos hj] at hx
      injection hx with hx; subst hx; exact .inl hl
    · rw [if_neg hj] at hx; exact h.only j x hx
  · simp only [Array.getElem?_push]; rw [if_neg (by omega)]
  · have hd := h.dom _ _ hrj
    exact ⟨by rw [Array.getElem?_push, if_neg (by omega)]; exact hj, by rw [Array.getElem?_push, if_neg (by omega)]⟩
  · simp only [Array.getElem?_push] at hj
    simp only [Emb.put] at hrj
    by_cases hjs : j = H.heap.size
    · rw [if_pos hjs] at hrj
      injection hrj with hrj; subst hrj
      exact .inl (by omega)
    · rw [if_neg hjs] at hj hrj
      exact .inr ⟨j, x, rj, hj, hlx, hrj, rfl⟩

def exactLoc (b n : Nat) : Loc := { b := b, base := 0, len := n, room := 0, es := 0, grown := false }
theorem Rel.newRow {H w : World} (h : Rel P ι H w) {cs cs' : Array Value} (e : TypeId) (hc : ARel ι cs cs') :
    Step P ι H w (ι.put H.heap.size (exactLoc w.heap.size cs.size)) { H with heap := H.heap.push (.cells cs e) } { w with heap := w.heap.push (.cells cs' e) } := by
  refine h.new rfl rfl (.cells cs cs' e (0, 0) (0, 0) ⟨rfl, .inr (.inl ⟨rfl, rfl, rfl, rfl, hc.1.symm⟩)⟩ fun k v hk => ?_)
  obtain ⟨v', hv', hr⟩ := hc.get hk
  exact ⟨v', by simpa [exactLoc] using hv', hr.mono (Emb.le_put h.fresh)⟩

/-! ### 3. an object that is no row is turned -/
theorem Rel.setObj {H w : World} (h : Rel P ι H w) {i : Nat} {r : Loc} {o o1 o1' : Obj} (hr : ι i = some r) (hi : H.heap[i]? = some o) (hl : live o = true) (hgo : given o = false) (hl1 : live o1 = true)
    (ho : ORel P ι r o1 o1') : Step P ι H w ι { H with heap := H.heap.setIfInBounds i o1 } { w with heap := w.heap.setIfInBounds r.b o1' } := by
  have hlt := (Array.getElem?_eq_some_iff.1 hi).1
  have hlt' := (h.dom i r hr).2
  refine ⟨Emb.le_refl _, ⟨fun b zs hz => ?_, fun j x hx hlx => ?_, fun j k o1 o2 r1 r2 h1 l1 h2 l2 e1 e2 hbb hg1 => ?_, fun j rj hj => ?_, fun j x hx => ?_, h.tab⟩, by simp, rfl, rfl, rfl, fun b hbs hn => ?_, fun j x rj hj hg hrj => ?_, fun _ _ h => .inl h, fun j x rj hj hlx hrj => ?_, by simp, fun _ _ => rfl⟩
  · obtain ⟨⟨e1, f1, h1⟩, h2⟩ := h.fz b zs hz
    refine ⟨⟨e1, f1, by simp only [Array.getElem?_setIfInBounds]; rw [if_neg (h2 i o r hi hl hgo hr)]; exact h1⟩, fun j x rj hx hlx hg hrj => ?_⟩
    simp only [Array.getElem?_setIfInBounds] at hx
    by_cases hij : i = j
    · subst hij; exact h2 i o rj hi hl hgo hrj
    · rw [if_neg hij] at hx; exact h2 j x rj hx hlx hg hrj
  · simp only [Array.getElem?_setIfInBounds] at hx
    by_cases hij : i = j
    · subst hij
      rw [if_pos rfl, if_pos hlt] at hx
      injection hx with hx; subst hx
      exact ⟨r, o1', hr, by simp [Array.getElem?_setIfInBounds, hlt'], ho⟩
    · rw [if_neg hij] at hx
      obtain ⟨rj, oj, hrj, hwj, hoj⟩ := h.obj j x hx hlx
      refine ⟨rj, oj, hrj, ?_, hoj⟩
      simp only [Array.getElem?_setIfInBounds]
      rw [if_neg ?_]
      · exact hwj
      · intro hbb
        exact hij (h.inj i j _ _ _ _ hi hl hx hlx hr hrj hbb hgo)
  · rename_i o1x
    have hget : ∀ (j : Nat) (x : Obj), (H.heap.setIfInBounds i o1x)[j]? = some x → live x = true → ∃ y, H.heap[j]? = some y ∧ live y = true ∧ (given x = false → given y = false) := by
      intro j x hx hlx
      simp only [Array.getElem?_setIfInBounds] at hx
      by_cases hij : i = j
      · subst hij; exact ⟨o, hi, hl, fun _ => hgo⟩
      · rw [if_neg hij] at hx; exact ⟨x, hx, hlx, id⟩
    obtain ⟨y1, hy1, hl1, hgy⟩ := hget j _ h1 l1
    obtain ⟨y2, hy2, hl2, _⟩ := hget k _ h2 l2
    exact h.inj j k _ _ _ _ hy1 hl1 hy2 hl2 e1 e2 hbb (hgy hg1)
  · have := h.dom j rj hj
    simpa using this
  · simp only [Array.getElem?_setIfInBounds] at hx
    by_cases hij : i = j
    · subst hij
      rw [if_pos rfl, if_pos hlt] at hx
      injection hx with hx; subst hx; exact .inl hl1
    · rw [if_neg hij] at hx; exact h.only j x hx
  · simp only [Array.getElem?_setIfInBounds]
    rw [if_neg (hn i o r hi hl hr)]
  · have hij : i ≠ j := fun e => by
      subst e
      rw [hi] at hj; injection hj with hj; subst hj
      rw [hgo] at hg; cases hg
    refine ⟨by simp only [Array.getElem?_setIfInBounds]; rw [if_neg hij]; exact hj, ?_⟩
    simp only [Array.getElem?_setIfInBounds]
    rw [if_neg fun e => hij (h.inj i j _ _ _ _ hi hl hj (given_live hg) hr hrj e hgo)]
  · simp only [Array.getElem?_setIfInBounds] at hj
    by_cases hij : i = j
    · subst hij; exact .inr ⟨i, o, rj, hi, hl, hrj, rfl⟩
    · rw [if_neg hij] at hj; exact .inr ⟨j, x, rj, hj, hlx, hrj, rfl⟩

/-- A row is given up. -/
theorem Rel.kill {H w : World} (h : Rel P ι H w) (i : Nat) (hgi : ∀ x, H.heap[i]? = some x → given x = false) : Step P ι H w ι (killObj H i) w := by
  have hget : ∀ (j : Nat) (x : Obj), (killObj H i).heap[j]? = some x → live x = true → H.heap[j]? = some x := by
    intro j x hx hlx
    simp only [killObj, Array.getElem?_setIfInBounds] at hx
    by_cases hij : i = j
    · rw [if_pos hij] at hx
      split at hx
      · injection hx with hx; subst hx; cases hlx
      · cases hx
    · rw [if_neg hij] at hx; exact hx
  refine ⟨Emb.le_refl _, ⟨fun b zs hz => ⟨(h.fz b zs hz).1, fun j x rj hx hlx hg hrj => (h.fz b zs hz).2 j x rj (hget j x hx hlx) hlx hg hrj⟩, fun j x hx hlx => h.obj j x (hget j x hx hlx) hlx, fun j k o1 o2 r1 r2 h1 l1 h2 l2 e1 e2 hbb hg1 => h.inj j k _ _ _ _ (hget _ _ h1 l1) l1 (hget _ _ h2 l2) l2 e1 e2 hbb hg1, fun j rj hj => ?_, fun j x hx => ?_, h.tab⟩,
    Nat.le_refl _, rfl, rfl, rfl, fun _ _ _ => rfl, fun j x rj hj hg hrj => ⟨?_, rfl⟩, fun _ _ h => .inl h, fun j x rj hj hlx hrj => .inr ⟨j, x, rj, hget _ _ hj hlx, hlx, hrj, rfl⟩, by simp [killObj], fun _ _ => rfl⟩
  · have := h.dom j rj hj
    simpa [killObj] using this
  · simp only [killObj, Array.getElem?_setIfInBounds] at hx
    by_cases hij : i = j
    · rw [if_pos hij] at hx
      split at hx
      · injection hx with hx; subst hx; exact .inr rfl
      · cases hx
    · rw [if_neg hij] at hx; exact h.only j x hx
  · simp only [killObj, Array.getElem?_setIfInBounds]
    rw [if_neg fun e => by subst e; rw [hgi _ hj] at hg; cases hg]; exact hj

/-! ### 4. programs side by side -/
def Sim (P : Program) (ι : Emb) {α β : Type} (s : Sem α) (s' : Sem β) (R : Emb → α → β → Prop) : Prop :=
  ∀ (ι0 : Emb) (H w : World), ι.le ι0 → Rel P ι0 H w → ∀ (x : α) (H1 : World), s.run P H = .ok x H1 → ∃ ι1 x' w1, s'.run P w = .ok x' w1 ∧ Step P ι0 H w ι1 H1 w1 ∧ R ι1 x x'

section
variable {α β γ δ : Type} {s : Sem α} {s' : Sem β} {R : Emb → α → β → Prop} {k : α → Sem γ} {k' : β → Sem δ} {Q : Emb → γ → δ → Prop}
theorem Sim.bind (h : Sim P ι s s' R) (hk : ∀ (ι1 : Emb) x x', ι.le ι1 → R ι1 x x' → Sim P ι1 (k x) (k' x') Q) : Sim P ι (s >>= k) (s' >>= k') Q := by
  intro ι0 H w hle hrel y H2 hy
  simp only [Sem.run_bind] at hy ⊢
  cases hs : s.run P H with
  | halt e H1 => rw [hs] at hy; cases hy
  | ok x H1 =>
    rw [hs] at hy
    simp only [Result.andThen_ok] at hy
    obtain ⟨ι1, x', w1, hx', hst, hR⟩ := h ι0 H w hle hrel x H1 hs
    obtain ⟨ι2, y', w2, hy', hst2, hQ⟩ := hk ι1 x x' (Emb.le_trans hle hst.le) hR ι1 H1 w1 (Emb.le_refl _) hst.rel y H2 hy
    exact ⟨ι2, y', w2, by rw [hx']; exact hy', hst.trans hst2, hQ⟩
theorem Sim.mono_emb {ι' : Emb} (hle : ι.le ι') (h : Sim P ι s s' R) : Sim P ι' s s' R := fun ι0 H w hl => h ι0 H w (Emb.le_trans hle hl)
theorem Sim.imp {R' : Emb → α → β → Prop} (h : Sim P ι s s' R) (hr : ∀ (ι1 : Emb) x x', ι.le ι1 → R ι1 x x' → R' ι1 x x') : Sim P ι s s' R' := by
  intro ι0 H w hle hrel x H1 hx
  obtain ⟨ι1, x', w1, hx', hst, hR⟩ := h ι0 H w hle hrel x H1 hx
  exact ⟨ι1, x', w1, hx', hst, hr _ _ _ (Emb.le_trans hle hst.le) hR⟩
theorem Sim.pure {x : α} {x' : β} (h : ∀ ι1 : Emb, ι.le ι1 → R ι1 x x') : Sim P ι (Pure.pure x : Sem α) (Pure.pure x' : Sem β) R := by
  intro ι0 H w hle hrel y H1 hy
  simp only [Sem.run_pure, Result.ok.injEq] at hy
  obtain ⟨rfl, rfl⟩ := hy
  exact ⟨ι0, x', w, rfl, .refl hrel, h _ hle⟩
theorem Sim.halt {e : Halt} : Sim P ι (Sem.halt e : Sem α) s' R := by
  intro ι0 H w hle hrel y H1 hy
  cases hy
theorem Sim.of_noRun (h : ∀ (H : World) x H1, s.run P H ≠ .ok x H1) : Sim P ι s s' R := fun ι0 H w hle hrel y H1 hy => absurd hy (h H y H1)
theorem Sim.ite {c : Prop} [Decidable c] {t t' : Sem α} {u u' : Sem β} (h1 : c → Sim P ι t u R) (h2 : ¬ c → Sim P ι t' u' R) : Sim P ι (if c then t else t') (if c then u else u') R := by
  by_cases hc : c
  · simp only [hc, if_true]; exact h1 hc
  · simp only [hc, if_false]; exact h2 hc
end

/-- A program that looks at no memory. -/
def HF (P : Program) {α : Type} (s : Sem α) : Prop := ∀ (H : World) (x : α) (H1 : World), s.run P H = .ok x H1 → H1 = H ∧ ∀ w : World, s.run P w = .ok x w
theorem HF.sim {α : Type} {s : Sem α} (h : HF P s) : Sim P ι s s (fun _ x x' => x = x') := by
  intro ι0 H w hle hrel x H1 hx
  obtain ⟨rfl, hw⟩ := h H x H1 hx
  exact ⟨ι0, x, w, hw w, .refl hrel, rfl⟩
theorem HF.pure {α : Type} (x : α) : HF P (Pure.pure x : Sem α) := fun H y H1 hy => by
  simp only [Sem.run_pure, Result.ok.injEq] at hy
  obtain ⟨rfl, rfl⟩ := hy
  exact ⟨rfl, fun w => rfl⟩
theorem HF.halt {α : Type} (e : Halt) : HF P (Sem.halt e : Sem α) := fun H y H1 hy => by cases hy
theorem HF.stuck {α : Type} (e : String) : HF P (stuck e : Sem α) := HF.halt _
theorem HF.unsupported {α : Type} (e : Unsupported) : HF P (unsupported e : Sem α) := HF.halt _
theorem HF.program : HF P program := fun H y H1 hy => by
  simp only [run_program, Result.ok.injEq] at hy
  obtain ⟨rfl, rfl⟩ := hy
  exact ⟨rfl, fun w => rfl⟩
theorem HF.bind {α β : Type} {s : Sem α} {k : α → Sem β} (h : HF P s) (hk : ∀ x, HF P (k x)) : HF P (s >>= k) := by
  intro H y H1 hy
  simp only [Sem.run_bind] at hy
  cases hs : s.run P H with
  | halt e H1 => rw [hs] at hy; cases hy
  | ok x H2 =>
    rw [hs] at hy
    simp only [Result.andThen_ok] at hy
    obtain ⟨rfl, hw⟩ := h H x H2 hs
    obtain ⟨rfl, hw'⟩ := hk x _ y H1 hy
    exact ⟨rfl, fun w => by simp only [Sem.run_bind, hw w, Result.andThen_ok, hw' w]⟩
theorem HF.ite {α : Type} {c : Prop} [Decidable c] {s t : Sem α} (h : HF P s) (h' : HF P t) : HF P (if c then s else t) := by split <;> assumption
theorem HF.mark (m : Mark) : HF P (mark m) := fun H y H1 hy => by
  simp only [run_mark, Result.ok.injEq] at hy
  obtain ⟨_, rfl⟩ := hy
  exact ⟨rfl, fun w => rfl⟩
theorem HF.underlying (t : TypeId) : HF P (underlying t) := HF.bind .program fun p => by
  split
  · exact .pure _
  · exact .stuck _
theorem HF.typeInfo (t : TypeId) : HF P (typeInfo t) := HF.bind .program fun p => by
  split
  · exact .pure _
  · exact .stuck _
theorem HF.sizeOf (t : TypeId) : HF P (sizeOf t) := (HF.typeInfo t).bind fun i => .pure _
theorem HF.isAgg (t : TypeId) : HF P (isAgg t) := (HF.underlying t).bind fun d => by split <;> exact .pure _
theorem HF.zeroValue (t : TypeId) : HF P (zeroValue t) := (HF.typeInfo t).bind fun d => by
  split
  · exact .pure _
  · exact .unsupported _
theorem HF.asBool (v : Value) : HF P (asBool v) := by cases v <;> first | exact .pure _ | exact .stuck _
theorem HF.asIntOf (v : Value) : HF P (asIntOf v) := by
  cases v with
  | pointer a => cases a <;> first | exact .unsupported _ | exact .stuck _
  | int k n => exact .pure _
  | _ => exact .stuck _
theorem HF.asInt (v : Value) : HF P (asInt v) := (HF.asIntOf v).bind fun _ => .pure _

/-! ### 5. memory's primitives side by side -/
theorem Sim.load {i o : Nat} {r : Loc} (hr : ι i = some r) : Sim P ι (Go.load ⟨i, o, none⟩) (Go.load ⟨r.b, r.base + o, none⟩) VRel := by
  intro ι0 H w hle hrel x H1 hx
  simp only [run_load] at hx ⊢
  cases hc : H.cell? ⟨i, o, none⟩ with
  | some v =>
    rw [hc] at hx
    simp only [Result.ok.injEq] at hx
    obtain ⟨rfl, rfl⟩ := hx
    obtain ⟨v', hv', _, hvr⟩ := hrel.cell (hle _ _ hr) hc
    exact ⟨ι0, v', w, by rw [hv'], .refl hrel, hvr⟩
  | none =>
    rw [hc] at hx
    simp only [World.farLoad] at hx
    split at hx
    · rename_i heq
      split at heq
      · rename_i at_ u hb
        rcases hrel.only _ _ hb with hl | hd
        · cases hl
        · cases hd
      · cases heq
    · cases hx
theorem VRel.oneCell {v v' : Value} (h : VRel ι v v') : v.oneCell' = v'.oneCell' := by cases h <;> rfl
theorem run_store_agg (w : World) (a : Addr) (v : Value) (m : Mode) (h : v.oneCell' = false) : ∃ e, (Go.store a v m).run P w = .halt e w := by
  cases v <;> first | (simp [Value.oneCell'] at h; done) | exact ⟨_, rfl⟩
theorem run_store_some {w : World} {a : Addr} {u v : Value} (h : v.oneCell' = true) (hc : w.cell? a = some u) (hf : w.frozen? a = false) : (Go.store a v).run P w = .ok () (w.setCell a v) := by
  cases v <;> first | (simp [Value.oneCell'] at h; done) | (simp [Go.store, Sem.run, hc, hf])
theorem run_store_ok {w w1 : World} {a : Addr} {v : Value} {x : Unit} (h : (Go.store a v).run P w = .ok x w1) (hview : ∀ at_ u, w.heap[a.block]? ≠ some (.view at_ u)) :
    v.oneCell' = true ∧ (∃ u, w.cell? a = some u) ∧ w.frozen? a = false ∧ w1 = w.setCell a v := by
  cases hv : v.oneCell' with
  | false =>
    obtain ⟨e, he⟩ := run_store_agg (P := P) w a v .plain hv
    rw [he] at h; cases h
  | true =>
    refine ⟨rfl, ?_⟩
    cases hc : w.cell? a with
    | some u =>
      refine ⟨⟨u, rfl⟩, ?_⟩
      cases hf : w.frozen? a with
      | false =>
        rw [run_store_some hv hc hf] at h
        injection h with _ h; exact ⟨rfl, h.symm⟩
      | true => exfalso; cases v <;> first | (simp [Value.oneCell'] at hv; done) | (simp [Go.store, Sem.run, hc, hf] at h)
    | none =>
      exfalso
      have hfar : ∀ b, ∃ e, w.farStore P a v b = .error e := by
        intro b
        unfold World.farStore
        split
        · rename_i at_ u hb; exact absurd hb (hview _ _)
        · exact ⟨_, rfl⟩
      obtain ⟨e, he⟩ := hfar (Mode.plain == Mode.atomic)
      cases v <;> first | (simp [Value.oneCell'] at hv; done) | (simp only [Go.store, Sem.run, hc, he] at h; cases h)
theorem Rel.noView {H w : World} (h : Rel P ι H w) (i : Nat) : ∀ at_ u, H.heap[i]? ≠ some (.view at_ u) := fun at_ u hb => by
  rcases h.only _ _ hb with hl | hd
  · cases hl
  · cases hd
theorem Sim.store {i o : Nat} {r : Loc} (hr : ι i = some r) {v v' : Value} (hv : VRel ι v v') : Sim P ι (Go.store ⟨i, o, none⟩ v) (Go.store ⟨r.b, r.base + o, none⟩ v') (fun _ _ _ => True) := by
  intro ι0 H w hle hrel x H1 hx
  obtain ⟨h1, ⟨u, hu⟩, hfz, rfl⟩ := run_store_ok hx (hrel.noView _)
  obtain ⟨u', hu', hf, _⟩ := hrel.cell (hle _ _ hr) hu
  exact ⟨ι0, (), _, run_store_some (hv.oneCell ▸ h1) hu' (hf hfz), hrel.setCell (hle _ _ hr) hu hfz (hv.mono hle), trivial⟩

end Go.Proofs.YtmmmdmandocbhaaDoor.Den
end

section
/- Each operation goes side by side. -/
set_option linter.unusedVariables false
set_option linter.unusedSimpArgs false
namespace Go.Proofs.YtmmmdmandocbhaaDoor.Den
variable {P : Program} {ι : Emb}

def zeroOk : Value → Bool
  | .tuple cs => cs.all constOk
  | v => constOk v
theorem zeroOk_rel {ι : Emb} {z : Value} (h : zeroOk z = true) : VRel ι z z := by
  unfold zeroOk at h
  split at h
  · rename_i cs
    refine .tuple _ _ rfl fun k v v' hv hv' => ?_
    rw [hv] at hv'; injection hv' with hv'; subst hv'
    obtain ⟨hk, rfl⟩ := Array.getElem?_eq_some_iff.1 hv
    exact constOk_rel (Array.all_eq_true.1 h k hk)
  · exact constOk_rel h
structure Good (P : Program) : Prop where
  zeros : ∀ (t : TypeId) (i : TypeInfo) (z : Value), P.info? t = some i → i.zero = some z → ∀ ι : Emb, VRel ι z z
  mixed : P.follows .mixedOrders = true

theorem add_plain (i o k : Nat) : (⟨i, o, none⟩ : Addr).add k = ⟨i, o + k, none⟩ := by
  unfold Addr.add
  split <;> simp_all

/-! ### 1. rows of cells -/
theorem Sim.loadCellsFrom {i o : Nat} {r : Loc} : ∀ (n k : Nat) (ι : Emb) (acc acc' : Array Value), ι i = some r → ARel ι acc acc' →
    Sim P ι (Go.loadCellsFrom ⟨i, o, none⟩ k n acc) (Go.loadCellsFrom ⟨r.b, r.base + o, none⟩ k n acc') ARel
  | 0, k, ι, acc, acc', hr, ha => by
    unfold Go.loadCellsFrom
    exact .pure fun ι1 hle => ha.mono hle
  | n + 1, k, ι, acc, acc', hr, ha => by
    unfold Go.loadCellsFrom
    rw [add_plain, add_plain, Nat.add_assoc]
    exact (Sim.load hr).bind fun ι1 v v' hle hv => Sim.loadCellsFrom n (k + 1) ι1 _ _ (hle _ _ hr) ((ha.mono hle).push hv)
theorem Sim.loadCells {i o : Nat} {r : Loc} (hr : ι i = some r) (n : Nat) : Sim P ι (Go.loadCells ⟨i, o, none⟩ n) (Go.loadCells ⟨r.b, r.base + o, none⟩ n) ARel :=
  Sim.loadCellsFrom n 0 ι _ _ hr .empty
theorem Sim.loadVar {i o : Nat} {r : Loc} (hr : ι i = some r) (t : TypeId) : Sim P ι (Go.loadVar t ⟨i, o, none⟩) (Go.loadVar t ⟨r.b, r.base + o, none⟩) VRel := by
  unfold Go.loadVar
  refine (HF.isAgg t).sim.bind fun ι1 b b' hle hb => ?_
  subst hb
  refine Sim.ite (fun _ => ?_) (fun _ => Sim.load (hle _ _ hr))
  refine (HF.sizeOf t).sim.bind fun ι2 n n' hle2 hn => ?_
  subst hn
  refine (Sim.loadCells (hle2 _ _ (hle _ _ hr)) n).bind fun ι3 cs cs' hle3 hcs => ?_
  exact .pure fun ι4 hle4 => .agg _ _ (hcs.mono hle4).1 (hcs.mono hle4).2

def VsRel (ι : Emb) (vs vs' : List Value) : Prop := vs.length = vs'.length ∧ ∀ (k : Nat) (v v' : Value), vs[k]? = some v → vs'[k]? = some v' → VRel ι v v'
theorem VsRel.mono {ι ι' : Emb} (hl : ι.le ι') {v v' : List Value} (h : VsRel ι v v') : VsRel ι' v v' := ⟨h.1, fun k a b ha hb => (h.2 k a b ha hb).mono hl⟩
theorem ARel.toList {a a' : Array Value} (h : ARel ι a a') : VsRel ι a.toList a'.toList := ⟨by simpa using h.1, fun k v v' hv hv' => h.2 k v v' (by simpa using hv) (by simpa using hv')⟩
theorem VsRel.cons {v v' : Value} {vs vs' : List Value} (h : VsRel ι (v :: vs) (v' :: vs')) : VRel ι v v' ∧ VsRel ι vs vs' :=
  ⟨h.2 0 v v' rfl rfl, by simpa using h.1, fun k a b ha hb => h.2 (k + 1) a b (by simpa using ha) (by simpa using hb)⟩
theorem Sim.storeCells {i o : Nat} {r : Loc} : ∀ (vs vs' : List Value) (k : Nat) (ι : Emb), ι i = some r → VsRel ι vs vs' →
    Sim P ι (Go.storeCells ⟨i, o, none⟩ vs k) (Go.storeCells ⟨r.b, r.base + o, none⟩ vs' k) (fun _ _ _ => True)
  | [], [], k, ι, hr, h => by
    unfold Go.storeCells
    exact .pure fun _ _ => trivial
  | [], _ :: _, k, ι, hr, h => by simp [VsRel] at h
  | _ :: _, [], k, ι, hr, h => by simp [VsRel] at h
  | v :: vs, v' :: vs', k, ι, hr, h => by
    unfold Go.storeCells
    obtain ⟨h1, h2⟩ := h.cons
    rw [add_plain, add_plain, Nat.add_assoc]
    exact (Sim.store hr h1).bind fun ι1 _ _ hle _ => Sim.storeCells vs vs' (k + 1) ι1 (hle _ _ hr) (h2.mono hle)
theorem Sim.storeVar {i o : Nat} {r : Loc} (hr : ι i = some r) (t : TypeId) {v v' : Value} (hv : VRel ι v v') :
    Sim P ι (Go.storeVar t ⟨i, o, none⟩ v) (Go.storeVar t ⟨r.b, r.base + o, none⟩ v') (fun _ _ _ => True) := by
  unfold Go.storeVar
  refine (HF.sizeOf t).sim.bind fun ι1 n n' hle hn => ?_
  subst hn
  have hs : v.cells.size = v'.cells.size := hv.cells.1
  rw [hs]
  by_cases hc : v'.cells.size ≠ n
  · rw [if_pos hc, if_pos hc]
    exact Sim.bind (R := fun _ _ _ => False) Sim.halt fun _ _ _ _ h => h.elim
  · rw [if_neg hc, if_neg hc]
    exact Sim.storeCells _ _ 0 _ (hle _ _ hr) (hv.mono hle).cells.toList
theorem Sim.newRow (e : TypeId) {cs cs' : Array Value} (hc : ARel ι cs cs') :
    Sim P ι (Go.newRow e cs) (Go.newRow e cs') (fun ι1 a a' => ∃ i r, a = ⟨i, 0, none⟩ ∧ a' = ⟨r.b, 0, none⟩ ∧ ι1 i = some r ∧ r.grown = false ∧ r.base = 0) := by
  intro ι0 H w hle hrel x H1 hx
  simp only [Go.newRow, Sem.run_bind, run_newObj, Result.andThen_ok, Sem.run_pure, Result.ok.injEq] at hx ⊢
  obtain ⟨rfl, rfl⟩ := hx
  exact ⟨_, _, _, ⟨rfl, rfl⟩, hrel.newRow e (hc.mono hle), _, _, rfl, rfl, Emb.put_same _ _ _, rfl, rfl⟩
theorem Sim.newVar (e : TypeId) {v v' : Value} (hv : VRel ι v v') :
    Sim P ι (Go.newVar e v) (Go.newVar e v') (fun ι1 a a' => ∃ i r, a = ⟨i, 0, none⟩ ∧ a' = ⟨r.b, 0, none⟩ ∧ ι1 i = some r ∧ r.grown = false ∧ r.base = 0) :=
  Sim.newRow e hv.cells
theorem Sim.zeroValue (hP : Good P) (t : TypeId) : Sim P ι (Go.zeroValue t) (Go.zeroValue t) VRel := by
  intro ι0 H w hle hrel x H1 hx
  obtain ⟨rfl, hw⟩ := HF.zeroValue t H x H1 hx
  refine ⟨ι0, x, w, hw w, .refl hrel, ?_⟩
  simp only [Go.zeroValue, Go.typeInfo, Sem.run_bind, run_program, Result.andThen_ok] at hx
  cases hi : P.info? t with
  | none => rw [hi] at hx; simp at hx
  | some i =>
    rw [hi] at hx
    simp only [Sem.run_pure, Result.andThen_ok] at hx
    cases hz : i.zero with
    | none => rw [hz] at hx; simp at hx
    | some z =>
      rw [hz] at hx
      simp only [Sem.run_pure, Result.ok.injEq] at hx
      obtain ⟨rfl, _⟩ := hx
      exact hP.zeros t i z hi hz _

/-! ### 2. addresses out of values -/
theorem VRel.pointer_some {a : Addr} {v' : Value} (h : VRel ι (.pointer (some a)) v') : ∃ i o r, a = ⟨i, o, none⟩ ∧ ι i = some r ∧ v' = .pointer (some ⟨r.b, r.base + o, none⟩) := by
  cases h with
  | ptr i o r h => exact ⟨i, o, r, rfl, h, rfl⟩
theorem VRel.addr {v v' : Value} (h : VRel ι v v') : Sim P ι (Instr.sureAddr v) (Instr.sureAddr v') (fun ι1 a a' => ∃ i o r, a = ⟨i, o, none⟩ ∧ ι1 i = some r ∧ a' = ⟨r.b, r.base + o, none⟩) := by
  cases h with
  | ptr i o r h => exact .pure fun ι1 hle => ⟨i, o, r, rfl, hle _ _ h, rfl⟩
  | _ => exact Sim.halt
theorem VRel.intOf {v v' : Value} (h : VRel ι v v') : Sim P ι (asIntOf v) (asIntOf v') (fun _ a a' => a = a') := by
  cases h with
  | int k n => exact .pure fun _ _ => rfl
  | ptr i o r h => exact Sim.halt
  | ptrNil => exact Sim.halt
  | _ => exact Sim.halt
theorem VRel.int' {v v' : Value} (h : VRel ι v v') : Sim P ι (asInt v) (asInt v') (fun _ a a' => a = a') := by
  unfold asInt
  exact h.intOf.bind fun _ a a' _ ha => by subst ha; exact .pure fun _ _ => rfl
theorem VRel.bool' {v v' : Value} (h : VRel ι v v') : Sim P ι (asBool v) (asBool v') (fun _ a a' => a = a') := by
  cases h with
  | bool b => exact .pure fun _ _ => rfl
  | _ => exact Sim.halt
theorem VRel.agg' {v v' : Value} (h : VRel ι v v') : Sim P ι (asAgg v) (asAgg v') ARel := by
  cases h with
  | agg cs cs' hc h => exact .pure fun ι1 hle => (ARel.mono hle ⟨hc, h⟩)
  | _ => exact Sim.halt

/-! ### 3. what never ends well -/
theorem noRun_runtimePanic {α : Type} (e : RuntimeError) (H : World) (x : α) (H1 : World) : (runtimePanic e : Sem α).run P H ≠ .ok x H1 := by
  intro h
  unfold runtimePanic at h
  simp only [Sem.run_bind, run_program, Result.andThen_ok] at h
  cases e <;> simp only [run_goPanic, Sem.run_bind] at h
  all_goals first
    | cases h
    | (unfold elemOf at h
       simp only [Sem.run_bind, Go.underlying, run_program, Result.andThen_ok] at h
       split at h
       · simp only [Sem.run_pure, Result.andThen_ok] at h
         split at h <;> first
           | (simp only [Sem.run_pure, Result.andThen_ok, Go.newVar, Go.newRow, Sem.run_bind, run_newObj, run_goPanic] at h; cases h)
           | (simp only [run_stuck, Result.andThen_halt] at h; cases h)
       · simp only [run_stuck, Result.andThen_halt] at h; cases h)
theorem noRun_bind {α β : Type} {s : Sem α} {k : α → Sem β} (h : ∀ a (H : World) (x : β) (H1 : World), (k a).run P H ≠ .ok x H1) (H : World) (x : β) (H1 : World) : (s >>= k).run P H ≠ .ok x H1 := by
  intro hx
  simp only [Sem.run_bind] at hx
  cases hs : s.run P H with
  | ok a w => rw [hs] at hx; exact h _ _ _ _ hx
  | halt e w => rw [hs] at hx; cases hx
theorem noRun_boundsPanic {α : Type} (k : IntKind) (x y : Int) (c : BoundsCode) (H : World) (v : α) (H1 : World) : (boundsPanic k x y c : Sem α).run P H ≠ .ok v H1 := by
  unfold boundsPanic
  split
  · exact noRun_bind (fun a => noRun_runtimePanic _) _ _ _
  · exact noRun_bind (s := Pure.pure (k != .u64)) (fun a => noRun_runtimePanic _) _ _ _
theorem Sim.runtimePanic {α β : Type} {e : RuntimeError} {s' : Sem β} {R : Emb → α → β → Prop} : Sim P ι (Go.runtimePanic e : Sem α) s' R := .of_noRun fun H x H1 => noRun_runtimePanic e H x H1
theorem Sim.boundsPanic {α β : Type} {k : IntKind} {x y : Int} {c : BoundsCode} {s' : Sem β} {R : Emb → α → β → Prop} : Sim P ι (Go.boundsPanic k x y c : Sem α) s' R := .of_noRun fun H v H1 => noRun_boundsPanic k x y c H v H1
theorem HF.of_noRun {α : Type} {s : Sem α} (h : ∀ (H : World) x H1, s.run P H ≠ .ok x H1) : HF P s := fun H x H1 hx => absurd hx (h H x H1)

end Go.Proofs.YtmmmdmandocbhaaDoor.Den
end

section
/- Each operation goes side by side: the plain ones. -/
set_option linter.unusedVariables false
set_option linter.unusedSimpArgs false
namespace Go.Proofs.YtmmmdmandocbhaaDoor.Den
variable {P : Program} {ι : Emb}

inductive NRel (ι : Emb) : Next → Next → Prop
  | value (v v' : Value) (h : VRel ι v v') : NRel ι (.value v) (.value v')
  | skip : NRel ι .skip .skip
  | enter (f : FuncId) (args args' : Array Value) (h : ARel ι args args') : NRel ι (.enter f args) (.enter f args')
  | round (l : Nat) (r : Loc) (f f' : FuncId) (tmps tmps' : Array Value) (as b : Code) (hl : ι l = some r) (h : ARel ι tmps tmps') : NRel ι (.round l f tmps as b) (.round r.b f' tmps' as b)

def DRel (ι : Emb) (d d' : Deferred) : Prop := ∃ l r, d = { target := .collected l, args := #[] } ∧ ι l = some r ∧ d' = { target := .collected r.b, args := #[] }
inductive DsRel (ι : Emb) : List Deferred → List Deferred → Prop
  | nil : DsRel ι [] []
  | cons (d d' : Deferred) (ds ds' : List Deferred) (h : DRel ι d d') (hs : DsRel ι ds ds') : DsRel ι (d :: ds) (d' :: ds')
theorem DsRel.mono {ι ι' : Emb} (hl : ι.le ι') {d d' : List Deferred} (h : DsRel ι d d') : DsRel ι' d d' := by
  induction h with
  | nil => exact .nil
  | cons d d' ds ds' h _ ih => exact .cons _ _ _ _ (let ⟨l, r, a, b, c⟩ := h; ⟨l, r, a, hl _ _ b, c⟩) ih
structure ActRel (ι : Emb) (a a' : Act) : Prop where
  tmps : ARel ι a.tmps a'.tmps
  defers : DsRel ι a.defers a'.defers
theorem ActRel.mono {ι ι' : Emb} (hl : ι.le ι') {d d' : Act} (h : ActRel ι d d') : ActRel ι' d d' := ⟨h.tmps.mono hl, h.defers.mono hl⟩
theorem ActRel.put {a a' : Act} (h : ActRel ι a a') (dst : Option Tmp) {v v' : Value} (hv : VRel ι v v') : ActRel ι (a.put dst v) (a'.put dst v') := by
  cases dst with
  | none => exact h
  | some d => exact ⟨h.tmps.set d hv, h.defers⟩
theorem VRel.funcId (f : FuncId) : VRel ι (.func (.func f) #[] #[]) (.func (.func f) #[] #[]) :=
  .func _ _ _ _ _ _ (.func f) rfl rfl (fun k v v' h => by simp at h) (fun k v v' h => by simp at h)
theorem ActRel.eval {a a' : Act} (h : ActRel ι a a') {x : Operand} (hx : operandOk x = true) : VRel ι (a.eval x) (a'.eval x) := by
  cases x with
  | tmp t => exact h.tmps.getD t .undef
  | const v => exact constOk_rel hx
  | global g => cases hx
  | func f => exact VRel.funcId f

/-! ### 1. lists of programs -/
theorem Sim.val {s s' : Sem Value} (h : Sim P ι s s' VRel) : Sim P ι (do Pure.pure (Next.value (← s))) (do Pure.pure (Next.value (← s'))) NRel :=
  h.bind fun ι1 v v' hle hv => .pure fun ι2 hle2 => .value _ _ (hv.mono hle2)
theorem Sim.unit {s s' : Sem Unit} (h : Sim P ι s s' (fun _ _ _ => True)) : Sim P ι (do s; Pure.pure Next.skip) (do s'; Pure.pure Next.skip) NRel :=
  h.bind fun ι1 v v' hle hv => .pure fun ι2 hle2 => .skip
theorem HF.listMapM {α β : Type} {f : α → Sem β} (h : ∀ x, HF P (f x)) : ∀ xs : List α, HF P (xs.mapM f)
  | [] => by rw [List.mapM_nil]; exact .pure _
  | x :: xs => by
    rw [List.mapM_cons]
    exact (h x).bind fun y => (HF.listMapM h xs).bind fun ys => .pure _
theorem HF.map {α β : Type} {s : Sem α} (f : α → β) (h : HF P s) : HF P (f <$> s) := by
  intro H y H1 hy
  simp only [Sem.run_map] at hy
  cases hs : s.run P H with
  | halt e H1 => rw [hs] at hy; cases hy
  | ok x H2 =>
    rw [hs] at hy
    simp only [Result.andThen_ok, Result.ok.injEq] at hy
    obtain ⟨rfl, hw⟩ := h H x H2 hs
    obtain ⟨rfl, rfl⟩ := hy
    exact ⟨rfl, fun w => by simp only [Sem.run_map, hw w, Result.andThen_ok]⟩
theorem HF.mapM {α β : Type} {f : α → Sem β} (h : ∀ x, HF P (f x)) (xs : Array α) : HF P (xs.mapM f) := by
  rw [Array.mapM_eq_mapM_toList]
  exact (HF.listMapM h _).map _
theorem VsRel.nil : VsRel ι [] [] := ⟨rfl, fun k v v' h => by simp at h⟩
theorem VsRel.mk {v v' : Value} {vs vs' : List Value} (h : VRel ι v v') (hs : VsRel ι vs vs') : VsRel ι (v :: vs) (v' :: vs') := by
  refine ⟨by simp [hs.1], fun k a b ha hb => ?_⟩
  cases k with
  | zero => simp at ha hb; subst ha hb; exact h
  | succ k => simp at ha hb; exact hs.2 k a b ha hb
theorem VsRel.toArray {vs vs' : List Value} (h : VsRel ι vs vs') : ARel ι vs.toArray vs'.toArray := ⟨by simpa using h.1, fun k v v' hv hv' => h.2 k v v' (by simpa using hv) (by simpa using hv')⟩
theorem Sim.listMapM {α : Type} {f g : α → Sem Value} : ∀ (xs : List α) (ι : Emb), (∀ x ∈ xs, ∀ ι1 : Emb, ι.le ι1 → Sim P ι1 (f x) (g x) VRel) → Sim P ι (xs.mapM f) (xs.mapM g) VsRel
  | [], ι, h => by rw [List.mapM_nil, List.mapM_nil]; exact .pure fun _ _ => .nil
  | x :: xs, ι, h => by
    rw [List.mapM_cons, List.mapM_cons]
    refine (h x (by simp) ι (Emb.le_refl _)).bind fun ι1 v v' hle hv => ?_
    refine (Sim.listMapM xs ι1 fun y hy ι2 hle2 => h y (by simp [hy]) ι2 (Emb.le_trans hle hle2)).bind fun ι2 vs vs' hle2 hvs => ?_
    exact .pure fun ι3 hle3 => .mk (hv.mono (Emb.le_trans hle2 hle3)) (hvs.mono hle3)
theorem Sim.map {α β γ δ : Type} {s : Sem α} {s' : Sem β} {R : Emb → α → β → Prop} {Q : Emb → γ → δ → Prop} (f : α → γ) (g : β → δ) (h : Sim P ι s s' R) (hq : ∀ ι1 x x', ι.le ι1 → R ι1 x x' → Q ι1 (f x) (g x')) :
    Sim P ι (f <$> s) (g <$> s') Q := by
  intro ι0 H w hle hrel y H1 hy
  simp only [Sem.run_map] at hy ⊢
  cases hs : s.run P H with
  | halt e H1 => rw [hs] at hy; cases hy
  | ok x H2 =>
    rw [hs] at hy
    simp only [Result.andThen_ok, Result.ok.injEq] at hy
    obtain ⟨rfl, rfl⟩ := hy
    obtain ⟨ι1, x', w1, hx', hst, hR⟩ := h ι0 H w hle hrel x _ hs
    exact ⟨ι1, g x', w1, by rw [hx']; rfl, hst, hq _ _ _ (Emb.le_trans hle hst.le) hR⟩
theorem Sim.mapM {α : Type} {f g : α → Sem Value} (xs : Array α) (h : ∀ x ∈ xs, ∀ ι1 : Emb, ι.le ι1 → Sim P ι1 (f x) (g x) VRel) : Sim P ι (xs.mapM f) (xs.mapM g) ARel := by
  rw [Array.mapM_eq_mapM_toList, Array.mapM_eq_mapM_toList]
  exact (Sim.listMapM xs.toList ι fun x hx ι1 hle => h x (by simpa using hx) ι1 hle).map _ _ fun ι1 x x' _ hv => hv.toArray

/-! ### 2. aggregates -/
inductive PsRel (ι : Emb) : List (Nat × Value) → List (Nat × Value) → Prop
  | nil : PsRel ι [] []
  | cons (i : Nat) (v v' : Value) (ps ps' : List (Nat × Value)) (h : VRel ι v v') (hs : PsRel ι ps ps') : PsRel ι ((i, v) :: ps) ((i, v') :: ps')
theorem ARel.fold {off : Nat} : ∀ (l l' : List (Value × Nat)) (cs cs' : Array Value), ARel ι cs cs' → (l.map (·.2) = l'.map (·.2)) → (∀ (k : Nat) (v v' : Value × Nat), l[k]? = some v → l'[k]? = some v' → VRel ι v.1 v'.1) →
    ARel ι (l.foldl (fun cs x => cs.setIfInBounds (off + x.2) x.1) cs) (l'.foldl (fun cs x => cs.setIfInBounds (off + x.2) x.1) cs')
  | [], [], cs, cs', h, _, _ => h
  | [], _ :: _, cs, cs', h, he, _ => by simp at he
  | _ :: _, [], cs, cs', h, he, _ => by simp at he
  | (v, j) :: l, (v', j') :: l', cs, cs', h, he, hv => by
    simp only [List.map_cons, List.cons.injEq] at he
    obtain ⟨hj, he⟩ := he
    subst hj
    simp only [List.foldl_cons]
    exact ARel.fold l l' _ _ (h.set _ (hv 0 _ _ rfl rfl)) he fun k a b ha hb => hv (k + 1) a b (by simpa using ha) (by simpa using hb)
theorem zipIdx_rel {cs cs' : Array Value} (h : ARel ι cs cs') {off : Nat} {ds ds' : Array Value} (hd : ARel ι ds ds') :
    ARel ι (cs.zipIdx.foldl (fun cs (c, j) => cs.setIfInBounds (off + j) c) ds) (cs'.zipIdx.foldl (fun cs (c, j) => cs.setIfInBounds (off + j) c) ds') := by
  rw [← Array.foldl_toList, ← Array.foldl_toList]
  refine ARel.fold _ _ _ _ hd ?_ fun k v v' hv hv' => ?_
  · apply List.ext_getElem?
    intro k
    simp only [List.getElem?_map, Array.getElem?_toList, Array.getElem?_zipIdx]
    by_cases hk : k < cs.size
    · have hk' : k < cs'.size := h.1 ▸ hk
      simp [hk, hk']
    · have hk' : ¬ k < cs'.size := h.1 ▸ hk
      simp [hk, hk']
  · simp only [Array.getElem?_toList, Array.getElem?_zipIdx, Option.map_eq_some_iff] at hv hv'
    obtain ⟨x, hx, rfl⟩ := hv
    obtain ⟨x', hx', rfl⟩ := hv'
    exact h.2 k x x' hx hx'
theorem fill_rel {place : Nat → Option (Nat × Nat)} : ∀ (ps ps' : List (Nat × Value)) (cs cs' c : Array Value), PsRel ι ps ps' → ARel ι cs cs' → Instr.fill place cs ps = some c →
    ∃ c', Instr.fill place cs' ps' = some c' ∧ ARel ι c c'
  | [], _, cs, cs', c, hp, hc, h => by
    cases hp
    simp only [Instr.fill, Option.some.injEq] at h ⊢
    subst h
    exact ⟨cs', rfl, hc⟩
  | (i, v) :: ps, _, cs, cs', c, hp, hc, h => by
    cases hp with
    | cons i v v' ps ps' hv hs =>
      simp only [Instr.fill] at h ⊢
      cases hpl : place i with
      | none => rw [hpl] at h; cases h
      | some os =>
        obtain ⟨off, size⟩ := os
        rw [hpl] at h
        simp only at h ⊢
        have hz : v.cells.size = v'.cells.size := hv.cells.1
        rw [← hz, ← hc.1]
        split at h
        · cases h
        · rename_i hcond
          rw [if_neg hcond]
          exact fill_rel ps ps' _ _ c hs (zipIdx_rel hv.cells hc) h
theorem parts_rel {a a' : Act} (ha : ActRel ι a a') {parts : Array (Nat × Operand)} (h : ∀ x ∈ parts.toList.map (·.2), operandOk x = true) :
    PsRel ι (parts.map fun (i, x) => (i, a.eval x)).toList (parts.map fun (i, x) => (i, a'.eval x)).toList := by
  rw [Array.toList_map, Array.toList_map]
  generalize parts.toList = l at h
  induction l with
  | nil => exact .nil
  | cons p l ih =>
    simp only [List.map_cons]
    exact .cons _ _ _ _ _ (ha.eval (h _ (by simp))) (ih fun x hx => h x (by simp only [List.map_cons, List.mem_cons]; exact .inr hx))
theorem PsRel.mono {ι ι' : Emb} (hl : ι.le ι') {p p' : List (Nat × Value)} (h : PsRel ι p p') : PsRel ι' p p' := by
  induction h with
  | nil => exact .nil
  | cons i v v' ps ps' h _ ih => exact .cons _ _ _ _ _ (h.mono hl) ih
theorem Sim.build (hP : Good P) (t : TypeId) {ps ps' : Array (Nat × Value)} (hp : PsRel ι ps.toList ps'.toList) : Sim P ι (Instr.build t ps) (Instr.build t ps') VRel := by
  unfold Instr.build
  refine (Sim.zeroValue hP t).bind fun ι1 z z' hle hz => ?_
  refine (HF.underlying t).sim.bind fun ι2 d d' hle2 hd => ?_
  subst hd
  have hz2 := (hz.mono hle2).cells
  have hp2 := hp.mono (Emb.le_trans hle hle2)
  split
  · rename_i fields
    refine (HF.mapM (fun f => (HF.sizeOf _).bind fun _ => .pure _) fields).sim.bind fun ι3 pl pl' hle3 hpl => ?_
    subst hpl
    cases hf : Instr.fill (fun x => pl[x]?) z.cells ps.toList with
    | none => exact Sim.halt
    | some c =>
      obtain ⟨c', hc', hcr⟩ := fill_rel _ _ _ _ c (hp2.mono hle3) (hz2.mono hle3) hf
      rw [hc']
      exact .pure fun ι4 hle4 => .agg _ _ (hcr.mono hle4).1 (hcr.mono hle4).2
  · rename_i n elem
    refine (HF.sizeOf elem).sim.bind fun ι3 pl pl' hle3 hpl => ?_
    subst hpl
    cases hf : Instr.fill (fun i => some (i * pl, pl)) z.cells ps.toList with
    | none => exact Sim.halt
    | some c =>
      obtain ⟨c', hc', hcr⟩ := fill_rel _ _ _ _ c (hp2.mono hle3) (hz2.mono hle3) hf
      rw [hc']
      exact .pure fun ι4 hle4 => .agg _ _ (hcr.mono hle4).1 (hcr.mono hle4).2
  · exact Sim.halt
end Go.Proofs.YtmmmdmandocbhaaDoor.Den
end

section
/- Slices and pointers that are values: what they come to in the machine's world. -/
set_option linter.unusedVariables false
set_option linter.unusedSimpArgs false
namespace Go.Proofs.YtmmmdmandocbhaaDoor.Den
variable {P : Program} {ι : Emb}

theorem VRel.vs_inv {t : Nat} {xs : Array Value} {v' : Value} (ht : vsT ≤ t) (h : VRel ι (.iface t (.tuple xs)) v') :
    (xs = #[] ∧ ∃ a' c', v' = .slice (some a') 0 c') ∨ ∃ es b o c' cs', t = vsT + es ∧ ι.fz b = some cs' ∧ xs.size ≤ c' ∧ (∀ (k : Nat) (x : Value), xs[k]? = some x → x.cells.size = es) ∧ o + xs.size * es ≤ cs'.size ∧
      (∀ (k j : Nat) (x y y' : Value), xs[k]? = some x → x.cells[j]? = some y → cs'[o + k * es + j]? = some y' → VRel ι y y') ∧ v' = .slice (some ⟨b, o, none⟩) xs.size c' := by
  generalize hv : Value.iface t (.tuple xs) = v at h
  cases h with
  | iface t0 v0 v0' h0 h1 =>
    injection hv with h2 h3
    subst h2
    simp only [vsT] at ht; simp only [rfT] at h0; omega
  | vsE es a' c' =>
    injection hv with h2 h3
    injection h3 with h3
    exact .inl ⟨h3, a', c', rfl⟩
  | vs es xs0 b o c' cs' hp hc hz hb h =>
    injection hv with h2 h3
    injection h3 with h3
    subst h3
    exact .inr ⟨es, b, o, c', cs', h2, hp, hc, hz, hb, h, rfl⟩
  | rf cs b o cs' hp hb h =>
    injection hv with h2 h3
    have h2 : @Eq Nat t rfT := h2; simp only [vsT] at ht; simp only [rfT] at h2; omega
  | _ => cases hv
theorem VRel.rf_inv {xs : Array Value} {v' : Value} (h : VRel ι (.iface rfT (.tuple xs)) v') :
    ∃ b o cs', ι.fz b = some cs' ∧ o + xs.size ≤ cs'.size ∧ (∀ (j : Nat) (y y' : Value), xs[j]? = some y → cs'[o + j]? = some y' → VRel ι y y') ∧ v' = .pointer (some ⟨b, o, none⟩) := by
  generalize hv : Value.iface rfT (.tuple xs) = v at h
  cases h with
  | iface t0 v0 v0' h0 h1 =>
    injection hv with h2 h3
    subst h2
    exact absurd h0 (Nat.lt_irrefl _)
  | vsE es a' c' =>
    injection hv with h2 h3
    have h2 : @Eq Nat rfT (vsT + es) := h2; simp only [vsT, rfT] at h2; omega
  | vs es xs0 b o c' cs' hp hc hz hb h =>
    injection hv with h2 h3
    have h2 : @Eq Nat rfT (vsT + es) := h2; simp only [vsT, rfT] at h2; omega
  | rf cs b o cs' hp hb h =>
    injection hv with h2 h3
    injection h3 with h3
    subst h3
    exact ⟨b, o, cs', hp, hb, h, rfl⟩
  | _ => cases hv

theorem run_loadCellsFrom_row {b off : Nat} {cs' : Array Value} {e : TypeId} {fr : Nat × Nat} {w : World} (hw : w.heap[b]? = some (.cells cs' e fr)) : ∀ (n k : Nat) (acc : Array Value), off + k + n ≤ cs'.size →
    (Go.loadCellsFrom ⟨b, off, none⟩ k n acc).run P w = .ok (acc ++ cs'.extract (off + k) (off + k + n)) w
  | 0, k, acc, h => by
    unfold Go.loadCellsFrom
    simp
    omega
  | n + 1, k, acc, h => by
    unfold Go.loadCellsFrom
    have hlt : off + k < cs'.size := by omega
    rw [add_plain]
    simp only [Sem.run_bind, run_load, cell_of hw, Array.getElem?_eq_getElem hlt, Result.andThen_ok]
    rw [run_loadCellsFrom_row hw n (k + 1) (acc.push cs'[off + k]) (by omega)]
    congr 1
    apply Array.ext_getElem?
    intro i
    simp only [Array.getElem?_append, Array.getElem?_push, Array.size_push, Array.getElem?_extract]
    by_cases h1 : i < acc.size
    · rw [if_pos (by omega), if_neg (by omega), if_pos h1]
    · by_cases h2 : i = acc.size
      · subst h2
        rw [if_pos (by omega), if_pos rfl, if_neg (by omega), if_pos (by omega)]
        rw [Nat.sub_self, Nat.add_zero, Array.getElem?_eq_getElem hlt]
      · rw [if_neg (by omega), if_neg h1]
        have e1 : off + (k + 1) + (i - (acc.size + 1)) = off + k + (i - acc.size) := by omega
        rw [e1]
        by_cases h3 : i - acc.size < n + 1
        · rw [if_pos (by omega), if_pos (by omega)]
        · rw [if_neg (by omega), if_neg (by omega)]
theorem run_loadCells_row {b off n : Nat} {cs' : Array Value} {e : TypeId} {fr : Nat × Nat} {w : World} (hw : w.heap[b]? = some (.cells cs' e fr)) (h : off + n ≤ cs'.size) :
    (Go.loadCells ⟨b, off, none⟩ n).run P w = .ok (cs'.extract off (off + n)) w := by
  unfold Go.loadCells
  rw [run_loadCellsFrom_row hw n 0 #[] (by omega)]
  simp

theorem flat_get {es : Nat} : ∀ (l : List Value), (∀ x ∈ l, x.cells.size = es) → (l.flatMap fun x => x.cells.toList).length = l.length * es ∧
    ∀ (i : Nat) (y : Value), (l.flatMap fun x => x.cells.toList)[i]? = some y → ∃ k j x, l[k]? = some x ∧ x.cells[j]? = some y ∧ i = k * es + j
  | [], h => ⟨by simp, fun i y hy => by simp at hy⟩
  | x :: l, h => by
    obtain ⟨h1, h2⟩ := flat_get l fun y hy => h y (List.mem_cons_of_mem _ hy)
    have hx := h x List.mem_cons_self
    refine ⟨?_, fun i y hy => ?_⟩
    · simp only [List.flatMap_cons, List.length_append, Array.length_toList, h1, hx, List.length_cons, Nat.succ_mul]; omega
    · simp only [List.flatMap_cons] at hy
      rw [List.getElem?_append] at hy
      split at hy
      · exact ⟨0, i, x, rfl, by simpa using hy, by omega⟩
      · rename_i hlt
        obtain ⟨k, j, z, hz, hj, hi⟩ := h2 _ _ hy
        simp only [Array.length_toList, hx] at hlt hi
        refine ⟨k + 1, j, z, by simpa using hz, hj, ?_⟩
        rw [Nat.succ_mul]; omega
theorem vs_cells {xs cs' : Array Value} {es o : Nat} (hz : ∀ (k : Nat) (x : Value), xs[k]? = some x → x.cells.size = es) (hb : o + xs.size * es ≤ cs'.size)
    (h : ∀ (k j : Nat) (x y y' : Value), xs[k]? = some x → x.cells[j]? = some y → cs'[o + k * es + j]? = some y' → VRel ι y y') :
    ARel ι (xs.flatMap Value.cells) (cs'.extract o (o + xs.size * es)) ∧ (xs.flatMap Value.cells).size = xs.size * es := by
  have he : xs.flatMap Value.cells = (xs.toList.flatMap fun x => x.cells.toList).toArray := by
    apply Array.toList_inj.1
    simp
  obtain ⟨h1, h2⟩ := flat_get (es := es) xs.toList fun x hx => by
    obtain ⟨k, hk⟩ := List.getElem?_of_mem hx
    exact hz k x (by simpa using hk)
  have hs : (xs.flatMap Value.cells).size = xs.size * es := by rw [he]; simpa using h1
  refine ⟨⟨?_, fun i v v' hv hv' => ?_⟩, hs⟩
  · rw [hs, Array.size_extract]; omega
  · rw [he] at hv
    obtain ⟨k, j, x, hx, hy, hi⟩ := h2 i v (by simpa using hv)
    rw [Array.getElem?_extract] at hv'
    split at hv'
    · refine h k j x v v' (by simpa using hx) hy ?_
      rw [← hv']; congr 1; omega
    · cases hv'
theorem Rel.pinned {H w : World} (h : Rel P ι H w) {b : Nat} {cs' : Array Value} (hp : ι.fz b = some cs') : ∃ e fr, w.heap[b]? = some (.cells cs' e fr) := (h.fz b cs' hp).1
end Go.Proofs.YtmmmdmandocbhaaDoor.Den
end

section
/- Each operation goes side by side: slices, fields, indexes; the plain ones together. -/
set_option linter.unusedVariables false
set_option linter.unusedSimpArgs false
namespace Go.Proofs.YtmmmdmandocbhaaDoor.Den
variable {P : Program} {ι : Emb}

theorem VRel.self_get {z : Value} {k : Nat} (h : constOk z = true) {v : Value} (hk : z.cells[k]? = some v) : VRel ι v v := by
  obtain ⟨v', hv', hr⟩ := (constOk_rel (ι := ι) h).cells.get hk
  rw [hk] at hv'; injection hv' with hv'; subst hv'; exact hr
theorem default_rel : VRel ι (default : Value) (default : Value) := by
  show VRel ι (.bool default) (.bool default)
  exact .bool _
theorem getBang_rel {cs cs' : Array Value} (h : ARel ι cs cs') (k : Nat) : VRel ι (cs[k]!) (cs'[k]!) := by
  by_cases hk : k < cs.size
  · have hk' : k < cs'.size := h.1 ▸ hk
    rw [getElem!_pos cs k hk, getElem!_pos cs' k hk']
    exact h.2 k _ _ (Array.getElem?_eq_getElem hk) (Array.getElem?_eq_getElem hk')
  · have hk' : ¬ k < cs'.size := h.1 ▸ hk
    rw [getElem!_neg cs k hk, getElem!_neg cs' k hk']
    exact default_rel
theorem zerosRow {cs cs' : Array Value} (h : ARel ι cs cs') (n : Nat) : ARel ι ((Array.range n).map (cs[· % cs.size]!)) ((Array.range n).map (cs'[· % cs'.size]!)) := by
  rw [← h.1]
  exact .map _ _ _ fun k x _ => getBang_rel h _
theorem Sim.zeroCells (hP : Good P) (elem : TypeId) (n : Nat) :
    Sim P ι (if n = 0 then Pure.pure #[] else do Pure.pure (← Go.zeroValue elem).cells) (if n = 0 then Pure.pure #[] else do Pure.pure (← Go.zeroValue elem).cells) ARel := by
  split
  · exact .pure fun _ _ => .empty
  · exact (Sim.zeroValue hP elem).bind fun ι1 z z' hle hz => .pure fun ι2 hle2 => (hz.mono hle2).cells
theorem slok_exact {r : Loc} {n c : Nat} (hg : r.grown = false) (hb : r.base = 0) (h : n ≤ c) : SlOk r 0 n c ⟨r.b, 0, none⟩ c :=
  ⟨h, Nat.le_refl _, .inl (by rw [hb]), fun _ => rfl, fun h' => by rw [hg] at h'; cases h'⟩
def zerosOf (elem : TypeId) (n : Nat) : Sem (Array Value) := if n = 0 then Pure.pure #[] else do Pure.pure (← Go.zeroValue elem).cells
theorem buildSlice_eq (t : TypeId) (len : Nat) (ps : Array (Nat × Value)) : Instr.buildSlice t len ps = (Go.underlying t >>= fun d => match d with
    | .slice elem => Go.sizeOf elem >>= fun size => if len * size > 2 ^ 24 then unsupported (.resourceLimit "buildSlice: more than 2^24 cells") else
        zerosOf elem (len * size) >>= fun zero => match Instr.fill (fun i => some (i * size, size)) ((Array.range (len * size)).map (zero[· % zero.size]!)) ps.toList with
          | some cells => Go.newRow elem cells >>= fun a => Pure.pure (.slice (some a) len len)
          | none => stuck "buildSlice: a part of the wrong size"
    | _ => stuck "buildSlice: slice type expected") := by
  unfold Instr.buildSlice
  congr 1
  funext d
  cases d with
  | slice elem =>
    simp only
    congr 1
    funext size
    by_cases h : len * size > 2 ^ 24
    · rw [if_pos h, if_pos h]; rfl
    · rw [if_neg h, if_neg h]
      unfold zerosOf
      by_cases h0 : len * size = 0
      · rw [if_pos h0, if_pos h0]
        simp only [pure_bind]
        generalize Instr.fill _ _ _ = q
        cases q <;> rfl
      · rw [if_neg h0, if_neg h0]
        simp only [bind_assoc, pure_bind]
        congr 1
        funext z
        generalize Instr.fill _ _ _ = q
        cases q <;> rfl
  | _ => rfl
theorem Sim.zerosOf (hP : Good P) (elem : TypeId) (n : Nat) : Sim P ι (Den.zerosOf elem n) (Den.zerosOf elem n) ARel := Sim.zeroCells hP elem n
theorem Sim.buildSlice (hP : Good P) (t : TypeId) (len : Nat) {ps ps' : Array (Nat × Value)} (hp : PsRel ι ps.toList ps'.toList) : Sim P ι (Instr.buildSlice t len ps) (Instr.buildSlice t len ps') VRel := by
  rw [buildSlice_eq, buildSlice_eq]
  refine (HF.underlying t).sim.bind fun ι1 d d' hle hd => ?_
  subst hd
  cases d with
  | slice elem =>
    refine (HF.sizeOf elem).sim.bind fun ι2 size size' hle2 hs => ?_
    subst hs
    refine Sim.ite (fun _ => Sim.halt) (fun _ => ?_)
    refine (Sim.zerosOf hP elem _).bind fun ι3 z z' hle3 hz => ?_
    cases hf : Instr.fill (fun i => some (i * size, size)) ((Array.range (len * size)).map (z[· % z.size]!)) ps.toList with
    | none => exact Sim.halt
    | some c =>
      obtain ⟨c', hc', hcr⟩ := fill_rel _ _ _ _ c (hp.mono (Emb.le_trans hle (Emb.le_trans hle2 hle3))) (zerosRow hz _) hf
      rw [hc']
      refine (Sim.newRow elem hcr).bind fun ι4 a a' hle4 ⟨i, r, ha, ha', hr, hg, hb⟩ => ?_
      subst ha ha'
      exact .pure fun ι5 hle5 => .sl i 0 len len _ len r (hle5 _ _ hr) (slok_exact hg hb (Nat.le_refl _))
  | _ => exact Sim.halt
theorem makeSlice_eq (t : TypeId) (l c : Value) : Instr.makeSlice t l c = (Go.underlying t >>= fun d => match d with
    | .slice elem => asInt l >>= fun len => asInt c >>= fun cap => Go.typeInfo elem >>= fun inf =>
      let tooLarge (n : Int) : Bool := n < 0 || inf.bytes * n > 2 ^ 48
      if tooLarge (IntKind.i64.wrap cap) || IntKind.i64.wrap len < 0 || IntKind.i64.wrap len > IntKind.i64.wrap cap then
        (if !tooLarge (IntKind.i64.wrap len) then Go.runtimePanic (.error "makeslice: cap out of range")
        else if len < 0 || tooLarge (IntKind.i64.wrap cap) then Go.runtimePanic (.error "makeslice: len out of range")
        else choose (.extern "makeslice.lenOrCap" 2) >>= fun q => Go.runtimePanic (.error (if q == 1 then "makeslice: cap out of range" else "makeslice: len out of range")))
      else askRoom ((IntKind.i64.wrap cap).toNat * inf.bytes) >>= fun _ => Go.sizeOf elem >>= fun size => zerosOf elem ((IntKind.i64.wrap cap).toNat * size) >>= fun zero =>
        Go.newRow elem ((Array.range ((IntKind.i64.wrap cap).toNat * size)).map (zero[· % zero.size]!)) >>= fun a => Pure.pure (.slice (some a) (IntKind.i64.wrap len).toNat (IntKind.i64.wrap cap).toNat)
    | _ => stuck "MakeSlice: slice type expected") := by
  unfold Instr.makeSlice
  congr 1
  funext d
  cases d with
  | slice elem =>
    simp only
    congr 1; funext len; congr 1; funext cap; congr 1; funext inf
    split
    · split
      · rfl
      · split
        · rfl
        · rfl
    · congr 1; funext _; congr 1; funext size
      unfold zerosOf
      split
      · rfl
      · simp only [bind_assoc, pure_bind]
  | _ => rfl
theorem Sim.makeSlice (hP : Good P) (t : TypeId) {l l' c c' : Value} (hl : VRel ι l l') (hc : VRel ι c c') : Sim P ι (Instr.makeSlice t l c) (Instr.makeSlice t l' c') VRel := by
  rw [makeSlice_eq, makeSlice_eq]
  refine (HF.underlying t).sim.bind fun ι1 d d' hle hd => ?_
  subst hd
  cases d with
  | slice elem =>
    refine (hl.mono hle).int'.bind fun ι2 x x' hle2 hx => ?_
    subst hx
    refine (hc.mono (Emb.le_trans hle hle2)).int'.bind fun ι3 y y' hle3 hy => ?_
    subst hy
    refine (HF.typeInfo elem).sim.bind fun ι4 inf inf' hle4 hi => ?_
    subst hi
    simp only
    split
    · refine .of_noRun fun H v H1 => ?_
      split
      · exact noRun_runtimePanic _ _ _ _
      · split
        · exact noRun_runtimePanic _ _ _ _
        · exact noRun_bind (fun _ => noRun_runtimePanic _) _ _ _
    · rename_i hcond
      have hlc : IntKind.i64.wrap x ≤ IntKind.i64.wrap y ∧ 0 ≤ IntKind.i64.wrap x := by
        simp only [Bool.or_eq_true, decide_eq_true_eq, not_or] at hcond
        omega
      refine Sim.bind (HF.sim (s := askRoom _) ?_) fun ι5 _ _ hle5 _ => ?_
      · unfold askRoom; split
        · exact .mark _
        · exact .pure _
      refine (HF.sizeOf elem).sim.bind fun ι6 size size' hle6 hs => ?_
      subst hs
      refine (Sim.zerosOf hP elem _).bind fun ι7 z z' hle7 hz => ?_
      refine (Sim.newRow elem (zerosRow hz _)).bind fun ι8 a a' hle8 ⟨i, r, ha, ha', hr, hg, hb⟩ => ?_
      subst ha ha'
      exact .pure fun ι9 hle9 => .sl i 0 _ _ _ _ r (hle9 _ _ hr) (slok_exact hg hb (by omega))
  | _ => exact Sim.halt
theorem Sim.part {cs cs' : Array Value} (h : ARel ι cs cs') (t : TypeId) (off : Nat) : Sim P ι (Go.part t cs off) (Go.part t cs' off) VRel := by
  unfold Go.part
  refine (HF.isAgg t).sim.bind fun ι1 b b' hle hb => ?_
  subst hb
  refine Sim.ite (fun _ => ?_) (fun _ => ?_)
  · refine (HF.sizeOf t).sim.bind fun ι2 n n' hle2 hn => ?_
    subst hn
    exact .pure fun ι3 hle3 => .agg _ _ ((h.mono (Emb.le_trans hle (Emb.le_trans hle2 hle3))).extract _ _).1 ((h.mono (Emb.le_trans hle (Emb.le_trans hle2 hle3))).extract _ _).2
  · cases hk : cs[off]? with
    | none => exact Sim.halt
    | some v =>
      obtain ⟨v', hv', hr⟩ := h.get hk
      rw [hv']
      exact .pure fun ι2 hle2 => hr.mono (Emb.le_trans hle hle2)
theorem Sim.fieldAt {s : TypeId} {f : Nat} (hf : fieldOk P s f = true) {v v' : Value} (hv : VRel ι v v') : Sim P ι (Instr.fieldAt s v f) (Instr.fieldAt s v' f) VRel := by
  intro ι0 H w hle hrel x H1 hx
  unfold fieldOk at hf
  cases hu : P.underlying s with
  | none => rw [hu] at hf; cases hf
  | some d =>
    rw [hu] at hf
    cases d with
    | struct fs =>
      simp only at hf
      cases hfs : fs[f]? with
      | none => rw [hfs] at hf; cases hf
      | some fl =>
        rw [hfs] at hf
        simp only at hf
        cases hi : P.info? fl.type with
        | none => rw [hi] at hf; cases hf
        | some inf =>
          rw [hi] at hf
          have hsz : inf.size ≠ 0 := by simpa using hf
          have hrun : ∀ (W : World) (a : Addr), (Instr.fieldAt s (.pointer (some a)) f).run P W = .ok (.pointer (some (a.add fl.offset))) W := by
            intro W a
            simp [Instr.fieldAt, Go.underlying, hu, hfs, Instr.sureAddr, fieldPlace, Go.sizeOf, Go.typeInfo, hi, hsz]
          cases hv with
          | ptr i o r h =>
            rw [hrun, add_plain] at hx
            simp only [Result.ok.injEq] at hx
            obtain ⟨rfl, rfl⟩ := hx
            refine ⟨ι0, _, w, hrun w _, .refl hrel, ?_⟩
            rw [add_plain, Nat.add_assoc]
            exact .ptr i _ r (hle _ _ h)
          | _ =>
            exfalso
            simp [Instr.fieldAt, Go.underlying, hu, hfs, Instr.sureAddr] at hx
    | _ => cases hf
theorem Sim.field (t : TypeId) (f : Nat) {v v' : Value} (hv : VRel ι v v') : Sim P ι (Instr.field t v f) (Instr.field t v' f) VRel := by
  unfold Instr.field
  refine (HF.underlying t).sim.bind fun ι1 d d' hle hd => ?_
  subst hd
  split
  · split
    · refine (hv.mono hle).agg'.bind fun ι2 cs cs' hle2 hcs => Sim.part hcs _ _
    · exact Sim.halt
  · exact Sim.halt
theorem Sim.indexAt (t : TypeId) {v v' x x' : Value} (hv : VRel ι v v') (hx : VRel ι x x') : Sim P ι (Instr.indexAt t v x) (Instr.indexAt t v' x') VRel := by
  unfold Instr.indexAt
  refine hx.intOf.bind fun ι1 p p' hle hp => ?_
  subst hp
  obtain ⟨k, i⟩ := p
  refine (HF.underlying t).sim.bind fun ι2 d d' hle2 hd => ?_
  subst hd
  have hv2 := hv.mono (Emb.le_trans hle hle2)
  simp only
  split
  · -- an array's address
    rename_i len elem
    refine hv2.addr.bind fun ι3 a a' hle3 ⟨bi, o, r, ha, hr, ha'⟩ => ?_
    subst ha ha'
    simp only [pure_bind]
    refine (HF.underlying t).sim.bind fun ι4 d d' hle4 hd => ?_
    subst hd
    refine Sim.ite (fun _ => ?_) (fun _ => Sim.ite (fun _ => Sim.halt) (fun _ => Sim.boundsPanic))
    refine (HF.sizeOf elem).sim.bind fun ι5 n n' hle5 hn => ?_
    subst hn
    refine .pure fun ι6 hle6 => ?_
    rw [add_plain, add_plain, Nat.add_assoc]
    exact .ptr bi _ r (hle6 _ _ (hle5 _ _ (hle4 _ _ hr)))
  · -- a slice
    rename_i elem base len cap
    cases hv2 with
    | slNil n c =>
      simp only [pure_bind]
      exact (HF.underlying t).sim.bind fun ι4 d d' hle4 hd => Sim.boundsPanic
    | sl bi o n c a' c' r hr hs =>
      simp only [pure_bind]
      refine (HF.underlying t).sim.bind fun ι4 d d' hle4 hd => ?_
      subst hd
      refine Sim.ite (fun hcond => ?_) (fun _ => Sim.ite (fun _ => Sim.halt) (fun _ => Sim.boundsPanic))
      refine (HF.sizeOf elem).sim.bind fun ι5 n n' hle5 hn => ?_
      subst hn
      refine .pure fun ι6 hle6 => ?_
      obtain ⟨h1, h2, h3, _⟩ := hs
      rcases h3 with rfl | h3
      · rw [add_plain, add_plain, Nat.add_assoc]
        exact .ptr bi _ r (hle6 _ _ (hle5 _ _ (hle4 _ _ hr)))
      · omega
  · exact Sim.halt
theorem Sim.index (t : TypeId) {v v' x x' : Value} (hv : VRel ι v v') (hx : VRel ι x x') : Sim P ι (Instr.index t v x) (Instr.index t v' x') VRel := by
  unfold Instr.index
  refine hx.intOf.bind fun ι1 p p' hle hp => ?_
  subst hp
  obtain ⟨k, i⟩ := p
  refine (HF.underlying t).sim.bind fun ι2 d d' hle2 hd => ?_
  subst hd
  have hv2 := hv.mono (Emb.le_trans hle hle2)
  split
  · rename_i len elem cs
    cases hv2 with
    | agg _ cs' hc h =>
      simp only
      refine Sim.ite (fun _ => ?_) (fun _ => Sim.boundsPanic)
      refine (HF.sizeOf elem).sim.bind fun ι5 n n' hle5 hn => ?_
      subst hn
      exact Sim.part (ARel.mono hle5 ⟨hc, h⟩) _ _
  · rename_i s
    cases hv2
    simp only
    split
    · exact .pure fun _ _ => .int _ _
    · exact Sim.boundsPanic
  · exact Sim.halt
theorem Sim.extract {v v' : Value} (hv : VRel ι v v') (k : Nat) : Sim P ι (Instr.extract v k) (Instr.extract v' k) VRel := by
  cases hv with
  | tuple cs cs' hc h =>
    unfold Instr.extract
    simp only
    cases hk : cs[k]? with
    | none => exact Sim.halt
    | some v =>
      obtain ⟨v', hv', hr⟩ := ARel.get ⟨hc, h⟩ hk
      rw [hv']
      exact .pure fun ι2 hle2 => hr.mono hle2
  | _ => exact Sim.halt
theorem Sim.unary (op : UnOp) {v v' : Value} (hv : VRel ι v v') : Sim P ι (Op.unary op v) (Op.unary op v') VRel := by
  cases hv with
  | int k n =>
    cases op with
    | neg => exact .pure fun _ _ => .int _ _
    | xor => exact .pure fun _ _ => .int _ _
    | _ => exact Sim.halt
  | bool b => cases op <;> first | exact .pure fun _ _ => .bool _ | exact Sim.halt
  | float k n => cases op <;> first | exact .pure fun _ _ => .float _ _ | exact Sim.halt
  | complex k n m => cases op <;> first | exact .pure fun _ _ => .complex _ _ _ | exact Sim.halt
  | _ => cases op <;> exact Sim.halt
theorem Sim.alloc (hP : Good P) (elem : TypeId) : Sim P ι (Instr.alloc elem true (.tuple #[])) (Instr.alloc elem true (.tuple #[])) VRel := by
  unfold Instr.alloc
  refine (Sim.zeroValue hP elem).bind fun ι1 z z' hle hz => ?_
  refine (Sim.newVar elem hz).bind fun ι2 a a' hle2 ⟨i, r, ha, ha', hr, hg, hb⟩ => ?_
  subst ha ha'
  refine .pure fun ι3 hle3 => ?_
  have := VRel.ptr (ι := ι3) i 0 r (hle3 _ _ hr)
  rwa [hb] at this
theorem Sim.box (elem : TypeId) {v v' : Value} (hv : VRel ι v v') : Sim P ι (Instr.box elem v) (Instr.box elem v') VRel := by
  unfold Instr.box
  refine (Sim.newVar elem hv).bind fun ι2 a a' hle2 ⟨i, r, ha, ha', hr, hg, hb⟩ => ?_
  subst ha ha'
  refine .pure fun ι3 hle3 => ?_
  have := VRel.ptr (ι := ι3) i 0 r (hle3 _ _ hr)
  rwa [hb] at this
theorem Sim.loadAt (t : TypeId) {v v' : Value} (hv : VRel ι v v') : Sim P ι (Instr.loadAt t v) (Instr.loadAt t v') VRel := by
  unfold Instr.loadAt
  exact hv.addr.bind fun ι1 a a' hle ⟨i, o, r, ha, hr, ha'⟩ => by subst ha ha'; exact Sim.loadVar hr t
theorem Sim.storeAt (t : TypeId) {v v' x x' : Value} (hv : VRel ι v v') (hx : VRel ι x x') : Sim P ι (Instr.storeAt t v x) (Instr.storeAt t v' x') (fun _ _ _ => True) := by
  unfold Instr.storeAt
  exact hv.addr.bind fun ι1 a a' hle ⟨i, o, r, ha, hr, ha'⟩ => by subst ha ha'; exact Sim.storeVar hr t (hx.mono hle)
theorem Sim.makeMap (t : TypeId) : Sim P ι (Instr.makeMap t none) (Instr.makeMap t none) VRel := by
  intro ι0 H w hle hrel x H1 hx
  simp only [Instr.makeMap, Sem.run_bind, run_newObj, Result.andThen_ok, Sem.run_pure, Result.ok.injEq, pure_bind] at hx ⊢
  obtain ⟨rfl, rfl⟩ := hx
  refine ⟨_, _, _, ⟨rfl, rfl⟩, hrel.new (r := exactLoc w.heap.size 0) rfl rfl (.map #[] #[] 0 rfl fun k e e' h => by simp at h), .map _ _ (Emb.put_same _ _ _)⟩
end Go.Proofs.YtmmmdmandocbhaaDoor.Den
end

section
/- Each operation goes side by side: binary operations. -/
set_option linter.unusedVariables false
set_option linter.unusedSimpArgs false
namespace Go.Proofs.YtmmmdmandocbhaaDoor.Den
variable {P : Program} {ι : Emb}

theorem flat1_constOk1 {v : Value} (h : flat1 v = true) : constOk1 v = true := by
  cases v <;> first | rfl | (simp [flat1] at h; done) | (rename_i a; cases a <;> first | rfl | (simp [flat1] at h; done)) | (rename_i a b c; cases a <;> first | rfl | (simp [flat1] at h; done))
theorem flat_constOk {v : Value} (h : flat v = true) : constOk v = true := by
  cases v with
  | agg cs =>
    simp only [flat, constOk, Array.all_eq_true] at h ⊢
    exact fun i hi => flat1_constOk1 (h i hi)
  | tuple cs => simp [flat, flat1] at h
  | _ => simp only [constOk]; exact flat1_constOk1 (by simpa [flat] using h)
theorem VRel.const_eq1 {v v' : Value} (h : constOk1 v = true) (hr : VRel ι v v') : v' = v := by
  cases hr <;> first | rfl | (simp [constOk1] at h; done)
theorem VRel.const_eq {v v' : Value} (h : constOk v = true) (hr : VRel ι v v') : v' = v := by
  have harr : ∀ cs cs' : Array Value, cs.size = cs'.size → (∀ (k : Nat) (v v' : Value), cs[k]? = some v → cs'[k]? = some v' → VRel ι v v') → cs.all constOk1 = true → cs' = cs := by
    intro cs cs' hc hh hall
    apply Array.ext_getElem?
    intro k
    by_cases hk : k < cs.size
    · have hk' : k < cs'.size := hc ▸ hk
      rw [Array.getElem?_eq_getElem hk, Array.getElem?_eq_getElem hk']
      rw [Array.all_eq_true] at hall
      rw [VRel.const_eq1 (hall k hk) (hh k _ _ (Array.getElem?_eq_getElem hk) (Array.getElem?_eq_getElem hk'))]
    · rw [Array.getElem?_eq_none (by omega), Array.getElem?_eq_none (by omega)]
  cases hr with
  | agg cs cs' hc hh => rw [harr cs cs' hc hh (by simpa [constOk] using h)]
  | tuple cs cs' hc hh => rw [harr cs cs' hc hh (by simpa [constOk] using h)]
  | _ => first | rfl | (simp [constOk, constOk1] at h; done)

def HFp (P : Program) {α : Type} (s : Sem α) (Φ : α → Prop) : Prop := ∀ (H : World) (x : α) (H1 : World), s.run P H = .ok x H1 → H1 = H ∧ Φ x ∧ ∀ w : World, s.run P w = .ok x w
theorem HFp.hf {α : Type} {s : Sem α} {Φ : α → Prop} (h : HFp P s Φ) : HF P s := fun H x H1 hx => let ⟨a, _, c⟩ := h H x H1 hx; ⟨a, c⟩
theorem HF.hfp {α : Type} {s : Sem α} (h : HF P s) : HFp P s (fun _ => True) := fun H x H1 hx => let ⟨a, c⟩ := h H x H1 hx; ⟨a, trivial, c⟩
theorem HFp.pure {α : Type} {x : α} {Φ : α → Prop} (h : Φ x) : HFp P (Pure.pure x : Sem α) Φ := fun H y H1 hy => by
  simp only [Sem.run_pure, Result.ok.injEq] at hy
  obtain ⟨rfl, rfl⟩ := hy
  exact ⟨rfl, h, fun w => rfl⟩
theorem HFp.halt {α : Type} {e : Halt} {Φ : α → Prop} : HFp P (Sem.halt e : Sem α) Φ := fun H y H1 hy => by cases hy
theorem HFp.bind {α β : Type} {s : Sem α} {k : α → Sem β} {Φ : α → Prop} {Ψ : β → Prop} (h : HFp P s Φ) (hk : ∀ x, Φ x → HFp P (k x) Ψ) : HFp P (s >>= k) Ψ := by
  intro H y H1 hy
  simp only [Sem.run_bind] at hy
  cases hs : s.run P H with
  | halt e H1 => rw [hs] at hy; cases hy
  | ok x H2 =>
    rw [hs] at hy
    simp only [Result.andThen_ok] at hy
    obtain ⟨rfl, hΦ, hw⟩ := h H x H2 hs
    obtain ⟨rfl, hΨ, hw'⟩ := hk x hΦ _ y H1 hy
    exact ⟨rfl, hΨ, fun w => by simp only [Sem.run_bind, hw w, Result.andThen_ok, hw' w]⟩
theorem HF.bindp {α β : Type} {s : Sem α} {k : α → Sem β} {Φ : α → Prop} (h : HFp P s Φ) (hk : ∀ x, Φ x → HF P (k x)) : HF P (s >>= k) := (h.bind fun x hx => (hk x hx).hfp).hf
theorem HF.forInL {α β : Type} {f : α → β → Sem (ForInStep β)} (h : ∀ x b, HF P (f x b)) : ∀ (l : List α) (b : β), HF P (forIn l b f)
  | [], b => by rw [List.forIn_nil]; exact .pure _
  | x :: l, b => by
    rw [List.forIn_cons]
    refine (h x b).bind fun s => ?_
    cases s with
    | done b => exact .pure _
    | yield b => exact HF.forInL h l b
theorem HF.forInA {α β : Type} {f : α → β → Sem (ForInStep β)} (h : ∀ x b, HF P (f x b)) (l : Array α) (b : β) : HF P (forIn l b f) := by
  rw [← Array.forIn_toList]; exact HF.forInL h _ _
theorem HF.forInR {β : Type} {f : Nat → β → Sem (ForInStep β)} (h : ∀ x b, HF P (f x b)) (n : Nat) (b : β) : HF P (forIn [0:n] b f) := by
  rw [Std.Legacy.Range.forIn_eq_forIn_range']; exact HF.forInL h _ _

theorem HFp.part (t : TypeId) {cs : Array Value} (off : Nat) (h : cs.all flat1 = true) : HFp P (Go.part t cs off) (fun v => flat v = true) := by
  unfold Go.part
  refine (HF.isAgg t).hfp.bind fun b _ => ?_
  split
  · refine (HF.sizeOf t).hfp.bind fun n _ => .pure ?_
    simp only [flat, Array.all_eq_true] at h ⊢
    intro i hi
    rw [Array.getElem_extract]
    exact h _ _
  · split
    · rename_i v hv
      refine .pure ?_
      rw [Array.all_eq_true] at h
      obtain ⟨hk, rfl⟩ := Array.getElem?_eq_some_iff.1 hv
      have := h off hk
      revert this
      generalize cs[off] = v
      intro hv
      cases v <;> first | exact hv | (simp [flat1] at hv; done)
    · exact .halt

theorem HF.equalIn : ∀ (d : Nat) (t : TypeId) (x y : Value), flat x = true → flat y = true → HF P (Op.equalIn d t x y)
  | 0, t, x, y, hx, hy => HF.unsupported _
  | d + 1, t, x, y, hx, hy => by
    unfold Op.equalIn
    refine (HF.underlying t).bind fun u => ?_
    split
    all_goals first
      | exact .pure _
      | exact .stuck _
      | exact .unsupported _
      | (simp [flat, flat1] at hx; done)
      | (simp [flat, flat1] at hy; done)
      | (exact .ite (.pure _) (.stuck _))
      | skip
    · rename_i a b
      cases a <;> cases b <;> first | exact .pure _ | (simp [flat, flat1] at hx; done) | (simp [flat, flat1] at hy; done)
    · -- structs
      rename_i fields xs ys
      refine HF.bind .program fun p => ?_
      split
      · exact .unsupported _
      · refine HF.bind (HF.forInA (fun f b => ?_) fields _) fun r => ?_
        · split
          · refine HF.bindp (HFp.part _ _ (by simpa [flat] using hx)) fun v hv => HF.bindp (HFp.part _ _ (by simpa [flat] using hy)) fun v' hv' => (HF.equalIn d _ v v' hv hv').bind fun b => ?_
            split <;> exact .pure _
          · exact .pure _
        · rcases r with ⟨_ | b, _⟩ <;> exact .pure _
    · -- arrays
      rename_i len elem xs ys
      refine (HF.sizeOf elem).bind fun n => ?_
      refine HF.bind (HF.forInR (fun i b => ?_) len _) fun r => ?_
      · refine HF.bindp (HFp.part _ _ (by simpa [flat] using hx)) fun v hv => HF.bindp (HFp.part _ _ (by simpa [flat] using hy)) fun v' hv' => (HF.equalIn d _ v v' hv hv').bind fun b => ?_
        split <;> exact .pure _
      · rcases r with ⟨_ | b, _⟩ <;> exact .pure _
theorem HF.eqGuardIn : ∀ (d : Nat) (t : TypeId) (x y : Value), flat x = true → flat y = true → HF P (Op.eqGuardIn d t x y)
  | 0, t, x, y, hx, hy => HF.unsupported _
  | d + 1, t, x, y, hx, hy => by
    unfold Op.eqGuardIn
    refine (HF.underlying t).bind fun u => ?_
    split
    · exact .pure _
    · rename_i fields xs ys
      refine HF.bind (HF.forInA (fun f b => ?_) fields _) fun r => ?_
      · split
        · refine HF.bindp (HFp.part _ _ (by simpa [flat] using hx)) fun v hv => HF.bindp (HFp.part _ _ (by simpa [flat] using hy)) fun v' hv' => (HF.eqGuardIn d _ v v' hv hv').bind fun b => ?_
          split <;> exact .pure _
        · exact .pure _
      · rcases r with ⟨_ | b, _⟩ <;> exact .pure _
    · rename_i len elem xs ys
      refine (HF.sizeOf elem).bind fun n => ?_
      refine HF.bind (HF.forInR (fun i b => ?_) len _) fun r => ?_
      · refine HF.bindp (HFp.part _ _ (by simpa [flat] using hx)) fun v hv => HF.bindp (HFp.part _ _ (by simpa [flat] using hy)) fun v' hv' => (HF.eqGuardIn d _ v v' hv hv').bind fun b => ?_
        split <;> exact .pure _
      · rcases r with ⟨_ | b, _⟩ <;> exact .pure _
    · exact .pure _
theorem HF.eqGuard (op : BinOp) (t : TypeId) (x y : Operand) {a b : Value} (ha : flat a = true) (hb : flat b = true) : HF P (Go.eqGuard op t x y a b) := by
  unfold Go.eqGuard
  cases op <;> first | exact .pure _ | skip
  all_goals
    rw [if_neg (by simp)]
    split
    · refine .ite (.pure _) ((HF.eqGuardIn _ _ _ _ ha hb).bind fun r => .ite (.unsupported _) (.pure _))
    · refine HF.bind .program fun p => HF.bind .program fun q => ?_
      split
      · exact .pure _
      · refine (HF.eqGuardIn _ _ _ _ ha hb).bind fun r => ?_
        split
        · exact .unsupported _
        · exact .pure _
    · exact .pure _
theorem HF.eqGuard_non (op : BinOp) (t : TypeId) (x y : Operand) (a b : Value) (h : isEq op = false) : HF P (Go.eqGuard op t x y a b) := by
  unfold Go.eqGuard
  cases op <;> first | (simp [isEq] at h; done) | exact .pure _
theorem HF.shift (op : BinOp) (k : IntKind) (x : Int) (yk : IntKind) (y : Int) : HF P (Op.shift op k x yk y) := by
  unfold Op.shift
  split
  · exact .of_noRun fun H x H1 => noRun_runtimePanic _ _ _ _
  · cases op <;> first | exact .pure _ | exact .stuck _
theorem HF.intArith (op : BinOp) (k : IntKind) (x y : Int) : HF P (Op.intArith op k x y) := by
  cases op <;> first | exact .pure _ | exact .stuck _
theorem HF.intBits (op : BinOp) (k : IntKind) (x y : Int) : HF P (Op.intBits op k x y) := by
  cases op <;> first | exact .pure _ | exact .stuck _
theorem HF.intCmp (op : BinOp) (x y : Int) : HF P (Op.intCmp op x y) := by
  cases op <;> first | exact .pure _ | exact .stuck _
theorem HF.intDiv (op : BinOp) (k : IntKind) (x y : Int) : HF P (Op.intDiv op k x y) := by
  unfold Op.intDiv
  split
  · exact .of_noRun fun H x H1 => noRun_runtimePanic _ _ _ _
  · cases op <;> first | exact .pure _ | exact .stuck _
theorem HF.stringOp (op : BinOp) (x y : ByteArray) : HF P (Op.stringOp op x y) := by
  unfold Op.stringOp
  cases op with
  | add => exact .ite (.unsupported _) (.pure _)
  | _ => first | exact .pure _ | exact .stuck _
theorem HF.binOp (op : BinOp) (t : TypeId) {x y : Value} (hx : flatFor op x = true) (hy : flatFor op y = true) : HF P (Go.binOp op t x y) := by
  unfold Go.binOp
  split
  all_goals first
    | exact .shift _ _ _ _ _
    | exact .stringOp _ _ _
    | exact .unsupported _
    | exact .stuck _
    | (simp [flatFor, isEq, intOrStr] at hx; done)
    | (simp [flatFor, isEq, intOrStr] at hy; done)
    | skip
  · -- whole numbers
    split
    · exact .stuck _
    · split
      all_goals first | exact .intArith _ _ _ _ | exact .intDiv _ _ _ _ | exact .intBits _ _ _ _ | exact .intCmp _ _ _
  · exfalso; revert hx; unfold flatFor; split <;> intro hx <;> simp [flat, flat1, intOrStr] at hx
  · exfalso; revert hx; unfold flatFor; split <;> intro hx <;> simp [flat, flat1, intOrStr] at hx
  · exact (HF.equalIn _ _ _ _ (by simpa [flatFor, isEq] using hx) (by simpa [flatFor, isEq] using hy)).bind fun b => .pure _
  · exact (HF.equalIn _ _ _ _ (by simpa [flatFor, isEq] using hx) (by simpa [flatFor, isEq] using hy)).bind fun b => .pure _
theorem flatFor_constOk {op : BinOp} {v : Value} (h : flatFor op v = true) : constOk v = true := by
  unfold flatFor at h
  split at h
  · exact flat_constOk h
  · cases v <;> first | rfl | (simp [intOrStr] at h; done)
theorem HF.binAll (op : BinOp) (t : TypeId) (ox oy : Operand) {x y : Value} (hx : flatFor op x = true) (hy : flatFor op y = true) : HF P (do Go.eqGuard op t ox oy x y; Go.binOp op t x y) := by
  refine HF.bind ?_ fun _ => HF.binOp op t hx hy
  cases h : isEq op with
  | true => exact HF.eqGuard op t ox oy (by simpa [flatFor, h] using hx) (by simpa [flatFor, h] using hy)
  | false => exact HF.eqGuard_non op t ox oy x y h
end Go.Proofs.YtmmmdmandocbhaaDoor.Den
end

section
/- Each operation goes side by side: equality of addresses, conversions, maps, lengths. -/
set_option linter.unusedVariables false
set_option linter.unusedSimpArgs false
namespace Go.Proofs.YtmmmdmandocbhaaDoor.Den
variable {P : Program} {ι : Emb}

theorem run_underlying' {t : TypeId} {d : TypeDesc} (h : P.underlying t = some d) (w : World) : (Go.underlying t).run P w = .ok d w := by
  simp [Go.underlying, h]
theorem run_typeInfo' {t : TypeId} {d : TypeInfo} (h : P.info? t = some d) (w : World) : (Go.typeInfo t).run P w = .ok d w := by
  simp [Go.typeInfo, h]
theorem run_sizeOf' {t : TypeId} {d : TypeInfo} (h : P.info? t = some d) (w : World) : (Go.sizeOf t).run P w = .ok d.size w := by
  simp [Go.sizeOf, run_typeInfo' h]
theorem run_zeroValue' {t : TypeId} {d : TypeInfo} {z : Value} (h : P.info? t = some d) (hz : d.zero = some z) (w : World) : (Go.zeroValue t).run P w = .ok z w := by
  simp [Go.zeroValue, run_typeInfo' h, hz]
theorem run_getObj' {w : World} {r : Nat} {o : Obj} (h : w.heap[r]? = some o) (hc : ∀ cs e f, o ≠ .cells cs e f) : (getObj r).run P w = .ok o w := by
  unfold getObj Sem.run
  rw [h]
  cases o <;> first | rfl | exact absurd rfl (hc _ _ _)
theorem run_setObj' {w : World} {r : Nat} {o o1 : Obj} (h : w.heap[r]? = some o) (hc : ∀ cs e f, o ≠ .cells cs e f) : (setObj r o1).run P w = .ok () { w with heap := w.heap.setIfInBounds r o1 } := by
  unfold setObj Sem.run
  rw [h]
  cases o <;> first | rfl | exact absurd rfl (hc _ _ _)

/-! ### 1. equality where addresses take part -/
theorem exactRow_some {H : World} {i : Nat} (h : exactRow H i = true) : ∃ cs e, H.heap[i]? = some (.cells cs e (0, 0)) := by
  unfold exactRow at h
  split at h
  · rename_i cs e hb; exact ⟨_, _, hb⟩
  · cases h
theorem Rel.exact {H w : World} (h : Rel P ι H w) {i : Nat} {r : Loc} (hr : ι i = some r) (he : exactRow H i = true) : ∃ cs e, w.heap[r.b]? = some (.cells cs e (0, 0)) := by
  obtain ⟨cs, e, hb⟩ := exactRow_some he
  obtain ⟨cs', fr', hw, hrow, _⟩ := h.row hr hb
  obtain ⟨_, ⟨_, hfr, _⟩ | ⟨_, hfr, _⟩ | ⟨hfr, _⟩⟩ := hrow
  · exact absurd rfl hfr
  · subst hfr; exact ⟨_, _, hw⟩
  · cases hfr
theorem run_sameAddr {w : World} {a b : Addr} {ca cb : Array Value} {ea eb : TypeId} (ha : w.heap[a.block]? = some (.cells ca ea (0, 0))) (hb : w.heap[b.block]? = some (.cells cb eb (0, 0))) (hne : a.block ≠ b.block) :
    (sameAddr a b).run P w = .ok false w := by
  have hf : ∀ (x : Addr) (c : Array Value) (e : TypeId), w.heap[x.block]? = some (.cells c e (0, 0)) → w.frozen? x = false := fun x c e h => by simp [World.frozen?, h]
  have hf2 : ∀ (x : Addr) (n : Nat) (c : Array Value) (e : TypeId), w.heap[x.block]? = some (.cells c e (0, 0)) → w.frozen? { block := x.block, off := n } = false := fun x n c e h => by simp [World.frozen?, h]
  simp [sameAddr, hne, hf a _ _ ha, hf b _ _ hb, noView, viewAt, World.shape?, ha, hb, mayBeOne, stringish, hf2 a _ _ _ ha, hf2 b _ _ _ hb]
theorem beq_addr (r : Loc) (i o o2 : Nat) : ((⟨r.b, r.base + o, none⟩ : Addr) == ⟨r.b, r.base + o2, none⟩) = ((⟨i, o, none⟩ : Addr) == ⟨i, o2, none⟩) := by
  by_cases h : o = o2
  · subst h; simp
  · have h1 : (⟨r.b, r.base + o, none⟩ : Addr) ≠ ⟨r.b, r.base + o2, none⟩ := by intro e; injection e with _ e; omega
    have h2 : (⟨i, o, none⟩ : Addr) ≠ ⟨i, o2, none⟩ := by intro e; injection e with _ e; exact h e
    rw [beq_eq_false_iff_ne.2 h1, beq_eq_false_iff_ne.2 h2]
theorem eqD_sound {H w : World} (hrel : Rel P ι H w) {t : TypeId} {x x' y y' : Value} {b : Bool} (hx : VRel ι x x') (hy : VRel ι y y') (h : eqD P t x y H = some b) (d : Nat) :
    (Op.equalIn (d + 1) t x' y').run P w = .ok b w := by
  unfold eqD at h
  split at h
  · rename_i e p q hu
    cases hi : P.info? e with
    | none => rw [hi] at h; cases h
    | some inf =>
      rw [hi] at h
      simp only at h
      split at h
      · cases h
      · rename_i hsz
        obtain ⟨i, o, r, hp, hr, rfl⟩ := hx.pointer_some
        obtain ⟨j, o2, r2, hq, hr2, rfl⟩ := hy.pointer_some
        subst hp hq
        simp only [Op.equalIn, Sem.run_bind, run_underlying' hu, Result.andThen_ok, run_sizeOf' hi, ne_eq, hsz, not_false_eq_true, if_true]
        split at h
        · rename_i hb
          simp only at hb; subst hb
          rw [hr] at hr2; injection hr2 with hr2; subst hr2
          injection h with h; subst h
          simp only [sameAddr, beq_self_eq_true, if_true, Sem.run_pure]
          rw [beq_addr]
        · rename_i hb
          split at h
          · rename_i hex
            rw [Bool.and_eq_true] at hex
            injection h with h; subst h
            obtain ⟨c1, e1, hc1⟩ := hrel.exact hr hex.1
            obtain ⟨c2, e2, hc2⟩ := hrel.exact hr2 hex.2
            obtain ⟨k1, f1, hk1⟩ := exactRow_some hex.1
            obtain ⟨k2, f2, hk2⟩ := exactRow_some hex.2
            exact run_sameAddr hc1 hc2 fun hbb => hb (hrel.inj i j _ _ _ _ hk1 rfl hk2 rfl hr hr2 hbb rfl)
          · cases h
  · rename_i e p hu
    injection h with h; subst h
    obtain ⟨i, o, r, hp, hr, rfl⟩ := hx.pointer_some
    cases hy
    simp only [Op.equalIn, Sem.run_bind, run_underlying' hu, Result.andThen_ok, Sem.run_pure]
  · rename_i e p hu
    injection h with h; subst h
    obtain ⟨i, o, r, hp, hr, rfl⟩ := hy.pointer_some
    cases hx
    simp only [Op.equalIn, Sem.run_bind, run_underlying' hu, Result.andThen_ok, Sem.run_pure, Option.isNone_some]
  · rename_i hu
    injection h with h; subst h
    cases hx; cases hy
    simp only [Op.equalIn, Sem.run_bind, run_underlying' hu, Result.andThen_ok, Sem.run_pure, Option.isNone_some]
  · rename_i hu
    injection h with h; subst h
    cases hx; cases hy
    simp only [Op.equalIn, Sem.run_bind, run_underlying' hu, Result.andThen_ok, Sem.run_pure, Option.isNone_some]
  · rename_i hu
    injection h with h; subst h
    cases hx; cases hy
    simp only [Op.equalIn, Sem.run_bind, run_underlying' hu, Result.andThen_ok, Sem.run_pure, Option.isNone_some]
  · rename_i hu
    injection h with h; subst h
    cases hx; cases hy
    simp only [Op.equalIn, Sem.run_bind, run_underlying' hu, Result.andThen_ok, Sem.run_pure, Option.isNone_some]
  · rename_i hu
    injection h with h; subst h
    cases hx; cases hy
    simp only [Op.equalIn, Sem.run_bind, run_underlying' hu, Result.andThen_ok, Sem.run_pure, Option.isNone_some]
  · rename_i hu
    injection h with h; subst h
    cases hx; cases hy
    simp only [Op.equalIn, Sem.run_bind, run_underlying' hu, Result.andThen_ok, Sem.run_pure, Option.isNone_some]
  · cases h

theorem bytes_beq {a b : ByteArray} (h : (a == b) = true) : a = b := by
  cases a; cases b
  rename_i x y
  have : (x == y) = true := h
  rw [eq_of_beq this]
theorem bytes_beq_comm {a b : ByteArray} (h : (a == b) = true) : (b == a) = true := by
  have := bytes_beq h
  subst this; exact h

/-! ### 2. maps -/
def EsRel (ι : Emb) (es es' : Array MapEntry) : Prop := es.size = es'.size ∧ ∀ (k : Nat) (e e' : MapEntry), es[k]? = some e → es'[k]? = some e' → ERel ι e e'
theorem Rel.map {H w : World} (h : Rel P ι H w) {i : Nat} {r : Loc} (hr : ι i = some r) {es : Array MapEntry} {c : Nat} (hb : H.heap[i]? = some (.map es c)) :
    ∃ es', w.heap[r.b]? = some (.map es' c) ∧ EsRel ι es es' := by
  obtain ⟨r', o', hr', hw, ho⟩ := h.obj i _ hb rfl
  rw [hr] at hr'; injection hr' with hr'; subst hr'
  cases ho with
  | map es es' clock hs hh => exact ⟨es', hw, hs, hh⟩
theorem sameNow_rel {v v' : Value} (h : VRel ι v v') (d : TypeDesc) (k : Value) : Instr.sameNow d k v = Instr.sameNow d k v' := by
  cases h <;> first | rfl | (cases d <;> cases k <;> rfl)
def QRel (ι : Emb) : Option (Nat × Value) → Option (Nat × Value) → Prop
  | none, none => True
  | some (a, v), some (b, v') => a = b ∧ VRel ι v v'
  | _, _ => False
theorem findNow_rel (d : TypeDesc) (k : Value) : ∀ (es es' : List MapEntry) (i : Nat), es.length = es'.length → (∀ (j : Nat) (e e' : MapEntry), es[j]? = some e → es'[j]? = some e' → ERel ι e e') →
    ∀ q, Instr.findNow d k es i = some q → ∃ q', Instr.findNow d k es' i = some q' ∧ QRel ι q q'
  | [], [], i, _, _, q, h => by
    simp only [Instr.findNow, Option.some.injEq] at h ⊢
    subst h; exact ⟨none, rfl, trivial⟩
  | [], _ :: _, i, hl, _, q, h => by simp at hl
  | _ :: _, [], i, hl, _, q, h => by simp at hl
  | e :: es, e' :: es', i, hl, hr, q, h => by
    have he := hr 0 e e' rfl rfl
    simp only [Instr.findNow] at h ⊢
    rw [← sameNow_rel he.key d k]
    split at h
    · rename_i hs
      injection h with h; subst h
      exact ⟨_, rfl, rfl, he.val⟩
    · rename_i hs
      exact findNow_rel d k es es' (i + 1) (by simpa using hl) (fun j a b ha hb => hr (j + 1) a b (by simpa using ha) (by simpa using hb)) q h
    · cases h
theorem run_checkKey_succ {kt : TypeId} {d : TypeDesc} (hu : P.underlying kt = some d) (hk : keyKind d = true) (e : Bool) (k : Value) (w : World) (n : Nat) : (Instr.checkKey e (n + 1) kt k).run P w = .ok () w := by
  simp only [Instr.checkKey, Sem.run_bind, run_underlying' hu, Result.andThen_ok]
  cases d <;> first | rfl | (simp [keyKind] at hk; done)
theorem run_checkKey {kt : TypeId} {d : TypeDesc} (hu : P.underlying kt = some d) (hk : keyKind d = true) (e : Bool) (k : Value) (w : World) : (Instr.checkKey e 10000 kt k).run P w = .ok () w :=
  run_checkKey_succ hu hk e k w 9999
theorem findD_sound {kt : TypeId} {k k' : Value} {es es' : Array MapEntry} {q : Option (Nat × Value)} (hk : VRel ι k k') (hes : EsRel ι es es') (h : findD P kt k es = some q) :
    ∃ d q', P.underlying kt = some d ∧ keyKind d = true ∧ k' = k ∧ flat1 k = true ∧ Instr.findNow d k es'.toList 0 = some q' ∧ Instr.findNow d k es.toList 0 = some q ∧ QRel ι q q' := by
  unfold findD at h
  split at h
  · rename_i d hd
    split at h
    · rename_i hc
      rw [Bool.and_eq_true] at hc
      obtain ⟨q', hq', hr⟩ := findNow_rel d k es.toList es'.toList 0 (by simpa using hes.1) (fun j e e' ha hb => hes.2 j e e' (by simpa using ha) (by simpa using hb)) q h
      refine ⟨d, q', hd, hc.1, ?_, hc.2, hq', h, hr⟩
      cases hk <;> first | rfl | (have := hc.2; simp [flat1] at this; done)
    · cases h
  · cases h
theorem run_findKey {kt : TypeId} {d : TypeDesc} (hu : P.underlying kt = some d) {k : Value} {es : List MapEntry} {q : Option (Nat × Value)} (h : Instr.findNow d k es 0 = some q) (w : World) : (Instr.findKey kt k es).run P w = .ok q w := by
  simp only [Instr.findKey, Sem.run_bind, run_underlying' hu, Result.andThen_ok, h, Sem.run_pure]

end Go.Proofs.YtmmmdmandocbhaaDoor.Den
end

section
/- Each operation goes side by side: maps, lengths, conversions, cuts. -/
set_option linter.unusedVariables false
set_option linter.unusedSimpArgs false
namespace Go.Proofs.YtmmmdmandocbhaaDoor.Den
variable {P : Program} {ι : Emb}

/-- What an operation's program must do in the machine's world. -/
def Goes (P : Program) (ι : Emb) (H w : World) (H1 : World) {α β : Type} (s' : Sem β) (R : Emb → α → β → Prop) (x : α) : Prop :=
  ∃ ι1 x' w1, s'.run P w = .ok x' w1 ∧ Step P ι H w ι1 H1 w1 ∧ R ι1 x x'
theorem Goes.here {H w : World} (hrel : Rel P ι H w) {α β : Type} {s' : Sem β} {R : Emb → α → β → Prop} {x : α} {x' : β} (h : s'.run P w = .ok x' w) (hr : R ι x x') : Goes P ι H w H s' R x :=
  ⟨ι, x', w, h, .refl hrel, hr⟩
theorem VRel.pair {v v' u u' : Value} (h : VRel ι v v') (h' : VRel ι u u') : VRel ι (.tuple #[v, u]) (.tuple #[v', u']) := by
  have := (ARel.single h).push h'
  exact .tuple _ _ this.1 this.2

theorem mapOf_sound {H w : World} (hrel : Rel P ι H w) {m m' : Value} {es : Array MapEntry} {c : Nat} (hm : VRel ι m m') (h : mapOf H m = some (es, c)) :
    (m = .map none ∧ m' = .map none ∧ es = #[]) ∨ ∃ i r es', m = .map (some i) ∧ ι i = some r ∧ m' = .map (some r.b) ∧ H.heap[i]? = some (.map es c) ∧ w.heap[r.b]? = some (.map es' c) ∧ EsRel ι es es' := by
  unfold mapOf at h
  split at h
  · injection h with h; injection h with h1 h2; subst h1
    cases hm
    exact .inl ⟨rfl, rfl, rfl⟩
  · split at h
    · rename_i es0 c0 hb
      injection h with h; injection h with h1 h2; subst h1 h2
      cases hm with
      | map i r hr =>
        obtain ⟨es', hw, hes⟩ := hrel.map hr hb
        exact .inr ⟨_, r, es', rfl, hr, rfl, hb, hw, hes⟩
    · cases h
  · cases h
theorem EsRel.empty : EsRel ι #[] #[] := ⟨rfl, fun k e e' h => by simp at h⟩
theorem map_ne_cells {es : Array MapEntry} {c : Nat} : ∀ cs e f, (Obj.map es c) ≠ .cells cs e f := fun _ _ _ h => by cases h

theorem lookup_sound (hP : Good P) {H w : World} (hrel : Rel P ι H w) {t : TypeId} {m m' k k' v : Value} {ok : Bool} (hm : VRel ι m m') (hk : VRel ι k k') (h : lookupD P t m k ok H = some v) :
    Goes P ι H w H (Instr.lookup t m' k' ok) VRel v := by
  unfold lookupD at h
  split at h
  · rename_i kt et es c hu hmo
    split at h
    all_goals first | (cases h; done) | skip
    · rename_i j u hf
      injection h with h; subst h
      rcases mapOf_sound hrel hm hmo with ⟨rfl, rfl, rfl⟩ | ⟨i, r, es', rfl, hr, rfl, hb, hw, hes⟩
      · obtain ⟨d, q', hd, hkd, hke, hfl, hq', hq, hqr⟩ := findD_sound hk EsRel.empty hf
        simp [Instr.findNow] at hq
      · obtain ⟨d, q', hd, hkd, rfl, hfl, hq', hq, hqr⟩ := findD_sound hk hes hf
        cases q' with
        | none => exact hqr.elim
        | some q' =>
          obtain ⟨j', u'⟩ := q'
          obtain ⟨rfl, hu'⟩ := hqr
          refine .here hrel (x' := if ok then .tuple #[u', .bool true] else u') ?_ ?_
          · simp only [Instr.lookup, Sem.run_bind, run_underlying' hu, Result.andThen_ok, run_getObj' hw map_ne_cells, Sem.run_pure, run_checkKey hd hkd, run_findKey hd hq']
          · cases ok
            · exact hu'
            · exact hu'.pair (.bool true)
    · rename_i hf
      cases hi : P.info? et with
      | none => rw [hi] at h; cases h
      | some inf =>
        cases hz : inf.zero with
        | none => rw [hi] at h; simp [hz] at h
        | some z =>
          rw [hi] at h
          simp only [Option.bind_some, hz, Option.map_some, Option.some.injEq] at h
          subst h
          have hzr : VRel ι z z := hP.zeros et inf z hi hz _
          rcases mapOf_sound hrel hm hmo with ⟨rfl, rfl, rfl⟩ | ⟨i, r, es', rfl, hr, rfl, hb, hw, hes⟩
          · obtain ⟨d, q', hd, hkd, rfl, hfl, hq', hq, hqr⟩ := findD_sound hk EsRel.empty hf
            refine .here hrel (x' := if ok then .tuple #[z, .bool false] else z) ?_ ?_
            · simp only [Instr.lookup, Sem.run_bind, run_underlying' hu, Result.andThen_ok, Sem.run_pure, run_checkKey hd hkd, run_findKey hd hq, run_zeroValue' hi hz, pure_bind]
            · cases ok
              · exact hzr
              · exact hzr.pair (.bool false)
          · obtain ⟨d, q', hd, hkd, rfl, hfl, hq', hq, hqr⟩ := findD_sound hk hes hf
            cases q' with
            | some q' => exact hqr.elim
            | none =>
              refine .here hrel (x' := if ok then .tuple #[z, .bool false] else z) ?_ ?_
              · simp only [Instr.lookup, Sem.run_bind, run_underlying' hu, Result.andThen_ok, run_getObj' hw map_ne_cells, Sem.run_pure, run_checkKey hd hkd, run_findKey hd hq', run_zeroValue' hi hz, pure_bind]
              · cases ok
                · exact hzr
                · exact hzr.pair (.bool false)
  · cases h

theorem run_keyStays {d : TypeDesc} {k : Value} {es : Array MapEntry} {j : Nat} {v : Value} (hk : keyKind d = true) (h : Instr.findNow d k es.toList 0 = some (some (j, v))) (w : World) :
    (Instr.keyThatStays (((es[j]?).map (·.key)).getD k) k).run P w = .ok k w := by
  have key : ∀ (l : List MapEntry) (i : Nat), Instr.findNow d k l i = some (some (j, v)) → ∃ e, i ≤ j ∧ l[j - i]? = some e ∧ Instr.sameNow d k e.key = some true := by
    intro l
    induction l with
    | nil => intro i h; simp [Instr.findNow] at h
    | cons e l ih =>
      intro i h
      simp only [Instr.findNow] at h
      split at h
      · rename_i hs
        simp only [Option.some.injEq, Prod.mk.injEq] at h
        obtain ⟨rfl, _⟩ := h
        exact ⟨e, Nat.le_refl _, by simp, hs⟩
      · obtain ⟨e', hle, he', hs'⟩ := ih (i + 1) h
        refine ⟨e', by omega, ?_, hs'⟩
        have : j - i = (j - (i + 1)) + 1 := by omega
        rw [this]; simpa using he'
      · cases h
  obtain ⟨e, _, he, hs⟩ := key _ _ h
  have he' : es[j]? = some e := by simpa using he
  rw [he']
  simp only [Option.map_some, Option.getD_some, Instr.keyThatStays]
  have hb : Instr.sameBits 10000 e.key k = true := by
    unfold Instr.sameNow at hs
    split at hs
    · rename_i a kk b heq
      split at hs
      · rename_i hkk
        simp only [Option.some.injEq, beq_iff_eq] at hs
        rw [heq]
        simp [Instr.sameBits, hkk, hs]
      · cases hs
    · rename_i a b heq
      simp only [Option.some.injEq] at hs
      rw [heq]; exact bytes_beq_comm hs
    · rename_i a b heq
      simp only [Option.some.injEq, beq_iff_eq] at hs
      rw [heq]; simp [Instr.sameBits, hs]
    · cases hs
  simp [hb]
theorem Rel.setMap {H w : World} (h : Rel P ι H w) {i : Nat} {r : Loc} {es es' es1 es1' : Array MapEntry} {c c1 : Nat} (hr : ι i = some r) (hb : H.heap[i]? = some (.map es c)) (he : EsRel ι es1 es1') :
    Step P ι H w ι (setMap H i es1 c1) { w with heap := w.heap.setIfInBounds r.b (.map es1' c1) } :=
  h.setObj hr hb rfl rfl rfl (.map _ _ _ he.1 he.2)
theorem EsRel.modify {es es' : Array MapEntry} (h : EsRel ι es es') (i : Nat) {k v v' : Value} (hk : VRel ι k k) (hv : VRel ι v v') :
    EsRel ι (es.modify i fun e => { e with key := k, val := v }) (es'.modify i fun e => { e with key := k, val := v' }) := by
  refine ⟨by simp [h.1], fun j e e' he he' => ?_⟩
  rw [Array.getElem?_modify] at he he'
  by_cases hij : i = j
  · rw [if_pos hij] at he he'
    rw [Option.map_eq_some_iff] at he he'
    obtain ⟨a, ha, rfl⟩ := he
    obtain ⟨a', ha', rfl⟩ := he'
    have := h.2 j a a' ha ha'
    exact ⟨hk, hv, this.born⟩
  · rw [if_neg hij] at he he'
    exact h.2 j e e' he he'
theorem EsRel.push {es es' : Array MapEntry} (h : EsRel ι es es') {e e' : MapEntry} (he : ERel ι e e') : EsRel ι (es.push e) (es'.push e') := by
  refine ⟨by simp [h.1], fun k a b ha hb => ?_⟩
  rw [Array.getElem?_push] at ha hb
  by_cases hk : k = es.size
  · rw [if_pos hk] at ha
    rw [if_pos (by rw [← h.1]; exact hk)] at hb
    injection ha with ha; injection hb with hb
    subst ha hb; exact he
  · rw [if_neg hk] at ha
    rw [if_neg (by rw [← h.1]; exact hk)] at hb
    exact h.2 k a b ha hb
theorem EsRel.erase {es es' : Array MapEntry} (h : EsRel ι es es') (i : Nat) : EsRel ι (es.eraseIdxIfInBounds i) (es'.eraseIdxIfInBounds i) := by
  have hsz : ∀ xs : Array MapEntry, (xs.eraseIdxIfInBounds i).toList = xs.toList.eraseIdx i := fun xs => by simp [Array.eraseIdxIfInBounds]; split <;> simp_all [List.eraseIdx_of_length_le]
  have hl : (es.eraseIdxIfInBounds i).size = (es'.eraseIdxIfInBounds i).size := by
    rw [← Array.length_toList, ← Array.length_toList, hsz, hsz, List.length_eraseIdx, List.length_eraseIdx]
    simp [h.1]
  refine ⟨hl, fun k a b ha hb => ?_⟩
  rw [← Array.getElem?_toList, hsz, List.getElem?_eraseIdx] at ha hb
  split at ha
  · rename_i hk; rw [if_pos hk] at hb; exact h.2 k a b (by simpa using ha) (by simpa using hb)
  · rename_i hk; rw [if_neg hk] at hb; exact h.2 _ a b (by simpa using ha) (by simpa using hb)

theorem mapUpdate_sound {H w H1 : World} (hrel : Rel P ι H w) {t : TypeId} {m m' k k' v v' : Value} (hm : VRel ι m m') (hk : VRel ι k k') (hv : VRel ι v v') (h : mapUpdateD P t m k v H = some H1) :
    Goes P ι H w H1 (Instr.mapUpdate t m' k' v') (fun _ _ _ => True) () := by
  unfold mapUpdateD at h
  split at h
  · rename_i kt et r0 es c hu hmo
    rcases mapOf_sound hrel hm hmo with ⟨hmm, _⟩ | ⟨i, r, es', hmm, hr, rfl, hb, hw, hes⟩
    · cases hmm
    · injection hmm with hmm; injection hmm with hmm; subst hmm
      split at h
      · rename_i j u hf
        injection h with h; subst h
        obtain ⟨d, q', hd, hkd, rfl, hfl, hq', hq, hqr⟩ := findD_sound hk hes hf
        cases q' with
        | none => exact hqr.elim
        | some q' =>
          obtain ⟨j', u'⟩ := q'
          obtain ⟨rfl, hu'⟩ := hqr
          refine ⟨ι, (), _, ?_, hrel.setMap hr hb (hes.modify j hk hv) (es := es) (es' := es'), trivial⟩
          simp only [Instr.mapUpdate, Sem.run_bind, run_underlying' hu, Result.andThen_ok, run_getObj' hw map_ne_cells, run_checkKey hd hkd, run_findKey hd hq', run_keyStays hkd hq', run_setObj' hw map_ne_cells]
      · rename_i hf
        injection h with h; subst h
        obtain ⟨d, q', hd, hkd, rfl, hfl, hq', hq, hqr⟩ := findD_sound hk hes hf
        cases q' with
        | some q' => exact hqr.elim
        | none =>
          refine ⟨ι, (), _, ?_, hrel.setMap hr hb (hes.push (e' := { key := k', val := v', born := c }) ⟨hk, hv, rfl⟩) (es := es) (es' := es') (c1 := c + 1), trivial⟩
          simp only [Instr.mapUpdate, Sem.run_bind, run_underlying' hu, Result.andThen_ok, run_getObj' hw map_ne_cells, run_checkKey hd hkd, run_findKey hd hq', run_setObj' hw map_ne_cells]
      · cases h
  · cases h
theorem delete_sound {H w H1 : World} (hrel : Rel P ι H w) {t ty : TypeId} {m m' k k' : Value} {ts : Array TypeId} (ht : ts[0]? = some t) (hm : VRel ι m m') (hk : VRel ι k k') (h : deleteD P t m k H = some H1) :
    Goes P ι H w H1 (Builtin.delete_ ts ty #[m', k']) VRel (.tuple #[]) := by
  unfold deleteD at h
  split at h
  · rename_i kt et hu
    split at h
    · rename_i d hd
      split at h
      · rename_i hkd
        injection h with h; subst h
        cases hm
        refine .here hrel (x' := .tuple #[]) ?_ .undef
        simp [Builtin.delete_, ht, run_underlying' hu, run_checkKey hd hkd]
      · cases h
    · cases h
  · rename_i kt et r0 es c hu hmo
    rcases mapOf_sound hrel hm hmo with ⟨hmm, _⟩ | ⟨i, r, es', hmm, hr, rfl, hb, hw, hes⟩
    · cases hmm
    · injection hmm with hmm; injection hmm with hmm; subst hmm
      split at h
      · rename_i j u hf
        injection h with h; subst h
        obtain ⟨d, q', hd, hkd, rfl, hfl, hq', hq, hqr⟩ := findD_sound hk hes hf
        cases q' with
        | none => exact hqr.elim
        | some q' =>
          obtain ⟨j', u'⟩ := q'
          obtain ⟨rfl, hu'⟩ := hqr
          refine ⟨ι, _, _, ?_, hrel.setMap hr hb (hes.erase j) (es := es) (es' := es'), .undef⟩
          simp [Builtin.delete_, ht, run_underlying' hu, run_checkKey hd hkd, run_getObj' hw map_ne_cells, run_findKey hd hq', run_setObj' hw map_ne_cells]
          rfl
      · rename_i hf
        injection h with h; subst h
        obtain ⟨d, q', hd, hkd, rfl, hfl, hq', hq, hqr⟩ := findD_sound hk hes hf
        cases q' with
        | some q' => exact hqr.elim
        | none =>
          refine ⟨ι, _, _, ?_, hrel.setMap hr hb hes (es := es) (es' := es') (c1 := c), .undef⟩
          simp [Builtin.delete_, ht, run_underlying' hu, run_checkKey hd hkd, run_getObj' hw map_ne_cells, run_findKey hd hq', run_setObj' hw map_ne_cells]
          rfl
      · cases h
  · cases h
theorem clear_sound {H w H1 : World} (hrel : Rel P ι H w) {t ty : TypeId} {m m' : Value} (hm : VRel ι m m') (h : clearD P t m H = some H1) :
    Goes P ι H w H1 (Builtin.clear_ #[t] ty #[m']) VRel (.tuple #[]) := by
  unfold clearD at h
  split at h
  · rename_i hu
    injection h with h; subst h
    cases hm
    refine .here hrel (x' := .tuple #[]) ?_ .undef
    simp [Builtin.clear_, run_underlying' hu]
  · rename_i kt et r0 es c hu hmo
    injection h with h; subst h
    rcases mapOf_sound hrel hm hmo with ⟨hmm, _⟩ | ⟨i, r, es', hmm, hr, rfl, hb, hw, hes⟩
    · cases hmm
    · injection hmm with hmm; injection hmm with hmm; subst hmm
      refine ⟨ι, _, _, ?_, hrel.setMap hr hb EsRel.empty (es := es) (es' := es') (c1 := c), .undef⟩
      simp [Builtin.clear_, run_underlying' hu, run_getObj' hw map_ne_cells, run_setObj' hw map_ne_cells]
      rfl
  · cases h
theorem len_sound {H w : World} (hrel : Rel P ι H w) {t ty : TypeId} {x x' : Value} {n : Int} (hx : VRel ι x x') (h : lenD P t x H = some n) :
    (Builtin.len_ #[t] ty #[x']).run P w = .ok (goInt n) w := by
  unfold lenD at h
  split at h
  · rename_i s hu
    injection h with h; subst h
    cases hx
    simp [Builtin.len_, run_underlying' hu]
  · rename_i k e hu
    injection h with h; subst h
    simp only [Builtin.len_, List.getElem?_toArray, List.getElem?_cons_zero, Sem.run_bind, run_underlying' hu, Result.andThen_ok]
    cases x' <;> rfl
  · rename_i arr hu
    split at h
    · rename_i k e hu2
      injection h with h; subst h
      simp only [Builtin.len_, List.getElem?_toArray, List.getElem?_cons_zero, Sem.run_bind, run_underlying' hu, Result.andThen_ok]
      cases x' <;> simp [run_underlying' hu2]
    · cases h
  · rename_i e n c hu
    injection h with h; subst h
    cases hx <;> simp [Builtin.len_, run_underlying' hu]
  · rename_i kt et hu
    rw [Option.map_eq_some_iff] at h
    obtain ⟨⟨es, c⟩, hmo, hp⟩ := h
    subst hp
    rcases mapOf_sound hrel hx hmo with ⟨rfl, rfl, rfl⟩ | ⟨i, r, es', rfl, hr, rfl, hb, hw, hes⟩
    · simp [Builtin.len_, run_underlying' hu]
    · simp [Builtin.len_, run_underlying' hu, run_getObj' hw map_ne_cells, hes.1]
  · cases h
end Go.Proofs.YtmmmdmandocbhaaDoor.Den
end

section
/- Each operation goes side by side: conversions, cuts. -/
set_option linter.unusedVariables false
set_option linter.unusedSimpArgs false
namespace Go.Proofs.YtmmmdmandocbhaaDoor.Den
variable {P : Program} {ι : Emb}

theorem push_modify (h : Array Obj) (o : Obj) (f : Obj → Obj) : (h.push o).modify h.size f = h.push (f o) := by
  apply Array.ext_getElem?
  intro i
  rw [Array.getElem?_modify, Array.getElem?_push, Array.getElem?_push]
  by_cases hi : i = h.size
  · subst hi; simp
  · have : ¬ h.size = i := fun e => hi e.symm
    simp [hi, this]
theorem cut_append (need old : Nat) (e : TypeId) (t : Nat) : need ≤ (Question.appendCap need old e).cut t := by
  show need ≤ need + t % _
  exact Nat.le_add_right _ _
theorem bytesOf_size (s : ByteArray) : (bytesOf s).size = s.size := by
  unfold bytesOf
  rw [Array.size_map]
  rfl
theorem arel_bytes (s : ByteArray) : ARel ι (bytesOf s) (bytesOf s) := .map _ _ _ fun _ _ _ => .int _ _

theorem run_stringToBytes (e : TypeId) (s : ByteArray) (w : World) : ∃ cap n, s.size ≤ cap ∧ (Conv.stringToBytes e s).run P w =
    .ok (.slice (some ⟨w.heap.size, 0, none⟩) s.size cap) { w with drawn := n, heap := w.heap.push (.cells (bytesOf s ++ Array.replicate (cap - s.size) (Value.int .u8 0)) e (cap, cap + 1)) } := by
  refine ⟨(Question.appendCap s.size 0 e).cut (w.tape w.drawn (.appendCap s.size 0 e)), w.drawn + 1, cut_append _ _ _ _, ?_⟩
  have hle := cut_append s.size 0 e (w.tape w.drawn (.appendCap s.size 0 e))
  generalize hcap : (Question.appendCap s.size 0 e).cut (w.tape w.drawn (.appendCap s.size 0 e)) = cap at hle
  have hsz : (bytesOf s ++ Array.replicate (cap - s.size) (Value.int .u8 0)).size = cap := by
    simp [bytesOf_size]; omega
  simp only [Conv.stringToBytes, Sem.run_bind, run_choose, Question.forced, hcap, Go.newRow, run_newObj, Result.andThen_ok, Sem.run_pure, markStringish, run_shape, World.shape?, Bool.false_eq_true, if_false, Array.getElem?_push_size]
  simp only [run_freeze, Result.andThen_ok, World.freeze]
  have hsz' : (Array.map (fun b : UInt8 => Value.int .u8 (b.toNat : Int)) s.data ++ Array.replicate (cap - s.size) (Value.int .u8 0)).size = cap := hsz
  simp only [hsz']
  congr 2
  rw [if_neg (by omega), push_modify]
  simp [bytesOf]

theorem convD_sound {H w H1 : World} (hrel : Rel P ι H w) {src dst : TypeId} {x x' v : Value} (hx : VRel ι x x') (h : convD P src dst x H = some (v, H1)) :
    Goes P ι H w H1 (Go.convert src dst x') VRel v := by
  unfold convD at h
  split at h
  · rename_i d k kk n hu1 hu2
    simp only [Option.some.injEq, Prod.mk.injEq] at h
    obtain ⟨rfl, rfl⟩ := h
    cases hx
    exact .here hrel (x' := .int k (k.wrap n)) (by simp [Go.convert, run_underlying' hu1, run_underlying' hu2, Conv.intToInt]) (.int _ _)
  · rename_i d s hu1 hu2
    simp only [Option.some.injEq, Prod.mk.injEq] at h
    obtain ⟨rfl, rfl⟩ := h
    cases hx
    exact .here hrel (x' := .string s) (by simp [Go.convert, run_underlying' hu1, run_underlying' hu2]) (.string _)
  · rename_i d e s hu1 hu2
    split at h
    · rename_i inf hue hi
      split at h
      · rename_i hsz
        simp only [Option.some.injEq, Prod.mk.injEq] at h
        obtain ⟨rfl, rfl⟩ := h
        cases hx
        obtain ⟨cap, n, hle, hrun⟩ := run_stringToBytes (P := P) e s w
        have hrel2 := hrel.drawn n
        refine ⟨_, _, _, by simpa [Go.convert, run_underlying' hu1, run_underlying' hu2, run_underlying' hue] using hrun, (Step.drawn hrel n).trans (hrel2.new (r := ⟨w.heap.size, 0, s.size, cap, 1, true⟩) (o' := .cells (bytesOf s ++ Array.replicate (cap - s.size) (Value.int .u8 0)) e (cap, cap + 1)) rfl rfl ?_), .sl _ _ _ _ _ _ ⟨w.heap.size, 0, s.size, cap, 1, true⟩ (Emb.put_same _ _ _) ?_⟩
        · refine .cells _ _ e _ _ ⟨by rw [bytesOf_size], .inr (.inr ⟨rfl, fun k hk => ?_, rfl, ?_, by rw [bytesOf_size]; exact hle, inf, hi, hsz, by simp⟩)⟩ fun k v hk => ?_
          · simp [bytesOf_size] at hk; simp only; omega
          · simp [bytesOf_size]; omega
          · refine ⟨v, ?_, ?_⟩
            · simp only [Nat.zero_add]
              rw [Array.getElem?_append_left (Array.getElem?_eq_some_iff.1 hk).1]; exact hk
            · obtain ⟨v', hv', hr⟩ := (arel_bytes (ι := ι.put H.heap.size ⟨w.heap.size, 0, s.size, cap, 1, true⟩) s).get hk
              rw [hk] at hv'; injection hv' with hv'; subst hv'; exact hr
        · exact ⟨Nat.le_refl _, hle, .inl (by simp), (fun h => by cases h), fun _ => ⟨.inr (by simp), by simp⟩⟩
      · cases h
    · cases h
  · rename_i e a n c hu1 hu2
    split at h
    · rename_i hue
      have hsim : Sim P ι (Conv.bytesToString (.slice a n c)) (Conv.bytesToString x') VRel := by
        cases hx with
        | slNil n c => exact .pure fun _ _ => .string _
        | sl i o n c a' c' r hr hs =>
          unfold Conv.bytesToString
          simp only
          refine Sim.bind (R := fun ι1 cs cs' => ARel ι1 cs cs') ?_ fun ι1 cs cs' hle hcs => ?_
          · by_cases hn : n = 0
            · subst hn
              exact .pure fun _ _ => .empty
            · obtain ⟨h1, h2, h3, _⟩ := hs
              rcases h3 with rfl | h3
              · exact Sim.loadCells hr n
              · omega
          · -- the cells are whole numbers: the same ones
            rw [← Array.forIn_toList, ← Array.forIn_toList]
            have key : ∀ (l l' : List Value) (s : ByteArray) (ι : Emb), VsRel ι l l' → Sim P ι
                (forIn l s fun c s => match c with | .int .u8 n => Pure.pure (ForInStep.yield (s.push (UInt8.ofNat n.toNat))) | _ => stuck "bytesToString: byte expected")
                (forIn l' s fun c s => match c with | .int .u8 n => Pure.pure (ForInStep.yield (s.push (UInt8.ofNat n.toNat))) | _ => stuck "bytesToString: byte expected") (fun _ a b => a = b) := by
              intro l
              induction l with
              | nil =>
                intro l' s ι hl
                cases l' with
                | nil => exact .pure fun _ _ => rfl
                | cons _ _ => simp [VsRel] at hl
              | cons v l ih =>
                intro l' s ι hl
                cases l' with
                | nil => simp [VsRel] at hl
                | cons v' l' =>
                  obtain ⟨hv, hl2⟩ := hl.cons
                  rw [List.forIn_cons, List.forIn_cons]
                  cases hv with
                  | int k n => cases k <;> first | exact Sim.halt | exact ih l' _ ι hl2
                  | _ => exact Sim.halt
            exact (key cs.toList cs'.toList .empty ι1 hcs.toList).bind fun ι2 s s' hle2 hs => by subst hs; exact .pure fun _ _ => .string _
      unfold okRun at h
      split at h
      · rename_i v0 w0 hr0
        simp only [Option.some.injEq, Prod.mk.injEq] at h
        obtain ⟨rfl, rfl⟩ := h
        obtain ⟨ι1, v', w1, hv', hst, hvr⟩ := hsim ι H w (Emb.le_refl _) hrel _ _ hr0
        refine ⟨ι1, v', w1, ?_, hst, hvr⟩
        cases hx <;> simp [Go.convert, run_underlying' hu1, run_underlying' hu2, run_underlying' hue] <;> exact hv'
      · cases h
    · cases h
  · cases h

/-! ### cuts -/
theorem sliceBound_run {x : Value} {y : Nat} {code : BoundsCode} {H H1 : World} {i : Nat} (h : (Instr.sliceBound x y code).run P H = .ok i H1) : ∃ k v, x = .int k v ∧ 0 ≤ v ∧ v ≤ y ∧ i = v.toNat ∧ H1 = H := by
  unfold Instr.sliceBound at h
  simp only [Sem.run_bind] at h
  cases x with
  | int k v =>
    simp only [asIntOf, Sem.run_pure, Result.andThen_ok] at h
    split at h
    · rename_i hc
      simp only [Sem.run_pure, Result.ok.injEq] at h
      exact ⟨k, v, rfl, hc.1, hc.2, h.1.symm, h.2.symm⟩
    · exact absurd h (noRun_boundsPanic _ _ _ _ _ _ _)
  | pointer a => cases a <;> simp [asIntOf] at h
  | _ => simp [asIntOf] at h
theorem sliceBound_ok {k : IntKind} {v : Int} {y : Nat} (code : BoundsCode) (h0 : 0 ≤ v) (h1 : v ≤ y) (w : World) : (Instr.sliceBound (.int k v) y code).run P w = .ok v.toNat w := by
  unfold Instr.sliceBound
  simp [asIntOf, h0, h1]
def OptRel (ι : Emb) : Option Value → Option Value → Prop
  | none, none => True
  | some a, some b => VRel ι a b
  | _, _ => False
theorem sliceBounds_sound {isS : Bool} {lo hi mx lo' hi' mx' : Option Value} (hl : OptRel ι lo lo') (hh : OptRel ι hi hi') (hm : OptRel ι mx mx') {n c c' : Nat} (hnc : n ≤ c) (hcc : c ≤ c') {H H1 : World} {l h m : Nat}
    (hr : (Instr.sliceBounds isS n c lo hi mx).run P H = .ok (l, h, m) H1) (w : World) :
    ∃ m', (Instr.sliceBounds isS n c' lo' hi' mx').run P w = .ok (l, h, m') w ∧ l ≤ h ∧ h ≤ m ∧ m ≤ c ∧ ((m = c ∧ m' = c') ∨ m' = m) := by
  unfold Instr.sliceBounds at hr ⊢
  cases mx with
  | none =>
    cases mx' with
    | some _ => exact hm.elim
    | none =>
      simp only [Sem.run_bind, Sem.run_pure, Result.andThen_ok, Option.isSome_none, Bool.false_eq_true, if_false, pure_bind] at hr ⊢
      cases hi with
      | none =>
        cases hi' with
        | some _ => exact hh.elim
        | none =>
          simp only [Sem.run_pure, Result.andThen_ok, pure_bind, Sem.run_bind] at hr ⊢
          cases lo with
          | none =>
            cases lo' with
            | some _ => exact hl.elim
            | none =>
              simp only [Sem.run_pure, Result.andThen_ok, pure_bind, Result.ok.injEq, Prod.mk.injEq] at hr ⊢
              obtain ⟨⟨rfl, rfl, rfl⟩, _⟩ := hr
              exact ⟨c', by simp, Nat.zero_le _, hnc, Nat.le_refl _, .inl (by simp)⟩
          | some x =>
            cases lo' with
            | none => exact hl.elim
            | some x' =>
              simp only [Sem.run_bind] at hr ⊢
              cases hb : (Instr.sliceBound x n .sliceB).run P H with
              | halt e w1 => rw [hb] at hr; cases hr
              | ok i w1 =>
                obtain ⟨k, v, rfl, h0, h1, rfl, rfl⟩ := sliceBound_run hb
                rw [hb] at hr
                simp only [Result.andThen_ok, Sem.run_pure, Result.ok.injEq, Prod.mk.injEq] at hr
                obtain ⟨⟨rfl, rfl, rfl⟩, _⟩ := hr
                cases hl
                rw [sliceBound_ok _ h0 h1]
                simp only [Result.andThen_ok, Sem.run_pure]
                exact ⟨c', by simp, by omega, hnc, Nat.le_refl _, .inl (by simp)⟩
      | some y =>
        cases hi' with
        | none => exact hh.elim
        | some y' =>
          simp only [Sem.run_bind] at hr ⊢
          cases hbh : (Instr.sliceBound y c (if isS = true then .sliceAcap else .sliceAlen)).run P H with
          | halt e w1 => rw [hbh] at hr; cases hr
          | ok j w1 =>
            obtain ⟨kj, vj, rfl, hj0, hj1, rfl, rfl⟩ := sliceBound_run hbh
            rw [hbh] at hr
            cases hh
            rw [sliceBound_ok _ hj0 (by omega)]
            simp only [Result.andThen_ok] at hr ⊢
            cases lo with
            | none =>
              cases lo' with
              | some _ => exact hl.elim
              | none =>
                simp only [Sem.run_pure, Result.andThen_ok, pure_bind, Result.ok.injEq, Prod.mk.injEq] at hr ⊢
                obtain ⟨⟨rfl, rfl, rfl⟩, _⟩ := hr
                exact ⟨c', by simp, Nat.zero_le _, by omega, Nat.le_refl _, .inl (by simp)⟩
            | some x =>
              cases lo' with
              | none => exact hl.elim
              | some x' =>
                simp only [Sem.run_bind] at hr ⊢
                cases hb : (Instr.sliceBound x vj.toNat .sliceB).run P w1 with
                | halt e w1 => rw [hb] at hr; cases hr
                | ok i w1 =>
                  obtain ⟨k, v, rfl, h0, h1, rfl, rfl⟩ := sliceBound_run hb
                  rw [hb] at hr
                  simp only [Result.andThen_ok, Sem.run_pure, Result.ok.injEq, Prod.mk.injEq] at hr
                  obtain ⟨⟨rfl, rfl, rfl⟩, _⟩ := hr
                  cases hl
                  rw [sliceBound_ok _ h0 h1]
                  simp only [Result.andThen_ok, Sem.run_pure]
                  exact ⟨c', by simp, by omega, by omega, Nat.le_refl _, .inl (by simp)⟩
  | some z =>
    cases mx' with
    | none => exact hm.elim
    | some z' =>
      simp only [Sem.run_bind, Option.isSome_some, if_true] at hr ⊢
      cases hbm : (Instr.sliceBound z c (if isS = true then .slice3Acap else .slice3Alen)).run P H with
      | halt e w1 => rw [hbm] at hr; cases hr
      | ok q w1 =>
        obtain ⟨kq, vq, rfl, hq0, hq1, rfl, rfl⟩ := sliceBound_run hbm
        rw [hbm] at hr
        cases hm
        rw [sliceBound_ok _ hq0 (by omega)]
        simp only [Result.andThen_ok] at hr ⊢
        cases hi with
        | none =>
          cases hi' with
          | some _ => exact hh.elim
          | none => simp at hr
        | some y =>
          cases hi' with
          | none => exact hh.elim
          | some y' =>
            simp only [Sem.run_bind] at hr ⊢
            cases hbh : (Instr.sliceBound y vq.toNat .slice3B).run P w1 with
            | halt e w1 => rw [hbh] at hr; cases hr
            | ok j w1 =>
              obtain ⟨kj, vj, rfl, hj0, hj1, rfl, rfl⟩ := sliceBound_run hbh
              rw [hbh] at hr
              cases hh
              rw [sliceBound_ok _ hj0 hj1]
              simp only [Result.andThen_ok] at hr ⊢
              cases lo with
              | none =>
                cases lo' with
                | some _ => exact hl.elim
                | none =>
                  simp only [Sem.run_pure, Result.andThen_ok, pure_bind, Result.ok.injEq, Prod.mk.injEq] at hr ⊢
                  obtain ⟨⟨rfl, rfl, rfl⟩, _⟩ := hr
                  exact ⟨_, by simp, Nat.zero_le _, by omega, by omega, .inr rfl⟩
              | some x =>
                cases lo' with
                | none => exact hl.elim
                | some x' =>
                  simp only [Sem.run_bind] at hr ⊢
                  cases hb : (Instr.sliceBound x vj.toNat .slice3C).run P w1 with
                  | halt e w1 => rw [hb] at hr; cases hr
                  | ok i w1 =>
                    obtain ⟨k, v, rfl, h0, h1, rfl, rfl⟩ := sliceBound_run hb
                    rw [hb] at hr
                    simp only [Result.andThen_ok, Sem.run_pure, Result.ok.injEq, Prod.mk.injEq] at hr
                    obtain ⟨⟨rfl, rfl, rfl⟩, _⟩ := hr
                    cases hl
                    rw [sliceBound_ok _ h0 h1]
                    simp only [Result.andThen_ok, Sem.run_pure]
                    exact ⟨_, rfl, by omega, by omega, by omega, .inr rfl⟩
end Go.Proofs.YtmmmdmandocbhaaDoor.Den
end

section
/- Each operation goes side by side: cuts, append. -/
set_option linter.unusedVariables false
set_option linter.unusedSimpArgs false
namespace Go.Proofs.YtmmmdmandocbhaaDoor.Den
variable {P : Program} {ι : Emb}

theorem okRun_some {α : Type} {r : Result α} {a : α} {w : World} (h : okRun r = some (a, w)) : r = .ok a w := by
  cases r with
  | ok b w1 => simp only [okRun, Option.some.injEq, Prod.mk.injEq] at h; rw [h.1, h.2]
  | halt e w1 => cases h
/-- What is known of a row under a slice that may be cut. -/
theorem base_row {H w : World} (hrel : Rel P ι H w) {i o : Nat} {r : Loc} {elem : TypeId} {inf : TypeInfo} (hr : ι i = some r) (hi : P.info? elem = some inf) (hb : baseOk H (some ⟨i, o, none⟩) elem = true) :
    r.grown = false ∨ (r.grown = true ∧ r.es = inf.size ∧ 0 < r.es) := by
  unfold baseOk at hb
  simp only at hb
  split at hb
  · rename_i cs e fr hh
    obtain ⟨cs', fr', hw, hrow, _⟩ := hrel.row hr hh
    obtain ⟨_, ⟨_, _, _, hg⟩ | ⟨_, _, hg, _⟩ | ⟨hfr, _, hg, _, _, inf', hi', hs, hp⟩⟩ := hrow
    · exact .inl hg
    · exact .inl hg
    · subst hfr
      simp only [and_self, if_true, beq_iff_eq] at hb
      subst hb
      rw [hi] at hi'; injection hi' with hi'; subst hi'
      exact .inr ⟨hg, hs.symm, hp⟩
  · cases hb
theorem HF.sliceBound (x : Value) (y : Nat) (code : BoundsCode) : HF P (Instr.sliceBound x y code) := by
  unfold Instr.sliceBound
  exact (HF.asIntOf x).bind fun p => .ite (.pure _) (.of_noRun fun H x H1 => noRun_boundsPanic _ _ _ _ _ _ _)
theorem HF.sliceBounds (b : Bool) (n c : Nat) (lo hi mx : Option Value) : HF P (Instr.sliceBounds b n c lo hi mx) := by
  unfold Instr.sliceBounds
  cases mx <;> cases hi <;> cases lo <;>
    refine HF.bind (by first | exact .pure _ | exact HF.sliceBound _ _ _) fun m => HF.bind (by first | exact .pure _ | exact HF.sliceBound _ _ _ | exact .stuck _) fun h => HF.bind (by first | exact .pure _ | exact HF.sliceBound _ _ _) fun l => .pure _
theorem lslice_sound {H w H1 : World} (hrel : Rel P ι H w) {t : TypeId} {x x' v : Value} {lo hi mx lo' hi' mx' : Option Value} (hx : VRel ι x x') (hlo : OptRel ι lo lo') (hhi : OptRel ι hi hi') (hmx : OptRel ι mx mx')
    (h : lslice P t x lo hi mx H = some (v, H1)) : Goes P ι H w H1 (Instr.sliceAt t x' lo' hi' mx') VRel v := by
  unfold lslice at h
  split at h
  · rename_i elem a n c hu
    split at h
    · rename_i inf l hh m H2 hi hsb
      have hsb := okRun_some hsb
      split at h
      · rename_i hbase
        simp only [Option.some.injEq, Prod.mk.injEq] at h
        obtain ⟨rfl, rfl⟩ := h
        cases hx with
        | slNil n c =>
          by_cases hnc : n ≤ c
          · obtain ⟨m', hrun, h1, h2, h3, h4⟩ := sliceBounds_sound hlo hhi hmx hnc (Nat.le_refl c) hsb w
            have hm : m' = m := by rcases h4 with ⟨a, b⟩ | a <;> omega
            subst hm
            refine .here hrel (x' := .slice none (hh - l) (m' - l)) ?_ (.slNil _ _)
            simp only [Instr.sliceAt, Instr.slice, Sem.run_bind, run_underlying' hu, Result.andThen_ok, hrun, run_sizeOf' hi, Sem.run_pure]
            split <;> rfl
          · simp only [hnc, decide_false, Bool.and_false, Bool.false_eq_true] at hbase
        | sl i o n c a' c' r hr hs =>
          obtain ⟨s1, s2, s3, s4, s5⟩ := hs
          obtain ⟨m', hrun, h1, h2, h3, h4⟩ := sliceBounds_sound hlo hhi hmx s1 s2 hsb w
          have hm'c : m' ≤ c' := by rcases h4 with ⟨a, b⟩ | a <;> omega
          have hmm : m ≤ m' := by rcases h4 with ⟨a, b⟩ | a <;> omega
          refine .here hrel (x' := .slice (if m' = l then some a' else some (a'.add (l * inf.size))) (hh - l) (m' - l)) ?_ ?_
          · simp only [Instr.sliceAt, Instr.slice, Sem.run_bind, run_underlying' hu, Result.andThen_ok, hrun, run_sizeOf' hi, Sem.run_pure, Option.map_some]
          · have hex : ∃ a2, (if m' = l then some a' else some (a'.add (l * inf.size))) = some a2 ∧ (a2 = ⟨r.b, r.base + (o + l * inf.size), none⟩ ∨ m' - l = 0) := by
              by_cases hml : m' = l
              · exact ⟨a', by rw [if_pos hml], .inr (by omega)⟩
              · refine ⟨a'.add (l * inf.size), by rw [if_neg hml], ?_⟩
                rcases s3 with rfl | s3
                · rw [add_plain, Nat.add_assoc]; exact .inl rfl
                · exact .inr (by omega)
            obtain ⟨a2, ha2, had⟩ := hex
            rw [ha2]
            show VRel ι (.slice (some ⟨i, o + l * inf.size, none⟩) _ _) _
            refine .sl i _ _ _ a2 _ r hr ⟨by omega, by omega, had, fun hg => ?_, fun hg => ?_⟩
            · have := s4 hg
              rcases h4 with ⟨a, b⟩ | a <;> omega
            · rcases base_row hrel hr hi (Bool.and_eq_true _ _ ▸ hbase).1 with hg' | ⟨_, hes, hp⟩
              · rw [hg] at hg'; cases hg'
              · obtain ⟨g1, g2⟩ := s5 hg
                rw [← hes]
                have e1 : l * r.es + (m' - l) * r.es = m' * r.es := by rw [← Nat.add_mul]; congr 1; omega
                have e2 : m' * r.es ≤ c' * r.es := Nat.mul_le_mul_right _ hm'c
                refine ⟨?_, by omega⟩
                rcases h4 with ⟨a, b⟩ | a
                · rcases g1 with g1 | g1
                  · left; omega
                  · right
                    have e3 : l * r.es + (m - l) * r.es = m * r.es := by rw [← Nat.add_mul]; congr 1; omega
                    rw [a] at e3 ⊢
                    omega
                · left; omega
      · cases h
    · cases h
  · rename_i s hu
    have h := okRun_some h
    cases hx
    unfold Instr.slice at h
    simp only [Sem.run_bind, run_underlying' hu, Result.andThen_ok] at h
    cases mx with
    | some z => simp at h
    | none =>
      cases mx' with
      | some _ => exact hmx.elim
      | none =>
        simp only [Option.isSome_none, Bool.false_eq_true, if_false, Sem.run_bind, Sem.run_pure, Result.andThen_ok] at h
        cases hb : (Instr.sliceBounds false s.size s.size lo hi none).run P H with
        | halt e w1 => rw [hb] at h; cases h
        | ok q w1 =>
          obtain ⟨l, hh, m⟩ := q
          rw [hb] at h
          simp only [Result.andThen_ok, Sem.run_pure, Result.ok.injEq] at h
          obtain ⟨rfl, rfl⟩ := h
          obtain ⟨m', hrun, _⟩ := sliceBounds_sound hlo hhi hmx (Nat.le_refl _) (Nat.le_refl _) hb w
          have hw1 : w1 = H := (HF.sliceBounds _ _ _ _ _ _ _ _ _ hb).1
          subst hw1
          refine .here hrel (x' := .string (s.extract l hh)) ?_ (.string _)
          simp only [Instr.sliceAt, Instr.slice, Sem.run_bind, run_underlying' hu, Result.andThen_ok, Option.isSome_none, Bool.false_eq_true, if_false, hrun, Sem.run_pure]
  · rename_i n elem p hu
    split at h
    case h_2 => cases h
    rename_i inf hi
    split at h
    case isFalse => cases h
    rename_i hex
    simp only [Option.some.injEq, Prod.mk.injEq] at h
    obtain ⟨rfl, rfl⟩ := h
    cases hx with
    | ptr i o r hr =>
      cases lo' with
      | some _ => exact hlo.elim
      | none =>
      cases hi' with
      | some _ => exact hhi.elim
      | none =>
      cases mx' with
      | some _ => exact hmx.elim
      | none =>
        have hgr : r.grown = false := by
          obtain ⟨cs, e, hb⟩ := exactRow_some hex
          obtain ⟨cs', fr', hw, hrow, _⟩ := hrel.row hr hb
          obtain ⟨_, ⟨_, _, _, hg⟩ | ⟨_, _, hg, _⟩ | ⟨hfr, _⟩⟩ := hrow
          · exact hg
          · exact hg
          · cases hfr
        refine .here hrel (x' := .slice (some ⟨r.b, r.base + o, none⟩) n n) ?_ (.sl i o n n _ n r hr ⟨Nat.le_refl _, Nat.le_refl _, .inl rfl, fun _ => rfl, fun hg => by rw [hgr] at hg; cases hg⟩)
        simp only [Instr.sliceAt, Instr.sureAddr, Instr.sliceBounds, Sem.run_bind, run_underlying' hu, Result.andThen_ok, Sem.run_pure, run_sizeOf' hi, Nat.zero_mul, add_plain, Nat.add_zero, ite_self, Nat.sub_zero]
  · cases h
end Go.Proofs.YtmmmdmandocbhaaDoor.Den
end

section
/- Each operation goes side by side: append. -/
set_option linter.unusedVariables false
set_option linter.unusedSimpArgs false
namespace Go.Proofs.YtmmmdmandocbhaaDoor.Den
variable {P : Program} {ι : Emb}

theorem loadCellsFrom_size {a : Addr} : ∀ (n k : Nat) (acc : Array Value) (H : World) (cs : Array Value) (H1 : World), (loadCellsFrom a k n acc).run P H = .ok cs H1 → cs.size = acc.size + n
  | 0, k, acc, H, cs, H1, h => by
    simp only [loadCellsFrom, Sem.run_pure, Result.ok.injEq] at h
    rw [← h.1]; rfl
  | n + 1, k, acc, H, cs, H1, h => by
    simp only [loadCellsFrom, Sem.run_bind] at h
    cases hl : (Go.load (a.add k)).run P H with
    | halt e w => rw [hl] at h; cases h
    | ok v w =>
      rw [hl] at h
      have := loadCellsFrom_size n (k + 1) _ _ _ _ h
      simp at this; omega
theorem loadCells_size {a : Addr} {n : Nat} {H H1 : World} {cs : Array Value} (h : (loadCells a n).run P H = .ok cs H1) : cs.size = n := by
  have := loadCellsFrom_size n 0 #[] H cs H1 h
  simpa using this
theorem loadCellsFrom_world {i o : Nat} {H w : World} (hrel : Rel P ι H w) : ∀ (n k : Nat) (acc : Array Value) (cs : Array Value) (H1 : World), (loadCellsFrom ⟨i, o, none⟩ k n acc).run P H = .ok cs H1 → H1 = H
  | 0, k, acc, cs, H1, h => by
    simp only [loadCellsFrom, Sem.run_pure, Result.ok.injEq] at h
    exact h.2.symm
  | n + 1, k, acc, cs, H1, h => by
    simp only [loadCellsFrom, Sem.run_bind, run_load] at h
    cases hc : H.cell? ((⟨i, o, none⟩ : Addr).add k) with
    | some v =>
      rw [hc] at h
      exact loadCellsFrom_world hrel n (k + 1) _ _ _ h
    | none =>
      rw [hc] at h
      simp only [World.farLoad] at h
      split at h
      · rename_i heq
        split at heq
        · rename_i at_ u hb; exact absurd hb (hrel.noView _ _ _)
        · cases heq
      · cases h
theorem loadCellsFrom_sound {i o : Nat} {r : Loc} {H w : World} (hrel : Rel P ι H w) (hr : ι i = some r) : ∀ (n k : Nat) (acc acc' : Array Value) (cs : Array Value) (H1 : World), ARel ι acc acc' →
    (loadCellsFrom ⟨i, o, none⟩ k n acc).run P H = .ok cs H1 → ∃ cs', (∀ d, (loadCellsFrom ⟨r.b, r.base + o, none⟩ k n acc').run P { w with drawn := d } = .ok cs' { w with drawn := d }) ∧ ARel ι cs cs'
  | 0, k, acc, acc', cs, H1, ha, h => by
    simp only [loadCellsFrom, Sem.run_pure, Result.ok.injEq] at h ⊢
    obtain ⟨rfl, _⟩ := h
    exact ⟨acc', fun _ => ⟨rfl, trivial⟩, ha⟩
  | n + 1, k, acc, acc', cs, H1, ha, h => by
    simp only [loadCellsFrom, Sem.run_bind, run_load] at h ⊢
    rw [add_plain] at h ⊢
    rw [Nat.add_assoc]
    cases hc : H.cell? ⟨i, o + k, none⟩ with
    | some v =>
      rw [hc] at h
      obtain ⟨v', hv', _, hvr⟩ := hrel.cell hr hc
      obtain ⟨cs', hrun, hcs⟩ := loadCellsFrom_sound hrel hr n (k + 1) _ _ _ _ (ha.push hvr) h
      refine ⟨cs', fun d => ?_, hcs⟩
      have hv2 : World.cell? { w with drawn := d } ⟨r.b, r.base + (o + k), none⟩ = some v' := hv'
      rw [hv2]
      exact hrun d
    | none =>
      rw [hc] at h
      simp only [World.farLoad] at h
      split at h
      · rename_i heq
        split at heq
        · rename_i at_ u hb; exact absurd hb (hrel.noView _ _ _)
        · cases heq
      · cases h
/-- The cells of a slice or a string, in both worlds. -/
theorem cellsOfD_sound {H w : World} (hrel : Rel P ι H w) {size m : Nat} {x x' : Value} {cs : Array Value} (hx : VRel ι x x') (h : cellsOfD P size x H = some (m, cs)) :
    ∃ cs', (∀ d, (Builtin.lenOf x').run P { w with drawn := d } = .ok m { w with drawn := d } ∧ (Builtin.firstCells size m x').run P { w with drawn := d } = .ok cs' { w with drawn := d }) ∧ ARel ι cs cs' ∧ cs.size = m * size := by
  unfold cellsOfD at h
  split at h
  · split at h
    · rename_i hm
      simp only [Option.some.injEq, Prod.mk.injEq] at h
      obtain ⟨rfl, rfl⟩ := h
      cases hx
      subst hm
      exact ⟨#[], fun _ => ⟨rfl, rfl⟩, .empty, by simp⟩
    · cases h
  · rename_i a m0 c0
    rw [Option.map_eq_some_iff] at h
    obtain ⟨⟨cs0, H1⟩, hl, h⟩ := h
    have hl := okRun_some hl
    simp only [Prod.mk.injEq] at h
    obtain ⟨rfl, rfl⟩ := h
    cases hx with
    | sl i o n c a' c' r hr hs =>
      have hw := loadCellsFrom_world hrel _ _ _ _ _ hl
      subst hw
      have hsz := loadCells_size hl
      by_cases hn : m0 = 0
      · subst hn
        simp only [Nat.zero_mul, loadCells, loadCellsFrom, Sem.run_pure, Result.ok.injEq] at hl
        obtain ⟨rfl, _⟩ := hl
        exact ⟨#[], fun _ => ⟨rfl, by simp [Builtin.firstCells, loadCells, loadCellsFrom]⟩, .empty, by simp⟩
      · obtain ⟨h1, h2, h3, _⟩ := hs
        rcases h3 with rfl | h3
        · obtain ⟨cs', hrun, hcs⟩ := loadCellsFrom_sound hrel hr (m0 * size) 0 _ _ _ _ .empty hl
          exact ⟨cs', fun d => ⟨rfl, hrun d⟩, hcs, hsz⟩
        · omega
  · rename_i s
    split at h
    · rename_i hs
      simp only [Option.some.injEq, Prod.mk.injEq] at h
      obtain ⟨rfl, rfl⟩ := h
      cases hx
      refine ⟨_, fun _ => ⟨rfl, rfl⟩, .map _ _ _ fun _ _ _ => .int _ _, ?_⟩
      subst hs
      rw [Array.size_map]
      show (s.extract 0 s.size).size = _
      simp
    · cases h
  · rename_i tg xs
    split at h
    case isFalse => cases h
    rename_i ht
    simp only [Option.some.injEq, Prod.mk.injEq] at h
    obtain ⟨rfl, rfl⟩ := h
    rcases hx.vs_inv (by rw [ht]; exact Nat.le_add_right _ _) with ⟨rfl, a', c', rfl⟩ | ⟨es, b, o, c', cs', he, hp, hc, hz, hb, hh, rfl⟩
    · exact ⟨#[], fun _ => ⟨rfl, by simp [Builtin.firstCells, loadCells, loadCellsFrom]⟩, .empty, by simp⟩
    · have hes : es = size := by
        have ht : @Eq Nat tg (vsT + size) := ht
        omega
      subst hes
      obtain ⟨e, fr, hw⟩ := hrel.pinned hp
      obtain ⟨h1, h2⟩ := vs_cells hz hb hh
      exact ⟨_, fun d => ⟨rfl, run_loadCells_row (w := { w with drawn := d }) hw hb⟩, h1, h2⟩
  · cases h

theorem zeroCells_rel {z z' : Array Value} (h : ARel ι z z') (n : Nat) : ARel ι (Builtin.zeroCells z n) (Builtin.zeroCells z' n) := by
  unfold Builtin.zeroCells
  rw [← h.1]
  exact .map _ _ _ fun k x _ => getBang_rel h _
theorem zeroCells_size (z : Array Value) (n : Nat) : (Builtin.zeroCells z n).size = n * z.size := by simp [Builtin.zeroCells]
/-- How append's source goes in the machine's world. -/
structure Src (P : Program) (w : World) (t1 : Option TypeId) (inf : TypeInfo) (x' : Value) (m : Nat) (new' : Array Value) : Prop where
  src : (∃ t d, t1 = some t ∧ P.underlying t = some d ∧ (d matches .int _) = false ∧ ∀ k, (Builtin.lenOf x').run P { w with drawn := k } = .ok m { w with drawn := k } ∧ (Builtin.firstCells inf.size m x').run P { w with drawn := k } = .ok new' { w with drawn := k }) ∨
    (∃ t k kk l z, t1 = some t ∧ P.underlying t = some (.int k) ∧ x' = .int kk l ∧ 0 ≤ IntKind.i64.wrap l ∧ IntKind.i64.wrap l * inf.bytes ≤ 2 ^ 40 ∧ m = (IntKind.i64.wrap l).toNat ∧ inf.zero = some z ∧ new' = Builtin.zeroCells z.cells m ∧ z.cells.size = inf.size ∧ 0 < inf.size)
theorem appended_sound (hP : Good P) {H w : World} (hrel : Rel P ι H w) {t1 : Option TypeId} {elem : TypeId} {inf : TypeInfo} {x x' : Value} {m : Nat} {new : Array Value} (hi : P.info? elem = some inf) (hx : VRel ι x x')
    (h : appended P t1 inf x H = some (m, new)) : ∃ new', Src P w t1 inf x' m new' ∧ ARel ι new new' ∧ new.size = m * inf.size := by
  unfold appended at h
  split at h
  · rename_i k kk l ht
    split at h
    · rename_i hc
      split at h
      · rename_i z hz
        split at h
        · rename_i hs
          simp only [Option.some.injEq, Prod.mk.injEq] at h
          obtain ⟨rfl, rfl⟩ := h
          cases hx
          cases t1 with
          | none => cases ht
          | some t =>
            refine ⟨_, ⟨.inr ⟨t, k, kk, l, z, rfl, ht, rfl, hc.1, hc.2, rfl, hz, rfl, hs.1, hs.2⟩⟩, zeroCells_rel (hP.zeros _ _ _ hi hz _).cells _, ?_⟩
            rw [zeroCells_size, hs.1]
        · cases h
      · cases h
    · cases h
  · cases h
  · rename_i d hno ht _
    cases t1 with
    | none => cases ht
    | some t =>
      obtain ⟨cs', h1, h3, h4⟩ := cellsOfD_sound hrel hx h
      refine ⟨cs', ⟨.inl ⟨t, d, rfl, ht, ?_, h1⟩⟩, h3, h4⟩
      cases d <;> first | rfl | skip
      exfalso
      exact hno _ rfl
  · cases h
end Go.Proofs.YtmmmdmandocbhaaDoor.Den
end

section
/- append goes side by side. -/
set_option linter.unusedVariables false
set_option linter.unusedSimpArgs false
namespace Go.Proofs.YtmmmdmandocbhaaDoor.Den
variable {P : Program} {ι : Emb}

theorem growBy_le (newLen : Nat) : ∀ (r c : Nat), c < newLen → Builtin.growBy newLen r c ≤ newLen + (newLen + 768) / 4
  | 0, c, h => by simp only [Builtin.growBy]; omega
  | r + 1, c, h => by
    simp only [Builtin.growBy]
    rw [if_neg (by omega)]
    by_cases h2 : c + (c + 768) / 4 < newLen
    · exact growBy_le newLen r _ h2
    · cases r with
      | zero => simp only [Builtin.growBy]; omega
      | succ r => simp only [Builtin.growBy]; rw [if_pos (by omega)]; omega
theorem nextcap_le {need c : Nat} (h : c < need) : Builtin.nextslicecap need c ≤ 2 * need + 1000 := by
  unfold Builtin.nextslicecap
  split
  · omega
  · split
    · omega
    · have := growBy_le need 4 c h; omega

/-- The head of append's program, once its source is known. -/
theorem run_append_head {w : World} {ts : Array TypeId} {ty t0 elem : TypeId} {inf : TypeInfo} {x' : Value} {m : Nat} {new' : Array Value} (ht0 : ts[0]? = some t0) (hu : P.underlying t0 = some (.slice elem)) (hi : P.info? elem = some inf)
    (hsrc : Src P w ts[1]? inf x' m new') {base : Option Addr} {n c : Nat} (hfit : n + m ≤ c) :
    (Builtin.append_ ts ty #[.slice base n c, x']).run P w =
      (match base with | none => Result.ok () w | some a => (storeCells (a.add (n * inf.size)) new'.toList).run P w).andThen fun _ w1 => .ok (.slice base (n + m) c) w1 := by
  obtain ⟨⟨t, d, ht, hd, hne, hlf⟩ | ⟨t, k, kk, l, z, ht, hd, rfl, h0, h1, rfl, hz, rfl, hzs, hp⟩⟩ := hsrc
  · have hl : (Builtin.lenOf x').run P w = .ok m w := (hlf w.drawn).1
    have hf : (Builtin.firstCells inf.size m x').run P w = .ok new' w := (hlf w.drawn).2
    cases d with
    | int k => cases hne
    | _ =>
      simp only [Builtin.append_, ht0, ht, List.getElem?_toArray, List.getElem?_cons_zero, List.getElem?_cons_succ, Sem.run_bind, run_underlying' hu, Result.andThen_ok, run_sizeOf' hi, run_underlying' hd, Sem.run_pure,
        Bool.false_eq_true, if_false, hl, hfit, if_true, Bool.not_false, hf]
      cases base with
      | none => rfl
      | some a => simp only [Sem.run_bind, Sem.run_pure]
  · have hnn : ¬ (IntKind.i64.wrap l < 0) := by omega
    have hbig : ¬ (IntKind.i64.wrap l * (inf.bytes : Int) > 2 ^ 48) := by
      have : (2 : Int) ^ 40 ≤ 2 ^ 48 := by decide
      omega
    by_cases hz0 : (IntKind.i64.wrap l).toNat * inf.size = 0
    · have hnew : Builtin.zeroCells z.cells (IntKind.i64.wrap l).toNat = #[] := by
        apply Array.eq_empty_of_size_eq_zero
        rw [zeroCells_size, hzs, hz0]
      simp only [Builtin.append_, ht0, ht, List.getElem?_toArray, List.getElem?_cons_zero, List.getElem?_cons_succ, Sem.run_bind, run_underlying' hu, Result.andThen_ok, run_sizeOf' hi, run_underlying' hd, Sem.run_pure,
        if_true, asInt, asIntOf, hnn, if_false, run_typeInfo' hi, hbig, hfit, Bool.not_true, Bool.false_eq_true, hz0, hnew, pure_bind]
      cases base with
      | none => rfl
      | some a => simp only [Sem.run_bind, Sem.run_pure]
    · simp only [Builtin.append_, ht0, ht, List.getElem?_toArray, List.getElem?_cons_zero, List.getElem?_cons_succ, Sem.run_bind, run_underlying' hu, Result.andThen_ok, run_sizeOf' hi, run_underlying' hd, Sem.run_pure,
        if_true, asInt, asIntOf, hnn, if_false, run_typeInfo' hi, hbig, hfit, Bool.not_true, Bool.false_eq_true, hz0, pure_bind, run_zeroValue' hi hz]
      cases base with
      | none => rfl
      | some a => simp only [Sem.run_bind, Sem.run_pure]

theorem run_append_grow {w : World} {ts : Array TypeId} {ty t0 elem : TypeId} {inf : TypeInfo} {z x' : Value} {m : Nat} {new' old' : Array Value} (ht0 : ts[0]? = some t0) (hu : P.underlying t0 = some (.slice elem)) (hi : P.info? elem = some inf)
    (hz : inf.zero = some z) (hsrc : Src P w ts[1]? inf x' m new') {base : Option Addr} {n c : Nat} (hfit : ¬ n + m ≤ c) (hold : ∀ k, (Builtin.firstCells inf.size n (.slice base n c)).run P { w with drawn := k } = .ok old' { w with drawn := k })
    (hb0 : 0 < inf.bytes) (hb1 : inf.bytes ≤ 2 ^ 20) (hb2 : (n + m) * inf.bytes ≤ 2 ^ 40) :
    ∃ cap k, n + m ≤ cap ∧ (Builtin.append_ ts ty #[.slice base n c, x']).run P w =
      .ok (.slice (some ⟨w.heap.size, 0, none⟩) (n + m) cap) { w with drawn := k, heap := w.heap.push (.cells (old' ++ new' ++ Builtin.zeroCells z.cells (cap - (n + m))) elem) } := by
  have hcap := cut_append (n + m) c elem (w.tape w.drawn (.appendCap (n + m) c elem))
  refine ⟨_, w.drawn + 1, hcap, ?_⟩
  generalize hgc : (Question.appendCap (n + m) c elem).cut (w.tape w.drawn (.appendCap (n + m) c elem)) = cap at hcap
  have hch : (choose (.appendCap (n + m) c elem)).run P w = .ok cap { w with drawn := w.drawn + 1 } := by
    rw [run_choose, ← hgc]; rfl
  have hold2 : (Builtin.firstCells inf.size n (.slice base n c)).run P { w with drawn := w.drawn + 1 } = .ok old' { w with drawn := w.drawn + 1 } := hold _
  have hnm : n + m ≤ (n + m) * inf.bytes := Nat.le_mul_of_pos_right _ hb0
  have hmax : ¬ (((n + m : Nat) : Int) > IntKind.i64.max) := by
    have h1 : n + m ≤ 2 ^ 40 := Nat.le_trans hnm hb2
    have h2 : IntKind.i64.max = 9223372036854775807 := by decide
    have h3 : (2 : Nat) ^ 40 = 1099511627776 := by decide
    rw [h2]; omega
  have hbz : ¬ inf.bytes = 0 := by omega
  have hnext : ¬ (Builtin.nextslicecap (n + m) c * inf.bytes > 2 ^ 48) := by
    have h1 := nextcap_le (need := n + m) (c := c) (by omega)
    have h2 : Builtin.nextslicecap (n + m) c * inf.bytes ≤ (2 * (n + m) + 1000) * inf.bytes := Nat.mul_le_mul_right _ h1
    have h3 : (2 * (n + m) + 1000) * inf.bytes = 2 * ((n + m) * inf.bytes) + 1000 * inf.bytes := by rw [Nat.add_mul, Nat.mul_assoc]
    have h4 : (2 : Nat) ^ 40 = 1099511627776 := by decide
    have h5 : (2 : Nat) ^ 20 = 1048576 := by decide
    have h6 : (2 : Nat) ^ 48 = 281474976710656 := by decide
    omega
  obtain ⟨⟨t, d, ht, hd, hne, hlf⟩ | ⟨t, k, kk, l, z0, ht, hd, rfl, h0, h1, rfl, hz', rfl, hzs, hp⟩⟩ := hsrc
  · have hl : (Builtin.lenOf x').run P w = .ok m w := (hlf w.drawn).1
    have hf2 := (hlf (w.drawn + 1)).2
    cases d with
    | int k => cases hne
    | _ =>
      simp only [Builtin.append_, ht0, ht, List.getElem?_toArray, List.getElem?_cons_zero, List.getElem?_cons_succ, Sem.run_bind, run_underlying' hu, Result.andThen_ok, run_sizeOf' hi, run_underlying' hd, Sem.run_pure,
        Bool.false_eq_true, if_false, hl, hfit, if_true, Bool.not_false, run_typeInfo' hi, hmax, false_and, hnext, hch, run_askRoom, hold2, hf2, run_zeroValue' hi hz, Go.newRow, run_newObj, pure_bind]
  · have hnn : ¬ (IntKind.i64.wrap l < 0) := by omega
    have hbig : ¬ (IntKind.i64.wrap l * (inf.bytes : Int) > 2 ^ 48) := by
      have : (2 : Int) ^ 40 ≤ 2 ^ 48 := by decide
      omega
    rw [hz] at hz'; injection hz' with hz'; subst hz'
    by_cases hz0 : (IntKind.i64.wrap l).toNat * inf.size = 0
    · have hnew : Builtin.zeroCells z.cells (IntKind.i64.wrap l).toNat = #[] := by
        apply Array.eq_empty_of_size_eq_zero
        rw [zeroCells_size, hzs, hz0]
      simp only [Builtin.append_, ht0, ht, List.getElem?_toArray, List.getElem?_cons_zero, List.getElem?_cons_succ, Sem.run_bind, run_underlying' hu, Result.andThen_ok, run_sizeOf' hi, run_underlying' hd, Sem.run_pure,
        if_true, asInt, asIntOf, hnn, if_false, run_typeInfo' hi, hbig, hfit, Bool.not_true, Bool.false_eq_true, hz0, hnew, pure_bind, hmax, false_and, hnext, hch, run_askRoom, hold2, run_zeroValue' hi hz, Go.newRow, run_newObj]
    · simp only [Builtin.append_, ht0, ht, List.getElem?_toArray, List.getElem?_cons_zero, List.getElem?_cons_succ, Sem.run_bind, run_underlying' hu, Result.andThen_ok, run_sizeOf' hi, run_underlying' hd, Sem.run_pure,
        if_true, asInt, asIntOf, hnn, if_false, run_typeInfo' hi, hbig, hfit, Bool.not_true, Bool.false_eq_true, hz0, pure_bind, run_zeroValue' hi hz, hmax, false_and, hnext, hch, run_askRoom, hold2, Go.newRow, run_newObj]
end Go.Proofs.YtmmmdmandocbhaaDoor.Den
end

section
/- append goes side by side, whole. -/
set_option linter.unusedVariables false
set_option linter.unusedSimpArgs false
namespace Go.Proofs.YtmmmdmandocbhaaDoor.Den
variable {P : Program} {ι : Emb}

/-- A row that grew in place: the elder one is given up, the new one lies in its block. -/
theorem Rel.regrow {H w : World} (h : Rel P ι H w) {i : Nat} {r rn : Loc} {x o o' : Obj} (hr : ι i = some r) (hi : H.heap[i]? = some x) (hx : live x = true) (hgx : given x = false) (hl : live o = true) (hb : rn.b = r.b)
    (ho : ORel P (ι.put H.heap.size rn) rn o o') : Step P ι H w (ι.put H.heap.size rn) (killObj (pushObj H o) i) { w with heap := w.heap.setIfInBounds r.b o' } := by
  have hf := h.fresh
  have hle := Emb.le_put (r := rn) hf
  have hilt := (Array.getElem?_eq_some_iff.1 hi).1
  have hrb := (h.dom i r hr).2
  have hget : ∀ (j : Nat) (y : Obj), (killObj (pushObj H o) i).heap[j]? = some y → live y = true → (j = H.heap.size ∧ y = o) ∨ (j ≠ i ∧ j < H.heap.size ∧ H.heap[j]? = some y) := by
    intro j y hj hly
    simp only [killObj, pushObj, Array.getElem?_setIfInBounds] at hj
    by_cases hij : i = j
    · subst hij
      rw [if_pos rfl, if_pos (by simp; omega)] at hj
      injection hj with hj; subst hj; cases hly
    · rw [if_neg hij, Array.getElem?_push] at hj
      by_cases hjs : j = H.heap.size
      · rw [if_pos hjs] at hj
        injection hj with hj
        exact .inl ⟨hjs, hj.symm⟩
      · rw [if_neg hjs] at hj
        exact .inr ⟨fun e => hij e.symm, (Array.getElem?_eq_some_iff.1 hj).1, hj⟩
  refine ⟨hle, ⟨fun b zs hz => ?_, fun j y hj hly => ?_, fun j k o1 o2 r1 r2 h1 l1 h2 l2 e1 e2 hbb hg1 => ?_, fun j rj hj => ?_, fun j y hj => ?_, fun s zs g h1 h2 => hle.fz _ _ (h.tab s zs g h1 h2)⟩, by simp, rfl, rfl, rfl, fun b hbs hn => ?_, fun j y rj hj hg hrj => ?_, fun _ _ h => .inl h, fun j y rj hj hly hrj => ?_, by simp [killObj, pushObj], fun i hi => by simp only [Emb.put]; rw [if_neg (by omega)]⟩
  · obtain ⟨⟨e1, f1, h1⟩, h2⟩ := h.fz b zs hz
    have hne := h2 i x r hi hx hgx hr
    refine ⟨⟨e1, f1, by simp only [Array.getElem?_setIfInBounds]; rw [if_neg hne]; exact h1⟩, fun j y rj hj hly hg hrj => ?_⟩
    rcases hget j y hj hly with ⟨rfl, rfl⟩ | ⟨hji, hjs, hj⟩
    · rw [Emb.put_same] at hrj; injection hrj with hrj; subst hrj
      rw [hb]; exact hne
    · simp only [Emb.put] at hrj; rw [if_neg (by omega)] at hrj
      exact h2 j y rj hj hly hg hrj
  · rcases hget j y hj hly with ⟨rfl, rfl⟩ | ⟨hji, hjs, hj⟩
    · exact ⟨rn, o', Emb.put_same _ _ _, by simp [Array.getElem?_setIfInBounds, hb, hrb], ho⟩
    · obtain ⟨rj, oj, hrj, hwj, hoj⟩ := h.obj j y hj hly
      refine ⟨rj, oj, hle _ _ hrj, ?_, hoj.mono hle⟩
      simp only [Array.getElem?_setIfInBounds]
      rw [if_neg ?_]
      · exact hwj
      · intro hbb
        exact hji (h.inj i j _ _ _ _ hi hx hj hly hr hrj hbb hgx).symm
  · rcases hget j o1 h1 l1 with ⟨rfl, rfl⟩ | ⟨hji, hjs, hj⟩ <;> rcases hget k o2 h2 l2 with ⟨rfl, rfl⟩ | ⟨hki, hks, hk⟩
    · rfl
    · exfalso
      rw [Emb.put_same] at e1; injection e1 with e1; subst e1
      simp only [Emb.put] at e2; rw [if_neg (by omega)] at e2
      exact hki (h.inj i k _ _ _ _ hi hx hk l2 hr e2 (by rw [← hbb, hb]) hgx).symm
    · exfalso
      rw [Emb.put_same] at e2; injection e2 with e2; subst e2
      simp only [Emb.put] at e1; rw [if_neg (by omega)] at e1
      exact hji (h.inj i j _ _ _ _ hi hx hj l1 hr e1 (by rw [hbb, hb]) hgx).symm
    · simp only [Emb.put] at e1 e2; rw [if_neg (by omega)] at e1 e2
      exact h.inj j k _ _ _ _ hj l1 hk l2 e1 e2 hbb hg1
  · simp only [killObj, pushObj, Array.size_setIfInBounds, Array.size_push]
    simp only [Emb.put] at hj
    split at hj
    · rename_i e; subst e; injection hj with hj; subst hj
      exact ⟨by omega, by rw [hb]; exact hrb⟩
    · have := h.dom j rj hj; omega
  · simp only [killObj, pushObj, Array.getElem?_setIfInBounds] at hj
    by_cases hij : i = j
    · subst hij
      rw [if_pos rfl, if_pos (by simp; omega)] at hj
      injection hj with hj; exact .inr hj.symm
    · rw [if_neg hij, Array.getElem?_push] at hj
      by_cases hjs : j = H.heap.size
      · rw [if_pos hjs] at hj; injection hj with hj; subst hj; exact .inl hl
      · rw [if_neg hjs] at hj; exact h.only j y hj
  · simp only [Array.getElem?_setIfInBounds]
    rw [if_neg (hn i x r hi hx hr)]
  · have hij : i ≠ j := fun e => by
      subst e
      rw [hi] at hj; injection hj with hj; subst hj
      rw [hgx] at hg; cases hg
    have hjs := (Array.getElem?_eq_some_iff.1 hj).1
    refine ⟨?_, ?_⟩
    · simp only [killObj, pushObj, Array.getElem?_setIfInBounds]
      rw [if_neg hij, Array.getElem?_push, if_neg (by omega)]; exact hj
    · simp only [Array.getElem?_setIfInBounds]
      rw [if_neg fun e => hij (h.inj i j _ _ _ _ hi hx hj (given_live hg) hr hrj e hgx)]
  · rcases hget j y hj hly with ⟨rfl, rfl⟩ | ⟨hji, hjs, hj⟩
    · rw [Emb.put_same] at hrj; injection hrj with hrj; subst hrj
      exact .inr ⟨i, x, r, hi, hx, hr, hb.symm⟩
    · simp only [Emb.put] at hrj; rw [if_neg (by omega)] at hrj
      exact .inr ⟨j, y, rj, hj, hly, hrj, rfl⟩

/-- Cells stored one behind the other into one row. -/
theorem run_storeRow {b p : Nat} {e : TypeId} {fr : Nat × Nat} : ∀ (vs : List Value) (k : Nat) (w : World) (cs : Array Value), w.heap[b]? = some (.cells cs e fr) → (∀ j, j < cs.size → ¬ (fr.1 ≤ j ∧ j < fr.2)) →
    p + k + vs.length ≤ cs.size → (∀ v ∈ vs, v.oneCell' = true) →
    ∃ cs2, (storeCells ⟨b, p, none⟩ vs k).run P w = .ok () { w with heap := w.heap.setIfInBounds b (.cells cs2 e fr) } ∧ cs2.size = cs.size ∧
      (∀ j, j < p + k → cs2[j]? = cs[j]?) ∧ (∀ j v, vs[j]? = some v → cs2[p + k + j]? = some v)
  | [], k, w, cs, hb, hfr, hlen, h1 => by
    refine ⟨cs, ?_, rfl, fun _ _ => rfl, fun j v hv => by simp at hv⟩
    have : w.heap.setIfInBounds b (.cells cs e fr) = w.heap := by
      apply Array.ext_getElem?
      intro i
      rw [Array.getElem?_setIfInBounds]
      split
      · rename_i hbi; subst hbi
        rw [hb, if_pos (Array.getElem?_eq_some_iff.1 hb).1]
      · rfl
    simp only [storeCells, Sem.run_pure, this]
  | v :: vs, k, w, cs, hb, hfr, hlen, h1 => by
    simp only [List.length_cons] at hlen
    have hblt := (Array.getElem?_eq_some_iff.1 hb).1
    have hc : w.cell? ⟨b, p + k, none⟩ = some (cs[p + k]'(by omega)) := by
      rw [cell_of hb]; exact Array.getElem?_eq_getElem (show p + k < cs.size by omega)
    have hf : w.frozen? ⟨b, p + k, none⟩ = false := by
      unfold World.frozen?
      simp only [hb]
      rw [Bool.eq_false_iff]
      simpa using hfr (p + k) (by omega)
    have hst := run_store_some (P := P) (h1 v (by simp)) hc hf
    have hw1 : (w.setCell ⟨b, p + k, none⟩ v).heap[b]? = some (.cells (cs.setIfInBounds (p + k) v) e fr) := by
      rw [heap_setCell, if_pos rfl, hb]; rfl
    obtain ⟨cs2, hrun, hs2, hlow, hat⟩ := run_storeRow (p := p) vs (k + 1) _ _ hw1 (fun j hj => hfr j (by simpa only [Array.size_setIfInBounds] using hj)) (by simp only [Array.size_setIfInBounds]; omega) (fun u hu => h1 u (by simp [hu]))
    refine ⟨cs2, ?_, by simpa using hs2, fun j hj => ?_, fun j u hu => ?_⟩
    · simp only [storeCells, Sem.run_bind]
      rw [add_plain, hst]
      simp only [Result.andThen_ok]
      rw [hrun]
      congr 1
      have : (w.setCell ⟨b, p + k, none⟩ v).heap.setIfInBounds b (.cells cs2 e fr) = w.heap.setIfInBounds b (.cells cs2 e fr) := by
        apply Array.ext_getElem?
        intro i
        rw [Array.getElem?_setIfInBounds, Array.getElem?_setIfInBounds, heap_setCell]
        simp only [World.size_setCell]
        split
        · rfl
        · rfl
      rw [this]; rfl
    · rw [hlow j (by omega), Array.getElem?_setIfInBounds, if_neg (by omega)]
    · cases j with
      | zero =>
        simp only [List.getElem?_cons_zero, Option.some.injEq] at hu
        subst hu
        rw [Nat.add_zero, hlow (p + k) (by omega), Array.getElem?_setIfInBounds, if_pos rfl, if_pos (show p + k < cs.size by omega)]
      | succ j =>
        have := hat j u (by simpa using hu)
        rw [show p + k + (j + 1) = p + (k + 1) + j by omega]; exact this
end Go.Proofs.YtmmmdmandocbhaaDoor.Den
end

section
/- append goes side by side, whole. -/
set_option linter.unusedVariables false
set_option linter.unusedSimpArgs false
namespace Go.Proofs.YtmmmdmandocbhaaDoor.Den
variable {P : Program} {ι : Emb}

theorem loadCellsFrom_get {i o : Nat} {H w : World} (hrel : Rel P ι H w) : ∀ (n k : Nat) (acc cs : Array Value) (H1 : World), (loadCellsFrom ⟨i, o, none⟩ k n acc).run P H = .ok cs H1 →
    (∀ j, j < acc.size → cs[j]? = acc[j]?) ∧ ∀ j v, j < n → cs[acc.size + j]? = some v → H.cell? ⟨i, o + k + j, none⟩ = some v
  | 0, k, acc, cs, H1, h => by
    simp only [loadCellsFrom, Sem.run_pure, Result.ok.injEq] at h
    obtain ⟨rfl, _⟩ := h
    exact ⟨fun _ _ => rfl, fun j v hj => absurd hj (by omega)⟩
  | n + 1, k, acc, cs, H1, h => by
    simp only [loadCellsFrom, Sem.run_bind, run_load] at h
    rw [add_plain] at h
    cases hc : H.cell? ⟨i, o + k, none⟩ with
    | some v =>
      rw [hc] at h
      obtain ⟨h1, h2⟩ := loadCellsFrom_get hrel n (k + 1) _ _ _ h
      refine ⟨fun j hj => ?_, fun j u hj hu => ?_⟩
      · rw [h1 j (by rw [Array.size_push]; omega), Array.getElem?_push, if_neg (by omega)]
      · cases j with
        | zero =>
          rw [Nat.add_zero, h1 acc.size (by rw [Array.size_push]; omega), Array.getElem?_push, if_pos rfl] at hu
          rw [Nat.add_zero, hc]; exact hu
        | succ j =>
          have := h2 j u (by omega) (by rw [Array.size_push, show acc.size + 1 + j = acc.size + (j + 1) by omega]; exact hu)
          rw [show o + k + (j + 1) = o + (k + 1) + j by omega]; exact this
    | none =>
      rw [hc] at h
      simp only [World.farLoad] at h
      split at h
      · rename_i heq
        split at heq
        · rename_i at_ u hb; exact absurd hb (hrel.noView _ _ _)
        · cases heq
      · cases h
theorem loadCells_get {i o n : Nat} {H w H1 : World} {cs : Array Value} (hrel : Rel P ι H w) (h : (loadCells ⟨i, o, none⟩ n).run P H = .ok cs H1) {k : Nat} {v : Value} (hk : cs[k]? = some v) : H.cell? ⟨i, o + k, none⟩ = some v := by
  have hs := loadCells_size h
  have hlt := (Array.getElem?_eq_some_iff.1 hk).1
  have := (loadCellsFrom_get hrel n 0 #[] cs H1 h).2 k v (by omega) (by simpa using hk)
  simpa using this

/-- The step of an append that takes a new row. -/
theorem grow_step {H w : World} (hrel : Rel P ι H w) {elem : TypeId} {inf : TypeInfo} (hi : P.info? elem = some inf) (hp : 0 < inf.size) {z : Value} (hzs : z.cells.size = inf.size) {n m cap k : Nat} {old old' new new' : Array Value}
    (ho : ARel ι old old') (hn : ARel ι new new') (hos : old.size = n * inf.size) (hns : new.size = m * inf.size) (hcap : n + m ≤ cap) :
    ∃ ι1, Step P ι H w ι1 (pushObj H (.cells (old ++ new) elem (1, 0))) { w with drawn := k, heap := w.heap.push (.cells (old' ++ new' ++ Builtin.zeroCells z.cells (cap - (n + m))) elem) } ∧
      VRel ι1 (.slice (some ⟨H.heap.size, 0, none⟩) (n + m) (n + m)) (.slice (some ⟨w.heap.size, 0, none⟩) (n + m) cap) := by
  have e1 : (n + m) * inf.size = n * inf.size + m * inf.size := Nat.add_mul _ _ _
  have e2 : (n + m) * inf.size + (cap - (n + m)) * inf.size = cap * inf.size := by rw [← Nat.add_mul]; congr 1; omega
  have hz := zeroCells_size z.cells (cap - (n + m))
  rw [hzs] at hz
  have hdr := Step.drawn hrel k
  have hnew := Rel.new (r := ⟨w.heap.size, 0, (n + m) * inf.size, cap * inf.size, inf.size, true⟩) hdr.rel (o := .cells (old ++ new) elem (1, 0))
    (o' := .cells (old' ++ new' ++ Builtin.zeroCells z.cells (cap - (n + m))) elem) rfl rfl (by
      refine .cells _ _ _ _ _ ⟨?_, .inr (.inr ⟨rfl, fun j _ => by simp, rfl, ?_, ?_, inf, hi, rfl, hp⟩)⟩ fun j v hj => ?_
      · simp only [Array.size_append]; omega
      · simp only [Array.size_append]
        rw [← ho.1, ← hn.1]; omega
      · simp only [Array.size_append]; omega
      · obtain ⟨v', hv', hvr⟩ := (ho.append hn).get hj
        refine ⟨v', ?_, hvr.mono (Emb.le_put hrel.fresh)⟩
        simp only [Nat.zero_add]
        rw [Array.getElem?_append_left (Array.getElem?_eq_some_iff.1 hv').1]; exact hv')
  refine ⟨_, hdr.trans hnew, ?_⟩
  refine .sl H.heap.size 0 _ _ ⟨w.heap.size, 0, none⟩ cap ⟨w.heap.size, 0, (n + m) * inf.size, cap * inf.size, inf.size, true⟩ (Emb.put_same _ _ _) ⟨Nat.le_refl _, hcap, .inl rfl, fun hg => (by cases hg), fun _ => ⟨.inr ?_, ?_⟩⟩
  · simp
  · simp

theorem lappend_sound (hP : Good P) {H w H1 : World} (hrel : Rel P ι H w) {ts : Array TypeId} {ty : TypeId} {s s' x x' v : Value} (hs : VRel ι s s') (hx : VRel ι x x') (h : lappend P ts s x H = some (v, H1)) :
    Goes P ι H w H1 (Builtin.append_ ts ty #[s', x']) VRel v := by
  unfold lappend at h
  split at h
  case h_2 => cases h
  rename_i elem base n c hu
  cases ht0 : ts[0]? with
  | none => rw [ht0] at hu; cases hu
  | some t0 =>
  rw [ht0] at hu
  have hu : P.underlying t0 = some (.slice elem) := hu
  split at h
  · cases h
  rename_i inf hi
  split at h
  · cases h
  rename_i m new happ
  obtain ⟨new', hsrc, hnr, hns⟩ := appended_sound hP hrel hi hx happ
  split at h
  · -- it fits
    rename_i hfit
    cases hs with
    | slNil n c =>
      simp only [Option.some.injEq, Prod.mk.injEq] at h
      obtain ⟨rfl, rfl⟩ := h
      refine .here hrel (x' := .slice none (n + m) c) ?_ (.slNil _ _)
      rw [run_append_head ht0 hu hi hsrc hfit]; rfl
    | sl i o n c a' c' r hr hs =>
      simp only [Option.map_eq_some_iff] at h
      obtain ⟨⟨_, H2⟩, hst, h⟩ := h
      have hst := okRun_some hst
      simp only [Prod.mk.injEq] at h
      obtain ⟨rfl, rfl⟩ := h
      obtain ⟨s1, s2, s3, s4, s5⟩ := hs
      have hrun := run_append_head (ty := ty) ht0 hu hi hsrc (base := some a') (n := n) (c := c') (by omega)
      have hgo : ∃ ι1 w1, (storeCells (a'.add (n * inf.size)) new'.toList).run P w = .ok () w1 ∧ Step P ι H w ι1 H2 w1 := by
        rcases s3 with rfl | s3
        · obtain ⟨ι1, _, w1, hr1, hst1, _⟩ := Sim.storeCells (P := P) (i := i) (r := r) (o := o + n * inf.size) new.toList new'.toList 0 ι hr hnr.toList ι H w (Emb.le_refl _) hrel () H2 hst
          rw [add_plain, Nat.add_assoc]
          exact ⟨ι1, w1, hr1, hst1⟩
        · have hm : m = 0 := by omega
          subst hm
          have h0 : new = #[] := Array.eq_empty_of_size_eq_zero (by omega)
          have h0' : new' = #[] := Array.eq_empty_of_size_eq_zero (by have := hnr.1; omega)
          subst h0 h0'
          simp only [storeCells, Sem.run_pure, Result.ok.injEq] at hst ⊢
          obtain ⟨_, rfl⟩ := hst
          exact ⟨ι, w, ⟨trivial, rfl⟩, .refl hrel⟩
      obtain ⟨ι1, w1, hw1, hstep⟩ := hgo
      refine ⟨ι1, .slice (some a') (n + m) c', w1, ?_, hstep, .sl i o _ _ a' c' r (hstep.le _ _ hr) ⟨by omega, s2, s3, s4, s5⟩⟩
      rw [hrun]
      simp only [hw1, Result.andThen_ok]
  · rename_i hfit
    split at h
    case isFalse => cases h
    rename_i hc
    obtain ⟨hp, hb0, hb1, hb2⟩ := hc
    have hold : ∀ (m0 : Nat) (old : Array Value), cellsOfD P inf.size (.slice base n c) H = some (m0, old) → m0 = n ∧ ∃ base' c' old', s' = .slice base' n c' ∧ old.size = n * inf.size ∧ ARel ι old old' ∧
        (∀ k, (Builtin.firstCells inf.size n s').run P { w with drawn := k } = .ok old' { w with drawn := k }) := by
      intro m0 old hcd
      obtain ⟨old', hof, hor, hos⟩ := cellsOfD_sound hrel hs hcd
      have hl := (hof w.drawn).1
      cases hs with
      | slNil n c =>
        have : n = m0 := by
          have h3 : Result.ok n _ = Result.ok m0 _ := hl
          injection h3
        subst this
        exact ⟨rfl, _, _, old', rfl, hos, hor, fun k => (hof k).2⟩
      | sl i o n c a' c' r hr hs =>
        have : n = m0 := by
          have h3 : Result.ok n _ = Result.ok m0 _ := hl
          injection h3
        subst this
        exact ⟨rfl, _, _, old', rfl, hos, hor, fun k => (hof k).2⟩
    split at h
    · -- a new row, nothing given up
      rename_i z m0 old hz hcd hgf
      split at h
      case isFalse => cases h
      rename_i hzs
      simp only [Option.some.injEq, Prod.mk.injEq] at h
      obtain ⟨rfl, rfl⟩ := h
      obtain ⟨hm0, base', c', old', hs', hos, hor, hof⟩ := hold _ _ hcd
      have hm0 := hm0.symm
      subst hm0
      have hcc : c' = c := by
        subst hs'
        cases hs with
        | slNil => rfl
        | sl i o n c a' c' r hr hs =>
          obtain ⟨s1, s2, s3, s4, s5⟩ := hs
          simp only [growsFrom] at hgf
          split at hgf
          · rename_i cs e fr hh
            obtain ⟨cs', fr', hw, ⟨hlen, hrow⟩, _⟩ := hrel.row hr hh
            rcases hrow with ⟨_, _, _, hg⟩ | ⟨rfl, _, hg, _⟩ | ⟨rfl, _, hg, _, _, inf', hi', hes, _⟩
            · exact s4 hg
            · exact s4 hg
            · simp only [and_self, if_true] at hgf
              split at hgf
              · rename_i he; subst he
                rw [hi] at hi'; injection hi' with hi'; subst hi'
                split at hgf
                · cases hgf
                · rename_i hne
                  rcases (s5 hg).1 with hcc | hcc
                  · exact hcc
                  · rw [← hes] at hcc; omega
              · cases hgf
          · cases hgf
      subst hcc hs'
      obtain ⟨cap, k, hcap, hrun⟩ := run_append_grow (ty := ty) ht0 hu hi hz hsrc hfit hof hb0 hb1 hb2
      obtain ⟨ι1, hst, hv⟩ := grow_step hrel hi hp hzs (k := k) hor hnr hos hns hcap
      exact ⟨ι1, _, _, hrun, hst, hv⟩
    · -- the elder row is given up
      rename_i z m0 old rr hz hcd hgf
      split at h
      case isFalse => cases h
      rename_i hzs
      obtain ⟨hzs, hone⟩ := hzs
      simp only [Option.some.injEq, Prod.mk.injEq] at h
      obtain ⟨rfl, rfl⟩ := h
      obtain ⟨hm0, base', c', old', hs', hos, hor, hof⟩ := hold _ _ hcd
      have hm0 := hm0.symm
      subst hm0
      subst hs'
      cases hs with
      | slNil => simp [growsFrom] at hgf
      | sl i o n c a' c' r hr hs =>
        obtain ⟨s1, s2, s3, s4, s5⟩ := hs
        simp only [growsFrom] at hgf
        split at hgf
        case h_2 => cases hgf
        rename_i cs e fr hh
        obtain ⟨cs', fr', hw, ⟨hlen, hrow⟩, hcells⟩ := hrel.row hr hh
        rcases hrow with ⟨hf1, hf2, _, hg⟩ | ⟨rfl, _, hg, _⟩ | ⟨rfl, hfr, hg, hroom, hlroom, inf', hi', hes, _⟩
        · simp [hf1] at hgf
        · simp at hgf
        · simp only [and_self, if_true] at hgf
          split at hgf
          case isFalse => cases hgf
          rename_i he; subst he
          rw [hi] at hi'; injection hi' with hi'; subst hi'
          split at hgf
          case isFalse => cases hgf
          rename_i hend
          simp only [Option.some.injEq] at hgf
          subst hgf
          by_cases hfit' : n + m ≤ c'
          · -- in place
            rcases s3 with rfl | s3
            case inr => omega
            have hroom2 := (s5 hg).2
            rw [← hes] at hroom2
            have e1 : (n + m) * inf.size = n * inf.size + m * inf.size := Nat.add_mul _ _ _
            have e2 : (n + m) * inf.size ≤ c' * inf.size := Nat.mul_le_mul_right _ hfit'
            obtain ⟨cs2, hrun2, hs2, hlow, hat⟩ := run_storeRow (P := P) (b := r.b) (p := r.base + o + n * inf.size) (e := e) (fr := fr') new'.toList 0 w cs' hw hfr
              (by have := hnr.1; simp only [Array.length_toList]; omega) (fun u hu => by
                obtain ⟨j, hj⟩ := List.mem_iff_getElem?.1 hu
                have hj : new'[j]? = some u := by simpa using hj
                have hjl := (Array.getElem?_eq_some_iff.1 hj).1
                have hjl' : j < new.size := by have := hnr.1; omega
                have hvr := hnr.2 j _ u (Array.getElem?_eq_getElem hjl') hj
                rw [← hvr.oneCell]
                exact (Array.all_eq_true.1 hone) j hjl')
            have hcl : ∀ (k : Nat) (v : Value), old[k]? = some v → ∃ v', cs'[r.base + o + k]? = some v' ∧ VRel ι v v' := by
              intro k v hk
              simp only [cellsOfD, Option.map_eq_some_iff] at hcd
              obtain ⟨⟨cs0, H1⟩, hl, hcd⟩ := hcd
              have hl := okRun_some hl
              simp only [Prod.mk.injEq] at hcd
              obtain ⟨_, rfl⟩ := hcd
              obtain ⟨v', hv', _, hvr⟩ := hrel.cell hr (loadCells_get hrel hl hk)
              rw [cell_of hw, ← Nat.add_assoc] at hv'
              exact ⟨v', hv', hvr⟩
            have hst := hrel.regrow (rn := ⟨r.b, r.base + o, (n + m) * inf.size, r.room - o, inf.size, true⟩) (o := .cells (old ++ new) e (1, 0)) (o' := .cells cs2 e fr') hr hh rfl rfl rfl rfl (by
              refine .cells _ _ _ _ _ ⟨?_, .inr (.inr ⟨rfl, fun j hj => hfr j (by omega), rfl, ?_, ?_, inf, hi, rfl, hp⟩)⟩ fun j v hj => ?_
              · simp only [Array.size_append]; omega
              · show r.base + o + (r.room - o) ≤ cs2.size
                omega
              · show (old ++ new).size ≤ r.room - o
                simp only [Array.size_append]; omega
              · show ∃ v', cs2[r.base + o + j]? = some v' ∧ _
                rw [Array.getElem?_append] at hj
                split at hj
                · rename_i hjo
                  obtain ⟨v', hv', hvr⟩ := hcl j v hj
                  exact ⟨v', by rw [hlow _ (by omega)]; exact hv', hvr.mono (Emb.le_put hrel.fresh)⟩
                · rename_i hjo
                  obtain ⟨v', hv', hvr⟩ := hnr.get hj
                  refine ⟨v', ?_, hvr.mono (Emb.le_put hrel.fresh)⟩
                  have := hat (j - old.size) v' (by simpa using hv')
                  rw [show r.base + o + j = r.base + o + n * inf.size + 0 + (j - old.size) by omega]; exact this)
            refine ⟨_, .slice (some ⟨r.b, r.base + o, none⟩) (n + m) c', _, ?_, hst, ?_⟩
            · rw [run_append_head ht0 hu hi hsrc hfit']
              simp only [add_plain, hrun2, Result.andThen_ok]
            · refine .sl H.heap.size 0 _ _ ⟨r.b, r.base + o, none⟩ c' ⟨r.b, r.base + o, (n + m) * inf.size, r.room - o, inf.size, true⟩ (Emb.put_same _ _ _) ⟨Nat.le_refl _, hfit', .inl rfl, fun hg => (by cases hg), fun _ => ⟨.inr ?_, ?_⟩⟩
              · simp
              · show 0 + c' * inf.size ≤ r.room - o
                omega
          · obtain ⟨cap, k, hcap, hrun⟩ := run_append_grow (ty := ty) ht0 hu hi hz hsrc hfit' hof hb0 hb1 hb2
            obtain ⟨ι1, hst, hv⟩ := grow_step hrel hi hp hzs (k := k) hor hnr hos hns hcap
            refine ⟨ι1, _, _, hrun, hst.trans (hst.rel.kill _ ?_), hv⟩
            intro x hx
            have hlt := (Array.getElem?_eq_some_iff.1 hh).1
            simp only [pushObj, Array.getElem?_push] at hx
            rw [if_neg (by omega), hh] at hx
            injection hx with hx; subst hx; rfl
    · cases h
end Go.Proofs.YtmmmdmandocbhaaDoor.Den
end

section
/- Every operation goes side by side. -/
set_option linter.unusedVariables false
set_option linter.unusedSimpArgs false
namespace Go.Proofs.YtmmmdmandocbhaaDoor.Den
variable {P : Program} {ι : Emb}

theorem Sim.goes {α β : Type} {s : Sem α} {s' : Sem β} {R : Emb → α → β → Prop} (h : Sim P ι s s' R) {H w H1 : World} (hrel : Rel P ι H w) {x : α} (hx : okRun (s.run P H) = some (x, H1)) : Goes P ι H w H1 s' R x :=
  h ι H w (Emb.le_refl _) hrel x H1 (okRun_some hx)
theorem Goes.val {H w H1 : World} {s' : Sem Value} {v : Value} (h : Goes P ι H w H1 s' VRel v) : Goes P ι H w H1 (do Pure.pure (Next.value (← s'))) NRel (.value v) := by
  obtain ⟨ι1, v', w1, hr, hs, hv⟩ := h
  exact ⟨ι1, .value v', w1, by simp only [Sem.run_bind, hr, Result.andThen_ok, Sem.run_pure], hs, .value _ _ hv⟩
theorem Goes.unit {H w H1 : World} {s' : Sem Unit} (h : Goes P ι H w H1 s' (fun _ _ _ => True) ()) : Goes P ι H w H1 (do s'; Pure.pure Next.skip) NRel .skip := by
  obtain ⟨ι1, v', w1, hr, hs, hv⟩ := h
  exact ⟨ι1, .skip, w1, by simp only [Sem.run_bind, hr, Result.andThen_ok, Sem.run_pure], hs, .skip⟩

theorem eqBin_sound {H w : World} (hrel : Rel P ι H w) {t : TypeId} {x x' y y' : Value} {b : Bool} (hx : VRel ι x x') (hy : VRel ι y y') (h : eqD P t x y H = some b) (ox oy : Operand) :
    (do Go.eqGuard .eql t ox oy x' y'; Go.binOp .eql t x' y').run P w = .ok (.bool b) w ∧ (do Go.eqGuard .neq t ox oy x' y'; Go.binOp .neq t x' y').run P w = .ok (.bool !b) w := by
  have he : (Op.equal t x' y').run P w = .ok b w := eqD_sound hrel hx hy h 9999
  unfold eqD at h
  split at h
  all_goals first | cases h | skip
  all_goals
    cases hx
    cases hy
    constructor <;> simp only [Go.eqGuard, Go.binOp, Sem.run_bind, Sem.run_pure, Result.andThen_ok] <;> simp [he]

theorem Sim.lenOf {v v' : Value} (hv : VRel ι v v') : Sim P ι (Builtin.lenOf v) (Builtin.lenOf v') (fun _ n n' => n = n' ∧ ∀ a l c, v = .slice a l c → n = l) := by
  cases hv with
  | slNil n c => exact .pure fun _ _ => ⟨rfl, fun a l c e => by cases e; rfl⟩
  | sl i o n c a' c' r hr hs => exact .pure fun _ _ => ⟨rfl, fun a l c e => by cases e; rfl⟩
  | string s => exact .pure fun _ _ => ⟨rfl, fun a l c e => by cases e⟩
  | _ => exact .halt
theorem Sim.firstCells {v v' : Value} (hv : VRel ι v v') (size n : Nat) (hn : ∀ a l c, v = .slice a l c → n ≤ l) :
    Sim P ι (Builtin.firstCells size n v) (Builtin.firstCells size n v') (fun ι1 cs cs' => ARel ι1 cs cs' ∧ (n = 0 → cs = #[])) := by
  cases hv with
  | slNil n c => exact .pure fun _ _ => ⟨.empty, fun _ => rfl⟩
  | sl i o l c a' c' r hr hs =>
    have hl := hn _ _ _ rfl
    unfold Builtin.firstCells
    by_cases h0 : n = 0
    · subst h0
      simp only [Nat.zero_mul, loadCells, loadCellsFrom]
      exact .pure fun _ _ => ⟨.empty, fun _ => rfl⟩
    · obtain ⟨h1, h2, h3, _⟩ := hs
      rcases h3 with rfl | h3
      · exact (Sim.loadCells hr (n * size)).imp fun ι1 x x' _ hx => ⟨hx, fun e => absurd e h0⟩
      · omega
  | string s => exact .pure fun _ _ => ⟨.map _ _ _ fun _ _ _ => .int _ _, fun e => by subst e; apply Array.eq_empty_of_size_eq_zero; simp [ByteArray.extract, ByteArray.copySlice]⟩
  | _ => exact .halt
theorem Sim.copy (ts : Array TypeId) (ty : TypeId) {xs xs' : Array Value} (h : ARel ι xs xs') : Sim P ι (Builtin.copy_ ts ty xs) (Builtin.copy_ ts ty xs') VRel := by
  unfold Builtin.copy_
  cases ht : ts[0]? with
  | none => exact .halt
  | some dt =>
  cases hd : xs[0]? with
  | none => exact .halt
  | some d =>
  cases hs : xs[1]? with
  | none => exact .halt
  | some s =>
  obtain ⟨d', hd', hdr⟩ := h.get hd
  obtain ⟨s', hs', hsr⟩ := h.get hs
  simp only [hd', hs']
  refine (HF.underlying dt).sim.bind fun ι1 u u' hle hu => ?_
  subst hu
  split
  case h_2 => exact .halt
  rename_i elem
  cases hdr.mono hle with
  | slNil n c =>
    refine (Sim.lenOf (hsr.mono hle)).bind fun ι2 m m' hle2 hm => ?_
    obtain ⟨rfl, hm⟩ := hm
    refine (HF.sizeOf elem).sim.bind fun ι3 z z' hle3 hz => ?_
    subst hz
    refine (Sim.firstCells ((hsr.mono hle).mono (Emb.le_trans hle2 hle3)) z (Nat.min m n) fun a l c e => by rw [hm a l c e]; exact Nat.min_le_left _ _).bind fun ι4 cs cs' hle4 hcs => ?_
    exact .pure fun _ _ => .int _ _
  | sl i o n c a' c' r hr hsl =>
    refine (Sim.lenOf (hsr.mono hle)).bind fun ι2 m m' hle2 hm => ?_
    obtain ⟨rfl, hm⟩ := hm
    refine (HF.sizeOf elem).sim.bind fun ι3 z z' hle3 hz => ?_
    subst hz
    refine (Sim.firstCells ((hsr.mono hle).mono (Emb.le_trans hle2 hle3)) z (Nat.min m n) fun a l c e => by rw [hm a l c e]; exact Nat.min_le_left _ _).bind fun ι4 cs cs' hle4 hcs => ?_
    obtain ⟨hcs, h0⟩ := hcs
    obtain ⟨h1, h2, h3, _⟩ := hsl
    have hr4 := hle4 _ _ (hle3 _ _ (hle2 _ _ hr))
    refine Sim.bind (R := fun _ _ _ => True) ?_ fun ι5 _ _ _ _ => .pure fun _ _ => .int _ _
    rcases h3 with rfl | h3
    · exact Sim.storeCells _ _ 0 ι4 hr4 hcs.toList
    · have hn0 : n = 0 := by omega
      subst hn0
      have h0 := h0 (by simp)
      subst h0
      have h0' : cs' = #[] := Array.eq_empty_of_size_eq_zero hcs.1.symm
      subst h0'
      exact .pure fun _ _ => trivial
  | _ => exact .halt

theorem Sim.clearSlice (hP : Good P) (ts : Array TypeId) (ty : TypeId) {xs xs' : Array Value} (h : ARel ι xs xs') {b : Option Addr} {n c : Nat} (hs : xs.getD 0 undef = .slice b n c) : Sim P ι (Builtin.clear_ ts ty xs) (Builtin.clear_ ts ty xs') VRel := by
  unfold Builtin.clear_
  cases ht : ts[0]? with
  | none => exact .halt
  | some dt =>
  have hlt : 0 < xs.size := by
    rcases Nat.eq_zero_or_pos xs.size with h0 | h0
    · exfalso
      rw [Array.getD_eq_getD_getElem?, Array.getElem?_eq_none (by omega)] at hs
      cases hs
    · exact h0
  have hd : xs[0]? = some (.slice b n c) := by
    rw [Array.getD_eq_getD_getElem?, Array.getElem?_eq_getElem hlt] at hs
    rw [Array.getElem?_eq_getElem hlt]
    simpa using hs
  obtain ⟨d', hd', hdr⟩ := h.get hd
  rw [hd, hd']
  simp only
  refine (HF.underlying dt).sim.bind fun ι1 u u' hle hu => ?_
  subst hu
  cases hdr.mono hle with
  | slNil n c =>
    simp only
    exact Sim.pure fun _ _ => .undef
  | sl i o n c a' c' r hr hsl =>
    cases n with
    | zero =>
      simp only
      exact Sim.pure fun _ _ => .undef
    | succ n =>
      cases u with
      | slice elem =>
        simp only
        refine (Sim.zeroValue hP elem).bind fun ι2 z z' hle2 hz => ?_
        obtain ⟨h1, h2, h3, _⟩ := hsl
        rcases h3 with rfl | h3
        · exact (Sim.storeCells _ _ 0 ι2 (hle2 _ _ hr) (zeroCells_rel hz.cells _).toList).bind fun ι3 _ _ _ _ => .pure fun _ _ => .undef
        · omega
      | _ => exact .halt

theorem zip_rel : ∀ (ps : List Tmp) (as as' : List Value) (t t' : Array Value), VsRel ι as as' → ARel ι t t' →
    ARel ι ((ps.zip as).foldl (fun tmps (t, a) => tmps.setIfInBounds t a) t) ((ps.zip as').foldl (fun tmps (t, a) => tmps.setIfInBounds t a) t')
  | [], as, as', t, t', h, ht => by simpa using ht
  | p :: ps, [], [], t, t', h, ht => by simpa using ht
  | p :: ps, [], _ :: _, t, t', h, ht => by simp [VsRel] at h
  | p :: ps, _ :: _, [], t, t', h, ht => by simp [VsRel] at h
  | p :: ps, a :: as, a' :: as', t, t', h, ht => by
    obtain ⟨h1, h2⟩ := h.cons
    simp only [List.zip_cons_cons, List.foldl_cons]
    exact zip_rel ps as as' _ _ h2 (ht.set p h1)

theorem find_indexByte {fn : Func} (h : fn.name = "internal/bytealg.IndexByteString") (ho : fn.origin = "") : Extern.findNext fn = none ∧ Extern.find fn = some Extern.BytealgIndexByte.indexByte := by
  constructor
  · unfold Extern.findNext
    rw [h, ho]
    rfl
  · unfold Extern.find
    rw [h, ho]
    rfl
theorem externD_sound {fn : Func} {f : FuncId} {args args' : Array Value} {v : Value} {w : World} (hf : P.funcs[f]? = some fn) (hc : fn.name = "runtime.NumGoroutine" ∨ fn.body.isNone = true) (hx : ARel ι args args') (h : externD fn args = some v) : (callFunc f args').run P w = .ok (.value v) w ∧ VRel ι v v := by
  unfold externD at h
  split at h
  case isFalse => cases h
  rename_i hc2
  simp only [Bool.and_eq_true, beq_iff_eq] at hc2
  obtain ⟨⟨hn, ho⟩, hs⟩ := hc2
  have hnn : (fn.name == "runtime.NumGoroutine") = false := by rw [hn]; rfl
  have hb : fn.body.isNone = true := by
    rcases hc with hc | hc
    · rw [hn] at hc; exact absurd hc (by decide)
    · exact hc
  obtain ⟨h1, h2⟩ := find_indexByte hn ho
  split at h
  case h_2 => cases h
  rename_i s c h3 h4
  injection h with h; subst h
  have e : args = #[.string s, .int .u8 c] := by
    apply Array.ext
    · simp [hs]
    · intro i hi1 hi2
      match i with
      | 0 => simpa [Array.getD, hs] using h3
      | 1 => simpa [Array.getD, hs] using h4
      | i + 2 => simp at hi2; omega
  subst e
  have e' : args' = #[.string s, .int .u8 c] := by
    have hs' : args'.size = 2 := by rw [← hx.1]; rfl
    apply Array.ext
    · simp [hs']
    · intro i hi1 hi2
      match i with
      | 0 => exact (hx.2 0 _ _ rfl (Array.getElem?_eq_getElem hi1)).const_eq1 rfl
      | 1 => exact (hx.2 1 _ _ rfl (Array.getElem?_eq_getElem hi1)).const_eq1 rfl
      | i + 2 => simp at hi2; omega
  subst e'
  refine ⟨?_, constOk1_rel rfl⟩
  rw [run_callFunc_extern hf hnn hb h1 h2, Lib.run_indexByteString]
  rfl
theorem callD_sound {H w : World} (hrel : Rel P ι H w) {g g' : Value} {xs xs' : Array Value} {x : Next} (hg : VRel ι g g') (hx : ARel ι xs xs') (h : callD P g xs H = some x) :
    ∃ d x', (Deferred.ofValue g' xs').run P w = .ok d w ∧ (invoke d.target d.args).run P w = .ok x' w ∧ NRel ι x x' := by
  unfold callD at h
  split at h
  · rename_i f fs cs
    split at h
    case h_2 => cases h
    rename_i fn hfn
    split at h
    case isTrue =>
      rename_i hc
      simp only [Option.map_eq_some_iff] at h
      obtain ⟨v, h, rfl⟩ := h
      cases hg with
      | func _ _ _ fs' _ cs' hfr hf hcs hfs hcss =>
        cases hfr
        obtain ⟨h1, h2⟩ := externD_sound (w := w) hfn (by simpa using hc) ((ARel.append ⟨hf, hfs⟩ hx).append ⟨hcs, hcss⟩) h
        exact ⟨_, _, rfl, h1, .value _ _ h2⟩
    rename_i hc
    simp only [Option.some.injEq] at h
    subst h
    cases hg with
    | func _ _ _ fs' _ cs' hfr hf hcs hfs hcss =>
      cases hfr
      simp only [Bool.or_eq_true, not_or, Bool.not_eq_true] at hc
      refine ⟨_, _, rfl, ?_, .enter _ _ ((fs' ++ xs') ++ cs') ((ARel.append ⟨hf, hfs⟩ hx).append ⟨hcs, hcss⟩)⟩
      simp only [invoke, callFunc, Sem.run_bind, run_program, Result.andThen_ok, hfn, hc.1, hc.2, Bool.false_eq_true, if_false, Sem.run_pure]
  · rename_i l fs cs
    split at h
    case h_2 => cases h
    rename_i r hl
    split at h
    case isFalse => cases h
    rename_i hn
    simp only [Option.some.injEq] at h
    subst h
    cases hg with
    | func _ _ _ fs' _ cs' hfr hf hcs hfs hcss =>
      cases hfr with
      | yield _ rl hrl =>
      obtain ⟨rl', o', hr', hw, ho⟩ := hrel.obj l _ hl rfl
      rw [hrl] at hr'; injection hr' with hr'; subst hr'
      cases ho with
      | loop _ r' hlr =>
      have hxs := ARel.append ⟨hf, hfs⟩ hx
      refine ⟨_, _, rfl, ?_, .round l rl r.fn r'.fn _ ((r'.params.zip (fs' ++ xs')).foldl (fun tmps (t, a) => tmps.setIfInBounds t a) r'.tmps) r.assign r.body hrl ?_⟩
      · have hn' : (fs' ++ xs').size = r'.params.size := by rw [← hxs.1, hn, hlr.params]
        simp only [invoke, Instr.yield, Instr.getLoop, Sem.run_bind, run_getObj' hw (by intro _ _ _ e; cases e), Result.andThen_ok, hn', ne_eq, not_true_eq_false, if_false, Sem.run_pure, hlr.assign, hlr.body]
      · rw [← hlr.params, ← Array.foldl_toList, ← Array.foldl_toList, Array.toList_zip, Array.toList_zip]
        exact zip_rel _ _ _ _ _ hxs.toList hlr.tmps
  · cases h
end Go.Proofs.YtmmmdmandocbhaaDoor.Den
end
