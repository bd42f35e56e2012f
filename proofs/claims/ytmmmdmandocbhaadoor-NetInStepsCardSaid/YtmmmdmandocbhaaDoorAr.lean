/- Helpers of this claim: an evaluator over plain values and its laws. -/
import Derived.Test.YtmmmdmandocbhaaDoorAq
section
/- Rules for simp: shifts, bits; append of zeros, append within the room, cuts with a third bound, copy of a string. -/
set_option linter.unusedVariables false
set_option linter.unusedSimpArgs false
namespace Go.Proofs.YtmmmdmandocbhaaDoor.Den
variable {P : Program} {H : World}
section
variable {t : TypeId} {x y : Operand} {k l : IntKind} {n m : Int}
theorem bX_shl (h : 0 ≤ m) : binX P .shl t x y (.int k n) (.int l m) H = some (.value (.int k (k.wrap (n * 2 ^ (min m.toNat k.bits)))), H) := by
  unfold binX; simp only [vNilOp]
  exact binV_int (by simp [Go.binOp, Op.shift, okRun, show ¬ m < 0 by omega]) rfl
theorem bX_shr (h : 0 ≤ m) : binX P .shr t x y (.int k n) (.int l m) H = some (.value (.int k (n.fdiv (2 ^ (min m.toNat k.bits)))), H) := by
  unfold binX; simp only [vNilOp]
  exact binV_int (by simp [Go.binOp, Op.shift, okRun, show ¬ m < 0 by omega]) rfl
@[simp] theorem bX_and : binX P .and t x y (.int k n) (.int k m) H = some (.value (.int k (k.wrap (BitVec.ofInt k.bits n &&& BitVec.ofInt k.bits m).toNat)), H) := by
  unfold binX; simp only [vNilOp]
  exact binV_int (by simp [Go.binOp, Op.intBits, okRun]) rfl
@[simp] theorem bX_or : binX P .or t x y (.int k n) (.int k m) H = some (.value (.int k (k.wrap (BitVec.ofInt k.bits n ||| BitVec.ofInt k.bits m).toNat)), H) := by
  unfold binX; simp only [vNilOp]
  exact binV_int (by simp [Go.binOp, Op.intBits, okRun]) rfl
end
theorem bX_func_nil {t : TypeId} {x y : Operand} {f} {a b : Array Value} {e1 e2 : Array TypeId} {e3 : Bool} (hu : P.underlying t = some (.func e1 e2 e3)) : binX P .eql t x y (.func f a b) .nilFunc H = some (.value (.bool false), H) := by
  unfold binX
  simp only [vNilOp, vNil, Option.map_none]
  unfold binV
  rw [if_neg (by simp [flatFor, isEq, flat, flat1])]
  simp [eqD, hu]
theorem bX_nil_nil {t : TypeId} {x y : Operand} {e1 e2 : Array TypeId} {e3 : Bool} (hu : P.underlying t = some (.func e1 e2 e3)) : binX P .eql t x y .nilFunc .nilFunc H = some (.value (.bool true), H) := by
  unfold binX
  simp only [vNilOp, vNil, Option.map_none]
  unfold binV
  rw [if_pos (by simp [flatFor, isEq, flat, flat1])]
  have hg : ∀ w, (Go.eqGuard .eql t x y .nilFunc .nilFunc).run P w = .ok () w := by intro w; simp [Go.eqGuard]
  have he : (Op.equal t .nilFunc .nilFunc).run P H = .ok true H := by
    have : ∀ d, (Op.equalIn (d + 1) t .nilFunc .nilFunc).run P H = .ok true H := fun d => by
      simp only [Op.equalIn, Sem.run_bind, run_underlying' hu, Result.andThen_ok, Sem.run_pure]
    exact this 9999
  simp only [Sem.run_bind, hg, Result.andThen_ok, Go.binOp, he, Sem.run_pure, okRun, flat1]
  rfl
theorem bX_ptr_nil2 {t e : TypeId} {x y : Operand} (hu : P.underlying t = some (.pointer e)) : binX P .eql t x y (.pointer none) (.pointer none) H = some (.value (.bool true), H) := by
  unfold binX
  simp only [vNilOp, vNil, Option.map_none]
  unfold binV
  rw [if_pos (by simp [flatFor, isEq, flat, flat1])]
  have hg : ∀ w, (Go.eqGuard .eql t x y (.pointer none) (.pointer none)).run P w = .ok () w := by intro w; simp [Go.eqGuard]
  have he : (Op.equal t (.pointer none) (.pointer none)).run P H = .ok true H := by
    have : ∀ d, (Op.equalIn (d + 1) t (.pointer none) (.pointer none)).run P H = .ok true H := fun d => by
      simp only [Op.equalIn, Sem.run_bind, run_underlying' hu, Result.andThen_ok, Sem.run_pure]
      rfl
    exact this 9999
  simp only [Sem.run_bind, hg, Result.andThen_ok, Go.binOp, he, Sem.run_pure, okRun, flat1]
  rfl
@[simp] theorem X_min (ts : Array TypeId) (k l : IntKind) (n m : Int) : builtinX P .min ts #[.int k n, .int l m] H = some (.value (.int k (if m < n then m else n)), H) := _root_.id rfl
@[simp] theorem indexQ_agg (t : TypeId) (cs : Array Value) (k : IntKind) (i : Int) : indexQ P t (.agg cs) (.int k i) = match P.underlying t with
    | some (.array n e) => match P.info? e with
      | some inf => if 0 ≤ i ∧ i < n then partQ P e cs (i.toNat * inf.size) else none
      | none => none
    | _ => none := _root_.id rfl
/-! ### rows -/
theorem overL_list : ∀ (l cs : List Value) (o : Nat), o + l.length ≤ cs.length → overL cs.toArray o l = (cs.take o ++ l ++ cs.drop (o + l.length)).toArray
  | [], cs, o, h => by simp [overL]
  | v :: l, cs, o, h => by
    simp only [List.length_cons] at h
    rw [overL]
    have : cs.toArray.setIfInBounds o v = (cs.set o v).toArray := by simp
    rw [this, overL_list l (cs.set o v) (o + 1) (by simp; omega)]
    congr 1
    rw [List.drop_set_of_lt (by omega), List.take_set, List.length_cons, show o + (l.length + 1) = o + 1 + l.length by omega]
    have hlt : o < cs.length := by omega
    rw [List.take_succ_eq_append_getElem hlt, List.set_append_right _ _ (by simp; omega)]
    simp [Nat.min_eq_left (Nat.le_of_lt hlt)]
theorem appended_zeros (P : Program) {t2 : TypeId} {k k2 : IntKind} {inf : TypeInfo} {z : Value} {n : Nat} (hu : P.underlying t2 = some (.int k)) (hz : inf.zero = some z) (hz1 : z.cells = #[z]) (hs : inf.size = 1) (hn : n < 2 ^ 63) (hb : n * inf.bytes ≤ 2 ^ 40) : appended P (some t2) inf (.int k2 (n : Int)) H = some (n, (List.replicate n z).toArray) := by
  unfold appended
  simp only [Option.bind_some, hu]
  rw [wrap64 (by omega) (by omega)]
  rw [if_pos ⟨by omega, by rw [← Int.natCast_mul]; exact_mod_cast hb⟩]
  simp only [hz, hz1, hs]
  rw [if_pos (by simp), Int.toNat_natCast]
  congr 2
  apply Array.toList_inj.1
  rw [zeroCells_one]
theorem builtin_append {t1 t2 : TypeId} {v x : Value} {r : Value × World} (h : lappend P #[t1, t2] v x H = some r) : builtinX P .append #[t1, t2] #[v, x] H = some (.value r.1, r.2) := by
  show (if (2 : Nat) = 2 then (lappend P #[t1, t2] v x H).map fun r => (Next.value r.1, r.2) else none) = _
  rw [if_pos rfl, h]; rfl
/-- append where there is room: the row is written on. -/
theorem append_room (P : Program) {r n c m : Nat} {e : TypeId} {cs : Array Value} {fr : Nat × Nat} {new : List Value} {x : Value} {t1 t2 : TypeId} {inf : TypeInfo} (hr : getO H r = some (.cells cs e fr)) (hfr : mayW fr = true) (ht : P.underlying t1 = some (.slice e)) (hap : appended P (some t2) inf x H = some (m, new.toArray))
    (hi : P.info? e = some inf) (hes : inf.size = 1) (hnl : new.length = m) (hnew : new.all Value.oneCell' = true) (hc : c ≤ cs.size) (hroom : n + m ≤ c) :
    builtinX P .append #[t1, t2] #[.slice (some ⟨r, 0, none⟩) n c, x] H = some (.value (.slice (some ⟨r, 0, none⟩) (n + m) c), setO H r (.cells (overL cs n new) e fr)) := by
  have h1 : ((#[t1, t2] : Array TypeId)[0]?).bind P.underlying = some (.slice e) := ht
  have h2 : (#[t1, t2] : Array TypeId)[1]? = some t2 := rfl
  have hst := run_overL (P := P) hfr new 0 n cs H hr (by omega) (fun v hv => List.all_eq_true.1 hnew v hv)
  refine builtin_append (r := (_, _)) ?_
  simp only [lappend, h1, hi, h2, hap, if_pos hroom, hes, Nat.zero_add, Nat.mul_one, hst, okRun, Option.map_some]
  rfl
theorem slice_heap3 (P : Program) {t e : TypeId} {r o n c : Nat} {l h m : Nat} {cs : Array Value} {fr : Nat × Nat} {inf : TypeInfo} (hu : P.underlying t = some (.slice e)) (hi' : P.info? e = some inf) (hr : getO H r = some (.cells cs e fr)) (hfr : mayW fr = true) (hnc : n ≤ c)
    (hl : l ≤ h) (hh : h ≤ m) (hm : m ≤ c) : sliceX P t (.slice (some ⟨r, o, none⟩) n c) (some (.int .i64 l)) (some (.int .i64 h)) (some (.int .i64 m)) H = some (.value (.slice (some ⟨r, o + l * inf.size, none⟩) (h - l) (m - l)), H) := by
  unfold sliceX
  have hv : vSliceOp P t (.slice (some ⟨r, o, none⟩) n c) (some (.int .i64 l)) (some (.int .i64 h)) (some (.int .i64 m)) = none := rfl
  rw [hv]
  simp only
  have hb : (Instr.sliceBounds true n c (some (.int .i64 l)) (some (.int .i64 h)) (some (.int .i64 m))).run P H = .ok (l, h, m) H := by
    simp [Instr.sliceBounds, sliceBound_ok _ (show (0 : Int) ≤ l by omega) (show (l : Int) ≤ h by omega), sliceBound_ok _ (show (0 : Int) ≤ h by omega) (show (h : Int) ≤ m by omega), sliceBound_ok _ (show (0 : Int) ≤ m by omega) (show (m : Int) ≤ c by omega)]
  have hbase : baseOk H (some ⟨r, o, none⟩) e = true := by
    unfold baseOk
    have hr' : H.heap[r]? = some (.cells cs e fr) := hr
    simp only [hr']
    unfold mayW at hfr
    simp only [Bool.or_eq_true, beq_iff_eq] at hfr
    rcases hfr with rfl | rfl <;> simp
  simp only [lslice, hu, hi', hb, okRun, hbase, hnc, decide_true, Bool.and_self, if_true, Option.map_some]
/-- copy of a string's bytes into a row. -/
theorem copy_str (P : Program) {t1 t2 e : TypeId} {r o n c : Nat} {cs : Array Value} {fr : Nat × Nat} {inf : TypeInfo} {l : List UInt8} (hu : P.underlying t1 = some (.slice e)) (hi : P.info? e = some inf) (hs : inf.size = 1) (hr : getO H r = some (.cells cs e fr)) (hfr : mayW fr = true) (hn : l.length ≤ n) (hb : o + l.length ≤ cs.size) :
    builtinX P .copy #[t1, t2] #[.slice (some ⟨r, o, none⟩) n c, .string (sB l)] H = some (.value (.int .i64 l.length), setO H r (.cells (overL cs o (l.map fun b => Value.int .u8 b.toNat)) e fr)) := by
  have hst := run_overL (P := P) hfr (l.map fun b => Value.int .u8 b.toNat) 0 o cs H hr (by simpa using hb) (fun v hv => by obtain ⟨b, _, rfl⟩ := List.mem_map.1 hv; rfl)
  rw [Nat.add_zero] at hst
  have key : okRun ((Builtin.copy_ #[t1, t2] 0 #[.slice (some ⟨r, o, none⟩) n c, .string (sB l)]).run P H) = some (.int .i64 l.length, setO H r (.cells (overL cs o (l.map fun b => Value.int .u8 b.toNat)) e fr)) := by
    unfold Builtin.copy_
    have hmin : Nat.min l.length n = l.length := Nat.min_eq_left hn
    have hfc : (Builtin.firstCells inf.size l.length (.string (sB l))).run P H = .ok ((l.map fun b => Value.int .u8 b.toNat).toArray) H := by
      rw [hs]
      unfold Builtin.firstCells
      simp
    simp only [List.getElem?_toArray, List.getElem?_cons_zero, List.getElem?_cons_succ, Sem.run_bind, run_underlying' hu, Result.andThen_ok, Builtin.lenOf, Sem.run_pure, sB_size, hmin, run_sizeOf' hi, hfc, hst, okRun]
    rfl
  show (builtinD P .copy #[t1, t2] #[.slice (some ⟨r, o, none⟩) n c, .string (sB l)] H).map _ = _
  have hd : builtinD P .copy #[t1, t2] #[.slice (some ⟨r, o, none⟩) n c, .string (sB l)] H = okRun ((Builtin.copy_ #[t1, t2] 0 #[.slice (some ⟨r, o, none⟩) n c, .string (sB l)]).run P H) := rfl
  rw [hd, key]; rfl
end Go.Proofs.YtmmmdmandocbhaaDoor.Den
end
