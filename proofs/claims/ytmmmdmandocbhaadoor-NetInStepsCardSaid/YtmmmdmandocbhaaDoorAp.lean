/- Helpers of this claim: an evaluator over plain values and its laws. -/
import Derived.Test.YtmmmdmandocbhaaDoorAo
section
/- Maps, as lists of keys and values in the order in which they came in. -/
set_option linter.unusedVariables false
set_option linter.unusedSimpArgs false
set_option linter.unusedSectionVars false
namespace Go.Proofs.YtmmmdmandocbhaaDoor.Den
section
variable {α : Type} [DecidableEq α]
def lookM (k : α) : List (α × Value) → Option Value
  | [] => none
  | (a, v) :: L => if a = k then some v else lookM k L
def putM (k : α) (v : Value) : List (α × Value) → List (α × Value)
  | [] => [(k, v)]
  | (a, w) :: L => if a = k then (k, v) :: L else (a, w) :: putM k v L
def delM (k : α) : List (α × Value) → List (α × Value)
  | [] => []
  | (a, w) :: L => if a = k then L else (a, w) :: delM k L
def kvs (es : List MapEntry) : List (Value × Value) := es.map fun e => (e.key, e.val)
def encM (K : α → Value) (L : List (α × Value)) : List (Value × Value) := L.map fun p => (K p.1, p.2)
/-- Keys of a kind that is compared at once. -/
structure KeyOk (d : TypeDesc) (K : α → Value) : Prop where
  kind : keyKind d = true
  flat : ∀ a, flat1 (K a) = true
  same : ∀ a b, Instr.sameNow d (K a) (K b) = some (decide (a = b))
theorem keyInt (k : IntKind) : KeyOk (.int k) (fun n : Int => Value.int k n) := ⟨rfl, fun _ => rfl, fun a b => by
  simp [Instr.sameNow]
  exact Bool.beq_eq_decide_eq a b⟩
theorem keyString : KeyOk .string (fun l : List UInt8 => Value.string (sB l)) := ⟨rfl, fun _ => rfl, fun a b => by
  simp [Instr.sameNow, sB_beq]⟩
theorem find_spec {d : TypeDesc} {K : α → Value} (hk : KeyOk d K) (k : α) : ∀ (L : List (α × Value)) (es : List MapEntry) (i : Nat), kvs es = encM K L →
    (Instr.findNow d (K k) es i = some none ∧ lookM k L = none ∧ delM k L = L ∧ ∀ v, putM k v L = L ++ [(k, v)]) ∨
    ∃ j w, Instr.findNow d (K k) es i = some (some (i + j, w)) ∧ j < es.length ∧ lookM k L = some w ∧ kvs (es.eraseIdx j) = encM K (delM k L) ∧ ∀ v, kvs (es.modify j fun e => { e with key := K k, val := v }) = encM K (putM k v L)
  | [], [], i, h => .inl ⟨rfl, rfl, rfl, fun v => rfl⟩
  | [], _ :: _, i, h => by simp [kvs, encM] at h
  | _ :: _, [], i, h => by simp [kvs, encM] at h
  | (a, w) :: L, e :: es, i, h => by
    simp only [kvs, encM, List.map_cons, List.cons.injEq, Prod.mk.injEq] at h
    obtain ⟨⟨h1, h2⟩, h3⟩ := h
    have hs := hk.same k a
    rw [← h1] at hs
    by_cases hak : a = k
    · subst hak
      refine .inr ⟨0, w, ?_, by simp, by simp [lookM], ?_, fun v => ?_⟩
      · unfold Instr.findNow
        rw [hs]; simp [h2]
      · simpa [kvs, encM, delM] using h3
      · simp only [putM, if_true, List.modify_zero_cons, kvs, encM, List.map_cons]
        rw [← h3]
    · have hka : ¬ k = a := fun e => hak e.symm
      have hf : Instr.findNow d (K k) (e :: es) i = Instr.findNow d (K k) es (i + 1) := by
        conv => lhs; unfold Instr.findNow
        rw [hs]; simp [hka]
      rcases find_spec hk k L es (i + 1) h3 with ⟨g1, g2, g3, g4⟩ | ⟨j, w', g1, gl, g2, g3, g4⟩
      · exact .inl ⟨by rw [hf]; exact g1, by simp [lookM, hak, g2], by simp [delM, hak, g3], fun v => by simp [putM, hak, g4 v]⟩
      · refine .inr ⟨j + 1, w', by rw [hf, g1, show i + 1 + j = i + (j + 1) by omega], by simpa using gl, by simp [lookM, hak, g2], ?_, fun v => ?_⟩
        · simp only [List.eraseIdx_cons_succ, delM, hak, if_false, kvs, encM, List.map_cons, h1, h2]
          congr 1
        · simp only [List.modify_succ_cons, putM, hak, if_false, kvs, encM, List.map_cons, h1, h2]
          congr 1
          exact g4 v
/-- A map of the heap, in the order in which its keys came in. -/
def MapIs (K : α → Value) (H : World) (r : Nat) (L : List (α × Value)) : Prop := ∃ es c, getO H r = some (.map es c) ∧ kvs es.toList = encM K L
theorem MapIs.lt {K : α → Value} {H : World} {r : Nat} {L : List (α × Value)} (h : MapIs K H r L) : r < H.heap.size := by
  obtain ⟨es, c, h, _⟩ := h
  exact getO_lt h
theorem MapIs.keep {K : α → Value} {H H' : World} {r : Nat} {L : List (α × Value)} (h : MapIs K H r L) (hk : ∀ o, getO H r = some o → getO H' r = some o) : MapIs K H' r L := by
  obtain ⟨es, c, h, h2⟩ := h
  exact ⟨es, c, hk _ h, h2⟩
theorem MapIs.set {K : α → Value} {H : World} {r : Nat} {L : List (α × Value)} (h : MapIs K H r L) {i : Nat} (o : Obj) (hi : r ≠ i) : MapIs K (setO H i o) r L := h.keep fun x hx => by rw [get_set, if_neg hi]; exact hx
theorem MapIs.push {K : α → Value} {H : World} {r : Nat} {L : List (α × Value)} (h : MapIs K H r L) (o : Obj) : MapIs K (pushObj H o) r L := h.keep fun x hx => by
  have := getO_lt hx
  rw [get_push, if_neg (by omega)]; exact hx
theorem MapIs.new {K : α → Value} {H : World} : MapIs K (pushObj H (.map #[] 0)) H.heap.size [] := ⟨#[], 0, by rw [get_push, if_pos rfl], rfl⟩
variable {P : Program} {t kt et : TypeId} {d : TypeDesc} {K : α → Value} {H : World} {r : Nat} {L : List (α × Value)}
theorem findD_spec (hd : P.underlying kt = some d) (hk : KeyOk d K) (k : α) (es : Array MapEntry) : findD P kt (K k) es = Instr.findNow d (K k) es.toList 0 := by
  unfold findD
  simp only [hd, hk.kind, hk.flat k, Bool.and_self, if_true]
theorem map_look (hu : P.underlying t = some (.map kt et)) (hd : P.underlying kt = some d) (hk : KeyOk d K) {z : Value} (hz : (P.info? et).bind (·.zero) = some z) (h : MapIs K H r L) (k : α) (ok : Bool) :
    lookupD P t (.map (some r)) (K k) ok H = some (if ok then .tuple #[(lookM k L).getD z, .bool (lookM k L).isSome] else (lookM k L).getD z) := by
  obtain ⟨es, c, hr, hes⟩ := h
  have hr' : H.heap[r]? = some (.map es c) := hr
  have hm : mapOf H (.map (some r)) = some (es, c) := by simp only [mapOf, hr']
  unfold lookupD
  simp only [hu, hm, findD_spec hd hk]
  rcases find_spec hk k L es.toList 0 hes with ⟨g1, g2, -, -⟩ | ⟨j, w, g1, -, g2, -, -⟩
  · rw [g1, g2]; simp [hz]
  · rw [g1, g2]; simp
theorem map_put (hu : P.underlying t = some (.map kt et)) (hd : P.underlying kt = some d) (hk : KeyOk d K) (h : MapIs K H r L) (k : α) (v : Value) :
    ∃ o, mapUpdateD P t (.map (some r)) (K k) v H = some (setO H r o) ∧ MapIs K (setO H r o) r (putM k v L) := by
  obtain ⟨es, c, hr, hes⟩ := h
  have hr' : H.heap[r]? = some (.map es c) := hr
  have hlt := getO_lt hr
  have hm : mapOf H (.map (some r)) = some (es, c) := by simp only [mapOf, hr']
  unfold mapUpdateD
  simp only [hu, hm, findD_spec hd hk]
  rcases find_spec hk k L es.toList 0 hes with ⟨g1, -, -, g4⟩ | ⟨j, w, g1, -, -, -, g4⟩
  · rw [g1]
    refine ⟨_, rfl, _, _, by rw [get_set, if_pos rfl, if_pos hlt], ?_⟩
    rw [g4 v]
    simp [kvs, encM] at hes ⊢
    exact hes
  · rw [g1]
    refine ⟨_, rfl, _, _, by rw [get_set, if_pos rfl, if_pos hlt], ?_⟩
    rw [← g4 v]
    simp [Array.toList_modify]
theorem map_del (hu : P.underlying t = some (.map kt et)) (hd : P.underlying kt = some d) (hk : KeyOk d K) (h : MapIs K H r L) (k : α) :
    ∃ o, deleteD P t (.map (some r)) (K k) H = some (setO H r o) ∧ MapIs K (setO H r o) r (delM k L) := by
  obtain ⟨es, c, hr, hes⟩ := h
  have hr' : H.heap[r]? = some (.map es c) := hr
  have hlt := getO_lt hr
  have hm : mapOf H (.map (some r)) = some (es, c) := by simp only [mapOf, hr']
  unfold deleteD
  simp only [hu, hm, findD_spec hd hk]
  rcases find_spec hk k L es.toList 0 hes with ⟨g1, -, g3, -⟩ | ⟨j, w, g1, gl, -, g3, -⟩
  · rw [g1]
    refine ⟨_, rfl, _, _, by rw [get_set, if_pos rfl, if_pos hlt], ?_⟩
    rw [g3]; exact hes
  · rw [g1]
    refine ⟨_, rfl, _, _, by rw [get_set, if_pos rfl, if_pos hlt], ?_⟩
    rw [← g3, Nat.zero_add]
    have hj : j < es.size := by simpa using gl
    simp [Array.eraseIdxIfInBounds, hj]
theorem map_len (hu : P.underlying t = some (.map kt et)) (h : MapIs K H r L) : builtinX P .len #[t] #[.map (some r)] H = some (.value (.int .i64 L.length), H) := by
  obtain ⟨es, c, hr, hes⟩ := h
  have hr' : H.heap[r]? = some (.map es c) := hr
  have hl : es.size = L.length := by
    have := congrArg List.length hes
    simpa [kvs, encM] using this
  have hm : mapOf H (.map (some r)) = some (es, c) := by simp only [mapOf, hr']
  have hv : vLen P t (.map (some r)) = none := rfl
  unfold builtinX
  rw [if_pos ⟨rfl, rfl⟩]
  show (match vLen P t (.map (some r)) with | some v => some (Next.value v, H) | none => (lenD P t (.map (some r)) H).map fun n => (Next.value (goInt n), H)) = _
  rw [hv]
  simp only [lenD, hu, hm, Option.map_some, hl]
  rfl
theorem X_delete (t t2 : TypeId) (m k : Value) (H : World) : builtinX P .delete #[t, t2] #[m, k] H = (deleteD P t m k H).map fun H1 => (.value (.tuple #[]), H1) := by
  show Option.map _ (if (2 : Nat) = 2 then Option.map (fun H1 => (Value.tuple #[], H1)) (deleteD P t m k H) else none) = _
  rw [if_pos rfl]
  cases deleteD P t m k H <;> rfl
end
theorem bX_ptr_nil {P : Program} {t e : TypeId} {x y : Operand} {a : Addr} {H : World} (hu : P.underlying t = some (.pointer e)) : binX P .eql t x y (.pointer (some a)) (.pointer none) H = some (.value (.bool false), H) ∧ binX P .neq t x y (.pointer (some a)) (.pointer none) H = some (.value (.bool true), H) := by
  constructor <;>
  · unfold binX
    simp only [vNilOp, vNil, Option.map_none]
    unfold binV
    rw [if_neg (by simp [flatFor, isEq, flat, flat1])]
    simp [eqD, hu]
theorem look_at {P : Program} {t : TypeId} {r : Nat} {k : Value} {ok : Bool} {H H' : World} (h : getO H' r = getO H r) : lookupD P t (.map (some r)) k ok H' = lookupD P t (.map (some r)) k ok H := by
  have h' : H'.heap[r]? = H.heap[r]? := h
  simp only [lookupD, mapOf, h']
theorem q1_int (k : IntKind) (n : Int) : veq1 (.int k n) (.int k n) = true := by simp [veq1]
theorem q1_bool (b : Bool) : veq1 (.bool b) (.bool b) = true := by simp [veq1]
theorem q1_str (l : List UInt8) : veq1 (.string (sB l)) (.string (sB l)) = true := by simp [veq1, sB_beq]
theorem q1_ptr (a : Option Addr) : veq1 (.pointer a) (.pointer a) = true := by simp [veq1]
theorem q1_slice (a : Option Addr) (n c : Nat) : veq1 (.slice a n c) (.slice a n c) = true := by simp [veq1]
theorem q1_map (a : Option Nat) : veq1 (.map a) (.map a) = true := by simp [veq1]
theorem q_nil : veqA [] [] = true := rfl
theorem q_cons (a b : Value) (l m : List Value) : veqA (a :: l) (b :: m) = (veq1 a b && veqA l m) := rfl
theorem qB_nil : veqB [] [] = true := rfl
theorem qB_cons (a b : Value) (l m : List Value) : veqB (a :: l) (b :: m) = (veq2 a b && veqB l m) := rfl
theorem q2_agg (l m : List Value) : veq2 (.agg l.toArray) (.agg m.toArray) = veqA l m := rfl
theorem q2_int (k : IntKind) (n : Int) : veq2 (.int k n) (.int k n) = true := by simp [veq2, veq1]
theorem q2_bool (b : Bool) : veq2 (.bool b) (.bool b) = true := by simp [veq2, veq1]
theorem q2_str (l : List UInt8) : veq2 (.string (sB l)) (.string (sB l)) = true := by simp [veq2, veq1, sB_beq]
theorem q2_ptr (a : Option Addr) : veq2 (.pointer a) (.pointer a) = true := by simp [veq2, veq1]
theorem q2_map (a : Option Nat) : veq2 (.map a) (.map a) = true := by simp [veq2, veq1]
theorem q_tuple (l m : List Value) : veq (.tuple l.toArray) (.tuple m.toArray) = veqB l m := rfl
theorem q_agg (l m : List Value) : veq (.agg l.toArray) (.agg m.toArray) = veqA l m := rfl
theorem q_int (k : IntKind) (n : Int) : veq (.int k n) (.int k n) = true := by simp [veq, veq2, veq1]
theorem q_bool (b : Bool) : veq (.bool b) (.bool b) = true := by simp [veq, veq2, veq1]
theorem q_str (l : List UInt8) : veq (.string (sB l)) (.string (sB l)) = true := by simp [veq, veq2, veq1, sB_beq]
theorem q_ptr (a : Option Addr) : veq (.pointer a) (.pointer a) = true := by simp [veq, veq2, veq1]
theorem q_map (a : Option Nat) : veq (.map a) (.map a) = true := by simp [veq, veq2, veq1]
theorem Acc.veq1 {H : World} {v : Value} {es : Nat} {e : TypeId} {n : Nat} {cs : List Value} (h : Acc H v es e n cs) : veq1 v v = true ∧ veq2 v v = true := by
  obtain ⟨_, ⟨rfl, _⟩ | ⟨r, rfl, _⟩⟩ := h
  · exact ⟨rfl, rfl⟩
  · simp [Go.Proofs.YtmmmdmandocbhaaDoor.Den.veq2, Go.Proofs.YtmmmdmandocbhaaDoor.Den.veq1]
/-- A slice cut to its own length, its room too. -/
theorem slice_full {P : Program} {t e : TypeId} {k : IntKind} {H : World} {v : Value} {es n : Nat} {cs : List Value} {inf : TypeInfo} (hu : P.underlying t = some (.slice e)) (hi : P.info? e = some inf) (h : Acc H v es e n cs) :
    sliceX P t v none (some (.int k n)) (some (.int k n)) H = some (.value v, H) := by
  obtain ⟨_, ⟨rfl, rfl⟩ | ⟨r, rfl, hn, hr⟩⟩ := h
  · have hb : (Instr.sliceBounds true 0 0 none (some (.int k 0)) (some (.int k 0))).run P H = .ok (0, 0, 0) H := by
      simp [Instr.sliceBounds, sliceBound_ok]
    have hv : vSliceOp P t (.slice none 0 0) none (some (.int k 0)) (some (.int k 0)) = none := rfl
    have key : sliceX P t (.slice none 0 0) none (some (.int k 0)) (some (.int k 0)) H = some (.value (.slice none 0 0), H) := by
      unfold sliceX
      rw [hv]
      simp [lslice, hu, hi, hb, okRun, baseOk]
    exact key
  · have hb : (Instr.sliceBounds true n n none (some (.int k n)) (some (.int k n))).run P H = .ok (0, n, n) H := by
      simp [Instr.sliceBounds, sliceBound_ok]
    have hv : vSliceOp P t (.slice (some ⟨r, 0, none⟩) n n) none (some (.int k n)) (some (.int k n)) = none := rfl
    unfold sliceX
    rw [hv]
    have hbase : baseOk H (some ⟨r, 0, none⟩) e = true := by
      unfold baseOk
      have hr' : H.heap[r]? = _ := hr
      simp [hr']
    simp [lslice, hu, hi, hb, okRun, hbase]
end Go.Proofs.YtmmmdmandocbhaaDoor.Den
end
