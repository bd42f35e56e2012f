/- Helpers of this claim: an evaluator over plain values and its laws. -/
import Derived.Test.YtmmmdmandocbhaaDoorMono
section
/- Rules for simp: slices that are plain, nil or not; slices that grow. -/
set_option linter.unusedVariables false
set_option linter.unusedSimpArgs false
namespace Go.Proofs.YtmmmdmandocbhaaDoor.Den
variable {P : Program} {H : World} {t : TypeId} {x y : Operand}

/-- A plain slice, nil or not. -/
def slV (es : Nat) (o : Option (List Value)) : Value := match o with | none => .slice none 0 0 | some l => vs es l.toArray
@[simp] theorem len_slV (es : Nat) (o : Option (List Value)) : builtinX P .len #[t] #[slV es o] H = if isSliceT P t = true then some (.value (.int .i64 (o.getD []).length), H) else lenJ P t (slV es o) H := by
  cases o with
  | none => simp only [slV, len_slice, Option.getD_none, List.length_nil]
  | some l => simp only [slV, len_vs, Option.getD_some]
@[simp] theorem indexAddrQ_slV (es : Nat) (o : Option (List Value)) (k : IntKind) (i : Int) : indexAddrQ P t (slV es o) (.int k i) = idxV P t es (o.getD []) i := by
  cases o with
  | none =>
    simp only [slV, Option.getD_none]
    unfold indexAddrQ idxV
    simp only [vIndexAddr]
    cases P.underlying t with
    | none => rfl
    | some d =>
      cases d with
      | slice e =>
        simp only
        cases P.info? e with
        | none => rfl
        | some inf => simp
      | _ => rfl
  | some l => simp only [slV, indexAddrQ_vs, Option.getD_some]
@[simp] theorem cells_slV (es : Nat) (o : Option (List Value)) : (slV es o).cells = #[slV es o] := by cases o <;> rfl
@[simp] theorem one_slV (es : Nat) (o : Option (List Value)) : Value.oneCell' (slV es o) = true := by cases o <;> rfl
@[simp] theorem getD_map {α β : Type} (f : α → β) (o : Option (List α)) : (o.map (List.map f)).getD [] = (o.getD []).map f := by cases o <;> rfl

@[simp] theorem slV_none (es : Nat) : slV es none = .slice none 0 0 := _root_.id rfl
/-! ### plain values -/
theorem plain_up {v : Value} {d : Nat} (h : plain d v = true) : ∀ k, plain (d + k) v = true
  | 0 => h
  | k + 1 => plain_mono _ _ (plain_up h k)
theorem plain_of {v : Value} {d m : Nat} (h : plain d v = true) (hd : d ≤ m) : plain m v = true := by
  obtain ⟨k, rfl⟩ := Nat.le.dest hd
  exact plain_up h k
theorem plain_slV {es d : Nat} {o : Option (List Value)} (h : ∀ v ∈ o.getD [], plain d v = true) : plain (d + 1) (slV es o) = true := by
  cases o with
  | none => rfl
  | some l =>
    simp only [slV, vs, plain]
    simp only [Bool.and_eq_true, decide_eq_true_eq, Array.all_eq_true]
    refine ⟨Nat.le_add_right _ _, fun i hi => ?_⟩
    exact h _ (by simp)
theorem plain_slMap {α : Type} {es d : Nat} {enc : α → Value} (h : ∀ a, plain d (enc a) = true) (o : Option (List α)) : plain (d + 1) (slV es (o.map (List.map enc))) = true :=
  plain_slV fun v hv => by
    rw [getD_map] at hv
    obtain ⟨a, _, rfl⟩ := List.mem_map.1 hv
    exact h a
@[simp] theorem plain_bool (d : Nat) (b : Bool) : plain d (.bool b) = true := by cases d <;> rfl
@[simp] theorem plain_int (d : Nat) (k : IntKind) (n : Int) : plain d (.int k n) = true := by cases d <;> rfl
@[simp] theorem plain_string (d : Nat) (s : ByteArray) : plain d (.string s) = true := by cases d <;> rfl

/-- A function that does not stand alone, as an equation. -/
theorem FW.eqE {x : Cx} {f : FuncId} {fn : Func} {c : Code} {args : Array Value} {n : Nat} {v : Value} {H H1 : World} (ha : x.plain f = true) (hf : x.P.funcs[f]? = some fn) (hn : fn.ntmps = n) (hb : fn.body = some c) (hs : args.size ≤ n)
    (h : WP x none n c (envOf 0 args.toList) [] H (endE x fn fun v' H' => v' = v ∧ H' = H1)) (Q : Value → World → Prop) : FW x f args H Q = Q v H1 :=
  FW.det (FW.ofE ha hf hn hb hs (WP.sound _ _ _ _ _ h)) Q
/-- A function that does not stand alone: what is to be shown behind it. -/
theorem FW.walk {x : Cx} {f : FuncId} {fn : Func} {c : Code} {args : Array Value} {n : Nat} {H : World} {Q : Value → World → Prop} (ha : x.plain f = true) (hf : x.P.funcs[f]? = some fn) (hn : fn.ntmps = n) (hb : fn.body = some c) (hs : args.size ≤ n)
    (h : WP x none n c (envOf 0 args.toList) [] H (endE x fn Q)) : FW x f args H Q :=
  FW.ofE ha hf hn hb hs (WP.sound _ _ _ _ _ h)
/-! ### sources of append -/
/-- How many elements, and their cells. -/
def SrcX (P : Program) (es : Nat) (x : Value) (H : World) (m : Nat) (new : List Value) : Prop := cellsOfD P es x H = some (m, new.toArray)
theorem SrcX.slV {es : Nat} {o : Option (List Value)} : SrcX P es (slV es o) H (o.getD []).length ((o.getD []).flatMap fun v => v.cells.toList) := by
  unfold SrcX
  cases o with
  | none => rfl
  | some l =>
    simp only [Den.slV, vs, cellsOfD, if_true, List.size_toArray, Option.getD_some]
    congr 2
    apply Array.toList_inj.1
    simp
theorem SrcX.row {es r n c : Nat} {cs : List Value} {e : TypeId} {fr : Nat × Nat} (h : getO H r = some (.cells cs.toArray e fr)) (hn : cs.length = n * es) : SrcX P es (.slice (some ⟨r, 0, none⟩) n c) H n cs := by
  unfold SrcX
  simp only [cellsOfD]
  have := run_loadCells_row (P := P) (off := 0) (n := n * es) (show H.heap[r]? = _ from h) (by simp [hn])
  rw [this]
  simp only [okRun, Option.map_some, Nat.zero_add]
  congr 2
  apply Array.toList_inj.1
  simp [← hn]
theorem SrcX.string {l : List UInt8} : SrcX P 1 (.string (sB l)) H l.length (l.map fun b => .int .u8 b.toNat) := by
  unfold SrcX
  simp only [cellsOfD, if_true, sB_size]
  congr 2
  apply Array.toList_inj.1
  simp

/-- A slice that grows: nil, or a row of its own that append made. -/
def Acc (H : World) (v : Value) (es : Nat) (e : TypeId) (n : Nat) (cs : List Value) : Prop :=
  cs.length = n * es ∧ ((v = .slice none 0 0 ∧ n = 0) ∨ ∃ r, v = .slice (some ⟨r, 0, none⟩) n n ∧ 0 < n ∧ getO H r = some (.cells cs.toArray e (1, 0)))
theorem Acc.nil {es : Nat} {e : TypeId} : Acc H (.slice none 0 0) es e 0 [] := ⟨by simp, .inl ⟨rfl, rfl⟩⟩
/-- What is not the slice's own row stays. -/
def Apart (v : Value) (i : Nat) : Prop := ∀ r n c, v = .slice (some ⟨r, 0, none⟩) n c → i ≠ r
theorem Acc.appendG (P : Program) {v : Value} {es : Nat} {e : TypeId} {n m : Nat} {cs new : List Value} {x : Value} {t1 t2 : TypeId} {inf : TypeInfo} {z : Value} (h : Acc H v es e n cs) (ht : P.underlying t1 = some (.slice e)) (hap : appended P (some t2) inf x H = some (m, new.toArray))
    (hi : P.info? e = some inf) (hz : inf.zero = some z) (hzs : z.cells.size = inf.size) (hes : inf.size = es) (hpos : 0 < es) (hb0 : 0 < inf.bytes) (hb1 : inf.bytes ≤ 2 ^ 20) (hnl : new.length = m * es) (hnew : new.all Value.oneCell' = true) (hroom : (n + m) * inf.bytes ≤ 2 ^ 40) :
    ∃ v' H', builtinX P .append #[t1, t2] #[v, x] H = some (.value v', H') ∧ Acc H' v' es e (n + m) (cs ++ new) ∧ (∀ i o, getO H i = some o → Apart v i → getO H' i = some o) ∧ H.heap.size ≤ H'.heap.size ∧ (∀ i, Apart v i → i < H.heap.size → Apart v' i) := by
  obtain ⟨hlen, hv⟩ := h
  have h1 : ((#[t1, t2] : Array TypeId)[0]?).bind P.underlying = some (.slice e) := ht
  have h2 : (#[t1, t2] : Array TypeId)[1]? = some t2 := rfl
  have bx : ∀ r, lappend P #[t1, t2] v x H = some r → builtinX P .append #[t1, t2] #[v, x] H = some (.value r.1, r.2) := by
    intro r hr
    show (if (2 : Nat) = 2 then (lappend P #[t1, t2] v x H).map fun r => (Next.value r.1, r.2) else none) = _
    rw [if_pos rfl, hr]; rfl
  by_cases hm : m = 0
  · subst hm
    have hnil : new = [] := List.length_eq_zero_iff.1 (by omega)
    subst hnil
    refine ⟨v, H, ?_, ?_, fun i o h _ => h, Nat.le_refl _, fun i h _ => h⟩
    · refine bx (v, H) ?_
      rcases hv with ⟨rfl, rfl⟩ | ⟨r, rfl, hn0, hr⟩
      · simp only [lappend, h1, hi, h2, hap, Nat.add_zero, Nat.le_refl, if_true]
      · simp only [lappend, h1, hi, h2, hap, Nat.add_zero, Nat.le_refl, if_true, storeCells, Sem.run_pure, okRun, Option.map_some]
    · simp only [Nat.add_zero, List.append_nil]
      exact ⟨hlen, hv⟩
  · have hne : ¬ (n + m ≤ n) := by omega
    have hb : 0 < inf.size ∧ 0 < inf.bytes ∧ inf.bytes ≤ 2 ^ 20 ∧ (n + m) * inf.bytes ≤ 2 ^ 40 := ⟨by omega, hb0, hb1, hroom⟩
    rcases hv with ⟨rfl, rfl⟩ | ⟨r, rfl, hn0, hr⟩
    · have hcs : cs = [] := List.length_eq_zero_iff.1 (by omega)
      subst hcs
      refine ⟨.slice (some ⟨H.heap.size, 0, none⟩) m m, pushObj H (.cells new.toArray e (1, 0)), ?_, ⟨by simp [hnl], .inr ⟨H.heap.size, by simp, by omega, by simp⟩⟩, fun i o h _ => ?_, by simp, fun i _ hi r n c h => ?_⟩
      · refine bx (_, _) ?_
        simp only [lappend, h1, hi, h2, hap, hne, if_false, cellsOfD, if_true, growsFrom, hz]
        rw [if_pos hb, if_pos hzs]
        simp
        rfl
      · rw [get_push, if_neg]
        · exact h
        · have := (Array.getElem?_eq_some_iff.1 (show H.heap[i]? = some o from h)).1
          omega
      · injection h with h; injection h with h; injection h with h; omega
    · have hlt : r < H.heap.size := (Array.getElem?_eq_some_iff.1 (show H.heap[r]? = _ from hr)).1
      refine ⟨.slice (some ⟨H.heap.size, 0, none⟩) (n + m) (n + m), killObj (pushObj H (.cells (cs ++ new).toArray e (1, 0))) r, ?_, ⟨by simp [hnl, hlen, Nat.add_mul], .inr ⟨H.heap.size, rfl, by omega, ?_⟩⟩, fun i o h ha => ?_, by simp, fun i _ hi r n c h => ?_⟩
      · have hload : okRun ((loadCells ⟨r, 0, none⟩ (n * inf.size)).run P H) = some (cs.toArray, H) := by
          rw [hes, run_loadCells_row (show H.heap[r]? = _ from hr) (by simp [hlen])]
          simp only [okRun, Nat.zero_add]
          congr 2
          apply Array.toList_inj.1
          simp [← hlen]
        have hr' : H.heap[r]? = some (.cells cs.toArray e (1, 0)) := hr
        have hall : new.toArray.all Value.oneCell' = true := by simpa using hnew
        have hg : growsFrom H (some ⟨r, 0, none⟩) e n inf.size = some (some r) := by
          simp only [growsFrom, hr', and_self, if_true, Nat.zero_add, List.size_toArray, hlen, hes]
        refine bx (_, _) ?_
        simp only [lappend, h1, hi, h2, hap, hne, if_false, cellsOfD, hload, Option.map_some, hg, hz]
        rw [if_pos hb, if_pos ⟨hzs, hall⟩]
        simp
        rfl
      · rw [kill_set, get_set, if_neg (by omega), get_push, if_pos rfl]
      · have hir : i ≠ r := ha r n n rfl
        rw [kill_set, get_set, if_neg hir, get_push, if_neg]
        · exact h
        · have := (Array.getElem?_eq_some_iff.1 (show H.heap[i]? = some o from h)).1
          omega
      · injection h with h; injection h with h; injection h with h; omega
theorem appended_src (P : Program) {es : Nat} {m : Nat} {new : List Value} {x : Value} {t2 : TypeId} {inf : TypeInfo} (ht2 : (match P.underlying t2 with | some (.int _) => false | some _ => true | none => false) = true) (hes : inf.size = es) (hsrc : SrcX P es x H m new) : appended P (some t2) inf x H = some (m, new.toArray) := by
  unfold appended
  simp only [Option.bind_some]
  split at ht2
  · cases ht2
  · rename_i d hd hu
    rw [hu, hes]
    cases d <;> first | exact absurd rfl (hd _) | exact hsrc
  · cases ht2
theorem Acc.append (P : Program) {v : Value} {es : Nat} {e : TypeId} {n m : Nat} {cs new : List Value} {x : Value} {t1 t2 : TypeId} {inf : TypeInfo} {z : Value} (h : Acc H v es e n cs) (ht : P.underlying t1 = some (.slice e)) (ht2 : (match P.underlying t2 with | some (.int _) => false | some _ => true | none => false) = true)
    (hi : P.info? e = some inf) (hz : inf.zero = some z) (hzs : z.cells.size = inf.size) (hes : inf.size = es) (hpos : 0 < es) (hb0 : 0 < inf.bytes) (hb1 : inf.bytes ≤ 2 ^ 20) (hsrc : SrcX P es x H m new) (hnl : new.length = m * es) (hnew : new.all Value.oneCell' = true) (hroom : (n + m) * inf.bytes ≤ 2 ^ 40) :
    ∃ v' H', builtinX P .append #[t1, t2] #[v, x] H = some (.value v', H') ∧ Acc H' v' es e (n + m) (cs ++ new) ∧ (∀ i o, getO H i = some o → Apart v i → getO H' i = some o) ∧ H.heap.size ≤ H'.heap.size ∧ (∀ i, Apart v i → i < H.heap.size → Apart v' i) :=
  Acc.appendG P h ht (appended_src P ht2 hes hsrc) hi hz hzs hes hpos hb0 hb1 hnl hnew hroom
/-- append to an empty slice whose row is no row that append made. -/
theorem append_empty (P : Program) {k es : Nat} {e : TypeId} {fr : Nat × Nat} {m : Nat} {new : List Value} {x : Value} {t1 t2 : TypeId} {inf : TypeInfo} {z : Value} (hr : getO H k = some (.cells #[] e fr)) (hfr : fr.1 = 0) (ht : P.underlying t1 = some (.slice e)) (ht2 : (match P.underlying t2 with | some (.int _) => false | some _ => true | none => false) = true)
    (hi : P.info? e = some inf) (hz : inf.zero = some z) (hzs : z.cells.size = inf.size) (hes : inf.size = es) (hpos : 0 < es) (hb0 : 0 < inf.bytes) (hb1 : inf.bytes ≤ 2 ^ 20) (hsrc : SrcX P es x H m new) (hm : 0 < m) (hroom : m * inf.bytes ≤ 2 ^ 40) :
    builtinX P .append #[t1, t2] #[.slice (some ⟨k, 0, none⟩) 0 0, x] H = some (.value (.slice (some ⟨H.heap.size, 0, none⟩) m m), pushObj H (.cells new.toArray e (1, 0))) := by
  have hap : appended P (some t2) inf x H = some (m, new.toArray) := by
    unfold appended
    simp only [Option.bind_some]
    split at ht2
    · cases ht2
    · rename_i d hd hu
      rw [hu, hes]
      cases d <;> first | exact absurd rfl (hd _) | exact hsrc
    · cases ht2
  have h1 : ((#[t1, t2] : Array TypeId)[0]?).bind P.underlying = some (.slice e) := ht
  have h2 : (#[t1, t2] : Array TypeId)[1]? = some t2 := rfl
  have hne : ¬ 0 + m ≤ 0 := by omega
  have hb : 0 < inf.size ∧ 0 < inf.bytes ∧ inf.bytes ≤ 2 ^ 20 ∧ (0 + m) * inf.bytes ≤ 2 ^ 40 := ⟨by omega, hb0, hb1, by simpa using hroom⟩
  have hr' : H.heap[k]? = some (.cells #[] e fr) := hr
  have hload : okRun ((loadCells ⟨k, 0, none⟩ (0 * inf.size)).run P H) = some (#[], H) := by
    rw [Nat.zero_mul]; rfl
  have hg : growsFrom H (some ⟨k, 0, none⟩) e 0 inf.size = some none := by
    simp only [growsFrom, hr', hfr]
    simp
  have hl : lappend P #[t1, t2] (.slice (some ⟨k, 0, none⟩) 0 0) x H = some (.slice (some ⟨H.heap.size, 0, none⟩) m m, pushObj H (.cells new.toArray e (1, 0))) := by
    simp only [lappend, h1, hi, h2, hap, hne, if_false, cellsOfD, hload, Option.map_some, hg, hz]
    rw [if_pos hb, if_pos hzs]
    simp
  show (if (2 : Nat) = 2 then (lappend P #[t1, t2] (.slice (some ⟨k, 0, none⟩) 0 0) x H).map fun r => (Next.value r.1, r.2) else none) = _
  rw [if_pos rfl, hl]; rfl
/-- clear of a slice of one-cell elements. -/
theorem zeroCells_one (z : Value) (n : Nat) : (Builtin.zeroCells #[z] n).toList = List.replicate n z := by
  unfold Builtin.zeroCells
  apply List.ext_getElem?
  intro i
  simp only [Array.getElem?_toList, Array.getElem?_map, Array.getElem?_range, List.getElem?_replicate, List.size_toArray, List.length_cons, List.length_nil, Nat.zero_add, Nat.mul_one]
  split <;> simp [Nat.mod_one]
theorem clear_one (P : Program) {t e e' : TypeId} {r off n c : Nat} {cs : Array Value} {fr : Nat × Nat} {inf : TypeInfo} {z : Value} (hu : P.underlying t = some (.slice e)) (hi : P.info? e = some inf) (hz : inf.zero = some z) (hz1 : z.cells = #[z]) (hzo : z.oneCell' = true) (hr : getO H r = some (.cells cs e' fr)) (hfr : mayW fr = true) (hb : off + n ≤ cs.size) :
    builtinX P .clear #[t] #[.slice (some ⟨r, off, none⟩) n c] H = some (.value (.tuple #[]), setO H r (.cells (overL cs off (List.replicate n z)) e' fr)) := by
  show (builtinD P .clear #[t] #[.slice (some ⟨r, off, none⟩) n c] H).map _ = _
  have key : okRun ((Builtin.clear_ #[t] 0 #[.slice (some ⟨r, off, none⟩) n c]).run P H) = some (.tuple #[], setO H r (.cells (overL cs off (List.replicate n z)) e' fr)) := by
    have hst := run_overL (P := P) hfr (List.replicate n z) 0 off cs H hr (by simpa using hb) (fun v hv => by rw [(List.mem_replicate.1 hv).2]; exact hzo)
    rw [Nat.add_zero] at hst
    unfold Builtin.clear_
    cases n with
    | zero =>
      have hs : setO H r (.cells (overL cs off []) e' fr) = H := by
        have h0 : (Go.storeCells ⟨r, off, none⟩ [] 0).run P H = .ok () H := rfl
        have := hst.symm.trans h0
        injection this with _ h
      simp [run_underlying' hu, okRun]
      exact hs.symm
    | succ n =>
      simp only [List.getElem?_toArray, List.getElem?_cons_zero, Sem.run_bind, run_underlying' hu, Result.andThen_ok, run_zeroValue' hi hz, hz1, zeroCells_one, hst, Sem.run_pure, okRun]
  have hd : builtinD P .clear #[t] #[.slice (some ⟨r, off, none⟩) n c] H = okRun ((Builtin.clear_ #[t] 0 #[.slice (some ⟨r, off, none⟩) n c]).run P H) := rfl
  rw [hd, key]; rfl
theorem set_same {H : World} {i : Nat} {o : Obj} (h : getO H i = some o) : setO H i o = H := by
  unfold getO at h
  have hlt := (Array.getElem?_eq_some_iff.1 h).1
  have : H.heap.setIfInBounds i o = H.heap := by
    apply Array.ext_getElem?
    intro j
    rw [Array.getElem?_setIfInBounds]
    by_cases hj : i = j
    · subst hj; rw [if_pos rfl, if_pos hlt, h]
    · rw [if_neg hj]
  unfold setO
  rw [this]
theorem getO_lt {H : World} {i : Nat} {o : Obj} (h : getO H i = some o) : i < H.heap.size := (Array.getElem?_eq_some_iff.1 (show H.heap[i]? = some o from h)).1
theorem Acc.veq {H : World} {v : Value} {es : Nat} {e : TypeId} {n : Nat} {cs : List Value} (h : Acc H v es e n cs) : veq v v = true := by
  obtain ⟨_, ⟨rfl, _⟩ | ⟨r, rfl, _⟩⟩ := h
  · rfl
  · simp [Go.Proofs.YtmmmdmandocbhaaDoor.Den.veq, veq2, veq1]
theorem Acc.one {H : World} {v : Value} {es : Nat} {e : TypeId} {n : Nat} {cs : List Value} (h : Acc H v es e n cs) : v.cells = #[v] ∧ v.oneCell' = true := by
  obtain ⟨_, ⟨rfl, _⟩ | ⟨r, rfl, _⟩⟩ := h <;> exact ⟨rfl, rfl⟩
/-- A row besides is pushed: what grows stays. -/
theorem Acc.push {H : World} {v : Value} {es : Nat} {e : TypeId} {n : Nat} {cs : List Value} (h : Acc H v es e n cs) (o : Obj) : Acc (pushObj H o) v es e n cs := by
  obtain ⟨h1, h2 | ⟨r, rfl, hn, hr⟩⟩ := h
  · exact ⟨h1, .inl h2⟩
  · refine ⟨h1, .inr ⟨r, rfl, hn, ?_⟩⟩
    have := getO_lt hr
    rw [get_push, if_neg (by omega)]; exact hr
theorem Acc.set {H : World} {v : Value} {es : Nat} {e : TypeId} {n : Nat} {cs : List Value} (h : Acc H v es e n cs) {i : Nat} (o : Obj) (ha : Apart v i) : Acc (setO H i o) v es e n cs := by
  obtain ⟨h1, h2 | ⟨r, rfl, hn, hr⟩⟩ := h
  · exact ⟨h1, .inl h2⟩
  · refine ⟨h1, .inr ⟨r, rfl, hn, ?_⟩⟩
    rw [get_set, if_neg fun e => ha r n n rfl e.symm]; exact hr
/-- A cut of a row of the logical memory. -/
theorem slice_heap (P : Program) {t e : TypeId} {r o n c l h : Nat} {lo hi : Option Value} {cs : Array Value} {fr : Nat × Nat} {inf : TypeInfo} (hu : P.underlying t = some (.slice e)) (hi' : P.info? e = some inf) (hr : getO H r = some (.cells cs e fr)) (hfr : mayW fr = true) (hnc : n ≤ c)
    (hh : vBound c hi n = some h) (hl : vBound h lo 0 = some l) : sliceX P t (.slice (some ⟨r, o, none⟩) n c) lo hi none H = some (.value (.slice (some ⟨r, o + l * inf.size, none⟩) (h - l) (c - l)), H) := by
  unfold sliceX
  have hv : vSliceOp P t (.slice (some ⟨r, o, none⟩) n c) lo hi none = none := rfl
  rw [hv]
  simp only
  have hb : (Instr.sliceBounds true n c lo hi none).run P H = .ok (l, h, c) H := by
    rcases vBound_some hh with ⟨e1, rfl⟩ | ⟨k1, i1, e1, h10, h11, rfl⟩ <;> rcases vBound_some hl with ⟨e2, rfl⟩ | ⟨k2, i2, e2, h20, h21, rfl⟩
    · rw [e1, e2]; simp [Instr.sliceBounds]
    · rw [e1, e2]; simp [Instr.sliceBounds, sliceBound_ok _ h20 h21]
    · rw [e1, e2]; simp [Instr.sliceBounds, sliceBound_ok _ h10 h11]
    · rw [e1, e2]; simp [Instr.sliceBounds, sliceBound_ok _ h10 h11, sliceBound_ok _ h20 h21]
  have hbase : baseOk H (some ⟨r, o, none⟩) e = true := by
    unfold baseOk
    have hr' : H.heap[r]? = some (.cells cs e fr) := hr
    simp only [hr']
    unfold mayW at hfr
    simp only [Bool.or_eq_true, beq_iff_eq] at hfr
    rcases hfr with rfl | rfl <;> simp
  simp only [lslice, hu, hi', hb, okRun, hbase, hnc, decide_true, Bool.and_self, if_true, Option.map_some]
/-- A cut of a plain slice. -/
theorem slice_vs (P : Program) {t e : TypeId} {es l h : Nat} {lo hi : Option Value} {xs : List Value} {inf : TypeInfo} (hu : P.underlying t = some (.slice e)) (hi' : P.info? e = some inf) (hes : inf.size = es)
    (hh : vBound xs.length hi xs.length = some h) (hl : vBound h lo 0 = some l) : sliceX P t (slV es (some xs)) lo hi none H = some (.value (slV es (some ((xs.take h).drop l))), H) := by
  have hx : ((xs.toArray).extract l h) = ((xs.take h).drop l).toArray := by
    apply Array.ext_getElem?
    intro k
    simp only [Array.getElem?_extract, List.getElem?_toArray, List.getElem?_drop, List.getElem?_take, List.size_toArray]
    by_cases hk : k < min h xs.length - l
    · rw [if_pos hk, if_pos (by omega)]
    · rw [if_neg hk]
      split
      · rw [List.getElem?_eq_none (by omega)]
      · rfl
  have hv : vSliceOp P t (slV es (some xs)) lo hi none = some (slV es (some ((xs.take h).drop l))) := by
    unfold vSliceOp slV vs
    simp only [hu, hi', hes, if_true, vSlice, List.size_toArray, hh, hl, hx, vs]
  unfold sliceX
  rw [hv]
/-- A plain slice and nil. -/
theorem slV_nil {t : TypeId} {x y : Operand} {es : Nat} {o : Option (List Value)} (hs : isSliceT P t = true) : binX P .eql t x y (slV es o) (.slice none 0 0) H = some (.value (.bool o.isNone), H) := by
  unfold isSliceT at hs
  split at hs
  case h_2 => cases hs
  rename_i e hu
  cases o with
  | some l =>
    have : vsT ≤ vsT + es := Nat.le_add_right _ _
    simp [binX, vNilOp, slV, vs, vNil, hu, this]
  | none =>
    unfold binX
    simp only [slV, vNilOp, vNil, Option.map_none]
    have h1 : flatFor .eql (.slice none 0 0) = true := rfl
    have hg : ∀ w, (Go.eqGuard .eql t x y (.slice none 0 0) (.slice none 0 0)).run P w = .ok () w := by intro w; simp [Go.eqGuard]
    have he : (Op.equal t (.slice none 0 0) (.slice none 0 0)).run P H = .ok true H := by
      have : ∀ d, (Op.equalIn (d + 1) t (.slice none 0 0) (.slice none 0 0)).run P H = .ok true H := fun d => by
        simp only [Op.equalIn, Sem.run_bind, run_underlying' hu, Result.andThen_ok, Sem.run_pure, Option.isNone_none]
      exact this 9999
    unfold binV
    simp only [h1, Bool.and_self, if_true, Sem.run_bind, hg, Result.andThen_ok, Go.binOp, he, Sem.run_pure, okRun, flat1, Option.isNone_none]
/-- What has grown, as a plain slice. -/
theorem Acc.strip_agg {α : Type} {P : Program} {d : Nat} {v : Value} {es : Nat} {e : TypeId} {xs : List α} {enc : α → Value} {de : TypeDesc} {inf : TypeInfo} (h : Acc H v es e xs.length ((xs.map enc).flatMap fun v => v.cells.toList))
    (hu : P.underlying e = some de) (ha : aggT de = true) (hi : P.info? e = some inf) (hs : inf.size = es) (hpos : 0 < es) (henc : ∀ x, ∃ c : List Value, enc x = .agg c.toArray ∧ c.length = es ∧ ∀ y ∈ c, plain d y = true) :
    strip (d + 1) P H v = some (slV es (if xs = [] then none else some (xs.map enc))) := by
  obtain ⟨hlen, ⟨rfl, hn⟩ | ⟨r, rfl, hn, hr⟩⟩ := h
  · have : xs = [] := List.length_eq_zero_iff.1 hn
    subst this
    simp [slV]
  · have hne : ¬ xs = [] := fun h => by subst h; simp at hn
    rw [if_neg hne]
    let cs : α → List Value := fun x => Classical.choose (henc x)
    have hcs : ∀ x, enc x = .agg (cs x).toArray ∧ (cs x).length = es ∧ ∀ y ∈ cs x, plain d y = true := fun x => Classical.choose_spec (henc x)
    have hfl : (xs.map enc).flatMap (fun v => v.cells.toList) = (xs.map cs).flatten := by
      rw [List.flatMap_map, List.flatMap_def]
      congr 1
      apply List.map_congr_left
      intro x _
      rw [(hcs x).1]; simp
    have hall : ∀ y ∈ (xs.map cs).flatten, plain d y = true := by
      intro y hy
      simp only [List.mem_flatten, List.mem_map] at hy
      obtain ⟨_, ⟨x, _, rfl⟩, hy⟩ := hy
      exact (hcs x).2.2 y hy
    have hstrip : ∀ (l : List Value), (∀ y ∈ l, plain d y = true) → stripAll (strip d P H) l = some l := by
      intro l
      induction l with
      | nil => intro _; rfl
      | cons a l ih =>
        intro hl
        rw [stripAll_cons, strip_plain P H d a (hl a List.mem_cons_self)]
        simp only
        rw [ih fun x hx => hl x (List.mem_cons_of_mem _ hx)]
        rfl
    have hch := chunks_agg es xs.length (xs.map cs) [] (by simp) fun c hc => by
      obtain ⟨x, _, rfl⟩ := List.mem_map.1 hc
      exact (hcs x).2.1
    rw [List.append_nil] at hch
    have hr' : H.heap[r]? = _ := hr
    unfold strip
    simp only [hr', hu, hi, List.drop_zero]
    rw [hs, if_pos hpos]
    have htake : (List.take (xs.length * es) ((xs.map enc).flatMap fun v => v.cells.toList)) = (xs.map cs).flatten := by
      rw [← hlen, List.take_length, hfl]
    simp only [htake, hstrip _ hall, ha, hch, Option.map_some, slV]
    congr 3
    simp only [List.map_map]
    apply List.map_congr_left
    intro x _
    exact (hcs x).1.symm
theorem Acc.strip_one {α : Type} {P : Program} {d : Nat} {v : Value} {e : TypeId} {xs : List α} {enc : α → Value} {de : TypeDesc} {inf : TypeInfo} (h : Acc H v 1 e xs.length (xs.map enc))
    (hu : P.underlying e = some de) (ha : aggT de = false) (hi : P.info? e = some inf) (hs : inf.size = 1) (henc : ∀ x, plain d (enc x) = true ∧ notAgg (enc x) = true) :
    strip (d + 1) P H v = some (slV 1 (if xs = [] then none else some (xs.map enc))) := by
  obtain ⟨hlen, ⟨rfl, hn⟩ | ⟨r, rfl, hn, hr⟩⟩ := h
  · have : xs = [] := List.length_eq_zero_iff.1 hn
    subst this
    simp [slV]
  · have hne : ¬ xs = [] := fun h => by subst h; simp at hn
    rw [if_neg hne]
    have hstrip : ∀ (l : List Value), (∀ y ∈ l, plain d y = true) → stripAll (strip d P H) l = some l := by
      intro l
      induction l with
      | nil => intro _; rfl
      | cons a l ih =>
        intro hl
        rw [stripAll_cons, strip_plain P H d a (hl a List.mem_cons_self)]
        simp only
        rw [ih fun x hx => hl x (List.mem_cons_of_mem _ hx)]
        rfl
    have hch := chunks_one xs.length (xs.map enc) [] (by simp) fun c hc => by
      obtain ⟨x, _, rfl⟩ := List.mem_map.1 hc
      exact (henc x).2
    rw [List.append_nil] at hch
    have hr' : H.heap[r]? = _ := hr
    unfold strip
    simp only [hr', hu, hi, List.drop_zero]
    rw [hs, if_pos (by omega)]
    have htake : (List.take (xs.length * 1) (xs.map enc)) = xs.map enc := by
      rw [← hlen, List.take_length]
    have hst := hstrip (xs.map enc) (fun y hy => by obtain ⟨x, _, rfl⟩ := List.mem_map.1 hy; exact (henc x).1)
    simp only [htake, hst, ha, hch, Option.map_some, slV]
end Go.Proofs.YtmmmdmandocbhaaDoor.Den
end
