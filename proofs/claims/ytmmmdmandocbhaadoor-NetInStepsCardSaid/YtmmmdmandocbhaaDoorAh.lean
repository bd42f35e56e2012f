/- Helpers of this claim: an evaluator over plain values and its laws. -/
import Derived.Test.YtmmmdmandocbhaaDoorAg
section
/- Rules for simp: values. -/
set_option linter.unusedVariables false
set_option linter.unusedSimpArgs false
namespace Go.Proofs.YtmmmdmandocbhaaDoor.Den
variable {P : Program} {H : World} {t : TypeId} {x y : Operand}

/-! ### strings as lists of bytes -/
def sB (l : List UInt8) : ByteArray := ⟨l.toArray⟩
theorem sB_surj (s : ByteArray) : ∃ l, s = sB l := ⟨s.data.toList, by cases s; simp [sB]⟩
theorem mk_sB (l : List UInt8) : ByteArray.mk l.toArray = sB l := rfl
@[simp] theorem sB_inj {a b : List UInt8} : sB a = sB b ↔ a = b := by
  constructor
  · intro h
    have := congrArg (fun s => s.data.toList) h
    simpa [sB] using this
  · rintro rfl; rfl
@[simp] theorem sB_size (l : List UInt8) : (sB l).size = l.length := by simp [sB, ByteArray.size]
@[simp] theorem sB_data (l : List UInt8) : (sB l).data = l.toArray := _root_.id rfl
theorem toList_loop (s : ByteArray) : ∀ (n i : Nat) (r : List UInt8), s.size - i = n → ByteArray.toList.loop s i r = r.reverse ++ s.data.toList.drop i
  | 0, i, r, h => by
    unfold ByteArray.toList.loop
    rw [if_neg (by omega), List.drop_eq_nil_of_le (by simp only [Array.length_toList]; have : s.size = s.data.size := rfl; omega)]
    simp
  | n + 1, i, r, h => by
    unfold ByteArray.toList.loop
    have hlt : i < s.size := by omega
    rw [if_pos hlt, toList_loop s n (i + 1) _ (by omega)]
    have hl : i < s.data.toList.length := by simpa using hlt
    rw [List.drop_eq_getElem_cons hl]
    have : s.get! i = s.data.toList[i] := by
      unfold ByteArray.get!
      have hs : i < s.data.size := hlt
      simp only [getElem!_pos, hs, Array.getElem_toList]
    rw [this]
    simp
@[simp] theorem sB_toList (l : List UInt8) : (sB l).toList = l := by
  unfold ByteArray.toList
  rw [toList_loop _ _ 0 [] rfl]
  simp
@[simp] theorem sB_append (a b : List UInt8) : sB a ++ sB b = sB (a ++ b) := by
  have : (sB a ++ sB b).data = (sB (a ++ b)).data := by
    rw [ByteArray.data_append]; simp
  exact congrArg ByteArray.mk this
@[simp] theorem sB_extract (l : List UInt8) (i j : Nat) : (sB l).extract i j = sB ((l.take j).drop i) := by
  have : ((sB l).extract i j).data = (sB ((l.take j).drop i)).data := by
    rw [ByteArray.data_extract]
    apply Array.ext_getElem?
    intro k
    simp only [sB_data, Array.getElem?_extract, List.getElem?_toArray, List.getElem?_drop, List.getElem?_take, List.size_toArray]
    by_cases h : k < min j l.length - i
    · rw [if_pos h, if_pos (by omega)]
    · rw [if_neg h]
      split
      · rw [List.getElem?_eq_none (by omega)]
      · rfl
  exact congrArg ByteArray.mk this
@[simp] theorem sB_get (l : List UInt8) (i : Nat) : (sB l)[i]? = l[i]? := by
  have : (sB l)[i]? = (sB l).data[i]? := by
    by_cases h : i < (sB l).size
    · rw [getElem?_pos (sB l) i h]
      have h2 : i < (sB l).data.size := h
      rw [getElem?_pos (sB l).data i h2]
      rfl
    · rw [getElem?_neg (sB l) i h]
      have h2 : ¬ i < (sB l).data.size := h
      rw [getElem?_neg (sB l).data i h2]
  rw [this]; simp

attribute [simp] mk_sB
theorem list_beq (a b : List UInt8) : (a == b) = decide (a = b) := by
  rw [Bool.eq_iff_iff]; simp
/-! ### binary operations -/
section
variable {k : IntKind} {n m : Int}
@[simp] theorem bX_eql : binX P .eql t x y (.int k n) (.int k m) H = some (.value (.bool (decide (n = m))), H) := by
  unfold binX; simp [vNilOp, vNil, binV_eql]; rfl
@[simp] theorem bX_neq : binX P .neq t x y (.int k n) (.int k m) H = some (.value (.bool (!decide (n = m))), H) := by
  unfold binX; simp [vNilOp, vNil, binV_neq, bne]; rfl
@[simp] theorem bX_lss : binX P .lss t x y (.int k n) (.int k m) H = some (.value (.bool (decide (n < m))), H) := by unfold binX; simp [vNilOp, binV_lss]
@[simp] theorem bX_leq : binX P .leq t x y (.int k n) (.int k m) H = some (.value (.bool (decide (n ≤ m))), H) := by unfold binX; simp [vNilOp, binV_leq]
@[simp] theorem bX_gtr : binX P .gtr t x y (.int k n) (.int k m) H = some (.value (.bool (decide (m < n))), H) := by unfold binX; simp [vNilOp, binV_gtr]
@[simp] theorem bX_geq : binX P .geq t x y (.int k n) (.int k m) H = some (.value (.bool (decide (m ≤ n))), H) := by unfold binX; simp [vNilOp, binV_geq]
@[simp] theorem bX_add : binX P .add t x y (.int k n) (.int k m) H = some (.value (.int k (k.wrap (n + m))), H) := by unfold binX; simp [vNilOp, binV_add]
@[simp] theorem bX_sub : binX P .sub t x y (.int k n) (.int k m) H = some (.value (.int k (k.wrap (n - m))), H) := by unfold binX; simp [vNilOp, binV_sub]
@[simp] theorem bX_mul : binX P .mul t x y (.int k n) (.int k m) H = some (.value (.int k (k.wrap (n * m))), H) := by
  unfold binX; simp only [vNilOp]; exact binV_int (by simp [Go.binOp, Op.intArith, okRun]) rfl
@[simp] theorem bX_rem : binX P .rem t x y (.int k n) (.int k m) H = if m = 0 then none else some (.value (.int k (n.tmod m)), H) := by
  unfold binX; simp only [vNilOp]
  by_cases h : m = 0
  · subst h
    rw [if_pos rfl]
    unfold binV
    have h1 : flatFor .rem (.int k n) = true := rfl
    have h2 : flatFor .rem (.int k 0) = true := rfl
    have hg : ∀ w, (Go.eqGuard .rem t x y (.int k n) (.int k 0)).run P w = .ok () w := by
      intro w; unfold Go.eqGuard; split <;> simp
    simp only [h1, h2, Bool.and_self, if_true, Sem.run_bind, hg, Result.andThen_ok, Go.binOp, Op.intDiv]
    simp only [ne_eq, not_true, if_false, if_true]
    have : ∀ (v : Value) (H1 : World), (runtimePanic (.error "integer divide by zero") : Sem Value).run P H ≠ .ok v H1 := fun v H1 => noRun_runtimePanic _ _ _ _
    cases hr : (runtimePanic (.error "integer divide by zero") : Sem Value).run P H with
    | ok v w => exact absurd hr (this v w)
    | halt e w => rfl
  · rw [if_neg h]
    exact binV_int (by simp [Go.binOp, Op.intDiv, h, okRun]) rfl
@[simp] theorem bX_quo : binX P .quo t x y (.int k n) (.int k m) H = if m = 0 then none else some (.value (.int k (k.wrap (n.tdiv m))), H) := by
  unfold binX; simp only [vNilOp]
  by_cases h : m = 0
  · subst h
    rw [if_pos rfl]
    unfold binV
    have h1 : flatFor .quo (.int k n) = true := rfl
    have h2 : flatFor .quo (.int k 0) = true := rfl
    have hg : ∀ w, (Go.eqGuard .quo t x y (.int k n) (.int k 0)).run P w = .ok () w := by
      intro w; unfold Go.eqGuard; split <;> simp
    simp only [h1, h2, Bool.and_self, if_true, Sem.run_bind, hg, Result.andThen_ok, Go.binOp, Op.intDiv]
    simp only [ne_eq, not_true, if_false, if_true]
    have : ∀ (v : Value) (H1 : World), (runtimePanic (.error "integer divide by zero") : Sem Value).run P H ≠ .ok v H1 := fun v H1 => noRun_runtimePanic _ _ _ _
    cases hr : (runtimePanic (.error "integer divide by zero") : Sem Value).run P H with
    | ok v w => exact absurd hr (this v w)
    | halt e w => rfl
  · rw [if_neg h]
    exact binV_int (by simp [Go.binOp, Op.intDiv, h, okRun]) rfl
theorem binV_string {op : BinOp} {a b : ByteArray} {v : Value} (h : okRun ((Op.stringOp op a b).run P H) = some (v, H)) (hb : (Go.binOp op t (.string a) (.string b)) = Op.stringOp op a b) (hv : flat1 v = true) :
    binV P op t x y (.string a) (.string b) H = some (.value v, H) := by
  have hg : ∀ w, (Go.eqGuard op t x y (.string a) (.string b)).run P w = .ok () w := by
    intro w; unfold Go.eqGuard; split <;> simp
  unfold binV
  have h1 : flatFor op (.string a) = true := by unfold flatFor; split <;> rfl
  have h2 : flatFor op (.string b) = true := by unfold flatFor; split <;> rfl
  simp only [h1, h2, Bool.and_self, if_true, Sem.run_bind, hg, Result.andThen_ok, hb, h, hv]
@[simp] theorem bX_seql (a b : List UInt8) : binX P .eql t x y (.string (sB a)) (.string (sB b)) H = some (.value (.bool (decide (a = b))), H) := by
  unfold binX; simp only [vNilOp, vNil, Option.map_none]
  refine binV_string (v := .bool (decide (a = b))) ?_ rfl rfl
  simp [Op.stringOp, okRun, list_beq]
@[simp] theorem bX_sneq (a b : List UInt8) : binX P .neq t x y (.string (sB a)) (.string (sB b)) H = some (.value (.bool (!decide (a = b))), H) := by
  unfold binX; simp only [vNilOp, vNil, Option.map_none]
  refine binV_string (v := .bool (!decide (a = b))) ?_ rfl rfl
  simp [Op.stringOp, okRun, list_beq]
@[simp] theorem bX_sadd (a b : List UInt8) : binX P .add t x y (.string (sB a)) (.string (sB b)) H = if a.length + b.length ≤ 9223372036854775807 then some (.value (.string (sB (a ++ b))), H) else none := by
  unfold binX; simp only [vNilOp]
  by_cases h : a.length + b.length ≤ 9223372036854775807
  · rw [if_pos h]
    refine binV_string (v := .string (sB (a ++ b))) ?_ rfl rfl
    unfold Op.stringOp
    have : ¬ ((((sB a).size + (sB b).size : Nat) : Int) > IntKind.i64.max) := by
      simp [IntKind.max, IntKind.bits, IntKind.signed]; omega
    simp only [this, if_false, Sem.run_pure, okRun, sB_append]
  · rw [if_neg h]
    unfold binV
    have h1 : flatFor .add (.string (sB a)) = true := rfl
    have h2 : flatFor .add (.string (sB b)) = true := rfl
    have hg : ∀ w, (Go.eqGuard .add t x y (.string (sB a)) (.string (sB b))).run P w = .ok () w := by
      intro w; unfold Go.eqGuard; split <;> simp
    simp only [h1, h2, Bool.and_self, if_true, Sem.run_bind, hg, Result.andThen_ok, Go.binOp]
    unfold Op.stringOp
    have : ((((sB a).size + (sB b).size : Nat) : Int) > IntKind.i64.max) := by
      simp [IntKind.max, IntKind.bits, IntKind.signed]; omega
    simp only [this, if_true, run_unsupported, okRun]
theorem wrap64' {n : Int} (h0 : -9223372036854775808 ≤ n) (h1 : n ≤ 9223372036854775807) : IntKind.i64.wrap n = n := by
  simp [IntKind.wrap, IntKind.min, IntKind.bits, IntKind.signed]
  omega
end
section
variable {a b : Bool}
theorem binV_bool {op : BinOp} {v : Value} (h : okRun ((Go.binOp op t (.bool a) (.bool b)).run P H) = some (v, H)) (hop : isEq op = true) (hu : P.underlying t = some .bool) (hv : flat1 v = true) :
    binV P op t x y (.bool a) (.bool b) H = some (.value v, H) := by
  have hg : ∀ w, (Go.eqGuard op t x y (.bool a) (.bool b)).run P w = .ok () w := by
    intro w; unfold Go.eqGuard; split <;> simp
  unfold binV
  have h1 : flatFor op (.bool a) = true := by unfold flatFor; rw [hop]; rfl
  have h2 : flatFor op (.bool b) = true := by unfold flatFor; rw [hop]; rfl
  simp only [h1, h2, Bool.and_self, if_true, Sem.run_bind, hg, Result.andThen_ok, h, hv]
theorem bX_beql (hu : P.underlying t = some .bool) : binX P .eql t x y (.bool a) (.bool b) H = some (.value (.bool (a == b)), H) := by
  unfold binX; simp only [vNilOp, vNil, Option.map_none]
  refine binV_bool (v := .bool (a == b)) ?_ rfl hu rfl
  have : (Op.equal t (.bool a) (.bool b)).run P H = .ok (a == b) H := by
    have key : ∀ d, (Op.equalIn (d + 1) t (.bool a) (.bool b)).run P H = .ok (a == b) H := fun d => by
      simp only [Op.equalIn, Sem.run_bind, run_underlying' hu, Result.andThen_ok, Sem.run_pure]
    exact key 9999
  simp only [Go.binOp, Sem.run_bind, this, Result.andThen_ok, Sem.run_pure, okRun]
theorem bX_bneq (hu : P.underlying t = some .bool) : binX P .neq t x y (.bool a) (.bool b) H = some (.value (.bool (!(a == b))), H) := by
  unfold binX; simp only [vNilOp, vNil, Option.map_none]
  refine binV_bool (v := .bool (!(a == b))) ?_ rfl hu rfl
  have : (Op.equal t (.bool a) (.bool b)).run P H = .ok (a == b) H := by
    have key : ∀ d, (Op.equalIn (d + 1) t (.bool a) (.bool b)).run P H = .ok (a == b) H := fun d => by
      simp only [Op.equalIn, Sem.run_bind, run_underlying' hu, Result.andThen_ok, Sem.run_pure]
    exact key 9999
  simp only [Go.binOp, Sem.run_bind, this, Result.andThen_ok, Sem.run_pure, okRun]
end
end Go.Proofs.YtmmmdmandocbhaaDoor.Den
end
