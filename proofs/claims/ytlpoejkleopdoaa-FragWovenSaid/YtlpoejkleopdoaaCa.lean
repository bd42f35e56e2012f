/- Helpers of this claim: an evaluator over plain values and its laws. -/
import Derived.Test.YtlpoejkleopdoaaS
import Derived.KernelRfl
section
set_option linter.unusedVariables false
set_option linter.unusedSimpArgs false
namespace Go.Proofs.Ytlpoejkleopdoaa
open Go Go.Proofs.Ytlpoejkleopdoaa.Den
/-! ### the data -/
structure Pc where
  id : Int
  place : Int
  more : Bool
  body : List UInt8
def encP (p : Pc) : Value := .agg #[.int .i64 p.id, .int .i64 p.place, .bool p.more, .string (sB p.body)]
@[simp] theorem encP_cells (p : Pc) : (encP p).cells = #[.int .i64 p.id, .int .i64 p.place, .bool p.more, .string (sB p.body)] := rfl
theorem plainP (p : Pc) : plain 1 (encP p) = true := by simp [plain, encP, constOk1]
@[simp] theorem encP_agg (p : Pc) : (.agg #[.int .i64 p.id, .int .i64 p.place, .bool p.more, .string (sB p.body)] : Value) = encP p := rfl
abbrev sl (o : Option (List Pc)) : Value := slV 4 (o.map (List.map encP))
abbrev ints (o : Option (List Int)) : Value := slV 1 (o.map (List.map (Value.int .i64)))
noncomputable def X : Cx := ⟨Try.prog, fun f => [8,9,12,13,14,15,16,17,18,19,20,21,22,23,24,25,26,27,34,37,38,39,42,10,11,29,30,43,49].contains f⟩
@[simp] theorem XP : X.P = Try.prog := rfl
theorem plainP' (p : Pc) : plain deep (encP p) = true := plain_of (plainP p) (by decide)
theorem plainS (o : Option (List Pc)) : plain deep (sl o) = true := plain_of (d := 2) (plain_slMap plainP o) (by decide)
theorem plainI (o : Option (List Int)) : plain deep (ints o) = true := plain_of (d := 1) (plain_slMap (fun n => plain_int 0 _ n) o) (by decide)

theorem awake_run : ((Go.Proofs.Ytlpoejkleopdoaa.Den.run X.P X.al 60 9 #[] World0).map fun r => match r.1 with | .bool b => b | _ => false) = some true := by kernel_rfl
theorem awake_eq (H : World) (Q : Value → World → Prop) : FW X 9 #[] H Q = Q (.bool true) H := by
  have h := awake_run
  simp only [Option.map_eq_some_iff] at h
  obtain ⟨⟨v, H0⟩, h1, h2⟩ := h
  cases v <;> simp at h2
  subst h2
  exact fw_ofRunAlone (by simp [X]) h1 H Q

/-! ### Valid -/
def valid (p : Pc) : Bool := decide (0 ≤ p.id) && decide (p.id ≤ 1000000) && decide (0 ≤ p.place) && decide (p.place ≤ 1000000) && decide ((p.body.length : Int) ≤ 65536) && (!p.more || !decide (p.body = []))
set_option maxRecDepth 100000 in
theorem Valid_eq (p : Pc) (H : World) (Q : Value → World → Prop) : FW X 13 #[encP p] H Q = Q (.bool (valid p)) H := by
  refine FW.aloneEq ?_ Try.func13 Try.ntmps13 rfl (by simp) ?_ H Q
  · simp [X, plainP']
  simp
  repeat' (first | refine gIf_dec (fun h => ?_) (fun h => ?_) | refine gIf_ndec (fun h => ?_) (fun h => ?_) | refine gIf_nb (fun h => ?_) (fun h => ?_) | refine gIf_split (fun h => ?_) (fun h => ?_) | (exfalso; omega; done) | (simp [*]; done) | (simp [valid, *]; done) | simp [*])
set_option maxRecDepth 100000 in
theorem ValidR_eq (p : Pc) (H : World) (Q : Value → World → Prop) : FW X 14 #[encP p] H Q = Q (.bool (valid p)) H := by
  refine FW.aloneEq ?_ Try.func14 Try.ntmps14 rfl (by simp) ?_ H Q
  · simp [X, plainP']
  simp
  repeat' (first | refine gIf_dec (fun h => ?_) (fun h => ?_) | refine gIf_ndec (fun h => ?_) (fun h => ?_) | refine gIf_nb (fun h => ?_) (fun h => ?_) | refine gIf_split (fun h => ?_) (fun h => ?_) | (exfalso; omega; done) | (simp [*]; done) | (simp [valid, *]; done) | simp [*])

/-! ### light -/
def sumW (l : List Pc) : Int := l.foldl (fun n p => IntKind.i64.wrap (n + p.body.length)) 0
theorem sumW_take {l : List Pc} {k : Nat} (hk : k < l.length) : sumW (l.take (k + 1)) = IntKind.i64.wrap (sumW (l.take k) + l[k].body.length) := by
  unfold sumW
  rw [List.take_succ_eq_append_getElem hk, List.foldl_append]
  rfl
def light (o : Option (List Pc)) : Bool := decide ((o.getD []).length ≤ 200) && decide (sumW (o.getD []) ≤ 3000)
set_option maxRecDepth 100000 in
theorem light_eq (o : Option (List Pc)) (hl : (o.getD []).length < 2 ^ 63) (H : World) (Q : Value → World → Prop) : FW X 8 #[sl o] H Q = Q (.bool (light o)) H := by
  refine FW.aloneEq ?_ Try.func8 Try.ntmps8 rfl (by simp) ?_ H Q
  · simp [X, plainS]
  simp
  refine CE.range (m := (o.getD []).length) (fun k e H => lk e 3 = .int .i64 (sumW ((o.getD []).take k)) ∧ lk e 0 = sl o ∧ lk e 6 = sl o) ?_ hl ?_ ?_ ?_
  · decide
  · simp [sumW]
  · intro k e H hk h1 h2 ⟨h3, h4, h5⟩
    simp [h1, h2, h3, h4, h5, hk, allocX, sumW_take]
  · intro e H h1 h2 ⟨h3, h4, h5⟩
    simp [h1, h2, h3, h4, h5]
    repeat' (first | refine gIf_dec (fun h => ?_) (fun h => ?_) | refine gIf_ndec (fun h => ?_) (fun h => ?_) | (exfalso; omega; done) | (simp [*]; done) | (simp [light, *]; omega; done) | simp [light, *])
/-! ### ContainsFunc -/
def idxI {α : Type} (p : α → Bool) (l : List α) : Int := match l.findIdx? p with | some i => i | none => -1
theorem idxI_at {α : Type} {p : α → Bool} {l : List α} {k : Nat} (hk : k < l.length) (h : ∀ j (hj : j < k), p (l[j]'(by omega)) = false) (hp : p l[k] = true) : idxI p l = k := by
  have : l.findIdx? p = some k := by
    rw [List.findIdx?_eq_some_iff_getElem]
    exact ⟨hk, hp, fun j hj => by simp [h j hj]⟩
  simp [idxI, this]
theorem idxI_none {α : Type} {p : α → Bool} {l : List α} (h : ∀ j (hj : j < l.length), p l[j] = false) : idxI p l = -1 := by
  have : l.findIdx? p = none := by
    rw [List.findIdx?_eq_none_iff]
    intro x hx
    obtain ⟨j, hj, rfl⟩ := List.getElem_of_mem hx
    exact h j hj
  simp [idxI, this]
theorem idxI_any {α : Type} (p : α → Bool) (l : List α) : decide (0 ≤ idxI p l) = l.any p := by
  unfold idxI
  cases h : l.findIdx? p with
  | some i =>
    rw [List.findIdx?_eq_some_iff_getElem] at h
    obtain ⟨hi, hp, _⟩ := h
    have : l.any p = true := List.any_eq_true.2 ⟨_, List.getElem_mem hi, hp⟩
    rw [this]; simp
  | none =>
    rw [List.findIdx?_eq_none_iff] at h
    have : l.any p = false := by
      rw [Bool.eq_false_iff]
      intro h2
      obtain ⟨x, hx, hp⟩ := List.any_eq_true.1 h2
      rw [h x hx] at hp; cases hp
    rw [this]; simp
set_option maxRecDepth 100000 in
theorem call49 (p : Pc) (H : World) (Q : Value → World → Prop) : FW X 49 #[encP p] H Q = Q (.bool (!valid p)) H := by
  refine FW.aloneEq ?_ Try.func49 Try.ntmps49 rfl (by simp) ?_ H Q
  · simp [X, plainP']
  simp [Valid_eq]
theorem call29 (n : Int) (H : World) (Q : Value → World → Prop) : FW X 29 #[.int .i64 n] H Q = Q (.bool (decide (n < 0))) H := by
  refine FW.aloneEq ?_ Try.func29 Try.ntmps29 rfl (by simp) ?_ H Q
  · simp [X]
  simp
theorem call30 (o : Option (List Pc)) (H : World) (Q : Value → World → Prop) : FW X 30 #[sl o] H Q = Q (.bool (decide ((o.getD []) = []))) H := by
  refine FW.aloneEq ?_ Try.func30 Try.ntmps30 rfl (by simp) ?_ H Q
  · simp [X, plainS]
  simp
set_option maxRecDepth 100000 in
theorem Index52 (o : Option (List Pc)) (hl : (o.getD []).length < 2 ^ 63) (H : World) (Q : Value → World → Prop) : FW X 52 #[sl o, .func (.func 49) #[] #[]] H Q = Q (.int .i64 (idxI (fun p => !valid p) (o.getD []))) H := by
  refine FW.eqE (by simp [X]) Try.func52 Try.ntmps52 rfl (by simp) ?_ Q
  simp
  refine CE.range (m := (o.getD []).length) (fun k e H' => H' = H ∧ lk e 0 = sl o ∧ lk e 1 = .func (.func 49) #[] #[] ∧ ∀ j (hj : j < (o.getD []).length), j < k → valid (o.getD [])[j] = true) ?_ hl ?_ ?_ ?_
  · decide
  · simp
  · rintro k e H' hk h1 h2 ⟨rfl, h3, h4, h5⟩
    simp [h1, h2, h3, h4, hk, call49]
    refine gIf_nb (fun h => ?_) (fun h => ?_)
    · simp [h1, h2, h3, h4]
      intro j hj hj2
      by_cases hjk : j = k
      · subst hjk; exact h
      · exact h5 j hj (by omega)
    · simp [h]
      exact (idxI_at hk (fun j hj => by simp [h5 j (by omega) hj]) (by simp [h])).symm
  · rintro e H' h1 h2 ⟨rfl, h3, h4, h5⟩
    simp
    exact (idxI_none fun j hj => by simp [h5 j hj hj]).symm
theorem Contains35 (o : Option (List Pc)) (hl : (o.getD []).length < 2 ^ 63) (H : World) (Q : Value → World → Prop) : FW X 35 #[sl o, .func (.func 49) #[] #[]] H Q = Q (.bool ((o.getD []).any fun p => !valid p)) H := by
  refine FW.eqE (by simp [X]) Try.func35 Try.ntmps35 rfl (by simp) ?_ Q
  simp [Index52 o hl, idxI_any]
theorem Index50 (o : Option (List Int)) (hl : (o.getD []).length < 2 ^ 63) (H : World) (Q : Value → World → Prop) : FW X 50 #[ints o, .func (.func 29) #[] #[]] H Q = Q (.int .i64 (idxI (fun n => decide (n < 0)) (o.getD []))) H := by
  refine FW.eqE (by simp [X]) Try.func50 Try.ntmps50 rfl (by simp) ?_ Q
  simp
  refine CE.range (m := (o.getD []).length) (fun k e H' => H' = H ∧ lk e 0 = ints o ∧ lk e 1 = .func (.func 29) #[] #[] ∧ ∀ j (hj : j < (o.getD []).length), j < k → ¬ (o.getD [])[j] < 0) ?_ hl ?_ ?_ ?_
  · decide
  · simp
  · rintro k e H' hk h1 h2 ⟨rfl, h3, h4, h5⟩
    simp [h1, h2, h3, h4, hk, call29]
    refine gIf_dec (fun h => ?_) (fun h => ?_)
    · simp
      exact (idxI_at hk (fun j hj => by simpa using h5 j (by omega) hj) (by simp [h])).symm
    · simp [h1, h2, h3, h4]
      intro j hj hj2
      by_cases hjk : j = k
      · subst hjk; omega
      · have := h5 j hj (by omega); omega
  · rintro e H' h1 h2 ⟨rfl, h3, h4, h5⟩
    simp
    exact (idxI_none fun j hj => by simpa using h5 j hj hj).symm
theorem Contains28 (o : Option (List Int)) (hl : (o.getD []).length < 2 ^ 63) (H : World) (Q : Value → World → Prop) : FW X 28 #[ints o, .func (.func 29) #[] #[]] H Q = Q (.bool ((o.getD []).any fun n => decide (n < 0))) H := by
  refine FW.eqE (by simp [X]) Try.func28 Try.ntmps28 rfl (by simp) ?_ Q
  simp [Index50 o hl, idxI_any]
/-! ### pieces -/
def allValid (l : List Pc) : Bool := l.all valid
def okPieces (o : Option (List Pc)) : Bool := decide ((o.getD []).length ≤ 2000) && allValid (o.getD [])
theorem any_not (l : List Pc) : (l.any fun p => !valid p) = !allValid l := by simp [allValid, List.all_eq_not_any_not]
theorem pieces_eq (o : Option (List Pc)) (hl : (o.getD []).length < 2 ^ 63) (H : World) (Q : Value → World → Prop) : FW X 27 #[sl o] H Q = Q (.int .i64 (if okPieces o = true then 0 else 1)) H := by
  refine FW.aloneEq ?_ Try.func27 Try.ntmps27 rfl (by simp) ?_ H Q
  · simp [X, plainS]
  simp [Contains35 o hl, any_not]
  refine gIf_ndec (fun h => ?_) (fun h => ?_)
  · simp [h]
    simp [okPieces]; omega
  · simp [h, Contains35 o hl, any_not]
    have h3 : (o.getD []).length ≤ 2000 := by omega
    cases h2 : allValid (o.getD []) <;> simp [okPieces, h2, h3]
set_option maxRecDepth 100000 in
theorem piecesR_eq (o : Option (List Pc)) (hl : (o.getD []).length < 2 ^ 63) (H : World) (Q : Value → World → Prop) : FW X 34 #[sl o] H Q = Q (.bool (okPieces o)) H := by
  refine FW.aloneEq ?_ Try.func34 Try.ntmps34 rfl (by simp) ?_ H Q
  · simp [X, plainS]
  simp
  refine CE.range (m := (o.getD []).length) (fun k e H' => lk e 0 = sl o ∧ lk e 5 = sl o ∧ ∀ j (hj : j < (o.getD []).length), j < k → valid (o.getD [])[j] = true) ?_ hl ?_ ?_ ?_
  · decide
  · simp
  · rintro k e H' hk h1 h2 ⟨h3, h4, h5⟩
    simp [h1, h2, h3, h4, hk, allocX, ValidR_eq]
    refine gIf_nb (fun h => ?_) (fun h => ?_)
    · simp [h1, h2, h3, h4]
      intro j hj hj2
      by_cases hjk : j = k
      · subst hjk; exact h
      · exact h5 j hj (by omega)
    · simp [h]
      have : allValid (o.getD []) = false := by
        rw [Bool.eq_false_iff]
        intro ha
        rw [allValid, List.all_eq_true] at ha
        rw [ha _ (List.getElem_mem hk)] at h; cases h
      simp [okPieces, this]
  · rintro e H' h1 h2 ⟨h3, h4, h5⟩
    have : allValid (o.getD []) = true := by
      rw [allValid, List.all_eq_true]
      intro x hx
      obtain ⟨j, hj, rfl⟩ := List.getElem_of_mem hx
      exact h5 j hj hj
    simp [h1, h2, h3, h4, okPieces, this]
    omega
/-! ### SamePieces -/
instance : DecidableEq Pc := fun a b => by
  cases a with
  | mk a1 a2 a3 a4 =>
    cases b with
    | mk b1 b2 b3 b4 =>
      exact decidable_of_iff (a1 = b1 ∧ a2 = b2 ∧ a3 = b3 ∧ a4 = b4) (by simp)
theorem eqFsP (p q : Pc) : eqFs Try.prog [{ name := "ID", type := 3, offset := 0, embedded := false, tag := "", pkgPath := "", byteOffset := 0 }, { name := "Place", type := 3, offset := 1, embedded := false, tag := "", pkgPath := "", byteOffset := 8 },
        { name := "More", type := 4, offset := 2, embedded := false, tag := "", pkgPath := "", byteOffset := 16 }, { name := "Body", type := 9, offset := 3, embedded := false, tag := "", pkgPath := "", byteOffset := 24 }] (encP p).cells (encP q).cells = some (decide (p = q)) := by
  have e : ∀ (a1 b1 : Int) (a2 b2 : Int) (a3 b3 : Bool) (a4 b4 : List UInt8), decide ((⟨a1, a2, a3, a4⟩ : Pc) = ⟨b1, b2, b3, b4⟩) = (decide (a1 = b1) && (decide (a2 = b2) && (decide (a3 = b3) && decide (a4 = b4)))) := by
    intros; simp [Pc.mk.injEq, decide_eq_decide, Bool.decide_and]
  obtain ⟨a1, a2, a3, a4⟩ := p
  obtain ⟨b1, b2, b3, b4⟩ := q
  rw [e]
  have hb : ∀ (a b : Bool), (a == b) = decide (a = b) := by intro a b; cases a <;> cases b <;> rfl
  simp [eqFs, eqV, sB_beq, hb]
  by_cases h1 : a1 = b1 <;> by_cases h2 : a2 = b2 <;> by_cases h3 : a3 = b3 <;> by_cases h4 : a4 = b4 <;> simp [h1, h2, h3, h4]
@[simp] theorem neqP (p q : Pc) (x y : Operand) (H : World) : binX Try.prog .neq 33 x y (encP p) (encP q) H = some (.value (.bool (!decide (p = q))), H) :=
  (binV_struct Try.underlying33 Try.stoodInHeld33 (by decide +kernel) (by simp [flat1]) (by simp [flat1]) (eqFsP p q)).2
def same (a b : Option (List Pc)) : Bool := decide (a.getD [] = b.getD [])
set_option maxRecDepth 100000 in
theorem Same_eq (a b : Option (List Pc)) (hl : (a.getD []).length < 2 ^ 63) (H : World) (Q : Value → World → Prop) : FW X 12 #[sl a, sl b] H Q = Q (.bool (same a b)) H := by
  refine FW.aloneEq ?_ Try.func12 Try.ntmps12 rfl (by simp) ?_ H Q
  · simp [X, plainS]
  simp
  refine gIf_ndec (fun h => ?_) (fun h => ?_)
  · have h' : (a.getD []).length = (b.getD []).length := by omega
    simp
    refine CE.range (m := (a.getD []).length) (fun k e H' => lk e 0 = sl a ∧ lk e 1 = sl b ∧ ∀ j (hj : j < (a.getD []).length), j < k → (a.getD [])[j] = (b.getD [])[j]'(by omega)) ?_ hl ?_ ?_ ?_
    · decide
    · simp
    · rintro k e H' hk h1 h2 ⟨h3, h4, h5⟩
      have hk' : k < (b.getD []).length := by omega
      simp [h1, h2, h3, h4, hk]
      refine WP.draw0 (by decide +kernel) (by decide +kernel) ?_
      simp [h1, h2, h3, h4, hk, hk']
      refine gIf_ndec (fun h => ?_) (fun h => ?_)
      · simp [h1, h2, h3, h4]
        intro j hj hj2
        by_cases hjk : j = k
        · subst hjk; exact h
        · exact h5 j hj (by omega)
      · simp
        have : same a b = false := by
          simp only [same, decide_eq_false_iff_not]
          intro e; apply h
          simp only [e]
        exact this
    · rintro e H' h1 h2 ⟨h3, h4, h5⟩
      simp
      have : a.getD [] = b.getD [] := List.ext_getElem h' fun j hj _ => h5 j hj hj
      simp [same, this]
  · simp [same]
    intro e; apply h; rw [e]
end Go.Proofs.Ytlpoejkleopdoaa
end
