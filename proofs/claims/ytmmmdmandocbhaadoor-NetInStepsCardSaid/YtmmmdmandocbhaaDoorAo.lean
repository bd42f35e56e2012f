/- Helpers of this claim: an evaluator over plain values and its laws. -/
import Derived.Test.YtmmmdmandocbhaaDoorGood
section
/- Loops over functions, by their rounds. -/
set_option linter.unusedVariables false
set_option linter.unusedSimpArgs false
namespace Go.Proofs.YtmmmdmandocbhaaDoor.Den
variable {x : Cx}
theorem setD_eq (H : World) (r : Nat) (o : Obj) : setD H r o = setO H r o := rfl
/-- The frames that a loop's rounds begin with. -/
def Fr (n : Nat) (e : Env) (T : Array Value) : Prop := T.size = n ∧ ∀ t, T.getD t undef = lk e t
theorem Fr.act {n : Nat} {e : Env} {T : Array Value} (h : Fr n e T) : EnvOk n e ⟨T, []⟩ := ⟨h.1, h.2⟩
theorem Fr.set {n : Nat} {e : Env} {T : Array Value} (h : Fr n e T) {t : Nat} (v : Value) (ht : t < n) : Fr n ((t, v) :: e) (T.setIfInBounds t v) := by
  refine ⟨by simp [h.1], fun s => ?_⟩
  rw [lk_cons, ← h.2 s]
  simp only [Array.getD_eq_getD_getElem?, Array.getElem?_setIfInBounds]
  by_cases hs : s = t
  · subst hs; simp [h.1, ht]
  · rw [if_neg hs, if_neg fun e => hs e.symm]
/-- What a round hands back: the iterator's function goes on, or ends. -/
def roundE (l : Nat) (K : Value → World → Prop) : Exit → Env → List Deferred → World → Prop
  | .normal, _, _, H => ∃ r, getO H l = some (.loop r) ∧ K (.bool true) (setO H l (.loop { r with state := .ready, pending := none }))
  | .ret, _, _, H => ∃ r, getO H l = some (.loop r) ∧ K (.bool false) (setO H l (.loop { r with state := .done, pending := some .ret }))
  | .exit id, _, _, H => ∃ r, getO H l = some (.loop r) ∧ K (.bool false) (setO H l (.loop { r with state := .done, pending := some (.exit id) }))
  | _, _, _, _ => False
theorem RW.ofE {l n : Nat} {T : Array Value} {ac bc : Code} {H : World} {K : Value → World → Prop} {e : Env} (hT : Fr n e T)
    (h : CE x (some l) n ac e [] H (thenE (fun e1 ds1 H1 => ∃ r, getO H1 l = some (.loop r) ∧ r.state = .ready ∧ CE x (some l) n bc e1 ds1 (setO H1 l (.loop { r with state := .busy })) (roundE l K)) fun _ _ _ _ => False)) : RW x l T ac bc H K := by
  obtain ⟨⟨ex, a1, H1⟩, ⟨e1, he1, q⟩, k0, hk⟩ := h _ hT.act rfl
  dsimp only at *
  cases ex with
  | normal =>
    obtain ⟨r, hr, hs, hb⟩ := q
    obtain ⟨⟨ex2, a2, H3⟩, ⟨e2, he2, q2⟩, k1, hk1⟩ := hb _ he1 rfl
    dsimp only at *
    have hr' : H1.heap[l]? = some (.loop r) := hr
    have hbeg : beginD l H1 = some (setO H1 l (.loop { r with state := .busy })) := by simp only [beginD, hr', hs]; rfl
    have key : ∀ res, roundEnd l ex2 H3 = some res → K res.1 res.2 → RW x l T ac bc H K := fun res hres hK => by
      refine ⟨res, hK, max k0 k1 + 1, fun k hkk => ?_⟩
      obtain ⟨j, rfl⟩ : ∃ j, k = j + 1 := ⟨k - 1, by omega⟩
      show roundD drawD x.P (x.E j) l T ac bc H = _
      have h1 := hk j (by omega)
      have h2 := hk1 j (by omega)
      simp only [roundD, h1, hbeg, h2, hres]
    cases ex2 with
    | normal =>
      obtain ⟨r2, hr2, hK⟩ := q2
      have hr2' : H3.heap[l]? = some (.loop r2) := hr2
      exact key _ (by simp only [roundEnd, endRoundD, hr2']; rfl) hK
    | ret =>
      obtain ⟨r2, hr2, hK⟩ := q2
      have hr2' : H3.heap[l]? = some (.loop r2) := hr2
      exact key _ (by simp only [roundEnd, endRoundD, hr2']; rfl) hK
    | exit id =>
      obtain ⟨r2, hr2, hK⟩ := q2
      have hr2' : H3.heap[l]? = some (.loop r2) := hr2
      exact key _ (by simp only [roundEnd, endRoundD, hr2']; rfl) hK
    | _ => exact q2.elim
  | _ => exact q.elim
/-- The world in which a loop over a function begins. -/
def loopW (H : World) (T : Array Value) (ps : Array Tmp) (ac bc : Code) : World := pushObj (pushObj H (.deferred (some []))) (.loop (newLoop T ps ac bc H.heap.size))
theorem CE.rangeFunc {n : Nat} {g : Operand} {ps : Array Tmp} {ac bc : Code} {e : Env} {ds : List Deferred} {H : World} {Q : Exit → Env → List Deferred → World → Prop} {f : FuncId} {fs cs : Array Value} (hg : evE e g = .func (.func f) fs cs) (hok : operandOk g = true) (hf : isFn x.P f = true)
    (h : ∀ T, Fr n e T → FW x f ((fs ++ #[.func (.yield (H.heap.size + 1)) #[] #[]]) ++ cs) (loopW H T ps ac bc)
      (fun _ H4 => ∃ r ex, getO H4 (H.heap.size + 1) = some (.loop r) ∧ (r.state == .busy) = false ∧ jumpD r.pending = some ex ∧ Q ex e ({ target := .collected H.heap.size, args := #[] } :: ds) (setO H4 (H.heap.size + 1) (.loop { r with state := .exhausted })))) :
    CE x none n (.rangeFunc g ps ac bc) e ds H Q := fun a he hd => by
  obtain ⟨⟨v, H4⟩, ⟨r, ex, hr, hs, hj, hq⟩, k0, hk⟩ := h a.tmps ⟨he.size, he.get⟩
  dsimp only at *
  have hr' : H4.heap[H.heap.size + 1]? = some (.loop r) := hr
  refine ⟨(ex, { a with defers := { target := .collected H.heap.size, args := #[] } :: a.defers }, setO H4 (H.heap.size + 1) (.loop { r with state := .exhausted })), ⟨e, ⟨he.size, he.get⟩, by rw [← hd] at hq; exact hq⟩, k0, fun k hkk => ?_⟩
  show codeD drawD x.P (x.E k) none (.rangeFunc g ps ac bc) a H = _
  have hcall : callD x.P (a.eval g) #[.func (.yield (H.heap.size + 1)) #[] #[]] (loopW H a.tmps ps ac bc) = some (.enter f ((fs ++ #[.func (.yield (H.heap.size + 1)) #[] #[]]) ++ cs)) := by
    rw [he.eval, hg]
    unfold isFn at hf
    unfold callD
    split at hf
    · rename_i fn hfn
      simp only [hfn]
      rw [if_neg (by rw [Bool.not_eq_true]; simpa using hf)]
    · cases hf
  have h1 := hk k hkk
  simp only [codeD, rangeD, hok, Bool.not_true, Bool.false_eq_true, if_false, enterD]
  have hcall' := hcall
  unfold loopW at hcall' h1
  rw [hcall']
  dsimp only
  rw [h1]
  simp only [endLoopD, hr', hs, Bool.false_eq_true, if_false, hj, Option.map_some, List.cons_append, List.nil_append]
  rfl
theorem FW.inLoop {f : FuncId} {args : Array Value} {H : World} {T : Array Value} {ps : Array Tmp} {ac bc : Code} {Q : Value → World → Prop} (h : ∀ r, r = newLoop T ps ac bc H.heap.size → FW x f args (pushObj (pushObj H (.deferred (some []))) (.loop r)) Q) : FW x f args (loopW H T ps ac bc) Q := h _ rfl
/-- The call of a loop's own function. -/
def yieldW (x : Cx) (l : Nat) (args : Array Value) (H : World) (K : Value → World → Prop) : Prop := match callX x.P (.func (.yield l) #[] #[]) args H with
  | some (.round g _ t ac bc, H1) => RW x g t ac bc H1 K
  | _ => False
theorem yieldW.two {l n : Nat} {e : Env} {T : Array Value} {p q : Tmp} {ac bc : Code} {D : Nat} {u v : Value} {H : World} {K : Value → World → Prop} (hr : getO H l = some (.loop (newLoop T #[p, q] ac bc D))) (hT : Fr n e T) (hp : p < n) (hq : q < n)
    (h : WP x (some l) n ac ((q, v) :: (p, u) :: e) [] H (thenE (fun e1 ds1 H1 => ∃ r, getO H1 l = some (.loop r) ∧ r.state = .ready ∧ WP x (some l) n bc e1 ds1 (setO H1 l (.loop { r with state := .busy })) (roundE l K)) fun _ _ _ _ => False)) : yieldW x l #[u, v] H K := by
  have hr' : H.heap[l]? = some (.loop (newLoop T #[p, q] ac bc D)) := hr
  have hc : callX x.P (.func (.yield l) #[] #[]) #[u, v] H = some (.round l 0 ((T.setIfInBounds p u).setIfInBounds q v) ac bc, H) := by
    simp [callX, callD, hr', newLoop]
  unfold yieldW
  rw [hc]
  refine RW.ofE ((hT.set u hp).set v hq) (CE.imp (WP.sound _ _ _ _ _ h) ?_)
  intro ex e1 ds1 H1 q1
  cases ex with
  | normal => obtain ⟨r, h1, h2, h3⟩ := q1; exact ⟨r, h1, h2, WP.sound _ _ _ _ _ h3⟩
  | _ => exact q1
theorem yieldW.one {l n : Nat} {e : Env} {T : Array Value} {p : Tmp} {ac bc : Code} {D : Nat} {u : Value} {H : World} {K : Value → World → Prop} (hr : getO H l = some (.loop (newLoop T #[p] ac bc D))) (hT : Fr n e T) (hp : p < n)
    (h : WP x (some l) n ac ((p, u) :: e) [] H (thenE (fun e1 ds1 H1 => ∃ r, getO H1 l = some (.loop r) ∧ r.state = .ready ∧ WP x (some l) n bc e1 ds1 (setO H1 l (.loop { r with state := .busy })) (roundE l K)) fun _ _ _ _ => False)) : yieldW x l #[u] H K := by
  have hr' : H.heap[l]? = some (.loop (newLoop T #[p] ac bc D)) := hr
  have hc : callX x.P (.func (.yield l) #[] #[]) #[u] H = some (.round l 0 (T.setIfInBounds p u) ac bc, H) := by
    simp [callX, callD, hr', newLoop]
  unfold yieldW
  rw [hc]
  refine RW.ofE (hT.set u hp) (CE.imp (WP.sound _ _ _ _ _ h) ?_)
  intro ex e1 ds1 H1 q1
  cases ex with
  | normal => obtain ⟨r, h1, h2, h3⟩ := q1; exact ⟨r, h1, h2, WP.sound _ _ _ _ _ h3⟩
  | _ => exact q1
theorem yieldW.imp {l : Nat} {args : Array Value} {H : World} {K K' : Value → World → Prop} (h : yieldW x l args H K) (hk : ∀ v H, K v H → K' v H) : yieldW x l args H K' := by
  unfold yieldW at *
  split at h
  · exact Ev.imp h fun r => hk _ _
  · exact h.elim
theorem stepX_yield' {n : Nat} {dsts : List (Option Tmp)} {l : List Oper} {e : Env} {d : Option Tmp} {K : Env → World → Prop} {r : Nat} {args : Array Value} {H : World} : stepX x n dsts l e d (callX x.P (.func (.yield r) #[] #[]) args H) K = yieldW x r args H fun v H2 => OX x n dsts l (putE e d v) H2 K := by
  unfold yieldW stepX
  have : ∀ y, callX x.P (.func (.yield r) #[] #[]) args H = some y → (match y with | (.round .., _) => True | _ => False) := by
    intro y hy
    unfold callX callD at hy
    simp only at hy
    split at hy
    · split at hy
      · simp at hy; subst hy; trivial
      · cases hy
    · cases hy
  cases hc : callX x.P (.func (.yield r) #[] #[]) args H with
  | none => rfl
  | some y =>
    have := this y hc
    obtain ⟨nx, H1⟩ := y
    cases nx <;> simp_all
theorem endE_mark {fn : Func} {Q : Value → World → Prop} {ex : Exit} {e : Env} {ds : List Deferred} {H : World} {r : Nat} (h : getO H r = some (.deferred (some []))) : endE x fn Q ex e ({ target := .collected r, args := #[] } :: ds) H = endE x fn Q ex e ds (setO H r (.deferred none)) := by
  have h' : H.heap[r]? = some (.deferred (some [])) := h
  cases ex <;> simp only [endE, leaveD, h'] <;> rfl
theorem slice_str {P : Program} {t : TypeId} {l : List UInt8} {lo hi : Option Value} {h b : Nat} {H : World} (hu : P.underlying t = some .string) (hh : vBound l.length hi l.length = some h) (hl : vBound h lo 0 = some b) : sliceX P t (.string (sB l)) lo hi none H = some (.value (.string (sB ((l.take h).drop b))), H) := by
  unfold sliceX
  have hv : vSliceOp P t (.string (sB l)) lo hi none = none := rfl
  rw [hv]
  simp only [hu, sB_size, hh, hl, sB_extract]
theorem slice_str_to {P : Program} {t : TypeId} {l : List UInt8} {k : IntKind} {n : Int} {H : World} (hu : P.underlying t = some .string) (h0 : 0 ≤ n) (h1 : n ≤ l.length) : sliceX P t (.string (sB l)) none (some (.int k n)) none H = some (.value (.string (sB (l.take n.toNat))), H) := by
  rw [slice_str (h := n.toNat) (b := 0) hu (by simp [vBound, h0, h1]) (by simp [vBound])]
  simp
theorem slice_str_from {P : Program} {t : TypeId} {l : List UInt8} {k : IntKind} {n : Int} {H : World} (hu : P.underlying t = some .string) (h0 : 0 ≤ n) (h1 : n ≤ l.length) : sliceX P t (.string (sB l)) (some (.int k n)) none none H = some (.value (.string (sB (l.drop n.toNat))), H) := by
  rw [slice_str (h := l.length) (b := n.toNat) hu (by simp [vBound]) (by simp [vBound, h0, h1])]
  simp
end Go.Proofs.YtmmmdmandocbhaaDoor.Den
end
