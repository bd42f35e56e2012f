/- Helpers of this claim: an evaluator over plain values and its laws. -/
import Derived.Test.YtmmmdmandocbhaaDoorAe1
section
/- Code as a condition that can be reckoned: WP. -/
set_option linter.unusedVariables false
set_option linter.unusedSimpArgs false
namespace Go.Proofs.YtmmmdmandocbhaaDoor.Den

/-! ### regions that draw -/
def reOneE (P : Program) (ops : Array Oper) (i : Nat) (e : Env) (H H' : World) : Prop :=
  match ops[i]? with
  | some o => if Region.wanted o (yieldE ops e) then
      (pureD P o.op (evE e)).isSome = true ∨ match semR P o (evE e) H, semR P o (evE e) H' with
        | some (.value v, _), some (.value v', _) => veq v v' = true
        | _, _ => False
    else True
  | none => True
def Checks (P : Program) (ops : Array Oper) (tr : List (Env × World)) : List (Nat × Nat) → Prop
  | [] => True
  | p :: l => (match tr[p.1]?, tr[p.2]? with | some x, some y => reOneE P ops p.1 x.1 x.2 y.2 | _, _ => False) ∧ Checks P ops tr l
/-- A region that draws: its operations in the order of the text, and the rechecks at its end. -/
def DL (x : Cx) (n : Nat) (ops : Array Oper) : List Oper → Env → World → List (Env × World) → (Env → World → Prop) → Prop
  | [], e, H, tr, K => Checks x.P ops (tr ++ [(e, H)]) (rePairs x.P ops) ∧ K e H
  | o :: l, e, H, tr, K =>
    (match o.dst with | some d => decide (d < n) | none => true) = true ∧
      if Region.wanted o (yieldE ops e) then
        match semX x.P o (evE e) H with
        | some (.value v, H1) => DL x n ops l (putE e o.dst v) H1 (tr ++ [(e, H)]) K
        | some (.skip, H1) => DL x n ops l (putE e o.dst undef) H1 (tr ++ [(e, H)]) K
        | some (.enter f args, H1) => FW x f args H1 fun v H2 => DL x n ops l (putE e o.dst v) H2 (tr ++ [(e, H)]) K
        | some (.round g _ t as b, H1) => RW x g t as b H1 fun v H2 => DL x n ops l (putE e o.dst v) H2 (tr ++ [(e, H)]) K
        | _ => False
      else DL x n ops l (putE e o.dst undef) H (tr ++ [(e, H)]) K

inductive TrOk (n : Nat) : List (Env × World) → List (Act × World) → Prop
  | nil : TrOk n [] []
  | cons (e : Env) (a : Act) (H : World) (t : List (Env × World)) (s : List (Act × World)) (h : EnvOk n e a) (hs : TrOk n t s) : TrOk n ((e, H) :: t) ((a, H) :: s)
theorem TrOk.append {n : Nat} {t t' : List (Env × World)} {s s' : List (Act × World)} (h : TrOk n t s) (h' : TrOk n t' s') : TrOk n (t ++ t') (s ++ s') := by
  induction h with
  | nil => exact h'
  | cons e a H t s h _ ih => exact .cons e a H _ _ h ih
theorem TrOk.get {n : Nat} {t : List (Env × World)} {s : List (Act × World)} (h : TrOk n t s) : ∀ (k : Nat) (x : Env × World), t[k]? = some x → ∃ a, s[k]? = some (a, x.2) ∧ EnvOk n x.1 a := by
  induction h with
  | nil => intro k x hx; simp at hx
  | cons e a H t s h _ ih =>
    intro k x hx
    cases k with
    | zero => simp at hx; subst hx; exact ⟨a, rfl, h⟩
    | succ k => obtain ⟨b, hb, hh⟩ := ih k x (by simpa using hx); exact ⟨b, by simpa using hb, hh⟩
theorem reOneE_sound {P : Program} {ops : Array Oper} {n i : Nat} {e : Env} {a : Act} {H H' : World} (he : EnvOk n e a) (h : reOneE P ops i e H H') : reOne P ops i a H H' = true := by
  unfold reOneE at h
  unfold reOne
  cases ho : ops[i]? with
  | none => rfl
  | some o =>
    rw [ho] at h
    simp only at h ⊢
    rw [he.yielded]
    split
    · rename_i hw
      rw [if_pos hw] at h
      rw [he.eval, semD_semR, semD_semR, he.eval]
      split
      · rfl
      · rename_i hp
        rcases h with h | h
        · exact absurd h hp
        · split at h
          · rename_i h1 h2; rw [h1, h2]; exact h
          · exact h.elim
    · rfl
theorem checks_sound {P : Program} {ops : Array Oper} {n : Nat} {t : List (Env × World)} {s : List (Act × World)} (h : TrOk n t s) : ∀ (l : List (Nat × Nat)), Checks P ops t l →
    l.all (fun p => match s[p.1]?, s[p.2]? with | some x, some y => reOne P ops p.1 x.1 x.2 y.2 | _, _ => false) = true
  | [], _ => rfl
  | p :: l, hc => by
    obtain ⟨h1, h2⟩ := hc
    rw [List.all_cons, Bool.and_eq_true]
    refine ⟨?_, checks_sound h l h2⟩
    split at h1
    · rename_i x y hx hy
      obtain ⟨a, ha, hae⟩ := h.get _ _ hx
      obtain ⟨b, hb, hbe⟩ := h.get _ _ hy
      rw [ha, hb]
      exact reOneE_sound hae h1
    · exact h1.elim
section
variable {x : Cx} {ro : Option Nat} {n : Nat} {e : Env} {ds : List Deferred} {H : World} {Q : Exit → Env → List Deferred → World → Prop}
theorem DL.run {ops : Array Oper} {K : Env → World → Prop} : ∀ (l : List Oper) (s : Nat) (e : Env) (a : Act) (H : World) (trE : List (Env × World)) (trA : List (Act × World)), ops.toList.drop s = l → EnvOk n e a → a.defers = ds → TrOk n trE trA → DL x n ops l e H trE K →
    ∃ tr2 e1 a1 H1, EnvOk n e1 a1 ∧ a1.defers = ds ∧ K e1 H1 ∧ (∃ t2, TrOk n t2 (trA ++ tr2) ∧ Checks x.P ops t2 (rePairs x.P ops)) ∧ tr2[l.length]? = some (a1, H1) ∧ ∃ k0, ∀ k, k0 ≤ k → traceD x.P (x.E k) ops (List.range' s l.length) a H = some tr2
  | [], s, e, a, H, trE, trA, hl, he, hd, ht, h => by
    obtain ⟨h1, h2⟩ := h
    exact ⟨[(a, H)], e, a, H, he, hd, h2, ⟨_, ht.append (.cons e a H _ _ he .nil), h1⟩, rfl, 0, fun k _ => rfl⟩
  | o :: l, s, e, a, H, trE, trA, hl, he, hd, ht, h => by
    have ho : ops[s]? = some o := by
      rw [← Array.getElem?_toList]
      have := List.getElem?_drop (xs := ops.toList) (i := s) (j := 0)
      rw [hl] at this
      simpa using this.symm
    have hl' : ops.toList.drop (s + 1) = l := by
      rw [← List.drop_drop, hl]; rfl
    unfold DL at h
    obtain ⟨hdst, h⟩ := h
    have hdst : ∀ d, o.dst = some d → d < n := fun d hde => by rw [hde] at hdst; simpa using hdst
    have hput : ∀ v, (a.put o.dst v).defers = ds := fun v => by cases hds : o.dst <;> exact hd
    have ht' : TrOk n (trE ++ [(e, H)]) (trA ++ [(a, H)]) := ht.append (.cons e a H _ _ he .nil)
    -- one step, then the rest
    have go : ∀ (v : Value) (H1 : World), (∃ k1, ∀ k, k1 ≤ k → stepD x.P (x.E k) ops s a H = some (a.put o.dst v, H1)) → DL x n ops l (putE e o.dst v) H1 (trE ++ [(e, H)]) K →
        ∃ tr2 e1 a1 H1, EnvOk n e1 a1 ∧ a1.defers = ds ∧ K e1 H1 ∧ (∃ t2, TrOk n t2 (trA ++ tr2) ∧ Checks x.P ops t2 (rePairs x.P ops)) ∧ tr2[(o :: l).length]? = some (a1, H1) ∧ ∃ k0, ∀ k, k0 ≤ k → traceD x.P (x.E k) ops (List.range' s (o :: l).length) a H = some tr2 := by
      intro v H1 ⟨k1, hk1⟩ hrest
      obtain ⟨tr2, e1, a1, H2, h1, h2, h3, ⟨t2, h4, h5⟩, h6, k0, hk0⟩ := DL.run l (s + 1) _ _ H1 _ _ hl' (he.put o.dst hdst v) (hput v) ht' hrest
      refine ⟨(a, H) :: tr2, e1, a1, H2, h1, h2, h3, ⟨t2, by simpa using h4, h5⟩, by simpa using h6, max k0 k1, fun k hk => ?_⟩
      simp only [List.length_cons, List.range'_succ, traceD, hk1 k (by omega), hk0 k (by omega), Option.map_some]
    split at h
    · rename_i hw
      have hw' : Region.wanted o (Go.yielded ops a.tmps) = true := by rw [he.yielded]; exact hw
      have hss : ∀ k, stepD x.P (x.E k) ops s a H = opD x.P (x.E k) o a H := fun k => by unfold stepD; rw [ho]; simp only [hw', if_true]
      cases hs : semX x.P o (evE e) H with
      | none => rw [hs] at h; exact h.elim
      | some p =>
        obtain ⟨nx, H1⟩ := p
        rw [hs] at h
        have hs' : semD x.P o a H = some (nx, H1) := by rw [semD_semR, he.eval]; exact semX_sound _ hs
        cases nx with
        | value v => exact go v H1 ⟨0, fun k _ => by rw [hss]; unfold opD; rw [hs']⟩ h
        | skip => exact go undef H1 ⟨0, fun k _ => by rw [hss]; unfold opD; rw [hs']⟩ h
        | enter f args =>
          obtain ⟨⟨v, H2⟩, hq, k1, hk1⟩ := h
          exact go v H2 ⟨k1, fun k hk => by rw [hss]; unfold opD; rw [hs']; simp only [hk1 k hk, Option.map_some]⟩ hq
        | round g f t as b =>
          obtain ⟨⟨v, H2⟩, hq, k1, hk1⟩ := h
          exact go v H2 ⟨k1, fun k hk => by rw [hss]; unfold opD; rw [hs']; simp only [hk1 k hk, Option.map_some]⟩ hq
        | _ => exact h.elim
    · rename_i hw
      have hw' : ¬ Region.wanted o (Go.yielded ops a.tmps) = true := by rw [he.yielded]; exact hw
      exact go undef H ⟨0, fun k _ => by unfold stepD; rw [ho]; simp only [hw', Bool.false_eq_true, if_false]⟩ h
theorem CE.drawL {id : Nat} {ops : List Oper} (hs : drawStatic x.P ops.toArray = true) (h : DL x n ops.toArray ops e H [] fun e1 H1 => Q .normal e1 ds H1) : CE x ro n (.region id ops.toArray true) e ds H Q := fun a he hd => by
  obtain ⟨tr2, e1, a1, H1, h1, h2, h3, ⟨t2, h4, h5⟩, h6, k0, hk0⟩ := DL.run ops 0 e a H [] [] (by simp) he hd .nil h
  refine ⟨(.normal, a1, H1), ⟨e1, h1, h2 ▸ h3⟩, k0, fun k hk => ?_⟩
  show codeD drawD x.P (x.E k) ro (.region id ops.toArray true) a H = _
  have h7 := hk0 k hk
  have h8 := checks_sound (P := x.P) (ops := ops.toArray) h4 _ h5
  have hr : List.range ops.toArray.size = List.range' 0 ops.length := by rw [List.range_eq_range']; simp
  have h9 : drawD x.P (x.E k) ops.toArray a H = some (a1, H1) := by
    unfold drawD
    rw [if_pos hs]
    unfold drawS
    rw [hr, h7]
    simp only
    rw [if_pos]
    · have : ops.toArray.size = ops.length := by simp
      rw [this, h6]
    · rw [hs, Bool.true_and]
      simp only [List.nil_append] at h8
      exact h8
  unfold codeD
  simp only [if_true, h9]; rfl
end

/-- What an earlier operation of the region yielded. -/
def yieldL (ds : List (Option Tmp)) (e : Env) (j : Nat) : Option Bool :=
  match ds[j]? with
  | some (some d) => match lk e d with
    | .bool b => some b
    | _ => none
  | _ => none
def wantL (ds : List (Option Tmp)) (e : Env) : Option (Nat × Bool) → Bool
  | none => true
  | some (j, w) => yieldL ds e j == some w
theorem yieldL_eq (ops : Array Oper) (e : Env) : yieldL (ops.toList.map (·.dst)) e = yieldE ops e := by
  funext j
  unfold yieldL yieldE
  rw [List.getElem?_map, Array.getElem?_toList]
  cases ops[j]? with
  | none => rfl
  | some o =>
    simp only [Option.map_some, Option.bind_some]
    cases o.dst <;> rfl
theorem wantL_eq (ops : Array Oper) (e : Env) (o : Oper) : Region.wanted o (yieldE ops e) = wantL (ops.toList.map (·.dst)) e o.guard := by
  unfold Region.wanted wantL
  rw [yieldL_eq]
  cases o.guard with
  | none => rfl
  | some p => obtain ⟨j, w⟩ := p; rfl
def okDst (n : Nat) : Option Tmp → Bool
  | some d => decide (d < n)
  | none => true
/-- A region's operations, one behind the other. -/
def OX (x : Cx) (n : Nat) (dsts : List (Option Tmp)) : List Oper → Env → World → (Env → World → Prop) → Prop
  | [], e, H, K => K e H
  | o :: l, e, H, K =>
    okDst n o.dst = true ∧
      if wantL dsts e o.guard = true then
        match semX x.P o (evE e) H with
        | some (.value v, H1) => OX x n dsts l (putE e o.dst v) H1 K
        | some (.skip, H1) => OX x n dsts l (putE e o.dst undef) H1 K
        | some (.enter f args, H1) => FW x f args H1 fun v H2 => OX x n dsts l (putE e o.dst v) H2 K
        | some (.round g _ t as b, H1) => RW x g t as b H1 fun v H2 => OX x n dsts l (putE e o.dst v) H2 K
        | _ => False
      else OX x n dsts l (putE e o.dst undef) H K
theorem OX.ol {x : Cx} {n : Nat} {ops : Array Oper} {K : Env → World → Prop} : ∀ (l : List Oper) (e : Env) (H : World), OX x n (ops.toList.map (·.dst)) l e H K → OL x n ops l e H K
  | [], e, H, h => h
  | o :: l, e, H, h => by
    unfold OX at h
    unfold OL
    obtain ⟨h1, h⟩ := h
    refine ⟨h1, ?_⟩
    rw [wantL_eq]
    split
    · rename_i hw
      rw [if_pos hw] at h
      cases hs : semX x.P o (evE e) H with
      | none => rw [hs] at h; exact h.elim
      | some p =>
        obtain ⟨nx, H1⟩ := p
        rw [hs] at h
        rw [semX_sound _ hs]
        cases nx with
        | value v => exact OX.ol l _ _ h
        | skip => exact OX.ol l _ _ h
        | enter f args => exact FW.imp h fun v H2 h2 => OX.ol l _ _ h2
        | round g f t as b => exact Ev.imp h fun r h2 => OX.ol l _ _ h2
        | _ => exact h.elim
    · rename_i hw
      rw [if_neg hw] at h
      exact OX.ol l _ _ h

/-! ### code -/
def boolV : Value → Option Bool
  | .bool b => some b
  | _ => none
def WP (x : Cx) (ro : Option Nat) (n : Nat) : Code → Env → List Deferred → World → (Exit → Env → List Deferred → World → Prop) → Prop
  | .skip, e, ds, H, Q => Q .normal e ds H
  | .label _, e, ds, H, Q => Q .normal e ds H
  | .ret, e, ds, H, Q => Q .ret e ds H
  | .exit id, e, ds, H, Q => Q (.exit id) e ds H
  | .seq a b, e, ds, H, Q => WP x ro n a e ds H (thenE (fun e ds H => WP x ro n b e ds H Q) Q)
  | .cond c a b, e, ds, H, Q => match boolV (evE e c) with
    | some t => if t = true then WP x ro n a e ds H Q else WP x ro n b e ds H Q
    | none => False
  | .block id c, e, ds, H, Q => WP x ro n c e ds H (blockE id Q)
  | .region _ ops false, e, ds, H, Q => OX x n (ops.toList.map (·.dst)) ops.toList e H fun e1 H1 => Q .normal e1 ds H1
  | .region id ops true, e, ds, H, Q => CE x ro n (.region id ops true) e ds H Q
  | .loop c, e, ds, H, Q => CE x ro n (.loop c) e ds H Q
  | .rangeFunc g ps as b, e, ds, H, Q => CE x ro n (.rangeFunc g ps as b) e ds H Q
  | _, _, _, _, _ => False
theorem WP.sound {x : Cx} {ro : Option Nat} {n : Nat} : ∀ (c : Code) (e : Env) (ds : List Deferred) (H : World) (Q : Exit → Env → List Deferred → World → Prop), WP x ro n c e ds H Q → CE x ro n c e ds H Q
  | .skip, e, ds, H, Q, h => CE.skip h
  | .label _, e, ds, H, Q, h => CE.label h
  | .ret, e, ds, H, Q, h => CE.ret h
  | .exit id, e, ds, H, Q, h => CE.exit h
  | .seq a b, e, ds, H, Q, h => CE.seq ((WP.sound a e ds H _ h).imp fun ex e1 ds1 H1 q => by
      cases ex with
      | normal => exact WP.sound b e1 ds1 H1 Q q
      | _ => exact q)
  | .cond c a b, e, ds, H, Q, h => by
    unfold WP at h
    split at h
    · rename_i t ht
      refine CE.cond (t := t) ?_ ?_
      · unfold boolV at ht
        split at ht
        · rename_i b hb; injection ht with ht; subst ht; exact hb
        · cases ht
      · cases t with
        | true => exact WP.sound a e ds H Q (by simpa using h)
        | false => exact WP.sound b e ds H Q (by simpa using h)
    · exact h.elim
  | .block id c, e, ds, H, Q, h => CE.block (WP.sound c e ds H _ h)
  | .region id ops false, e, ds, H, Q, h => by
    obtain ⟨l⟩ := ops
    exact CE.reg (ops := l) (OX.ol _ _ _ h)
  | .region id ops true, e, ds, H, Q, h => h
  | .loop c, e, ds, H, Q, h => h
  | .rangeFunc g ps as b, e, ds, H, Q, h => h
  | .scope _, _, _, _, _, h => h.elim
  | .goto _, _, _, _, _, h => h.elim
  | .refuse _, _, _, _, _, h => h.elim
theorem OX.imp {x : Cx} {n : Nat} {dsts : List (Option Tmp)} {K K' : Env → World → Prop} (hk : ∀ e H, K e H → K' e H) : ∀ (l : List Oper) (e : Env) (H : World), OX x n dsts l e H K → OX x n dsts l e H K'
  | [], e, H, h => hk e H h
  | o :: l, e, H, h => by
    unfold OX at h ⊢
    obtain ⟨h1, h⟩ := h
    refine ⟨h1, ?_⟩
    split
    · rename_i hw
      rw [if_pos hw] at h
      cases hs : semX x.P o (evE e) H with
      | none => rw [hs] at h; exact h.elim
      | some p =>
        obtain ⟨nx, H1⟩ := p
        rw [hs] at h
        cases nx with
        | value v => exact OX.imp hk l _ _ h
        | skip => exact OX.imp hk l _ _ h
        | enter f args => exact FW.imp h fun v H2 h2 => OX.imp hk l _ _ h2
        | round g f t as b => exact Ev.imp h fun r h2 => OX.imp hk l _ _ h2
        | _ => exact h.elim
    · rename_i hw
      rw [if_neg hw] at h
      exact OX.imp hk l _ _ h
/-- A region that makes several rows. -/
theorem CE.new {x : Cx} {ro : Option Nat} {n : Nat} {e : Env} {ds : List Deferred} {H : World} {Q : Exit → Env → List Deferred → World → Prop} {id : Nat} {ops : List Oper} (hd : drawStatic x.P ops.toArray = false) (hs : newStatic ops.toArray = true)
    (h : OX x n (ops.map (·.dst)) ops e H fun e1 H1 => NOk x.P H ops.toArray e1 ∧ Q .normal e1 ds (deadN (H1.heap.size - H.heap.size) H1)) : CE x ro n (.region id ops.toArray true) e ds H Q := by
  refine CE.newQ hd hs ?_
  have := OQ.of_OL (ops := ops.toArray) ops 0 e H (by simp) (OX.ol (ops := ops.toArray) ops e H h)
  have hz : ops.toArray.size = ops.length := by simp
  rw [hz, List.range_eq_range']
  exact this
/-- One round of a loop. -/
theorem CE.round {x : Cx} {ro : Option Nat} {n : Nat} {c : Code} {e : Env} {ds : List Deferred} {H : World} {Q : Exit → Env → List Deferred → World → Prop}
    (h : WP x ro n c e ds H (thenE (fun e1 ds1 H1 => CE x ro n (.loop c) e1 ds1 H1 Q) Q)) : CE x ro n (.loop c) e ds H Q := CE.loop (WP.sound _ _ _ _ _ h)

/-! ### calls whose answer is known -/
theorem FW.det {x : Cx} {f : FuncId} {args : Array Value} {H : World} {v : Value} {H1 : World} (h : FW x f args H fun v' H' => v' = v ∧ H' = H1) (Q : Value → World → Prop) : FW x f args H Q = Q v H1 := by
  obtain ⟨⟨v', H'⟩, ⟨rfl, rfl⟩, k0, hk⟩ := h
  apply propext
  constructor
  · rintro ⟨⟨v2, H2⟩, q, k1, hk1⟩
    have h1 := hk (max k0 k1) (by omega)
    have h2 := hk1 (max k0 k1) (by omega)
    rw [h1] at h2
    cases h2
    exact q
  · intro q
    exact ⟨_, q, k0, hk⟩
/-- A function that stands alone, as an equation. -/
theorem FW.aloneEq {x : Cx} {f : FuncId} {fn : Func} {c : Code} {args : Array Value} {n : Nat} {v : Value} (ha : (x.al f && args.all (plain deep)) = true) (hf : x.P.funcs[f]? = some fn) (hn : fn.ntmps = n) (hb : fn.body = some c) (hs : args.size ≤ n)
    (h : WP x none n c (envOf 0 args.toList) [] World0 (endE x fn fun v0 H0 => strip deep x.P H0 v0 = some v)) (H : World) (Q : Value → World → Prop) : FW x f args H Q = Q v H :=
  FW.det (FW.aloneE ha hf hn hb hs ((WP.sound _ _ _ _ _ h).imp fun ex e ds H1 q => by
    cases ex with
    | normal => obtain ⟨H2, v1, H3, h1, h2, h3⟩ := q; exact ⟨H2, v1, H3, h1, h2, v, h3, rfl, rfl⟩
    | ret => obtain ⟨H2, v1, H3, h1, h2, h3⟩ := q; exact ⟨H2, v1, H3, h1, h2, v, h3, rfl, rfl⟩
    | _ => exact q)) Q
end Go.Proofs.YtmmmdmandocbhaaDoor.Den
end
