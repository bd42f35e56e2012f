/- Helpers of this claim: an evaluator over plain values and its laws. -/
import Derived.Test.YtmmmdmandocbhaaDoorAj
section
/- More fuel gives the same answer. -/
set_option linter.unusedVariables false
set_option linter.unusedSimpArgs false
namespace Go.Proofs.YtmmmdmandocbhaaDoor.Den
variable {P : Program}
structure EvLe (E E' : Evs) : Prop where
  code : ∀ ro c a H r, E.code ro c a H = some r → E'.code ro c a H = some r
  fn : ∀ f args H r, E.fn f args H = some r → E'.fn f args H = some r
  round : ∀ l t as b H r, E.round l t as b H = some r → E'.round l t as b H = some r
theorem map_le {α β : Type} {a b : Option α} {f : α → β} (h : ∀ r, a = some r → b = some r) : ∀ r, a.map f = some r → b.map f = some r := by
  intro r hr
  simp only [Option.map_eq_some_iff] at hr ⊢
  obtain ⟨x, hx, hr⟩ := hr
  exact ⟨x, h x hx, hr⟩
section
variable {E E' : Evs} (h : EvLe E E')
include h
theorem opD_le {o : Oper} {a : Act} {H : World} : ∀ r, opD P E o a H = some r → opD P E' o a H = some r := by
  intro r hr
  unfold opD at hr ⊢
  split at hr
  · exact hr
  · exact hr
  · exact map_le (h.fn _ _ _) r hr
  · exact map_le (h.round _ _ _ _ _) r hr
  · cases hr
theorem opsD_le {ops : Array Oper} : ∀ (l : List Nat) (a : Act) (H : World) r, opsD P E ops l a H = some r → opsD P E' ops l a H = some r
  | [], a, H, r, hr => hr
  | i :: l, a, H, r, hr => by
    unfold opsD at hr ⊢
    split at hr
    · cases hr
    · split at hr
      · rename_i hw
        rw [if_pos hw]
        split at hr
        · rename_i a1 H1 h1
          rw [opD_le h _ h1]
          exact opsD_le l _ _ _ hr
        · cases hr
      · rename_i hw
        rw [if_neg hw]
        exact opsD_le l _ _ _ hr
theorem stepD_le {ops : Array Oper} {i : Nat} {a : Act} {H : World} : ∀ r, stepD P E ops i a H = some r → stepD P E' ops i a H = some r := by
  intro r hr
  unfold stepD at hr ⊢
  split at hr
  · cases hr
  · split at hr
    · rename_i hw; rw [if_pos hw]; exact opD_le h r hr
    · rename_i hw; rw [if_neg hw]; exact hr
theorem traceD_le {ops : Array Oper} : ∀ (l : List Nat) (a : Act) (H : World) r, traceD P E ops l a H = some r → traceD P E' ops l a H = some r
  | [], a, H, r, hr => hr
  | i :: l, a, H, r, hr => by
    unfold traceD at hr ⊢
    split at hr
    · rename_i a1 H1 h1
      rw [stepD_le h _ h1]
      exact map_le (traceD_le l _ _) r hr
    · cases hr
theorem drawS_le {ops : Array Oper} {a : Act} {H : World} : ∀ r, drawS P E ops a H = some r → drawS P E' ops a H = some r := by
  intro r hr
  unfold drawS at hr ⊢
  split at hr
  · rename_i tr htr
    rw [traceD_le h _ _ _ _ htr]
    exact hr
  · cases hr
theorem newD_le {ops : Array Oper} {a : Act} {H : World} : ∀ r, newD P E ops a H = some r → newD P E' ops a H = some r := by
  intro r hr
  unfold newD at hr ⊢
  split at hr
  · rename_i hst
    rw [if_pos hst]
    split at hr
    · rename_i tr htr
      rw [traceD_le h _ _ _ _ htr]
      exact hr
    · cases hr
  · cases hr
theorem drawD_le {ops : Array Oper} {a : Act} {H : World} : ∀ r, drawD P E ops a H = some r → drawD P E' ops a H = some r := by
  intro r hr
  unfold drawD at hr ⊢
  split at hr
  · rename_i hd
    rw [if_pos hd]; exact drawS_le h r hr
  · rename_i hd
    rw [if_neg hd]; exact newD_le h r hr
theorem rangeD_le {ro : Option Nat} {g : Operand} {ps : Array Tmp} {as b : Code} {a : Act} {H : World} : ∀ r, rangeD P E ro g ps as b a H = some r → rangeD P E' ro g ps as b a H = some r := by
  intro r hr
  unfold rangeD at hr ⊢
  split at hr
  · cases hr
  · rename_i hg
    rw [if_neg hg]
    split at hr
    · split at hr
      · split at hr
        · rename_i h1
          rw [h.fn _ _ _ _ h1]
          exact hr
        · cases hr
      · cases hr
    · cases hr
theorem codeD_le : ∀ (c : Code) (ro : Option Nat) (a : Act) (H : World) r, codeD drawD P E ro c a H = some r → codeD drawD P E' ro c a H = some r
  | .skip, _, _, _, r, hr => hr
  | .label _, _, _, _, r, hr => hr
  | .ret, _, _, _, r, hr => hr
  | .exit _, _, _, _, r, hr => hr
  | .seq x y, ro, a, H, r, hr => by
    unfold codeD at hr ⊢
    split at hr
    · rename_i a1 H1 h1
      rw [codeD_le x _ _ _ _ h1]
      exact codeD_le y _ _ _ _ hr
    · rename_i r0 hn
      have := codeD_le x _ _ _ _ hr
      rw [this]
      obtain ⟨ex, a1, H1⟩ := r
      cases ex with
      | normal => exact absurd hr (hn a1 H1)
      | _ => rfl
  | .cond c x y, ro, a, H, r, hr => by
    unfold codeD at hr ⊢
    split at hr
    · rename_i t ht
      split at hr
      · rename_i h1; rw [if_pos h1]; exact codeD_le x _ _ _ _ hr
      · rename_i h1; rw [if_neg h1]; exact codeD_le y _ _ _ _ hr
    · cases hr
  | .block id c, ro, a, H, r, hr => by
    unfold codeD at hr ⊢
    split at hr
    · rename_i id' a1 H1 h1
      rw [codeD_le c _ _ _ _ h1]
      exact hr
    · rename_i r0 hn
      have := codeD_le c _ _ _ _ hr
      rw [this]
      obtain ⟨ex, a1, H1⟩ := r
      cases ex with
      | exit id' => exact absurd hr (hn id' a1 H1)
      | _ => rfl
  | .loop c, ro, a, H, r, hr => by
    unfold codeD at hr ⊢
    split at hr
    · rename_i a1 H1 h1
      rw [codeD_le c _ _ _ _ h1]
      exact h.code _ _ _ _ _ hr
    · rename_i r0 hn
      have := codeD_le c _ _ _ _ hr
      rw [this]
      obtain ⟨ex, a1, H1⟩ := r
      cases ex with
      | normal => exact absurd hr (hn a1 H1)
      | _ => rfl
  | .region id ops dr, ro, a, H, r, hr => by
    unfold codeD at hr ⊢
    cases dr with
    | true => exact map_le (drawD_le h) r hr
    | false => exact map_le (opsD_le h _ _ _) r hr
  | .rangeFunc g ps as b, ro, a, H, r, hr => rangeD_le h r hr
  | .scope _, _, _, _, r, hr => by cases hr
  | .goto _, _, _, _, r, hr => by cases hr
  | .refuse _, _, _, _, r, hr => by cases hr
theorem fnD_le {f : FuncId} {args : Array Value} {H : World} : ∀ r, fnD drawD P E f args H = some r → fnD drawD P E' f args H = some r := by
  intro r hr
  unfold fnD at hr ⊢
  split at hr
  · split at hr
    · split at hr
      · rename_i h1; rw [codeD_le h _ _ _ _ _ h1]; exact hr
      · rename_i h1; rw [codeD_le h _ _ _ _ _ h1]; exact hr
      · cases hr
    · cases hr
  · cases hr
theorem roundD_le {l : Nat} {t : Array Value} {as b : Code} {H : World} : ∀ r, roundD drawD P E l t as b H = some r → roundD drawD P E' l t as b H = some r := by
  intro r hr
  unfold roundD at hr ⊢
  split at hr
  · rename_i h1
    rw [codeD_le h _ _ _ _ _ h1]
    split at hr
    · rename_i h2
      simp only [h2]
      split at hr
      · rename_i h3
        rw [codeD_le h _ _ _ _ _ h3]
        exact hr
      · cases hr
    · cases hr
  · cases hr
end
theorem evs_le (al : FuncId → Bool) (sp : Sp) : ∀ k, EvLe (evs drawD al sp P k) (evs drawD al sp P (k + 1))
  | 0 => ⟨fun _ _ _ _ _ h => (by cases h), fun _ _ _ _ h => (by cases h), fun _ _ _ _ _ _ h => (by cases h)⟩
  | k + 1 => by
    have ih := evs_le al sp k
    refine ⟨fun ro c a H r h => codeD_le ih c ro a H r h, fun f args H r h => ?_, fun l t as b H r h => roundD_le ih r h⟩
    have h : callF drawD al sp P (evs drawD al sp P k) f args H = some r := h
    show callF drawD al sp P (evs drawD al sp P (k + 1)) f args H = some r
    unfold callF at h ⊢
    split at h
    · rename_i hc
      rw [if_pos hc]
      unfold aloneD at h ⊢
      split at h
      · rename_i h1
        rw [fnD_le ih _ h1]
        exact h
      · cases h
    · rename_i hc
      rw [if_neg hc]
      split at h
      · rename_i l hl
        unfold aloneH at h ⊢
        split at h
        · rename_i h1
          rw [fnD_le ih _ h1]
          exact h
        · cases h
      · split at h
        · rename_i g hg
          first | exact h | (simp only [hg]; exact h)
        · rename_i hg
          first | exact fnD_le ih r h | (simp only [hg]; exact fnD_le ih r h)
theorem evs_le' (al : FuncId → Bool) (sp : Sp) {k m : Nat} (hkm : k ≤ m) {f : FuncId} {args : Array Value} {H : World} {r : Value × World} (h : (evs drawD al sp P k).fn f args H = some r) : (evs drawD al sp P m).fn f args H = some r := by
  induction hkm with
  | refl => exact h
  | step _ ih => exact (evs_le al sp _).fn _ _ _ _ ih
/-- A call that the kernel can run. -/
theorem fw_ofRun {x : Cx} {k : Nat} {f : FuncId} {args : Array Value} {H : World} {v : Value} {H1 : World} (h : Go.Proofs.YtmmmdmandocbhaaDoor.Den.run x.P x.al x.sp k f args H = some (v, H1)) (Q : Value → World → Prop) : FW x f args H Q = Q v H1 :=
  FW.det ⟨(v, H1), ⟨rfl, rfl⟩, k, fun m hm => evs_le' x.al x.sp hm h⟩ Q
/-- Such a call that stands alone, at any memory. -/
theorem fw_ofRunAlone {x : Cx} {k : Nat} {f : FuncId} {args : Array Value} {v : Value} {H0 : World} (ha : (x.al f && args.all (plain deep)) = true) (h : Go.Proofs.YtmmmdmandocbhaaDoor.Den.run x.P x.al x.sp k f args World0 = some (v, H0)) (H : World) (Q : Value → World → Prop) : FW x f args H Q = Q v H := by
  refine FW.det ⟨(v, H), ⟨rfl, rfl⟩, k, fun m hm => ?_⟩ Q
  have h := evs_le' x.al x.sp hm h
  cases m with
  | zero => cases h
  | succ m =>
    have h : callF drawD x.al x.sp x.P (evs drawD x.al x.sp x.P m) f args World0 = some (v, H0) := h
    show callF drawD x.al x.sp x.P (evs drawD x.al x.sp x.P m) f args H = some (v, H)
    unfold callF at h ⊢
    rw [if_pos ha] at h ⊢
    unfold aloneD at h ⊢
    split at h
    · rename_i v0 H1 h1
      simp only [Option.map_eq_some_iff] at h
      obtain ⟨v2, hs, h2⟩ := h
      cases h2
      simp only [hs, Option.map_some]
    · cases h
end Go.Proofs.YtmmmdmandocbhaaDoor.Den
end
