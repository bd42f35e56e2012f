/- Helpers of this claim: an evaluator over plain values and its laws. -/
import Derived.Test.YtmmmdmandocbhaaDoorAi
section
/- Loops over ranges. -/
set_option linter.unusedVariables false
set_option linter.unusedSimpArgs false
namespace Go.Proofs.YtmmmdmandocbhaaDoor.Den

def rangeOk (n i N c u : Nat) : Bool := decide (i < n ∧ c < n ∧ u < n ∧ ¬ i = c ∧ ¬ N = c ∧ ¬ u = i ∧ ¬ N = i ∧ ¬ N = u)
/-- 'for i, x := range ..': the counter i, the length N, the test c, the next counter u. -/
theorem CE.range {x : Cx} {ro : Option Nat} {n : Nat} {i N c u : Tmp} {b bb r1 r2 : Nat} {t1 t2 t3 t4 ty1 ty2 ty3 : TypeId} {p1 p2 p3 : String} {a1 a2 a3 : Array Edge} {body : Code} {e : Env} {ds : List Deferred} {H : World} {Q : Exit → Env → List Deferred → World → Prop} {m : Nat}
    (Inv : Nat → Env → World → Prop) (hok : rangeOk n i N c u = true) (hm : m < 2 ^ 63)
    (h0 : lk e i = .int .i64 0 ∧ lk e N = .int .i64 m ∧ Inv 0 e H)
    (hbody : ∀ k e H, k < m → lk e i = .int .i64 k → lk e N = .int .i64 m → Inv k e H →
      WP x ro n (.block bb body) ((c, .bool true) :: e) ds H (thenE (fun e1 ds1 H1 => ds1 = ds ∧ lk e1 i = .int .i64 k ∧ lk e1 N = .int .i64 m ∧ Inv (k + 1) ((i, .int .i64 ((k + 1 : Nat) : Int)) :: (u, .int .i64 ((k + 1 : Nat) : Int)) :: e1) H1) Q))
    (hend : ∀ e H, lk e i = .int .i64 m → lk e N = .int .i64 m → Inv m e H → Q (.exit b) ((c, .bool false) :: e) ds H) :
    CE x ro n (.loop (.seq (.region r1 #[⟨some c, .binOp .lss t1 (.tmp i) (.tmp N) t2, ty1, p1, a1, none⟩] false) (.seq (.cond (.tmp c) .skip (.exit b)) (.seq (.block bb body)
      (.region r2 #[⟨some u, .binOp .add t3 (.tmp i) (.const (.int .i64 1)) t4, ty2, p2, a2, none⟩, ⟨some i, .move (.tmp u), ty3, p3, a3, none⟩] false))))) e ds H Q := by
  obtain ⟨hi, hc, hu, hci, hcN, hui, hNi, hNu⟩ := of_decide_eq_true hok
  have key : ∀ d k e H, m - k = d → k ≤ m → lk e i = .int .i64 k → lk e N = .int .i64 m → Inv k e H →
      CE x ro n (.loop (.seq (.region r1 #[⟨some c, .binOp .lss t1 (.tmp i) (.tmp N) t2, ty1, p1, a1, none⟩] false) (.seq (.cond (.tmp c) .skip (.exit b)) (.seq (.block bb body)
      (.region r2 #[⟨some u, .binOp .add t3 (.tmp i) (.const (.int .i64 1)) t4, ty2, p2, a2, none⟩, ⟨some i, .move (.tmp u), ty3, p3, a3, none⟩] false))))) e ds H Q := by
    intro d
    induction d with
    | zero =>
      intro k e H hd hk h1 h2 h3
      have : k = m := by omega
      subst this
      refine CE.round ?_
      simp [h1, h2, hc]
      exact hend e H h1 h2 h3
    | succ d ih =>
      intro k e H hd hk h1 h2 h3
      have hlt : (k : Int) < m := by omega
      refine CE.round ?_
      simp only [tk_eq, gIf_true, WP_seq, WP_region, OX_cons, OX_nil, List.map_cons, List.map_nil, okDst_some, wantL_none, if_true, X_bin, ok_tmp, true_and, evE_tmp, h1, h2, bX_lss, stepX_value, putE_some, thenE_normal, WP_cond, lk_hd, hlt, decide_true, condX_bool, WP_skip, hc]
      have hb := hbody k e H (by omega) h1 h2 h3
      refine WP_mono _ _ _ _ _ _ ?_ hb
      intro ex e1 ds1 H1 q
      cases ex with
      | normal =>
        simp only [thenE_normal] at q ⊢
        obtain ⟨rfl, q1, q2, q3⟩ := q
        have hw : IntKind.i64.wrap ((k : Int) + 1) = ((k + 1 : Nat) : Int) := by
          rw [wrap64 (by omega) (by omega)]; omega
        simp only [tk_eq, gIf_true, WP_region, thenE_normal, List.map_cons, List.map_nil, OX_cons, OX_nil, okDst_some, wantL_none, if_true, X_bin, ok_tmp, ok_int, true_and, and_true, evE_tmp, evE_const, q1, bX_add, stepX_value, putE_some, X_move, lk_hd, hw, decide_true, hu, hi]
        refine ih (k + 1) _ _ (by omega) (by omega) ?_ ?_ q3
        · simp
        · simp only [lk_hd, hNi, hNu, if_false]; exact q2
      | _ => exact q
  exact key m 0 e H (by omega) (by omega) h0.1 h0.2.1 h0.2.2
/-- A loop, by what falls from round to round. -/
theorem CE.inv {x : Cx} {ro : Option Nat} {n : Nat} {c : Code} {ds : List Deferred} {Q : Exit → Env → List Deferred → World → Prop} (Inv : Nat → Env → World → Prop)
    (h : ∀ d e H, Inv d e H → WP x ro n c e ds H (thenE (fun e1 ds1 H1 => ds1 = ds ∧ ∃ d1, d1 < d ∧ Inv d1 e1 H1) Q)) {d : Nat} {e : Env} {H : World} (h0 : Inv d e H) : CE x ro n (.loop c) e ds H Q := by
  induction d using Nat.strongRecOn generalizing e H with
  | _ d ih =>
    refine CE.round (WP_mono _ _ _ _ _ _ ?_ (h d e H h0))
    intro ex e1 ds1 H1 q
    cases ex with
    | normal =>
      obtain ⟨rfl, d1, hd, hi⟩ := q
      exact ih d1 hd hi
    | _ => exact q
end Go.Proofs.YtmmmdmandocbhaaDoor.Den
end
