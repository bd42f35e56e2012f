/- Helpers of this claim: an evaluator over plain values and its laws. -/
import Derived.Test.YtmmmdmandocbhaaDoorAp
section
/- What a function makes of plain values. -/
set_option linter.unusedVariables false
set_option linter.unusedSimpArgs false
namespace Go.Proofs.YtmmmdmandocbhaaDoor.Den
theorem fa_of {x : Cx} {f : FuncId} {l : List Value} {v : Value} {fn : Func} {c : Code} {n : Nat} (hf : x.P.funcs[f]? = some fn) (hn : fn.ntmps = n) (hb : fn.body = some c) (hs : l.length ≤ n)
    (h : WP x none n c (envOf 0 l) [] World0 (endE x fn fun v0 H0 => strip0 deep x.P H0 v0 = some v)) : FA x f l v := by
  have h1 := WP.sound _ _ _ _ _ h
  have h2 := h1 _ (envOk_start l.toArray n (by simpa using hs)) rfl
  rw [← hn] at h2
  obtain ⟨r, q, k0, hk⟩ := fnD_of (Q := fun v0 H0 => strip0 deep x.P H0 v0 = some v) hf hb (CW.imp h2 fun ex a1 H1 ⟨e1, h3, q⟩ => endE_end h3 q)
  exact ⟨r, q, k0, hk⟩

theorem fnD_mono_le {x : Cx} {k m : Nat} (hkm : k ≤ m) {f : FuncId} {args : Array Value} {H : World} {r : Value × World} (h : fnD drawD x.P (x.E k) f args H = some r) : fnD drawD x.P (x.E m) f args H = some r := by
  induction hkm with
  | refl => exact h
  | step _ ih => exact fnD_le (evs_le x.al x.sp _) _ ih
/-- A call that stands alone, whatever its arguments are. -/
theorem fa_any {x : Cx} {f : FuncId} {l : List Value} {v : Value} {args : Array Value} {H : World} {Q : Value → World → Prop} (h : FA x f l v) (ha : x.al f = true) (hs : stripArgs x.P H args = some l) (hq : Q v H) : FW x f args H Q := by
  cases hp : args.all (plain deep) with
  | false => exact FA.heap h ha hp hs hq
  | true =>
    have hall : ∀ (m : List Value), (∀ y ∈ m, plain deep y = true) → stripAll (strip deep x.P H) m = some m := by
      intro m
      induction m with
      | nil => intro _; rfl
      | cons a m ih =>
        intro hl
        rw [stripAll_cons, strip_plain x.P H deep a (hl a List.mem_cons_self)]
        simp only
        rw [ih fun x hx => hl x (List.mem_cons_of_mem _ hx)]
        rfl
    have hm : ∀ y ∈ args.toList, plain deep y = true := by
      intro y hy
      rw [Array.all_eq_true_iff_forall_mem] at hp
      exact hp y (Array.mem_toList_iff.1 hy)
    unfold stripArgs at hs
    rw [hall _ hm] at hs
    injection hs with hs
    subst hs
    have := FA.plain (Q := Q) h ha (by simpa using hp) hq
    simpa using this
theorem fa_eq {x : Cx} {f : FuncId} {l : List Value} {v : Value} {args : Array Value} {H : World} (h : FA x f l v) (ha : x.al f = true) (hs : stripArgs x.P H args = some l) (Q : Value → World → Prop) : FW x f args H Q = Q v H :=
  FW.det (fa_any h ha hs ⟨rfl, rfl⟩) Q
def scalarV : Value → Bool
  | .bool _ => true
  | .int _ _ => true
  | .string _ => true
  | _ => false
theorem strip0_scalar {P : Program} {H : World} {d : Nat} {v0 v : Value} (hv : scalarV v = true) (h : strip d P H v0 = some v) : strip0 d P H v0 = some v := by
  cases d with
  | zero => exact h
  | succ d =>
    unfold strip at h
    unfold strip0
    split at h
    · simp only [Option.map_eq_some_iff] at h
      obtain ⟨l, _, rfl⟩ := h
      cases hv
    · simp only [Option.map_eq_some_iff] at h
      obtain ⟨l, _, rfl⟩ := h
      cases hv
    · split at h
      · injection h with h; subst h; cases hv
      · cases h
    · split at h
      case h_2 => cases h
      split at h
      case h_2 => cases h
      replace h := of_if' h
      obtain ⟨_, h⟩ := h
      split at h
      case h_2 => cases h
      simp only [Option.map_eq_some_iff] at h
      obtain ⟨xs, _, rfl⟩ := h
      cases hv
    · split <;> first | exact h | simp_all
/-- What is told of plain arguments, where the result is a number, a bool or a string. -/
theorem fa_ofFW {x : Cx} {f : FuncId} {l : List Value} {v : Value} (h : ∀ H Q, FW x f l.toArray H Q = Q v H) (ha : x.al f = true) (hp : l.toArray.all (plain deep) = true) (hv : scalarV v = true) : FA x f l v := by
  have h1 : FW x f l.toArray World0 fun v' _ => v' = v := by rw [h]
  obtain ⟨⟨v', H'⟩, hq, k0, hk⟩ := h1
  dsimp only at hq hk
  subst hq
  have key : ∀ k, k0 ≤ k → ∃ v0 H0, fnD drawD x.P (x.E k) f l.toArray World0 = some (v0, H0) ∧ strip deep x.P H0 v0 = some v' := by
    intro k hkk
    have h2 := hk (k + 1) (by omega)
    have h3 : callF drawD x.al x.sp x.P (x.E k) f l.toArray World0 = some (v', H') := h2
    unfold callF at h3
    simp only [ha, hp, Bool.and_true, if_true, aloneD] at h3
    split at h3
    · rename_i v0 H0 hf
      simp only [Option.map_eq_some_iff] at h3
      obtain ⟨y, hy, e⟩ := h3
      injection e with e1 e2
      subst e1
      exact ⟨v0, H0, hf, hy⟩
    · cases h3
  obtain ⟨v0, H0, e1, e2⟩ := key k0 (Nat.le_refl _)
  refine ⟨(v0, H0), strip0_scalar hv e2, k0, fun k hkk => ?_⟩
  exact fnD_mono_le hkk e1
section
variable {P : Program} {H : World}
@[simp] theorem strip0_bool (d : Nat) (b : Bool) : strip0 d P H (.bool b) = some (.bool b) := by cases d <;> rfl
@[simp] theorem strip0_int (d : Nat) (k : IntKind) (n : Int) : strip0 d P H (.int k n) = some (.int k n) := by cases d <;> rfl
@[simp] theorem strip0_string (d : Nat) (s : ByteArray) : strip0 d P H (.string s) = some (.string s) := by cases d <;> rfl
@[simp] theorem strip0_nilSlice (d n c : Nat) : strip0 d P H (.slice none n c) = some (.slice none n c) := by cases d <;> rfl
@[simp] theorem strip0_nilPtr (d : Nat) : strip0 d P H (.pointer none) = some (.pointer none) := by cases d <;> rfl
@[simp] theorem strip0_nilMap (d : Nat) : strip0 d P H (.map none) = some (.map none) := by cases d <;> rfl
theorem strip0_tuple (d : Nat) (l : List Value) : strip0 (d + 1) P H (.tuple l.toArray) = (stripAll (strip0 d P H) l).map fun l => .tuple l.toArray := rfl
theorem strip0_agg (d : Nat) (l : List Value) : strip0 (d + 1) P H (.agg l.toArray) = (stripAll (strip0 d P H) l).map fun l => .agg l.toArray := rfl
@[simp] theorem strip0_tuple12 (l : List Value) : strip0 deep P H (.tuple l.toArray) = (stripAll (strip0 11 P H) l).map fun l => .tuple l.toArray := strip0_tuple 11 l
@[simp] theorem strip0_agg12 (l : List Value) : strip0 deep P H (.agg l.toArray) = (stripAll (strip0 11 P H) l).map fun l => .agg l.toArray := strip0_agg 11 l
@[simp] theorem strip0_agg11 (l : List Value) : strip0 11 P H (.agg l.toArray) = (stripAll (strip0 10 P H) l).map fun l => .agg l.toArray := strip0_agg 10 l
theorem stripArgs_plain (P : Program) (H : World) (l : List Value) (h : ∀ y ∈ l, plain deep y = true) : stripArgs P H l.toArray = some l := by
  unfold stripArgs
  show stripAll _ l = _
  induction l with
  | nil => rfl
  | cons a l ih =>
    rw [stripAll_cons, strip_plain P H deep a (h a List.mem_cons_self), ih fun y hy => h y (List.mem_cons_of_mem _ hy)]
    rfl
end
theorem Acc.strip0_agg {α : Type} {P : Program} {H : World} {d : Nat} {v : Value} {es : Nat} {e : TypeId} {xs : List α} {enc : α → Value} {de : TypeDesc} {inf : TypeInfo} (h : Den.Acc H v es e xs.length ((xs.map enc).flatMap fun v => v.cells.toList))
    (hu : P.underlying e = some de) (ha : aggT de = true) (hi : P.info? e = some inf) (hs : inf.size = es) (hpos : 0 < es) (henc : ∀ x, ∃ c : List Value, enc x = .agg c.toArray ∧ c.length = es ∧ ∀ y ∈ c, strip0 d P H y = some y) :
    strip0 (d + 1) P H v = some (slV es (if xs = [] then none else some (xs.map enc))) := by
  obtain ⟨hlen, ⟨rfl, hn⟩ | ⟨r, rfl, hn, hr⟩⟩ := h
  · have : xs = [] := List.length_eq_zero_iff.1 hn
    subst this
    simp [slV, strip0, constOk1]
  · have hne : ¬ xs = [] := fun h => by subst h; simp at hn
    rw [if_neg hne]
    let cs : α → List Value := fun x => Classical.choose (henc x)
    have hcs : ∀ x, enc x = .agg (cs x).toArray ∧ (cs x).length = es ∧ ∀ y ∈ cs x, strip0 d P H y = some y := fun x => Classical.choose_spec (henc x)
    have hfl : (xs.map enc).flatMap (fun v => v.cells.toList) = (xs.map cs).flatten := by
      rw [List.flatMap_map, List.flatMap_def]
      congr 1
      apply List.map_congr_left
      intro x _
      rw [(hcs x).1]; simp
    have hall : ∀ y ∈ (xs.map cs).flatten, strip0 d P H y = some y := by
      intro y hy
      simp only [List.mem_flatten, List.mem_map] at hy
      obtain ⟨_, ⟨x, _, rfl⟩, hy⟩ := hy
      exact (hcs x).2.2 y hy
    have hstrip : ∀ (l : List Value), (∀ y ∈ l, strip0 d P H y = some y) → stripAll (strip0 d P H) l = some l := by
      intro l
      induction l with
      | nil => intro _; rfl
      | cons a l ih =>
        intro hl
        rw [stripAll_cons, hl a List.mem_cons_self]
        simp only
        rw [ih fun x hx => hl x (List.mem_cons_of_mem _ hx)]
        rfl
    have hch := chunks_agg es xs.length (xs.map cs) [] (by simp) fun c hc => by
      obtain ⟨x, _, rfl⟩ := List.mem_map.1 hc
      exact (hcs x).2.1
    rw [List.append_nil] at hch
    have hr' : H.heap[r]? = _ := hr
    unfold strip0
    simp only [hr', hu, hi, List.drop_zero]
    rw [hs, if_pos hpos]
    have htake : (List.take (xs.length * es) ((xs.map enc).flatMap fun v => v.cells.toList)) = (xs.map cs).flatten := by
      rw [← hlen, List.take_length, hfl]
    simp only [htake, hstrip _ hall, ha, hch, Option.map_some, slV]
    congr 3
    simp only [List.map_map]
    apply List.map_congr_left
    intro x _
    exact (hcs x).1.symm
theorem Acc.strip0_one {α : Type} {P : Program} {H : World} {d : Nat} {v : Value} {e : TypeId} {xs : List α} {enc : α → Value} {de : TypeDesc} {inf : TypeInfo} (h : Den.Acc H v 1 e xs.length (xs.map enc))
    (hu : P.underlying e = some de) (ha : aggT de = false) (hi : P.info? e = some inf) (hs : inf.size = 1) (henc : ∀ x, strip0 d P H (enc x) = some (enc x) ∧ notAgg (enc x) = true) :
    strip0 (d + 1) P H v = some (slV 1 (if xs = [] then none else some (xs.map enc))) := by
  obtain ⟨hlen, ⟨rfl, hn⟩ | ⟨r, rfl, hn, hr⟩⟩ := h
  · have : xs = [] := List.length_eq_zero_iff.1 hn
    subst this
    simp [slV, strip0, constOk1]
  · have hne : ¬ xs = [] := fun h => by subst h; simp at hn
    rw [if_neg hne]
    have hstrip : ∀ (l : List Value), (∀ y ∈ l, strip0 d P H y = some y) → stripAll (strip0 d P H) l = some l := by
      intro l
      induction l with
      | nil => intro _; rfl
      | cons a l ih =>
        intro hl
        rw [stripAll_cons, hl a List.mem_cons_self]
        simp only
        rw [ih fun x hx => hl x (List.mem_cons_of_mem _ hx)]
        rfl
    have hch := chunks_one xs.length (xs.map enc) [] (by simp) fun c hc => by
      obtain ⟨x, _, rfl⟩ := List.mem_map.1 hc
      exact (henc x).2
    rw [List.append_nil] at hch
    have hr' : H.heap[r]? = _ := hr
    unfold strip0
    simp only [hr', hu, hi, List.drop_zero]
    rw [hs, if_pos (by omega)]
    have htake : (List.take (xs.length * 1) (xs.map enc)) = xs.map enc := by
      rw [← hlen, List.take_length]
    have hst := hstrip (xs.map enc) (fun y hy => by obtain ⟨x, _, rfl⟩ := List.mem_map.1 hy; exact (henc x).1)
    simp only [htake, hst, ha, hch, Option.map_some, slV]
end Go.Proofs.YtmmmdmandocbhaaDoor.Den
end
