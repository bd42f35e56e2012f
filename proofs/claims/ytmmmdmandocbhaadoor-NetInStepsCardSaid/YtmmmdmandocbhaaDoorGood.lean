/- Helpers of this claim: an evaluator over plain values and its laws. -/
import Derived.Test.YtmmmdmandocbhaaDoorAn
section
/- The zero values of made types relate to themselves. -/
set_option linter.unusedVariables false
set_option linter.unusedSimpArgs false
namespace Go.Proofs.YtmmmdmandocbhaaDoor.Den

def SelfRel (z : Value) : Prop := ∀ ι : Emb, VRel ι z z
def AllSelf (cs : Array Value) : Prop := ∀ (k : Nat) (v : Value), cs[k]? = some v → SelfRel v
theorem SelfRel.cells {z : Value} (h : SelfRel z) : AllSelf z.cells := fun k v hk ι => (h ι).cells.2 k v v hk hk
theorem AllSelf.agg {cs : Array Value} (h : AllSelf cs) : SelfRel (.agg cs) := fun ι => .agg _ _ rfl fun k v v' hv hv' => by
  rw [hv] at hv'; injection hv' with hv'; subst hv'; exact h k v hv ι
theorem AllSelf.append {a b : Array Value} (h : AllSelf a) (h' : AllSelf b) : AllSelf (a ++ b) := fun k v hk => by
  rw [Array.getElem?_append] at hk
  split at hk
  · exact h k v hk
  · exact h' _ v hk
theorem AllSelf.empty : AllSelf #[] := fun k v hk => by simp at hk
theorem AllSelf.of_mem {a : Array Value} (h : ∀ v ∈ a, SelfRel v) : AllSelf a := fun k v hk => h v (Array.mem_of_getElem? hk)
theorem AllSelf.mem {a : Array Value} (h : AllSelf a) {v : Value} (hv : v ∈ a) : SelfRel v := by
  obtain ⟨k, hk, rfl⟩ := Array.mem_iff_getElem.1 hv
  exact h k _ (Array.getElem?_eq_getElem hk)
theorem AllSelf.rep {a : Array Value} (h : AllSelf a) (n : Nat) : AllSelf (Array.replicate n a).flatten := .of_mem fun v hv => by
  obtain ⟨b, hb, hv⟩ := Array.mem_flatten.1 hv
  rw [(Array.mem_replicate.1 hb).2] at hv
  exact h.mem hv
def ZerosOf (info : TypeId → Option TypeInfo) : Prop := ∀ t i z, info t = some i → i.zero = some z → SelfRel z

theorem forIn_inv {α β : Type} {Inv : β → Prop} {f : α → β → Option (ForInStep β)} (h : ∀ x b r, Inv b → f x b = some r → Inv r.value) : ∀ (l : List α) (b r : β), Inv b → forIn l b f = some r → Inv r
  | [], b, r, hb, hr => by
    rw [List.forIn_nil] at hr; cases hr; exact hb
  | x :: l, b, r, hb, hr => by
    rw [List.forIn_cons] at hr
    cases hf : f x b with
    | none => rw [hf] at hr; cases hr
    | some s =>
      rw [hf] at hr
      have hs := h x b s hb hf
      cases s with
      | done b' => cases hr; exact hs
      | yield b' => exact forIn_inv h l b' r hs hr
theorem struct_self {info : TypeId → Option TypeInfo} (hi : ZerosOf info) {fs : Array Field} {i : TypeInfo} {z : Value} (h : Made.reckonStruct info fs = some i) (hz : i.zero = some z) : SelfRel z := by
  unfold Made.reckonStruct at h
  simp only [Option.bind_eq_bind, Option.pure_def] at h
  rw [Option.bind_eq_some_iff] at h
  obtain ⟨a, hf, h⟩ := h
  have hinv : ∀ y, a.2.2.2.2.2.2.2.1 = some y → AllSelf y := by
    rw [← Array.forIn_toList] at hf
    refine forIn_inv (Inv := fun s => ∀ y, s.2.2.2.2.2.2.2.1 = some y → AllSelf y) (fun f b r hb hr => ?_) _ _ _ (fun y hy => ?_) hf
    · rw [Option.bind_eq_some_iff] at hr
      obtain ⟨j, hj, hr⟩ := hr
      have key : ∀ (n : Nat) (y : Array Value), (if n > Made.mostCells then none else b.2.2.2.2.2.2.2.1.bind fun p => j.zero.bind fun q => some (p ++ q.cells)) = some y → AllSelf y := by
        intro n y hy
        split at hy
        · cases hy
        · simp only [Option.bind_eq_some_iff] at hy
          obtain ⟨p, hp, q, hq, e⟩ := hy
          cases e
          exact (hb p hp).append (hi _ _ _ hj hq).cells
      by_cases h1 : j.str.isEmpty = true
      · simp [h1] at hr
      · by_cases h2 : f.embedded = true
        · simp [h1, h2] at hr
        · simp only [h1, h2, if_false, Bool.false_eq_true] at hr
          split at hr
          · split at hr <;> (cases hr; exact key _)
          · rw [Option.bind_eq_some_iff] at hr
            obtain ⟨tag, _, hr⟩ := hr
            split at hr <;> (cases hr; exact key _)
    · cases hy; exact AllSelf.empty
  have : ∃ y, a.2.2.2.2.2.2.2.1 = some y ∧ z = .agg y := by
    split at h
    · cases h
      simp only [Option.map_eq_some_iff] at hz
      obtain ⟨y, h1, h2⟩ := hz
      exact ⟨y, h1, h2.symm⟩
    · cases h
      simp only [Option.map_eq_some_iff] at hz
      obtain ⟨y, h1, h2⟩ := hz
      exact ⟨y, h1, h2.symm⟩
  obtain ⟨y, hy, rfl⟩ := this
  exact (hinv y hy).agg
theorem reckon_self {info : TypeId → Option TypeInfo} (hi : ZerosOf info) {d : TypeDesc} {i : TypeInfo} {z : Value} (h : Made.reckon info d = some i) (hz : i.zero = some z) : SelfRel z := by
  have hp : SelfRel (.pointer none) := fun _ => .ptrNil
  unfold Made.reckon at h
  cases d with
  | struct fs => exact struct_self hi h hz
  | pointer e =>
    simp only [Option.bind_eq_bind, Option.bind_eq_some_iff, Option.pure_def] at h
    obtain ⟨j, _, h⟩ := h
    split at h
    · cases h
    · split at h
      · cases h
      · rw [Option.bind_eq_some_iff] at h
        obtain ⟨s, _, h⟩ := h
        cases h; cases hz; exact hp
    · rw [Option.bind_eq_some_iff] at h
      obtain ⟨s, _, h⟩ := h
      cases h; cases hz; exact hp
  | slice e =>
    simp only [Option.bind_eq_bind, Option.bind_eq_some_iff, Option.pure_def] at h
    obtain ⟨j, _, s, _, h⟩ := h
    cases h; cases hz; exact fun _ => .slNil _ _
  | map k e =>
    simp only [Option.bind_eq_bind, Option.bind_eq_some_iff, Option.pure_def] at h
    obtain ⟨j, _, s, _, j2, _, s2, _, h⟩ := h
    cases h; cases hz; exact fun _ => .mapNil
  | chan dir e =>
    simp only [Option.bind_eq_bind, Option.bind_eq_some_iff, Option.pure_def] at h
    obtain ⟨j, _, s, _, h⟩ := h
    cases h; cases hz; exact fun _ => .chanNil
  | func ps rs v =>
    simp only [Option.bind_eq_bind, Option.bind_eq_some_iff, Option.pure_def] at h
    obtain ⟨s, _, h⟩ := h
    cases h; cases hz; exact fun _ => .nilFunc
  | array n e =>
    simp only [Option.bind_eq_bind, Option.bind_eq_some_iff, Option.pure_def] at h
    obtain ⟨j, hj, s, _, h⟩ := h
    cases h
    simp only at hz
    split at hz
    · cases hz
    · split at hz
      · cases hz; exact AllSelf.empty.agg
      · simp only [Option.map_eq_some_iff] at hz
        obtain ⟨y, hy, rfl⟩ := hz
        exact ((hi _ _ _ hj hy).cells.rep n).agg
  | _ => cases h
theorem info_self {T : Tables} (h0 : ∀ (t : Nat) (i : TypeInfo) (z : Value), T.types[t]? = some i → i.zero = some z → SelfRel z) : ∀ (f : Nat), ZerosOf (Made.infoAt T f)
  | 0 => fun t i z h => by cases h
  | f + 1 => fun t i z h hz => by
    unfold Made.infoAt at h
    split at h
    · exact h0 t i z h hz
    · rw [Option.bind_eq_some_iff] at h
      obtain ⟨d, _, h⟩ := h
      exact reckon_self (info_self h0 f) h hz
theorem Good.of {P : Program} (h : (P.types.all fun i => match i.zero with | some z => zeroOk z | none => true) = true) (hm : P.follows .mixedOrders = true) : Good P := by
  have h0 : ∀ (t : Nat) (i : TypeInfo) (z : Value), P.types[t]? = some i → i.zero = some z → SelfRel z := fun t i z hi hz ι => by
    obtain ⟨ht, rfl⟩ := Array.getElem?_eq_some_iff.1 hi
    have := Array.all_eq_true.1 h t ht
    rw [hz] at this
    exact zeroOk_rel this
  refine ⟨fun t i z hi hz => ?_, hm⟩
  unfold Tables.info? at hi
  split at hi
  · exact h0 t i z hi hz
  · exact info_self h0 _ t i z hi hz
/-- The same look with lists in the place of arrays (a zero of a thousand cells is looked at in little room). -/
def zeroOkL : Value → Bool
  | .agg cs => cs.toList.all constOk1
  | v => zeroOk v
theorem zeroOk_of {z : Value} (h : zeroOkL z = true) : zeroOk z = true := by
  cases z with
  | agg cs =>
    have h : cs.toList.all constOk1 = true := h
    rw [Array.all_toList] at h
    exact h
  | _ => exact h
theorem Good.ofL {P : Program} (h : (P.types.toList.all fun i => match i.zero with | some z => zeroOkL z | none => true) = true) (hm : P.follows .mixedOrders = true) : Good P := by
  refine .of ?_ hm
  rw [Array.all_eq_true]
  intro i hi
  have := List.all_eq_true.1 h P.types[i] (Array.getElem_mem_toList hi)
  revert this
  cases P.types[i].zero with
  | none => exact id
  | some z => exact fun h => zeroOk_of h
end Go.Proofs.YtmmmdmandocbhaaDoor.Den
end
