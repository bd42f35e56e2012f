/- Helpers of this claim: an evaluator over plain values and its laws. -/
import Derived.Test.YtmmmdmandocbhaaDoorOne
import Derived.OrdersIn
section
/- Operations on slices and pointers that are values go as the machine's. -/
set_option linter.unusedVariables false
set_option linter.unusedSimpArgs false
namespace Go.Proofs.YtmmmdmandocbhaaDoor.Den
variable {P : Program} {ι : Emb}

theorem opts_rel {a a' : Act} (ha : ActRel ι a a') (x : Option Operand) (h : ∀ y ∈ x, operandOk y = true) : OptRel ι (x.map a.eval) (x.map a'.eval) := by
  cases x with
  | none => trivial
  | some y => exact ha.eval (h y rfl)
theorem args_rel {a a' : Act} (ha : ActRel ι a a') (xs : Array Operand) (h : ∀ y ∈ xs, operandOk y = true) : ARel ι (xs.map a.eval) (xs.map a'.eval) :=
  .map _ _ _ fun k x hk => ha.eval (h x (Array.mem_of_getElem? hk))

theorem of_if' {α : Type} {c : Prop} {d : Decidable c} {x : Option α} {y : α} (h : (@ite _ c d x none) = some y) : c ∧ x = some y := by
  split at h
  · rename_i hc; exact ⟨hc, h⟩
  · cases h
/-- The machine's answer to an operation that looks only. -/
def Looks (P : Program) (ι : Emb) (w : World) (s : Sem Value) (v : Value) : Prop := ∃ v', s.run P w = .ok v' w ∧ VRel ι v v'

theorem vIndexAddr_sound {H w : World} (hrel : Rel P ι H w) {t : TypeId} {x x' y y' v : Value} (hx : VRel ι x x') (hy : VRel ι y y') (h : vIndexAddr P t x y = some v) : Looks P ι w (Instr.indexAt t x' y') v := by
  unfold vIndexAddr at h
  split at h
  case h_2 => cases h
  rename_i tg xs k i
  cases hy
  split at h
  · rename_i elem hu
    split at h
    case h_2 => cases h
    rename_i inf hi
    replace h := of_if' h
    obtain ⟨⟨ht, h0, h1⟩, h⟩ := h
    have ht : @Eq Nat tg (vsT + inf.size) := ht
    simp only [Option.map_eq_some_iff] at h
    obtain ⟨e, he, rfl⟩ := h
    rcases hx.vs_inv (by rw [ht]; exact Nat.le_add_right _ _) with ⟨rfl, a', c', rfl⟩ | ⟨es, b, o, c', cs', hes, hp, hc, hz, hb, hh, rfl⟩
    · simp at he
    · have hes : es = inf.size := by omega
      subst hes
      have hk : i.toNat < xs.size := by omega
      refine ⟨.pointer (some ⟨b, o + i.toNat * inf.size, none⟩), ?_, ?_⟩
      · simp [Instr.indexAt, Go.asIntOf, run_underlying' hu, h0, h1, run_sizeOf' hi, add_plain]
      · refine .rf e.cells b _ cs' hp ?_ fun j y y' hy hy' => hh _ j e y y' he hy hy'
        rw [hz _ _ he]
        have := Nat.mul_le_mul_right inf.size hk
        rw [Nat.succ_mul] at this
        omega
  · rename_i n elem hu
    split at h
    case h_2 => cases h
    rename_i inf hi
    replace h := of_if' h
    obtain ⟨⟨ht, h0, h1, hs⟩, h⟩ := h
    have ht : @Eq Nat tg rfT := ht
    subst ht
    injection h with h; subst h
    obtain ⟨b, o, cs', hp, hb, hh, rfl⟩ := hx.rf_inv
    have hk : i.toNat < n := by omega
    have := Nat.mul_le_mul_right inf.size hk
    rw [Nat.succ_mul] at this
    refine ⟨.pointer (some ⟨b, o + i.toNat * inf.size, none⟩), ?_, ?_⟩
    · simp [Instr.indexAt, Go.asIntOf, Instr.sureAddr, run_underlying' hu, h0, h1, run_sizeOf' hi, add_plain]
    · refine .rf _ b _ cs' hp (by rw [Array.size_extract]; omega) fun j y y' hy hy' => ?_
      rw [Array.getElem?_extract] at hy
      split at hy
      · exact hh _ y y' hy (by rw [← hy']; congr 1; omega)
      · cases hy
  · cases h

theorem vFieldAddr_sound {H w : World} (hrel : Rel P ι H w) {s : TypeId} {f : Nat} {x x' v : Value} (hx : VRel ι x x') (h : vFieldAddr P s f x = some v) : Looks P ι w (Instr.fieldAt s x' f) v := by
  unfold vFieldAddr at h
  split at h
  case h_2 => cases h
  rename_i tg cs
  split at h
  case h_2 => cases h
  rename_i fs hu
  split at h
  case h_2 => cases h
  rename_i fl hf
  split at h
  case h_2 => cases h
  rename_i i hi
  replace h := of_if' h
  obtain ⟨⟨ht, h0, h1⟩, h⟩ := h
  have ht : @Eq Nat tg rfT := ht
  subst ht
  injection h with h; subst h
  obtain ⟨b, o, cs', hp, hb, hh, rfl⟩ := hx.rf_inv
  refine ⟨.pointer (some ⟨b, o + fl.offset, none⟩), ?_, ?_⟩
  · simp [Instr.fieldAt, run_underlying' hu, hf, Instr.sureAddr, fieldPlace, run_sizeOf' hi, h0, add_plain]
  · refine .rf _ b _ cs' hp (by rw [Array.size_extract]; omega) fun j y y' hy hy' => ?_
    rw [Array.getElem?_extract] at hy
    split at hy
    · exact hh _ y y' hy (by rw [← hy']; congr 1; omega)
    · cases hy

theorem run_isAgg' {t : TypeId} {d : TypeDesc} (h : P.underlying t = some d) (w : World) : (Go.isAgg t).run P w = .ok (aggT d) w := by
  simp only [Go.isAgg, Sem.run_bind, run_underlying' h, Result.andThen_ok]
  cases d <;> rfl
theorem vLoad_sound {H w : World} (hrel : Rel P ι H w) {t : TypeId} {x x' v : Value} (hx : VRel ι x x') (h : vLoad P t x = some v) : Looks P ι w (Instr.loadAt t x') v := by
  unfold vLoad at h
  split at h
  case h_2 => cases h
  rename_i tg cs
  split at h
  case h_2 => cases h
  rename_i d inf hu hi
  replace h := of_if' h
  obtain ⟨⟨ht, hs⟩, h⟩ := h
  have ht : @Eq Nat tg rfT := ht
  subst ht
  obtain ⟨b, o, cs', hp, hb, hh, rfl⟩ := hx.rf_inv
  obtain ⟨e, fr, hw⟩ := hrel.pinned hp
  have hla : (Instr.loadAt t (.pointer (some ⟨b, o, none⟩))).run P w = (Go.loadVar t ⟨b, o, none⟩).run P w := by simp [Instr.loadAt, Instr.sureAddr]
  unfold Looks
  rw [hla]
  unfold Go.loadVar
  simp only [Sem.run_bind, run_isAgg' hu, Result.andThen_ok]
  split at h
  · rename_i hd
    injection h with h; subst h
    rw [if_pos hd]
    simp only [Sem.run_bind, run_sizeOf' hi, Result.andThen_ok, run_loadCells_row hw (off := o) (n := inf.size) (by omega), Sem.run_pure]
    refine ⟨_, rfl, .agg _ _ (by rw [Array.size_extract]; omega) fun k y y' hy hy' => ?_⟩
    rw [Array.getElem?_extract] at hy'
    split at hy'
    · exact hh _ y y' hy hy'
    · cases hy'
  · rename_i hd
    rw [if_neg hd]
    have h0 := (Array.getElem?_eq_some_iff.1 h).1
    have hlt : o < cs'.size := by omega
    simp only [run_load, cell_of hw, Array.getElem?_eq_getElem hlt]
    exact ⟨_, rfl, hh 0 _ _ h (by rw [Nat.add_zero, Array.getElem?_eq_getElem hlt])⟩

theorem vBound_some {n d r : Nat} {k : Option Value} (h : vBound n k d = some r) : (k = none ∧ r = d) ∨ ∃ kk i, k = some (.int kk i) ∧ 0 ≤ i ∧ i ≤ n ∧ r = i.toNat := by
  unfold vBound at h
  split at h
  · injection h with h; exact .inl ⟨rfl, h.symm⟩
  · rename_i kk i
    replace h := of_if' h
    obtain ⟨hc, h⟩ := h
    injection h with h
    exact .inr ⟨kk, i, rfl, hc.1, hc.2, h.symm⟩
  · cases h
theorem optRel_int {k : IntKind} {i : Int} {x' : Option Value} (h : OptRel ι (some (.int k i)) x') : x' = some (.int k i) := by
  cases x' with
  | none => exact h.elim
  | some v => cases h; rfl
theorem optRel_none {x' : Option Value} (h : OptRel ι none x') : x' = none := by
  cases x' with
  | none => rfl
  | some v => exact h.elim

/-- What a cut of such a slice shows. -/
theorem vs_cut {es l h : Nat} {xs : Array Value} {b o c' m : Nat} {cs' : Array Value} (hp : ι.fz b = some cs') (hc : xs.size ≤ c') (hz : ∀ (k : Nat) (x : Value), xs[k]? = some x → x.cells.size = es) (hb : o + xs.size * es ≤ cs'.size)
    (hh : ∀ (k j : Nat) (x y y' : Value), xs[k]? = some x → x.cells[j]? = some y → cs'[o + k * es + j]? = some y' → VRel ι y y') (hl : l ≤ h) (hhn : h ≤ xs.size) (hm : h ≤ m) :
    VRel ι (vs es (xs.extract l h)) (.slice (if m = l then some ⟨b, o, none⟩ else (some (⟨b, o, none⟩ : Addr)).map (·.add (l * es))) (h - l) (m - l)) := by
  have hsz : (xs.extract l h).size = h - l := by rw [Array.size_extract]; omega
  by_cases he : h = l
  · subst he
    have : xs.extract h h = #[] := Array.size_eq_zero_iff.1 (by rw [hsz, Nat.sub_self])
    unfold vs
    rw [this, Nat.sub_self]
    split
    · exact .vsE es _ _
    · exact .vsE es _ _
  · rw [if_neg (by omega)]
    simp only [Option.map_some, add_plain]
    have hle : l * es + (h - l) * es ≤ xs.size * es := by
      rw [← Nat.add_mul]
      exact Nat.mul_le_mul_right es (by omega)
    have := VRel.vs (ι := ι) es (xs.extract l h) b (o + l * es) (m - l) cs' hp (by rw [hsz]; omega) (fun k x hx => ?_) (by rw [hsz]; omega) (fun k j x y y' hx hy hy' => ?_)
    · rw [hsz] at this; exact this
    · rw [Array.getElem?_extract] at hx
      split at hx
      · exact hz _ _ hx
      · cases hx
    · rw [Array.getElem?_extract] at hx
      split at hx
      · refine hh _ j x y y' hx hy ?_
        rw [← hy', Nat.add_mul]; congr 1; omega
      · cases hx
theorem vsE_cut {es l h m : Nat} {a' : Addr} (hl : l ≤ h) (hh : h ≤ 0) : VRel ι (vs es ((#[] : Array Value).extract l h)) (.slice (if m = l then some a' else (some a').map (·.add (l * es))) (h - l) (m - l)) := by
  have h1 : (#[] : Array Value).extract l h = #[] := by simp
  have h2 : h - l = 0 := by omega
  unfold vs
  rw [h1, h2]
  split
  · exact .vsE es _ _
  · exact .vsE es _ _
theorem vSliceOp_sound {H w : World} (hrel : Rel P ι H w) {t : TypeId} {x x' v : Value} {lo hi mx lo' hi' mx' : Option Value} (hx : VRel ι x x') (hlo : OptRel ι lo lo') (hhi : OptRel ι hi hi') (hmx : OptRel ι mx mx') (h : vSliceOp P t x lo hi mx = some v) :
    Looks P ι w (Instr.sliceAt t x' lo' hi' mx') v := by
  unfold vSliceOp at h
  split at h
  case h_2 => cases h
  rename_i tg xs
  split at h
  case h_2 => cases h
  rename_i elem hu
  split at h
  case h_2 => cases h
  rename_i inf hin
  replace h := of_if' h
  obtain ⟨ht, h⟩ := h
  have ht : @Eq Nat tg (vsT + inf.size) := ht
  -- the machine's cut
  have cut : ∀ (l hh m n c' : Nat) (a' : Addr), (Instr.sliceBounds true n c' lo' hi' mx').run P w = .ok (l, hh, m) w →
      (Instr.sliceAt t (.slice (some a') n c') lo' hi' mx').run P w = .ok (.slice (if m = l then some a' else (some a').map (·.add (l * inf.size))) (hh - l) (m - l)) w := by
    intro l hh m n c' a' hr
    simp only [Instr.sliceAt, Instr.slice, Sem.run_bind, run_underlying' hu, Result.andThen_ok, hr, run_sizeOf' hin, Sem.run_pure]
  have bounds : ∃ l hh, v = vs inf.size (xs.extract l hh) ∧ l ≤ hh ∧ hh ≤ xs.size ∧ ∀ c', xs.size ≤ c' → ∃ m, hh ≤ m ∧ (Instr.sliceBounds true xs.size c' lo' hi' mx').run P w = .ok (l, hh, m) w := by
    unfold vSlice at h
    split at h
    · have hmx := optRel_none hmx
      subst hmx
      split at h
      case h_2 => cases h
      rename_i hh hhe
      split at h
      case h_2 => cases h
      rename_i l hle
      injection h with h; subst h
      refine ⟨l, hh, rfl, ?_⟩
      rcases vBound_some hhe with ⟨rfl, rfl⟩ | ⟨k1, i1, rfl, h10, h11, rfl⟩ <;> rcases vBound_some hle with ⟨rfl, rfl⟩ | ⟨k2, i2, rfl, h20, h21, rfl⟩
      · rw [optRel_none hhi, optRel_none hlo]
        exact ⟨by omega, by omega, fun c' hc => ⟨c', hc, by simp [Instr.sliceBounds]⟩⟩
      · rw [optRel_none hhi, optRel_int hlo]
        exact ⟨by omega, by omega, fun c' hc => ⟨c', hc, by simp [Instr.sliceBounds, sliceBound_ok _ h20 h21]⟩⟩
      · rw [optRel_int hhi, optRel_none hlo]
        refine ⟨by omega, by omega, fun c' hc => ⟨c', by omega, ?_⟩⟩
        have : i1 ≤ (c' : Nat) := by omega
        simp [Instr.sliceBounds, sliceBound_ok _ h10 this]
      · rw [optRel_int hhi, optRel_int hlo]
        refine ⟨by omega, by omega, fun c' hc => ⟨c', by omega, ?_⟩⟩
        have : i1 ≤ (c' : Nat) := by omega
        simp [Instr.sliceBounds, sliceBound_ok _ h10 this, sliceBound_ok _ h20 h21]
    · cases h
    · rename_i m0 h0
      split at h
      case h_2 => cases h
      rename_i m hme
      split at h
      case h_2 => cases h
      rename_i hh hhe
      split at h
      case h_2 => cases h
      rename_i l hle
      injection h with h; subst h
      refine ⟨l, hh, rfl, ?_⟩
      rcases vBound_some hme with ⟨h', _⟩ | ⟨k3, i3, h3, h30, h31, rfl⟩
      · cases h'
      injection h3 with h3; subst h3
      rcases vBound_some hhe with ⟨h', _⟩ | ⟨k1, i1, h1, h10, h11, rfl⟩
      · cases h'
      injection h1 with h1; subst h1
      rcases vBound_some hle with ⟨rfl, rfl⟩ | ⟨k2, i2, rfl, h20, h21, rfl⟩
      · rw [optRel_int hmx, optRel_int hhi, optRel_none hlo]
        refine ⟨by omega, by omega, fun c' hc => ⟨i3.toNat, by omega, ?_⟩⟩
        have : i3 ≤ (c' : Nat) := by omega
        simp [Instr.sliceBounds, sliceBound_ok _ h30 this, sliceBound_ok _ h10 h11]
      · rw [optRel_int hmx, optRel_int hhi, optRel_int hlo]
        refine ⟨by omega, by omega, fun c' hc => ⟨i3.toNat, by omega, ?_⟩⟩
        have : i3 ≤ (c' : Nat) := by omega
        simp [Instr.sliceBounds, sliceBound_ok _ h30 this, sliceBound_ok _ h10 h11, sliceBound_ok _ h20 h21]
  obtain ⟨l, hh, rfl, hl, hhn, hbd⟩ := bounds
  rcases hx.vs_inv (by rw [ht]; exact Nat.le_add_right _ _) with ⟨rfl, a', c', rfl⟩ | ⟨es, b, o, c', cs', hes, hp, hc, hz, hb, hhh, rfl⟩
  · obtain ⟨m, hm, hr⟩ := hbd c' (by simp)
    exact ⟨_, cut _ _ _ _ _ _ hr, vsE_cut hl (by simpa using hhn)⟩
  · have hes : es = inf.size := by omega
    subst hes
    obtain ⟨m, hm, hr⟩ := hbd c' hc
    exact ⟨_, cut _ _ _ _ _ _ hr, vs_cut hp hc hz hb hhh hl hhn hm⟩

theorem push_strOf : ∀ (l : List Value) (s : ByteArray), l.foldl (fun s v => s.push (byteV v)) s = ⟨s.data ++ (l.map byteV).toArray⟩
  | [], s => by simp
  | v :: l, s => by
    simp only [List.foldl_cons, push_strOf l, List.map_cons]
    congr 1
    apply Array.toList_inj.1
    simp [ByteArray.push]
theorem forIn_bytes (w : World) : ∀ (l : List Value) (s : ByteArray), (∀ x ∈ l, isU8 x = true) →
    (forIn l s fun c s => (match c with | .int .u8 n => Pure.pure (ForInStep.yield (s.push (UInt8.ofNat n.toNat))) | x => do stuck "bytesToString: byte expected"; Pure.pure (ForInStep.yield s) : Sem (ForInStep ByteArray))).run P w = .ok (l.foldl (fun s v => s.push (byteV v)) s) w
  | [], s, h => by rw [List.forIn_nil]; rfl
  | v :: l, s, h => by
    rw [List.forIn_cons]
    have hv := h v List.mem_cons_self
    have hl := fun s => forIn_bytes w l s fun x hx => h x (List.mem_cons_of_mem _ hx)
    cases v with
    | int k n =>
      cases k <;> first | (cases hv; done) | skip
      simp only [Sem.run_bind, Sem.run_pure, Result.andThen_ok, List.foldl_cons]
      exact hl _
    | _ => cases hv
theorem vConv_sound {H w : World} (hrel : Rel P ι H w) {src dst : TypeId} {x x' v : Value} (hx : VRel ι x x') (h : vConv P src dst x = some v) : Looks P ι w (Go.convert src dst x') v := by
  unfold vConv at h
  split at h
  case h_2 => cases h
  rename_i tg xs
  split at h
  case h_2 => cases h
  rename_i e hu1 hu2
  split at h
  case h_2 => cases h
  rename_i hue
  replace h := of_if' h
  obtain ⟨⟨ht, hall⟩, h⟩ := h
  have ht : @Eq Nat tg (vsT + 1) := ht
  injection h with h; subst h
  refine ⟨_, ?_, .string _⟩
  rcases hx.vs_inv (by rw [ht]; exact Nat.le_add_right _ _) with ⟨rfl, a', c', rfl⟩ | ⟨es, b, o, c', cs', hes, hp, hc, hz, hb, hh, rfl⟩
  · simp [Go.convert, run_underlying' hu1, run_underlying' hu2, run_underlying' hue, Conv.bytesToString, loadCells, loadCellsFrom, strOf]
    rfl
  · have hes : es = 1 := by omega
    subst hes
    obtain ⟨e, fr, hw⟩ := hrel.pinned hp
    have hcells : cs'.extract o (o + xs.size) = xs := by
      apply Array.ext_getElem?
      intro k
      rw [Array.getElem?_extract]
      by_cases hk : k < xs.size
      · rw [if_pos (by omega), Array.getElem?_eq_getElem hk]
        have hlt : o + k < cs'.size := by omega
        rw [Array.getElem?_eq_getElem hlt]
        have hu := (Array.all_eq_true.1 hall) k hk
        have hxk := Array.getElem?_eq_getElem hk
        cases hxe : xs[k] with
        | int kk n =>
          rw [hxe] at hxk
          have hv := hh k 0 (.int kk n) (.int kk n) _ hxk rfl (by rw [Nat.mul_one, Nat.add_zero, Array.getElem?_eq_getElem hlt])
          generalize cs'[o + k] = z at hv
          cases hv; rfl
        | _ => rw [hxe] at hu; cases hu
      · rw [if_neg (by omega), Array.getElem?_eq_none (by omega)]
    have hall' : ∀ x ∈ xs.toList, isU8 x = true := fun x hx => by
      obtain ⟨k, hk⟩ := List.getElem?_of_mem hx
      obtain ⟨hlt, rfl⟩ := Array.getElem?_eq_some_iff.1 (by simpa using hk)
      exact (Array.all_eq_true.1 hall) k hlt
    have hf := forIn_bytes (P := P) w xs.toList .empty hall'
    rw [push_strOf] at hf
    simp only [Go.convert, Sem.run_bind, run_underlying' hu1, run_underlying' hu2, run_underlying' hue, Result.andThen_ok, Conv.bytesToString, run_loadCells_row hw (off := o) (n := xs.size) (by omega), hcells, ← Array.forIn_toList]
    simp only [Sem.run_bind, Sem.run_pure, Result.andThen_ok]
    refine (congrArg (fun r => Result.andThen r _) hf).trans ?_
    simp [strOf]

theorem vNil_sound {t : TypeId} {w : World} {x x' y y' : Value} {b : Bool} (hx : VRel ι x x') (hy : VRel ι y y') (h : vNil P t x y = some b) (ox oy : Operand) :
    (do Go.eqGuard .eql t ox oy x' y'; Go.binOp .eql t x' y').run P w = .ok (.bool b) w ∧ (do Go.eqGuard .neq t ox oy x' y'; Go.binOp .neq t x' y').run P w = .ok (.bool !b) w := by
  have sl : ∀ {tg : Nat} {cs : Array Value} {v' : Value}, vsT ≤ tg → VRel ι (.iface tg (.tuple cs)) v' → ∃ a n c, v' = .slice (some a) n c := by
    intro tg cs v' ht hv
    rcases hv.vs_inv ht with ⟨_, a', c', rfl⟩ | ⟨es, b, o, c', cs', _, _, _, _, _, _, rfl⟩
    · exact ⟨_, _, _, rfl⟩
    · exact ⟨_, _, _, rfl⟩
  have key : ∀ d, (Op.equalIn (d + 1) t x' y').run P w = .ok b w ∧ ((∃ a n c, x' = .slice a n c ∧ ∃ a n c, y' = .slice a n c) ∨ (∃ a, x' = .pointer a ∧ ∃ a, y' = .pointer a)) := by
    intro d
    unfold vNil at h
    split at h
    · rename_i tg cs n c
      split at h
      case h_2 => cases h
      rename_i hu
      replace h := of_if' h
      obtain ⟨ht, h⟩ := h
      injection h with h; subst h
      obtain ⟨a, n', c', rfl⟩ := sl ht hx
      cases hy
      exact ⟨by simp only [Op.equalIn, Sem.run_bind, run_underlying' hu, Result.andThen_ok, Sem.run_pure, Option.isNone_some], .inl ⟨_, _, _, rfl, _, _, _, rfl⟩⟩
    · rename_i n c tg cs
      split at h
      case h_2 => cases h
      rename_i hu
      replace h := of_if' h
      obtain ⟨ht, h⟩ := h
      injection h with h; subst h
      obtain ⟨a, n', c', rfl⟩ := sl ht hy
      cases hx
      exact ⟨by simp only [Op.equalIn, Sem.run_bind, run_underlying' hu, Result.andThen_ok, Sem.run_pure, Option.isNone_some], .inl ⟨_, _, _, rfl, _, _, _, rfl⟩⟩
    · rename_i tg cs
      split at h
      case h_2 => cases h
      rename_i hu
      replace h := of_if' h
      obtain ⟨ht, h⟩ := h
      have ht : @Eq Nat tg rfT := ht
      subst ht
      injection h with h; subst h
      obtain ⟨b, o, cs', hp, hb, hh, rfl⟩ := hx.rf_inv
      cases hy
      exact ⟨by simp only [Op.equalIn, Sem.run_bind, run_underlying' hu, Result.andThen_ok, Sem.run_pure], .inr ⟨_, rfl, _, rfl⟩⟩
    · rename_i tg cs
      split at h
      case h_2 => cases h
      rename_i hu
      replace h := of_if' h
      obtain ⟨ht, h⟩ := h
      have ht : @Eq Nat tg rfT := ht
      subst ht
      injection h with h; subst h
      obtain ⟨b, o, cs', hp, hb, hh, rfl⟩ := hy.rf_inv
      cases hx
      exact ⟨by simp only [Op.equalIn, Sem.run_bind, run_underlying' hu, Result.andThen_ok, Sem.run_pure, Option.isNone_some], .inr ⟨_, rfl, _, rfl⟩⟩
    · cases h
  obtain ⟨he, ⟨a, n, c, rfl, a2, n2, c2, rfl⟩ | ⟨a, rfl, a2, rfl⟩⟩ := key 9999
  · have he : (Op.equal t (.slice a n c) (.slice a2 n2 c2)).run P w = .ok b w := he
    constructor <;> simp only [Go.eqGuard, Go.binOp, Sem.run_bind, Sem.run_pure, Result.andThen_ok] <;> simp [he]
  · have he : (Op.equal t (.pointer a) (.pointer a2)).run P w = .ok b w := he
    constructor <;> simp only [Go.eqGuard, Go.binOp, Sem.run_bind, Sem.run_pure, Result.andThen_ok] <;> simp [he]

theorem arr1' {α : Type} {vs : Array α} (d : α) (h : vs.size = 1) : vs = #[vs.getD 0 d] := by
  apply Array.ext
  · simp [h]
  · intro i h1 h2
    have : i = 0 := by omega
    subst this
    simp [Array.getD, h]
theorem pureD_sound {H w : World} (hrel : Rel P ι H w) {o : Oper} {a a' : Act} (ha : ActRel ι a a') (hops : ∀ x ∈ o.op.operands, operandOk x = true) {v : Value} (h : pureD P o.op a.eval = some v) :
    ∃ v', (execOp a'.eval o).run P w = .ok (.value v') w ∧ VRel ι v v' := by
  obtain ⟨dst, op, ty, pos, guard, after⟩ := o
  have val : ∀ {s : Sem Value}, Looks P ι w s v → execOp a'.eval ⟨dst, op, ty, pos, guard, after⟩ = (do Pure.pure (Next.value (← s))) → ∃ v', (execOp a'.eval ⟨dst, op, ty, pos, guard, after⟩).run P w = .ok (.value v') w ∧ VRel ι v v' := by
    intro s hs he
    obtain ⟨v', hr, hv⟩ := hs
    exact ⟨v', by rw [he]; simp only [Sem.run_bind, hr, Result.andThen_ok, Sem.run_pure], hv⟩
  cases op
  all_goals simp only [Op.operands] at hops
  all_goals simp only [pureD] at h
  case indexAddr t x y => exact val (vIndexAddr_sound hrel (ha.eval (hops x (by simp))) (ha.eval (hops y (by simp))) h) rfl
  case fieldAddr t x f => exact val (vFieldAddr_sound hrel (ha.eval (hops x (by simp))) h) rfl
  case load t x => exact val (vLoad_sound hrel (ha.eval (hops x (by simp))) h) rfl
  case slice t x lo hi mx =>
    exact val (vSliceOp_sound hrel (ha.eval (hops x (by simp))) (opts_rel ha lo fun y hy => hops y (by cases hy; simp)) (opts_rel ha hi fun y hy => hops y (by cases hy; simp)) (opts_rel ha mx fun y hy => hops y (by cases hy; simp)) h) rfl
  case convert src dst x => exact val (vConv_sound hrel (ha.eval (hops x (by simp))) h) rfl
  case nilCheck x =>
    have hx := ha.eval (hops x (by simp))
    split at h
    case h_2 => cases h
    rename_i tg cs hp
    replace h := of_if' h
    obtain ⟨ht, h⟩ := h
    have ht : @Eq Nat tg rfT := ht
    subst ht
    injection h with h; subst h
    rw [hp] at hx
    have hx0 := hx
    obtain ⟨b, o, cs', hpp, hb, hh, hx'⟩ := hx.rf_inv
    exact ⟨a'.eval x, by simp only [execOp, hx', Sem.run_pure], hx0⟩
  case binOp bop t x y yt =>
    cases bop <;> first | (cases h; done) | skip
    · simp only [Option.map_eq_some_iff] at h
      obtain ⟨b, h, rfl⟩ := h
      exact val ⟨_, (vNil_sound (w := w) (ha.eval (hops x (by simp))) (ha.eval (hops y (by simp))) h x y).1, .bool _⟩ rfl
    · simp only [Option.map_eq_some_iff] at h
      obtain ⟨b, h, rfl⟩ := h
      exact val ⟨_, (vNil_sound (w := w) (ha.eval (hops x (by simp))) (ha.eval (hops y (by simp))) h x y).2, .bool _⟩ rfl
  case call c =>
    split at h
    case h_2 => cases h
    rename_i hb
    replace h := of_if' h
    obtain ⟨⟨h1, h2⟩, h⟩ := h
    have hargs : ARel ι (c.args.map a.eval) (c.args.map a'.eval) := args_rel ha c.args fun y hy => hops y (by simp only [Call.operands, Array.mem_append]; exact .inr hy)
    have h0 := hargs.getD 0 (d := undef) (d' := undef) .undef
    have e := arr1' (vs := c.args.map a'.eval) undef (by simpa using h1)
    have e2 := arr1' (vs := c.argTypes) 0 h2
    generalize (c.args.map a.eval).getD 0 undef = x at h0 h
    generalize (c.args.map a'.eval).getD 0 undef = x' at h0 e
    generalize c.argTypes.getD 0 0 = t at h e2
    unfold vLen at h
    split at h
    case h_2 => cases h
    rename_i tg xs
    split at h
    case h_2 => cases h
    rename_i hu
    replace h := of_if' h
    obtain ⟨ht, h⟩ := h
    injection h with h; subst h
    refine ⟨goInt xs.size, ?_, .int _ _⟩
    have key : ∀ (m : Nat) aa c0, x' = .slice aa m c0 → m = xs.size → (execOp a'.eval ⟨dst, .call c, ty, pos, guard, after⟩).run P w = .ok (.value (goInt xs.size)) w := by
      intro m aa c0 hx' hm
      subst hm
      simp only [execOp, resolve, hb, Sem.run_bind, Sem.run_pure, Result.andThen_ok, invoke]
      rw [e, hx', e2]
      simp [Go.builtin, Builtin.len_, run_underlying' hu]
    rcases h0.vs_inv ht with ⟨rfl, a', c', rfl⟩ | ⟨es, b, o, c', cs', _, _, _, _, _, _, rfl⟩
    · exact key 0 _ _ rfl rfl
    · exact key _ _ _ rfl rfl
  all_goals cases h
end Go.Proofs.YtmmmdmandocbhaaDoor.Den
end

section
/- Every operation goes side by side, all together. -/
set_option linter.unusedVariables false
set_option linter.unusedSimpArgs false
namespace Go.Proofs.YtmmmdmandocbhaaDoor.Den
variable {P : Program} {ι : Emb}

theorem of_if {α : Type} {c : Prop} {d : Decidable c} {x : Option α} {y : α} (h : (@ite _ c d x none) = some y) : c ∧ x = some y := by
  cases d with
  | isTrue hc => exact ⟨hc, h⟩
  | isFalse hc => cases h
theorem arr2 {vs : Array Value} (h : vs.size = 2) : vs = #[vs.getD 0 undef, vs.getD 1 undef] := by
  apply Array.ext
  · simpa using h
  · intro i h1 h2
    have : i = 0 ∨ i = 1 := by omega
    rcases this with rfl | rfl <;> simp [Array.getD, h]
theorem arr1 {α : Type} {vs : Array α} (d : α) (h : vs.size = 1) : vs = #[vs.getD 0 d] := by
  apply Array.ext
  · simpa using h
  · intro i h1 h2
    have : i = 0 := by omega
    subst this; simp [Array.getD, h]

theorem copyV_sound {H w H1 : World} (hrel : Rel P ι H w) {ts : Array TypeId} {ty : TypeId} {d d' x x' v : Value} (hd : VRel ι d d') (hx : VRel ι x x') (h : copyV P ts d x H = some (v, H1)) :
    Goes P ι H w H1 (Builtin.copy_ ts ty #[d', x']) VRel v := by
  unfold copyV at h
  split at h
  case h_2 => cases h
  rename_i b n c e hu
  obtain ⟨dt, ht, hu⟩ := Option.bind_eq_some_iff.1 hu
  cases hi : P.info? e with
  | none => rw [hi] at h; cases h
  | some inf =>
  rw [hi] at h
  simp only at h
  cases hc : cellsOfD P inf.size x H with
  | none => rw [hc] at h; cases h
  | some mc =>
  obtain ⟨m, cs⟩ := mc
  rw [hc] at h
  simp only at h
  split at h
  case isFalse => cases h
  rename_i hmn
  obtain ⟨cs', hrun, hcs, hsz⟩ := cellsOfD_sound hrel hx hc
  have hl := (hrun w.drawn).1
  have hf := (hrun w.drawn).2
  have hmin : Nat.min m n = m := Nat.min_eq_left hmn
  cases hd with
  | slNil n c =>
    simp only [Option.some.injEq, Prod.mk.injEq] at h
    obtain ⟨rfl, rfl⟩ := h
    refine .here hrel (x' := goInt m) ?_ (.int _ _)
    have hl' : (Builtin.lenOf x').run P w = .ok m w := hl
    have hf' : (Builtin.firstCells inf.size m x').run P w = .ok cs' w := hf
    simp only [Builtin.copy_, ht, List.getElem?_toArray, List.getElem?_cons_zero, List.getElem?_cons_succ, Sem.run_bind, run_underlying' hu, Result.andThen_ok, hl', run_sizeOf' hi, hmin, hf', Sem.run_pure]
  | sl i o n c a' c' r hr hs =>
    simp only [Option.map_eq_some_iff] at h
    obtain ⟨⟨u, H2⟩, hst, h⟩ := h
    simp only [Prod.mk.injEq] at h
    obtain ⟨rfl, rfl⟩ := h
    have hl' : (Builtin.lenOf x').run P w = .ok m w := hl
    have hf' : (Builtin.firstCells inf.size m x').run P w = .ok cs' w := hf
    obtain ⟨s1, s2, s3, _⟩ := hs
    have key : Goes P ι H w H2 (storeCells a' cs'.toList) (fun _ _ _ => True) u := by
      rcases s3 with rfl | s3
      · exact (Sim.storeCells cs.toList cs'.toList 0 ι hr hcs.toList).goes hrel hst
      · have hm0 : m = 0 := by omega
        subst hm0
        have e0 : cs = #[] := Array.eq_empty_of_size_eq_zero (by rw [hsz, Nat.zero_mul])
        subst e0
        have e1 : cs' = #[] := Array.eq_empty_of_size_eq_zero hcs.1.symm
        subst e1
        have hst := okRun_some hst
        simp only [storeCells, Sem.run_pure, Result.ok.injEq] at hst
        obtain ⟨_, rfl⟩ := hst
        exact .here hrel (x' := ()) (by simp only [storeCells, Sem.run_pure]) trivial
    obtain ⟨ι1, u', w1, hrun1, hstep, _⟩ := key
    refine ⟨ι1, goInt m, w1, ?_, hstep, .int _ _⟩
    simp only [Builtin.copy_, ht, List.getElem?_toArray, List.getElem?_cons_zero, List.getElem?_cons_succ, Sem.run_bind, run_underlying' hu, Result.andThen_ok, hl', run_sizeOf' hi, hmin, hf', hrun1, Sem.run_pure]

theorem builtinD_sound (hP : Good P) {H w H1 : World} (hrel : Rel P ι H w) {b : Builtin} {ts : Array TypeId} {ty : TypeId} {cs : Array Bool} {vs vs' : Array Value} (hv : ARel ι vs vs') {v : Value} (h : builtinD P b ts vs H = some (v, H1)) :
    Goes P ι H w H1 (Go.builtin b ts ty cs vs') NRel (.value v) := by
  have h0 : VRel ι (vs.getD 0 undef) (vs'.getD 0 undef) := hv.getD 0 .undef
  have h1 : VRel ι (vs.getD 1 undef) (vs'.getD 1 undef) := hv.getD 1 .undef
  unfold builtinD at h
  split at h
  · split at h
    case isFalse => cases h
    rename_i hs
    have e := arr2 (vs := vs') (hv.1 ▸ hs)
    have := lappend_sound hP hrel (ty := ty) h0 h1 h
    rw [← e] at this
    exact this.val
  · split at h
    case isFalse => cases h
    rename_i hs
    have e := arr1 (vs := vs') undef (hv.1 ▸ hs.1)
    have e2 := arr1 (vs := ts) 0 hs.2
    simp only [Option.map_eq_some_iff] at h
    obtain ⟨n, h, e3⟩ := h
    cases e3
    have := len_sound hrel (ty := ty) h0 h
    rw [← e, ← e2] at this
    exact Goes.val (.here hrel this (.int _ _))
  · split at h
    case isFalse => cases h
    rename_i hs
    have e := arr2 (vs := vs') (hv.1 ▸ hs)
    simp only [Option.bind_eq_some_iff, Option.map_eq_some_iff] at h
    obtain ⟨t, ht, H2, h, e3⟩ := h
    cases e3
    have := delete_sound hrel (ty := ty) ht h0 h1 h
    rw [← e] at this
    exact this.val
  · split at h
    · rename_i b n c hb
      exact ((Sim.clearSlice hP ts 0 hv hb).goes hrel h).val
    · split at h
      case isFalse => cases h
      rename_i hs
      have e := arr1 (vs := vs') undef (hv.1 ▸ hs.1)
      have e2 := arr1 (vs := ts) 0 hs.2
      simp only [Option.map_eq_some_iff] at h
      obtain ⟨n, h, e3⟩ := h
      cases e3
      have := clear_sound hrel (ty := ty) h0 h
      rw [← e, ← e2] at this
      exact this.val
  · split at h
    · split at h
      case isFalse => cases h
      rename_i hs
      have e := arr2 (vs := vs') (hv.1 ▸ hs)
      have := copyV_sound hrel (ty := ty) h0 h1 h
      rw [← e] at this
      exact this.val
    · exact ((Sim.copy ts 0 hv).goes hrel h).val
  · split at h
    case isFalse => cases h
    rename_i hs
    have e := arr2 (vs := vs') (hv.1 ▸ hs)
    split at h
    case h_2 => cases h
    rename_i k x l y hx hy
    cases h
    rw [hx] at h0; rw [hy] at h1
    generalize vs'.getD 0 undef = a at h0 e
    generalize vs'.getD 1 undef = b at h1 e
    cases h0; cases h1
    rw [e]
    exact Goes.val (.here hrel (by simp [Builtin.max_, Builtin.max2]) (.int _ _))
  · split at h
    case isFalse => cases h
    rename_i hs
    have e := arr2 (vs := vs') (hv.1 ▸ hs)
    split at h
    case h_2 => cases h
    rename_i k x l y hx hy
    cases h
    rw [hx] at h0; rw [hy] at h1
    generalize vs'.getD 0 undef = a at h0 e
    generalize vs'.getD 1 undef = b at h1 e
    cases h0; cases h1
    rw [e]
    exact Goes.val (.here hrel (by simp [Builtin.min_, Builtin.min2]) (.int _ _))
  · cases h

theorem callOpD_sound (hP : Good P) {H w H1 : World} (hrel : Rel P ι H w) {c : Call} {ty : TypeId} {a a' : Act} (ha : ActRel ι a a') (hops : ∀ x ∈ c.operands, operandOk x = true) {nx : Next} (h : callOpD P c a H = some (nx, H1)) :
    Goes P ι H w H1 (do let d ← resolve a'.eval c ty; invoke d.target d.args) NRel nx := by
  unfold callOpD at h
  have hargs : ARel ι (c.args.map a.eval) (c.args.map a'.eval) := args_rel ha c.args fun y hy => hops y (by simp only [Call.operands, Array.mem_append]; exact .inr hy)
  split at h
  · rename_i b hb
    simp only [Option.map_eq_some_iff] at h
    obtain ⟨⟨v, H2⟩, h, e⟩ := h
    cases e
    obtain ⟨ι1, x', w1, hr, hs, hv⟩ := builtinD_sound hP hrel (ty := ty) (cs := c.args.map fun | .const _ => true | _ => false) hargs h
    refine ⟨ι1, x', w1, ?_, hs, hv⟩
    simp only [resolve, hb, Sem.run_bind, Sem.run_pure, Result.andThen_ok, invoke]
    exact hr
  · rename_i g hg
    simp only [Option.map_eq_some_iff] at h
    obtain ⟨v, h, e⟩ := h
    cases e
    obtain ⟨d, x', h1, h2, h3⟩ := callD_sound hrel (ha.eval (hops g (by simp [Call.operands, hg]))) hargs h
    refine ⟨ι, x', w, ?_, .refl hrel, h3⟩
    simp only [resolve, hg, Sem.run_bind, h1, Result.andThen_ok, h2]
  · cases h

theorem semD_sound (hP : Good P) {H w H1 : World} (hrel : Rel P ι H w) {o : Oper} {a a' : Act} (ha : ActRel ι a a') {nx : Next} (h : semD P o a H = some (nx, H1)) :
    Goes P ι H w H1 (execOp a'.eval o) NRel nx ∧ ∀ c, o.op ≠ .defer c := by
  unfold semD at h
  split at h
  · cases h
  rename_i hops
  have hops2 : ∀ x ∈ o.op.operands, operandOk x = true := by
    simp only [Bool.not_eq_true, Bool.not_eq_false', Array.all_eq_true_iff_forall_mem] at hops
    exact hops
  clear hops
  have hops := hops2
  clear hops2
  obtain ⟨dst, op, ty, pos, guard, after⟩ := o
  refine ⟨?_, fun c e => by simp only at e; subst e; simp [okOp, pureD] at h⟩
  cases hpd : pureD P op a.eval with
  | some v =>
    rw [hpd] at h
    injection h with h; injection h with h1 h2; subst h1 h2
    obtain ⟨v', hr, hv⟩ := pureD_sound (o := ⟨dst, op, ty, pos, guard, after⟩) hrel ha hops hpd
    exact ⟨ι, .value v', w, hr, .refl hrel, .value _ _ hv⟩
  | none =>
  rw [hpd] at h
  simp only at h
  clear hpd
  cases op
  all_goals simp only [Op.operands] at hops
  all_goals simp only at h
  case slice t x lo hi mx =>
    simp only [Option.map_eq_some_iff] at h
    obtain ⟨⟨v, H2⟩, h, e⟩ := h
    cases e
    exact (lslice_sound hrel (ha.eval (hops x (by simp))) (opts_rel ha lo fun y hy => hops y (by cases hy; simp)) (opts_rel ha hi fun y hy => hops y (by cases hy; simp)) (opts_rel ha mx fun y hy => hops y (by cases hy; simp)) h).val
  case binOp bop t x y yt =>
    have hx := ha.eval (hops x (by simp))
    have hy := ha.eval (hops y (by simp))
    unfold binD at h
    split at h
    · rename_i hf
      simp only [Bool.and_eq_true] at hf
      have ex := hx.const_eq (flatFor_constOk hf.1)
      have ey := hy.const_eq (flatFor_constOk hf.2)
      split at h
      case h_2 => cases h
      rename_i v H2 hr
      split at h
      case isFalse => cases h
      rename_i hv
      cases h
      obtain ⟨rfl, hw⟩ := HF.binAll bop t x y hf.1 hf.2 _ _ _ (okRun_some hr)
      refine Goes.val (.here hrel (x' := v) ?_ (constOk1_rel (flat1_constOk1 hv)))
      rw [ex, ey]; exact hw w
    · split at h
      · simp only [Option.map_eq_some_iff] at h
        obtain ⟨r, h, e⟩ := h
        cases e
        exact Goes.val (.here hrel (eqBin_sound hrel hx hy h x y).1 (.bool _))
      · simp only [Option.map_eq_some_iff] at h
        obtain ⟨r, h, e⟩ := h
        cases e
        exact Goes.val (.here hrel (eqBin_sound hrel hx hy h x y).2 (.bool _))
      · cases h
  case convert src dst x =>
    simp only [Option.map_eq_some_iff] at h
    obtain ⟨⟨v, H2⟩, h, e⟩ := h
    cases e
    exact (convD_sound hrel (ha.eval (hops x (by simp))) h).val
  case lookup t m k ok =>
    simp only [Option.map_eq_some_iff] at h
    obtain ⟨v, h, e⟩ := h
    cases e
    exact (lookup_sound hP hrel (ha.eval (hops m (by simp))) (ha.eval (hops k (by simp))) h).val
  case mapUpdate t m k v =>
    simp only [Option.map_eq_some_iff] at h
    obtain ⟨H2, h, e⟩ := h
    cases e
    exact (mapUpdate_sound hrel (ha.eval (hops m (by simp))) (ha.eval (hops k (by simp))) (ha.eval (hops v (by simp))) h).unit
  case insert t m k v =>
    simp only [Option.map_eq_some_iff] at h
    obtain ⟨H2, h, e⟩ := h
    cases e
    exact (mapUpdate_sound hrel (ha.eval (hops m (by simp))) (ha.eval (hops k (by simp))) (ha.eval (hops v (by simp))) h).unit
  case nilCheck x =>
    have hx := ha.eval (hops x (by simp))
    split at h
    · rename_i p hp
      cases h
      rw [hp] at hx
      obtain ⟨i, o, r, rfl, hr, hx'⟩ := hx.pointer_some
      refine ⟨ι, .value (a'.eval x), w, ?_, .refl hrel, ?_⟩
      · simp only [execOp, hx', Sem.run_pure]
      · rw [hx']; exact .value _ _ (.ptr i o r hr)
    · rename_i f fs cs hp
      cases h
      rw [hp] at hx
      refine ⟨ι, .value (a'.eval x), w, ?_, .refl hrel, .value _ _ hx⟩
      generalize hxe : a'.eval x = x' at hx
      cases hx with
      | func fn fn' fs fs' cs cs' h _ _ _ _ =>
        cases h
        simp only [execOp, hxe, Sem.run_pure]
    · cases h
  case call c => exact callOpD_sound hP hrel ha hops h
  all_goals
    have hok := (of_if h).1
    replace h := (of_if h).2
    first | (exfalso; cases hok; done) | skip
  case move x =>
    exact (Sim.pure fun ι1 hle => NRel.value _ _ ((ha.eval (hops x (by simp))).mono hle)).goes hrel h
  case assign x =>
    exact (Sim.pure fun ι1 hle => NRel.value _ _ ((ha.eval (hops x (by simp))).mono hle)).goes hrel h
  case pick c x y =>
    refine Sim.goes (s' := execOp a'.eval ⟨dst, .pick c x y, ty, pos, guard, after⟩) ?_ hrel h
    simp only [execOp]
    refine (VRel.bool' (ha.eval (hops c (by simp)))).bind fun ι1 b b' hle hb => ?_
    subst hb
    refine .pure fun ι2 hle2 => .value _ _ ?_
    split
    · exact (ha.eval (hops x (by simp))).mono (Emb.le_trans hle hle2)
    · exact (ha.eval (hops y (by simp))).mono (Emb.le_trans hle hle2)
  case alloc e => exact (Sim.alloc hP e).val.goes hrel h
  case box e x => exact (Sim.box e (ha.eval (hops x (by simp)))).val.goes hrel h
  case build t ps => exact (Sim.build hP t (parts_rel ha (parts := ps) fun x hx => hops x (by simpa using hx))).val.goes hrel h
  case buildSlice t n ps => exact (Sim.buildSlice hP t n (parts_rel ha (parts := ps) fun x hx => hops x (by simpa using hx))).val.goes hrel h
  case load t x => exact (Sim.loadAt t (ha.eval (hops x (by simp)))).val.goes hrel h
  case store t x y => exact (Sim.storeAt t (ha.eval (hops x (by simp))) (ha.eval (hops y (by simp)))).unit.goes hrel h
  case unOp op t x => exact (Sim.unary op (ha.eval (hops x (by simp)))).val.goes hrel h
  case makeSlice t x y => exact (Sim.makeSlice hP t (ha.eval (hops x (by simp))) (ha.eval (hops y (by simp)))).val.goes hrel h
  case field t x f => exact (Sim.field t f (ha.eval (hops x (by simp)))).val.goes hrel h
  case indexAddr t x y => exact (Sim.indexAt t (ha.eval (hops x (by simp))) (ha.eval (hops y (by simp)))).val.goes hrel h
  case index t x y => exact (Sim.index t (ha.eval (hops x (by simp))) (ha.eval (hops y (by simp)))).val.goes hrel h
  case extract x n => exact (Sim.extract (ha.eval (hops x (by simp))) n).val.goes hrel h
  case fieldAddr t x f =>
    exact (Sim.fieldAt hok (ha.eval (hops x (by simp)))).val.goes hrel h
  case makeFunc f fs cs =>
    cases f with
    | func f =>
      refine Sim.goes (s' := execOp a'.eval ⟨dst, .makeFunc (.func f) fs cs, ty, pos, guard, after⟩) ?_ hrel h
      simp only [execOp]
      have h1 := args_rel ha fs fun y hy => hops y (by simp [hy])
      have h2 := args_rel ha cs fun y hy => hops y (by simp [hy])
      refine Sim.val (.pure fun ι1 hle => ?_)
      have h1 := h1.mono hle
      have h2 := h2.mono hle
      exact .func _ _ _ _ _ _ (.func f) h1.1 h2.1 h1.2 h2.2
    | _ => cases hok
  case makeMap t r =>
    cases r with
    | none => exact (Sim.makeMap t).val.goes hrel h
    | some r => cases hok
end Go.Proofs.YtmmmdmandocbhaaDoor.Den
end

section
/- Loops over functions, results: side by side. -/
set_option linter.unusedVariables false
set_option linter.unusedSimpArgs false
namespace Go.Proofs.YtmmmdmandocbhaaDoor.Den
variable {P : Program} {ι : Emb}

def RoRel (ι : Emb) : Option Nat → Option Nat → Prop
  | none, none => True
  | some l, some l' => ∃ r, ι l = some r ∧ l' = r.b
  | _, _ => False
theorem RoRel.mono {ι ι' : Emb} (hl : ι.le ι') : ∀ {ro ro' : Option Nat}, RoRel ι ro ro' → RoRel ι' ro ro'
  | none, none, _ => trivial
  | some _, some _, ⟨r, h, e⟩ => ⟨r, hl _ _ h, e⟩
  | none, some _, h => h.elim
  | some _, none, h => h.elim

theorem Rel.loop {H w : World} (h : Rel P ι H w) {i : Nat} {r : Loc} (hr : ι i = some r) {l : Loop} (hb : H.heap[i]? = some (.loop l)) : ∃ l', w.heap[r.b]? = some (.loop l') ∧ LRel ι l l' := by
  obtain ⟨r', o', hr', hw, ho⟩ := h.obj i _ hb rfl
  rw [hr] at hr'; injection hr' with hr'; subst hr'
  cases ho with
  | loop _ l' hl => exact ⟨l', hw, hl⟩
theorem Rel.deferred {H w : World} (h : Rel P ι H w) {i : Nat} {r : Loc} (hr : ι i = some r) {l : Option (List Deferred)} (hb : H.heap[i]? = some (.deferred l)) : w.heap[r.b]? = some (.deferred l) := by
  obtain ⟨r', o', hr', hw, ho⟩ := h.obj i _ hb rfl
  rw [hr] at hr'; injection hr' with hr'; subst hr'
  cases ho with
  | deferred _ hl => exact hw
theorem loop_ne {l : Loop} : ∀ cs e f, (Obj.loop l) ≠ .cells cs e f := fun _ _ _ h => by cases h
theorem deferred_ne {l : Option (List Deferred)} : ∀ cs e f, (Obj.deferred l) ≠ .cells cs e f := fun _ _ _ h => by cases h
theorem run_getLoop {w : World} {l : Nat} {r : Loop} (h : w.heap[l]? = some (.loop r)) : (Instr.getLoop l).run P w = .ok r w := by
  simp only [Instr.getLoop, Sem.run_bind, run_getObj' h loop_ne, Result.andThen_ok, Sem.run_pure]
theorem Rel.setLoop {H w : World} (h : Rel P ι H w) {i : Nat} {r : Loc} (hr : ι i = some r) {l l1 l1' : Loop} (hb : H.heap[i]? = some (.loop l)) (hl : LRel ι l1 l1') :
    Step P ι H w ι (setD H i (.loop l1)) { w with heap := w.heap.setIfInBounds r.b (.loop l1') } := h.setObj hr hb rfl rfl rfl (.loop _ _ hl)

theorem begin_sound {H w H1 : World} (hrel : Rel P ι H w) {l : Nat} {r : Loc} (hr : ι l = some r) (h : beginD l H = some H1) : ∃ w1, (Instr.beginRound r.b).run P w = .ok () w1 ∧ Step P ι H w ι H1 w1 := by
  unfold beginD at h
  split at h
  case h_2 => cases h
  rename_i x hx
  split at h
  case h_2 => cases h
  rename_i hst
  cases h
  obtain ⟨x', hw, hl⟩ := hrel.loop hr hx
  refine ⟨{ w with heap := w.heap.setIfInBounds r.b (.loop { x' with state := .busy }) }, ?_, hrel.setLoop hr hx ⟨rfl, hl.pending, hl.tmps, hl.params, hl.assign, hl.body, hl.defers⟩⟩
  simp only [Instr.beginRound, Sem.run_bind, run_getLoop hw, Result.andThen_ok, run_setObj' hw loop_ne, ← hl.state, hst, Sem.run_pure]
theorem endRound_sound {H w H1 : World} (hrel : Rel P ι H w) {l : Nat} {r : Loc} (hr : ι l = some r) {j : Option Code} {v : Value} (h : endRoundD l j H = some (v, H1)) :
    ∃ w1, (Instr.endRound r.b j).run P w = .ok v w1 ∧ Step P ι H w ι H1 w1 ∧ VRel ι v v := by
  unfold endRoundD at h
  split at h
  case h_2 => cases h
  rename_i x hx
  cases h
  obtain ⟨x', hw, hl⟩ := hrel.loop hr hx
  refine ⟨{ w with heap := w.heap.setIfInBounds r.b (.loop { x' with state := if j.isNone then .ready else .done, pending := j }) }, ?_, hrel.setLoop hr hx ⟨rfl, rfl, hl.tmps, hl.params, hl.assign, hl.body, hl.defers⟩, .bool _⟩
  simp only [Instr.endRound, Sem.run_bind, run_getLoop hw, Result.andThen_ok, run_setObj' hw loop_ne, Sem.run_pure]
theorem endLoop_sound {H w H1 : World} (hrel : Rel P ι H w) {l : Nat} {r : Loc} (hr : ι l = some r) {j : Option Code} (h : endLoopD l H = some (j, H1)) :
    ∃ w1, (Instr.endLoop r.b).run P w = .ok j w1 ∧ Step P ι H w ι H1 w1 := by
  unfold endLoopD at h
  split at h
  case h_2 => cases h
  rename_i x hx
  split at h
  · cases h
  rename_i hst
  cases h
  obtain ⟨x', hw, hl⟩ := hrel.loop hr hx
  refine ⟨{ w with heap := w.heap.setIfInBounds r.b (.loop { x' with state := .exhausted }) }, ?_, hrel.setLoop hr hx ⟨rfl, hl.pending, hl.tmps, hl.params, hl.assign, hl.body, hl.defers⟩⟩
  have hst' : ¬ (x'.state == .busy) = true := by rw [← hl.state]; exact hst
  simp only [Instr.endLoop, Sem.run_bind, run_getLoop hw, Result.andThen_ok, hst', Bool.false_eq_true, if_false, run_setObj' hw loop_ne, Sem.run_pure, hl.pending]
theorem take_sound {H w : World} (hrel : Rel P ι H w) {b : Nat} {r : Loc} (hr : ι b = some r) (h : H.heap[b]? = some (.deferred (some []))) :
    ∃ w1, (Instr.takeDeferred r.b).run P w = .ok [] w1 ∧ Step P ι H w ι (setD H b (.deferred none)) w1 := by
  have hw := hrel.deferred hr h
  refine ⟨{ w with heap := w.heap.setIfInBounds r.b (.deferred none) }, ?_, hrel.setObj hr h rfl rfl rfl (.deferred _ (.inl rfl))⟩
  simp only [Instr.takeDeferred, Sem.run_bind, run_getObj' hw deferred_ne, Result.andThen_ok, run_setObj' hw deferred_ne, Sem.run_pure]

def blockLoc (b : Nat) : Loc := { b := b, base := 0, len := 0, room := 0, es := 0, grown := false }
theorem enter_sound {H w H1 : World} (hrel : Rel P ι H w) {ro ro' : Option Nat} (hro : RoRel ι ro ro') {tmps tmps' : Array Value} (ht : ARel ι tmps tmps') {ps : Array Tmp} {assign body : Code} {l : Nat} {mark : List Deferred}
    (h : enterD ro tmps ps assign body H = some (l, mark, H1)) (fn : FuncId) :
    ∃ ι1 l' r mark' w1, (Instr.enterLoop fn tmps' ps assign body ro').run P w = .ok (l', mark') w1 ∧ Step P ι H w ι1 H1 w1 ∧ ι1 l = some r ∧ l' = r.b ∧ DsRel ι1 mark mark' := by
  unfold enterD at h
  split at h
  · rename_i l0
    split at h
    case h_2 => cases h
    rename_i x hx
    cases h
    cases ro' with
    | none => exact hro.elim
    | some l0' =>
      obtain ⟨r0, hr0, rfl⟩ := hro
      obtain ⟨x', hw, hl⟩ := hrel.loop hr0 hx
      obtain ⟨rd, hrd, hd⟩ := hl.defers
      have hle := Emb.le_put (r := blockLoc w.heap.size) hrel.fresh
      refine ⟨_, w.heap.size, blockLoc w.heap.size, [], _, ?_, hrel.new (r := blockLoc w.heap.size) (o := .loop (newLoop tmps ps assign body x.defers)) (o' := .loop { newLoop tmps' ps assign body x'.defers with fn := fn }) rfl rfl ?_, Emb.put_same _ _ _, rfl, .nil⟩
      · simp only [Instr.enterLoop, Sem.run_bind, run_getLoop hw, Result.andThen_ok, Sem.run_pure, run_newObj, newLoop]
      · exact .loop _ _ ⟨rfl, rfl, ht.mono hle, rfl, rfl, rfl, rd, hle _ _ hrd, hd⟩
  · cases h
    cases ro' with
    | some _ => exact hro.elim
    | none =>
      have h1 := hrel.new (r := blockLoc w.heap.size) (o := .deferred (some [])) (o' := .deferred (some [])) rfl rfl (.deferred _ (.inr rfl))
      have hle2 := Emb.le_put (r := blockLoc (w.heap.size + 1)) h1.rel.fresh
      have hd0 : (ι.put H.heap.size (blockLoc w.heap.size)) H.heap.size = some (blockLoc w.heap.size) := Emb.put_same _ _ _
      have h2 := h1.rel.new (r := blockLoc (w.heap.size + 1)) (o := .loop (newLoop tmps ps assign body H.heap.size)) (o' := .loop { newLoop tmps' ps assign body w.heap.size with fn := fn }) rfl (by simp [blockLoc])
        (.loop _ _ ⟨rfl, rfl, (ht.mono h1.le).mono hle2, rfl, rfl, rfl, blockLoc w.heap.size, hle2 _ _ hd0, rfl⟩)
      refine ⟨_, w.heap.size + 1, blockLoc (w.heap.size + 1), [{ target := .collected w.heap.size, args := #[] }], _, ?_, h1.trans h2, ?_, rfl, .cons _ _ _ _ ⟨H.heap.size, blockLoc w.heap.size, rfl, hle2 _ _ hd0, rfl⟩ .nil⟩
      · simp only [Instr.enterLoop, Sem.run_bind, Result.andThen_ok, Sem.run_pure, run_newObj, newLoop, Array.size_push]
      · have : (H.heap.push (Obj.deferred (some []))).size = H.heap.size + 1 := by simp
        rw [← this]; exact Emb.put_same _ _ _

/-! ### results -/
def RO (P : Program) {α : Type} (s : Sem α) : Prop := ∀ (w : World) (x : α) (w1 : World), s.run P w = .ok x w1 → w1 = w
theorem RO.pure {α : Type} (x : α) : RO P (Pure.pure x : Sem α) := fun w y w1 h => by
  simp only [Sem.run_pure, Result.ok.injEq] at h; exact h.2.symm
theorem RO.bind {α β : Type} {s : Sem α} {k : α → Sem β} (h : RO P s) (hk : ∀ x, RO P (k x)) : RO P (s >>= k) := fun w y w1 hy => by
  simp only [Sem.run_bind] at hy
  cases hs : s.run P w with
  | halt e w2 => rw [hs] at hy; cases hy
  | ok x w2 =>
    rw [hs] at hy
    rw [hk x _ _ _ hy, h _ _ _ hs]
theorem HF.ro {α : Type} {s : Sem α} (h : HF P s) : RO P s := fun w x w1 hx => (h w x w1 hx).1
theorem RO.load (a : Addr) : RO P (Go.load a) := fun w x w1 h => by
  simp only [run_load] at h
  split at h
  · cases h; rfl
  · split at h
    · cases h; rfl
    · cases h
theorem RO.loadCellsFrom (a : Addr) : ∀ (n k : Nat) (acc : Array Value), RO P (Go.loadCellsFrom a k n acc)
  | 0, k, acc => by unfold Go.loadCellsFrom; exact .pure _
  | n + 1, k, acc => by
    unfold Go.loadCellsFrom
    exact (RO.load _).bind fun v => RO.loadCellsFrom a n (k + 1) _
theorem RO.loadVar (t : TypeId) (a : Addr) : RO P (Go.loadVar t a) := by
  unfold Go.loadVar
  refine (HF.isAgg t).ro.bind fun b => ?_
  split
  · exact (HF.sizeOf t).ro.bind fun n => (RO.loadCellsFrom a n 0 _).bind fun cs => .pure _
  · exact RO.load a
theorem RO.listMapM {α β : Type} {f : α → Sem β} (h : ∀ x, RO P (f x)) : ∀ xs : List α, RO P (xs.mapM f)
  | [] => by rw [List.mapM_nil]; exact .pure _
  | x :: xs => by
    rw [List.mapM_cons]
    exact (h x).bind fun y => (RO.listMapM h xs).bind fun ys => .pure _
theorem RO.map {α β : Type} {s : Sem α} (f : α → β) (h : RO P s) : RO P (f <$> s) := by
  intro w y w1 hy
  simp only [Sem.run_map] at hy
  cases hs : s.run P w with
  | halt e H1 => rw [hs] at hy; cases hy
  | ok x H2 =>
    rw [hs] at hy
    simp only [Result.andThen_ok, Result.ok.injEq] at hy
    rw [← hy.2, h _ _ _ hs]
theorem RO.mapM {α β : Type} {f : α → Sem β} (h : ∀ x, RO P (f x)) (xs : Array α) : RO P (xs.mapM f) := by
  rw [Array.mapM_eq_mapM_toList]
  exact RO.map _ (RO.listMapM h _)
theorem noRun_ro {α : Type} {s : Sem α} (h : ∀ (H : World) x H1, s.run P H ≠ .ok x H1) : RO P s := fun w x w1 hx => absurd hx (h w x w1)
theorem VRel.asAddr {v v' : Value} (h : VRel ι v v') : Sim P ι (asAddr v) (asAddr v') (fun ι1 a a' => ∃ i o r, a = ⟨i, o, none⟩ ∧ ι1 i = some r ∧ a' = ⟨r.b, r.base + o, none⟩) := by
  cases h with
  | ptr i o r h => exact .pure fun ι1 hle => ⟨i, o, r, rfl, hle _ _ h, rfl⟩
  | ptrNil => unfold Go.asAddr; exact Sim.runtimePanic
  | _ => exact .halt
theorem results_sound {H w H1 : World} (hrel : Rel P ι H w) (fn : Func) {tmps tmps' : Array Value} (ht : ARel ι tmps tmps') {v : Value} (h : okRun ((results fn tmps).run P H) = some (v, H1)) :
    ∃ ι1 v', (results fn tmps').run P w = .ok v' w ∧ Step P ι H w ι1 H1 w ∧ VRel ι1 v v' := by
  have hs : Sim P ι (results fn tmps) (results fn tmps') VRel := by
    unfold results
    refine Sim.bind (R := ARel) (Sim.mapM _ fun x _ ι1 hle => ?_) fun ι1 vs vs' hle hvs => ?_
    · cases x with
      | tmp t => exact .pure fun ι2 hle2 => (ht.mono (Emb.le_trans hle hle2)).getD t .undef
      | cell a t =>
        refine (VRel.asAddr ((ht.mono hle).getD a .undef)).bind fun ι2 p p' hle2 hp => ?_
        obtain ⟨i, o, r, rfl, hr, rfl⟩ := hp
        exact Sim.loadVar hr t
    · refine .pure fun ι2 hle2 => ?_
      have hvs := hvs.mono hle2
      have hsz := hvs.1
      by_cases h1 : vs.size = 1
      · have h1' : vs'.size = 1 := hsz ▸ h1
        simp only [h1, h1', dite_true]
        exact hvs.2 0 _ _ (Array.getElem?_eq_getElem (by omega)) (Array.getElem?_eq_getElem (by omega))
      · have h1' : ¬ vs'.size = 1 := hsz ▸ h1
        simp only [h1, h1', dite_false]
        exact .tuple _ _ hvs.1 hvs.2
  have hro : RO P (results fn tmps') := by
    unfold results
    refine (RO.mapM (fun x => ?_) _).bind fun vs => .pure _
    cases x with
    | tmp t => exact .pure _
    | cell a t =>
      refine RO.bind ?_ fun p => RO.loadVar t p
      cases tmps'.getD a undef with
      | pointer p => cases p with
        | none => exact noRun_ro fun H x H1 => (by unfold Go.asAddr; exact noRun_runtimePanic _ H x H1)
        | some p => exact .pure _
      | _ => exact (HF.stuck _).ro
  obtain ⟨ι1, v', w1, hr, hst, hv⟩ := hs.goes hrel h
  have := hro _ _ _ hr
  subst this
  exact ⟨ι1, v', hr, hst, hv⟩
end Go.Proofs.YtmmmdmandocbhaaDoor.Den
end

section
/- Code, calls, rounds: the logical evaluator's answer is the machine's. -/
set_option linter.unusedVariables false
set_option linter.unusedSimpArgs false
namespace Go.Proofs.YtmmmdmandocbhaaDoor.Den
variable {P : Program}

def Fen : Option Nat → Fence
  | none => Fence.wide
  | some l => Fence.wide.inRound l
theorem Fen_fn (ro : Option Nat) (f : FuncId) : (Fen ro).fn f := by cases ro <;> exact trivial
theorem Fen_depth (ro : Option Nat) (n : Nat) : (Fen ro).depth.isSome = true → 1 ≤ n := by cases ro <;> (intro h; cases h)
theorem Fen_round (ro : Option Nat) : (Fen ro).round = ro := by cases ro <;> rfl
theorem Fen_in (ro : Option Nat) (l : Nat) : (Fen ro).inRound l = Fen (some l) := by cases ro <;> rfl

/-- What a piece of code comes to. -/
def Then (P : Program) (ι : Emb) (H w : World) (a1 : Act) (H1 : World) (K : Act → World → Prop) : Prop :=
  ∀ ι1 a1' w1, Step P ι H w ι1 H1 w1 → ActRel ι1 a1 a1' → K a1' w1
def ThenV (P : Program) (ι : Emb) (H w : World) (v : Value) (H1 : World) (R : Ending → World → Prop) : Prop :=
  ∀ ι1 v' w1, Step P ι H w ι1 H1 w1 → VRel ι1 v v' → R (.returned v') w1
theorem Then.step {ι ι1 : Emb} {H w H1 w1 : World} {a2 : Act} {H2 : World} {K : Act → World → Prop} (h : Then P ι H w a2 H2 K) (hs : Step P ι H w ι1 H1 w1) : Then P ι1 H1 w1 a2 H2 K :=
  fun ι2 a' w2 h2 ha => h ι2 a' w2 (hs.trans h2) ha

def CodeS (P : Program) (ro : Option Nat) (c : Code) (a : Act) (H : World) (e : Exit) (a1 : Act) (H1 : World) : Prop :=
  ∀ (ι : Emb) (w : World) (a' : Act) (ro' : Option Nat) (n : Nat) (Q : Exit → Act → World → Prop), Rel P ι H w → ActRel ι a a' → RoRel ι ro ro' → Then P ι H w a1 H1 (Q e) → c.wpIn (Fen ro') n P Q a' w
/-- A loop, met at its next round. -/
def LoopIn (F : Fence) (n : Nat) (P : Program) (c : Code) (Q : Exit → Act → World → Prop) (a : Act) (w : World) : Prop :=
  ∀ (b : Frame) (k : List Item) (cs : List Frame), b.roundOf = F.round → F.fn b.fn → F.room (cs.length + 1 + n) →
    ∃ e a' w', Q e a' w' ∧ ArrivesIn (Machine.fenced P F) P (lone (b.atR a (.code c :: .inLoop c :: k)) cs w) b k cs e a' w'
theorem LoopIn.loop {F : Fence} {n : Nat} {c : Code} {Q : Exit → Act → World → Prop} {a : Act} {w : World} (h : LoopIn F n P c Q a w) : (Code.loop c).wpIn F n P Q a w := by
  intro b k cs hro hb hr
  obtain ⟨e, a', w', hq, harr⟩ := h b k cs hro hb hr
  exact ⟨e, a', w', hq, .of_steps (.one (fenced_calm hb hr rfl) stepR_loop) harr⟩
theorem LoopIn.round {F : Fence} {n : Nat} {c : Code} {Q : Exit → Act → World → Prop} {a : Act} {w : World} (h : c.wpIn F n P (Exit.then (LoopIn F n P c Q) Q) a w) : LoopIn F n P c Q a w := by
  intro b k cs hro hb hr
  obtain ⟨e, a₁, w₁, hq, harr⟩ := h b (.inLoop c :: k) cs hro hb hr
  cases e with
  | normal =>
    obtain ⟨e₂, a₂, w₂, hq₂, harr₂⟩ := hq b k cs hro hb hr
    exact ⟨e₂, a₂, w₂, hq₂, .of_steps (StepsIn.trans harr (.one (fenced_calm hb hr rfl) stepR_inLoop)) harr₂⟩
  | exit id => exact ⟨_, a₁, w₁, hq, .pass (x := .inLoop c) rfl (fun _ _ => .inl (by simp)) harr⟩
  | goto l => exact ⟨_, a₁, w₁, hq, .pass (x := .inLoop c) rfl (fun _ _ => .inl (by simp)) harr⟩
  | ret => exact ⟨_, a₁, w₁, hq, .pass (x := .inLoop c) rfl (fun _ _ => .inl (by simp)) harr⟩
  | panic ch => exact ⟨_, a₁, w₁, hq, .pass (x := .inLoop c) rfl (fun _ _ => .inl (by simp)) harr⟩
  | outgrown => exact ⟨_, a₁, w₁, hq, .pass (x := .inLoop c) rfl (fun _ _ => .inl (by simp)) harr⟩
def LoopS (P : Program) (ro : Option Nat) (c : Code) (a : Act) (H : World) (e : Exit) (a1 : Act) (H1 : World) : Prop :=
  ∀ (ι : Emb) (w : World) (a' : Act) (ro' : Option Nat) (n : Nat) (Q : Exit → Act → World → Prop), Rel P ι H w → ActRel ι a a' → RoRel ι ro ro' → Then P ι H w a1 H1 (Q e) → LoopIn (Fen ro') n P c Q a' w
def FnS (P : Program) (f : FuncId) (args : Array Value) (H : World) (v : Value) (H1 : World) : Prop :=
  ∀ (ι : Emb) (w : World) (args' : Array Value) (ro' : Option Nat) (n : Nat) (R : Ending → World → Prop), Rel P ι H w → ARel ι args args' → ThenV P ι H w v H1 R → CallsIn (Fen ro') n P f args' w R
def RoundS (P : Program) (l : Nat) (tmps : Array Value) (assign body : Code) (H : World) (v : Value) (H1 : World) : Prop :=
  ∀ (ι : Emb) (w : World) (r : Loc) (f' : FuncId) (tmps' : Array Value) (ro' : Option Nat) (n : Nat) (R : Ending → World → Prop), Rel P ι H w → ι l = some r → ARel ι tmps tmps' → ThenV P ι H w v H1 R →
    RoundIn (Fen ro') n P r.b f' tmps' assign body w R
structure Snd (P : Program) (E : Evs) : Prop where
  code : ∀ ro c a H e a1 H1, E.code ro (.loop c) a H = some (e, a1, H1) → LoopS P ro c a H e a1 H1
  fn : ∀ f args H v H1, E.fn f args H = some (v, H1) → FnS P f args H v H1
  round : ∀ l tmps assign body H v H1, E.round l tmps assign body H = some (v, H1) → RoundS P l tmps assign body H v H1

def OpsS (P : Program) (ops : Array Oper) (l : List Nat) (a : Act) (H : World) (a1 : Act) (H1 : World) : Prop :=
  ∀ (ι : Emb) (w : World) (a' : Act) (ro' : Option Nat) (n : Nat) (Q : Exit → Act → World → Prop), Rel P ι H w → ActRel ι a a' → Then P ι H w a1 H1 (Q .normal) → wpOpsIn (Fen ro') n P ops Q l a' w

theorem yielded_rel {ι : Emb} {ops : Array Oper} {t t' : Array Value} (h : ARel ι t t') : yielded ops t = yielded ops t' := by
  funext j
  unfold yielded
  cases hd : (ops[j]?).bind (·.dst) with
  | none => rfl
  | some d =>
    simp only [Option.bind_some]
    cases ht : t[d]? with
    | none =>
      have : t'[d]? = none := by
        rw [Array.getElem?_eq_none_iff] at ht ⊢
        have := h.1; omega
      rw [this]
    | some v =>
      obtain ⟨v', hv', hvr⟩ := h.get ht
      rw [hv']
      cases hvr <;> rfl

theorem opD_sound (hP : Good P) {E : Evs} (hE : Snd P E) {o : Oper} {a a1 : Act} {H H1 : World} (h : opD P E o a H = some (a1, H1)) {ι : Emb} {w : World} {a' : Act} {ro' : Option Nat} {n : Nat} {next : Act → World → Prop} {Q : Exit → Act → World → Prop}
    (hrel : Rel P ι H w) (ha : ActRel ι a a') (hn : Then P ι H w a1 H1 next) : o.wpIn (Fen ro') n P a' w next Q := by
  refine ⟨fun f _ => Fen_fn _ f, ?_⟩
  unfold opD at h
  cases hs : semD P o a H with
  | none => rw [hs] at h; cases h
  | some p =>
    obtain ⟨nx, H2⟩ := p
    rw [hs] at h
    obtain ⟨⟨ι1, x', w1, hrun, hst, hnx⟩, hd⟩ := semD_sound hP hrel ha hs
    rw [Oper.semAt_eq _ _ _ hd, hrun]
    cases hnx with
    | value v v' hv =>
      cases h
      exact hn ι1 _ _ hst ((ha.mono hst.le).put _ hv)
    | skip =>
      cases h
      exact hn ι1 _ _ hst ((ha.mono hst.le).put _ .undef)
    | enter f args args' hargs =>
      simp only [Option.map_eq_some_iff] at h
      obtain ⟨⟨v, H3⟩, h, e⟩ := h
      cases e
      rw [Oper.uponIn_enter]
      refine ⟨Fen_depth _ _, hE.fn _ _ _ _ _ h ι1 w1 args' ro' _ _ hst.rel hargs fun ι2 v' w2 hs2 hv => ?_⟩
      exact hn ι2 _ _ (hst.trans hs2) ((ha.mono (Emb.le_trans hst.le hs2.le)).put _ hv)
    | round l r f f' tmps tmps' as b hl ht =>
      simp only [Option.map_eq_some_iff] at h
      obtain ⟨⟨v, H3⟩, h, e⟩ := h
      cases e
      rw [Oper.uponIn_round]
      refine ⟨Fen_depth _ _, hE.round _ _ _ _ _ _ _ h ι1 w1 r f' tmps' ro' _ _ hst.rel hl ht fun ι2 v' w2 hs2 hv => ?_⟩
      exact hn ι2 _ _ (hst.trans hs2) ((ha.mono (Emb.le_trans hst.le hs2.le)).put _ hv)

theorem opsD_sound (hP : Good P) {E : Evs} (hE : Snd P E) {ops : Array Oper} : ∀ (l : List Nat) (a : Act) (H : World) (a1 : Act) (H1 : World), opsD P E ops l a H = some (a1, H1) → OpsS P ops l a H a1 H1
  | [], a, H, a1, H1, h => by
    intro ι w a' ro' n Q hrel ha hQ
    simp only [opsD, Option.some.injEq, Prod.mk.injEq] at h
    obtain ⟨rfl, rfl⟩ := h
    exact hQ ι a' w (.refl hrel) ha
  | i :: rest, a, H, a1, H1, h => by
    intro ι w a' ro' n Q hrel ha hQ
    unfold opsD at h
    unfold wpOpsIn
    cases ho : ops[i]? with
    | none => rw [ho] at h; cases h
    | some o =>
      simp only [ho] at h ⊢
      rw [← yielded_rel ha.tmps]
      by_cases hw : Region.wanted o (yielded ops a.tmps) = true
      · rw [if_pos hw] at h ⊢
        cases hop : opD P E o a H with
        | none => rw [hop] at h; cases h
        | some p =>
          obtain ⟨a2, H2⟩ := p
          rw [hop] at h
          refine opD_sound hP hE hop hrel ha fun ι1 a2' w1 hs1 ha2 => ?_
          exact opsD_sound hP hE rest a2 H2 a1 H1 h ι1 w1 a2' ro' n Q hs1.rel ha2 (hQ.step hs1)
      · rw [if_neg hw] at h ⊢
        refine ⟨fun f _ => Fen_fn _ f, ?_⟩
        exact opsD_sound hP hE rest _ H a1 H1 h ι w _ ro' n Q hrel (ha.put _ .undef) hQ

/-- What a rule for regions that draw must do. -/
def DrawOk (P : Program) (dr : DrawD) : Prop := ∀ (E : Evs), Snd P E → ∀ (ops : Array Oper) (a : Act) (H : World) (a1 : Act) (H1 : World), dr P E ops a H = some (a1, H1) →
  ∀ (t : Nat) (ι : Emb) (w : World) (a' : Act) (ro' : Option Nat) (n : Nat) (Q : Exit → Act → World → Prop), Rel P ι H w → ActRel ι a a' → Then P ι H w a1 H1 (Q .normal) →
    wpOpsIn (Fen ro') n P ops Q (Region.schedule (P.follows .mixedOrders) ops t) a' w

theorem then_of {Q : Exit → Act → World → Prop} {K : Act → World → Prop} {e : Exit} (he : e ≠ .normal) {a : Act} {w : World} (h : Q e a w) : Exit.then K Q e a w := by
  cases e <;> first | exact absurd rfl he | exact h

theorem DsRel.append {ι : Emb} {a a' b b' : List Deferred} (h : DsRel ι a a') (hd : DsRel ι b b') : DsRel ι (a ++ b) (a' ++ b') := by
  induction h with
  | nil => exact hd
  | cons d d' ds ds' h hs ih => exact .cons _ _ _ _ h ih
theorem ActRel.evalBool {ι : Emb} {a a' : Act} (h : ActRel ι a a') {c : Operand} {t : Bool} (hc : a.eval c = .bool t) : a'.eval c = .bool t := by
  cases c with
  | tmp x =>
    have := h.eval (x := .tmp x) rfl
    rw [hc] at this
    generalize a'.eval (.tmp x) = v at this
    cases this; rfl
  | const v => exact hc
  | global g => cases hc
  | func f => cases hc
theorem rangeD_sound (hP : Good P) {E : Evs} (hE : Snd P E) {ro : Option Nat} {g : Operand} {ps : Array Tmp} {assign body : Code} {a : Act} {H : World} {e : Exit} {a1 : Act} {H1 : World}
    (h : rangeD P E ro g ps assign body a H = some (e, a1, H1)) : CodeS P ro (.rangeFunc g ps assign body) a H e a1 H1 := by
  intro ι w a' ro' n Q hrel ha hro hQ
  unfold rangeD at h
  split at h
  · cases h
  rename_i hg
  have hg : operandOk g = true := by simpa using hg
  split at h
  case h_2 => cases h
  rename_i l mark H2 hen
  split at h
  case h_2 => cases h
  rename_i f args hca
  split at h
  case h_2 => cases h
  rename_i v H4 hfn
  split at h
  case h_2 => cases h
  rename_i jump H5 hend
  simp only [Option.map_eq_some_iff] at h
  obtain ⟨e', hj, h⟩ := h
  cases h
  refine wpIn_rangeFunc fun fn hF => ?_
  obtain ⟨ι1, l', r, mark', w1, hrun, hst, hl, rfl, hmark⟩ := enter_sound hrel hro ha.tmps hen fn
  have hy : VRel ι1 (.func (.yield l) #[] #[]) (.func (.yield r.b) #[] #[]) := .func _ _ _ _ _ _ (.yield l r hl) rfl rfl (fun k v v' h => by simp at h) (fun k v v' h => by simp at h)
  obtain ⟨d, x', h1, h2, h3⟩ := callD_sound hst.rel ((ha.mono hst.le).eval hg) (ARel.single hy) hca
  cases h3 with
  | enter _ _ args' hargs =>
  refine ⟨r.b, mark', w1, d, w1, f, args', w1, by rw [Fen_round]; exact hrun, ?_, fun f' _ => Fen_fn _ f', h2, Fen_depth _ _, ?_⟩
  · have : Array.map a'.eval #[Operand.const (.func (.yield r.b) #[] #[])] = #[.func (.yield r.b) #[] #[]] := by simp [Act.eval]
    simp only [resolve, this]
    exact h1
  · refine hE.fn _ _ _ _ _ hfn ι1 w1 args' ro' _ _ hst.rel hargs fun ι2 v' w2 hs2 hv => ?_
    obtain ⟨w3, hend', hs3⟩ := endLoop_sound hs2.rel (hs2.le _ _ hl) hend
    refine ⟨jump, w3, hend', ?_⟩
    have hact : ActRel ι2 { a with defers := mark ++ a.defers } { a' with defers := mark' ++ a'.defers } := by
      have hle := Emb.le_trans hst.le hs2.le
      refine ⟨ha.tmps.mono hle, ?_⟩
      exact (hmark.mono hs2.le).append (ha.defers.mono hle)
    have hall := (hst.trans hs2).trans hs3
    cases jump with
    | none => cases hj; exact hQ _ _ _ hall hact
    | some c =>
      cases c with
      | ret => cases hj; exact wpIn_ret (hQ _ _ _ hall hact)
      | exit id => cases hj; exact wpIn_exit (hQ _ _ _ hall hact)
      | _ => cases hj

theorem codeD_sound (hP : Good P) {dr : DrawD} (hdr : DrawOk P dr) {E : Evs} (hE : Snd P E) : ∀ (c : Code) (ro : Option Nat) (a : Act) (H : World) (e : Exit) (a1 : Act) (H1 : World),
    codeD dr P E ro c a H = some (e, a1, H1) → CodeS P ro c a H e a1 H1
  | .skip, ro, a, H, e, a1, H1, h => by
    cases h
    exact fun ι w a' ro' n Q hrel ha hro hQ => wpIn_skip (hQ ι a' w (.refl hrel) ha)
  | .label _, ro, a, H, e, a1, H1, h => by
    cases h
    exact fun ι w a' ro' n Q hrel ha hro hQ => wpIn_label (hQ ι a' w (.refl hrel) ha)
  | .ret, ro, a, H, e, a1, H1, h => by
    cases h
    exact fun ι w a' ro' n Q hrel ha hro hQ => wpIn_ret (hQ ι a' w (.refl hrel) ha)
  | .exit id, ro, a, H, e, a1, H1, h => by
    cases h
    exact fun ι w a' ro' n Q hrel ha hro hQ => wpIn_exit (hQ ι a' w (.refl hrel) ha)
  | .seq x y, ro, a, H, e, a1, H1, h => by
    intro ι w a' ro' n Q hrel ha hro hQ
    unfold codeD at h
    cases hx : codeD dr P E ro x a H with
    | none => rw [hx] at h; cases h
    | some p =>
      obtain ⟨e1, a2, H2⟩ := p
      rw [hx] at h
      refine wpIn_seq (codeD_sound hP hdr hE x ro a H e1 a2 H2 hx ι w a' ro' n _ hrel ha hro fun ι1 a2' w1 hs1 ha2 => ?_)
      by_cases he : e1 = .normal
      · subst he
        exact codeD_sound hP hdr hE y ro a2 H2 e a1 H1 h ι1 w1 a2' ro' n Q hs1.rel ha2 (hro.mono hs1.le) (hQ.step hs1)
      · have : e1 = e ∧ a2 = a1 ∧ H2 = H1 := by
          cases e1 <;> first | exact absurd rfl he | (cases h; exact ⟨rfl, rfl, rfl⟩)
        obtain ⟨rfl, rfl, rfl⟩ := this
        exact then_of he (hQ ι1 a2' w1 hs1 ha2)
  | .cond c x y, ro, a, H, e, a1, H1, h => by
    intro ι w a' ro' n Q hrel ha hro hQ
    unfold codeD at h
    split at h
    case h_2 => cases h
    rename_i t hc
    refine wpIn_cond (ha.evalBool hc) ?_
    cases t with
    | true => exact codeD_sound hP hdr hE x ro a H e a1 H1 h ι w a' ro' n Q hrel ha hro hQ
    | false => exact codeD_sound hP hdr hE y ro a H e a1 H1 h ι w a' ro' n Q hrel ha hro hQ
  | .block id c, ro, a, H, e, a1, H1, h => by
    intro ι w a' ro' n Q hrel ha hro hQ
    unfold codeD at h
    cases hx : codeD dr P E ro c a H with
    | none => rw [hx] at h; cases h
    | some p =>
      obtain ⟨e1, a2, H2⟩ := p
      rw [hx] at h
      refine wpIn_block (codeD_sound hP hdr hE c ro a H e1 a2 H2 hx ι w a' ro' n _ hrel ha hro fun ι1 a2' w1 hs1 ha2 => ?_)
      cases e1 with
      | exit id' =>
        simp only [Exit.inBlock]
        simp only at h
        split at h
        · rename_i hid; rw [if_pos hid]; cases h; exact hQ ι1 a2' w1 hs1 ha2
        · rename_i hid; rw [if_neg hid]; cases h; exact hQ ι1 a2' w1 hs1 ha2
      | _ => cases h; exact hQ ι1 a2' w1 hs1 ha2
  | .loop c, ro, a, H, e, a1, H1, h => by
    intro ι w a' ro' n Q hrel ha hro hQ
    unfold codeD at h
    cases hx : codeD dr P E ro c a H with
    | none => rw [hx] at h; cases h
    | some p =>
      obtain ⟨e1, a2, H2⟩ := p
      rw [hx] at h
      refine LoopIn.loop (LoopIn.round (codeD_sound hP hdr hE c ro a H e1 a2 H2 hx ι w a' ro' n _ hrel ha hro fun ι1 a2' w1 hs1 ha2 => ?_))
      by_cases he : e1 = .normal
      · subst he
        exact hE.code ro c a2 H2 e a1 H1 h ι1 w1 a2' ro' n Q hs1.rel ha2 (hro.mono hs1.le) (hQ.step hs1)
      · have : e1 = e ∧ a2 = a1 ∧ H2 = H1 := by
          cases e1 <;> first | exact absurd rfl he | (cases h; exact ⟨rfl, rfl, rfl⟩)
        obtain ⟨rfl, rfl, rfl⟩ := this
        exact then_of he (hQ ι1 a2' w1 hs1 ha2)
  | .region id ops draw, ro, a, H, e, a1, H1, h => by
    intro ι w a' ro' n Q hrel ha hro hQ
    unfold codeD at h
    simp only [Option.map_eq_some_iff] at h
    obtain ⟨⟨a2, H2⟩, h, e'⟩ := h
    cases e'
    cases draw with
    | false => exact wpIn_region (opsD_sound hP hE _ a H _ _ h ι w a' ro' n Q hrel ha hQ)
    | true =>
      refine wpIn_region_draw fun t => ?_
      have hd := Step.drawn hrel (w.drawn + 1)
      exact hdr E hE ops a H _ _ h t ι _ a' ro' n Q hd.rel ha (hQ.step hd)
  | .rangeFunc g ps assign body, ro, a, H, e, a1, H1, h => rangeD_sound hP hE h
  | .goto l, ro, a, H, e, a1, H1, h => by cases h
end Go.Proofs.YtmmmdmandocbhaaDoor.Den
end

section
/- The whole evaluator is sound, at every fuel. -/
set_option linter.unusedVariables false
set_option linter.unusedSimpArgs false
namespace Go.Proofs.YtmmmdmandocbhaaDoor.Den
variable {P : Program}

theorem leave_sound {fn : Func} {n : Nat} {R : Ending → World → Prop} {tmps tmps' : Array Value} {v : Value} {H3 : World} : ∀ (ds ds' : List Deferred) (ι : Emb) (H w H1 : World), Rel P ι H w → ARel ι tmps tmps' → DsRel ι ds ds' → leaveD ds H = some H1 →
    okRun ((results fn tmps).run P H1) = some (v, H3) → ThenV P ι H w v H3 R → LeavesInM Fence.wide n P fn tmps' R ds' .returning w
  | [], ds', ι, H, w, H1, hrel, ht, hds, h, hr, hR => by
    cases hds
    cases h
    obtain ⟨ι1, v', hrun, hst, hv⟩ := results_sound hrel fn ht hr
    exact ⟨v', hrun, hR ι1 v' w hst hv⟩
  | d :: ds, ds', ι, H, w, H1, hrel, ht, hds, h, hr, hR => by
    cases hds with
    | cons _ d' _ ds2 hd hs =>
    obtain ⟨l, r, rfl, hl, rfl⟩ := hd
    unfold leaveD at h
    simp only at h
    split at h
    case h_2 => cases h
    rename_i hb
    obtain ⟨w1, hrun, hst⟩ := take_sound hrel hl hb
    refine ⟨by simp, .inl ⟨r.b, w1, rfl, hrun, ?_⟩⟩
    exact leave_sound ds ds2 ι _ w1 H1 hst.rel ht hs h hr fun ι1 v' w2 h2 hv => hR ι1 v' w2 (hst.trans h2) hv

theorem fnD_sound (hP : Good P) {dr : DrawD} (hdr : DrawOk P dr) {E : Evs} (hE : Snd P E) {f : FuncId} {args : Array Value} {H : World} {v : Value} {H1 : World} (h : fnD dr P E f args H = some (v, H1)) : FnS P f args H v H1 := by
  intro ι w args' ro' n R hrel hargs hR
  unfold fnD at h
  split at h
  case h_2 => cases h
  rename_i fn hf
  split at h
  case h_2 => cases h
  rename_i c hb
  have key : ∀ (e : Exit) (a1 : Act) (H2 : World), (e = .normal ∨ e = .ret) → codeD dr P E none c { tmps := args ++ Array.replicate (fn.ntmps - args.size) undef, defers := [] } H = some (e, a1, H2) →
      (match leaveD a1.defers H2 with | some H3 => okRun ((results fn a1.tmps).run P H3) | none => none) = some (v, H1) → CallsIn Fence.wide n P f args' w R := by
    intro e a1 H2 he hc h
    split at h
    case h_2 => cases h
    rename_i H3 hl
    refine callsIn_of_wp_marks hf hb trivial ?_
    have ha : ActRel ι { tmps := args ++ Array.replicate (fn.ntmps - args.size) undef, defers := [] } { tmps := args' ++ Array.replicate (fn.ntmps - args'.size) undef, defers := [] } := by
      rw [← hargs.1]
      exact ⟨hargs.append (.replicate _ .undef), .nil⟩
    refine codeD_sound hP hdr hE c none _ H e a1 H2 hc ι w _ none n _ hrel ha trivial fun ι1 a1' w1 hs1 ha1 => ?_
    have hlv := leave_sound (R := R) (n := n) (fn := fn) a1.defers a1'.defers ι1 H2 w1 H3 hs1.rel ha1.tmps ha1.defers hl h fun ι2 v' w2 h2 hv => hR ι2 v' w2 (hs1.trans h2) hv
    rcases he with rfl | rfl <;> exact hlv
  have : CallsIn Fence.wide n P f args' w R := by
    split at h
    · rename_i a1 H2 hc; exact key .normal a1 H2 (.inl rfl) hc h
    · rename_i a1 H2 hc; exact key .ret a1 H2 (.inr rfl) hc h
    · cases h
  cases ro' <;> exact this

theorem roundEnd_sound {l : Nat} {r : Loc} {e : Exit} {H w H1 : World} {ι : Emb} {v : Value} (hrel : Rel P ι H w) (hr : ι l = some r) (h : roundEnd l e H = some (v, H1)) {R : Ending → World → Prop} (hR : ThenV P ι H w v H1 R) (a : Act) : roundPost P r.b R e a w := by
  cases e with
  | normal =>
    obtain ⟨w1, hrun, hst, hv⟩ := endRound_sound hrel hr h
    exact ⟨v, w1, hrun, hR ι v w1 hst hv⟩
  | ret =>
    obtain ⟨w1, hrun, hst, hv⟩ := endRound_sound hrel hr h
    exact ⟨v, w1, hrun, hR ι v w1 hst hv⟩
  | exit id =>
    obtain ⟨w1, hrun, hst, hv⟩ := endRound_sound hrel hr h
    exact ⟨v, w1, hrun, hR ι v w1 hst hv⟩
  | _ => cases h

theorem roundD_sound (hP : Good P) {dr : DrawD} (hdr : DrawOk P dr) {E : Evs} (hE : Snd P E) {l : Nat} {tmps : Array Value} {assign body : Code} {H : World} {v : Value} {H1 : World} (h : roundD dr P E l tmps assign body H = some (v, H1)) : RoundS P l tmps assign body H v H1 := by
  intro ι w r f' tmps' ro' n R hrel hr ht hR
  unfold roundD at h
  split at h
  case h_2 => cases h
  rename_i a1 H2 hc
  split at h
  case h_2 => cases h
  rename_i H3 hbeg
  split at h
  case h_2 => cases h
  rename_i e a2 H4 hbody
  refine roundIn_of_wpIn (Fen_fn _ f') ?_
  rw [Fen_in]
  refine codeD_sound hP hdr hE assign (some l) _ H .normal a1 H2 hc ι w _ (some r.b) n _ hrel ⟨ht, .nil⟩ ⟨r, hr, rfl⟩ fun ι1 a1' w1 hs1 ha1 => ?_
  obtain ⟨w2, hrun, hst2⟩ := begin_sound hs1.rel (hs1.le _ _ hr) hbeg
  refine ⟨w2, hrun, ?_⟩
  refine codeD_sound hP hdr hE body (some l) a1 H3 e a2 H4 hbody ι1 w2 a1' (some r.b) n _ hst2.rel ha1 ⟨r, hs1.le _ _ hr, rfl⟩ fun ι2 a2' w3 hs3 ha2 => ?_
  have hall := (hs1.trans hst2).trans hs3
  exact roundEnd_sound hs3.rel (hs3.le _ _ (hs1.le _ _ hr)) h (fun ι3 v' w4 h4 hv => hR ι3 v' w4 (hall.trans h4) hv) a2'

/-! ### calls that stand alone -/
theorem plain_mono : ∀ (d : Nat) (v : Value), plain d v = true → plain (d + 1) v = true
  | 0, v, h => by
    unfold plain at h
    unfold plain
    split
    · simp [constOk1] at h
    · simp [constOk1] at h
    · simp [constOk1] at h
    · exact h
  | d + 1, v, h => by
    unfold plain at h
    unfold plain
    split at h
    · simp only [Array.all_eq_true] at h ⊢
      exact fun i hi => plain_mono d _ (h i hi)
    · simp only [Array.all_eq_true] at h ⊢
      exact fun i hi => plain_mono d _ (h i hi)
    · simp only [Bool.and_eq_true, Array.all_eq_true] at h ⊢
      exact ⟨h.1, fun i hi => plain_mono d _ (h.2 i hi)⟩
    · exact h
theorem plain_cells {d : Nat} {x y : Value} {j : Nat} (h : plain d x = true) (hy : x.cells[j]? = some y) : plain d y = true := by
  cases x with
  | agg cs =>
    cases d with
    | zero => simp [plain, constOk1] at h
    | succ d =>
      simp only [plain, Array.all_eq_true] at h
      simp only [Value.cells] at hy
      obtain ⟨hj, rfl⟩ := Array.getElem?_eq_some_iff.1 hy
      exact plain_mono d _ (h j hj)
  | _ =>
    simp only [Value.cells] at hy
    have := (Array.getElem?_eq_some_iff.1 hy).1
    cases j with
    | zero => simp at hy; subst hy; exact h
    | succ j => simp at this
theorem plain_sound {ι ι2 : Emb} (hA : ∀ b cs, ι.fz b = some cs → ι2.fz b = some cs) : ∀ (d : Nat) (v v' : Value), plain d v = true → VRel ι v v' → VRel ι2 v v'
  | 0, v, v', h, hv => by
    unfold plain at h
    rw [hv.const_eq1 h]; exact constOk1_rel h
  | d + 1, v, v', h, hv => by
    unfold plain at h
    split at h
    · rename_i cs
      cases hv with
      | agg cs cs' hc hh => exact .agg _ _ hc fun k x x' hx hx' => plain_sound hA d x x' (by
          obtain ⟨hk, rfl⟩ := Array.getElem?_eq_some_iff.1 hx
          exact Array.all_eq_true.1 h k hk) (hh k x x' hx hx')
    · rename_i cs
      cases hv with
      | tuple cs cs' hc hh => exact .tuple _ _ hc fun k x x' hx hx' => plain_sound hA d x x' (by
          obtain ⟨hk, rfl⟩ := Array.getElem?_eq_some_iff.1 hx
          exact Array.all_eq_true.1 h k hk) (hh k x x' hx hx')
    · rename_i t cs
      simp only [Bool.and_eq_true, decide_eq_true_eq] at h
      obtain ⟨ht, hall⟩ := h
      rcases hv.vs_inv ht with ⟨rfl, a', c', rfl⟩ | ⟨es, b, o, c', cs', rfl, hp, hc, hz, hb, hh, rfl⟩
      · obtain ⟨es, rfl⟩ : ∃ es, t = vsT + es := ⟨t - vsT, (Nat.add_sub_cancel' ht).symm⟩
        exact .vsE es a' c'
      · refine .vs es cs b o c' cs' (hA _ _ hp) hc hz hb fun k j x y y' hx hy hy' => ?_
        obtain ⟨hk, rfl⟩ := Array.getElem?_eq_some_iff.1 hx
        exact plain_sound hA d y y' (plain_cells (Array.all_eq_true.1 hall k hk) hy) (hh k j _ y y' hx hy hy')
    · rw [hv.const_eq1 h]; exact constOk1_rel h

theorem stripAll_get {f : Value → Option Value} : ∀ (cs l : List Value), stripAll f cs = some l → l.length = cs.length ∧ ∀ (k : Nat) (y : Value), l[k]? = some y → ∃ u, cs[k]? = some u ∧ f u = some y
  | [], l, h => by
    cases h
    exact ⟨rfl, fun k y hy => by simp at hy⟩
  | v :: cs, l, h => by
    unfold stripAll at h
    split at h
    case h_2 => cases h
    rename_i x hx
    simp only [Option.map_eq_some_iff] at h
    obtain ⟨l0, h0, rfl⟩ := h
    obtain ⟨h1, h2⟩ := stripAll_get cs l0 h0
    refine ⟨by simp [h1], fun k y hy => ?_⟩
    cases k with
    | zero => simp at hy; subst hy; exact ⟨v, rfl, hx⟩
    | succ k => obtain ⟨u, hu, hf⟩ := h2 k y (by simpa using hy); exact ⟨u, by simpa using hu, hf⟩
theorem notAgg_cells {c : Value} (h : notAgg c = true) : c.cells = #[c] := by
  cases c <;> first | rfl | cases h
theorem chunks_get {es : Nat} {ag : Bool} : ∀ (n : Nat) (l xs : List Value), chunks es ag n l = some xs → xs.length = n ∧ n * es ≤ l.length ∧
    ∀ (k : Nat) (x : Value), xs[k]? = some x → x.cells.size = es ∧ ∀ (j : Nat) (y : Value), x.cells[j]? = some y → l[k * es + j]? = some y
  | 0, l, xs, h => by
    simp only [chunks] at h
    cases h
    exact ⟨rfl, by omega, fun k x hx => by simp at hx⟩
  | n + 1, l, xs, h => by
    unfold chunks at h
    split at h
    · rename_i c
      split at h
      case isFalse => cases h
      rename_i hc
      simp only [Option.map_eq_some_iff] at h
      obtain ⟨xs0, h0, rfl⟩ := h
      obtain ⟨h1, h2, h3⟩ := chunks_get n _ xs0 h0
      simp only [List.length_take, List.length_drop] at hc h2
      refine ⟨by simp [h1], by rw [Nat.succ_mul]; omega, fun k x hx => ?_⟩
      cases k with
      | zero =>
        simp at hx; subst hx
        simp only [Value.cells]
        refine ⟨by simp; omega, fun j y hy => ?_⟩
        rw [Nat.zero_mul, Nat.zero_add]
        simp only [List.getElem?_toArray] at hy
        rw [List.getElem?_take] at hy
        split at hy
        · exact hy
        · cases hy
      | succ k =>
        obtain ⟨h4, h5⟩ := h3 k x (by simpa using hx)
        refine ⟨h4, fun j y hy => ?_⟩
        have := h5 j y hy
        rw [List.getElem?_drop] at this
        rw [← this, Nat.succ_mul]; congr 1; omega
    · rename_i c hc1
      split at h
      case isFalse => cases h
      rename_i hc
      obtain ⟨he, hna⟩ := hc
      subst he
      simp only [Option.map_eq_some_iff] at h
      obtain ⟨xs0, h0, rfl⟩ := h
      obtain ⟨h1, h2, h3⟩ := chunks_get n _ xs0 h0
      have hl : l = c :: l.drop 1 := by
        cases l with
        | nil => simp at hc1
        | cons a l => simp at hc1; simp [hc1]
      have hlen : l.length = (l.drop 1).length + 1 := by
        have := congrArg List.length hl
        simpa using this
      refine ⟨by simp [h1], by omega, fun k x hx => ?_⟩
      cases k with
      | zero =>
        simp at hx; subst hx
        rw [notAgg_cells hna]
        refine ⟨rfl, fun j y hy => ?_⟩
        rw [hl]
        have := (Array.getElem?_eq_some_iff.1 hy).1
        have hj : j = 0 := by simpa using this
        subst hj
        simpa using hy
      | succ k =>
        obtain ⟨h4, h5⟩ := h3 k x (by simpa using hx)
        refine ⟨h4, fun j y hy => ?_⟩
        have := h5 j y hy
        rw [List.getElem?_drop] at this
        rw [← this]; congr 1; omega
    · cases h

theorem strip_sound {ι1 ι2 : Emb} {H w : World} (hrel : Rel P ι1 H w) (hA : ∀ b cs, ι1.fz b = some cs → ι2.fz b = some cs)
    (hB : ∀ (i : Nat) (cs : Array Value) (e : TypeId) (fr : Nat × Nat) (r : Loc) (cs' : Array Value) (e' : TypeId) (fr' : Nat × Nat), H.heap[i]? = some (.cells cs e fr) → ι1 i = some r → w.heap[r.b]? = some (.cells cs' e' fr') → ι2.fz r.b = some cs') :
    ∀ (d : Nat) (v v' v2 : Value), strip d P H v = some v2 → VRel ι1 v v' → VRel ι2 v2 v'
  | 0, v, v', v2, h, hv => by
    simp only [strip] at h
    replace h := of_if' h
    obtain ⟨h1, h⟩ := h
    injection h with h; subst h
    rw [hv.const_eq1 h1]; exact constOk1_rel h1
  | d + 1, v, v', v2, h, hv => by
    unfold strip at h
    split at h
    · rename_i cs
      simp only [Option.map_eq_some_iff] at h
      obtain ⟨l, hl, rfl⟩ := h
      obtain ⟨h1, h2⟩ := stripAll_get _ _ hl
      cases hv with
      | agg cs cs' hc hh =>
        refine .agg _ _ (by simp [h1, ← hc]) fun k y y' hy hy' => ?_
        obtain ⟨u, hu, hf⟩ := h2 k y (by simpa using hy)
        exact strip_sound hrel hA hB d u y' y hf (hh k u y' (by simpa using hu) hy')
    · rename_i cs
      simp only [Option.map_eq_some_iff] at h
      obtain ⟨l, hl, rfl⟩ := h
      obtain ⟨h1, h2⟩ := stripAll_get _ _ hl
      cases hv with
      | tuple cs cs' hc hh =>
        refine .tuple _ _ (by simp [h1, ← hc]) fun k y y' hy hy' => ?_
        obtain ⟨u, hu, hf⟩ := h2 k y (by simpa using hy)
        exact strip_sound hrel hA hB d u y' y hf (hh k u y' (by simpa using hu) hy')
    · rename_i t cs
      replace h := of_if' h
      obtain ⟨⟨ht, hall⟩, h⟩ := h
      injection h with h; subst h
      exact plain_sound hA (d + 1) _ _ (by simp only [plain, Bool.and_eq_true, decide_eq_true_eq]; exact ⟨ht, hall⟩) hv
    · rename_i a n c
      split at h
      case h_2 => cases h
      rename_i cs e fr hb
      split at h
      case h_2 => cases h
      rename_i de inf hu hi
      replace h := of_if' h
      obtain ⟨hpos, h⟩ := h
      split at h
      case h_2 => cases h
      rename_i l hl
      simp only [Option.map_eq_some_iff] at h
      obtain ⟨xs, hxs, rfl⟩ := h
      obtain ⟨h1, h2⟩ := stripAll_get _ _ hl
      obtain ⟨h3, h4, h5⟩ := chunks_get _ _ _ hxs
      cases hv with
      | sl i o n c a' c' r hr hs =>
        simp only at hb h1 h2 hl
        obtain ⟨hnc, hcc, ha, _⟩ := hs
        by_cases hn : n = 0
        · subst hn
          have : xs = [] := List.length_eq_zero_iff.1 h3
          subst this
          exact .vsE _ a' c'
        · rcases ha with rfl | hc0
          case inr => omega
          obtain ⟨cs', fr', hw, hrow, hcs⟩ := hrel.row hr hb
          have hlen : l.length ≤ cs.size - o := by
            rw [h1, List.length_take, List.length_drop]; simp; omega
          have hne : 0 < n * inf.size := Nat.mul_pos (by omega) hpos
          have hlast : r.base + o + n * inf.size ≤ cs'.size := by
            have hlt : o + n * inf.size - 1 < cs.size := by omega
            obtain ⟨u', hu', _⟩ := hcs (o + n * inf.size - 1) _ (Array.getElem?_eq_getElem hlt)
            have := (Array.getElem?_eq_some_iff.1 hu').1
            omega
          have := VRel.vs (ι := ι2) inf.size xs.toArray r.b (r.base + o) c' cs' (hB _ _ _ _ _ _ _ _ hb hr hw) (by simp; omega) (fun k x hx => (h5 k x (by simpa using hx)).1) (by simp [h3]; omega) fun k j x y y' hx hy hy' => ?_
          · simpa [h3, vs] using this
          · have h6 := (h5 k x (by simpa using hx)).2 j y hy
            obtain ⟨u, hu6, hf⟩ := h2 _ y h6
            rw [List.getElem?_take] at hu6
            split at hu6
            case isFalse => cases hu6
            rw [List.getElem?_drop, Array.getElem?_toList] at hu6
            obtain ⟨u', hu', hvr⟩ := hcs _ u hu6
            rw [show r.base + (o + (k * inf.size + j)) = r.base + o + k * inf.size + j by omega, hy'] at hu'
            injection hu' with hu'; subst hu'
            exact strip_sound hrel hA hB d u y' y hf hvr
    · replace h := of_if' h
      obtain ⟨h1, h⟩ := h
      injection h with h; subst h
      rw [hv.const_eq1 h1]; exact constOk1_rel h1

theorem strip0_sound {ι1 ι2 : Emb} {H w : World} (hrel : Rel P ι1 H w)
    (hB : ∀ (i : Nat) (cs : Array Value) (e : TypeId) (fr : Nat × Nat) (r : Loc) (cs' : Array Value) (e' : TypeId) (fr' : Nat × Nat), H.heap[i]? = some (.cells cs e fr) → ι1 i = some r → w.heap[r.b]? = some (.cells cs' e' fr') → ι2.fz r.b = some cs') :
    ∀ (d : Nat) (v v' v2 : Value), strip0 d P H v = some v2 → VRel ι1 v v' → VRel ι2 v2 v'
  | 0, v, v', v2, h, hv => by
    simp only [strip0] at h
    replace h := of_if' h
    obtain ⟨h1, h⟩ := h
    injection h with h; subst h
    rw [hv.const_eq1 h1]; exact constOk1_rel h1
  | d + 1, v, v', v2, h, hv => by
    unfold strip0 at h
    split at h
    · rename_i cs
      simp only [Option.map_eq_some_iff] at h
      obtain ⟨l, hl, rfl⟩ := h
      obtain ⟨h1, h2⟩ := stripAll_get _ _ hl
      cases hv with
      | agg cs cs' hc hh =>
        refine .agg _ _ (by simp [h1, ← hc]) fun k y y' hy hy' => ?_
        obtain ⟨u, hu, hf⟩ := h2 k y (by simpa using hy)
        exact strip0_sound hrel hB d u y' y hf (hh k u y' (by simpa using hu) hy')
    · rename_i cs
      simp only [Option.map_eq_some_iff] at h
      obtain ⟨l, hl, rfl⟩ := h
      obtain ⟨h1, h2⟩ := stripAll_get _ _ hl
      cases hv with
      | tuple cs cs' hc hh =>
        refine .tuple _ _ (by simp [h1, ← hc]) fun k y y' hy hy' => ?_
        obtain ⟨u, hu, hf⟩ := h2 k y (by simpa using hy)
        exact strip0_sound hrel hB d u y' y hf (hh k u y' (by simpa using hu) hy')
    · cases h
    · rename_i a n c
      split at h
      case h_2 => cases h
      rename_i cs e fr hb
      split at h
      case h_2 => cases h
      rename_i de inf hu hi
      replace h := of_if' h
      obtain ⟨hpos, h⟩ := h
      split at h
      case h_2 => cases h
      rename_i l hl
      simp only [Option.map_eq_some_iff] at h
      obtain ⟨xs, hxs, rfl⟩ := h
      obtain ⟨h1, h2⟩ := stripAll_get _ _ hl
      obtain ⟨h3, h4, h5⟩ := chunks_get _ _ _ hxs
      cases hv with
      | sl i o n c a' c' r hr hs =>
        simp only at hb h1 h2 hl
        obtain ⟨hnc, hcc, ha, _⟩ := hs
        by_cases hn : n = 0
        · subst hn
          have : xs = [] := List.length_eq_zero_iff.1 h3
          subst this
          exact .vsE _ a' c'
        · rcases ha with rfl | hc0
          case inr => omega
          obtain ⟨cs', fr', hw, hrow, hcs⟩ := hrel.row hr hb
          have hlen : l.length ≤ cs.size - o := by
            rw [h1, List.length_take, List.length_drop]; simp; omega
          have hne : 0 < n * inf.size := Nat.mul_pos (by omega) hpos
          have hlast : r.base + o + n * inf.size ≤ cs'.size := by
            have hlt : o + n * inf.size - 1 < cs.size := by omega
            obtain ⟨u', hu', _⟩ := hcs (o + n * inf.size - 1) _ (Array.getElem?_eq_getElem hlt)
            have := (Array.getElem?_eq_some_iff.1 hu').1
            omega
          have := VRel.vs (ι := ι2) inf.size xs.toArray r.b (r.base + o) c' cs' (hB _ _ _ _ _ _ _ _ hb hr hw) (by simp; omega) (fun k x hx => (h5 k x (by simpa using hx)).1) (by simp [h3]; omega) fun k j x y y' hx hy hy' => ?_
          · simpa [h3, vs] using this
          · have h6 := (h5 k x (by simpa using hx)).2 j y hy
            obtain ⟨u, hu6, hf⟩ := h2 _ y h6
            rw [List.getElem?_take] at hu6
            split at hu6
            case isFalse => cases hu6
            rw [List.getElem?_drop, Array.getElem?_toList] at hu6
            obtain ⟨u', hu', hvr⟩ := hcs _ u hu6
            rw [show r.base + (o + (k * inf.size + j)) = r.base + o + k * inf.size + j by omega, hy'] at hu'
            injection hu' with hu'; subst hu'
            exact strip0_sound hrel hB d u y' y hf hvr
    · replace h := of_if' h
      obtain ⟨h1, h⟩ := h
      injection h with h; subst h
      rw [hv.const_eq1 h1]; exact constOk1_rel h1

/-- What is told of the machine's rows when a call that stood alone has ended. -/
def cellsAt (w : World) (b : Nat) : Option (Array Value) :=
  match w.heap[b]? with
  | some (.cells cs _ _) => some cs
  | _ => none
def Emb.bare (ι : Emb) : Emb := ⟨fun _ => none, ι.fz⟩
def Emb.after (ι : Emb) (w w1 : World) : Emb := ⟨ι.loc, fun b => match ι.fz b with
  | some cs => some cs
  | none => if w.heap.size ≤ b then cellsAt w1 b else none⟩
theorem rel0 {ι : Emb} {H w : World} (h : Rel P ι H w) : Rel P ι.bare World0 w :=
  ⟨fun b cs hb => ⟨(h.fz b cs hb).1, fun i o r hi => (by simp [World0] at hi)⟩, fun i o hi => (by simp [World0] at hi), fun i j o1 o2 r1 r2 hi => (by simp [World0] at hi), fun i r h => (by cases h), fun i o hi => (by simp [World0] at hi), h.tab⟩
theorem after_A {ι ι1 : Emb} {H H1 w w1 : World} (hrel : Rel P ι H w) (h : Step P ι.bare World0 w ι1 H1 w1) : ∀ b cs, ι1.fz b = some cs → (ι.after w w1).fz b = some cs := by
  intro b cs hb
  have hw := (h.rel.fz b cs hb).1
  unfold Emb.after
  simp only
  rcases h.pins b cs hb with h1 | h1
  · have h1 : ι.fz b = some cs := h1
    rw [h1]
  · cases hf : ι.fz b with
    | some cs2 =>
      obtain ⟨e, fr, hb2⟩ := (hrel.fz b cs2 hf).1
      have := (Array.getElem?_eq_some_iff.1 hb2).1
      omega
    | none =>
      obtain ⟨e, fr, hb2⟩ := hw
      simp only [if_pos h1, cellsAt, hb2]
theorem after_B {ι ι0 ι1 : Emb} {H H1 w w1 : World} (hrel : Rel P ι H w) (h : Step P ι0 World0 w ι1 H1 w1) : ∀ (i : Nat) (cs : Array Value) (e : TypeId) (fr : Nat × Nat) (r : Loc) (cs' : Array Value) (e' : TypeId) (fr' : Nat × Nat), H1.heap[i]? = some (.cells cs e fr) → ι1 i = some r → w1.heap[r.b]? = some (.cells cs' e' fr') → (ι.after w w1).fz r.b = some cs' := by
  intro i cs e fr r cs' e' fr' hi hr hw
  rcases h.own i _ r hi rfl hr with h1 | ⟨j, oj, rj, hj, _⟩
  · unfold Emb.after
    simp only
    cases hf : ι.fz r.b with
    | some cs2 =>
      obtain ⟨e, fr, hb2⟩ := (hrel.fz _ cs2 hf).1
      have := (Array.getElem?_eq_some_iff.1 hb2).1
      omega
    | none => simp only [if_pos h1, cellsAt, hw]
  · simp [World0] at hj
theorem Step.frame {ι ι0 ι1 : Emb} {H H1 w w1 : World} (hrel : Rel P ι H w) (h : Step P ι0 World0 w ι1 H1 w1) : Step P ι H w (ι.after w w1) H w1 := by
  have hk : ∀ b : Nat, b < w.heap.size → w1.heap[b]? = w.heap[b]? := fun b hb => h.keep b hb fun i o r hi => by simp [World0] at hi
  have hle : ι.le (ι.after w w1) := ⟨fun _ _ h => h, fun b cs hb => by unfold Emb.after; simp only [hb]⟩
  have hsz := h.size
  refine ⟨hle, ⟨fun b cs hb => ?_, fun i o hi hl => ?_, hrel.inj, fun i r hr => ?_, hrel.only, fun s zs g h1 h2 => hle.fz _ _ (hrel.tab s zs g h1 h2)⟩, h.size, h.os, h.tape, h.output, fun b hb _ => hk b hb, fun i o r hi _ hr => ⟨hi, hk _ (hrel.dom i r hr).2⟩, fun b cs hb => ?_, fun i o r hi hl hr => .inr ⟨i, o, r, hi, hl, hr, rfl⟩, Nat.le_refl _, fun _ _ => rfl⟩
  · cases hf : ι.fz b with
    | some cs2 =>
      have : cs2 = cs := by have h2 := hle.fz b cs2 hf; rw [hb] at h2; injection h2 with h2; exact h2.symm
      subst this
      obtain ⟨⟨e, fr, h1⟩, h2⟩ := hrel.fz b cs2 hf
      have hlt := (Array.getElem?_eq_some_iff.1 h1).1
      exact ⟨⟨e, fr, by rw [hk _ hlt]; exact h1⟩, h2⟩
    | none =>
      unfold Emb.after at hb
      simp only [hf] at hb
      replace hb := of_if' hb
      obtain ⟨hge, hb⟩ := hb
      refine ⟨?_, fun i o r hi hl hg hr => ?_⟩
      · unfold cellsAt at hb
        split at hb
        · rename_i cs2 e fr hc
          injection hb with hb; subst hb
          exact ⟨e, fr, hc⟩
        · cases hb
      · have := (hrel.dom i r hr).2
        omega
  · obtain ⟨r, o', hr, hw, ho⟩ := hrel.obj i o hi hl
    exact ⟨r, o', hr, by rw [hk _ (hrel.dom i r hr).2]; exact hw, ho.mono hle⟩
  · have := hrel.dom i r hr
    omega
  · cases hf : ι.fz b with
    | some cs2 =>
      have h2 := hle.fz b cs2 hf
      rw [hb] at h2
      exact .inl h2.symm
    | none =>
      unfold Emb.after at hb
      simp only [hf] at hb
      exact .inr (of_if' hb).1
theorem aloneD_sound (hP : Good P) {dr : DrawD} (hdr : DrawOk P dr) {E : Evs} (hE : Snd P E) {f : FuncId} {args : Array Value} {H : World} {v : Value} {H1 : World} (hc : args.all (plain deep) = true) (h : aloneD dr P E f args H = some (v, H1)) : FnS P f args H v H1 := by
  intro ι w args' ro' n R hrel hargs hR
  unfold aloneD at h
  split at h
  case h_2 => cases h
  rename_i v0 H0 hf
  simp only [Option.map_eq_some_iff] at h
  obtain ⟨v2, hv, h⟩ := h
  cases h
  have hargs0 : ARel ι.bare args args' := ⟨hargs.1, fun k x x' hx hx' => plain_sound (ι := ι) (ι2 := ι.bare) (fun _ _ h => h) deep x x' (by
    obtain ⟨hk, rfl⟩ := Array.getElem?_eq_some_iff.1 hx
    exact Array.all_eq_true.1 hc k hk) (hargs.2 k x x' hx hx')⟩
  refine fnD_sound hP hdr hE hf ι.bare w args' ro' n R (rel0 hrel) hargs0 fun ι1 v' w1 hst hvr => ?_
  exact hR _ v' w1 (hst.frame hrel) (strip_sound hst.rel (after_A hrel hst) (after_B hrel hst) deep _ _ _ hv hvr)

def pins (w : World) : Emb := ⟨fun _ => none, cellsAt w⟩
/-- The tables lie as they are told. -/
def TabsOk (P : Program) (w : World) : Prop := ∀ (name : String) (cs : Array Value) (g : Nat), tabOf name = some cs → P.globalNamed name = some g → cellsAt w g = some cs
theorem tabs_none {P : Program} (w : World) (h : P.globals = #[]) : TabsOk P w := fun name cs g _ hg => by
  simp [Program.globalNamed, h] at hg
theorem Rel.tabs {ι : Emb} {H w : World} (h : Rel P ι H w) : TabsOk P w := fun name cs g h1 h2 => by
  obtain ⟨e, fr, hb⟩ := (h.fz g cs (h.tab name cs g h1 h2)).1
  simp only [cellsAt, hb]
theorem pins_rel (w : World) (ht : TabsOk P w) : Rel P (pins w) World0 w := by
  refine ⟨fun b cs hb => ⟨?_, fun i o r hi => (by simp [World0] at hi)⟩, fun i o hi => (by simp [World0] at hi), fun i j o1 o2 r1 r2 hi => (by simp [World0] at hi), fun i r h => (by cases h), fun i o hi => (by simp [World0] at hi), ht⟩
  have hb : cellsAt w b = some cs := hb
  unfold cellsAt at hb
  split at hb
  · rename_i cs2 e fr hc
    injection hb with hb; subst hb
    exact ⟨e, fr, hc⟩
  · cases hb

theorem aloneH_sound (hP : Good P) {dr : DrawD} (hdr : DrawOk P dr) {E : Evs} (hE : Snd P E) {f : FuncId} {args : Array Value} {l : List Value} {H : World} {v : Value} {H1 : World} (hc : stripArgs P H args = some l) (h : aloneH dr P E f l H = some (v, H1)) : FnS P f args H v H1 := by
  intro ι w args' ro' n R hrel hargs hR
  unfold aloneH at h
  split at h
  case h_2 => cases h
  rename_i v0 H0 hf
  simp only [Option.map_eq_some_iff] at h
  obtain ⟨v2, hv, h⟩ := h
  cases h
  obtain ⟨h1, h2⟩ := stripAll_get _ _ hc
  have hA : ∀ b cs, ι.fz b = some cs → (pins w).fz b = some cs := fun b cs hb => by
    obtain ⟨e, fr, hw⟩ := (hrel.fz b cs hb).1
    show cellsAt w b = some cs
    simp only [cellsAt, hw]
  have hB : ∀ (i : Nat) (cs : Array Value) (e : TypeId) (fr : Nat × Nat) (r : Loc) (cs' : Array Value) (e' : TypeId) (fr' : Nat × Nat), H.heap[i]? = some (.cells cs e fr) → ι i = some r → w.heap[r.b]? = some (.cells cs' e' fr') → (pins w).fz r.b = some cs' := fun i cs e fr r cs' e' fr' _ _ hw => by
    show cellsAt w r.b = some cs'
    simp only [cellsAt, hw]
  have hargs0 : ARel (pins w) l.toArray args' := by
    refine ⟨by rw [← hargs.1]; simp [h1], fun k x x' hx hx' => ?_⟩
    obtain ⟨u, hu, hs⟩ := h2 k x (by simpa using hx)
    exact strip_sound hrel hA hB deep u x' x hs (hargs.2 k u x' (by simpa using hu) hx')
  refine fnD_sound hP hdr hE hf (pins w) w args' ro' n R (pins_rel w hrel.tabs) hargs0 fun ι1 v' w1 hst hvr => ?_
  exact hR _ v' w1 (hst.frame hrel) (strip0_sound hst.rel (after_B hrel hst) deep _ _ _ hv hvr)
/-- Such rules hold of the machine. -/
def SpOk (P : Program) (sp : Sp) : Prop := ∀ f g, sp f = some g → ∀ args H v H1, g args H = some (v, H1) → FnS P f args H v H1
theorem SpOk.none (P : Program) : SpOk P spNone := fun f g h => by cases h
theorem evs_sound (hP : Good P) {dr : DrawD} (hdr : DrawOk P dr) (al : FuncId → Bool) {sp : Sp} (hsp : SpOk P sp) : ∀ k, Snd P (evs dr al sp P k)
  | 0 => ⟨fun _ _ _ _ _ _ _ h => (by cases h), fun _ _ _ _ _ h => (by cases h), fun _ _ _ _ _ _ _ h => (by cases h)⟩
  | k + 1 => by
    have ih := evs_sound hP hdr al hsp k
    refine ⟨fun ro c a H e a1 H1 h => ?_, fun f args H v H1 h => ?_, fun l tmps as b H v H1 h => roundD_sound hP hdr ih h⟩
    · intro ι w a' ro' n Q hrel ha hro hQ
      have h : codeD dr P (evs dr al sp P k) ro (.loop c) a H = some (e, a1, H1) := h
      unfold codeD at h
      cases hx : codeD dr P (evs dr al sp P k) ro c a H with
      | none => rw [hx] at h; cases h
      | some p =>
        obtain ⟨e1, a2, H2⟩ := p
        rw [hx] at h
        refine LoopIn.round (codeD_sound hP hdr ih c ro a H e1 a2 H2 hx ι w a' ro' n _ hrel ha hro fun ι1 a2' w1 hs1 ha2 => ?_)
        by_cases he : e1 = .normal
        · subst he
          exact ih.code ro c a2 H2 e a1 H1 h ι1 w1 a2' ro' n Q hs1.rel ha2 (hro.mono hs1.le) (hQ.step hs1)
        · have : e1 = e ∧ a2 = a1 ∧ H2 = H1 := by
            cases e1 <;> first | exact absurd rfl he | (cases h; exact ⟨rfl, rfl, rfl⟩)
          obtain ⟨rfl, rfl, rfl⟩ := this
          exact then_of he (hQ ι1 a2' w1 hs1 ha2)
    · have h : callF dr al sp P (evs dr al sp P k) f args H = some (v, H1) := h
      unfold callF at h
      split at h
      · rename_i hc
        simp only [Bool.and_eq_true] at hc
        exact aloneD_sound hP hdr ih hc.2 h
      · split at h
        · rename_i l hl
          split at hl
          · exact aloneH_sound hP hdr ih hl h
          · cases hl
        · split at h
          · rename_i g hg
            exact hsp f g hg args H v H1 h
          · exact fnD_sound hP hdr ih h

/-- **THE EVALUATOR's ANSWER IS THE MACHINE's.** -/
theorem calls_of_evs (hP : Good P) {dr : DrawD} (hdr : DrawOk P dr) {al : FuncId → Bool} {sp : Sp} (hsp : SpOk P sp) {k : Nat} {f : FuncId} {args args' : Array Value} {H w : World} {v : Value} {H1 : World} {ι : Emb} {R : Ending → World → Prop}
    (h : (evs dr al sp P k).fn f args H = some (v, H1)) (hrel : Rel P ι H w) (hargs : ARel ι args args') (hR : ThenV P ι H w v H1 R) : Calls P f args' w R :=
  callsIn_wide.1 ((evs_sound hP hdr al hsp k).fn f args H v H1 h ι w args' none 0 R hrel hargs hR)
end Go.Proofs.YtmmmdmandocbhaaDoor.Den
end

section
/- Quiet operations: they leave the world as it is. -/
set_option linter.unusedVariables false
set_option linter.unusedSimpArgs false
namespace Go.Proofs.YtmmmdmandocbhaaDoor.Den
variable {P : Program}

theorem RO.halt {α : Type} (e : Halt) : RO P (Sem.halt e : Sem α) := fun w x w1 h => by cases h
theorem RO.stuck {α : Type} (e : String) : RO P (Go.stuck e : Sem α) := RO.halt _
theorem RO.unsupported {α : Type} (e : Unsupported) : RO P (Go.unsupported e : Sem α) := RO.halt _
theorem RO.runtimePanic {α : Type} (e : RuntimeError) : RO P (Go.runtimePanic e : Sem α) := noRun_ro fun H x H1 => noRun_runtimePanic e H x H1
theorem RO.boundsPanic {α : Type} (k : IntKind) (x y : Int) (c : BoundsCode) : RO P (Go.boundsPanic k x y c : Sem α) := noRun_ro fun H v H1 => noRun_boundsPanic k x y c H v H1
theorem RO.underlying (t : TypeId) : RO P (Go.underlying t) := (HF.underlying t).ro
theorem RO.typeInfo (t : TypeId) : RO P (Go.typeInfo t) := (HF.typeInfo t).ro
theorem RO.sizeOf (t : TypeId) : RO P (Go.sizeOf t) := (HF.sizeOf t).ro
theorem RO.isAgg (t : TypeId) : RO P (Go.isAgg t) := (HF.isAgg t).ro
theorem RO.zeroValue (t : TypeId) : RO P (Go.zeroValue t) := (HF.zeroValue t).ro
theorem RO.asBool (v : Value) : RO P (Go.asBool v) := (HF.asBool v).ro
theorem RO.asInt (v : Value) : RO P (Go.asInt v) := (HF.asInt v).ro
theorem RO.asIntOf (v : Value) : RO P (Go.asIntOf v) := (HF.asIntOf v).ro
theorem RO.asAgg (v : Value) : RO P (Go.asAgg v) := by cases v <;> first | exact .pure _ | exact .stuck _
theorem RO.program : RO P Go.program := HF.program.ro
theorem RO.mark (m : Mark) : RO P (Go.mark m) := (HF.mark m).ro
theorem RO.loadCells (a : Addr) (n : Nat) : RO P (Go.loadCells a n) := RO.loadCellsFrom a n 0 _
theorem RO.sureAddr (v : Value) : RO P (Instr.sureAddr v) := by unfold Instr.sureAddr; split <;> first | exact .pure _ | exact .stuck _
theorem RO.ite {α : Type} {c : Prop} [Decidable c] {s t : Sem α} (h : RO P s) (h' : RO P t) : RO P (if c then s else t) := by split <;> assumption
theorem RO.loadAt (t : TypeId) (v : Value) : RO P (Instr.loadAt t v) := (RO.sureAddr v).bind fun a => RO.loadVar t a
theorem RO.part (t : TypeId) (cs : Array Value) (off : Nat) : RO P (Go.part t cs off) := by
  unfold Go.part
  refine (RO.isAgg t).bind fun b => ?_
  split
  · exact (RO.sizeOf t).bind fun n => by first | exact .pure _ | (split <;> first | exact .pure _ | exact .stuck _)
  · split <;> first | exact .pure _ | exact .stuck _
theorem RO.unary (op : UnOp) (v : Value) : RO P (Op.unary op v) := by
  unfold Op.unary
  split <;> first | exact .pure _ | exact .stuck _ | exact .unsupported _
theorem RO.extract (v : Value) (k : Nat) : RO P (Instr.extract v k) := by
  unfold Instr.extract
  split <;> first | exact .stuck _ | exact .pure _ | (split <;> first | exact .stuck _ | exact .pure _)
theorem RO.field (t : TypeId) (v : Value) (f : Nat) : RO P (Instr.field t v f) := by
  unfold Instr.field
  refine (RO.underlying t).bind fun d => ?_
  split
  · split
    · exact (RO.asAgg v).bind fun cs => RO.part _ _ _
    · exact .stuck _
  · exact .stuck _
theorem RO.shape (r : Nat) : RO P (Go.shape r) := fun w x w1 h => by
  simp only [run_shape, Result.ok.injEq] at h; exact h.2.symm
theorem RO.indexAt (t : TypeId) (v x : Value) : RO P (Instr.indexAt t v x) := by
  unfold Instr.indexAt
  refine (RO.asIntOf x).bind fun p => (RO.underlying t).bind fun d => ?_
  dsimp only
  split
  · refine (RO.sureAddr _).bind fun a => RO.bind (.pure _) fun q => ?_
    · obtain ⟨base, len, elem⟩ := q
      dsimp only
      refine (RO.underlying t).bind fun d2 => ?_
      split
      · exact .ite ((RO.sizeOf _).bind fun n => .pure _) (.ite (.unsupported _) (.boundsPanic _ _ _ _))
      · exact .boundsPanic _ _ _ _
  · refine RO.bind (.pure _) fun q => ?_
    · obtain ⟨base, len, elem⟩ := q
      dsimp only
      refine (RO.underlying t).bind fun d2 => ?_
      split
      · exact .ite ((RO.sizeOf _).bind fun n => .pure _) (.ite (.unsupported _) (.boundsPanic _ _ _ _))
      · exact .boundsPanic _ _ _ _
  · refine RO.bind (.stuck _) fun q => ?_
    · obtain ⟨base, len, elem⟩ := q
      dsimp only
      refine (RO.underlying t).bind fun d2 => ?_
      split
      · exact .ite ((RO.sizeOf _).bind fun n => .pure _) (.ite (.unsupported _) (.boundsPanic _ _ _ _))
      · exact .boundsPanic _ _ _ _
theorem RO.index (t : TypeId) (v x : Value) : RO P (Instr.index t v x) := by
  unfold Instr.index
  refine (RO.asIntOf x).bind fun p => (RO.underlying t).bind fun d => ?_
  split
  · exact .ite ((RO.sizeOf _).bind fun n => RO.part _ _ _) (.boundsPanic _ _ _ _)
  · split
    · exact .pure _
    · exact .boundsPanic _ _ _ _
  · exact .stuck _
theorem RO.build (t : TypeId) (ps : Array (Nat × Value)) : RO P (Instr.build t ps) := by
  unfold Instr.build
  refine (RO.zeroValue t).bind fun z => (RO.underlying t).bind fun d => ?_
  split
  · refine RO.bind (RO.mapM (fun f => (RO.sizeOf _).bind fun n => .pure _) _) fun pl => ?_
    split
    · exact .pure _
    · exact .stuck _
  · refine (RO.sizeOf _).bind fun n => ?_
    split
    · exact .pure _
    · exact .stuck _
  · exact .stuck _
theorem RO.fieldAt {s : TypeId} {f : Nat} (hf : fieldOk P s f = true) (v : Value) : RO P (Instr.fieldAt s v f) := by
  intro w x w1 hx
  unfold fieldOk at hf
  cases hu : P.underlying s with
  | none => rw [hu] at hf; cases hf
  | some d =>
    rw [hu] at hf
    cases d with
    | struct fs =>
      simp only at hf
      cases hfs : fs[f]? with
      | none => rw [hfs] at hf; cases hf
      | some fl =>
        rw [hfs] at hf
        simp only at hf
        cases hi : P.info? fl.type with
        | none => rw [hi] at hf; cases hf
        | some inf =>
          rw [hi] at hf
          have hsz : inf.size ≠ 0 := by simpa using hf
          have hrun : ∀ (W : World) (a : Addr), (Instr.fieldAt s (.pointer (some a)) f).run P W = .ok (.pointer (some (a.add fl.offset))) W := by
            intro W a
            simp [Instr.fieldAt, Go.underlying, hu, hfs, Instr.sureAddr, fieldPlace, Go.sizeOf, Go.typeInfo, hi, hsz]
          by_cases hp : ∃ a, v = .pointer (some a)
          · obtain ⟨a, rfl⟩ := hp
            rw [hrun] at hx
            simp only [Result.ok.injEq] at hx
            exact hx.2.symm
          · exfalso
            have : ∃ e, (Instr.sureAddr v).run P w = .halt e w := by
              unfold Instr.sureAddr
              split
              · rename_i a; exact absurd ⟨a, rfl⟩ hp
              · exact ⟨_, rfl⟩
            obtain ⟨e, he⟩ := this
            simp [Instr.fieldAt, Go.underlying, hu, hfs, he] at hx
    | _ => cases hf

/-- Which operations leave the world as it is. -/
def quietOp (P : Program) : Op → Bool
  | .move _ | .assign _ | .pick .. | .build .. | .load .. | .unOp .. | .field .. | .indexAddr .. | .index .. | .extract .. | .fieldAddr .. | .makeFunc .. | .slice .. | .binOp .. | .lookup .. | .nilCheck _ => true
  | .convert _ dst _ => match P.underlying dst with
    | some (.int _) | some .string => true
    | _ => false
  | .call c => match c.callee with
    | .builtin .len => true
    | _ => false
  | _ => false

theorem valRO {s : Sem Value} (h : RO P s) {H H1 : World} {nx : Next} (hr : okRun ((do Pure.pure (Next.value (← s))).run P H) = some (nx, H1)) : H1 = H ∧ ∃ v, nx = .value v := by
  have hr := okRun_some hr
  simp only [Sem.run_bind] at hr
  cases hs : s.run P H with
  | halt e w1 => rw [hs] at hr; cases hr
  | ok x w1 =>
    rw [hs] at hr
    simp only [Result.andThen_ok, Sem.run_pure, Result.ok.injEq] at hr
    exact ⟨hr.2.symm.trans (h _ _ _ hs), x, hr.1.symm⟩

theorem RO.sliceBounds (b : Bool) (n c : Nat) (lo hi mx : Option Value) : RO P (Instr.sliceBounds b n c lo hi mx) := (HF.sliceBounds b n c lo hi mx).ro

theorem RO.asAddr (v : Value) : RO P (Go.asAddr v) := by
  unfold Go.asAddr
  split
  · exact .pure _
  · exact .runtimePanic _
  · exact .stuck _
theorem RO.slice (t : TypeId) (x : Value) (lo hi mx : Option Value) : RO P (Instr.slice t x lo hi mx) := by
  unfold Instr.slice
  refine (RO.underlying t).bind fun d => ?_
  split
  · split
    · exact (RO.stuck _).bind fun _ => (RO.sliceBounds _ _ _ _ _ _).bind fun q => .pure _
    · exact (RO.sliceBounds _ _ _ _ _ _).bind fun q => .pure _
  · exact (RO.sliceBounds _ _ _ _ _ _).bind fun q => (RO.sizeOf _).bind fun n => .pure _
  · refine (RO.asAddr _).bind fun a => (RO.underlying _).bind fun u => ?_
    split
    · exact (RO.sliceBounds _ _ _ _ _ _).bind fun q => (RO.sizeOf _).bind fun n => .pure _
    · exact .stuck _
  · exact .stuck _
theorem RO.forInL {α β : Type} {f : α → β → Sem (ForInStep β)} (h : ∀ x b, RO P (f x b)) : ∀ (l : List α) (b : β), RO P (forIn l b f)
  | [], b => by rw [List.forIn_nil]; exact .pure _
  | x :: l, b => by
    rw [List.forIn_cons]
    refine (h x b).bind fun s => ?_
    cases s with
    | done b => exact .pure _
    | yield b => exact RO.forInL h l b
theorem RO.forInA {α β : Type} {f : α → β → Sem (ForInStep β)} (h : ∀ x b, RO P (f x b)) (l : Array α) (b : β) : RO P (forIn l b f) := by
  rw [← Array.forIn_toList]; exact RO.forInL h _ _
theorem RO.bytesToString (x : Value) : RO P (Conv.bytesToString x) := by
  unfold Conv.bytesToString
  split
  · exact .pure _
  · refine (RO.loadCells _ _).bind fun cs => RO.bind (RO.forInA (fun c b => ?_) _ _) fun s => .pure _
    split
    · exact .pure _
    · exact (RO.stuck _).bind fun _ => .pure _
  · exact .stuck _

theorem quiet_sem {o : Oper} {a : Act} {H H1 : World} {nx : Next} (hq : quietOp P o.op = true) (h : semD P o a H = some (nx, H1)) : H1 = H ∧ ∃ v, nx = .value v := by
  unfold semD at h
  split at h
  · cases h
  rename_i hops
  clear hops
  obtain ⟨dst, op, ty, pos, guard, after⟩ := o
  simp only at hq h
  cases hpd : pureD P op a.eval with
  | some v =>
    rw [hpd] at h
    injection h with h; injection h with h1 h2
    exact ⟨h2.symm, v, h1.symm⟩
  | none =>
  rw [hpd] at h
  simp only at h
  clear hpd
  cases op
  all_goals first | (cases hq; done) | skip
  all_goals simp only at h
  case slice t x lo hi mx =>
    simp only [Option.map_eq_some_iff] at h
    obtain ⟨⟨v, H2⟩, h, e⟩ := h
    cases e
    refine ⟨?_, _, rfl⟩
    unfold lslice at h
    split at h
    · split at h
      · split at h
        · cases h; rfl
        · cases h
      · cases h
    · exact RO.slice _ _ _ _ _ _ _ _ (okRun_some h)
    · split at h
      · split at h
        · cases h; rfl
        · cases h
      · cases h
    · cases h
  case binOp op t x y yt =>
    unfold binD at h
    split at h
    · rename_i hf
      simp only [Bool.and_eq_true] at hf
      split at h
      case h_2 => cases h
      rename_i v H2 hr
      split at h
      case isFalse => cases h
      cases h
      exact ⟨(HF.binAll op t x y hf.1 hf.2 _ _ _ (okRun_some hr)).1, _, rfl⟩
    · split at h
      · simp only [Option.map_eq_some_iff] at h
        obtain ⟨r, h, e⟩ := h
        cases e; exact ⟨rfl, _, rfl⟩
      · simp only [Option.map_eq_some_iff] at h
        obtain ⟨r, h, e⟩ := h
        cases e; exact ⟨rfl, _, rfl⟩
      · cases h
  case lookup t m k ok =>
    simp only [Option.map_eq_some_iff] at h
    obtain ⟨v, h, e⟩ := h
    cases e; exact ⟨rfl, _, rfl⟩
  case nilCheck x =>
    split at h
    · cases h; exact ⟨rfl, _, rfl⟩
    · cases h; exact ⟨rfl, _, rfl⟩
    · cases h
  case convert src dst x =>
    simp only [Option.map_eq_some_iff] at h
    obtain ⟨⟨v, H2⟩, h, e⟩ := h
    cases e
    refine ⟨?_, _, rfl⟩
    unfold convD at h
    split at h
    · cases h; rfl
    · cases h; rfl
    · rename_i hu2 _
      simp only [quietOp, hu2] at hq
      cases hq
    · split at h
      · exact RO.bytesToString _ _ _ _ (okRun_some h)
      · cases h
    · cases h
  case call c =>
    unfold callOpD at h
    unfold quietOp at hq
    split at h
    · rename_i b hb
      simp only [hb] at hq
      cases b <;> first | (cases hq; done) | skip
      simp only [Option.map_eq_some_iff] at h
      obtain ⟨⟨v, H2⟩, h, e⟩ := h
      cases e
      refine ⟨?_, _, rfl⟩
      unfold builtinD at h
      simp only at h
      split at h
      · simp only [Option.map_eq_some_iff] at h
        obtain ⟨n, h, e⟩ := h
        cases e; rfl
      · cases h
    · rename_i g hb
      simp only [hb] at hq
      cases hq
    · cases h
  all_goals
    have hok := (of_if h).1
    replace h := (of_if h).2
    first | (exfalso; cases hok; done) | skip
  case move x => exact valRO (s := Pure.pure _) (.pure _) h
  case assign x => exact valRO (s := Pure.pure _) (.pure _) h
  case pick c x y =>
    have hr := okRun_some h
    simp only [execOp, Sem.run_bind] at hr
    cases hs : (Go.asBool (a.eval c)).run P H with
    | halt e w1 => rw [hs] at hr; cases hr
    | ok b w1 =>
      rw [hs] at hr
      simp only [Result.andThen_ok, Sem.run_pure, Result.ok.injEq] at hr
      exact ⟨hr.2.symm.trans (RO.asBool _ _ _ _ hs), _, hr.1.symm⟩
  case build t ps => exact valRO (RO.build _ _) h
  case load t x => exact valRO (RO.loadAt _ _) h
  case unOp op t x => exact valRO (RO.unary _ _) h
  case field t x f => exact valRO (RO.field _ _ _) h
  case fieldAddr t x f => exact valRO (RO.fieldAt hok _) h
  case indexAddr t x y => exact valRO (RO.indexAt _ _ _) h
  case index t x y => exact valRO (RO.index _ _ _) h
  case extract x n => exact valRO (RO.extract _ _) h
  case makeFunc f fs cs =>
    cases f with
    | func f => exact valRO (s := Instr.makeFunc _ _ _) (.pure _) h
    | _ => cases hok
end Go.Proofs.YtmmmdmandocbhaaDoor.Den
end

section
/- Regions that draw their order: what is looked at beforehand, and what is looked at on the way. -/
set_option linter.unusedVariables false
set_option linter.unusedSimpArgs false
namespace Go.Proofs.YtmmmdmandocbhaaDoor.Den
variable {P : Program}

theorem pureD_congr {op : Op} {a b : Act} (h : ∀ x ∈ op.operands, a.eval x = b.eval x) : pureD P op a.eval = pureD P op b.eval := by
  have hm : ∀ xs : Array Operand, (∀ x ∈ xs, a.eval x = b.eval x) → xs.map a.eval = xs.map b.eval := fun xs hx => Array.map_congr_left hx
  have ho : ∀ x : Option Operand, (∀ y ∈ x, a.eval y = b.eval y) → x.map a.eval = x.map b.eval := fun x hx => by
    cases x with
    | none => rfl
    | some y => simp only [Option.map_some]; rw [hx y rfl]
  cases op
  all_goals simp only [Op.operands] at h
  all_goals simp only [pureD]
  case indexAddr t x y => rw [h x (by simp), h y (by simp)]
  case fieldAddr t x f => rw [h x (by simp)]
  case load t x => rw [h x (by simp)]
  case slice t x lo hi mx =>
    rw [h x (by simp), ho lo fun y hy => h y (by cases hy; simp), ho hi fun y hy => h y (by cases hy; simp), ho mx fun y hy => h y (by cases hy; simp)]
  case convert src dst x => rw [h x (by simp)]
  case nilCheck x => rw [h x (by simp)]
  case binOp op t x y yt =>
    cases op <;> first | rfl | skip
    · simp only; rw [h x (by simp), h y (by simp)]
    · simp only; rw [h x (by simp), h y (by simp)]
  case call c =>
    simp only [Call.operands] at h
    rw [hm c.args fun x hx => h x (by simp [hx])]
theorem semD_congr {o : Oper} {a b : Act} (h : ∀ x ∈ o.op.operands, a.eval x = b.eval x) (H : World) : semD P o a H = semD P o b H := by
  have hex : (∀ cs bl, o.op ≠ .select cs bl) → execOp a.eval o = execOp b.eval o := fun hs => execOp_congr o hs h
  unfold semD
  split
  · rfl
  rename_i hops
  clear hops
  obtain ⟨dst, op, ty, pos, guard, after⟩ := o
  simp only at h hex ⊢
  rw [← pureD_congr h]
  cases pureD P op a.eval with
  | some v => rfl
  | none =>
  simp only
  have hm : ∀ xs : Array Operand, (∀ x ∈ xs, a.eval x = b.eval x) → xs.map a.eval = xs.map b.eval := fun xs hx => Array.map_congr_left hx
  have ho : ∀ x : Option Operand, (∀ y ∈ x, a.eval y = b.eval y) → x.map a.eval = x.map b.eval := fun x hx => by
    cases x with
    | none => rfl
    | some y => simp only [Option.map_some]; rw [hx y rfl]
  cases op
  case slice t x lo hi mx =>
    simp only [Op.operands] at h
    simp only
    rw [h x (by simp), ho lo fun y hy => h y (by cases hy; simp), ho hi fun y hy => h y (by cases hy; simp), ho mx fun y hy => h y (by cases hy; simp)]
  case binOp op t x y yt =>
    simp only [Op.operands] at h
    simp only [binD]
    rw [h x (by simp), h y (by simp)]
  case convert src dst x =>
    simp only [Op.operands] at h
    simp only
    rw [h x (by simp)]
  case lookup t m k ok =>
    simp only [Op.operands] at h
    simp only
    rw [h m (by simp), h k (by simp)]
  case mapUpdate t m k v =>
    simp only [Op.operands] at h
    simp only
    rw [h m (by simp), h k (by simp), h v (by simp)]
  case insert t m k v =>
    simp only [Op.operands] at h
    simp only
    rw [h m (by simp), h k (by simp), h v (by simp)]
  case nilCheck x =>
    simp only [Op.operands] at h
    simp only
    rw [h x (by simp)]
  case call c =>
    simp only [Op.operands, Call.operands] at h
    simp only [callOpD]
    rw [hm c.args fun x hx => h x (by simp [hx])]
    split
    · rfl
    · rename_i g hg
      rw [h g (by simp [hg])]
    · rfl
  case select cs bl => rfl
  all_goals
    simp only
    rw [hex (fun _ _ e => by cases e)]

/-- One operation of a region. -/
def stepD (P : Program) (E : Evs) (ops : Array Oper) (i : Nat) (a : Act) (H : World) : Option (Act × World) :=
  match ops[i]? with
  | none => none
  | some o => if Region.wanted o (yielded ops a.tmps) then opD P E o a H else some (a.put o.dst undef, H)

def veq0 : Value → Value → Bool
  | .bool a, .bool b => a == b
  | .int k a, .int l b => k == l && a == b
  | .string a, .string b => a == b
  | _, _ => false
def veqA0 : List Value → List Value → Bool
  | [], [] => true
  | a :: as, b :: bs => veq0 a b && veqA0 as bs
  | _, _ => false
theorem veq0_eq {a b : Value} (h : veq0 a b = true) : a = b := by
  unfold veq0 at h
  split at h <;> simp_all
  · exact bytes_beq h
theorem veqA0_eq : ∀ {as bs : List Value}, veqA0 as bs = true → as = bs
  | [], [], _ => rfl
  | a :: as, b :: bs, h => by
    simp only [veqA0, Bool.and_eq_true] at h
    rw [veq0_eq h.1, veqA0_eq h.2]
  | [], _ :: _, h => by cases h
  | _ :: _, [], h => by cases h
def veq1 : Value → Value → Bool
  | .bool a, .bool b => a == b
  | .int k a, .int l b => k == l && a == b
  | .string a, .string b => a == b
  | .pointer a, .pointer b => a == b
  | .slice a n c, .slice b m d => a == b && n == m && c == d
  | .map a, .map b => a == b
  | .nilFunc, .nilFunc => true
  | .nilIface, .nilIface => true
  | .iface t (.tuple as), .iface u (.tuple bs) => t == u && veqA0 as.toList bs.toList
  | _, _ => false
def veqA : List Value → List Value → Bool
  | [], [] => true
  | a :: as, b :: bs => veq1 a b && veqA as bs
  | _, _ => false
def veq2 : Value → Value → Bool
  | .agg as, .agg bs => veqA as.toList bs.toList
  | .func (.func f) as cs, .func (.func g) bs ds => f == g && veqA as.toList bs.toList && veqA cs.toList ds.toList
  | a, b => veq1 a b
def veqB : List Value → List Value → Bool
  | [], [] => true
  | a :: as, b :: bs => veq2 a b && veqB as bs
  | _, _ => false
def veq : Value → Value → Bool
  | .tuple as, .tuple bs => veqB as.toList bs.toList
  | a, b => veq2 a b
theorem veq1_eq {a b : Value} (h : veq1 a b = true) : a = b := by
  unfold veq1 at h
  split at h
  case h_9 =>
    simp only [Bool.and_eq_true, beq_iff_eq] at h
    rw [h.1, Array.toList_inj.1 (veqA0_eq h.2)]
  all_goals simp_all
  · exact bytes_beq h
theorem veqA_eq : ∀ {as bs : List Value}, veqA as bs = true → as = bs
  | [], [], _ => rfl
  | a :: as, b :: bs, h => by
    simp only [veqA, Bool.and_eq_true] at h
    rw [veq1_eq h.1, veqA_eq h.2]
  | [], _ :: _, h => by cases h
  | _ :: _, [], h => by cases h
theorem veq2_eq {a b : Value} (h : veq2 a b = true) : a = b := by
  unfold veq2 at h
  split at h
  · rw [Array.toList_inj.1 (veqA_eq h)]
  · simp only [Bool.and_eq_true, beq_iff_eq] at h
    rw [h.1.1, Array.toList_inj.1 (veqA_eq h.1.2), Array.toList_inj.1 (veqA_eq h.2)]
  · exact veq1_eq h
theorem veqB_eq : ∀ {as bs : List Value}, veqB as bs = true → as = bs
  | [], [], _ => rfl
  | a :: as, b :: bs, h => by
    simp only [veqB, Bool.and_eq_true] at h
    rw [veq2_eq h.1, veqB_eq h.2]
  | [], _ :: _, h => by cases h
  | _ :: _, [], h => by cases h
theorem veq_eq {a b : Value} (h : veq a b = true) : a = b := by
  unfold veq at h
  split at h
  · rw [Array.toList_inj.1 (veqB_eq h)]
  · exact veq2_eq h

/-! ### beforehand -/
def dstOf (ops : Array Oper) (i : Nat) : Option Tmp := (ops[i]?).bind (·.dst)
def mover (P : Program) (ops : Array Oper) (i : Nat) : Bool :=
  match ops[i]? with
  | some o => !(quietOp P o.op)
  | none => false
def ahead (ops : Array Oper) (i j : Nat) : Bool := ((Region.before ops).getD j 0).testBit i
def looks (ops : Array Oper) (i : Nat) : List Tmp :=
  match ops[i]? with
  | some o => o.looksAt ops
  | none => []
def isAlloc (ops : Array Oper) (f : Nat) : Bool :=
  match ops[f]? with
  | some o => o.dst.isSome && o.guard.isNone && (match o.op with | .alloc _ => true | _ => false)
  | none => false
/-- The one operation that makes a cell and may run ahead of its place in the text: where it stands, or behind all. -/
def lateOf (P : Program) (ops : Array Oper) : Nat :=
  ((List.range ops.size).find? fun f => isAlloc ops f && (List.range f).any fun m => mover P ops m && !(ahead ops m f)).getD ops.size
def drawStatic (P : Program) (ops : Array Oper) : Bool :=
  (List.range ops.size).all fun j =>
    (match ops[j]? with
      | some o => o.after.all fun e => !(Region.binds .any e) || (decide (e.on < j) && (!(e.on == lateOf P ops) || (List.range (lateOf P ops)).all fun m => !(mover P ops m) || ahead ops m j))
      | none => true) &&
    ((List.range ops.size).all fun i =>
      (i == j || (match dstOf ops i with
        | some t => (dstOf ops j != some t) && (!(looks ops j).contains t || ahead ops i j || ahead ops j i)
        | none => true)) &&
      (!(mover P ops i && mover P ops j && decide (i < j)) || ahead ops i j || j == lateOf P ops))
def movers (P : Program) (ops : Array Oper) (i : Nat) : Nat := (List.range i).countP (mover P ops)
def rePairs (P : Program) (ops : Array Oper) : List (Nat × Nat) :=
  (List.range ops.size).flatMap fun i =>
    if mover P ops i then [] else
      ((List.range (ops.size + 1)).filter fun j =>
        (j == 0 || mover P ops (j - 1)) && movers P ops j != movers P ops i &&
          decide ((List.range ops.size).countP (fun m => mover P ops m && ahead ops m i) ≤ movers P ops j) &&
          decide (movers P ops j ≤ (List.range ops.size).countP (fun m => mover P ops m && !(ahead ops i m)))).map fun j => (i, j)

/-! ### on the way -/
def traceD (P : Program) (E : Evs) (ops : Array Oper) : List Nat → Act → World → Option (List (Act × World))
  | [], a, H => some [(a, H)]
  | i :: rest, a, H =>
    match stepD P E ops i a H with
    | some (a1, H1) => (traceD P E ops rest a1 H1).map ((a, H) :: ·)
    | none => none
def reOne (P : Program) (ops : Array Oper) (i : Nat) (a : Act) (H H' : World) : Bool :=
  match ops[i]? with
  | some o => if Region.wanted o (yielded ops a.tmps) then if (pureD P o.op a.eval).isSome then true else
      match semD P o a H, semD P o a H' with
      | some (.value v, _), some (.value v', _) => veq v v'
      | _, _ => false
    else true
  | none => true
def drawS : DrawD := fun P E ops a H =>
  match traceD P E ops (List.range ops.size) a H with
  | some tr =>
    if drawStatic P ops && (rePairs P ops).all (fun p => match tr[p.1]?, tr[p.2]? with | some x, some y => reOne P ops p.1 x.1 x.2 y.2 | _, _ => false) then tr[ops.size]? else none
  | none => none
end Go.Proofs.YtmmmdmandocbhaaDoor.Den
end
