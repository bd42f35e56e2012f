/- Helpers of this claim: an evaluator over plain values and its laws. -/
import Derived.Test.YtmmmdmandocbhaaOne
import Derived.OrdersIn
import Derived.Below
import Derived.SizedLaws
import GoSem.ClaimChange
import Derived.DataReads
section
/- Operations on slices and pointers that are values go as the machine's. -/
set_option linter.unusedVariables false
set_option linter.unusedSimpArgs false
namespace Go.Proofs.Ytmmmdmandocbhaa.Den
variable {P : Program} {ι : Emb}

theorem opts_rel {a a' : Act} (ha : ActRel ι a a') (x : Option Operand) (h : ∀ y ∈ x, operandOk y = true) : OptRel ι (x.map a.eval) (x.map a'.eval) := by
  cases x with
  | none => trivial
  | some y => exact ha.eval (h y rfl)
theorem args_rel {a a' : Act} (ha : ActRel ι a a') (xs : Array Operand) (h : ∀ y ∈ xs, operandOk y = true) : ARel ι (xs.map a.eval) (xs.map a'.eval) :=
  .map _ _ _ fun k x hk => ha.eval (h x (Array.mem_of_getElem? hk))

theorem of_if' {α : Type} {c : Prop} {d : Decidable c} {x : Option α} {y : α} (h : (@ite _ c d x none) = some y) : c ∧ x = some y := by
  split at h
  · rename_i hc; exact ⟨hc, h⟩
  · cases h
/-- The machine's answer to an operation that looks only. -/
def Looks (P : Program) (ι : Emb) (w : World) (s : Sem Value) (v : Value) : Prop := ∃ v', s.run P w = .ok v' w ∧ VRel ι v v'

theorem vIndexAddr_sound {H w : World} (hrel : Rel P ι H w) {t : TypeId} {x x' y y' v : Value} (hx : VRel ι x x') (hy : VRel ι y y') (h : vIndexAddr P t x y = some v) : Looks P ι w (Instr.indexAt t x' y') v := by
  unfold vIndexAddr at h
  split at h
  case h_2 => cases h
  rename_i tg xs k i
  cases hy
  split at h
  · rename_i elem hu
    split at h
    case h_2 => cases h
    rename_i inf hi
    replace h := of_if' h
    obtain ⟨⟨ht, h0, h1⟩, h⟩ := h
    have ht : @Eq Nat tg (vsT + inf.size) := ht
    simp only [Option.map_eq_some_iff] at h
    obtain ⟨e, he, rfl⟩ := h
    rcases hx.vs_inv (by rw [ht]; exact Nat.le_add_right _ _) with ⟨rfl, a', c', rfl⟩ | ⟨es, b, o, c', cs', hes, hp, hc, hz, hb, hh, rfl⟩
    · simp at he
    · have hes : es = inf.size := by omega
      subst hes
      have hk : i.toNat < xs.size := by omega
      refine ⟨.pointer (some ⟨b, o + i.toNat * inf.size, none⟩), ?_, ?_⟩
      · simp [Instr.indexAt, Go.asIntOf, run_underlying' hu, h0, h1, run_sizeOf' hi, add_plain]
      · refine .rf e.cells b _ cs' hp ?_ fun j y y' hy hy' => hh _ j e y y' he hy hy'
        rw [hz _ _ he]
        have := Nat.mul_le_mul_right inf.size hk
        rw [Nat.succ_mul] at this
        omega
  · rename_i n elem hu
    split at h
    case h_2 => cases h
    rename_i inf hi
    replace h := of_if' h
    obtain ⟨⟨ht, h0, h1, hs⟩, h⟩ := h
    have ht : @Eq Nat tg rfT := ht
    subst ht
    injection h with h; subst h
    obtain ⟨b, o, cs', hp, hb, hh, rfl⟩ := hx.rf_inv
    have hk : i.toNat < n := by omega
    have := Nat.mul_le_mul_right inf.size hk
    rw [Nat.succ_mul] at this
    refine ⟨.pointer (some ⟨b, o + i.toNat * inf.size, none⟩), ?_, ?_⟩
    · simp [Instr.indexAt, Go.asIntOf, Instr.sureAddr, run_underlying' hu, h0, h1, run_sizeOf' hi, add_plain]
    · refine .rf _ b _ cs' hp (by rw [Array.size_extract]; omega) fun j y y' hy hy' => ?_
      rw [Array.getElem?_extract] at hy
      split at hy
      · exact hh _ y y' hy (by rw [← hy']; congr 1; omega)
      · cases hy
  · cases h

theorem vFieldAddr_sound {H w : World} (hrel : Rel P ι H w) {s : TypeId} {f : Nat} {x x' v : Value} (hx : VRel ι x x') (h : vFieldAddr P s f x = some v) : Looks P ι w (Instr.fieldAt s x' f) v := by
  unfold vFieldAddr at h
  split at h
  case h_2 => cases h
  rename_i tg cs
  split at h
  case h_2 => cases h
  rename_i fs hu
  split at h
  case h_2 => cases h
  rename_i fl hf
  split at h
  case h_2 => cases h
  rename_i i hi
  replace h := of_if' h
  obtain ⟨⟨ht, h0, h1⟩, h⟩ := h
  have ht : @Eq Nat tg rfT := ht
  subst ht
  injection h with h; subst h
  obtain ⟨b, o, cs', hp, hb, hh, rfl⟩ := hx.rf_inv
  refine ⟨.pointer (some ⟨b, o + fl.offset, none⟩), ?_, ?_⟩
  · simp [Instr.fieldAt, run_underlying' hu, hf, Instr.sureAddr, fieldPlace, run_sizeOf' hi, h0, add_plain]
  · refine .rf _ b _ cs' hp (by rw [Array.size_extract]; omega) fun j y y' hy hy' => ?_
    rw [Array.getElem?_extract] at hy
    split at hy
    · exact hh _ y y' hy (by rw [← hy']; congr 1; omega)
    · cases hy

theorem run_isAgg' {t : TypeId} {d : TypeDesc} (h : P.underlying t = some d) (w : World) : (Go.isAgg t).run P w = .ok (aggT d) w := by
  simp only [Go.isAgg, Sem.run_bind, run_underlying' h, Result.andThen_ok]
  cases d <;> rfl
theorem vLoad_sound {H w : World} (hrel : Rel P ι H w) {t : TypeId} {x x' v : Value} (hx : VRel ι x x') (h : vLoad P t x = some v) : Looks P ι w (Instr.loadAt t x') v := by
  unfold vLoad at h
  split at h
  case h_2 => cases h
  rename_i tg cs
  split at h
  case h_2 => cases h
  rename_i d inf hu hi
  replace h := of_if' h
  obtain ⟨⟨ht, hs⟩, h⟩ := h
  have ht : @Eq Nat tg rfT := ht
  subst ht
  obtain ⟨b, o, cs', hp, hb, hh, rfl⟩ := hx.rf_inv
  obtain ⟨e, fr, hw⟩ := hrel.pinned hp
  have hla : (Instr.loadAt t (.pointer (some ⟨b, o, none⟩))).run P w = (Go.loadVar t ⟨b, o, none⟩).run P w := by simp [Instr.loadAt, Instr.sureAddr]
  unfold Looks
  rw [hla]
  unfold Go.loadVar
  simp only [Sem.run_bind, run_isAgg' hu, Result.andThen_ok]
  split at h
  · rename_i hd
    injection h with h; subst h
    rw [if_pos hd]
    simp only [Sem.run_bind, run_sizeOf' hi, Result.andThen_ok, run_loadCells_row hw (off := o) (n := inf.size) (by omega), Sem.run_pure]
    refine ⟨_, rfl, .agg _ _ (by rw [Array.size_extract]; omega) fun k y y' hy hy' => ?_⟩
    rw [Array.getElem?_extract] at hy'
    split at hy'
    · exact hh _ y y' hy hy'
    · cases hy'
  · rename_i hd
    rw [if_neg hd]
    have h0 := (Array.getElem?_eq_some_iff.1 h).1
    have hlt : o < cs'.size := by omega
    simp only [run_load, cell_of hw, Array.getElem?_eq_getElem hlt]
    exact ⟨_, rfl, hh 0 _ _ h (by rw [Nat.add_zero, Array.getElem?_eq_getElem hlt])⟩

theorem vBound_some {n d r : Nat} {k : Option Value} (h : vBound n k d = some r) : (k = none ∧ r = d) ∨ ∃ kk i, k = some (.int kk i) ∧ 0 ≤ i ∧ i ≤ n ∧ r = i.toNat := by
  unfold vBound at h
  split at h
  · injection h with h; exact .inl ⟨rfl, h.symm⟩
  · rename_i kk i
    replace h := of_if' h
    obtain ⟨hc, h⟩ := h
    injection h with h
    exact .inr ⟨kk, i, rfl, hc.1, hc.2, h.symm⟩
  · cases h
theorem optRel_int {k : IntKind} {i : Int} {x' : Option Value} (h : OptRel ι (some (.int k i)) x') : x' = some (.int k i) := by
  cases x' with
  | none => exact h.elim
  | some v => cases h; rfl
theorem optRel_none {x' : Option Value} (h : OptRel ι none x') : x' = none := by
  cases x' with
  | none => rfl
  | some v => exact h.elim

/-- What a cut of such a slice shows. -/
theorem vs_cut {es l h : Nat} {xs : Array Value} {b o c' m : Nat} {cs' : Array Value} (hp : ι.fz b = some cs') (hc : xs.size ≤ c') (hz : ∀ (k : Nat) (x : Value), xs[k]? = some x → x.cells.size = es) (hb : o + xs.size * es ≤ cs'.size)
    (hh : ∀ (k j : Nat) (x y y' : Value), xs[k]? = some x → x.cells[j]? = some y → cs'[o + k * es + j]? = some y' → VRel ι y y') (hl : l ≤ h) (hhn : h ≤ xs.size) (hm : h ≤ m) :
    VRel ι (vs es (xs.extract l h)) (.slice (if m = l then some ⟨b, o, none⟩ else (some (⟨b, o, none⟩ : Addr)).map (·.add (l * es))) (h - l) (m - l)) := by
  have hsz : (xs.extract l h).size = h - l := by rw [Array.size_extract]; omega
  by_cases he : h = l
  · subst he
    have : xs.extract h h = #[] := Array.size_eq_zero_iff.1 (by rw [hsz, Nat.sub_self])
    unfold vs
    rw [this, Nat.sub_self]
    split
    · exact .vsE es _ _
    · exact .vsE es _ _
  · rw [if_neg (by omega)]
    simp only [Option.map_some, add_plain]
    have hle : l * es + (h - l) * es ≤ xs.size * es := by
      rw [← Nat.add_mul]
      exact Nat.mul_le_mul_right es (by omega)
    have := VRel.vs (ι := ι) es (xs.extract l h) b (o + l * es) (m - l) cs' hp (by rw [hsz]; omega) (fun k x hx => ?_) (by rw [hsz]; omega) (fun k j x y y' hx hy hy' => ?_)
    · rw [hsz] at this; exact this
    · rw [Array.getElem?_extract] at hx
      split at hx
      · exact hz _ _ hx
      · cases hx
    · rw [Array.getElem?_extract] at hx
      split at hx
      · refine hh _ j x y y' hx hy ?_
        rw [← hy', Nat.add_mul]; congr 1; omega
      · cases hx
theorem vsE_cut {es l h m : Nat} {a' : Addr} (hl : l ≤ h) (hh : h ≤ 0) : VRel ι (vs es ((#[] : Array Value).extract l h)) (.slice (if m = l then some a' else (some a').map (·.add (l * es))) (h - l) (m - l)) := by
  have h1 : (#[] : Array Value).extract l h = #[] := by simp
  have h2 : h - l = 0 := by omega
  unfold vs
  rw [h1, h2]
  split
  · exact .vsE es _ _
  · exact .vsE es _ _
theorem vSliceOp_sound {H w : World} (hrel : Rel P ι H w) {t : TypeId} {x x' v : Value} {lo hi mx lo' hi' mx' : Option Value} (hx : VRel ι x x') (hlo : OptRel ι lo lo') (hhi : OptRel ι hi hi') (hmx : OptRel ι mx mx') (h : vSliceOp P t x lo hi mx = some v) :
    Looks P ι w (Instr.sliceAt t x' lo' hi' mx') v := by
  unfold vSliceOp at h
  split at h
  case h_2 => cases h
  rename_i tg xs
  split at h
  case h_2 => cases h
  rename_i elem hu
  split at h
  case h_2 => cases h
  rename_i inf hin
  replace h := of_if' h
  obtain ⟨ht, h⟩ := h
  have ht : @Eq Nat tg (vsT + inf.size) := ht
  -- the machine's cut
  have cut : ∀ (l hh m n c' : Nat) (a' : Addr), (Instr.sliceBounds true n c' lo' hi' mx').run P w = .ok (l, hh, m) w →
      (Instr.sliceAt t (.slice (some a') n c') lo' hi' mx').run P w = .ok (.slice (if m = l then some a' else (some a').map (·.add (l * inf.size))) (hh - l) (m - l)) w := by
    intro l hh m n c' a' hr
    simp only [Instr.sliceAt, Instr.slice, Sem.run_bind, run_underlying' hu, Result.andThen_ok, hr, run_sizeOf' hin, Sem.run_pure]
  have bounds : ∃ l hh, v = vs inf.size (xs.extract l hh) ∧ l ≤ hh ∧ hh ≤ xs.size ∧ ∀ c', xs.size ≤ c' → ∃ m, hh ≤ m ∧ (Instr.sliceBounds true xs.size c' lo' hi' mx').run P w = .ok (l, hh, m) w := by
    unfold vSlice at h
    split at h
    · have hmx := optRel_none hmx
      subst hmx
      split at h
      case h_2 => cases h
      rename_i hh hhe
      split at h
      case h_2 => cases h
      rename_i l hle
      injection h with h; subst h
      refine ⟨l, hh, rfl, ?_⟩
      rcases vBound_some hhe with ⟨rfl, rfl⟩ | ⟨k1, i1, rfl, h10, h11, rfl⟩ <;> rcases vBound_some hle with ⟨rfl, rfl⟩ | ⟨k2, i2, rfl, h20, h21, rfl⟩
      · rw [optRel_none hhi, optRel_none hlo]
        exact ⟨by omega, by omega, fun c' hc => ⟨c', hc, by simp [Instr.sliceBounds]⟩⟩
      · rw [optRel_none hhi, optRel_int hlo]
        exact ⟨by omega, by omega, fun c' hc => ⟨c', hc, by simp [Instr.sliceBounds, sliceBound_ok _ h20 h21]⟩⟩
      · rw [optRel_int hhi, optRel_none hlo]
        refine ⟨by omega, by omega, fun c' hc => ⟨c', by omega, ?_⟩⟩
        have : i1 ≤ (c' : Nat) := by omega
        simp [Instr.sliceBounds, sliceBound_ok _ h10 this]
      · rw [optRel_int hhi, optRel_int hlo]
        refine ⟨by omega, by omega, fun c' hc => ⟨c', by omega, ?_⟩⟩
        have : i1 ≤ (c' : Nat) := by omega
        simp [Instr.sliceBounds, sliceBound_ok _ h10 this, sliceBound_ok _ h20 h21]
    · cases h
    · rename_i m0 h0
      split at h
      case h_2 => cases h
      rename_i m hme
      split at h
      case h_2 => cases h
      rename_i hh hhe
      split at h
      case h_2 => cases h
      rename_i l hle
      injection h with h; subst h
      refine ⟨l, hh, rfl, ?_⟩
      rcases vBound_some hme with ⟨h', _⟩ | ⟨k3, i3, h3, h30, h31, rfl⟩
      · cases h'
      injection h3 with h3; subst h3
      rcases vBound_some hhe with ⟨h', _⟩ | ⟨k1, i1, h1, h10, h11, rfl⟩
      · cases h'
      injection h1 with h1; subst h1
      rcases vBound_some hle with ⟨rfl, rfl⟩ | ⟨k2, i2, rfl, h20, h21, rfl⟩
      · rw [optRel_int hmx, optRel_int hhi, optRel_none hlo]
        refine ⟨by omega, by omega, fun c' hc => ⟨i3.toNat, by omega, ?_⟩⟩
        have : i3 ≤ (c' : Nat) := by omega
        simp [Instr.sliceBounds, sliceBound_ok _ h30 this, sliceBound_ok _ h10 h11]
      · rw [optRel_int hmx, optRel_int hhi, optRel_int hlo]
        refine ⟨by omega, by omega, fun c' hc => ⟨i3.toNat, by omega, ?_⟩⟩
        have : i3 ≤ (c' : Nat) := by omega
        simp [Instr.sliceBounds, sliceBound_ok _ h30 this, sliceBound_ok _ h10 h11, sliceBound_ok _ h20 h21]
  obtain ⟨l, hh, rfl, hl, hhn, hbd⟩ := bounds
  rcases hx.vs_inv (by rw [ht]; exact Nat.le_add_right _ _) with ⟨rfl, a', c', rfl⟩ | ⟨es, b, o, c', cs', hes, hp, hc, hz, hb, hhh, rfl⟩
  · obtain ⟨m, hm, hr⟩ := hbd c' (by simp)
    exact ⟨_, cut _ _ _ _ _ _ hr, vsE_cut hl (by simpa using hhn)⟩
  · have hes : es = inf.size := by omega
    subst hes
    obtain ⟨m, hm, hr⟩ := hbd c' hc
    exact ⟨_, cut _ _ _ _ _ _ hr, vs_cut hp hc hz hb hhh hl hhn hm⟩

theorem push_strOf : ∀ (l : List Value) (s : ByteArray), l.foldl (fun s v => s.push (byteV v)) s = ⟨s.data ++ (l.map byteV).toArray⟩
  | [], s => by simp
  | v :: l, s => by
    simp only [List.foldl_cons, push_strOf l, List.map_cons]
    congr 1
    apply Array.toList_inj.1
    simp [ByteArray.push]
theorem forIn_bytes (w : World) : ∀ (l : List Value) (s : ByteArray), (∀ x ∈ l, isU8 x = true) →
    (forIn l s fun c s => (match c with | .int .u8 n => Pure.pure (ForInStep.yield (s.push (UInt8.ofNat n.toNat))) | x => do stuck "bytesToString: byte expected"; Pure.pure (ForInStep.yield s) : Sem (ForInStep ByteArray))).run P w = .ok (l.foldl (fun s v => s.push (byteV v)) s) w
  | [], s, h => by rw [List.forIn_nil]; rfl
  | v :: l, s, h => by
    rw [List.forIn_cons]
    have hv := h v List.mem_cons_self
    have hl := fun s => forIn_bytes w l s fun x hx => h x (List.mem_cons_of_mem _ hx)
    cases v with
    | int k n =>
      cases k <;> first | (cases hv; done) | skip
      simp only [Sem.run_bind, Sem.run_pure, Result.andThen_ok, List.foldl_cons]
      exact hl _
    | _ => cases hv
theorem vConv_sound {H w : World} (hrel : Rel P ι H w) {src dst : TypeId} {x x' v : Value} (hx : VRel ι x x') (h : vConv P src dst x = some v) : Looks P ι w (Go.convert src dst x') v := by
  unfold vConv at h
  split at h
  case h_2 => cases h
  rename_i tg xs
  split at h
  case h_2 => cases h
  rename_i e hu1 hu2
  split at h
  case h_2 => cases h
  rename_i hue
  replace h := of_if' h
  obtain ⟨⟨ht, hall⟩, h⟩ := h
  have ht : @Eq Nat tg (vsT + 1) := ht
  injection h with h; subst h
  refine ⟨_, ?_, .string _⟩
  rcases hx.vs_inv (by rw [ht]; exact Nat.le_add_right _ _) with ⟨rfl, a', c', rfl⟩ | ⟨es, b, o, c', cs', hes, hp, hc, hz, hb, hh, rfl⟩
  · simp [Go.convert, run_underlying' hu1, run_underlying' hu2, run_underlying' hue, Conv.bytesToString, loadCells, loadCellsFrom, strOf]
    rfl
  · have hes : es = 1 := by omega
    subst hes
    obtain ⟨e, fr, hw⟩ := hrel.pinned hp
    have hcells : cs'.extract o (o + xs.size) = xs := by
      apply Array.ext_getElem?
      intro k
      rw [Array.getElem?_extract]
      by_cases hk : k < xs.size
      · rw [if_pos (by omega), Array.getElem?_eq_getElem hk]
        have hlt : o + k < cs'.size := by omega
        rw [Array.getElem?_eq_getElem hlt]
        have hu := (Array.all_eq_true.1 hall) k hk
        have hxk := Array.getElem?_eq_getElem hk
        cases hxe : xs[k] with
        | int kk n =>
          rw [hxe] at hxk
          have hv := hh k 0 (.int kk n) (.int kk n) _ hxk rfl (by rw [Nat.mul_one, Nat.add_zero, Array.getElem?_eq_getElem hlt])
          generalize cs'[o + k] = z at hv
          cases hv; rfl
        | _ => rw [hxe] at hu; cases hu
      · rw [if_neg (by omega), Array.getElem?_eq_none (by omega)]
    have hall' : ∀ x ∈ xs.toList, isU8 x = true := fun x hx => by
      obtain ⟨k, hk⟩ := List.getElem?_of_mem hx
      obtain ⟨hlt, rfl⟩ := Array.getElem?_eq_some_iff.1 (by simpa using hk)
      exact (Array.all_eq_true.1 hall) k hlt
    have hf := forIn_bytes (P := P) w xs.toList .empty hall'
    rw [push_strOf] at hf
    simp only [Go.convert, Sem.run_bind, run_underlying' hu1, run_underlying' hu2, run_underlying' hue, Result.andThen_ok, Conv.bytesToString, run_loadCells_row hw (off := o) (n := xs.size) (by omega), hcells, ← Array.forIn_toList]
    simp only [Sem.run_bind, Sem.run_pure, Result.andThen_ok]
    refine (congrArg (fun r => Result.andThen r _) hf).trans ?_
    simp [strOf]

theorem vNil_sound {t : TypeId} {w : World} {x x' y y' : Value} {b : Bool} (hx : VRel ι x x') (hy : VRel ι y y') (h : vNil P t x y = some b) (ox oy : Operand) :
    (do Go.eqGuard .eql t ox oy x' y'; Go.binOp .eql t x' y').run P w = .ok (.bool b) w ∧ (do Go.eqGuard .neq t ox oy x' y'; Go.binOp .neq t x' y').run P w = .ok (.bool !b) w := by
  have sl : ∀ {tg : Nat} {cs : Array Value} {v' : Value}, vsT ≤ tg → VRel ι (.iface tg (.tuple cs)) v' → ∃ a n c, v' = .slice (some a) n c := by
    intro tg cs v' ht hv
    rcases hv.vs_inv ht with ⟨_, a', c', rfl⟩ | ⟨es, b, o, c', cs', _, _, _, _, _, _, rfl⟩
    · exact ⟨_, _, _, rfl⟩
    · exact ⟨_, _, _, rfl⟩
  have key : ∀ d, (Op.equalIn (d + 1) t x' y').run P w = .ok b w ∧ ((∃ a n c, x' = .slice a n c ∧ ∃ a n c, y' = .slice a n c) ∨ (∃ a, x' = .pointer a ∧ ∃ a, y' = .pointer a)) := by
    intro d
    unfold vNil at h
    split at h
    · rename_i tg cs n c
      split at h
      case h_2 => cases h
      rename_i hu
      replace h := of_if' h
      obtain ⟨ht, h⟩ := h
      injection h with h; subst h
      obtain ⟨a, n', c', rfl⟩ := sl ht hx
      cases hy
      exact ⟨by simp only [Op.equalIn, Sem.run_bind, run_underlying' hu, Result.andThen_ok, Sem.run_pure, Option.isNone_some], .inl ⟨_, _, _, rfl, _, _, _, rfl⟩⟩
    · rename_i n c tg cs
      split at h
      case h_2 => cases h
      rename_i hu
      replace h := of_if' h
      obtain ⟨ht, h⟩ := h
      injection h with h; subst h
      obtain ⟨a, n', c', rfl⟩ := sl ht hy
      cases hx
      exact ⟨by simp only [Op.equalIn, Sem.run_bind, run_underlying' hu, Result.andThen_ok, Sem.run_pure, Option.isNone_some], .inl ⟨_, _, _, rfl, _, _, _, rfl⟩⟩
    · rename_i tg cs
      split at h
      case h_2 => cases h
      rename_i hu
      replace h := of_if' h
      obtain ⟨ht, h⟩ := h
      have ht : @Eq Nat tg rfT := ht
      subst ht
      injection h with h; subst h
      obtain ⟨b, o, cs', hp, hb, hh, rfl⟩ := hx.rf_inv
      cases hy
      exact ⟨by simp only [Op.equalIn, Sem.run_bind, run_underlying' hu, Result.andThen_ok, Sem.run_pure], .inr ⟨_, rfl, _, rfl⟩⟩
    · rename_i tg cs
      split at h
      case h_2 => cases h
      rename_i hu
      replace h := of_if' h
      obtain ⟨ht, h⟩ := h
      have ht : @Eq Nat tg rfT := ht
      subst ht
      injection h with h; subst h
      obtain ⟨b, o, cs', hp, hb, hh, rfl⟩ := hy.rf_inv
      cases hx
      exact ⟨by simp only [Op.equalIn, Sem.run_bind, run_underlying' hu, Result.andThen_ok, Sem.run_pure, Option.isNone_some], .inr ⟨_, rfl, _, rfl⟩⟩
    · cases h
  obtain ⟨he, ⟨a, n, c, rfl, a2, n2, c2, rfl⟩ | ⟨a, rfl, a2, rfl⟩⟩ := key 9999
  · have he : (Op.equal t (.slice a n c) (.slice a2 n2 c2)).run P w = .ok b w := he
    constructor <;> simp only [Go.eqGuard, Go.binOp, Sem.run_bind, Sem.run_pure, Result.andThen_ok] <;> simp [he]
  · have he : (Op.equal t (.pointer a) (.pointer a2)).run P w = .ok b w := he
    constructor <;> simp only [Go.eqGuard, Go.binOp, Sem.run_bind, Sem.run_pure, Result.andThen_ok] <;> simp [he]

theorem arr1' {α : Type} {vs : Array α} (d : α) (h : vs.size = 1) : vs = #[vs.getD 0 d] := by
  apply Array.ext
  · simp [h]
  · intro i h1 h2
    have : i = 0 := by omega
    subst this
    simp [Array.getD, h]
theorem pureD_sound {H w : World} (hrel : Rel P ι H w) {o : Oper} {a a' : Act} (ha : ActRel ι a a') (hops : ∀ x ∈ o.op.operands, operandOk x = true) {v : Value} (h : pureD P o.op a.eval = some v) :
    ∃ v', (execOp a'.eval o).run P w = .ok (.value v') w ∧ VRel ι v v' := by
  obtain ⟨dst, op, ty, pos, guard, after⟩ := o
  have val : ∀ {s : Sem Value}, Looks P ι w s v → execOp a'.eval ⟨dst, op, ty, pos, guard, after⟩ = (do Pure.pure (Next.value (← s))) → ∃ v', (execOp a'.eval ⟨dst, op, ty, pos, guard, after⟩).run P w = .ok (.value v') w ∧ VRel ι v v' := by
    intro s hs he
    obtain ⟨v', hr, hv⟩ := hs
    exact ⟨v', by rw [he]; simp only [Sem.run_bind, hr, Result.andThen_ok, Sem.run_pure], hv⟩
  cases op
  all_goals simp only [Op.operands] at hops
  all_goals simp only [pureD] at h
  case indexAddr t x y => exact val (vIndexAddr_sound hrel (ha.eval (hops x (by simp))) (ha.eval (hops y (by simp))) h) rfl
  case fieldAddr t x f => exact val (vFieldAddr_sound hrel (ha.eval (hops x (by simp))) h) rfl
  case load t x => exact val (vLoad_sound hrel (ha.eval (hops x (by simp))) h) rfl
  case slice t x lo hi mx =>
    exact val (vSliceOp_sound hrel (ha.eval (hops x (by simp))) (opts_rel ha lo fun y hy => hops y (by cases hy; simp)) (opts_rel ha hi fun y hy => hops y (by cases hy; simp)) (opts_rel ha mx fun y hy => hops y (by cases hy; simp)) h) rfl
  case convert src dst x => exact val (vConv_sound hrel (ha.eval (hops x (by simp))) h) rfl
  case nilCheck x =>
    have hx := ha.eval (hops x (by simp))
    split at h
    case h_2 => cases h
    rename_i tg cs hp
    replace h := of_if' h
    obtain ⟨ht, h⟩ := h
    have ht : @Eq Nat tg rfT := ht
    subst ht
    injection h with h; subst h
    rw [hp] at hx
    have hx0 := hx
    obtain ⟨b, o, cs', hpp, hb, hh, hx'⟩ := hx.rf_inv
    exact ⟨a'.eval x, by simp only [execOp, hx', Sem.run_pure], hx0⟩
  case binOp bop t x y yt =>
    cases bop <;> first | (cases h; done) | skip
    · simp only [Option.map_eq_some_iff] at h
      obtain ⟨b, h, rfl⟩ := h
      exact val ⟨_, (vNil_sound (w := w) (ha.eval (hops x (by simp))) (ha.eval (hops y (by simp))) h x y).1, .bool _⟩ rfl
    · simp only [Option.map_eq_some_iff] at h
      obtain ⟨b, h, rfl⟩ := h
      exact val ⟨_, (vNil_sound (w := w) (ha.eval (hops x (by simp))) (ha.eval (hops y (by simp))) h x y).2, .bool _⟩ rfl
  case call c =>
    split at h
    case h_2 => cases h
    rename_i hb
    replace h := of_if' h
    obtain ⟨⟨h1, h2⟩, h⟩ := h
    have hargs : ARel ι (c.args.map a.eval) (c.args.map a'.eval) := args_rel ha c.args fun y hy => hops y (by simp only [Call.operands, Array.mem_append]; exact .inr hy)
    have h0 := hargs.getD 0 (d := undef) (d' := undef) .undef
    have e := arr1' (vs := c.args.map a'.eval) undef (by simpa using h1)
    have e2 := arr1' (vs := c.argTypes) 0 h2
    generalize (c.args.map a.eval).getD 0 undef = x at h0 h
    generalize (c.args.map a'.eval).getD 0 undef = x' at h0 e
    generalize c.argTypes.getD 0 0 = t at h e2
    unfold vLen at h
    split at h
    case h_2 => cases h
    rename_i tg xs
    split at h
    case h_2 => cases h
    rename_i hu
    replace h := of_if' h
    obtain ⟨ht, h⟩ := h
    injection h with h; subst h
    refine ⟨goInt xs.size, ?_, .int _ _⟩
    have key : ∀ (m : Nat) aa c0, x' = .slice aa m c0 → m = xs.size → (execOp a'.eval ⟨dst, .call c, ty, pos, guard, after⟩).run P w = .ok (.value (goInt xs.size)) w := by
      intro m aa c0 hx' hm
      subst hm
      simp only [execOp, resolve, hb, Sem.run_bind, Sem.run_pure, Result.andThen_ok, invoke]
      rw [e, hx', e2]
      simp [Go.builtin, Builtin.len_, run_underlying' hu]
    rcases h0.vs_inv ht with ⟨rfl, a', c', rfl⟩ | ⟨es, b, o, c', cs', _, _, _, _, _, _, rfl⟩
    · exact key 0 _ _ rfl rfl
    · exact key _ _ _ rfl rfl
  all_goals cases h
end Go.Proofs.Ytmmmdmandocbhaa.Den
end

section
/- Every operation goes side by side, all together. -/
set_option linter.unusedVariables false
set_option linter.unusedSimpArgs false
namespace Go.Proofs.Ytmmmdmandocbhaa.Den
variable {P : Program} {ι : Emb}

theorem of_if {α : Type} {c : Prop} {d : Decidable c} {x : Option α} {y : α} (h : (@ite _ c d x none) = some y) : c ∧ x = some y := by
  cases d with
  | isTrue hc => exact ⟨hc, h⟩
  | isFalse hc => cases h
theorem arr2 {vs : Array Value} (h : vs.size = 2) : vs = #[vs.getD 0 undef, vs.getD 1 undef] := by
  apply Array.ext
  · simpa using h
  · intro i h1 h2
    have : i = 0 ∨ i = 1 := by omega
    rcases this with rfl | rfl <;> simp [Array.getD, h]
theorem arr1 {α : Type} {vs : Array α} (d : α) (h : vs.size = 1) : vs = #[vs.getD 0 d] := by
  apply Array.ext
  · simpa using h
  · intro i h1 h2
    have : i = 0 := by omega
    subst this; simp [Array.getD, h]

theorem copyV_sound {H w H1 : World} (hrel : Rel P ι H w) {ts : Array TypeId} {ty : TypeId} {d d' x x' v : Value} (hd : VRel ι d d') (hx : VRel ι x x') (h : copyV P ts d x H = some (v, H1)) :
    Goes P ι H w H1 (Builtin.copy_ ts ty #[d', x']) VRel v := by
  unfold copyV at h
  split at h
  case h_2 => cases h
  rename_i b n c e hu
  obtain ⟨dt, ht, hu⟩ := Option.bind_eq_some_iff.1 hu
  cases hi : P.info? e with
  | none => rw [hi] at h; cases h
  | some inf =>
  rw [hi] at h
  simp only at h
  cases hc : cellsOfD P inf.size x H with
  | none => rw [hc] at h; cases h
  | some mc =>
  obtain ⟨m, cs⟩ := mc
  rw [hc] at h
  simp only at h
  split at h
  case isFalse => cases h
  rename_i hmn
  obtain ⟨cs', hrun, hcs, hsz⟩ := cellsOfD_sound hrel hx hc
  have hl := (hrun w.drawn).1
  have hf := (hrun w.drawn).2
  have hmin : Nat.min m n = m := Nat.min_eq_left hmn
  cases hd with
  | slNil n c =>
    simp only [Option.some.injEq, Prod.mk.injEq] at h
    obtain ⟨rfl, rfl⟩ := h
    refine .here hrel (x' := goInt m) ?_ (.int _ _)
    have hl' : (Builtin.lenOf x').run P w = .ok m w := hl
    have hf' : (Builtin.firstCells inf.size m x').run P w = .ok cs' w := hf
    simp only [Builtin.copy_, ht, List.getElem?_toArray, List.getElem?_cons_zero, List.getElem?_cons_succ, Sem.run_bind, run_underlying' hu, Result.andThen_ok, hl', run_sizeOf' hi, hmin, hf', Sem.run_pure]
  | sl i o n c a' c' r hr hs =>
    simp only [Option.map_eq_some_iff] at h
    obtain ⟨⟨u, H2⟩, hst, h⟩ := h
    simp only [Prod.mk.injEq] at h
    obtain ⟨rfl, rfl⟩ := h
    have hl' : (Builtin.lenOf x').run P w = .ok m w := hl
    have hf' : (Builtin.firstCells inf.size m x').run P w = .ok cs' w := hf
    obtain ⟨s1, s2, s3, _⟩ := hs
    have key : Goes P ι H w H2 (storeCells a' cs'.toList) (fun _ _ _ => True) u := by
      rcases s3 with rfl | s3
      · exact (Sim.storeCells cs.toList cs'.toList 0 ι hr hcs.toList).goes hrel hst
      · have hm0 : m = 0 := by omega
        subst hm0
        have e0 : cs = #[] := Array.eq_empty_of_size_eq_zero (by rw [hsz, Nat.zero_mul])
        subst e0
        have e1 : cs' = #[] := Array.eq_empty_of_size_eq_zero hcs.1.symm
        subst e1
        have hst := okRun_some hst
        simp only [storeCells, Sem.run_pure, Result.ok.injEq] at hst
        obtain ⟨_, rfl⟩ := hst
        exact .here hrel (x' := ()) (by simp only [storeCells, Sem.run_pure]) trivial
    obtain ⟨ι1, u', w1, hrun1, hstep, _⟩ := key
    refine ⟨ι1, goInt m, w1, ?_, hstep, .int _ _⟩
    simp only [Builtin.copy_, ht, List.getElem?_toArray, List.getElem?_cons_zero, List.getElem?_cons_succ, Sem.run_bind, run_underlying' hu, Result.andThen_ok, hl', run_sizeOf' hi, hmin, hf', hrun1, Sem.run_pure]

theorem builtinD_sound (hP : Good P) {H w H1 : World} (hrel : Rel P ι H w) {b : Builtin} {ts : Array TypeId} {ty : TypeId} {cs : Array Bool} {vs vs' : Array Value} (hv : ARel ι vs vs') {v : Value} (h : builtinD P b ts vs H = some (v, H1)) :
    Goes P ι H w H1 (Go.builtin b ts ty cs vs') NRel (.value v) := by
  have h0 : VRel ι (vs.getD 0 undef) (vs'.getD 0 undef) := hv.getD 0 .undef
  have h1 : VRel ι (vs.getD 1 undef) (vs'.getD 1 undef) := hv.getD 1 .undef
  unfold builtinD at h
  split at h
  · split at h
    case isFalse => cases h
    rename_i hs
    have e := arr2 (vs := vs') (hv.1 ▸ hs)
    have := lappend_sound hP hrel (ty := ty) h0 h1 h
    rw [← e] at this
    exact this.val
  · split at h
    case isFalse => cases h
    rename_i hs
    have e := arr1 (vs := vs') undef (hv.1 ▸ hs.1)
    have e2 := arr1 (vs := ts) 0 hs.2
    simp only [Option.map_eq_some_iff] at h
    obtain ⟨n, h, e3⟩ := h
    cases e3
    have := len_sound hrel (ty := ty) h0 h
    rw [← e, ← e2] at this
    exact Goes.val (.here hrel this (.int _ _))
  · split at h
    case isFalse => cases h
    rename_i hs
    have e := arr2 (vs := vs') (hv.1 ▸ hs)
    simp only [Option.bind_eq_some_iff, Option.map_eq_some_iff] at h
    obtain ⟨t, ht, H2, h, e3⟩ := h
    cases e3
    have := delete_sound hrel (ty := ty) ht h0 h1 h
    rw [← e] at this
    exact this.val
  · split at h
    · rename_i b n c hb
      exact ((Sim.clearSlice hP ts 0 hv hb).goes hrel h).val
    · split at h
      case isFalse => cases h
      rename_i hs
      have e := arr1 (vs := vs') undef (hv.1 ▸ hs.1)
      have e2 := arr1 (vs := ts) 0 hs.2
      simp only [Option.map_eq_some_iff] at h
      obtain ⟨n, h, e3⟩ := h
      cases e3
      have := clear_sound hrel (ty := ty) h0 h
      rw [← e, ← e2] at this
      exact this.val
  · split at h
    · split at h
      case isFalse => cases h
      rename_i hs
      have e := arr2 (vs := vs') (hv.1 ▸ hs)
      have := copyV_sound hrel (ty := ty) h0 h1 h
      rw [← e] at this
      exact this.val
    · exact ((Sim.copy ts 0 hv).goes hrel h).val
  · split at h
    case isFalse => cases h
    rename_i hs
    have e := arr2 (vs := vs') (hv.1 ▸ hs)
    split at h
    case h_2 => cases h
    rename_i k x l y hx hy
    cases h
    rw [hx] at h0; rw [hy] at h1
    generalize vs'.getD 0 undef = a at h0 e
    generalize vs'.getD 1 undef = b at h1 e
    cases h0; cases h1
    rw [e]
    exact Goes.val (.here hrel (by simp [Builtin.max_, Builtin.max2]) (.int _ _))
  · split at h
    case isFalse => cases h
    rename_i hs
    have e := arr2 (vs := vs') (hv.1 ▸ hs)
    split at h
    case h_2 => cases h
    rename_i k x l y hx hy
    cases h
    rw [hx] at h0; rw [hy] at h1
    generalize vs'.getD 0 undef = a at h0 e
    generalize vs'.getD 1 undef = b at h1 e
    cases h0; cases h1
    rw [e]
    exact Goes.val (.here hrel (by simp [Builtin.min_, Builtin.min2]) (.int _ _))
  · cases h

theorem callOpD_sound (hP : Good P) {H w H1 : World} (hrel : Rel P ι H w) {c : Call} {ty : TypeId} {a a' : Act} (ha : ActRel ι a a') (hops : ∀ x ∈ c.operands, operandOk x = true) {nx : Next} (h : callOpD P c a H = some (nx, H1)) :
    Goes P ι H w H1 (do let d ← resolve a'.eval c ty; invoke d.target d.args) NRel nx := by
  unfold callOpD at h
  have hargs : ARel ι (c.args.map a.eval) (c.args.map a'.eval) := args_rel ha c.args fun y hy => hops y (by simp only [Call.operands, Array.mem_append]; exact .inr hy)
  split at h
  · rename_i b hb
    simp only [Option.map_eq_some_iff] at h
    obtain ⟨⟨v, H2⟩, h, e⟩ := h
    cases e
    obtain ⟨ι1, x', w1, hr, hs, hv⟩ := builtinD_sound hP hrel (ty := ty) (cs := c.args.map fun | .const _ => true | _ => false) hargs h
    refine ⟨ι1, x', w1, ?_, hs, hv⟩
    simp only [resolve, hb, Sem.run_bind, Sem.run_pure, Result.andThen_ok, invoke]
    exact hr
  · rename_i g hg
    simp only [Option.map_eq_some_iff] at h
    obtain ⟨v, h, e⟩ := h
    cases e
    obtain ⟨d, x', h1, h2, h3⟩ := callD_sound hrel (ha.eval (hops g (by simp [Call.operands, hg]))) hargs h
    refine ⟨ι, x', w, ?_, .refl hrel, h3⟩
    simp only [resolve, hg, Sem.run_bind, h1, Result.andThen_ok, h2]
  · cases h

theorem semD_sound (hP : Good P) {H w H1 : World} (hrel : Rel P ι H w) {o : Oper} {a a' : Act} (ha : ActRel ι a a') {nx : Next} (h : semD P o a H = some (nx, H1)) :
    Goes P ι H w H1 (execOp a'.eval o) NRel nx ∧ ∀ c, o.op ≠ .defer c := by
  unfold semD at h
  split at h
  · cases h
  rename_i hops
  have hops2 : ∀ x ∈ o.op.operands, operandOk x = true := by
    simp only [Bool.not_eq_true, Bool.not_eq_false', Array.all_eq_true_iff_forall_mem] at hops
    exact hops
  clear hops
  have hops := hops2
  clear hops2
  obtain ⟨dst, op, ty, pos, guard, after⟩ := o
  refine ⟨?_, fun c e => by simp only at e; subst e; simp [okOp, pureD] at h⟩
  cases hpd : pureD P op a.eval with
  | some v =>
    rw [hpd] at h
    injection h with h; injection h with h1 h2; subst h1 h2
    obtain ⟨v', hr, hv⟩ := pureD_sound (o := ⟨dst, op, ty, pos, guard, after⟩) hrel ha hops hpd
    exact ⟨ι, .value v', w, hr, .refl hrel, .value _ _ hv⟩
  | none =>
  rw [hpd] at h
  simp only at h
  clear hpd
  cases op
  all_goals simp only [Op.operands] at hops
  all_goals simp only at h
  case slice t x lo hi mx =>
    simp only [Option.map_eq_some_iff] at h
    obtain ⟨⟨v, H2⟩, h, e⟩ := h
    cases e
    exact (lslice_sound hrel (ha.eval (hops x (by simp))) (opts_rel ha lo fun y hy => hops y (by cases hy; simp)) (opts_rel ha hi fun y hy => hops y (by cases hy; simp)) (opts_rel ha mx fun y hy => hops y (by cases hy; simp)) h).val
  case binOp bop t x y yt =>
    have hx := ha.eval (hops x (by simp))
    have hy := ha.eval (hops y (by simp))
    unfold binD at h
    split at h
    · rename_i hf
      simp only [Bool.and_eq_true] at hf
      have ex := hx.const_eq (flatFor_constOk hf.1)
      have ey := hy.const_eq (flatFor_constOk hf.2)
      split at h
      case h_2 => cases h
      rename_i v H2 hr
      split at h
      case isFalse => cases h
      rename_i hv
      cases h
      obtain ⟨rfl, hw⟩ := HF.binAll bop t x y hf.1 hf.2 _ _ _ (okRun_some hr)
      refine Goes.val (.here hrel (x' := v) ?_ (constOk1_rel (flat1_constOk1 hv)))
      rw [ex, ey]; exact hw w
    · split at h
      · simp only [Option.map_eq_some_iff] at h
        obtain ⟨r, h, e⟩ := h
        cases e
        exact Goes.val (.here hrel (eqBin_sound hrel hx hy h x y).1 (.bool _))
      · simp only [Option.map_eq_some_iff] at h
        obtain ⟨r, h, e⟩ := h
        cases e
        exact Goes.val (.here hrel (eqBin_sound hrel hx hy h x y).2 (.bool _))
      · cases h
  case convert src dst x =>
    simp only [Option.map_eq_some_iff] at h
    obtain ⟨⟨v, H2⟩, h, e⟩ := h
    cases e
    exact (convD_sound hrel (ha.eval (hops x (by simp))) h).val
  case lookup t m k ok =>
    simp only [Option.map_eq_some_iff] at h
    obtain ⟨v, h, e⟩ := h
    cases e
    exact (lookup_sound hP hrel (ha.eval (hops m (by simp))) (ha.eval (hops k (by simp))) h).val
  case mapUpdate t m k v =>
    simp only [Option.map_eq_some_iff] at h
    obtain ⟨H2, h, e⟩ := h
    cases e
    exact (mapUpdate_sound hrel (ha.eval (hops m (by simp))) (ha.eval (hops k (by simp))) (ha.eval (hops v (by simp))) h).unit
  case insert t m k v =>
    simp only [Option.map_eq_some_iff] at h
    obtain ⟨H2, h, e⟩ := h
    cases e
    exact (mapUpdate_sound hrel (ha.eval (hops m (by simp))) (ha.eval (hops k (by simp))) (ha.eval (hops v (by simp))) h).unit
  case nilCheck x =>
    have hx := ha.eval (hops x (by simp))
    split at h
    · rename_i p hp
      cases h
      rw [hp] at hx
      obtain ⟨i, o, r, rfl, hr, hx'⟩ := hx.pointer_some
      refine ⟨ι, .value (a'.eval x), w, ?_, .refl hrel, ?_⟩
      · simp only [execOp, hx', Sem.run_pure]
      · rw [hx']; exact .value _ _ (.ptr i o r hr)
    · rename_i f fs cs hp
      cases h
      rw [hp] at hx
      refine ⟨ι, .value (a'.eval x), w, ?_, .refl hrel, .value _ _ hx⟩
      generalize hxe : a'.eval x = x' at hx
      cases hx with
      | func fn fn' fs fs' cs cs' h _ _ _ _ =>
        cases h
        simp only [execOp, hxe, Sem.run_pure]
    · cases h
  case call c => exact callOpD_sound hP hrel ha hops h
  all_goals
    have hok := (of_if h).1
    replace h := (of_if h).2
    first | (exfalso; cases hok; done) | skip
  case move x =>
    exact (Sim.pure fun ι1 hle => NRel.value _ _ ((ha.eval (hops x (by simp))).mono hle)).goes hrel h
  case assign x =>
    exact (Sim.pure fun ι1 hle => NRel.value _ _ ((ha.eval (hops x (by simp))).mono hle)).goes hrel h
  case pick c x y =>
    refine Sim.goes (s' := execOp a'.eval ⟨dst, .pick c x y, ty, pos, guard, after⟩) ?_ hrel h
    simp only [execOp]
    refine (VRel.bool' (ha.eval (hops c (by simp)))).bind fun ι1 b b' hle hb => ?_
    subst hb
    refine .pure fun ι2 hle2 => .value _ _ ?_
    split
    · exact (ha.eval (hops x (by simp))).mono (Emb.le_trans hle hle2)
    · exact (ha.eval (hops y (by simp))).mono (Emb.le_trans hle hle2)
  case alloc e => exact (Sim.alloc hP e).val.goes hrel h
  case box e x => exact (Sim.box e (ha.eval (hops x (by simp)))).val.goes hrel h
  case build t ps => exact (Sim.build hP t (parts_rel ha (parts := ps) fun x hx => hops x (by simpa using hx))).val.goes hrel h
  case buildSlice t n ps => exact (Sim.buildSlice hP t n (parts_rel ha (parts := ps) fun x hx => hops x (by simpa using hx))).val.goes hrel h
  case load t x => exact (Sim.loadAt t (ha.eval (hops x (by simp)))).val.goes hrel h
  case store t x y => exact (Sim.storeAt t (ha.eval (hops x (by simp))) (ha.eval (hops y (by simp)))).unit.goes hrel h
  case unOp op t x => exact (Sim.unary op (ha.eval (hops x (by simp)))).val.goes hrel h
  case makeSlice t x y => exact (Sim.makeSlice hP t (ha.eval (hops x (by simp))) (ha.eval (hops y (by simp)))).val.goes hrel h
  case field t x f => exact (Sim.field t f (ha.eval (hops x (by simp)))).val.goes hrel h
  case indexAddr t x y => exact (Sim.indexAt t (ha.eval (hops x (by simp))) (ha.eval (hops y (by simp)))).val.goes hrel h
  case index t x y => exact (Sim.index t (ha.eval (hops x (by simp))) (ha.eval (hops y (by simp)))).val.goes hrel h
  case extract x n => exact (Sim.extract (ha.eval (hops x (by simp))) n).val.goes hrel h
  case fieldAddr t x f =>
    exact (Sim.fieldAt hok (ha.eval (hops x (by simp)))).val.goes hrel h
  case makeFunc f fs cs =>
    cases f with
    | func f =>
      refine Sim.goes (s' := execOp a'.eval ⟨dst, .makeFunc (.func f) fs cs, ty, pos, guard, after⟩) ?_ hrel h
      simp only [execOp]
      have h1 := args_rel ha fs fun y hy => hops y (by simp [hy])
      have h2 := args_rel ha cs fun y hy => hops y (by simp [hy])
      refine Sim.val (.pure fun ι1 hle => ?_)
      have h1 := h1.mono hle
      have h2 := h2.mono hle
      exact .func _ _ _ _ _ _ (.func f) h1.1 h2.1 h1.2 h2.2
    | _ => cases hok
  case makeMap t r =>
    cases r with
    | none => exact (Sim.makeMap t).val.goes hrel h
    | some r => cases hok
end Go.Proofs.Ytmmmdmandocbhaa.Den
end

section
/- Loops over functions, results: side by side. -/
set_option linter.unusedVariables false
set_option linter.unusedSimpArgs false
namespace Go.Proofs.Ytmmmdmandocbhaa.Den
variable {P : Program} {ι : Emb}

def RoRel (ι : Emb) : Option Nat → Option Nat → Prop
  | none, none => True
  | some l, some l' => ∃ r, ι l = some r ∧ l' = r.b
  | _, _ => False
theorem RoRel.mono {ι ι' : Emb} (hl : ι.le ι') : ∀ {ro ro' : Option Nat}, RoRel ι ro ro' → RoRel ι' ro ro'
  | none, none, _ => trivial
  | some _, some _, ⟨r, h, e⟩ => ⟨r, hl _ _ h, e⟩
  | none, some _, h => h.elim
  | some _, none, h => h.elim

theorem Rel.loop {H w : World} (h : Rel P ι H w) {i : Nat} {r : Loc} (hr : ι i = some r) {l : Loop} (hb : H.heap[i]? = some (.loop l)) : ∃ l', w.heap[r.b]? = some (.loop l') ∧ LRel ι l l' := by
  obtain ⟨r', o', hr', hw, ho⟩ := h.obj i _ hb rfl
  rw [hr] at hr'; injection hr' with hr'; subst hr'
  cases ho with
  | loop _ l' hl => exact ⟨l', hw, hl⟩
theorem Rel.deferred {H w : World} (h : Rel P ι H w) {i : Nat} {r : Loc} (hr : ι i = some r) {l : Option (List Deferred)} (hb : H.heap[i]? = some (.deferred l)) : w.heap[r.b]? = some (.deferred l) := by
  obtain ⟨r', o', hr', hw, ho⟩ := h.obj i _ hb rfl
  rw [hr] at hr'; injection hr' with hr'; subst hr'
  cases ho with
  | deferred _ hl => exact hw
theorem loop_ne {l : Loop} : ∀ cs e f, (Obj.loop l) ≠ .cells cs e f := fun _ _ _ h => by cases h
theorem deferred_ne {l : Option (List Deferred)} : ∀ cs e f, (Obj.deferred l) ≠ .cells cs e f := fun _ _ _ h => by cases h
theorem run_getLoop {w : World} {l : Nat} {r : Loop} (h : w.heap[l]? = some (.loop r)) : (Instr.getLoop l).run P w = .ok r w := by
  simp only [Instr.getLoop, Sem.run_bind, run_getObj' h loop_ne, Result.andThen_ok, Sem.run_pure]
theorem Rel.setLoop {H w : World} (h : Rel P ι H w) {i : Nat} {r : Loc} (hr : ι i = some r) {l l1 l1' : Loop} (hb : H.heap[i]? = some (.loop l)) (hl : LRel ι l1 l1') :
    Step P ι H w ι (setD H i (.loop l1)) { w with heap := w.heap.setIfInBounds r.b (.loop l1') } := h.setObj hr hb rfl rfl rfl (.loop _ _ hl)

theorem begin_sound {H w H1 : World} (hrel : Rel P ι H w) {l : Nat} {r : Loc} (hr : ι l = some r) (h : beginD l H = some H1) : ∃ w1, (Instr.beginRound r.b).run P w = .ok () w1 ∧ Step P ι H w ι H1 w1 := by
  unfold beginD at h
  split at h
  case h_2 => cases h
  rename_i x hx
  split at h
  case h_2 => cases h
  rename_i hst
  cases h
  obtain ⟨x', hw, hl⟩ := hrel.loop hr hx
  refine ⟨{ w with heap := w.heap.setIfInBounds r.b (.loop { x' with state := .busy }) }, ?_, hrel.setLoop hr hx ⟨rfl, hl.pending, hl.tmps, hl.params, hl.assign, hl.body, hl.defers⟩⟩
  simp only [Instr.beginRound, Sem.run_bind, run_getLoop hw, Result.andThen_ok, run_setObj' hw loop_ne, ← hl.state, hst, Sem.run_pure]
theorem endRound_sound {H w H1 : World} (hrel : Rel P ι H w) {l : Nat} {r : Loc} (hr : ι l = some r) {j : Option Code} {v : Value} (h : endRoundD l j H = some (v, H1)) :
    ∃ w1, (Instr.endRound r.b j).run P w = .ok v w1 ∧ Step P ι H w ι H1 w1 ∧ VRel ι v v := by
  unfold endRoundD at h
  split at h
  case h_2 => cases h
  rename_i x hx
  cases h
  obtain ⟨x', hw, hl⟩ := hrel.loop hr hx
  refine ⟨{ w with heap := w.heap.setIfInBounds r.b (.loop { x' with state := if j.isNone then .ready else .done, pending := j }) }, ?_, hrel.setLoop hr hx ⟨rfl, rfl, hl.tmps, hl.params, hl.assign, hl.body, hl.defers⟩, .bool _⟩
  simp only [Instr.endRound, Sem.run_bind, run_getLoop hw, Result.andThen_ok, run_setObj' hw loop_ne, Sem.run_pure]
theorem endLoop_sound {H w H1 : World} (hrel : Rel P ι H w) {l : Nat} {r : Loc} (hr : ι l = some r) {j : Option Code} (h : endLoopD l H = some (j, H1)) :
    ∃ w1, (Instr.endLoop r.b).run P w = .ok j w1 ∧ Step P ι H w ι H1 w1 := by
  unfold endLoopD at h
  split at h
  case h_2 => cases h
  rename_i x hx
  split at h
  · cases h
  rename_i hst
  cases h
  obtain ⟨x', hw, hl⟩ := hrel.loop hr hx
  refine ⟨{ w with heap := w.heap.setIfInBounds r.b (.loop { x' with state := .exhausted }) }, ?_, hrel.setLoop hr hx ⟨rfl, hl.pending, hl.tmps, hl.params, hl.assign, hl.body, hl.defers⟩⟩
  have hst' : ¬ (x'.state == .busy) = true := by rw [← hl.state]; exact hst
  simp only [Instr.endLoop, Sem.run_bind, run_getLoop hw, Result.andThen_ok, hst', Bool.false_eq_true, if_false, run_setObj' hw loop_ne, Sem.run_pure, hl.pending]
theorem take_sound {H w : World} (hrel : Rel P ι H w) {b : Nat} {r : Loc} (hr : ι b = some r) (h : H.heap[b]? = some (.deferred (some []))) :
    ∃ w1, (Instr.takeDeferred r.b).run P w = .ok [] w1 ∧ Step P ι H w ι (setD H b (.deferred none)) w1 := by
  have hw := hrel.deferred hr h
  refine ⟨{ w with heap := w.heap.setIfInBounds r.b (.deferred none) }, ?_, hrel.setObj hr h rfl rfl rfl (.deferred _ (.inl rfl))⟩
  simp only [Instr.takeDeferred, Sem.run_bind, run_getObj' hw deferred_ne, Result.andThen_ok, run_setObj' hw deferred_ne, Sem.run_pure]

def blockLoc (b : Nat) : Loc := { b := b, base := 0, len := 0, room := 0, es := 0, grown := false }
theorem enter_sound {H w H1 : World} (hrel : Rel P ι H w) {ro ro' : Option Nat} (hro : RoRel ι ro ro') {tmps tmps' : Array Value} (ht : ARel ι tmps tmps') {ps : Array Tmp} {assign body : Code} {l : Nat} {mark : List Deferred}
    (h : enterD ro tmps ps assign body H = some (l, mark, H1)) (fn : FuncId) :
    ∃ ι1 l' r mark' w1, (Instr.enterLoop fn tmps' ps assign body ro').run P w = .ok (l', mark') w1 ∧ Step P ι H w ι1 H1 w1 ∧ ι1 l = some r ∧ l' = r.b ∧ DsRel ι1 mark mark' := by
  unfold enterD at h
  split at h
  · rename_i l0
    split at h
    case h_2 => cases h
    rename_i x hx
    cases h
    cases ro' with
    | none => exact hro.elim
    | some l0' =>
      obtain ⟨r0, hr0, rfl⟩ := hro
      obtain ⟨x', hw, hl⟩ := hrel.loop hr0 hx
      obtain ⟨rd, hrd, hd⟩ := hl.defers
      have hle := Emb.le_put (r := blockLoc w.heap.size) hrel.fresh
      refine ⟨_, w.heap.size, blockLoc w.heap.size, [], _, ?_, hrel.new (r := blockLoc w.heap.size) (o := .loop (newLoop tmps ps assign body x.defers)) (o' := .loop { newLoop tmps' ps assign body x'.defers with fn := fn }) rfl rfl ?_, Emb.put_same _ _ _, rfl, .nil⟩
      · simp only [Instr.enterLoop, Sem.run_bind, run_getLoop hw, Result.andThen_ok, Sem.run_pure, run_newObj, newLoop]
      · exact .loop _ _ ⟨rfl, rfl, ht.mono hle, rfl, rfl, rfl, rd, hle _ _ hrd, hd⟩
  · cases h
    cases ro' with
    | some _ => exact hro.elim
    | none =>
      have h1 := hrel.new (r := blockLoc w.heap.size) (o := .deferred (some [])) (o' := .deferred (some [])) rfl rfl (.deferred _ (.inr rfl))
      have hle2 := Emb.le_put (r := blockLoc (w.heap.size + 1)) h1.rel.fresh
      have hd0 : (ι.put H.heap.size (blockLoc w.heap.size)) H.heap.size = some (blockLoc w.heap.size) := Emb.put_same _ _ _
      have h2 := h1.rel.new (r := blockLoc (w.heap.size + 1)) (o := .loop (newLoop tmps ps assign body H.heap.size)) (o' := .loop { newLoop tmps' ps assign body w.heap.size with fn := fn }) rfl (by simp [blockLoc])
        (.loop _ _ ⟨rfl, rfl, (ht.mono h1.le).mono hle2, rfl, rfl, rfl, blockLoc w.heap.size, hle2 _ _ hd0, rfl⟩)
      refine ⟨_, w.heap.size + 1, blockLoc (w.heap.size + 1), [{ target := .collected w.heap.size, args := #[] }], _, ?_, h1.trans h2, ?_, rfl, .cons _ _ _ _ ⟨H.heap.size, blockLoc w.heap.size, rfl, hle2 _ _ hd0, rfl⟩ .nil⟩
      · simp only [Instr.enterLoop, Sem.run_bind, Result.andThen_ok, Sem.run_pure, run_newObj, newLoop, Array.size_push]
      · have : (H.heap.push (Obj.deferred (some []))).size = H.heap.size + 1 := by simp
        rw [← this]; exact Emb.put_same _ _ _

/-! ### results -/
def RO (P : Program) {α : Type} (s : Sem α) : Prop := ∀ (w : World) (x : α) (w1 : World), s.run P w = .ok x w1 → w1 = w
theorem RO.pure {α : Type} (x : α) : RO P (Pure.pure x : Sem α) := fun w y w1 h => by
  simp only [Sem.run_pure, Result.ok.injEq] at h; exact h.2.symm
theorem RO.bind {α β : Type} {s : Sem α} {k : α → Sem β} (h : RO P s) (hk : ∀ x, RO P (k x)) : RO P (s >>= k) := fun w y w1 hy => by
  simp only [Sem.run_bind] at hy
  cases hs : s.run P w with
  | halt e w2 => rw [hs] at hy; cases hy
  | ok x w2 =>
    rw [hs] at hy
    rw [hk x _ _ _ hy, h _ _ _ hs]
theorem HF.ro {α : Type} {s : Sem α} (h : HF P s) : RO P s := fun w x w1 hx => (h w x w1 hx).1
theorem RO.load (a : Addr) : RO P (Go.load a) := fun w x w1 h => by
  simp only [run_load] at h
  split at h
  · cases h; rfl
  · split at h
    · cases h; rfl
    · cases h
theorem RO.loadCellsFrom (a : Addr) : ∀ (n k : Nat) (acc : Array Value), RO P (Go.loadCellsFrom a k n acc)
  | 0, k, acc => by unfold Go.loadCellsFrom; exact .pure _
  | n + 1, k, acc => by
    unfold Go.loadCellsFrom
    exact (RO.load _).bind fun v => RO.loadCellsFrom a n (k + 1) _
theorem RO.loadVar (t : TypeId) (a : Addr) : RO P (Go.loadVar t a) := by
  unfold Go.loadVar
  refine (HF.isAgg t).ro.bind fun b => ?_
  split
  · exact (HF.sizeOf t).ro.bind fun n => (RO.loadCellsFrom a n 0 _).bind fun cs => .pure _
  · exact RO.load a
theorem RO.listMapM {α β : Type} {f : α → Sem β} (h : ∀ x, RO P (f x)) : ∀ xs : List α, RO P (xs.mapM f)
  | [] => by rw [List.mapM_nil]; exact .pure _
  | x :: xs => by
    rw [List.mapM_cons]
    exact (h x).bind fun y => (RO.listMapM h xs).bind fun ys => .pure _
theorem RO.map {α β : Type} {s : Sem α} (f : α → β) (h : RO P s) : RO P (f <$> s) := by
  intro w y w1 hy
  simp only [Sem.run_map] at hy
  cases hs : s.run P w with
  | halt e H1 => rw [hs] at hy; cases hy
  | ok x H2 =>
    rw [hs] at hy
    simp only [Result.andThen_ok, Result.ok.injEq] at hy
    rw [← hy.2, h _ _ _ hs]
theorem RO.mapM {α β : Type} {f : α → Sem β} (h : ∀ x, RO P (f x)) (xs : Array α) : RO P (xs.mapM f) := by
  rw [Array.mapM_eq_mapM_toList]
  exact RO.map _ (RO.listMapM h _)
theorem noRun_ro {α : Type} {s : Sem α} (h : ∀ (H : World) x H1, s.run P H ≠ .ok x H1) : RO P s := fun w x w1 hx => absurd hx (h w x w1)
theorem VRel.asAddr {v v' : Value} (h : VRel ι v v') : Sim P ι (asAddr v) (asAddr v') (fun ι1 a a' => ∃ i o r, a = ⟨i, o, none⟩ ∧ ι1 i = some r ∧ a' = ⟨r.b, r.base + o, none⟩) := by
  cases h with
  | ptr i o r h => exact .pure fun ι1 hle => ⟨i, o, r, rfl, hle _ _ h, rfl⟩
  | ptrNil => unfold Go.asAddr; exact Sim.runtimePanic
  | _ => exact .halt
theorem results_sound {H w H1 : World} (hrel : Rel P ι H w) (fn : Func) {tmps tmps' : Array Value} (ht : ARel ι tmps tmps') {v : Value} (h : okRun ((results fn tmps).run P H) = some (v, H1)) :
    ∃ ι1 v', (results fn tmps').run P w = .ok v' w ∧ Step P ι H w ι1 H1 w ∧ VRel ι1 v v' := by
  have hs : Sim P ι (results fn tmps) (results fn tmps') VRel := by
    unfold results
    refine Sim.bind (R := ARel) (Sim.mapM _ fun x _ ι1 hle => ?_) fun ι1 vs vs' hle hvs => ?_
    · cases x with
      | tmp t => exact .pure fun ι2 hle2 => (ht.mono (Emb.le_trans hle hle2)).getD t .undef
      | cell a t =>
        refine (VRel.asAddr ((ht.mono hle).getD a .undef)).bind fun ι2 p p' hle2 hp => ?_
        obtain ⟨i, o, r, rfl, hr, rfl⟩ := hp
        exact Sim.loadVar hr t
    · refine .pure fun ι2 hle2 => ?_
      have hvs := hvs.mono hle2
      have hsz := hvs.1
      by_cases h1 : vs.size = 1
      · have h1' : vs'.size = 1 := hsz ▸ h1
        simp only [h1, h1', dite_true]
        exact hvs.2 0 _ _ (Array.getElem?_eq_getElem (by omega)) (Array.getElem?_eq_getElem (by omega))
      · have h1' : ¬ vs'.size = 1 := hsz ▸ h1
        simp only [h1, h1', dite_false]
        exact .tuple _ _ hvs.1 hvs.2
  have hro : RO P (results fn tmps') := by
    unfold results
    refine (RO.mapM (fun x => ?_) _).bind fun vs => .pure _
    cases x with
    | tmp t => exact .pure _
    | cell a t =>
      refine RO.bind ?_ fun p => RO.loadVar t p
      cases tmps'.getD a undef with
      | pointer p => cases p with
        | none => exact noRun_ro fun H x H1 => (by unfold Go.asAddr; exact noRun_runtimePanic _ H x H1)
        | some p => exact .pure _
      | _ => exact (HF.stuck _).ro
  obtain ⟨ι1, v', w1, hr, hst, hv⟩ := hs.goes hrel h
  have := hro _ _ _ hr
  subst this
  exact ⟨ι1, v', hr, hst, hv⟩
end Go.Proofs.Ytmmmdmandocbhaa.Den
end

section
/- Code, calls, rounds: the logical evaluator's answer is the machine's. -/
set_option linter.unusedVariables false
set_option linter.unusedSimpArgs false
namespace Go.Proofs.Ytmmmdmandocbhaa.Den
variable {P : Program}

def Fen : Option Nat → Fence
  | none => Fence.wide
  | some l => Fence.wide.inRound l
theorem Fen_fn (ro : Option Nat) (f : FuncId) : (Fen ro).fn f := by cases ro <;> exact trivial
theorem Fen_depth (ro : Option Nat) (n : Nat) : (Fen ro).depth.isSome = true → 1 ≤ n := by cases ro <;> (intro h; cases h)
theorem Fen_round (ro : Option Nat) : (Fen ro).round = ro := by cases ro <;> rfl
theorem Fen_in (ro : Option Nat) (l : Nat) : (Fen ro).inRound l = Fen (some l) := by cases ro <;> rfl

/-- What a piece of code comes to. -/
def Then (P : Program) (ι : Emb) (H w : World) (a1 : Act) (H1 : World) (K : Act → World → Prop) : Prop :=
  ∀ ι1 a1' w1, Step P ι H w ι1 H1 w1 → ActRel ι1 a1 a1' → K a1' w1
def ThenV (P : Program) (ι : Emb) (H w : World) (v : Value) (H1 : World) (R : Ending → World → Prop) : Prop :=
  ∀ ι1 v' w1, Step P ι H w ι1 H1 w1 → VRel ι1 v v' → R (.returned v') w1
theorem Then.step {ι ι1 : Emb} {H w H1 w1 : World} {a2 : Act} {H2 : World} {K : Act → World → Prop} (h : Then P ι H w a2 H2 K) (hs : Step P ι H w ι1 H1 w1) : Then P ι1 H1 w1 a2 H2 K :=
  fun ι2 a' w2 h2 ha => h ι2 a' w2 (hs.trans h2) ha

def CodeS (P : Program) (ro : Option Nat) (c : Code) (a : Act) (H : World) (e : Exit) (a1 : Act) (H1 : World) : Prop :=
  ∀ (ι : Emb) (w : World) (a' : Act) (ro' : Option Nat) (n : Nat) (Q : Exit → Act → World → Prop), Rel P ι H w → ActRel ι a a' → RoRel ι ro ro' → Then P ι H w a1 H1 (Q e) → c.wpIn (Fen ro') n P Q a' w
/-- A loop, met at its next round. -/
def LoopIn (F : Fence) (n : Nat) (P : Program) (c : Code) (Q : Exit → Act → World → Prop) (a : Act) (w : World) : Prop :=
  ∀ (b : Frame) (k : List Item) (cs : List Frame), b.roundOf = F.round → F.fn b.fn → F.room (cs.length + 1 + n) →
    ∃ e a' w', Q e a' w' ∧ ArrivesIn (Machine.fenced P F) P (lone (b.atR a (.code c :: .inLoop c :: k)) cs w) b k cs e a' w'
theorem LoopIn.loop {F : Fence} {n : Nat} {c : Code} {Q : Exit → Act → World → Prop} {a : Act} {w : World} (h : LoopIn F n P c Q a w) : (Code.loop c).wpIn F n P Q a w := by
  intro b k cs hro hb hr
  obtain ⟨e, a', w', hq, harr⟩ := h b k cs hro hb hr
  exact ⟨e, a', w', hq, .of_steps (.one (fenced_calm hb hr rfl) stepR_loop) harr⟩
theorem LoopIn.round {F : Fence} {n : Nat} {c : Code} {Q : Exit → Act → World → Prop} {a : Act} {w : World} (h : c.wpIn F n P (Exit.then (LoopIn F n P c Q) Q) a w) : LoopIn F n P c Q a w := by
  intro b k cs hro hb hr
  obtain ⟨e, a₁, w₁, hq, harr⟩ := h b (.inLoop c :: k) cs hro hb hr
  cases e with
  | normal =>
    obtain ⟨e₂, a₂, w₂, hq₂, harr₂⟩ := hq b k cs hro hb hr
    exact ⟨e₂, a₂, w₂, hq₂, .of_steps (StepsIn.trans harr (.one (fenced_calm hb hr rfl) stepR_inLoop)) harr₂⟩
  | exit id => exact ⟨_, a₁, w₁, hq, .pass (x := .inLoop c) rfl (fun _ _ => .inl (by simp)) harr⟩
  | goto l => exact ⟨_, a₁, w₁, hq, .pass (x := .inLoop c) rfl (fun _ _ => .inl (by simp)) harr⟩
  | ret => exact ⟨_, a₁, w₁, hq, .pass (x := .inLoop c) rfl (fun _ _ => .inl (by simp)) harr⟩
  | panic ch => exact ⟨_, a₁, w₁, hq, .pass (x := .inLoop c) rfl (fun _ _ => .inl (by simp)) harr⟩
  | outgrown => exact ⟨_, a₁, w₁, hq, .pass (x := .inLoop c) rfl (fun _ _ => .inl (by simp)) harr⟩
def LoopS (P : Program) (ro : Option Nat) (c : Code) (a : Act) (H : World) (e : Exit) (a1 : Act) (H1 : World) : Prop :=
  ∀ (ι : Emb) (w : World) (a' : Act) (ro' : Option Nat) (n : Nat) (Q : Exit → Act → World → Prop), Rel P ι H w → ActRel ι a a' → RoRel ι ro ro' → Then P ι H w a1 H1 (Q e) → LoopIn (Fen ro') n P c Q a' w
def FnS (P : Program) (f : FuncId) (args : Array Value) (H : World) (v : Value) (H1 : World) : Prop :=
  ∀ (ι : Emb) (w : World) (args' : Array Value) (ro' : Option Nat) (n : Nat) (R : Ending → World → Prop), Rel P ι H w → ARel ι args args' → ThenV P ι H w v H1 R → CallsIn (Fen ro') n P f args' w R
def RoundS (P : Program) (l : Nat) (tmps : Array Value) (assign body : Code) (H : World) (v : Value) (H1 : World) : Prop :=
  ∀ (ι : Emb) (w : World) (r : Loc) (f' : FuncId) (tmps' : Array Value) (ro' : Option Nat) (n : Nat) (R : Ending → World → Prop), Rel P ι H w → ι l = some r → ARel ι tmps tmps' → ThenV P ι H w v H1 R →
    RoundIn (Fen ro') n P r.b f' tmps' assign body w R
structure Snd (P : Program) (E : Evs) : Prop where
  code : ∀ ro c a H e a1 H1, E.code ro (.loop c) a H = some (e, a1, H1) → LoopS P ro c a H e a1 H1
  fn : ∀ f args H v H1, E.fn f args H = some (v, H1) → FnS P f args H v H1
  round : ∀ l tmps assign body H v H1, E.round l tmps assign body H = some (v, H1) → RoundS P l tmps assign body H v H1

def OpsS (P : Program) (ops : Array Oper) (l : List Nat) (a : Act) (H : World) (a1 : Act) (H1 : World) : Prop :=
  ∀ (ι : Emb) (w : World) (a' : Act) (ro' : Option Nat) (n : Nat) (Q : Exit → Act → World → Prop), Rel P ι H w → ActRel ι a a' → Then P ι H w a1 H1 (Q .normal) → wpOpsIn (Fen ro') n P ops Q l a' w

theorem yielded_rel {ι : Emb} {ops : Array Oper} {t t' : Array Value} (h : ARel ι t t') : yielded ops t = yielded ops t' := by
  funext j
  unfold yielded
  cases hd : (ops[j]?).bind (·.dst) with
  | none => rfl
  | some d =>
    simp only [Option.bind_some]
    cases ht : t[d]? with
    | none =>
      have : t'[d]? = none := by
        rw [Array.getElem?_eq_none_iff] at ht ⊢
        have := h.1; omega
      rw [this]
    | some v =>
      obtain ⟨v', hv', hvr⟩ := h.get ht
      rw [hv']
      cases hvr <;> rfl

theorem opD_sound (hP : Good P) {E : Evs} (hE : Snd P E) {o : Oper} {a a1 : Act} {H H1 : World} (h : opD P E o a H = some (a1, H1)) {ι : Emb} {w : World} {a' : Act} {ro' : Option Nat} {n : Nat} {next : Act → World → Prop} {Q : Exit → Act → World → Prop}
    (hrel : Rel P ι H w) (ha : ActRel ι a a') (hn : Then P ι H w a1 H1 next) : o.wpIn (Fen ro') n P a' w next Q := by
  refine ⟨fun f _ => Fen_fn _ f, ?_⟩
  unfold opD at h
  cases hs : semD P o a H with
  | none => rw [hs] at h; cases h
  | some p =>
    obtain ⟨nx, H2⟩ := p
    rw [hs] at h
    obtain ⟨⟨ι1, x', w1, hrun, hst, hnx⟩, hd⟩ := semD_sound hP hrel ha hs
    rw [Oper.semAt_eq _ _ _ hd, hrun]
    cases hnx with
    | value v v' hv =>
      cases h
      exact hn ι1 _ _ hst ((ha.mono hst.le).put _ hv)
    | skip =>
      cases h
      exact hn ι1 _ _ hst ((ha.mono hst.le).put _ .undef)
    | enter f args args' hargs =>
      simp only [Option.map_eq_some_iff] at h
      obtain ⟨⟨v, H3⟩, h, e⟩ := h
      cases e
      rw [Oper.uponIn_enter]
      refine ⟨Fen_depth _ _, hE.fn _ _ _ _ _ h ι1 w1 args' ro' _ _ hst.rel hargs fun ι2 v' w2 hs2 hv => ?_⟩
      exact hn ι2 _ _ (hst.trans hs2) ((ha.mono (Emb.le_trans hst.le hs2.le)).put _ hv)
    | round l r f f' tmps tmps' as b hl ht =>
      simp only [Option.map_eq_some_iff] at h
      obtain ⟨⟨v, H3⟩, h, e⟩ := h
      cases e
      rw [Oper.uponIn_round]
      refine ⟨Fen_depth _ _, hE.round _ _ _ _ _ _ _ h ι1 w1 r f' tmps' ro' _ _ hst.rel hl ht fun ι2 v' w2 hs2 hv => ?_⟩
      exact hn ι2 _ _ (hst.trans hs2) ((ha.mono (Emb.le_trans hst.le hs2.le)).put _ hv)

theorem opsD_sound (hP : Good P) {E : Evs} (hE : Snd P E) {ops : Array Oper} : ∀ (l : List Nat) (a : Act) (H : World) (a1 : Act) (H1 : World), opsD P E ops l a H = some (a1, H1) → OpsS P ops l a H a1 H1
  | [], a, H, a1, H1, h => by
    intro ι w a' ro' n Q hrel ha hQ
    simp only [opsD, Option.some.injEq, Prod.mk.injEq] at h
    obtain ⟨rfl, rfl⟩ := h
    exact hQ ι a' w (.refl hrel) ha
  | i :: rest, a, H, a1, H1, h => by
    intro ι w a' ro' n Q hrel ha hQ
    unfold opsD at h
    unfold wpOpsIn
    cases ho : ops[i]? with
    | none => rw [ho] at h; cases h
    | some o =>
      simp only [ho] at h ⊢
      rw [← yielded_rel ha.tmps]
      by_cases hw : Region.wanted o (yielded ops a.tmps) = true
      · rw [if_pos hw] at h ⊢
        cases hop : opD P E o a H with
        | none => rw [hop] at h; cases h
        | some p =>
          obtain ⟨a2, H2⟩ := p
          rw [hop] at h
          refine opD_sound hP hE hop hrel ha fun ι1 a2' w1 hs1 ha2 => ?_
          exact opsD_sound hP hE rest a2 H2 a1 H1 h ι1 w1 a2' ro' n Q hs1.rel ha2 (hQ.step hs1)
      · rw [if_neg hw] at h ⊢
        refine ⟨fun f _ => Fen_fn _ f, ?_⟩
        exact opsD_sound hP hE rest _ H a1 H1 h ι w _ ro' n Q hrel (ha.put _ .undef) hQ

/-- What a rule for regions that draw must do. -/
def DrawOk (P : Program) (dr : DrawD) : Prop := ∀ (E : Evs), Snd P E → ∀ (ops : Array Oper) (a : Act) (H : World) (a1 : Act) (H1 : World), dr P E ops a H = some (a1, H1) →
  ∀ (t : Nat) (ι : Emb) (w : World) (a' : Act) (ro' : Option Nat) (n : Nat) (Q : Exit → Act → World → Prop), Rel P ι H w → ActRel ι a a' → Then P ι H w a1 H1 (Q .normal) →
    wpOpsIn (Fen ro') n P ops Q (Region.schedule (P.follows .mixedOrders) ops t) a' w

theorem then_of {Q : Exit → Act → World → Prop} {K : Act → World → Prop} {e : Exit} (he : e ≠ .normal) {a : Act} {w : World} (h : Q e a w) : Exit.then K Q e a w := by
  cases e <;> first | exact absurd rfl he | exact h

theorem DsRel.append {ι : Emb} {a a' b b' : List Deferred} (h : DsRel ι a a') (hd : DsRel ι b b') : DsRel ι (a ++ b) (a' ++ b') := by
  induction h with
  | nil => exact hd
  | cons d d' ds ds' h hs ih => exact .cons _ _ _ _ h ih
theorem ActRel.evalBool {ι : Emb} {a a' : Act} (h : ActRel ι a a') {c : Operand} {t : Bool} (hc : a.eval c = .bool t) : a'.eval c = .bool t := by
  cases c with
  | tmp x =>
    have := h.eval (x := .tmp x) rfl
    rw [hc] at this
    generalize a'.eval (.tmp x) = v at this
    cases this; rfl
  | const v => exact hc
  | global g => cases hc
  | func f => cases hc
theorem rangeD_sound (hP : Good P) {E : Evs} (hE : Snd P E) {ro : Option Nat} {g : Operand} {ps : Array Tmp} {assign body : Code} {a : Act} {H : World} {e : Exit} {a1 : Act} {H1 : World}
    (h : rangeD P E ro g ps assign body a H = some (e, a1, H1)) : CodeS P ro (.rangeFunc g ps assign body) a H e a1 H1 := by
  intro ι w a' ro' n Q hrel ha hro hQ
  unfold rangeD at h
  split at h
  · cases h
  rename_i hg
  have hg : operandOk g = true := by simpa using hg
  split at h
  case h_2 => cases h
  rename_i l mark H2 hen
  split at h
  case h_2 => cases h
  rename_i f args hca
  split at h
  case h_2 => cases h
  rename_i v H4 hfn
  split at h
  case h_2 => cases h
  rename_i jump H5 hend
  simp only [Option.map_eq_some_iff] at h
  obtain ⟨e', hj, h⟩ := h
  cases h
  refine wpIn_rangeFunc fun fn hF => ?_
  obtain ⟨ι1, l', r, mark', w1, hrun, hst, hl, rfl, hmark⟩ := enter_sound hrel hro ha.tmps hen fn
  have hy : VRel ι1 (.func (.yield l) #[] #[]) (.func (.yield r.b) #[] #[]) := .func _ _ _ _ _ _ (.yield l r hl) rfl rfl (fun k v v' h => by simp at h) (fun k v v' h => by simp at h)
  obtain ⟨d, x', h1, h2, h3⟩ := callD_sound hst.rel ((ha.mono hst.le).eval hg) (ARel.single hy) hca
  cases h3 with
  | enter _ _ args' hargs =>
  refine ⟨r.b, mark', w1, d, w1, f, args', w1, by rw [Fen_round]; exact hrun, ?_, fun f' _ => Fen_fn _ f', h2, Fen_depth _ _, ?_⟩
  · have : Array.map a'.eval #[Operand.const (.func (.yield r.b) #[] #[])] = #[.func (.yield r.b) #[] #[]] := by simp [Act.eval]
    simp only [resolve, this]
    exact h1
  · refine hE.fn _ _ _ _ _ hfn ι1 w1 args' ro' _ _ hst.rel hargs fun ι2 v' w2 hs2 hv => ?_
    obtain ⟨w3, hend', hs3⟩ := endLoop_sound hs2.rel (hs2.le _ _ hl) hend
    refine ⟨jump, w3, hend', ?_⟩
    have hact : ActRel ι2 { a with defers := mark ++ a.defers } { a' with defers := mark' ++ a'.defers } := by
      have hle := Emb.le_trans hst.le hs2.le
      refine ⟨ha.tmps.mono hle, ?_⟩
      exact (hmark.mono hs2.le).append (ha.defers.mono hle)
    have hall := (hst.trans hs2).trans hs3
    cases jump with
    | none => cases hj; exact hQ _ _ _ hall hact
    | some c =>
      cases c with
      | ret => cases hj; exact wpIn_ret (hQ _ _ _ hall hact)
      | exit id => cases hj; exact wpIn_exit (hQ _ _ _ hall hact)
      | _ => cases hj

theorem codeD_sound (hP : Good P) {dr : DrawD} (hdr : DrawOk P dr) {E : Evs} (hE : Snd P E) : ∀ (c : Code) (ro : Option Nat) (a : Act) (H : World) (e : Exit) (a1 : Act) (H1 : World),
    codeD dr P E ro c a H = some (e, a1, H1) → CodeS P ro c a H e a1 H1
  | .skip, ro, a, H, e, a1, H1, h => by
    cases h
    exact fun ι w a' ro' n Q hrel ha hro hQ => wpIn_skip (hQ ι a' w (.refl hrel) ha)
  | .label _, ro, a, H, e, a1, H1, h => by
    cases h
    exact fun ι w a' ro' n Q hrel ha hro hQ => wpIn_label (hQ ι a' w (.refl hrel) ha)
  | .ret, ro, a, H, e, a1, H1, h => by
    cases h
    exact fun ι w a' ro' n Q hrel ha hro hQ => wpIn_ret (hQ ι a' w (.refl hrel) ha)
  | .exit id, ro, a, H, e, a1, H1, h => by
    cases h
    exact fun ι w a' ro' n Q hrel ha hro hQ => wpIn_exit (hQ ι a' w (.refl hrel) ha)
  | .seq x y, ro, a, H, e, a1, H1, h => by
    intro ι w a' ro' n Q hrel ha hro hQ
    unfold codeD at h
    cases hx : codeD dr P E ro x a H with
    | none => rw [hx] at h; cases h
    | some p =>
      obtain ⟨e1, a2, H2⟩ := p
      rw [hx] at h
      refine wpIn_seq (codeD_sound hP hdr hE x ro a H e1 a2 H2 hx ι w a' ro' n _ hrel ha hro fun ι1 a2' w1 hs1 ha2 => ?_)
      by_cases he : e1 = .normal
      · subst he
        exact codeD_sound hP hdr hE y ro a2 H2 e a1 H1 h ι1 w1 a2' ro' n Q hs1.rel ha2 (hro.mono hs1.le) (hQ.step hs1)
      · have : e1 = e ∧ a2 = a1 ∧ H2 = H1 := by
          cases e1 <;> first | exact absurd rfl he | (cases h; exact ⟨rfl, rfl, rfl⟩)
        obtain ⟨rfl, rfl, rfl⟩ := this
        exact then_of he (hQ ι1 a2' w1 hs1 ha2)
  | .cond c x y, ro, a, H, e, a1, H1, h => by
    intro ι w a' ro' n Q hrel ha hro hQ
    unfold codeD at h
    split at h
    case h_2 => cases h
    rename_i t hc
    refine wpIn_cond (ha.evalBool hc) ?_
    cases t with
    | true => exact codeD_sound hP hdr hE x ro a H e a1 H1 h ι w a' ro' n Q hrel ha hro hQ
    | false => exact codeD_sound hP hdr hE y ro a H e a1 H1 h ι w a' ro' n Q hrel ha hro hQ
  | .block id c, ro, a, H, e, a1, H1, h => by
    intro ι w a' ro' n Q hrel ha hro hQ
    unfold codeD at h
    cases hx : codeD dr P E ro c a H with
    | none => rw [hx] at h; cases h
    | some p =>
      obtain ⟨e1, a2, H2⟩ := p
      rw [hx] at h
      refine wpIn_block (codeD_sound hP hdr hE c ro a H e1 a2 H2 hx ι w a' ro' n _ hrel ha hro fun ι1 a2' w1 hs1 ha2 => ?_)
      cases e1 with
      | exit id' =>
        simp only [Exit.inBlock]
        simp only at h
        split at h
        · rename_i hid; rw [if_pos hid]; cases h; exact hQ ι1 a2' w1 hs1 ha2
        · rename_i hid; rw [if_neg hid]; cases h; exact hQ ι1 a2' w1 hs1 ha2
      | _ => cases h; exact hQ ι1 a2' w1 hs1 ha2
  | .loop c, ro, a, H, e, a1, H1, h => by
    intro ι w a' ro' n Q hrel ha hro hQ
    unfold codeD at h
    cases hx : codeD dr P E ro c a H with
    | none => rw [hx] at h; cases h
    | some p =>
      obtain ⟨e1, a2, H2⟩ := p
      rw [hx] at h
      refine LoopIn.loop (LoopIn.round (codeD_sound hP hdr hE c ro a H e1 a2 H2 hx ι w a' ro' n _ hrel ha hro fun ι1 a2' w1 hs1 ha2 => ?_))
      by_cases he : e1 = .normal
      · subst he
        exact hE.code ro c a2 H2 e a1 H1 h ι1 w1 a2' ro' n Q hs1.rel ha2 (hro.mono hs1.le) (hQ.step hs1)
      · have : e1 = e ∧ a2 = a1 ∧ H2 = H1 := by
          cases e1 <;> first | exact absurd rfl he | (cases h; exact ⟨rfl, rfl, rfl⟩)
        obtain ⟨rfl, rfl, rfl⟩ := this
        exact then_of he (hQ ι1 a2' w1 hs1 ha2)
  | .region id ops draw, ro, a, H, e, a1, H1, h => by
    intro ι w a' ro' n Q hrel ha hro hQ
    unfold codeD at h
    simp only [Option.map_eq_some_iff] at h
    obtain ⟨⟨a2, H2⟩, h, e'⟩ := h
    cases e'
    cases draw with
    | false => exact wpIn_region (opsD_sound hP hE _ a H _ _ h ι w a' ro' n Q hrel ha hQ)
    | true =>
      refine wpIn_region_draw fun t => ?_
      have hd := Step.drawn hrel (w.drawn + 1)
      exact hdr E hE ops a H _ _ h t ι _ a' ro' n Q hd.rel ha (hQ.step hd)
  | .rangeFunc g ps assign body, ro, a, H, e, a1, H1, h => rangeD_sound hP hE h
  | .goto l, ro, a, H, e, a1, H1, h => by cases h
end Go.Proofs.Ytmmmdmandocbhaa.Den
end

section
/- The whole evaluator is sound, at every fuel. -/
set_option linter.unusedVariables false
set_option linter.unusedSimpArgs false
namespace Go.Proofs.Ytmmmdmandocbhaa.Den
variable {P : Program}

theorem leave_sound {fn : Func} {n : Nat} {R : Ending → World → Prop} {tmps tmps' : Array Value} {v : Value} {H3 : World} : ∀ (ds ds' : List Deferred) (ι : Emb) (H w H1 : World), Rel P ι H w → ARel ι tmps tmps' → DsRel ι ds ds' → leaveD ds H = some H1 →
    okRun ((results fn tmps).run P H1) = some (v, H3) → ThenV P ι H w v H3 R → LeavesInM Fence.wide n P fn tmps' R ds' .returning w
  | [], ds', ι, H, w, H1, hrel, ht, hds, h, hr, hR => by
    cases hds
    cases h
    obtain ⟨ι1, v', hrun, hst, hv⟩ := results_sound hrel fn ht hr
    exact ⟨v', hrun, hR ι1 v' w hst hv⟩
  | d :: ds, ds', ι, H, w, H1, hrel, ht, hds, h, hr, hR => by
    cases hds with
    | cons _ d' _ ds2 hd hs =>
    obtain ⟨l, r, rfl, hl, rfl⟩ := hd
    unfold leaveD at h
    simp only at h
    split at h
    case h_2 => cases h
    rename_i hb
    obtain ⟨w1, hrun, hst⟩ := take_sound hrel hl hb
    refine ⟨by simp, .inl ⟨r.b, w1, rfl, hrun, ?_⟩⟩
    exact leave_sound ds ds2 ι _ w1 H1 hst.rel ht hs h hr fun ι1 v' w2 h2 hv => hR ι1 v' w2 (hst.trans h2) hv

theorem fnD_sound (hP : Good P) {dr : DrawD} (hdr : DrawOk P dr) {E : Evs} (hE : Snd P E) {f : FuncId} {args : Array Value} {H : World} {v : Value} {H1 : World} (h : fnD dr P E f args H = some (v, H1)) : FnS P f args H v H1 := by
  intro ι w args' ro' n R hrel hargs hR
  unfold fnD at h
  split at h
  case h_2 => cases h
  rename_i fn hf
  split at h
  case h_2 => cases h
  rename_i c hb
  have key : ∀ (e : Exit) (a1 : Act) (H2 : World), (e = .normal ∨ e = .ret) → codeD dr P E none c { tmps := args ++ Array.replicate (fn.ntmps - args.size) undef, defers := [] } H = some (e, a1, H2) →
      (match leaveD a1.defers H2 with | some H3 => okRun ((results fn a1.tmps).run P H3) | none => none) = some (v, H1) → CallsIn Fence.wide n P f args' w R := by
    intro e a1 H2 he hc h
    split at h
    case h_2 => cases h
    rename_i H3 hl
    refine callsIn_of_wp_marks hf hb trivial ?_
    have ha : ActRel ι { tmps := args ++ Array.replicate (fn.ntmps - args.size) undef, defers := [] } { tmps := args' ++ Array.replicate (fn.ntmps - args'.size) undef, defers := [] } := by
      rw [← hargs.1]
      exact ⟨hargs.append (.replicate _ .undef), .nil⟩
    refine codeD_sound hP hdr hE c none _ H e a1 H2 hc ι w _ none n _ hrel ha trivial fun ι1 a1' w1 hs1 ha1 => ?_
    have hlv := leave_sound (R := R) (n := n) (fn := fn) a1.defers a1'.defers ι1 H2 w1 H3 hs1.rel ha1.tmps ha1.defers hl h fun ι2 v' w2 h2 hv => hR ι2 v' w2 (hs1.trans h2) hv
    rcases he with rfl | rfl <;> exact hlv
  have : CallsIn Fence.wide n P f args' w R := by
    split at h
    · rename_i a1 H2 hc; exact key .normal a1 H2 (.inl rfl) hc h
    · rename_i a1 H2 hc; exact key .ret a1 H2 (.inr rfl) hc h
    · cases h
  cases ro' <;> exact this

theorem roundEnd_sound {l : Nat} {r : Loc} {e : Exit} {H w H1 : World} {ι : Emb} {v : Value} (hrel : Rel P ι H w) (hr : ι l = some r) (h : roundEnd l e H = some (v, H1)) {R : Ending → World → Prop} (hR : ThenV P ι H w v H1 R) (a : Act) : roundPost P r.b R e a w := by
  cases e with
  | normal =>
    obtain ⟨w1, hrun, hst, hv⟩ := endRound_sound hrel hr h
    exact ⟨v, w1, hrun, hR ι v w1 hst hv⟩
  | ret =>
    obtain ⟨w1, hrun, hst, hv⟩ := endRound_sound hrel hr h
    exact ⟨v, w1, hrun, hR ι v w1 hst hv⟩
  | exit id =>
    obtain ⟨w1, hrun, hst, hv⟩ := endRound_sound hrel hr h
    exact ⟨v, w1, hrun, hR ι v w1 hst hv⟩
  | _ => cases h

theorem roundD_sound (hP : Good P) {dr : DrawD} (hdr : DrawOk P dr) {E : Evs} (hE : Snd P E) {l : Nat} {tmps : Array Value} {assign body : Code} {H : World} {v : Value} {H1 : World} (h : roundD dr P E l tmps assign body H = some (v, H1)) : RoundS P l tmps assign body H v H1 := by
  intro ι w r f' tmps' ro' n R hrel hr ht hR
  unfold roundD at h
  split at h
  case h_2 => cases h
  rename_i a1 H2 hc
  split at h
  case h_2 => cases h
  rename_i H3 hbeg
  split at h
  case h_2 => cases h
  rename_i e a2 H4 hbody
  refine roundIn_of_wpIn (Fen_fn _ f') ?_
  rw [Fen_in]
  refine codeD_sound hP hdr hE assign (some l) _ H .normal a1 H2 hc ι w _ (some r.b) n _ hrel ⟨ht, .nil⟩ ⟨r, hr, rfl⟩ fun ι1 a1' w1 hs1 ha1 => ?_
  obtain ⟨w2, hrun, hst2⟩ := begin_sound hs1.rel (hs1.le _ _ hr) hbeg
  refine ⟨w2, hrun, ?_⟩
  refine codeD_sound hP hdr hE body (some l) a1 H3 e a2 H4 hbody ι1 w2 a1' (some r.b) n _ hst2.rel ha1 ⟨r, hs1.le _ _ hr, rfl⟩ fun ι2 a2' w3 hs3 ha2 => ?_
  have hall := (hs1.trans hst2).trans hs3
  exact roundEnd_sound hs3.rel (hs3.le _ _ (hs1.le _ _ hr)) h (fun ι3 v' w4 h4 hv => hR ι3 v' w4 (hall.trans h4) hv) a2'

/-! ### calls that stand alone -/
theorem plain_mono : ∀ (d : Nat) (v : Value), plain d v = true → plain (d + 1) v = true
  | 0, v, h => by
    unfold plain at h
    unfold plain
    split
    · simp [constOk1] at h
    · simp [constOk1] at h
    · simp [constOk1] at h
    · exact h
  | d + 1, v, h => by
    unfold plain at h
    unfold plain
    split at h
    · simp only [Array.all_eq_true] at h ⊢
      exact fun i hi => plain_mono d _ (h i hi)
    · simp only [Array.all_eq_true] at h ⊢
      exact fun i hi => plain_mono d _ (h i hi)
    · simp only [Bool.and_eq_true, Array.all_eq_true] at h ⊢
      exact ⟨h.1, fun i hi => plain_mono d _ (h.2 i hi)⟩
    · exact h
theorem plain_cells {d : Nat} {x y : Value} {j : Nat} (h : plain d x = true) (hy : x.cells[j]? = some y) : plain d y = true := by
  cases x with
  | agg cs =>
    cases d with
    | zero => simp [plain, constOk1] at h
    | succ d =>
      simp only [plain, Array.all_eq_true] at h
      simp only [Value.cells] at hy
      obtain ⟨hj, rfl⟩ := Array.getElem?_eq_some_iff.1 hy
      exact plain_mono d _ (h j hj)
  | _ =>
    simp only [Value.cells] at hy
    have := (Array.getElem?_eq_some_iff.1 hy).1
    cases j with
    | zero => simp at hy; subst hy; exact h
    | succ j => simp at this
theorem plain_sound {ι ι2 : Emb} (hA : ∀ b cs, ι.fz b = some cs → ι2.fz b = some cs) : ∀ (d : Nat) (v v' : Value), plain d v = true → VRel ι v v' → VRel ι2 v v'
  | 0, v, v', h, hv => by
    unfold plain at h
    rw [hv.const_eq1 h]; exact constOk1_rel h
  | d + 1, v, v', h, hv => by
    unfold plain at h
    split at h
    · rename_i cs
      cases hv with
      | agg cs cs' hc hh => exact .agg _ _ hc fun k x x' hx hx' => plain_sound hA d x x' (by
          obtain ⟨hk, rfl⟩ := Array.getElem?_eq_some_iff.1 hx
          exact Array.all_eq_true.1 h k hk) (hh k x x' hx hx')
    · rename_i cs
      cases hv with
      | tuple cs cs' hc hh => exact .tuple _ _ hc fun k x x' hx hx' => plain_sound hA d x x' (by
          obtain ⟨hk, rfl⟩ := Array.getElem?_eq_some_iff.1 hx
          exact Array.all_eq_true.1 h k hk) (hh k x x' hx hx')
    · rename_i t cs
      simp only [Bool.and_eq_true, decide_eq_true_eq] at h
      obtain ⟨ht, hall⟩ := h
      rcases hv.vs_inv ht with ⟨rfl, a', c', rfl⟩ | ⟨es, b, o, c', cs', rfl, hp, hc, hz, hb, hh, rfl⟩
      · obtain ⟨es, rfl⟩ : ∃ es, t = vsT + es := ⟨t - vsT, (Nat.add_sub_cancel' ht).symm⟩
        exact .vsE es a' c'
      · refine .vs es cs b o c' cs' (hA _ _ hp) hc hz hb fun k j x y y' hx hy hy' => ?_
        obtain ⟨hk, rfl⟩ := Array.getElem?_eq_some_iff.1 hx
        exact plain_sound hA d y y' (plain_cells (Array.all_eq_true.1 hall k hk) hy) (hh k j _ y y' hx hy hy')
    · rw [hv.const_eq1 h]; exact constOk1_rel h

theorem stripAll_get {f : Value → Option Value} : ∀ (cs l : List Value), stripAll f cs = some l → l.length = cs.length ∧ ∀ (k : Nat) (y : Value), l[k]? = some y → ∃ u, cs[k]? = some u ∧ f u = some y
  | [], l, h => by
    cases h
    exact ⟨rfl, fun k y hy => by simp at hy⟩
  | v :: cs, l, h => by
    unfold stripAll at h
    split at h
    case h_2 => cases h
    rename_i x hx
    simp only [Option.map_eq_some_iff] at h
    obtain ⟨l0, h0, rfl⟩ := h
    obtain ⟨h1, h2⟩ := stripAll_get cs l0 h0
    refine ⟨by simp [h1], fun k y hy => ?_⟩
    cases k with
    | zero => simp at hy; subst hy; exact ⟨v, rfl, hx⟩
    | succ k => obtain ⟨u, hu, hf⟩ := h2 k y (by simpa using hy); exact ⟨u, by simpa using hu, hf⟩
theorem notAgg_cells {c : Value} (h : notAgg c = true) : c.cells = #[c] := by
  cases c <;> first | rfl | cases h
theorem chunks_get {es : Nat} {ag : Bool} : ∀ (n : Nat) (l xs : List Value), chunks es ag n l = some xs → xs.length = n ∧ n * es ≤ l.length ∧
    ∀ (k : Nat) (x : Value), xs[k]? = some x → x.cells.size = es ∧ ∀ (j : Nat) (y : Value), x.cells[j]? = some y → l[k * es + j]? = some y
  | 0, l, xs, h => by
    simp only [chunks] at h
    cases h
    exact ⟨rfl, by omega, fun k x hx => by simp at hx⟩
  | n + 1, l, xs, h => by
    unfold chunks at h
    split at h
    · rename_i c
      split at h
      case isFalse => cases h
      rename_i hc
      simp only [Option.map_eq_some_iff] at h
      obtain ⟨xs0, h0, rfl⟩ := h
      obtain ⟨h1, h2, h3⟩ := chunks_get n _ xs0 h0
      simp only [List.length_take, List.length_drop] at hc h2
      refine ⟨by simp [h1], by rw [Nat.succ_mul]; omega, fun k x hx => ?_⟩
      cases k with
      | zero =>
        simp at hx; subst hx
        simp only [Value.cells]
        refine ⟨by simp; omega, fun j y hy => ?_⟩
        rw [Nat.zero_mul, Nat.zero_add]
        simp only [List.getElem?_toArray] at hy
        rw [List.getElem?_take] at hy
        split at hy
        · exact hy
        · cases hy
      | succ k =>
        obtain ⟨h4, h5⟩ := h3 k x (by simpa using hx)
        refine ⟨h4, fun j y hy => ?_⟩
        have := h5 j y hy
        rw [List.getElem?_drop] at this
        rw [← this, Nat.succ_mul]; congr 1; omega
    · rename_i c hc1
      split at h
      case isFalse => cases h
      rename_i hc
      obtain ⟨he, hna⟩ := hc
      subst he
      simp only [Option.map_eq_some_iff] at h
      obtain ⟨xs0, h0, rfl⟩ := h
      obtain ⟨h1, h2, h3⟩ := chunks_get n _ xs0 h0
      have hl : l = c :: l.drop 1 := by
        cases l with
        | nil => simp at hc1
        | cons a l => simp at hc1; simp [hc1]
      have hlen : l.length = (l.drop 1).length + 1 := by
        have := congrArg List.length hl
        simpa using this
      refine ⟨by simp [h1], by omega, fun k x hx => ?_⟩
      cases k with
      | zero =>
        simp at hx; subst hx
        rw [notAgg_cells hna]
        refine ⟨rfl, fun j y hy => ?_⟩
        rw [hl]
        have := (Array.getElem?_eq_some_iff.1 hy).1
        have hj : j = 0 := by simpa using this
        subst hj
        simpa using hy
      | succ k =>
        obtain ⟨h4, h5⟩ := h3 k x (by simpa using hx)
        refine ⟨h4, fun j y hy => ?_⟩
        have := h5 j y hy
        rw [List.getElem?_drop] at this
        rw [← this]; congr 1; omega
    · cases h

theorem strip_sound {ι1 ι2 : Emb} {H w : World} (hrel : Rel P ι1 H w) (hA : ∀ b cs, ι1.fz b = some cs → ι2.fz b = some cs)
    (hB : ∀ (i : Nat) (cs : Array Value) (e : TypeId) (fr : Nat × Nat) (r : Loc) (cs' : Array Value) (e' : TypeId) (fr' : Nat × Nat), H.heap[i]? = some (.cells cs e fr) → ι1 i = some r → w.heap[r.b]? = some (.cells cs' e' fr') → ι2.fz r.b = some cs') :
    ∀ (d : Nat) (v v' v2 : Value), strip d P H v = some v2 → VRel ι1 v v' → VRel ι2 v2 v'
  | 0, v, v', v2, h, hv => by
    simp only [strip] at h
    replace h := of_if' h
    obtain ⟨h1, h⟩ := h
    injection h with h; subst h
    rw [hv.const_eq1 h1]; exact constOk1_rel h1
  | d + 1, v, v', v2, h, hv => by
    unfold strip at h
    split at h
    · rename_i cs
      simp only [Option.map_eq_some_iff] at h
      obtain ⟨l, hl, rfl⟩ := h
      obtain ⟨h1, h2⟩ := stripAll_get _ _ hl
      cases hv with
      | agg cs cs' hc hh =>
        refine .agg _ _ (by simp [h1, ← hc]) fun k y y' hy hy' => ?_
        obtain ⟨u, hu, hf⟩ := h2 k y (by simpa using hy)
        exact strip_sound hrel hA hB d u y' y hf (hh k u y' (by simpa using hu) hy')
    · rename_i cs
      simp only [Option.map_eq_some_iff] at h
      obtain ⟨l, hl, rfl⟩ := h
      obtain ⟨h1, h2⟩ := stripAll_get _ _ hl
      cases hv with
      | tuple cs cs' hc hh =>
        refine .tuple _ _ (by simp [h1, ← hc]) fun k y y' hy hy' => ?_
        obtain ⟨u, hu, hf⟩ := h2 k y (by simpa using hy)
        exact strip_sound hrel hA hB d u y' y hf (hh k u y' (by simpa using hu) hy')
    · rename_i t cs
      replace h := of_if' h
      obtain ⟨⟨ht, hall⟩, h⟩ := h
      injection h with h; subst h
      exact plain_sound hA (d + 1) _ _ (by simp only [plain, Bool.and_eq_true, decide_eq_true_eq]; exact ⟨ht, hall⟩) hv
    · rename_i a n c
      split at h
      case h_2 => cases h
      rename_i cs e fr hb
      split at h
      case h_2 => cases h
      rename_i de inf hu hi
      replace h := of_if' h
      obtain ⟨hpos, h⟩ := h
      split at h
      case h_2 => cases h
      rename_i l hl
      simp only [Option.map_eq_some_iff] at h
      obtain ⟨xs, hxs, rfl⟩ := h
      obtain ⟨h1, h2⟩ := stripAll_get _ _ hl
      obtain ⟨h3, h4, h5⟩ := chunks_get _ _ _ hxs
      cases hv with
      | sl i o n c a' c' r hr hs =>
        simp only at hb h1 h2 hl
        obtain ⟨hnc, hcc, ha, _⟩ := hs
        by_cases hn : n = 0
        · subst hn
          have : xs = [] := List.length_eq_zero_iff.1 h3
          subst this
          exact .vsE _ a' c'
        · rcases ha with rfl | hc0
          case inr => omega
          obtain ⟨cs', fr', hw, hrow, hcs⟩ := hrel.row hr hb
          have hlen : l.length ≤ cs.size - o := by
            rw [h1, List.length_take, List.length_drop]; simp; omega
          have hne : 0 < n * inf.size := Nat.mul_pos (by omega) hpos
          have hlast : r.base + o + n * inf.size ≤ cs'.size := by
            have hlt : o + n * inf.size - 1 < cs.size := by omega
            obtain ⟨u', hu', _⟩ := hcs (o + n * inf.size - 1) _ (Array.getElem?_eq_getElem hlt)
            have := (Array.getElem?_eq_some_iff.1 hu').1
            omega
          have := VRel.vs (ι := ι2) inf.size xs.toArray r.b (r.base + o) c' cs' (hB _ _ _ _ _ _ _ _ hb hr hw) (by simp; omega) (fun k x hx => (h5 k x (by simpa using hx)).1) (by simp [h3]; omega) fun k j x y y' hx hy hy' => ?_
          · simpa [h3, vs] using this
          · have h6 := (h5 k x (by simpa using hx)).2 j y hy
            obtain ⟨u, hu6, hf⟩ := h2 _ y h6
            rw [List.getElem?_take] at hu6
            split at hu6
            case isFalse => cases hu6
            rw [List.getElem?_drop, Array.getElem?_toList] at hu6
            obtain ⟨u', hu', hvr⟩ := hcs _ u hu6
            rw [show r.base + (o + (k * inf.size + j)) = r.base + o + k * inf.size + j by omega, hy'] at hu'
            injection hu' with hu'; subst hu'
            exact strip_sound hrel hA hB d u y' y hf hvr
    · replace h := of_if' h
      obtain ⟨h1, h⟩ := h
      injection h with h; subst h
      rw [hv.const_eq1 h1]; exact constOk1_rel h1

theorem strip0_sound {ι1 ι2 : Emb} {H w : World} (hrel : Rel P ι1 H w)
    (hB : ∀ (i : Nat) (cs : Array Value) (e : TypeId) (fr : Nat × Nat) (r : Loc) (cs' : Array Value) (e' : TypeId) (fr' : Nat × Nat), H.heap[i]? = some (.cells cs e fr) → ι1 i = some r → w.heap[r.b]? = some (.cells cs' e' fr') → ι2.fz r.b = some cs') :
    ∀ (d : Nat) (v v' v2 : Value), strip0 d P H v = some v2 → VRel ι1 v v' → VRel ι2 v2 v'
  | 0, v, v', v2, h, hv => by
    simp only [strip0] at h
    replace h := of_if' h
    obtain ⟨h1, h⟩ := h
    injection h with h; subst h
    rw [hv.const_eq1 h1]; exact constOk1_rel h1
  | d + 1, v, v', v2, h, hv => by
    unfold strip0 at h
    split at h
    · rename_i cs
      simp only [Option.map_eq_some_iff] at h
      obtain ⟨l, hl, rfl⟩ := h
      obtain ⟨h1, h2⟩ := stripAll_get _ _ hl
      cases hv with
      | agg cs cs' hc hh =>
        refine .agg _ _ (by simp [h1, ← hc]) fun k y y' hy hy' => ?_
        obtain ⟨u, hu, hf⟩ := h2 k y (by simpa using hy)
        exact strip0_sound hrel hB d u y' y hf (hh k u y' (by simpa using hu) hy')
    · rename_i cs
      simp only [Option.map_eq_some_iff] at h
      obtain ⟨l, hl, rfl⟩ := h
      obtain ⟨h1, h2⟩ := stripAll_get _ _ hl
      cases hv with
      | tuple cs cs' hc hh =>
        refine .tuple _ _ (by simp [h1, ← hc]) fun k y y' hy hy' => ?_
        obtain ⟨u, hu, hf⟩ := h2 k y (by simpa using hy)
        exact strip0_sound hrel hB d u y' y hf (hh k u y' (by simpa using hu) hy')
    · cases h
    · rename_i a n c
      split at h
      case h_2 => cases h
      rename_i cs e fr hb
      split at h
      case h_2 => cases h
      rename_i de inf hu hi
      replace h := of_if' h
      obtain ⟨hpos, h⟩ := h
      split at h
      case h_2 => cases h
      rename_i l hl
      simp only [Option.map_eq_some_iff] at h
      obtain ⟨xs, hxs, rfl⟩ := h
      obtain ⟨h1, h2⟩ := stripAll_get _ _ hl
      obtain ⟨h3, h4, h5⟩ := chunks_get _ _ _ hxs
      cases hv with
      | sl i o n c a' c' r hr hs =>
        simp only at hb h1 h2 hl
        obtain ⟨hnc, hcc, ha, _⟩ := hs
        by_cases hn : n = 0
        · subst hn
          have : xs = [] := List.length_eq_zero_iff.1 h3
          subst this
          exact .vsE _ a' c'
        · rcases ha with rfl | hc0
          case inr => omega
          obtain ⟨cs', fr', hw, hrow, hcs⟩ := hrel.row hr hb
          have hlen : l.length ≤ cs.size - o := by
            rw [h1, List.length_take, List.length_drop]; simp; omega
          have hne : 0 < n * inf.size := Nat.mul_pos (by omega) hpos
          have hlast : r.base + o + n * inf.size ≤ cs'.size := by
            have hlt : o + n * inf.size - 1 < cs.size := by omega
            obtain ⟨u', hu', _⟩ := hcs (o + n * inf.size - 1) _ (Array.getElem?_eq_getElem hlt)
            have := (Array.getElem?_eq_some_iff.1 hu').1
            omega
          have := VRel.vs (ι := ι2) inf.size xs.toArray r.b (r.base + o) c' cs' (hB _ _ _ _ _ _ _ _ hb hr hw) (by simp; omega) (fun k x hx => (h5 k x (by simpa using hx)).1) (by simp [h3]; omega) fun k j x y y' hx hy hy' => ?_
          · simpa [h3, vs] using this
          · have h6 := (h5 k x (by simpa using hx)).2 j y hy
            obtain ⟨u, hu6, hf⟩ := h2 _ y h6
            rw [List.getElem?_take] at hu6
            split at hu6
            case isFalse => cases hu6
            rw [List.getElem?_drop, Array.getElem?_toList] at hu6
            obtain ⟨u', hu', hvr⟩ := hcs _ u hu6
            rw [show r.base + (o + (k * inf.size + j)) = r.base + o + k * inf.size + j by omega, hy'] at hu'
            injection hu' with hu'; subst hu'
            exact strip0_sound hrel hB d u y' y hf hvr
    · replace h := of_if' h
      obtain ⟨h1, h⟩ := h
      injection h with h; subst h
      rw [hv.const_eq1 h1]; exact constOk1_rel h1

/-- What is told of the machine's rows when a call that stood alone has ended. -/
def cellsAt (w : World) (b : Nat) : Option (Array Value) :=
  match w.heap[b]? with
  | some (.cells cs _ _) => some cs
  | _ => none
def Emb.bare (ι : Emb) : Emb := ⟨fun _ => none, ι.fz⟩
def Emb.after (ι : Emb) (w w1 : World) : Emb := ⟨ι.loc, fun b => match ι.fz b with
  | some cs => some cs
  | none => if w.heap.size ≤ b then cellsAt w1 b else none⟩
theorem rel0 {ι : Emb} {H w : World} (h : Rel P ι H w) : Rel P ι.bare World0 w :=
  ⟨fun b cs hb => ⟨(h.fz b cs hb).1, fun i o r hi => (by simp [World0] at hi)⟩, fun i o hi => (by simp [World0] at hi), fun i j o1 o2 r1 r2 hi => (by simp [World0] at hi), fun i r h => (by cases h), fun i o hi => (by simp [World0] at hi)⟩
theorem after_A {ι ι1 : Emb} {H H1 w w1 : World} (hrel : Rel P ι H w) (h : Step P ι.bare World0 w ι1 H1 w1) : ∀ b cs, ι1.fz b = some cs → (ι.after w w1).fz b = some cs := by
  intro b cs hb
  have hw := (h.rel.fz b cs hb).1
  unfold Emb.after
  simp only
  rcases h.pins b cs hb with h1 | h1
  · have h1 : ι.fz b = some cs := h1
    rw [h1]
  · cases hf : ι.fz b with
    | some cs2 =>
      obtain ⟨e, fr, hb2⟩ := (hrel.fz b cs2 hf).1
      have := (Array.getElem?_eq_some_iff.1 hb2).1
      omega
    | none =>
      obtain ⟨e, fr, hb2⟩ := hw
      simp only [if_pos h1, cellsAt, hb2]
theorem after_B {ι ι0 ι1 : Emb} {H H1 w w1 : World} (hrel : Rel P ι H w) (h : Step P ι0 World0 w ι1 H1 w1) : ∀ (i : Nat) (cs : Array Value) (e : TypeId) (fr : Nat × Nat) (r : Loc) (cs' : Array Value) (e' : TypeId) (fr' : Nat × Nat), H1.heap[i]? = some (.cells cs e fr) → ι1 i = some r → w1.heap[r.b]? = some (.cells cs' e' fr') → (ι.after w w1).fz r.b = some cs' := by
  intro i cs e fr r cs' e' fr' hi hr hw
  rcases h.own i _ r hi rfl hr with h1 | ⟨j, oj, rj, hj, _⟩
  · unfold Emb.after
    simp only
    cases hf : ι.fz r.b with
    | some cs2 =>
      obtain ⟨e, fr, hb2⟩ := (hrel.fz _ cs2 hf).1
      have := (Array.getElem?_eq_some_iff.1 hb2).1
      omega
    | none => simp only [if_pos h1, cellsAt, hw]
  · simp [World0] at hj
theorem Step.frame {ι ι0 ι1 : Emb} {H H1 w w1 : World} (hrel : Rel P ι H w) (h : Step P ι0 World0 w ι1 H1 w1) : Step P ι H w (ι.after w w1) H w1 := by
  have hk : ∀ b : Nat, b < w.heap.size → w1.heap[b]? = w.heap[b]? := fun b hb => h.keep b hb fun i o r hi => by simp [World0] at hi
  have hle : ι.le (ι.after w w1) := ⟨fun _ _ h => h, fun b cs hb => by unfold Emb.after; simp only [hb]⟩
  have hsz := h.size
  refine ⟨hle, ⟨fun b cs hb => ?_, fun i o hi hl => ?_, hrel.inj, fun i r hr => ?_, hrel.only⟩, h.size, h.os, h.tape, h.output, fun b hb _ => hk b hb, fun i o r hi _ hr => ⟨hi, hk _ (hrel.dom i r hr).2⟩, fun b cs hb => ?_, fun i o r hi hl hr => .inr ⟨i, o, r, hi, hl, hr, rfl⟩⟩
  · cases hf : ι.fz b with
    | some cs2 =>
      have : cs2 = cs := by have h2 := hle.fz b cs2 hf; rw [hb] at h2; injection h2 with h2; exact h2.symm
      subst this
      obtain ⟨⟨e, fr, h1⟩, h2⟩ := hrel.fz b cs2 hf
      have hlt := (Array.getElem?_eq_some_iff.1 h1).1
      exact ⟨⟨e, fr, by rw [hk _ hlt]; exact h1⟩, h2⟩
    | none =>
      unfold Emb.after at hb
      simp only [hf] at hb
      replace hb := of_if' hb
      obtain ⟨hge, hb⟩ := hb
      refine ⟨?_, fun i o r hi hl hg hr => ?_⟩
      · unfold cellsAt at hb
        split at hb
        · rename_i cs2 e fr hc
          injection hb with hb; subst hb
          exact ⟨e, fr, hc⟩
        · cases hb
      · have := (hrel.dom i r hr).2
        omega
  · obtain ⟨r, o', hr, hw, ho⟩ := hrel.obj i o hi hl
    exact ⟨r, o', hr, by rw [hk _ (hrel.dom i r hr).2]; exact hw, ho.mono hle⟩
  · have := hrel.dom i r hr
    omega
  · cases hf : ι.fz b with
    | some cs2 =>
      have h2 := hle.fz b cs2 hf
      rw [hb] at h2
      exact .inl h2.symm
    | none =>
      unfold Emb.after at hb
      simp only [hf] at hb
      exact .inr (of_if' hb).1
theorem aloneD_sound (hP : Good P) {dr : DrawD} (hdr : DrawOk P dr) {E : Evs} (hE : Snd P E) {f : FuncId} {args : Array Value} {H : World} {v : Value} {H1 : World} (hc : args.all (plain deep) = true) (h : aloneD dr P E f args H = some (v, H1)) : FnS P f args H v H1 := by
  intro ι w args' ro' n R hrel hargs hR
  unfold aloneD at h
  split at h
  case h_2 => cases h
  rename_i v0 H0 hf
  simp only [Option.map_eq_some_iff] at h
  obtain ⟨v2, hv, h⟩ := h
  cases h
  have hargs0 : ARel ι.bare args args' := ⟨hargs.1, fun k x x' hx hx' => plain_sound (ι := ι) (ι2 := ι.bare) (fun _ _ h => h) deep x x' (by
    obtain ⟨hk, rfl⟩ := Array.getElem?_eq_some_iff.1 hx
    exact Array.all_eq_true.1 hc k hk) (hargs.2 k x x' hx hx')⟩
  refine fnD_sound hP hdr hE hf ι.bare w args' ro' n R (rel0 hrel) hargs0 fun ι1 v' w1 hst hvr => ?_
  exact hR _ v' w1 (hst.frame hrel) (strip_sound hst.rel (after_A hrel hst) (after_B hrel hst) deep _ _ _ hv hvr)

def pins (w : World) : Emb := ⟨fun _ => none, cellsAt w⟩
theorem pins_rel (w : World) : Rel P (pins w) World0 w := by
  refine ⟨fun b cs hb => ⟨?_, fun i o r hi => (by simp [World0] at hi)⟩, fun i o hi => (by simp [World0] at hi), fun i j o1 o2 r1 r2 hi => (by simp [World0] at hi), fun i r h => (by cases h), fun i o hi => (by simp [World0] at hi)⟩
  have hb : cellsAt w b = some cs := hb
  unfold cellsAt at hb
  split at hb
  · rename_i cs2 e fr hc
    injection hb with hb; subst hb
    exact ⟨e, fr, hc⟩
  · cases hb

theorem aloneH_sound (hP : Good P) {dr : DrawD} (hdr : DrawOk P dr) {E : Evs} (hE : Snd P E) {f : FuncId} {args : Array Value} {l : List Value} {H : World} {v : Value} {H1 : World} (hc : stripArgs P H args = some l) (h : aloneH dr P E f l H = some (v, H1)) : FnS P f args H v H1 := by
  intro ι w args' ro' n R hrel hargs hR
  unfold aloneH at h
  split at h
  case h_2 => cases h
  rename_i v0 H0 hf
  simp only [Option.map_eq_some_iff] at h
  obtain ⟨v2, hv, h⟩ := h
  cases h
  obtain ⟨h1, h2⟩ := stripAll_get _ _ hc
  have hA : ∀ b cs, ι.fz b = some cs → (pins w).fz b = some cs := fun b cs hb => by
    obtain ⟨e, fr, hw⟩ := (hrel.fz b cs hb).1
    show cellsAt w b = some cs
    simp only [cellsAt, hw]
  have hB : ∀ (i : Nat) (cs : Array Value) (e : TypeId) (fr : Nat × Nat) (r : Loc) (cs' : Array Value) (e' : TypeId) (fr' : Nat × Nat), H.heap[i]? = some (.cells cs e fr) → ι i = some r → w.heap[r.b]? = some (.cells cs' e' fr') → (pins w).fz r.b = some cs' := fun i cs e fr r cs' e' fr' _ _ hw => by
    show cellsAt w r.b = some cs'
    simp only [cellsAt, hw]
  have hargs0 : ARel (pins w) l.toArray args' := by
    refine ⟨by rw [← hargs.1]; simp [h1], fun k x x' hx hx' => ?_⟩
    obtain ⟨u, hu, hs⟩ := h2 k x (by simpa using hx)
    exact strip_sound hrel hA hB deep u x' x hs (hargs.2 k u x' (by simpa using hu) hx')
  refine fnD_sound hP hdr hE hf (pins w) w args' ro' n R (pins_rel w) hargs0 fun ι1 v' w1 hst hvr => ?_
  exact hR _ v' w1 (hst.frame hrel) (strip0_sound hst.rel (after_B hrel hst) deep _ _ _ hv hvr)
/-- Such rules hold of the machine. -/
def SpOk (P : Program) (sp : Sp) : Prop := ∀ f g, sp f = some g → ∀ args H v H1, g args H = some (v, H1) → FnS P f args H v H1
theorem SpOk.none (P : Program) : SpOk P spNone := fun f g h => by cases h
theorem evs_sound (hP : Good P) {dr : DrawD} (hdr : DrawOk P dr) (al : FuncId → Bool) {sp : Sp} (hsp : SpOk P sp) : ∀ k, Snd P (evs dr al sp P k)
  | 0 => ⟨fun _ _ _ _ _ _ _ h => (by cases h), fun _ _ _ _ _ h => (by cases h), fun _ _ _ _ _ _ _ h => (by cases h)⟩
  | k + 1 => by
    have ih := evs_sound hP hdr al hsp k
    refine ⟨fun ro c a H e a1 H1 h => ?_, fun f args H v H1 h => ?_, fun l tmps as b H v H1 h => roundD_sound hP hdr ih h⟩
    · intro ι w a' ro' n Q hrel ha hro hQ
      have h : codeD dr P (evs dr al sp P k) ro (.loop c) a H = some (e, a1, H1) := h
      unfold codeD at h
      cases hx : codeD dr P (evs dr al sp P k) ro c a H with
      | none => rw [hx] at h; cases h
      | some p =>
        obtain ⟨e1, a2, H2⟩ := p
        rw [hx] at h
        refine LoopIn.round (codeD_sound hP hdr ih c ro a H e1 a2 H2 hx ι w a' ro' n _ hrel ha hro fun ι1 a2' w1 hs1 ha2 => ?_)
        by_cases he : e1 = .normal
        · subst he
          exact ih.code ro c a2 H2 e a1 H1 h ι1 w1 a2' ro' n Q hs1.rel ha2 (hro.mono hs1.le) (hQ.step hs1)
        · have : e1 = e ∧ a2 = a1 ∧ H2 = H1 := by
            cases e1 <;> first | exact absurd rfl he | (cases h; exact ⟨rfl, rfl, rfl⟩)
          obtain ⟨rfl, rfl, rfl⟩ := this
          exact then_of he (hQ ι1 a2' w1 hs1 ha2)
    · have h : callF dr al sp P (evs dr al sp P k) f args H = some (v, H1) := h
      unfold callF at h
      split at h
      · rename_i hc
        simp only [Bool.and_eq_true] at hc
        exact aloneD_sound hP hdr ih hc.2 h
      · split at h
        · rename_i l hl
          split at hl
          · exact aloneH_sound hP hdr ih hl h
          · cases hl
        · split at h
          · rename_i g hg
            exact hsp f g hg args H v H1 h
          · exact fnD_sound hP hdr ih h

/-- **THE EVALUATOR's ANSWER IS THE MACHINE's.** -/
theorem calls_of_evs (hP : Good P) {dr : DrawD} (hdr : DrawOk P dr) {al : FuncId → Bool} {sp : Sp} (hsp : SpOk P sp) {k : Nat} {f : FuncId} {args args' : Array Value} {H w : World} {v : Value} {H1 : World} {ι : Emb} {R : Ending → World → Prop}
    (h : (evs dr al sp P k).fn f args H = some (v, H1)) (hrel : Rel P ι H w) (hargs : ARel ι args args') (hR : ThenV P ι H w v H1 R) : Calls P f args' w R :=
  callsIn_wide.1 ((evs_sound hP hdr al hsp k).fn f args H v H1 h ι w args' none 0 R hrel hargs hR)
end Go.Proofs.Ytmmmdmandocbhaa.Den
end

section
/- Quiet operations: they leave the world as it is. -/
set_option linter.unusedVariables false
set_option linter.unusedSimpArgs false
namespace Go.Proofs.Ytmmmdmandocbhaa.Den
variable {P : Program}

theorem RO.halt {α : Type} (e : Halt) : RO P (Sem.halt e : Sem α) := fun w x w1 h => by cases h
theorem RO.stuck {α : Type} (e : String) : RO P (Go.stuck e : Sem α) := RO.halt _
theorem RO.unsupported {α : Type} (e : Unsupported) : RO P (Go.unsupported e : Sem α) := RO.halt _
theorem RO.runtimePanic {α : Type} (e : RuntimeError) : RO P (Go.runtimePanic e : Sem α) := noRun_ro fun H x H1 => noRun_runtimePanic e H x H1
theorem RO.boundsPanic {α : Type} (k : IntKind) (x y : Int) (c : BoundsCode) : RO P (Go.boundsPanic k x y c : Sem α) := noRun_ro fun H v H1 => noRun_boundsPanic k x y c H v H1
theorem RO.underlying (t : TypeId) : RO P (Go.underlying t) := (HF.underlying t).ro
theorem RO.typeInfo (t : TypeId) : RO P (Go.typeInfo t) := (HF.typeInfo t).ro
theorem RO.sizeOf (t : TypeId) : RO P (Go.sizeOf t) := (HF.sizeOf t).ro
theorem RO.isAgg (t : TypeId) : RO P (Go.isAgg t) := (HF.isAgg t).ro
theorem RO.zeroValue (t : TypeId) : RO P (Go.zeroValue t) := (HF.zeroValue t).ro
theorem RO.asBool (v : Value) : RO P (Go.asBool v) := (HF.asBool v).ro
theorem RO.asInt (v : Value) : RO P (Go.asInt v) := (HF.asInt v).ro
theorem RO.asIntOf (v : Value) : RO P (Go.asIntOf v) := (HF.asIntOf v).ro
theorem RO.asAgg (v : Value) : RO P (Go.asAgg v) := by cases v <;> first | exact .pure _ | exact .stuck _
theorem RO.program : RO P Go.program := HF.program.ro
theorem RO.mark (m : Mark) : RO P (Go.mark m) := (HF.mark m).ro
theorem RO.loadCells (a : Addr) (n : Nat) : RO P (Go.loadCells a n) := RO.loadCellsFrom a n 0 _
theorem RO.sureAddr (v : Value) : RO P (Instr.sureAddr v) := by unfold Instr.sureAddr; split <;> first | exact .pure _ | exact .stuck _
theorem RO.ite {α : Type} {c : Prop} [Decidable c] {s t : Sem α} (h : RO P s) (h' : RO P t) : RO P (if c then s else t) := by split <;> assumption
theorem RO.loadAt (t : TypeId) (v : Value) : RO P (Instr.loadAt t v) := (RO.sureAddr v).bind fun a => RO.loadVar t a
theorem RO.part (t : TypeId) (cs : Array Value) (off : Nat) : RO P (Go.part t cs off) := by
  unfold Go.part
  refine (RO.isAgg t).bind fun b => ?_
  split
  · exact (RO.sizeOf t).bind fun n => by first | exact .pure _ | (split <;> first | exact .pure _ | exact .stuck _)
  · split <;> first | exact .pure _ | exact .stuck _
theorem RO.unary (op : UnOp) (v : Value) : RO P (Op.unary op v) := by
  unfold Op.unary
  split <;> first | exact .pure _ | exact .stuck _ | exact .unsupported _
theorem RO.extract (v : Value) (k : Nat) : RO P (Instr.extract v k) := by
  unfold Instr.extract
  split <;> first | exact .stuck _ | exact .pure _ | (split <;> first | exact .stuck _ | exact .pure _)
theorem RO.field (t : TypeId) (v : Value) (f : Nat) : RO P (Instr.field t v f) := by
  unfold Instr.field
  refine (RO.underlying t).bind fun d => ?_
  split
  · split
    · exact (RO.asAgg v).bind fun cs => RO.part _ _ _
    · exact .stuck _
  · exact .stuck _
theorem RO.shape (r : Nat) : RO P (Go.shape r) := fun w x w1 h => by
  simp only [run_shape, Result.ok.injEq] at h; exact h.2.symm
theorem RO.indexAt (t : TypeId) (v x : Value) : RO P (Instr.indexAt t v x) := by
  unfold Instr.indexAt
  refine (RO.asIntOf x).bind fun p => (RO.underlying t).bind fun d => ?_
  dsimp only
  split
  · refine (RO.sureAddr _).bind fun a => RO.bind (.pure _) fun q => ?_
    · obtain ⟨base, len, elem⟩ := q
      dsimp only
      refine (RO.underlying t).bind fun d2 => ?_
      split
      · exact .ite ((RO.sizeOf _).bind fun n => .pure _) (.ite (.unsupported _) (.boundsPanic _ _ _ _))
      · exact .boundsPanic _ _ _ _
  · refine RO.bind (.pure _) fun q => ?_
    · obtain ⟨base, len, elem⟩ := q
      dsimp only
      refine (RO.underlying t).bind fun d2 => ?_
      split
      · exact .ite ((RO.sizeOf _).bind fun n => .pure _) (.ite (.unsupported _) (.boundsPanic _ _ _ _))
      · exact .boundsPanic _ _ _ _
  · refine RO.bind (.stuck _) fun q => ?_
    · obtain ⟨base, len, elem⟩ := q
      dsimp only
      refine (RO.underlying t).bind fun d2 => ?_
      split
      · exact .ite ((RO.sizeOf _).bind fun n => .pure _) (.ite (.unsupported _) (.boundsPanic _ _ _ _))
      · exact .boundsPanic _ _ _ _
theorem RO.index (t : TypeId) (v x : Value) : RO P (Instr.index t v x) := by
  unfold Instr.index
  refine (RO.asIntOf x).bind fun p => (RO.underlying t).bind fun d => ?_
  split
  · exact .ite ((RO.sizeOf _).bind fun n => RO.part _ _ _) (.boundsPanic _ _ _ _)
  · split
    · exact .pure _
    · exact .boundsPanic _ _ _ _
  · exact .stuck _
theorem RO.build (t : TypeId) (ps : Array (Nat × Value)) : RO P (Instr.build t ps) := by
  unfold Instr.build
  refine (RO.zeroValue t).bind fun z => (RO.underlying t).bind fun d => ?_
  split
  · refine RO.bind (RO.mapM (fun f => (RO.sizeOf _).bind fun n => .pure _) _) fun pl => ?_
    split
    · exact .pure _
    · exact .stuck _
  · refine (RO.sizeOf _).bind fun n => ?_
    split
    · exact .pure _
    · exact .stuck _
  · exact .stuck _
theorem RO.fieldAt {s : TypeId} {f : Nat} (hf : fieldOk P s f = true) (v : Value) : RO P (Instr.fieldAt s v f) := by
  intro w x w1 hx
  unfold fieldOk at hf
  cases hu : P.underlying s with
  | none => rw [hu] at hf; cases hf
  | some d =>
    rw [hu] at hf
    cases d with
    | struct fs =>
      simp only at hf
      cases hfs : fs[f]? with
      | none => rw [hfs] at hf; cases hf
      | some fl =>
        rw [hfs] at hf
        simp only at hf
        cases hi : P.info? fl.type with
        | none => rw [hi] at hf; cases hf
        | some inf =>
          rw [hi] at hf
          have hsz : inf.size ≠ 0 := by simpa using hf
          have hrun : ∀ (W : World) (a : Addr), (Instr.fieldAt s (.pointer (some a)) f).run P W = .ok (.pointer (some (a.add fl.offset))) W := by
            intro W a
            simp [Instr.fieldAt, Go.underlying, hu, hfs, Instr.sureAddr, fieldPlace, Go.sizeOf, Go.typeInfo, hi, hsz]
          by_cases hp : ∃ a, v = .pointer (some a)
          · obtain ⟨a, rfl⟩ := hp
            rw [hrun] at hx
            simp only [Result.ok.injEq] at hx
            exact hx.2.symm
          · exfalso
            have : ∃ e, (Instr.sureAddr v).run P w = .halt e w := by
              unfold Instr.sureAddr
              split
              · rename_i a; exact absurd ⟨a, rfl⟩ hp
              · exact ⟨_, rfl⟩
            obtain ⟨e, he⟩ := this
            simp [Instr.fieldAt, Go.underlying, hu, hfs, he] at hx
    | _ => cases hf

/-- Which operations leave the world as it is. -/
def quietOp (P : Program) : Op → Bool
  | .move _ | .assign _ | .pick .. | .build .. | .load .. | .unOp .. | .field .. | .indexAddr .. | .index .. | .extract .. | .fieldAddr .. | .makeFunc .. | .slice .. | .binOp .. | .lookup .. | .nilCheck _ => true
  | .convert _ dst _ => match P.underlying dst with
    | some (.int _) | some .string => true
    | _ => false
  | .call c => match c.callee with
    | .builtin .len => true
    | _ => false
  | _ => false

theorem valRO {s : Sem Value} (h : RO P s) {H H1 : World} {nx : Next} (hr : okRun ((do Pure.pure (Next.value (← s))).run P H) = some (nx, H1)) : H1 = H ∧ ∃ v, nx = .value v := by
  have hr := okRun_some hr
  simp only [Sem.run_bind] at hr
  cases hs : s.run P H with
  | halt e w1 => rw [hs] at hr; cases hr
  | ok x w1 =>
    rw [hs] at hr
    simp only [Result.andThen_ok, Sem.run_pure, Result.ok.injEq] at hr
    exact ⟨hr.2.symm.trans (h _ _ _ hs), x, hr.1.symm⟩

theorem RO.sliceBounds (b : Bool) (n c : Nat) (lo hi mx : Option Value) : RO P (Instr.sliceBounds b n c lo hi mx) := (HF.sliceBounds b n c lo hi mx).ro

theorem RO.asAddr (v : Value) : RO P (Go.asAddr v) := by
  unfold Go.asAddr
  split
  · exact .pure _
  · exact .runtimePanic _
  · exact .stuck _
theorem RO.slice (t : TypeId) (x : Value) (lo hi mx : Option Value) : RO P (Instr.slice t x lo hi mx) := by
  unfold Instr.slice
  refine (RO.underlying t).bind fun d => ?_
  split
  · split
    · exact (RO.stuck _).bind fun _ => (RO.sliceBounds _ _ _ _ _ _).bind fun q => .pure _
    · exact (RO.sliceBounds _ _ _ _ _ _).bind fun q => .pure _
  · exact (RO.sliceBounds _ _ _ _ _ _).bind fun q => (RO.sizeOf _).bind fun n => .pure _
  · refine (RO.asAddr _).bind fun a => (RO.underlying _).bind fun u => ?_
    split
    · exact (RO.sliceBounds _ _ _ _ _ _).bind fun q => (RO.sizeOf _).bind fun n => .pure _
    · exact .stuck _
  · exact .stuck _
theorem RO.forInL {α β : Type} {f : α → β → Sem (ForInStep β)} (h : ∀ x b, RO P (f x b)) : ∀ (l : List α) (b : β), RO P (forIn l b f)
  | [], b => by rw [List.forIn_nil]; exact .pure _
  | x :: l, b => by
    rw [List.forIn_cons]
    refine (h x b).bind fun s => ?_
    cases s with
    | done b => exact .pure _
    | yield b => exact RO.forInL h l b
theorem RO.forInA {α β : Type} {f : α → β → Sem (ForInStep β)} (h : ∀ x b, RO P (f x b)) (l : Array α) (b : β) : RO P (forIn l b f) := by
  rw [← Array.forIn_toList]; exact RO.forInL h _ _
theorem RO.bytesToString (x : Value) : RO P (Conv.bytesToString x) := by
  unfold Conv.bytesToString
  split
  · exact .pure _
  · refine (RO.loadCells _ _).bind fun cs => RO.bind (RO.forInA (fun c b => ?_) _ _) fun s => .pure _
    split
    · exact .pure _
    · exact (RO.stuck _).bind fun _ => .pure _
  · exact .stuck _

theorem quiet_sem {o : Oper} {a : Act} {H H1 : World} {nx : Next} (hq : quietOp P o.op = true) (h : semD P o a H = some (nx, H1)) : H1 = H ∧ ∃ v, nx = .value v := by
  unfold semD at h
  split at h
  · cases h
  rename_i hops
  clear hops
  obtain ⟨dst, op, ty, pos, guard, after⟩ := o
  simp only at hq h
  cases hpd : pureD P op a.eval with
  | some v =>
    rw [hpd] at h
    injection h with h; injection h with h1 h2
    exact ⟨h2.symm, v, h1.symm⟩
  | none =>
  rw [hpd] at h
  simp only at h
  clear hpd
  cases op
  all_goals first | (cases hq; done) | skip
  all_goals simp only at h
  case slice t x lo hi mx =>
    simp only [Option.map_eq_some_iff] at h
    obtain ⟨⟨v, H2⟩, h, e⟩ := h
    cases e
    refine ⟨?_, _, rfl⟩
    unfold lslice at h
    split at h
    · split at h
      · split at h
        · cases h; rfl
        · cases h
      · cases h
    · exact RO.slice _ _ _ _ _ _ _ _ (okRun_some h)
    · split at h
      · split at h
        · cases h; rfl
        · cases h
      · cases h
    · cases h
  case binOp op t x y yt =>
    unfold binD at h
    split at h
    · rename_i hf
      simp only [Bool.and_eq_true] at hf
      split at h
      case h_2 => cases h
      rename_i v H2 hr
      split at h
      case isFalse => cases h
      cases h
      exact ⟨(HF.binAll op t x y hf.1 hf.2 _ _ _ (okRun_some hr)).1, _, rfl⟩
    · split at h
      · simp only [Option.map_eq_some_iff] at h
        obtain ⟨r, h, e⟩ := h
        cases e; exact ⟨rfl, _, rfl⟩
      · simp only [Option.map_eq_some_iff] at h
        obtain ⟨r, h, e⟩ := h
        cases e; exact ⟨rfl, _, rfl⟩
      · cases h
  case lookup t m k ok =>
    simp only [Option.map_eq_some_iff] at h
    obtain ⟨v, h, e⟩ := h
    cases e; exact ⟨rfl, _, rfl⟩
  case nilCheck x =>
    split at h
    · cases h; exact ⟨rfl, _, rfl⟩
    · cases h; exact ⟨rfl, _, rfl⟩
    · cases h
  case convert src dst x =>
    simp only [Option.map_eq_some_iff] at h
    obtain ⟨⟨v, H2⟩, h, e⟩ := h
    cases e
    refine ⟨?_, _, rfl⟩
    unfold convD at h
    split at h
    · cases h; rfl
    · cases h; rfl
    · rename_i hu2 _
      simp only [quietOp, hu2] at hq
      cases hq
    · split at h
      · exact RO.bytesToString _ _ _ _ (okRun_some h)
      · cases h
    · cases h
  case call c =>
    unfold callOpD at h
    unfold quietOp at hq
    split at h
    · rename_i b hb
      simp only [hb] at hq
      cases b <;> first | (cases hq; done) | skip
      simp only [Option.map_eq_some_iff] at h
      obtain ⟨⟨v, H2⟩, h, e⟩ := h
      cases e
      refine ⟨?_, _, rfl⟩
      unfold builtinD at h
      simp only at h
      split at h
      · simp only [Option.map_eq_some_iff] at h
        obtain ⟨n, h, e⟩ := h
        cases e; rfl
      · cases h
    · rename_i g hb
      simp only [hb] at hq
      cases hq
    · cases h
  all_goals
    have hok := (of_if h).1
    replace h := (of_if h).2
    first | (exfalso; cases hok; done) | skip
  case move x => exact valRO (s := Pure.pure _) (.pure _) h
  case assign x => exact valRO (s := Pure.pure _) (.pure _) h
  case pick c x y =>
    have hr := okRun_some h
    simp only [execOp, Sem.run_bind] at hr
    cases hs : (Go.asBool (a.eval c)).run P H with
    | halt e w1 => rw [hs] at hr; cases hr
    | ok b w1 =>
      rw [hs] at hr
      simp only [Result.andThen_ok, Sem.run_pure, Result.ok.injEq] at hr
      exact ⟨hr.2.symm.trans (RO.asBool _ _ _ _ hs), _, hr.1.symm⟩
  case build t ps => exact valRO (RO.build _ _) h
  case load t x => exact valRO (RO.loadAt _ _) h
  case unOp op t x => exact valRO (RO.unary _ _) h
  case field t x f => exact valRO (RO.field _ _ _) h
  case fieldAddr t x f => exact valRO (RO.fieldAt hok _) h
  case indexAddr t x y => exact valRO (RO.indexAt _ _ _) h
  case index t x y => exact valRO (RO.index _ _ _) h
  case extract x n => exact valRO (RO.extract _ _) h
  case makeFunc f fs cs =>
    cases f with
    | func f => exact valRO (s := Instr.makeFunc _ _ _) (.pure _) h
    | _ => cases hok
end Go.Proofs.Ytmmmdmandocbhaa.Den
end

section
/- Regions that draw their order: what is looked at beforehand, and what is looked at on the way. -/
set_option linter.unusedVariables false
set_option linter.unusedSimpArgs false
namespace Go.Proofs.Ytmmmdmandocbhaa.Den
variable {P : Program}

theorem pureD_congr {op : Op} {a b : Act} (h : ∀ x ∈ op.operands, a.eval x = b.eval x) : pureD P op a.eval = pureD P op b.eval := by
  have hm : ∀ xs : Array Operand, (∀ x ∈ xs, a.eval x = b.eval x) → xs.map a.eval = xs.map b.eval := fun xs hx => Array.map_congr_left hx
  have ho : ∀ x : Option Operand, (∀ y ∈ x, a.eval y = b.eval y) → x.map a.eval = x.map b.eval := fun x hx => by
    cases x with
    | none => rfl
    | some y => simp only [Option.map_some]; rw [hx y rfl]
  cases op
  all_goals simp only [Op.operands] at h
  all_goals simp only [pureD]
  case indexAddr t x y => rw [h x (by simp), h y (by simp)]
  case fieldAddr t x f => rw [h x (by simp)]
  case load t x => rw [h x (by simp)]
  case slice t x lo hi mx =>
    rw [h x (by simp), ho lo fun y hy => h y (by cases hy; simp), ho hi fun y hy => h y (by cases hy; simp), ho mx fun y hy => h y (by cases hy; simp)]
  case convert src dst x => rw [h x (by simp)]
  case nilCheck x => rw [h x (by simp)]
  case binOp op t x y yt =>
    cases op <;> first | rfl | skip
    · simp only; rw [h x (by simp), h y (by simp)]
    · simp only; rw [h x (by simp), h y (by simp)]
  case call c =>
    simp only [Call.operands] at h
    rw [hm c.args fun x hx => h x (by simp [hx])]
theorem semD_congr {o : Oper} {a b : Act} (h : ∀ x ∈ o.op.operands, a.eval x = b.eval x) (H : World) : semD P o a H = semD P o b H := by
  have hex : (∀ cs bl, o.op ≠ .select cs bl) → execOp a.eval o = execOp b.eval o := fun hs => execOp_congr o hs h
  unfold semD
  split
  · rfl
  rename_i hops
  clear hops
  obtain ⟨dst, op, ty, pos, guard, after⟩ := o
  simp only at h hex ⊢
  rw [← pureD_congr h]
  cases pureD P op a.eval with
  | some v => rfl
  | none =>
  simp only
  have hm : ∀ xs : Array Operand, (∀ x ∈ xs, a.eval x = b.eval x) → xs.map a.eval = xs.map b.eval := fun xs hx => Array.map_congr_left hx
  have ho : ∀ x : Option Operand, (∀ y ∈ x, a.eval y = b.eval y) → x.map a.eval = x.map b.eval := fun x hx => by
    cases x with
    | none => rfl
    | some y => simp only [Option.map_some]; rw [hx y rfl]
  cases op
  case slice t x lo hi mx =>
    simp only [Op.operands] at h
    simp only
    rw [h x (by simp), ho lo fun y hy => h y (by cases hy; simp), ho hi fun y hy => h y (by cases hy; simp), ho mx fun y hy => h y (by cases hy; simp)]
  case binOp op t x y yt =>
    simp only [Op.operands] at h
    simp only [binD]
    rw [h x (by simp), h y (by simp)]
  case convert src dst x =>
    simp only [Op.operands] at h
    simp only
    rw [h x (by simp)]
  case lookup t m k ok =>
    simp only [Op.operands] at h
    simp only
    rw [h m (by simp), h k (by simp)]
  case mapUpdate t m k v =>
    simp only [Op.operands] at h
    simp only
    rw [h m (by simp), h k (by simp), h v (by simp)]
  case insert t m k v =>
    simp only [Op.operands] at h
    simp only
    rw [h m (by simp), h k (by simp), h v (by simp)]
  case nilCheck x =>
    simp only [Op.operands] at h
    simp only
    rw [h x (by simp)]
  case call c =>
    simp only [Op.operands, Call.operands] at h
    simp only [callOpD]
    rw [hm c.args fun x hx => h x (by simp [hx])]
    split
    · rfl
    · rename_i g hg
      rw [h g (by simp [hg])]
    · rfl
  case select cs bl => rfl
  all_goals
    simp only
    rw [hex (fun _ _ e => by cases e)]

/-- One operation of a region. -/
def stepD (P : Program) (E : Evs) (ops : Array Oper) (i : Nat) (a : Act) (H : World) : Option (Act × World) :=
  match ops[i]? with
  | none => none
  | some o => if Region.wanted o (yielded ops a.tmps) then opD P E o a H else some (a.put o.dst undef, H)

def veq1 : Value → Value → Bool
  | .bool a, .bool b => a == b
  | .int k a, .int l b => k == l && a == b
  | .string a, .string b => a == b
  | .pointer a, .pointer b => a == b
  | .slice a n c, .slice b m d => a == b && n == m && c == d
  | .map a, .map b => a == b
  | .nilFunc, .nilFunc => true
  | .nilIface, .nilIface => true
  | _, _ => false
def veqA : List Value → List Value → Bool
  | [], [] => true
  | a :: as, b :: bs => veq1 a b && veqA as bs
  | _, _ => false
def veq2 : Value → Value → Bool
  | .agg as, .agg bs => veqA as.toList bs.toList
  | .func (.func f) as cs, .func (.func g) bs ds => f == g && veqA as.toList bs.toList && veqA cs.toList ds.toList
  | a, b => veq1 a b
def veqB : List Value → List Value → Bool
  | [], [] => true
  | a :: as, b :: bs => veq2 a b && veqB as bs
  | _, _ => false
def veq : Value → Value → Bool
  | .tuple as, .tuple bs => veqB as.toList bs.toList
  | a, b => veq2 a b
theorem veq1_eq {a b : Value} (h : veq1 a b = true) : a = b := by
  unfold veq1 at h
  split at h <;> simp_all
  · exact bytes_beq h
theorem veqA_eq : ∀ {as bs : List Value}, veqA as bs = true → as = bs
  | [], [], _ => rfl
  | a :: as, b :: bs, h => by
    simp only [veqA, Bool.and_eq_true] at h
    rw [veq1_eq h.1, veqA_eq h.2]
  | [], _ :: _, h => by cases h
  | _ :: _, [], h => by cases h
theorem veq2_eq {a b : Value} (h : veq2 a b = true) : a = b := by
  unfold veq2 at h
  split at h
  · rw [Array.toList_inj.1 (veqA_eq h)]
  · simp only [Bool.and_eq_true, beq_iff_eq] at h
    rw [h.1.1, Array.toList_inj.1 (veqA_eq h.1.2), Array.toList_inj.1 (veqA_eq h.2)]
  · exact veq1_eq h
theorem veqB_eq : ∀ {as bs : List Value}, veqB as bs = true → as = bs
  | [], [], _ => rfl
  | a :: as, b :: bs, h => by
    simp only [veqB, Bool.and_eq_true] at h
    rw [veq2_eq h.1, veqB_eq h.2]
  | [], _ :: _, h => by cases h
  | _ :: _, [], h => by cases h
theorem veq_eq {a b : Value} (h : veq a b = true) : a = b := by
  unfold veq at h
  split at h
  · rw [Array.toList_inj.1 (veqB_eq h)]
  · exact veq2_eq h

/-! ### beforehand -/
def dstOf (ops : Array Oper) (i : Nat) : Option Tmp := (ops[i]?).bind (·.dst)
def mover (P : Program) (ops : Array Oper) (i : Nat) : Bool :=
  match ops[i]? with
  | some o => !(quietOp P o.op)
  | none => false
def ahead (ops : Array Oper) (i j : Nat) : Bool := ((Region.before ops).getD j 0).testBit i
def looks (ops : Array Oper) (i : Nat) : List Tmp :=
  match ops[i]? with
  | some o => o.looksAt ops
  | none => []
def isAlloc (ops : Array Oper) (f : Nat) : Bool :=
  match ops[f]? with
  | some o => o.dst.isSome && o.guard.isNone && (match o.op with | .alloc _ => true | _ => false)
  | none => false
/-- The one operation that makes a cell and may run ahead of its place in the text: where it stands, or behind all. -/
def lateOf (P : Program) (ops : Array Oper) : Nat :=
  ((List.range ops.size).find? fun f => isAlloc ops f && (List.range f).any fun m => mover P ops m && !(ahead ops m f)).getD ops.size
def drawStatic (P : Program) (ops : Array Oper) : Bool :=
  (List.range ops.size).all fun j =>
    (match ops[j]? with
      | some o => o.after.all fun e => !(Region.binds .any e) || (decide (e.on < j) && (!(e.on == lateOf P ops) || (List.range (lateOf P ops)).all fun m => !(mover P ops m) || ahead ops m j))
      | none => true) &&
    ((List.range ops.size).all fun i =>
      (i == j || (match dstOf ops i with
        | some t => (dstOf ops j != some t) && (!(looks ops j).contains t || ahead ops i j || ahead ops j i)
        | none => true)) &&
      (!(mover P ops i && mover P ops j && decide (i < j)) || ahead ops i j || j == lateOf P ops))
def movers (P : Program) (ops : Array Oper) (i : Nat) : Nat := (List.range i).countP (mover P ops)
def rePairs (P : Program) (ops : Array Oper) : List (Nat × Nat) :=
  (List.range ops.size).flatMap fun i =>
    if mover P ops i then [] else
      ((List.range (ops.size + 1)).filter fun j =>
        (j == 0 || mover P ops (j - 1)) && movers P ops j != movers P ops i &&
          decide ((List.range ops.size).countP (fun m => mover P ops m && ahead ops m i) ≤ movers P ops j) &&
          decide (movers P ops j ≤ (List.range ops.size).countP (fun m => mover P ops m && !(ahead ops i m)))).map fun j => (i, j)

/-! ### on the way -/
def traceD (P : Program) (E : Evs) (ops : Array Oper) : List Nat → Act → World → Option (List (Act × World))
  | [], a, H => some [(a, H)]
  | i :: rest, a, H =>
    match stepD P E ops i a H with
    | some (a1, H1) => (traceD P E ops rest a1 H1).map ((a, H) :: ·)
    | none => none
def reOne (P : Program) (ops : Array Oper) (i : Nat) (a : Act) (H H' : World) : Bool :=
  match ops[i]? with
  | some o => if Region.wanted o (yielded ops a.tmps) then if (pureD P o.op a.eval).isSome then true else
      match semD P o a H, semD P o a H' with
      | some (.value v, _), some (.value v', _) => veq v v'
      | _, _ => false
    else true
  | none => true
def drawD : DrawD := fun P E ops a H =>
  match traceD P E ops (List.range ops.size) a H with
  | some tr =>
    if drawStatic P ops && (rePairs P ops).all (fun p => match tr[p.1]?, tr[p.2]? with | some x, some y => reOne P ops p.1 x.1 x.2 y.2 | _, _ => false) then tr[ops.size]? else none
  | none => none
end Go.Proofs.Ytmmmdmandocbhaa.Den
end

section
/- Regions that draw their order come to what the order of the text comes to. -/
set_option linter.unusedVariables false
set_option linter.unusedSimpArgs false
namespace Go.Proofs.Ytmmmdmandocbhaa.Den
variable {P : Program}

/-! ### counting -/
theorem countP_congr' {p q : Nat → Bool} : ∀ {l : List Nat}, (∀ i ∈ l, p i = q i) → l.countP p = l.countP q
  | [], h => rfl
  | a :: l, h => by
    rw [List.countP_cons, List.countP_cons, countP_congr' fun i hi => h i (List.mem_cons_of_mem _ hi), h a List.mem_cons_self]
theorem countP_le {p q : Nat → Bool} : ∀ {l : List Nat}, (∀ i ∈ l, p i = true → q i = true) → l.countP p ≤ l.countP q
  | [], h => Nat.le_refl _
  | a :: l, h => by
    rw [List.countP_cons, List.countP_cons]
    have := countP_le (l := l) fun i hi => h i (List.mem_cons_of_mem _ hi)
    have h2 := h a List.mem_cons_self
    split <;> split <;> simp_all <;> omega
theorem countP_upd {p q : Nat → Bool} {i : Nat} : ∀ n, i < n → p i = false → q i = true → (∀ j, j ≠ i → q j = p j) → (List.range n).countP q = (List.range n).countP p + 1
  | 0, h, _, _, _ => by omega
  | n + 1, h, hp, hq, hj => by
    rw [List.range_succ, List.countP_append, List.countP_append]
    by_cases hin : i = n
    · subst hin
      rw [countP_congr' (p := q) (q := p) fun j hj' => hj j (by have := List.mem_range.1 hj'; omega)]
      simp [hp, hq]
    · rw [countP_upd n (by omega) hp hq hj]
      have : q n = p n := hj n fun e => hin e.symm
      simp [this]
      omega

/-! ### what runs ahead of what -/
inductive Reach (ops : Array Oper) : Nat → Nat → Prop
  | one (i j : Nat) (o : Oper) (e : Edge) (ho : ops[j]? = some o) (he : e ∈ o.after) (hb : Region.binds .any e = true) (hi : e.on = i) : Reach ops i j
  | more (i j : Nat) (o : Oper) (e : Edge) (ho : ops[j]? = some o) (he : e ∈ o.after) (hb : Region.binds .any e = true) (h : Reach ops i e.on) : Reach ops i j

theorem getD_push (acc : Array Nat) (x j : Nat) : (acc.push x).getD j 0 = if j < acc.size then acc.getD j 0 else if j = acc.size then x else 0 := by
  rw [Array.getD_eq_getD_getElem?, Array.getD_eq_getD_getElem?, Array.getElem?_push]
  by_cases h : j = acc.size
  · subst h; simp
  · rw [if_neg h]
    by_cases hj : j < acc.size
    · rw [if_pos hj]
    · rw [if_neg hj, if_neg h, Array.getElem?_eq_none (by omega)]; rfl
theorem before_list (ops : Array Oper) : ∀ (l pre : List Oper) (acc : Array Nat), pre ++ l = ops.toList → acc.size = pre.length → (∀ i j, (acc.getD j 0).testBit i = true → Reach ops i j) →
    ∀ i j, ((l.foldl (fun acc o => acc.push (o.after.foldl (fun s e => if Region.binds .any e then s ||| 2 ^ e.on ||| acc.getD e.on 0 else s) 0)) acc).getD j 0).testBit i = true → Reach ops i j
  | [], pre, acc, hp, hs, h, i, j => h i j
  | o :: l, pre, acc, hp, hs, h, i, j => by
    refine before_list ops l (pre ++ [o]) _ (by simpa using hp) (by simp [hs]) (fun i j hij => ?_) i j
    have ho : ops[acc.size]? = some o := by
      rw [← Array.getElem?_toList, ← hp, hs]; simp
    by_cases hj : j < acc.size
    · refine h i j ?_
      rw [getD_push, if_pos hj] at hij
      exact hij
    · by_cases hje : j = acc.size
      · subst hje
        rw [getD_push, if_neg (Nat.lt_irrefl _), if_pos rfl, ← Array.foldl_toList] at hij
        have key : ∀ (es : List Edge) (s : Nat), (∀ e ∈ es, e ∈ o.after) → (s.testBit i = true → Reach ops i acc.size) →
            (es.foldl (fun s e => if Region.binds .any e then s ||| 2 ^ e.on ||| acc.getD e.on 0 else s) s).testBit i = true → Reach ops i acc.size := by
          intro es
          induction es with
          | nil => intro s _ hs hb; exact hs hb
          | cons e es ih =>
            intro s hm hs hb
            refine ih _ (fun e he => hm e (List.mem_cons_of_mem _ he)) (fun hb => ?_) hb
            simp only at hb
            split at hb
            · rename_i hbind
              simp only [Nat.testBit_or, Bool.or_eq_true] at hb
              rcases hb with (hb | hb) | hb
              · exact hs hb
              · rw [Nat.testBit_two_pow] at hb
                exact .one i _ o e ho (hm e List.mem_cons_self) hbind (by simpa using hb)
              · exact .more i _ o e ho (hm e List.mem_cons_self) hbind (h _ _ hb)
            · exact hs hb
        exact key o.after.toList 0 (fun e he => Array.mem_toList_iff.1 he) (fun hb => by simp at hb) hij
      · exfalso
        rw [getD_push, if_neg hj, if_neg hje] at hij
        simp at hij
theorem ahead_reach {ops : Array Oper} {i j : Nat} (h : ahead ops i j = true) : Reach ops i j := by
  unfold ahead Region.before at h
  rw [← Array.foldl_toList] at h
  exact before_list ops ops.toList [] #[] (by simp) rfl (fun i j h => by simp [Array.getD] at h) i j h

/-- Whatever is listed, what it waits for is listed. -/
def Down (ops : Array Oper) (L : Array Bool) : Prop := ∀ (j : Nat) (o : Oper) (e : Edge), ops[j]? = some o → L.getD j false = true → e ∈ o.after → Region.binds .any e = true → L.getD e.on false = true
theorem Down.reach {ops : Array Oper} {L : Array Bool} (hd : Down ops L) {i j : Nat} (h : Reach ops i j) (hj : L.getD j false = true) : L.getD i false = true := by
  induction h with
  | one j o e ho he hb hi => subst hi; exact hd j o e ho hj he hb
  | more j o e ho he hb h ih => exact ih (hd j o e ho hj he hb)
theorem ready_iff {ops : Array Oper} {L : Array Bool} {i : Nat} : i ∈ Region.ready .any ops L ↔ i < ops.size ∧ L.getD i true = false ∧ ∃ o, ops[i]? = some o ∧ ∀ e ∈ o.after, Region.binds .any e = true → L.getD e.on false = true := by
  unfold Region.ready
  simp only [List.mem_filter, List.mem_range, Bool.and_eq_true, Bool.not_eq_true']
  constructor
  · rintro ⟨h1, h2, h3⟩
    refine ⟨h1, h2, _, Array.getElem?_eq_getElem h1, ?_⟩
    rw [Array.getElem?_eq_getElem h1] at h3
    simp only [Option.map_some, Option.getD_some, Array.all_eq_true_iff_forall_mem] at h3
    intro e he hb
    have := h3 e he
    rw [hb] at this
    simpa using this
  · rintro ⟨h1, h2, o, ho, h3⟩
    refine ⟨h1, h2, ?_⟩
    rw [ho]
    simp only [Option.map_some, Option.getD_some, Array.all_eq_true_iff_forall_mem]
    intro e he
    cases hb : Region.binds .any e with
    | false => rfl
    | true => rw [h3 e he hb]; rfl
theorem reach_ready {ops : Array Oper} {L : Array Bool} (hd : Down ops L) {i j : Nat} (hr : j ∈ Region.ready .any ops L) (h : Reach ops i j) : L.getD i false = true := by
  obtain ⟨_, _, o, ho, hall⟩ := ready_iff.1 hr
  cases h with
  | one _ o' e ho' he hb hi =>
    rw [ho] at ho'; injection ho' with ho'; subst ho' hi
    exact hall e he hb
  | more _ o' e ho' he hb h =>
    rw [ho] at ho'; injection ho' with ho'; subst ho'
    exact hd.reach h (hall e he hb)
end Go.Proofs.Ytmmmdmandocbhaa.Den
end

section
/- Regions that draw their order: the proof. -/
set_option linter.unusedVariables false
set_option linter.unusedSimpArgs false
namespace Go.Proofs.Ytmmmdmandocbhaa.Den
variable {P : Program} {E : Evs} {ops : Array Oper}

def opV (P : Program) (E : Evs) (o : Oper) (a : Act) (H : World) : Option (Value × World) :=
  match semD P o a H with
  | some (.value v, H1) => some (v, H1)
  | some (.skip, H1) => some (undef, H1)
  | some (.enter f args, H1) => E.fn f args H1
  | some (.round l _ tmps assign body, H1) => E.round l tmps assign body H1
  | _ => none
theorem opD_eq (o : Oper) (a : Act) (H : World) : opD P E o a H = (opV P E o a H).map fun r => (a.put o.dst r.1, r.2) := by
  unfold opD opV
  cases semD P o a H with
  | none => rfl
  | some p =>
    obtain ⟨nx, H1⟩ := p
    cases nx <;> rfl
def stepV (P : Program) (E : Evs) (ops : Array Oper) (i : Nat) (a : Act) (H : World) : Option (Value × World) :=
  match ops[i]? with
  | none => none
  | some o => if Region.wanted o (yielded ops a.tmps) then opV P E o a H else some (undef, H)
theorem stepD_eq (i : Nat) (a : Act) (H : World) : stepD P E ops i a H = (stepV P E ops i a H).map fun r => (a.put (dstOf ops i) r.1, r.2) := by
  unfold stepD stepV dstOf
  cases ops[i]? with
  | none => rfl
  | some o =>
    simp only [Option.bind_some]
    split
    · exact opD_eq o a H
    · rfl
theorem looks_eval {i : Nat} {o : Oper} (ho : ops[i]? = some o) {a b : Act} (h : ∀ t ∈ looks ops i, a.tmps.getD t undef = b.tmps.getD t undef) : ∀ x ∈ o.op.operands, a.eval x = b.eval x := by
  intro x hx
  cases x with
  | tmp t =>
    refine h t ?_
    simp only [looks, ho, Oper.looksAt, List.mem_append, List.mem_filterMap]
    exact .inl ⟨.tmp t, by simpa using hx, rfl⟩
  | _ => rfl
theorem looks_wanted {i : Nat} {o : Oper} (ho : ops[i]? = some o) {a b : Act} (hs : a.tmps.size = b.tmps.size) (h : ∀ t ∈ looks ops i, a.tmps.getD t undef = b.tmps.getD t undef) :
    Region.wanted o (yielded ops a.tmps) = Region.wanted o (yielded ops b.tmps) := by
  unfold Region.wanted
  cases hg : o.guard with
  | none => rfl
  | some p =>
    obtain ⟨j, want⟩ := p
    simp only
    congr 1
    unfold yielded
    cases hd : (ops[j]?).bind (·.dst) with
    | none => rfl
    | some d =>
      simp only [Option.bind_some]
      have hm : d ∈ looks ops i := by
        simp only [looks, ho, Oper.looksAt, List.mem_append, hg, hd]
        exact .inr (by simp)
      have he := h d hm
      by_cases hlt : d < a.tmps.size
      · have hlt' : d < b.tmps.size := hs ▸ hlt
        simp only [Array.getD, hlt, hlt', dite_true] at he
        rw [Array.getElem?_eq_getElem hlt, Array.getElem?_eq_getElem hlt']
        have he : a.tmps[d] = b.tmps[d] := he
        rw [he]
      · have hlt' : ¬ d < b.tmps.size := hs ▸ hlt
        rw [Array.getElem?_eq_none (Nat.not_lt.1 hlt), Array.getElem?_eq_none (Nat.not_lt.1 hlt')]
theorem stepV_congr {i : Nat} {a b : Act} (hs : a.tmps.size = b.tmps.size) (h : ∀ t ∈ looks ops i, a.tmps.getD t undef = b.tmps.getD t undef) (H : World) : stepV P E ops i a H = stepV P E ops i b H := by
  unfold stepV
  cases ho : ops[i]? with
  | none => rfl
  | some o =>
    simp only
    rw [looks_wanted ho hs h]
    unfold opV
    rw [semD_congr (looks_eval ho h)]
theorem stepV_quiet {i : Nat} {a : Act} {H H1 : World} {v : Value} (hq : mover P ops i = false) (h : stepV P E ops i a H = some (v, H1)) : H1 = H := by
  unfold stepV at h
  unfold mover at hq
  cases ho : ops[i]? with
  | none => rw [ho] at h; cases h
  | some o =>
    rw [ho] at h hq
    simp only [Bool.not_eq_false'] at h hq
    split at h
    · unfold opV at h
      cases hs : semD P o a H with
      | none => rw [hs] at h; cases h
      | some p =>
        obtain ⟨nx, H2⟩ := p
        obtain ⟨rfl, u, rfl⟩ := quiet_sem hq hs
        rw [hs] at h
        cases h; rfl
    · cases h; rfl
theorem stepV_re {i : Nat} {a : Act} {H H' : World} {v : Value} (hq : mover P ops i = false) (h : stepV P E ops i a H = some (v, H)) (hr : reOne P ops i a H H' = true) : stepV P E ops i a H' = some (v, H') := by
  unfold stepV at h ⊢
  unfold mover at hq
  unfold reOne at hr
  cases ho : ops[i]? with
  | none => rw [ho] at h; cases h
  | some o =>
    rw [ho] at h hq hr
    simp only [Bool.not_eq_false'] at h hq hr ⊢
    split at h
    · rename_i hw
      rw [if_pos hw] at hr ⊢
      unfold opV at h ⊢
      cases hs : semD P o a H with
      | none => rw [hs] at h; cases h
      | some p =>
        obtain ⟨nx, H2⟩ := p
        obtain ⟨rfl, u, rfl⟩ := quiet_sem hq hs
        cases hpd : pureD P o.op a.eval with
        | some u2 =>
          have key : ∀ H0 H2 nx, semD P o a H0 = some (nx, H2) → semD P o a H' = some (.value u2, H') ∧ nx = .value u2 := by
            intro H0 H2 nx h0
            unfold semD at h0 ⊢
            split at h0
            · cases h0
            rename_i hops
            rw [if_neg hops, hpd]
            rw [hpd] at h0
            injection h0 with h0; injection h0 with h1 h2
            exact ⟨rfl, h1.symm⟩
          obtain ⟨k1, k2⟩ := key _ _ _ hs
          rw [hs] at h
          simp only at h
          cases h
          rw [k1]
          injection k2 with k2; rw [k2]
        | none =>
        rw [hpd] at hr
        simp only [Option.isSome_none, Bool.false_eq_true, if_false] at hr
        rw [hs] at h hr
        simp only at h
        cases h
        cases hs' : semD P o a H' with
        | none => rw [hs'] at hr; cases hr
        | some p' =>
          obtain ⟨nx', H3⟩ := p'
          obtain ⟨rfl, u', rfl⟩ := quiet_sem hq hs'
          rw [hs'] at hr
          simp only at hr ⊢
          rw [veq_eq hr]
    · rename_i hw
      rw [if_neg hw]
      cases h; rfl

/-! ### what was looked at beforehand -/
structure Stat (P : Program) (ops : Array Oper) : Prop where
  edge : ∀ (j : Nat) (o : Oper) (e : Edge), ops[j]? = some o → e ∈ o.after → Region.binds .any e = true → e.on < j
  dsts : ∀ i j t, i < ops.size → j < ops.size → i ≠ j → dstOf ops i = some t → dstOf ops j ≠ some t
  reads : ∀ i j t, i < ops.size → j < ops.size → i ≠ j → dstOf ops i = some t → t ∈ looks ops j → ahead ops i j = true ∨ ahead ops j i = true
  moves : ∀ i j, i < ops.size → j < ops.size → mover P ops i = true → mover P ops j = true → i < j → ahead ops i j = true ∨ j = lateOf P ops
  late : lateOf P ops < ops.size → isAlloc ops (lateOf P ops) = true
  wait : ∀ (j : Nat) (o : Oper) (e : Edge), ops[j]? = some o → e ∈ o.after → Region.binds .any e = true → e.on = lateOf P ops → ∀ m, m < lateOf P ops → mover P ops m = true → ahead ops m j = true
theorem late_isAlloc (h : lateOf P ops < ops.size) : isAlloc ops (lateOf P ops) = true := by
  unfold lateOf at h ⊢
  cases hf : (List.range ops.size).find? fun f => isAlloc ops f && (List.range f).any fun m => mover P ops m && !(ahead ops m f) with
  | none => rw [hf] at h; simp at h
  | some f =>
    have := List.find?_some hf
    simp only [Bool.and_eq_true] at this
    simpa using this.1
theorem stat_of (h : drawStatic P ops = true) : Stat P ops := by
  unfold drawStatic at h
  simp only [List.all_eq_true, List.mem_range, Bool.and_eq_true] at h
  have hE : ∀ (j : Nat) (o : Oper) (e : Edge), ops[j]? = some o → e ∈ o.after → Region.binds .any e = true → e.on < j ∧ (e.on = lateOf P ops → ∀ m, m < lateOf P ops → mover P ops m = true → ahead ops m j = true) := by
    intro j o e ho he hb
    have hj := (Array.getElem?_eq_some_iff.1 ho).1
    have := (h j hj).1
    rw [ho] at this
    simp only [Array.all_eq_true_iff_forall_mem] at this
    have := this e he
    rw [hb] at this
    simp only [Bool.not_true, Bool.false_or, Bool.and_eq_true, decide_eq_true_eq, Bool.or_eq_true, Bool.not_eq_true', beq_eq_false_iff_ne, List.all_eq_true, List.mem_range] at this
    refine ⟨this.1, fun heq m hm hmv => ?_⟩
    rcases this.2 with h2 | h2
    · exact absurd heq h2
    · rcases h2 m hm with h3 | h3
      · rw [hmv] at h3; cases h3
      · exact h3
  refine ⟨fun j o e ho he hb => (hE j o e ho he hb).1, fun i j t hi hj hij hd => ?_, fun i j t hi hj hij hd ht => ?_, fun i j hi hj h1 h2 hij => ?_, late_isAlloc, fun j o e ho he hb => (hE j o e ho he hb).2⟩
  · have := ((h j hj).2 i hi).1
    rw [hd] at this
    simp only [Bool.or_eq_true, beq_iff_eq, Bool.and_eq_true, bne_iff_ne] at this
    rcases this with e | ⟨e, _⟩
    · exact absurd e hij
    · exact e
  · have := ((h j hj).2 i hi).1
    rw [hd] at this
    simp only [Bool.or_eq_true, beq_iff_eq, Bool.and_eq_true, Bool.not_eq_true', List.contains_eq_mem] at this
    rcases this with e | ⟨_, (e | e) | e⟩
    · exact absurd e hij
    · simp [ht] at e
    · exact .inl e
    · exact .inr e
  · have := ((h j hj).2 i hi).2
    rw [h1, h2] at this
    simpa [hij] using this
theorem Stat.lt (hs : Stat P ops) {i j : Nat} (h : Reach ops i j) : i < j := by
  induction h with
  | one j o e ho he hb hi => subst hi; exact hs.edge j o e ho he hb
  | more j o e ho he hb h ih => exact Nat.lt_trans ih (hs.edge j o e ho he hb)

/-! ### the temporaries -/
structure TmOk (ops : Array Oper) (a0 : Act) (val : Nat → Value) (L : Nat → Bool) (a : Act) : Prop where
  defers : a.defers = a0.defers
  size : a.tmps.size = a0.tmps.size
  set : ∀ t j, t < a0.tmps.size → j < ops.size → L j = true → dstOf ops j = some t → a.tmps[t]? = some (val j)
  old : ∀ t, t < a0.tmps.size → (∀ j, j < ops.size → L j = true → dstOf ops j ≠ some t) → a.tmps[t]? = a0.tmps[t]?
theorem TmOk.put (hs : Stat P ops) {a0 a : Act} {val : Nat → Value} {L L' : Nat → Bool} (h : TmOk ops a0 val L a) {i : Nat} (hi : i < ops.size) (hL : L' i = true) (hL' : ∀ j, j ≠ i → L' j = L j) :
    TmOk ops a0 val L' (a.put (dstOf ops i) (val i)) := by
  cases hd : dstOf ops i with
  | none =>
    refine ⟨h.defers, h.size, fun t j ht hj hl hdj => ?_, fun t ht hn => ?_⟩
    · by_cases hji : j = i
      · subst hji; rw [hd] at hdj; cases hdj
      · exact h.set t j ht hj (by rw [← hL' j hji]; exact hl) hdj
    · refine h.old t ht fun j hj hl => ?_
      by_cases hji : j = i
      · subst hji; rw [hd]; simp
      · exact hn j hj (by rw [hL' j hji]; exact hl)
  | some d =>
    refine ⟨h.defers, by simp [Act.put, h.size], fun t j ht hj hl hdj => ?_, fun t ht hn => ?_⟩
    · simp only [Act.put, Array.getElem?_setIfInBounds]
      by_cases hji : j = i
      · subst hji
        rw [hd] at hdj; injection hdj with hdj; subst hdj
        rw [if_pos rfl, if_pos (by rw [h.size]; exact ht)]
      · have hdt : d ≠ t := fun e => by subst e; exact hs.dsts i j d hi hj (fun e => hji e.symm) hd hdj
        rw [if_neg hdt]
        exact h.set t j ht hj (by rw [← hL' j hji]; exact hl) hdj
    · simp only [Act.put, Array.getElem?_setIfInBounds]
      have hdt : d ≠ t := fun e => by subst e; exact hn i hi hL hd
      rw [if_neg hdt]
      refine h.old t ht fun j hj hl => ?_
      by_cases hji : j = i
      · subst hji; rw [hd]; intro e; injection e with e; exact hdt e
      · exact hn j hj (by rw [hL' j hji]; exact hl)
theorem TmOk.agree (hs : Stat P ops) {a0 a b : Act} {val : Nat → Value} {L M : Nat → Bool} (ha : TmOk ops a0 val L a) (hb : TmOk ops a0 val M b) {t : Nat} (h : ∀ j, j < ops.size → dstOf ops j = some t → L j = M j) : a.tmps[t]? = b.tmps[t]? := by
  by_cases ht : t < a0.tmps.size
  · by_cases hex : ∃ j, j < ops.size ∧ L j = true ∧ dstOf ops j = some t
    · obtain ⟨j, hj, hl, hd⟩ := hex
      rw [ha.set t j ht hj hl hd, hb.set t j ht hj (by rw [← h j hj hd]; exact hl) hd]
    · have hno : ∀ j, j < ops.size → L j = true → dstOf ops j ≠ some t := fun j hj hl hd => hex ⟨j, hj, hl, hd⟩
      rw [ha.old t ht hno, hb.old t ht fun j hj hl hd => hno j hj (by rw [h j hj hd]; exact hl) hd]
  · rw [Array.getElem?_eq_none (by rw [ha.size]; omega), Array.getElem?_eq_none (by rw [hb.size]; omega)]
theorem getD_of {a b : Array Value} {t : Nat} (h : a[t]? = b[t]?) : a.getD t undef = b.getD t undef := by
  rw [Array.getD_eq_getD_getElem?, Array.getD_eq_getD_getElem?, h]
end Go.Proofs.Ytmmmdmandocbhaa.Den
end

section
/- Regions that draw their order: the walk over every order. -/
set_option linter.unusedVariables false
set_option linter.unusedSimpArgs false
namespace Go.Proofs.Ytmmmdmandocbhaa.Den
variable {P : Program} {E : Evs} {ops : Array Oper}

theorem traceD_spec : ∀ (l : List Nat) (a : Act) (H : World) (tr : List (Act × World)), traceD P E ops l a H = some tr →
    tr[0]? = some (a, H) ∧ ∀ k i, l[k]? = some i → ∃ x y, tr[k]? = some x ∧ tr[k + 1]? = some y ∧ stepD P E ops i x.1 x.2 = some y
  | [], a, H, tr, h => by
    cases h
    exact ⟨rfl, fun k i hk => by simp at hk⟩
  | i :: rest, a, H, tr, h => by
    unfold traceD at h
    cases hs : stepD P E ops i a H with
    | none => rw [hs] at h; cases h
    | some p =>
      obtain ⟨a1, H1⟩ := p
      rw [hs] at h
      simp only [Option.map_eq_some_iff] at h
      obtain ⟨tr1, h, rfl⟩ := h
      obtain ⟨h0, hk⟩ := traceD_spec rest a1 H1 tr1 h
      refine ⟨rfl, fun k j hj => ?_⟩
      cases k with
      | zero =>
        simp only [List.getElem?_cons_zero, Option.some.injEq] at hj
        subst hj
        exact ⟨(a, H), (a1, H1), rfl, by simpa using h0, hs⟩
      | succ k =>
        obtain ⟨x, y, hx, hy, hst⟩ := hk k j (by simpa using hj)
        exact ⟨x, y, by simpa using hx, by simpa using hy, hst⟩

theorem movers_succ (i : Nat) : movers P ops (i + 1) = movers P ops i + (if mover P ops i then 1 else 0) := by
  unfold movers
  rw [List.range_succ, List.countP_append]
  simp [List.countP_cons]
theorem movers_mono {i j : Nat} (h : i ≤ j) : movers P ops i ≤ movers P ops j := by
  induction h with
  | refl => exact Nat.le_refl _
  | step _ ih => rw [movers_succ]; omega

/-- The walk that was made, in the order of the text. -/
structure Walk (P : Program) (E : Evs) (ops : Array Oper) (A : Nat → Act) (W : Nat → World) (val : Nat → Value) : Prop where
  step : ∀ i, i < ops.size → stepV P E ops i (A i) (W i) = some (val i, W (i + 1))
  put : ∀ i, i < ops.size → A (i + 1) = (A i).put (dstOf ops i) (val i)
  re : ∀ i j, (i, j) ∈ rePairs P ops → reOne P ops i (A i) (W i) (W j) = true

section
variable {A : Nat → Act} {W : Nat → World} {val : Nat → Value}
theorem Walk.same (hw : Walk P E ops A W val) : ∀ {i j : Nat}, i ≤ j → j ≤ ops.size → movers P ops i = movers P ops j → W j = W i := by
  intro i j hij
  induction hij with
  | refl => intros; rfl
  | @step j hij ih =>
    intro hj hm
    have h1 := movers_mono (P := P) (ops := ops) hij
    rw [movers_succ] at hm
    have hq : mover P ops j = false := by
      cases hq : mover P ops j with
      | false => rfl
      | true => rw [hq] at hm; simp at hm; omega
    rw [hq] at hm
    simp only [Bool.false_eq_true, if_false, Nat.add_zero] at hm
    rw [stepV_quiet hq (hw.step j (by omega)), ih (by omega) hm]
theorem Walk.same' (hw : Walk P E ops A W val) {i j : Nat} (hi : i ≤ ops.size) (hj : j ≤ ops.size) (hm : movers P ops i = movers P ops j) : W j = W i := by
  rcases Nat.le_total i j with h | h
  · exact hw.same h hj hm
  · exact (hw.same h hi hm.symm).symm
theorem Walk.tm (hs : Stat P ops) (hw : Walk P E ops A W val) : ∀ i, i ≤ ops.size → TmOk ops (A 0) val (fun j => decide (j < i)) (A i)
  | 0, _ => ⟨rfl, rfl, fun t j _ _ h => by simp at h, fun t _ _ => rfl⟩
  | i + 1, h => by
    rw [hw.put i (by omega)]
    exact (hw.tm hs i (by omega)).put hs (by omega) (by simp) fun j hj => by
      simp only [decide_eq_decide]; omega

/-- One ready operation, wherever the walk stands. -/
theorem Walk.ready (hs : Stat P ops) (hw : Walk P E ops A W val) {L : Array Bool} (hsz : L.size = ops.size) (hd : Down ops L) {a : Act} (ha : TmOk ops (A 0) val (fun j => L.getD j false) a) {j : Nat} (hj : j ≤ ops.size)
    (hrep : j = 0 ∨ mover P ops (j - 1) = true) (hm : movers P ops j = (List.range ops.size).countP fun m => mover P ops m && L.getD m false) {i : Nat} (hi : i ∈ Region.ready .any ops L)
    (hlate : L.getD (lateOf P ops) false = true → ∀ m, m < lateOf P ops → mover P ops m = true → L.getD m false = true) (hnow : i = lateOf P ops → ∀ m, m < lateOf P ops → mover P ops m = true → L.getD m false = true) :
    ∃ j2, stepV P E ops i a (W j) = some (val i, W j2) ∧ j2 ≤ ops.size ∧ (j2 = 0 ∨ mover P ops (j2 - 1) = true) ∧
      movers P ops j2 = (List.range ops.size).countP fun m => mover P ops m && (L.setIfInBounds i true).getD m false := by
  obtain ⟨hin, hLi, _⟩ := ready_iff.1 hi
  have hLi' : L.getD i false = false := by
    simp only [Array.getD, hsz, hin, dite_true] at hLi ⊢; exact hLi
  have hset : ∀ m, m ≠ i → (L.setIfInBounds i true).getD m false = L.getD m false := fun m hmi => by
    rw [Array.getD_eq_getD_getElem?, Array.getD_eq_getD_getElem?, Array.getElem?_setIfInBounds, if_neg (fun e => hmi e.symm)]
  have hseti : (L.setIfInBounds i true).getD i false = true := by
    rw [Array.getD_eq_getD_getElem?, Array.getElem?_setIfInBounds, if_pos rfl, if_pos (by omega)]; rfl
  have hah : ∀ m, ahead ops m i = true → L.getD m false = true := fun m h => reach_ready hd hi (ahead_reach h)
  have hbe : ∀ m, ahead ops i m = true → L.getD m false = false := fun m h => by
    cases hl : L.getD m false with
    | false => rfl
    | true => rw [hd.reach (ahead_reach h) hl] at hLi'; cases hLi'
  have hcong : ∀ H, stepV P E ops i a H = stepV P E ops i (A i) H := fun H => by
    have hA := hw.tm hs i (Nat.le_of_lt hin)
    refine stepV_congr (by rw [ha.size, hA.size]) (fun t ht => getD_of (ha.agree hs hA fun m hmn hmd => ?_)) H
    by_cases hmi : m = i
    · subst hmi; simp [hLi']
    · rcases hs.reads m i t hmn hin hmi hmd ht with h | h
      · rw [hah m h]
        simp [hs.lt (ahead_reach h)]
      · rw [hbe m h]
        have := hs.lt (ahead_reach h)
        simp; omega
  rw [hcong]
  cases hq : mover P ops i with
  | true =>
    have hmi : movers P ops j = movers P ops i := by
      rw [hm]
      unfold movers
      have : (List.range ops.size).countP (fun m => mover P ops m && L.getD m false) = (List.range ops.size).countP (fun m => mover P ops m && decide (m < i)) := by
        refine countP_congr' fun m hm' => ?_
        have hmn := List.mem_range.1 hm'
        cases hqm : mover P ops m with
        | false => rfl
        | true =>
          simp only [Bool.true_and]
          rcases Nat.lt_trichotomy m i with h | h | h
          · have : L.getD m false = true := by
              rcases hs.moves m i hmn hin hqm hq h with h2 | h2
              · exact hah m h2
              · exact hnow h2 m (by omega) hqm
            rw [this]; simp [h]
          · subst h; simp [hLi']
          · have : L.getD m false = false := by
              rcases hs.moves i m hin hmn hq hqm h with h2 | h2
              · exact hbe m h2
              · cases hl : L.getD m false with
                | false => rfl
                | true =>
                  rw [h2] at hl h
                  have := hlate hl i h hq
                  rw [this] at hLi'; cases hLi'
            rw [this]; simp; omega
      rw [this]
      have hsplit : List.range ops.size = List.range i ++ (List.range (ops.size - i)).map (i + ·) := by
        rw [← List.range_add]; congr 1; omega
      rw [hsplit, List.countP_append]
      rw [countP_congr' (l := List.range i) (p := fun m => mover P ops m && decide (m < i)) (q := mover P ops) fun m hm' => by simp [List.mem_range.1 hm']]
      have : List.countP (fun m => mover P ops m && decide (m < i)) ((List.range (ops.size - i)).map (i + ·)) = 0 := by
        rw [List.countP_eq_zero]
        intro x hx
        obtain ⟨y, _, rfl⟩ := List.mem_map.1 hx
        simp
      omega
    have hW : W j = W i := hw.same' (Nat.le_of_lt hin) hj hmi.symm
    refine ⟨i + 1, by rw [hW]; exact hw.step i hin, by omega, .inr (by simpa using hq), ?_⟩
    rw [movers_succ, hq, if_pos rfl, ← hmi, hm]
    exact (countP_upd ops.size hin (by simp [hLi']) (by simp [hq, hseti]) fun m hmi => by rw [hset m hmi]).symm
  | false =>
    have hcount : (List.range ops.size).countP (fun m => mover P ops m && (L.setIfInBounds i true).getD m false) = (List.range ops.size).countP fun m => mover P ops m && L.getD m false := by
      refine countP_congr' fun m _ => ?_
      by_cases hmi : m = i
      · subst hmi; simp [hq]
      · rw [hset m hmi]
    refine ⟨j, ?_, hj, hrep, by rw [hcount]; exact hm⟩
    have hv := hw.step i hin
    have hWi := stepV_quiet hq hv
    rw [hWi] at hv
    by_cases hmi : movers P ops j = movers P ops i
    · rw [hw.same' (Nat.le_of_lt hin) hj hmi.symm]; exact hv
    · refine stepV_re hq hv (hw.re i j ?_)
      unfold rePairs
      simp only [List.mem_flatMap, List.mem_range]
      refine ⟨i, hin, ?_⟩
      rw [hq]
      simp only [Bool.false_eq_true, if_false, List.mem_map, List.mem_filter, List.mem_range, Bool.and_eq_true, Bool.or_eq_true, beq_iff_eq, bne_iff_ne, decide_eq_true_eq]
      refine ⟨j, ⟨by omega, ⟨⟨hrep, hmi⟩, ?_⟩, ?_⟩, rfl⟩
      · rw [hm]
        exact countP_le fun m _ h => by
          simp only [Bool.and_eq_true] at h ⊢
          exact ⟨h.1, hah m h.2⟩
      · rw [hm]
        exact countP_le fun m _ h => by
          simp only [Bool.and_eq_true, Bool.not_eq_true'] at h ⊢
          refine ⟨h.1, ?_⟩
          cases ha : ahead ops i m with
          | false => rfl
          | true => rw [hbe m ha] at h; exact absurd h.2 (by simp)
end
end Go.Proofs.Ytmmmdmandocbhaa.Den
end

section
/- The evaluator, whole: regions that draw their order taken in. -/
set_option linter.unusedVariables false
set_option linter.unusedSimpArgs false
namespace Go.Proofs.Ytmmmdmandocbhaa.Den
variable {P : Program} {E : Evs} {ops : Array Oper}

theorem all_listed (hs : Stat P ops) {L : Array Bool} (hsz : L.size = ops.size) (h : Region.ready .any ops L = []) : ∀ i, i < ops.size → L.getD i false = true := by
  intro i
  induction i using Nat.strongRecOn with
  | _ i ih =>
    intro hi
    cases hl : L.getD i false with
    | true => rfl
    | false =>
      exfalso
      have : i ∈ Region.ready .any ops L := by
        refine ready_iff.2 ⟨hi, ?_, ops[i], Array.getElem?_eq_getElem hi, fun e he hb => ?_⟩
        · simp only [Array.getD, hsz, hi, dite_true] at hl ⊢; exact hl
        · have hlt := hs.edge i _ e (Array.getElem?_eq_getElem hi) he hb
          exact ih e.on hlt (by omega)
      rw [h] at this
      cases this

theorem TmOk.eq {a0 a b : Act} {val : Nat → Value} {L M : Nat → Bool} (hs : Stat P ops) (ha : TmOk ops a0 val L a) (hb : TmOk ops a0 val M b) (h : ∀ j, j < ops.size → L j = M j) : a = b := by
  have ht : a.tmps = b.tmps := Array.ext_getElem? fun t => ha.agree hs hb fun j hj _ => h j hj
  have hd : a.defers = b.defers := ha.defers.trans hb.defers.symm
  cases a; cases b
  simp only at ht hd
  rw [ht, hd]

/-! ### a cell that is made ahead of its place in the text -/
theorem Rel.adopt {ι : Emb} {H w : World} (h : Rel P ι H w) {o o' : Obj} {r : Loc} (hl : live o = true) (hb : w.heap[r.b]? = some o') (hno : ∀ (i : Nat) (x : Obj) (s : Loc), H.heap[i]? = some x → live x = true → ι i = some s → s.b ≠ r.b) (hp : ι.fz r.b = none)
    (ho : ORel P (ι.put H.heap.size r) r o o') : Rel P (ι.put H.heap.size r) { H with heap := H.heap.push o } w := by
  have hf := h.fresh
  have hle := Emb.le_put (r := r) hf
  refine ⟨fun b zs hz => ?_, fun j x hx hlx => ?_, fun j k o1 o2 r1 r2 h1 l1 h2 l2 e1 e2 hbb hg1 => ?_, fun j rj hj => ?_, fun j x hx => ?_⟩
  · obtain ⟨⟨e1, f1, h1⟩, h2⟩ := h.fz b zs hz
    refine ⟨⟨e1, f1, h1⟩, fun j x rj hx hl hg hrj => ?_⟩
    simp only [Array.getElem?_push] at hx
    simp only [Emb.put] at hrj
    by_cases hj : j = H.heap.size
    · rw [if_pos hj] at hrj
      injection hrj with hrj; subst hrj
      intro e
      have hz' : ι.fz b = some zs := hz
      rw [← e, hp] at hz'; cases hz'
    · rw [if_neg hj] at hx hrj
      exact h2 j x rj hx hl hg hrj
  · simp only [Array.getElem?_push] at hx
    by_cases hj : j = H.heap.size
    · subst hj
      rw [if_pos rfl] at hx
      injection hx with hx; subst hx
      exact ⟨r, o', Emb.put_same _ _ _, hb, ho⟩
    · rw [if_neg hj] at hx
      obtain ⟨rj, oj, hrj, hwj, hoj⟩ := h.obj j x hx hlx
      exact ⟨rj, oj, hle _ _ hrj, hwj, hoj.mono hle⟩
  · simp only [Array.getElem?_push] at h1 h2
    simp only [Emb.put] at e1 e2
    by_cases hj : j = H.heap.size <;> by_cases hk : k = H.heap.size
    · exact hj.trans hk.symm
    · rw [if_pos hj] at e1; rw [if_neg hk] at e2 h2
      injection e1 with e1; subst e1
      exact absurd hbb.symm (hno k _ _ h2 l2 e2)
    · rw [if_neg hj] at e1 h1; rw [if_pos hk] at e2
      injection e2 with e2; subst e2
      exact absurd hbb (hno j _ _ h1 l1 e1)
    · rw [if_neg hj] at e1 h1; rw [if_neg hk] at e2 h2
      exact h.inj j k _ _ _ _ h1 l1 h2 l2 e1 e2 hbb hg1
  · simp only [Emb.put] at hj
    split at hj
    · rename_i e; subst e
      injection hj with hj; subst hj
      exact ⟨by simp, (Array.getElem?_eq_some_iff.1 hb).1⟩
    · have := h.dom j rj hj
      simp only [Array.size_push]; omega
  · simp only [Array.getElem?_push] at hx
    by_cases hj : j = H.heap.size
    · rw [if_pos hj] at hx
      injection hx with hx; subst hx; exact .inl hl
    · rw [if_neg hj] at hx; exact h.only j x hx
theorem Step.adopt {ι ι1 : Emb} {H w H1 w1 : World} (h : Step P ι H w ι1 H1 w1) {o o' : Obj} {r : Loc} (hl : live o = true) (hb : w1.heap[r.b]? = some o') (hnew : w.heap.size ≤ r.b) (hno : ∀ (i : Nat) (x : Obj) (s : Loc), H1.heap[i]? = some x → live x = true → ι1 i = some s → s.b ≠ r.b) (hp : ι1.fz r.b = none)
    (ho : ORel P (ι1.put H1.heap.size r) r o o') : Step P ι H w (ι1.put H1.heap.size r) { H1 with heap := H1.heap.push o } w1 := by
  have hle := Emb.le_put (r := r) h.rel.fresh
  refine ⟨Emb.le_trans h.le hle, h.rel.adopt hl hb hno hp ho, h.size, h.os, h.tape, h.output, h.keep, fun i x s hi hg hs => ?_, h.pins, fun i x s hi hlx hs => ?_⟩
  · obtain ⟨h1, h2⟩ := h.pin i x s hi hg hs
    have := (Array.getElem?_eq_some_iff.1 h1).1
    exact ⟨by rw [Array.getElem?_push, if_neg (by omega)]; exact h1, h2⟩
  · simp only [Array.getElem?_push] at hi
    simp only [Emb.put] at hs
    by_cases hj : i = H1.heap.size
    · rw [if_pos hj] at hs
      injection hs with hs; subst hs
      exact .inl hnew
    · rw [if_neg hj] at hi hs
      exact h.own i x s hi hlx hs
/-- A block of the machine that no logical object knows. -/
structure Spare (ι : Emb) (H w : World) (B : Nat) (cs : Array Value) (e : TypeId) : Prop where
  row : w.heap[B]? = some (.cells cs e (0, 0))
  free : ∀ (i : Nat) (x : Obj) (s : Loc), H.heap[i]? = some x → live x = true → ι i = some s → s.b ≠ B
  pin : ι.fz B = none
theorem Spare.step {ι ι1 : Emb} {H w H1 w1 : World} {B : Nat} {cs : Array Value} {e : TypeId} (h : Spare ι H w B cs e) (hs : Step P ι H w ι1 H1 w1) : Spare ι1 H1 w1 B cs e := by
  have hlt := (Array.getElem?_eq_some_iff.1 h.row).1
  refine ⟨?_, fun i x s hi hl hi2 e2 => ?_, ?_⟩
  · rw [hs.keep B hlt fun i x s hi hl h2 => h.free i x s hi hl h2]; exact h.row
  · rcases hs.own i x s hi hl hi2 with h3 | ⟨j, oj, rj, hj, hlj, hrj, hbj⟩
    · omega
    · exact h.free j oj rj hj hlj hrj (hbj.trans e2)
  · cases hp : ι1.fz B with
    | none => rfl
    | some zs =>
      rcases hs.pins B zs hp with h3 | h3
      · rw [h.pin] at h3; cases h3
      · omega
/-- One more block of the machine, of which no logical object knows. -/
theorem Rel.spare {ι : Emb} {H w : World} (h : Rel P ι H w) (cs : Array Value) (e : TypeId) : Step P ι H w ι H { w with heap := w.heap.push (.cells cs e (0, 0)) } ∧ Spare ι H { w with heap := w.heap.push (.cells cs e (0, 0)) } w.heap.size cs e := by
  have hold : ∀ (b : Nat) (x : Obj), w.heap[b]? = some x → (w.heap.push (.cells cs e (0, 0)))[b]? = some x := fun b x hb => by
    have := (Array.getElem?_eq_some_iff.1 hb).1
    rw [Array.getElem?_push, if_neg (by omega)]; exact hb
  refine ⟨⟨Emb.le_refl _, ⟨fun b zs hz => ?_, fun j x hx hlx => ?_, h.inj, fun i r hi => ?_, h.only⟩, by simp, rfl, rfl, rfl, fun b hb _ => ?_, fun i x r hi hg hr => ⟨hi, ?_⟩, fun _ _ h => .inl h, fun i x r hi hl hr => .inr ⟨i, x, r, hi, hl, hr, rfl⟩⟩, ⟨by simp, fun i x s hi hl hs e => ?_, ?_⟩⟩
  · obtain ⟨⟨e1, f1, h1⟩, h2⟩ := h.fz b zs hz
    exact ⟨⟨e1, f1, hold _ _ h1⟩, h2⟩
  · obtain ⟨r, o', h1, h2, h3⟩ := h.obj j x hx hlx
    exact ⟨r, o', h1, hold _ _ h2, h3⟩
  · have := h.dom i r hi
    simp only [Array.size_push]; omega
  · simp only [Array.getElem?_push]; rw [if_neg (by omega)]
  · have := (h.dom i r hr).2
    simp only [Array.getElem?_push]; rw [if_neg (by omega)]
  · have := (h.dom i s hs).2
    omega
  · cases hp : ι.fz w.heap.size with
    | none => rfl
    | some zs =>
      obtain ⟨⟨e1, f1, h1⟩, _⟩ := h.fz _ _ hp
      have := (Array.getElem?_eq_some_iff.1 h1).1
      omega

theorem put_comm {a : Act} {i j : Option Tmp} {u v : Value} (h : ∀ t, i = some t → j ≠ some t) : (a.put i u).put j v = (a.put j v).put i u := by
  cases i with
  | none => rfl
  | some t => cases j with
    | none => rfl
    | some s =>
      have : t ≠ s := fun e => h t rfl (by rw [e])
      simp only [Act.put]
      rw [Array.setIfInBounds_comm _ _ this]
/-- As opD_sound, where one temporary that is not looked at holds what it may. -/
theorem opD_soundX (hP : Good P) {E : Evs} (hE : Snd P E) {o : Oper} {a a1 : Act} {H H1 : World} (h : opD P E o a H = some (a1, H1)) {ι : Emb} {w : World} {b' : Act} {ro' : Option Nat} {n : Nat} {next : Act → World → Prop} {Q : Exit → Act → World → Prop} {df : Option Tmp} {u : Value}
    (hrel : Rel P ι H w) (ha : ActRel ι a b') (hlook : ∀ x ∈ o.op.operands, (b'.put df u).eval x = b'.eval x) (hdst : ∀ t, df = some t → o.dst ≠ some t) (hn : ∀ ι1 b1' w1, Step P ι H w ι1 H1 w1 → ActRel ι1 a1 b1' → next (b1'.put df u) w1) : o.wpIn (Fen ro') n P (b'.put df u) w next Q := by
  refine ⟨fun f _ => Fen_fn _ f, ?_⟩
  unfold opD at h
  cases hs : semD P o a H with
  | none => rw [hs] at h; cases h
  | some p =>
    obtain ⟨nx, H2⟩ := p
    rw [hs] at h
    have hsel : ∀ cs b, o.op ≠ .select cs b := by
      intro cs b e
      unfold semD at hs
      split at hs
      · cases hs
      rw [e] at hs
      simp [pureD, okOp] at hs
    obtain ⟨⟨ι1, x', w1, hrun, hst, hnx⟩, hd⟩ := semD_sound hP hrel ha hs
    rw [Oper.semAt_eq _ _ _ hd, execOp_congr o hsel hlook, hrun]
    cases hnx with
    | value v v' hv =>
      cases h
      show next ((b'.put df u).put o.dst v') w1
      rw [put_comm hdst]
      exact hn ι1 _ _ hst ((ha.mono hst.le).put _ hv)
    | skip =>
      cases h
      show next ((b'.put df u).put o.dst undef) w1
      rw [put_comm hdst]
      exact hn ι1 _ _ hst ((ha.mono hst.le).put _ .undef)
    | enter f args args' hargs =>
      simp only [Option.map_eq_some_iff] at h
      obtain ⟨⟨v, H3⟩, h, e⟩ := h
      cases e
      rw [Oper.uponIn_enter]
      refine ⟨Fen_depth _ _, hE.fn _ _ _ _ _ h ι1 w1 args' ro' _ _ hst.rel hargs fun ι2 v' w2 hs2 hv => ?_⟩
      show next ((b'.put df u).put o.dst v') w2
      rw [put_comm hdst]
      exact hn ι2 _ _ (hst.trans hs2) ((ha.mono (Emb.le_trans hst.le hs2.le)).put _ hv)
    | round l r f f' tmps tmps' as b hl ht =>
      simp only [Option.map_eq_some_iff] at h
      obtain ⟨⟨v, H3⟩, h, e⟩ := h
      cases e
      rw [Oper.uponIn_round]
      refine ⟨Fen_depth _ _, hE.round _ _ _ _ _ _ _ h ι1 w1 r f' tmps' ro' _ _ hst.rel hl ht fun ι2 v' w2 hs2 hv => ?_⟩
      show next ((b'.put df u).put o.dst v') w2
      rw [put_comm hdst]
      exact hn ι2 _ _ (hst.trans hs2) ((ha.mono (Emb.le_trans hst.le hs2.le)).put _ hv)
/-- What waits for the late one waits for all that stand ahead of it. -/
theorem Stat.waits (hs : Stat P ops) {L : Array Bool} (hd : Down ops L) {i j : Nat} (h : Reach ops i j) (hi : i = lateOf P ops) (hj : L.getD j false = true) : ∀ m, m < lateOf P ops → mover P ops m = true → L.getD m false = true := by
  induction h with
  | one j o e ho he hb hie =>
    intro m hm hmv
    exact hd.reach (ahead_reach (hs.wait j o e ho he hb (hie.trans hi) m hm hmv)) hj
  | more j o e ho he hb h ih => exact ih (hd j o e ho hj he hb)
theorem Stat.waits_ready (hs : Stat P ops) {L : Array Bool} (hd : Down ops L) {i j : Nat} (h : Reach ops i j) (hi : i = lateOf P ops) (hj : j ∈ Region.ready .any ops L) : ∀ m, m < lateOf P ops → mover P ops m = true → L.getD m false = true := by
  obtain ⟨_, _, o, ho, hall⟩ := ready_iff.1 hj
  cases h with
  | one _ o' e ho' he hb hie =>
    rw [ho] at ho'; injection ho' with ho'; subst ho'
    intro m hm hmv
    have := ahead_reach (hs.wait j o e ho he hb (hie.trans hi) m hm hmv)
    exact reach_ready hd hj this
  | more _ o' e ho' he hb h =>
    rw [ho] at ho'; injection ho' with ho'; subst ho'
    exact hs.waits hd h hi (hall e he hb)
theorem run_alloc {o : Oper} {e : TypeId} {inf : TypeInfo} {z : Value} (ho : o.op = .alloc e) (hi : P.info? e = some inf) (hz : inf.zero = some z) (ρ : Operand → Value) (w : World) :
    (execOp ρ o).run P w = .ok (.value (.pointer (some ⟨w.heap.size, 0, none⟩))) { w with heap := w.heap.push (.cells z.cells e (0, 0)) } := by
  have h : (Instr.alloc e true (.tuple #[])).run P w = .ok (.pointer (some ⟨w.heap.size, 0, none⟩)) { w with heap := w.heap.push (.cells z.cells e (0, 0)) } := by
    simp only [Instr.alloc, Sem.run_bind, run_zeroValue' hi hz, Result.andThen_ok, Go.newVar, Go.newRow, run_newObj, Sem.run_pure]
  simp only [execOp, ho, Sem.run_bind, h, Result.andThen_ok, Sem.run_pure]
theorem late_facts (hs : Stat P ops) {A : Nat → Act} {W : Nat → World} {val : Nat → Value} (hw : Walk P E ops A W val) (hF : lateOf P ops < ops.size) : ∃ o df e inf z, ops[lateOf P ops]? = some o ∧ o.op = .alloc e ∧ o.dst = some df ∧ o.guard = none ∧ P.info? e = some inf ∧ inf.zero = some z ∧
    val (lateOf P ops) = .pointer (some ⟨(W (lateOf P ops)).heap.size, 0, none⟩) ∧ W (lateOf P ops + 1) = { W (lateOf P ops) with heap := (W (lateOf P ops)).heap.push (.cells z.cells e (0, 0)) } := by
  have hl := hs.late hF
  have hst := hw.step _ hF
  generalize lateOf P ops = F at *
  unfold isAlloc at hl
  unfold stepV at hst
  cases ho : ops[F]? with
  | none => rw [ho] at hl; cases hl
  | some o =>
    rw [ho] at hl hst
    simp only [Bool.and_eq_true, Option.isNone_iff_eq_none, Option.isSome_iff_exists] at hl hst
    obtain ⟨⟨⟨df, hdf⟩, hg⟩, hop⟩ := hl
    cases hopc : o.op with
    | alloc e =>
      have hwt : Region.wanted o (yielded ops (A F).tmps) = true := by unfold Region.wanted; rw [hg]
      rw [if_pos hwt] at hst
      unfold opV semD at hst
      rw [hopc] at hst
      simp only [Op.operands, pureD, okOp, if_true] at hst
      have hrun : okRun ((execOp (A F).eval o).run P (W F)) = some (.value (val F), W (F + 1)) := by
        cases hr : okRun ((execOp (A F).eval o).run P (W F)) with
        | none => rw [hr] at hst; simp at hst
        | some p =>
          obtain ⟨nx, H1⟩ := p
          have he : (execOp (A F).eval o).run P (W F) = .ok nx H1 := okRun_some hr
          simp only [execOp, hopc, Sem.run_bind] at he
          cases hal : (Instr.alloc e true (.tuple #[])).run P (W F) with
          | halt x y => rw [hal] at he; cases he
          | ok x y =>
            rw [hal] at he
            simp only [Result.andThen_ok, Sem.run_pure, Result.ok.injEq] at he
            obtain ⟨rfl, rfl⟩ := he
            rw [hr] at hst
            simp at hst
            rw [hst.1, hst.2]
      cases hi : P.info? e with
      | none =>
        have he := okRun_some hrun
        simp only [execOp, hopc, Sem.run_bind, Instr.alloc, Go.zeroValue, Go.typeInfo, run_program, Result.andThen_ok, hi] at he
        cases he
      | some inf =>
        cases hz : inf.zero with
        | none =>
          have he := okRun_some hrun
          simp only [execOp, hopc, Sem.run_bind, Instr.alloc, Go.zeroValue, Go.typeInfo, run_program, Result.andThen_ok, hi, Sem.run_pure, hz] at he
          cases he
        | some z =>
          have he := okRun_some hrun
          rw [run_alloc hopc hi hz] at he
          simp only [Result.ok.injEq, Next.value.injEq] at he
          exact ⟨o, df, e, inf, z, rfl, hopc, hdf, hg, hi, hz, he.1.symm, he.2.symm⟩
    | _ => rw [hopc] at hop; cases hop

theorem hat_getD {L : Array Bool} {F : Nat} (hF : F < L.size) (m : Nat) : (L.setIfInBounds F false).getD m false = if m = F then false else L.getD m false := by
  rw [Array.getD_eq_getD_getElem?, Array.getElem?_setIfInBounds]
  by_cases h : F = m
  · subst h; rw [if_pos rfl, if_pos hF, if_pos rfl]; rfl
  · rw [if_neg h, if_neg (fun e => h e.symm), Array.getD_eq_getD_getElem?]
theorem set_getD {L : Array Bool} {i : Nat} (hi : i < L.size) (m : Nat) : (L.setIfInBounds i true).getD m false = if m = i then true else L.getD m false := by
  rw [Array.getD_eq_getD_getElem?, Array.getElem?_setIfInBounds]
  by_cases h : i = m
  · subst h; rw [if_pos rfl, if_pos hi, if_pos rfl]; rfl
  · rw [if_neg h, if_neg (fun e => h e.symm), Array.getD_eq_getD_getElem?]
theorem TmOk.congr {a0 a : Act} {val : Nat → Value} {L M : Nat → Bool} (h : TmOk ops a0 val L a) (hm : ∀ j, M j = L j) : TmOk ops a0 val M a := by
  have : M = L := funext hm
  rw [this]; exact h
theorem mover_alloc {F : Nat} {o : Oper} {e : TypeId} (ho : ops[F]? = some o) (hop : o.op = .alloc e) : mover P ops F = true := by
  unfold mover
  rw [ho]
  simp [quietOp, hop]

theorem draw_any (hP : Good P) (hE : Snd P E) (hs : Stat P ops) {A : Nat → Act} {W : Nat → World} {val : Nat → Value} (hw : Walk P E ops A W val) {ro' : Option Nat} {n : Nat} {Q : Exit → Act → World → Prop} :
    ∀ (fuel : Nat),
     (∀ (L : Array Bool) (ι : Emb) (w : World) (a' a : Act) (j : Nat), L.size = ops.size → Down ops L → (List.range ops.size).countP (fun m => !L.getD m false) ≤ fuel → TmOk ops (A 0) val (fun j => L.getD j false) a → j ≤ ops.size →
      (j = 0 ∨ mover P ops (j - 1) = true) → movers P ops j = (List.range ops.size).countP (fun m => mover P ops m && L.getD m false) →
      (L.getD (lateOf P ops) false = true → ∀ m, m < lateOf P ops → mover P ops m = true → L.getD m false = true) → Rel P ι (W j) w → ActRel ι a a' → Then P ι (W j) w (A ops.size) (W ops.size) (Q .normal) →
      wpAnyIn (Fen ro') n P .any ops Q fuel L a' w) ∧
     (∀ (L : Array Bool) (ι : Emb) (w : World) (b' a : Act) (j : Nat) (ι0 : Emb) (H0 w0 : World) (B : Nat) (cs : Array Value) (e : TypeId) (df : Tmp), L.size = ops.size → Down ops L → (List.range ops.size).countP (fun m => !L.getD m false) ≤ fuel →
      lateOf P ops < ops.size → L.getD (lateOf P ops) false = true → (∃ m, m < lateOf P ops ∧ mover P ops m = true ∧ L.getD m false = false) →
      TmOk ops (A 0) val (fun j => (L.setIfInBounds (lateOf P ops) false).getD j false) a → j ≤ ops.size →
      (j = 0 ∨ mover P ops (j - 1) = true) → movers P ops j = (List.range ops.size).countP (fun m => mover P ops m && (L.setIfInBounds (lateOf P ops) false).getD m false) →
      ActRel ι a b' → dstOf ops (lateOf P ops) = some df → (∀ ι : Emb, ARel ι cs cs) → val (lateOf P ops) = .pointer (some ⟨(W (lateOf P ops)).heap.size, 0, none⟩) →
      W (lateOf P ops + 1) = { W (lateOf P ops) with heap := (W (lateOf P ops)).heap.push (.cells cs e (0, 0)) } → mover P ops (lateOf P ops) = true →
      Spare ι (W j) w B cs e → Step P ι0 H0 w0 ι (W j) w → w0.heap.size ≤ B → Then P ι0 H0 w0 (A ops.size) (W ops.size) (Q .normal) →
      wpAnyIn (Fen ro') n P .any ops Q fuel L (b'.put (some df) (.pointer (some ⟨B, 0, none⟩))) w) := by
  have fin : ∀ (L : Array Bool) (ι : Emb) (w : World) (a' a : Act) (j : Nat), (∀ i, i < ops.size → L.getD i false = true) → TmOk ops (A 0) val (fun j => L.getD j false) a → j ≤ ops.size →
      movers P ops j = (List.range ops.size).countP (fun m => mover P ops m && L.getD m false) → Rel P ι (W j) w → ActRel ι a a' → Then P ι (W j) w (A ops.size) (W ops.size) (Q .normal) → Q .normal a' w := by
    intro L ι w a' a j hall ha hj hm hrel har hQ
    have hae : a = A ops.size := ha.eq hs (hw.tm hs ops.size (Nat.le_refl _)) fun i hi => by rw [hall i hi]; simp [hi]
    have hW : W ops.size = W j := by
      refine hw.same' hj (Nat.le_refl _) ?_
      rw [hm]
      exact countP_congr' fun m hm' => by rw [hall m (List.mem_range.1 hm'), Bool.and_true]
    subst hae
    refine hQ ι a' w ?_ har
    rw [hW]; exact .refl hrel
  -- what is common to one more operation
  have down : ∀ {L : Array Bool}, L.size = ops.size → Down ops L → ∀ {i : Nat}, i ∈ Region.ready .any ops L → Down ops (L.setIfInBounds i true) := by
    intro L hsz hd i hi p o' e ho' hp he hb
    obtain ⟨hin, _, o, ho, hedge⟩ := ready_iff.1 hi
    rw [set_getD (by omega)] at hp ⊢
    by_cases hei : e.on = i
    · rw [if_pos hei]
    · rw [if_neg hei]
      by_cases hpi : p = i
      · subst hpi
        rw [ho] at ho'; injection ho' with ho'; subst ho'
        exact hedge e he hb
      · rw [if_neg hpi] at hp
        exact hd p o' e ho' hp he hb
  have unl : ∀ {L : Array Bool}, L.size = ops.size → ∀ {i : Nat}, i ∈ Region.ready .any ops L → L.getD i false = false := by
    intro L hsz i hi
    obtain ⟨hin, hli, _⟩ := ready_iff.1 hi
    simp only [Array.getD, hsz, hin, dite_true] at hli ⊢; exact hli
  have less : ∀ {L : Array Bool} {fuel : Nat}, L.size = ops.size → (List.range ops.size).countP (fun m => !L.getD m false) ≤ fuel + 1 → ∀ {i : Nat}, i ∈ Region.ready .any ops L → (List.range ops.size).countP (fun m => !(L.setIfInBounds i true).getD m false) ≤ fuel := by
    intro L fuel hsz hc i hi
    have hin := (ready_iff.1 hi).1
    have := countP_upd (p := fun m => !(L.setIfInBounds i true).getD m false) (q := fun m => !L.getD m false) ops.size hin (by rw [set_getD (by omega), if_pos rfl]; rfl) (by rw [unl hsz hi]; rfl) (fun m hmi => by rw [set_getD (by omega), if_neg hmi])
    omega
  intro fuel
  induction fuel with
  | zero =>
    have hall : ∀ {L : Array Bool}, (List.range ops.size).countP (fun m => !L.getD m false) ≤ 0 → ∀ i, i < ops.size → L.getD i false = true := by
      intro L hc i hi
      have h0 := List.countP_eq_zero.1 (Nat.le_zero.1 hc) i (List.mem_range.2 hi)
      simpa using h0
    refine ⟨?_, ?_⟩
    · intro L ι w a' a j hsz hd hc ha hj hrep hm hlate hrel har hQ
      refine ⟨?_, fin L ι w a' a j (hall hc) ha hj hm hrel har hQ⟩
      apply List.eq_nil_iff_forall_not_mem.2
      intro i hi
      have := hall hc i (ready_iff.1 hi).1
      rw [unl hsz hi] at this; cases this
    · intro L ι w b' a j ι0 H0 w0 B cs e df hsz hd hc hF hLF hex ha hj hrep hm har hdf hcs hval hWF hmF hsp hst hB hQ
      obtain ⟨m, hmF, _, hLm⟩ := hex
      rw [hall hc m (by omega)] at hLm; cases hLm
  | succ fuel ih =>
    refine ⟨?_, ?_⟩
    · intro L ι w a' a j hsz hd hc ha hj hrep hm hlate hrel har hQ
      refine ⟨fun h => fin L ι w a' a j (all_listed hs hsz h) ha hj hm hrel har hQ, fun i hi => ?_⟩
      obtain ⟨hin, hli, o, ho, hedge⟩ := ready_iff.1 hi
      have hLi' := unl hsz hi
      have hd2 := down hsz hd hi
      have hc2 := less hsz hc hi
      have hsz2 : (L.setIfInBounds i true).size = ops.size := by simpa using hsz
      by_cases hearly : i = lateOf P ops ∧ ∃ m, m < lateOf P ops ∧ mover P ops m = true ∧ L.getD m false = false
      · -- the cell is made ahead of its place
        obtain ⟨hiF, m0, hm0, hmv0, hLm0⟩ := hearly
        have hF : lateOf P ops < ops.size := hiF ▸ hin
        obtain ⟨o', df, e, inf, z, ho', hop, hdf, hg, hinf, hz, hval, hWF⟩ := late_facts hs hw hF
        rw [← hiF, ho] at ho'
        injection ho' with ho'; subst ho'
        have hmF : mover P ops (lateOf P ops) = true := mover_alloc (by rw [← hiF]; exact ho) hop
        unfold wpOpIn
        rw [ho]
        simp only
        have hwt : Region.wanted o (yielded ops a'.tmps) = true := by unfold Region.wanted; rw [hg]
        rw [if_pos hwt]
        refine ⟨fun f _ => Fen_fn _ f, ?_⟩
        rw [Oper.semAt_eq _ _ _ (fun c hc => by rw [hop] at hc; cases hc), run_alloc hop hinf hz]
        show wpAnyIn (Fen ro') n P .any ops Q fuel (L.setIfInBounds i true) (a'.put o.dst _) _
        rw [hdf]
        obtain ⟨hsp1, hsp2⟩ := hrel.spare z.cells e
        have hhat : ∀ m, ((L.setIfInBounds i true).setIfInBounds (lateOf P ops) false).getD m false = L.getD m false := by
          intro m
          rw [hat_getD (by omega)]
          by_cases hmF' : m = lateOf P ops
          · rw [if_pos hmF', hmF', ← hiF, hLi']
          · rw [if_neg hmF', set_getD (by omega), if_neg (fun e => hmF' (e.trans hiF))]
        refine ih.2 (L.setIfInBounds i true) ι _ a' a j ι (W j) w w.heap.size z.cells e df hsz2 hd2 hc2 hF ?_ ⟨m0, hm0, hmv0, ?_⟩ (ha.congr hhat) hj hrep ?_ har ?_ ?_ hval hWF hmF hsp2 hsp1 (Nat.le_refl _) hQ
        · rw [set_getD (by omega), if_pos hiF.symm]
        · rw [set_getD (by omega), if_neg (by omega)]; exact hLm0
        · rw [hm]
          exact countP_congr' fun m _ => by rw [hhat m]
        · simp [dstOf, ← hiF, ho, hdf]
        · intro ι'
          exact (hP.zeros e inf z hinf hz ι').cells
      · have hnow : i = lateOf P ops → ∀ m, m < lateOf P ops → mover P ops m = true → L.getD m false = true := by
          intro hiF m hm1 hm2
          cases hl : L.getD m false with
          | true => rfl
          | false => exact absurd ⟨hiF, m, hm1, hm2, hl⟩ hearly
        obtain ⟨j2, hst, hj2, hrep2, hm2⟩ := hw.ready hs hsz hd ha hj hrep hm hi hlate hnow
        have ha2 : TmOk ops (A 0) val (fun j => (L.setIfInBounds i true).getD j false) (a.put (dstOf ops i) (val i)) := ha.put hs hin (by rw [set_getD (by omega), if_pos rfl]) fun m hmi => by rw [set_getD (by omega), if_neg hmi]
        have hlate2 : (L.setIfInBounds i true).getD (lateOf P ops) false = true → ∀ m, m < lateOf P ops → mover P ops m = true → (L.setIfInBounds i true).getD m false = true := by
          intro h m hm1 hm2
          rw [set_getD (by omega)] at h ⊢
          by_cases hmi : m = i
          · rw [if_pos hmi]
          · rw [if_neg hmi]
            by_cases hFi : lateOf P ops = i
            · exact hnow hFi.symm m hm1 hm2
            · rw [if_neg hFi] at h
              exact hlate h m hm1 hm2
        have hdst : dstOf ops i = o.dst := by simp [dstOf, ho]
        rw [hdst] at ha2
        unfold wpOpIn
        rw [ho]
        simp only
        unfold stepV at hst
        rw [ho] at hst
        simp only at hst
        rw [← yielded_rel har.tmps]
        by_cases hwt : Region.wanted o (yielded ops a.tmps) = true
        · rw [if_pos hwt] at hst ⊢
          have hop : opD P E o a (W j) = some (a.put o.dst (val i), W j2) := by rw [opD_eq, hst]; rfl
          refine opD_sound hP hE hop hrel har fun ι1 a1' w1 hs1 ha1 => ?_
          exact ih.1 _ ι1 w1 a1' _ j2 hsz2 hd2 hc2 ha2 hj2 hrep2 hm2 hlate2 hs1.rel ha1 (hQ.step hs1)
        · rw [if_neg hwt] at hst ⊢
          simp only [Option.some.injEq, Prod.mk.injEq] at hst
          obtain ⟨hv, hW⟩ := hst
          refine ⟨fun f _ => Fen_fn _ f, ?_⟩
          rw [← hv] at ha2
          rw [hW] at hrel hQ
          exact ih.1 _ ι w _ _ j2 hsz2 hd2 hc2 ha2 hj2 hrep2 hm2 hlate2 hrel (har.put _ .undef) hQ
    · intro L ι w b' a j ι0 H0 w0 B cs e df hsz hd hc hF hLF hex ha hj hrep hm har hdf hcs hval hWF hmF hsp hst0 hB hQ
      obtain ⟨m0, hm0, hmv0, hLm0⟩ := hex
      refine ⟨fun h => ?_, fun i hi => ?_⟩
      · rw [all_listed hs hsz h m0 (by omega)] at hLm0; cases hLm0
      obtain ⟨hin, hli, o, ho, hedge⟩ := ready_iff.1 hi
      have hLi' := unl hsz hi
      have hd2 := down hsz hd hi
      have hc2 := less hsz hc hi
      have hsz2 : (L.setIfInBounds i true).size = ops.size := by simpa using hsz
      have hiF : i ≠ lateOf P ops := fun e => by rw [e, hLF] at hLi'; cases hLi'
      have nW : ¬ Reach ops (lateOf P ops) i := fun h => by
        rw [hs.waits_ready hd h rfl hi m0 hm0 hmv0] at hLm0; cases hLm0
      have nL : ∀ {p : Nat}, L.getD p false = true → ¬ Reach ops (lateOf P ops) p := fun hp h => by
        rw [hs.waits hd h rfl hp m0 hm0 hmv0] at hLm0; cases hLm0
      have hszH : (L.setIfInBounds (lateOf P ops) false).size = ops.size := by simpa using hsz
      have hdH : Down ops (L.setIfInBounds (lateOf P ops) false) := by
        intro p o' e' ho' hp he hb
        rw [hat_getD (by omega)] at hp ⊢
        by_cases hpF : p = lateOf P ops
        · rw [if_pos hpF] at hp; cases hp
        · rw [if_neg hpF] at hp
          rw [if_neg (fun h => nL hp (.one _ p o' e' ho' he hb h))]
          exact hd p o' e' ho' hp he hb
      have hiH : i ∈ Region.ready .any ops (L.setIfInBounds (lateOf P ops) false) := by
        refine ready_iff.2 ⟨hin, ?_, o, ho, fun e' he hb => ?_⟩
        · rw [Array.getD_eq_getD_getElem?, Array.getElem?_setIfInBounds, if_neg (fun e => hiF e.symm), ← Array.getD_eq_getD_getElem?]; exact hli
        · rw [hat_getD (by omega), if_neg (fun h => nW (.one _ i o e' ho he hb h))]
          exact hedge e' he hb
      obtain ⟨j2, hst, hj2, hrep2, hm2⟩ := hw.ready hs hszH hdH ha hj hrep hm hiH (fun h => by rw [hat_getD (by omega), if_pos rfl] at h; cases h) (fun h => absurd h hiF)
      have hhat : ∀ m, ((L.setIfInBounds i true).setIfInBounds (lateOf P ops) false).getD m false = ((L.setIfInBounds (lateOf P ops) false).setIfInBounds i true).getD m false := by
        intro m
        rw [hat_getD (by omega), set_getD (by omega), set_getD (by omega), hat_getD (by omega)]
        by_cases h1 : m = lateOf P ops
        · rw [if_pos h1, if_neg (fun e => hiF (e.symm.trans h1)), if_pos h1]
        · rw [if_neg h1, if_neg h1]
      have ha2 : TmOk ops (A 0) val (fun j => ((L.setIfInBounds i true).setIfInBounds (lateOf P ops) false).getD j false) (a.put (dstOf ops i) (val i)) :=
        (ha.put (L' := fun j => ((L.setIfInBounds (lateOf P ops) false).setIfInBounds i true).getD j false) hs hin (by rw [set_getD (by omega), if_pos rfl]) fun m hmi => by rw [set_getD (by omega), if_neg hmi]).congr hhat
      have hm3 : movers P ops j2 = (List.range ops.size).countP fun m => mover P ops m && ((L.setIfInBounds i true).setIfInBounds (lateOf P ops) false).getD m false := by
        rw [hm2]
        exact countP_congr' fun m _ => by rw [hhat m]
      have hdst : dstOf ops i = o.dst := by simp [dstOf, ho]
      rw [hdst] at ha2
      have hdn : ∀ t, some df = some t → o.dst ≠ some t := by
        intro t ht h
        injection ht with ht; subst ht
        exact hs.dsts _ i df hF hin (fun e => hiF e.symm) hdf (hdst.trans h)
      have hlk : ∀ t ∈ looks ops i, t ≠ df := by
        intro t ht e; subst e
        rcases hs.reads _ i t hF hin (fun e => hiF e.symm) hdf ht with h | h
        · exact nW (ahead_reach h)
        · rw [hd.reach (ahead_reach h) hLF] at hLi'; cases hLi'
      have hsame : ∀ u : Value, ∀ t ∈ looks ops i, (b'.put (some df) u).tmps.getD t undef = b'.tmps.getD t undef := by
        intro u t ht
        refine getD_of ?_
        simp only [Act.put, Array.getElem?_setIfInBounds]
        rw [if_neg (fun e => hlk t ht e.symm)]
      have cont : ∀ ι1 b1' w1, Step P ι (W j) w ι1 (W j2) w1 → ActRel ι1 (a.put o.dst (val i)) b1' → wpAnyIn (Fen ro') n P .any ops Q fuel (L.setIfInBounds i true) (b1'.put (some df) (.pointer (some ⟨B, 0, none⟩))) w1 := by
        intro ι1 b1' w1 hs1 ha1
        have hsp1 := hsp.step hs1
        by_cases hall : ∀ m, m < lateOf P ops → mover P ops m = true → (L.setIfInBounds i true).getD m false = true
        · -- all that stand ahead are done: the logical cell is made now
          have hmj : movers P ops j2 = movers P ops (lateOf P ops) := by
            rw [hm3]
            unfold movers
            have hsplit : List.range ops.size = List.range (lateOf P ops) ++ (List.range (ops.size - lateOf P ops)).map (lateOf P ops + ·) := by
              rw [← List.range_add]; congr 1; omega
            rw [hsplit, List.countP_append]
            rw [countP_congr' (l := List.range (lateOf P ops)) (p := fun m => mover P ops m && ((L.setIfInBounds i true).setIfInBounds (lateOf P ops) false).getD m false) (q := mover P ops) fun m hm' => by
              have hmn := List.mem_range.1 hm'
              rw [hat_getD (by omega), if_neg (by omega)]
              cases hq : mover P ops m with
              | false => rfl
              | true => rw [hall m hmn hq]; rfl]
            have : List.countP (fun m => mover P ops m && ((L.setIfInBounds i true).setIfInBounds (lateOf P ops) false).getD m false) ((List.range (ops.size - lateOf P ops)).map (lateOf P ops + ·)) = 0 := by
              rw [List.countP_eq_zero]
              intro x hx
              obtain ⟨y, hy, rfl⟩ := List.mem_map.1 hx
              have hy := List.mem_range.1 hy
              rw [hat_getD (by omega)]
              by_cases hy0 : lateOf P ops + y = lateOf P ops
              · rw [if_pos hy0]; simp
              · rw [if_neg hy0]
                cases hq : mover P ops (lateOf P ops + y) with
                | false => simp
                | true =>
                  have hr : Reach ops (lateOf P ops) (lateOf P ops + y) := by
                    rcases hs.moves _ _ hF (show lateOf P ops + y < ops.size by omega) hmF hq (by omega) with h | h
                    · exact ahead_reach h
                    · omega
                  rw [set_getD (by omega)]
                  by_cases hyi : lateOf P ops + y = i
                  · rw [hyi] at hr; exact absurd hr nW
                  · rw [if_neg hyi]
                    cases hl : L.getD (lateOf P ops + y) false with
                    | false => simp
                    | true => exact absurd hr (nL hl)
            omega
          have hWj : W j2 = W (lateOf P ops) := hw.same' (Nat.le_of_lt hF) hj2 hmj.symm
          have hfr := hs1.rel.fresh
          have hrow : ORel P (ι1.put (W j2).heap.size (exactLoc B cs.size)) (exactLoc B cs.size) (.cells cs e (0, 0)) (.cells cs e (0, 0)) := by
            refine .cells cs cs e (0, 0) (0, 0) ⟨rfl, .inr (.inl ⟨rfl, rfl, rfl, rfl, rfl⟩)⟩ fun k v hk => ?_
            obtain ⟨v', hv', hr⟩ := (hcs (ι1.put (W j2).heap.size (exactLoc B cs.size))).get hk
            exact ⟨v', by simpa [exactLoc] using hv', hr⟩
          have hst1 := (hst0.trans hs1).adopt (o := .cells cs e (0, 0)) (r := exactLoc B cs.size) rfl hsp1.row hB hsp1.free hsp1.pin hrow
          have hWF2 : W (lateOf P ops + 1) = { W j2 with heap := (W j2).heap.push (.cells cs e (0, 0)) } := by rw [hWj]; exact hWF
          rw [← hWF2] at hst1
          have hle := Emb.le_put (r := exactLoc B cs.size) hfr
          have hptr : VRel (ι1.put (W j2).heap.size (exactLoc B cs.size)) (val (lateOf P ops)) (.pointer (some ⟨B, 0, none⟩)) := by
            rw [hval, ← hWj]
            have := VRel.ptr (ι := ι1.put (W j2).heap.size (exactLoc B cs.size)) (W j2).heap.size 0 (exactLoc B cs.size) (Emb.put_same _ _ _)
            simpa [exactLoc] using this
          have hLF2 : (L.setIfInBounds i true).getD (lateOf P ops) false = true := by rw [set_getD (by omega), if_neg (fun e => hiF e.symm)]; exact hLF
          have ha3 : TmOk ops (A 0) val (fun j => (L.setIfInBounds i true).getD j false) ((a.put o.dst (val i)).put (dstOf ops (lateOf P ops)) (val (lateOf P ops))) :=
            ha2.put hs hF hLF2 fun m hm' => by rw [hat_getD (by omega), if_neg hm']
          rw [hdf] at ha3
          refine ih.1 (L.setIfInBounds i true) _ w1 _ _ (lateOf P ops + 1) hsz2 hd2 hc2 ha3 (by omega) (.inr (by simpa using hmF)) ?_ (fun _ => hall) hst1.rel ((ha1.mono hle).put _ hptr) (hQ.step hst1)
          rw [movers_succ, hmF, if_pos rfl, ← hmj, hm3]
          exact (countP_upd ops.size hF (by rw [hat_getD (by omega), if_pos rfl]; simp) (by rw [hmF, hLF2]; rfl) fun m hmi => by rw [hat_getD (by omega), if_neg hmi]).symm
        · have hex2 : ∃ m, m < lateOf P ops ∧ mover P ops m = true ∧ (L.setIfInBounds i true).getD m false = false := by
            refine Classical.byContradiction fun hno => hall fun m h1 h2 => ?_
            cases hl : (L.setIfInBounds i true).getD m false with
            | true => rfl
            | false => exact absurd ⟨m, h1, h2, hl⟩ hno
          exact ih.2 (L.setIfInBounds i true) ι1 w1 b1' _ j2 ι0 H0 w0 B cs e df hsz2 hd2 hc2 hF (by rw [set_getD (by omega), if_neg (fun e => hiF e.symm)]; exact hLF) hex2 ha2 hj2 hrep2 hm3 ha1 hdf hcs hval hWF hmF hsp1 (hst0.trans hs1) hB hQ
      unfold wpOpIn
      rw [ho]
      simp only
      unfold stepV at hst
      rw [ho] at hst
      simp only at hst
      rw [looks_wanted ho (by simp [Act.put]) (hsame _), ← yielded_rel har.tmps]
      by_cases hwt : Region.wanted o (yielded ops a.tmps) = true
      · rw [if_pos hwt] at hst ⊢
        have hop : opD P E o a (W j) = some (a.put o.dst (val i), W j2) := by rw [opD_eq, hst]; rfl
        exact opD_soundX hP hE hop hst0.rel har (looks_eval ho (hsame _)) hdn cont
      · rw [if_neg hwt] at hst ⊢
        simp only [Option.some.injEq, Prod.mk.injEq] at hst
        obtain ⟨hv, hW⟩ := hst
        refine ⟨fun f _ => Fen_fn _ f, ?_⟩
        rw [put_comm hdn]
        refine cont ι _ w ?_ ?_
        · rw [← hW]; exact .refl hst0.rel
        · rw [← hv]; exact har.put _ .undef

theorem drawD_ok (hP : Good P) : DrawOk P drawD := by
  intro E hE ops a H a1 H1 h t ι w a' ro' n Q hrel har hQ
  simp only [Region.schedule, hP.mixed, Bool.true_or, if_true]
  unfold drawD at h
  split at h
  case h_2 => cases h
  rename_i tr htr
  split at h
  case isFalse => cases h
  rename_i hc
  simp only [Bool.and_eq_true] at hc
  obtain ⟨hst, hre⟩ := hc
  have hs := stat_of hst
  obtain ⟨h0, hk⟩ := traceD_spec _ _ _ _ htr
  let A : Nat → Act := fun i => (tr[i]?.getD (a, H)).1
  let W : Nat → World := fun i => (tr[i]?.getD (a, H)).2
  have hAW : ∀ i, i < ops.size → tr[i]? = some (A i, W i) ∧ tr[i + 1]? = some (A (i + 1), W (i + 1)) ∧ stepD P E ops i (A i) (W i) = some (A (i + 1), W (i + 1)) := by
    intro i hi
    obtain ⟨x, y, hx, hy, hxy⟩ := hk i i (by simp [hi])
    simp only [A, W, hx, hy, Option.getD_some]
    exact ⟨trivial, trivial, hxy⟩
  have hval : ∀ i, ∃ v, i < ops.size → stepV P E ops i (A i) (W i) = some (v, W (i + 1)) ∧ A (i + 1) = (A i).put (dstOf ops i) v := by
    intro i
    by_cases hi : i < ops.size
    · have := (hAW i hi).2.2
      rw [stepD_eq, Option.map_eq_some_iff] at this
      obtain ⟨⟨v, H2⟩, h1, h2⟩ := this
      simp only [Prod.mk.injEq] at h2
      exact ⟨v, fun _ => ⟨by rw [h1, h2.2], h2.1.symm⟩⟩
    · exact ⟨undef, fun h => absurd h hi⟩
  let val : Nat → Value := fun i => Classical.choose (hval i)
  have hv : ∀ i, i < ops.size → stepV P E ops i (A i) (W i) = some (val i, W (i + 1)) ∧ A (i + 1) = (A i).put (dstOf ops i) (val i) := fun i => Classical.choose_spec (hval i)
  have hwalk : Walk P E ops A W val := by
    refine ⟨fun i hi => (hv i hi).1, fun i hi => (hv i hi).2, fun i j hij => ?_⟩
    have := List.all_eq_true.1 hre (i, j) hij
    simp only at this
    split at this
    · rename_i x y hx hy
      simp only [A, W, hx, hy, Option.getD_some]
      exact this
    · cases this
  have hA0 : A 0 = a := by simp only [A, h0, Option.getD_some]
  have hW0 : W 0 = H := by simp only [W, h0, Option.getD_some]
  have hAn : A ops.size = a1 := by simp only [A, h, Option.getD_some]
  have hWn : W ops.size = H1 := by simp only [W, h, Option.getD_some]
  have hrep : ∀ m, (Array.replicate ops.size false).getD m false = false := fun m => by
    rw [Array.getD_eq_getD_getElem?, Array.getElem?_replicate]; split <;> rfl
  refine wpAnyIn_sound ops.size t _ _ _ ((draw_any hP hE hs hwalk ops.size).1 _ ι w a' (A 0) 0 (by simp) (fun j o e _ hj _ _ => (by rw [hrep] at hj; cases hj)) ?_ ⟨rfl, rfl, fun t j _ _ h => (by rw [hrep] at h; cases h), fun t _ _ => rfl⟩ (Nat.zero_le _) (.inl rfl) ?_ (fun h => by rw [hrep] at h; cases h) (by rw [hW0]; exact hrel) (by rw [hA0]; exact har) ?_)
  · exact Nat.le_trans (List.countP_le_length) (by simp)
  · rw [List.countP_eq_zero.2 fun m _ => by rw [hrep]; simp]; rfl
  · rw [hW0, hAn, hWn]; exact hQ

/-- What the program's function f makes of these arguments in this logical world, with this much fuel. -/
def run (P : Program) (al : FuncId → Bool) (sp : Sp) (k : Nat) (f : FuncId) (args : Array Value) (H : World) : Option (Value × World) := (evs drawD al sp P k).fn f args H
/-- **THE EVALUATOR's ANSWER IS THE MACHINE's.** -/
theorem calls_of_run (hP : Good P) {al : FuncId → Bool} {sp : Sp} (hsp : SpOk P sp) {k : Nat} {f : FuncId} {args args' : Array Value} {H w : World} {v : Value} {H1 : World} {ι : Emb} {R : Ending → World → Prop}
    (h : run P al sp k f args H = some (v, H1)) (hrel : Rel P ι H w) (hargs : ARel ι args args') (hR : ThenV P ι H w v H1 R) : Calls P f args' w R :=
  calls_of_evs hP (drawD_ok hP) hsp h hrel hargs hR

/-- Every live row at the start came in: then nothing that was there is written. -/
theorem Step.below {ι ι1 : Emb} {H H1 w w1 : World} (h : Step P ι H w ι1 H1 w1) (hg : ∀ (i : Nat) (o : Obj), H.heap[i]? = some o → live o = true → given o = true) : RowKit.Below w.heap.size w w1 := by
  refine ⟨h.os, h.tape, h.output, h.size, fun b hb => ?_⟩
  by_cases hex : ∃ i o r, H.heap[i]? = some o ∧ live o = true ∧ ι i = some r ∧ r.b = b
  · obtain ⟨i, o, r, hi, hl, hr, rfl⟩ := hex
    exact (h.pin i o r hi (hg i o hi hl) hr).2
  · exact h.keep b hb fun i o r hi hl hr hbb => hex ⟨i, o, r, hi, hl, hr, hbb⟩
/-- A law's walk: the evaluator says true, over given rows alone. -/
theorem law_of_run (hP : Good P) {al : FuncId → Bool} {sp : Sp} (hsp : SpOk P sp) {k : Nat} {f : FuncId} {args args' : Array Value} {H w H1 : World} {ι : Emb} (h : run P al sp k f args H = some (.bool true, H1)) (hrel : Rel P ι H w) (hargs : ARel ι args args')
    (hg : ∀ (i : Nat) (o : Obj), H.heap[i]? = some o → live o = true → given o = true) : Calls P f args' w fun e w' => e = .returned (.bool true) ∧ RowKit.Below w.heap.size w w' :=
  calls_of_run hP hsp h hrel hargs fun ι1 v' w1 hst hv => by
    cases hv
    exact ⟨rfl, hst.below hg⟩
end Go.Proofs.Ytmmmdmandocbhaa.Den
end

section
/- Walking the evaluator: 'in the end, whatever the fuel' as a calculus. -/
set_option linter.unusedVariables false
set_option linter.unusedSimpArgs false
namespace Go.Proofs.Ytmmmdmandocbhaa.Den

/-- With enough fuel the answer is there, and it is always the same one; it is as told. -/
def Ev {α : Type} (s : Nat → Option α) (Q : α → Prop) : Prop := ∃ x, Q x ∧ ∃ k0, ∀ k, k0 ≤ k → s k = some x
theorem Ev.pure {α : Type} {s : Nat → Option α} {Q : α → Prop} {x : α} (h : ∀ k, s k = some x) (hq : Q x) : Ev s Q := ⟨x, hq, 0, fun k _ => h k⟩
theorem Ev.imp {α : Type} {s : Nat → Option α} {Q Q' : α → Prop} (h : Ev s Q) (hq : ∀ x, Q x → Q' x) : Ev s Q' := let ⟨x, q, r⟩ := h; ⟨x, hq x q, r⟩

structure Cx where
  P : Program
  al : FuncId → Bool
  sp : Sp
abbrev Cx.E (c : Cx) (k : Nat) : Evs := evs drawD c.al c.sp c.P k
/-- A function that is walked by its code. -/
@[simp] abbrev Cx.plain (c : Cx) (f : FuncId) : Bool := !c.al f && (c.sp f).isNone
@[simp] theorem spNone_eq (f : FuncId) : spNone f = none := _root_.id rfl

/-- Code: left in this way, with these temporaries, in this world. -/
def CW (x : Cx) (ro : Option Nat) (c : Code) (a : Act) (H : World) (Q : Exit → Act → World → Prop) : Prop :=
  Ev (fun k => codeD drawD x.P (x.E k) ro c a H) fun r => Q r.1 r.2.1 r.2.2
def FW (x : Cx) (f : FuncId) (args : Array Value) (H : World) (Q : Value → World → Prop) : Prop :=
  Ev (fun k => (x.E k).fn f args H) fun r => Q r.1 r.2
def RW (x : Cx) (l : Nat) (tmps : Array Value) (assign body : Code) (H : World) (Q : Value → World → Prop) : Prop :=
  Ev (fun k => (x.E k).round l tmps assign body H) fun r => Q r.1 r.2
def OW (x : Cx) (ops : Array Oper) (l : List Nat) (a : Act) (H : World) (Q : Act → World → Prop) : Prop :=
  Ev (fun k => opsD x.P (x.E k) ops l a H) fun r => Q r.1 r.2

section
variable {x : Cx} {ro : Option Nat} {a : Act} {H : World} {Q : Exit → Act → World → Prop}
theorem CW.imp {c : Code} {Q' : Exit → Act → World → Prop} (h : CW x ro c a H Q) (hq : ∀ e a H, Q e a H → Q' e a H) : CW x ro c a H Q' := Ev.imp h fun r => hq _ _ _
theorem FW.imp {f : FuncId} {args : Array Value} {Q Q' : Value → World → Prop} (h : FW x f args H Q) (hq : ∀ v H, Q v H → Q' v H) : FW x f args H Q' := Ev.imp h fun r => hq _ _
theorem CW.skip (h : Q .normal a H) : CW x ro .skip a H Q := .pure (x := (.normal, a, H)) (fun _ => rfl) h
theorem CW.label {n : Nat} (h : Q .normal a H) : CW x ro (.label n) a H Q := .pure (x := (.normal, a, H)) (fun _ => rfl) h
theorem CW.ret (h : Q .ret a H) : CW x ro .ret a H Q := .pure (x := (.ret, a, H)) (fun _ => rfl) h
theorem CW.exit {id : Nat} (h : Q (.exit id) a H) : CW x ro (.exit id) a H Q := .pure (x := (.exit id, a, H)) (fun _ => rfl) h
theorem CW.seq {c d : Code} (h : CW x ro c a H (Exit.then (fun a1 H1 => CW x ro d a1 H1 Q) Q)) : CW x ro (.seq c d) a H Q := by
  obtain ⟨⟨e, a1, H1⟩, q, k0, hk⟩ := h
  try dsimp only at *
  cases e with
  | normal =>
    obtain ⟨r, q2, k1, hk1⟩ := q
    try dsimp only at *
    refine ⟨r, q2, max k0 k1, fun k hkk => ?_⟩
    show codeD drawD x.P (x.E k) ro (.seq c d) a H = _
    unfold codeD
    rw [hk k (by omega)]
    exact hk1 k (by omega)
  | _ =>
    refine ⟨(_, a1, H1), q, k0, fun k hkk => ?_⟩
    show codeD drawD x.P (x.E k) ro (.seq c d) a H = _
    unfold codeD
    rw [hk k hkk]
theorem CW.cond {c : Operand} {d e : Code} {t : Bool} (hc : a.eval c = .bool t) (h : CW x ro (if t then d else e) a H Q) : CW x ro (.cond c d e) a H Q := by
  obtain ⟨r, q, k0, hk⟩ := h
  try dsimp only at *
  refine ⟨r, q, k0, fun k hkk => ?_⟩
  show codeD drawD x.P (x.E k) ro (.cond c d e) a H = _
  unfold codeD
  rw [hc]
  have := hk k hkk
  cases t <;> exact this
theorem CW.block {id : Nat} {c : Code} (h : CW x ro c a H (Exit.inBlock id Q)) : CW x ro (.block id c) a H Q := by
  obtain ⟨⟨e, a1, H1⟩, q, k0, hk⟩ := h
  try dsimp only at *
  cases e with
  | exit id' =>
    by_cases hid : id' = id
    · subst hid
      simp only [Exit.inBlock, if_true] at q
      refine ⟨(.normal, a1, H1), q, k0, fun k hkk => ?_⟩
      show codeD drawD x.P (x.E k) ro (.block id' c) a H = _
      unfold codeD
      rw [hk k hkk]
      simp
    · simp only [Exit.inBlock, hid, if_false] at q
      refine ⟨(.exit id', a1, H1), q, k0, fun k hkk => ?_⟩
      show codeD drawD x.P (x.E k) ro (.block id c) a H = _
      unfold codeD
      rw [hk k hkk]
      simp [hid]
  | _ =>
    refine ⟨(_, a1, H1), q, k0, fun k hkk => ?_⟩
    show codeD drawD x.P (x.E k) ro (.block id c) a H = _
    unfold codeD
    rw [hk k hkk]
/-- One round of a loop; then it stands at the loop again. -/
theorem CW.loop {c : Code} (h : CW x ro c a H (Exit.then (fun a1 H1 => CW x ro (.loop c) a1 H1 Q) Q)) : CW x ro (.loop c) a H Q := by
  obtain ⟨⟨e, a1, H1⟩, q, k0, hk⟩ := h
  try dsimp only at *
  cases e with
  | normal =>
    obtain ⟨r, q2, k1, hk1⟩ := q
    try dsimp only at *
    refine ⟨r, q2, max k0 (k1 + 1), fun k hkk => ?_⟩
    show codeD drawD x.P (x.E k) ro (.loop c) a H = _
    unfold codeD
    rw [hk k (by omega)]
    obtain ⟨j, rfl⟩ : ∃ j, k = j + 1 := ⟨k - 1, by omega⟩
    exact hk1 j (by omega)
  | _ =>
    refine ⟨(_, a1, H1), q, k0, fun k hkk => ?_⟩
    show codeD drawD x.P (x.E k) ro (.loop c) a H = _
    unfold codeD
    rw [hk k hkk]
theorem CW.region {id : Nat} {ops : Array Oper} (h : OW x ops (List.range ops.size) a H (Q .normal)) : CW x ro (.region id ops false) a H Q := by
  obtain ⟨⟨a1, H1⟩, q, k0, hk⟩ := h
  try dsimp only at *
  refine ⟨(.normal, a1, H1), q, k0, fun k hkk => ?_⟩
  show codeD drawD x.P (x.E k) ro (.region id ops false) a H = _
  unfold codeD
  simp only [Bool.false_eq_true, if_false]
  rw [hk k hkk]; rfl
theorem OW.nil {ops : Array Oper} {Q : Act → World → Prop} (h : Q a H) : OW x ops [] a H Q := .pure (x := (a, H)) (fun _ => rfl) h
/-- An operation that calls nothing. -/
theorem OW.op {ops : Array Oper} {i : Nat} {l : List Nat} {Q : Act → World → Prop} {o : Oper} {v : Value} {H1 : World} (ho : ops[i]? = some o) (hg : o.guard = none) (hs : semD x.P o a H = some (.value v, H1)) (h : OW x ops l (a.put o.dst v) H1 Q) : OW x ops (i :: l) a H Q := by
  obtain ⟨r, q, k0, hk⟩ := h
  try dsimp only at *
  refine ⟨r, q, k0, fun k hkk => ?_⟩
  show opsD x.P (x.E k) ops (i :: l) a H = _
  unfold opsD
  simp only [ho, Region.wanted, hg, if_true, opD, hs]
  exact hk k hkk
theorem OW.act {ops : Array Oper} {i : Nat} {l : List Nat} {Q : Act → World → Prop} {o : Oper} {H1 : World} (ho : ops[i]? = some o) (hg : o.guard = none) (hs : semD x.P o a H = some (.skip, H1)) (h : OW x ops l (a.put o.dst undef) H1 Q) : OW x ops (i :: l) a H Q := by
  obtain ⟨r, q, k0, hk⟩ := h
  try dsimp only at *
  refine ⟨r, q, k0, fun k hkk => ?_⟩
  show opsD x.P (x.E k) ops (i :: l) a H = _
  unfold opsD
  simp only [ho, Region.wanted, hg, if_true, opD, hs]
  exact hk k hkk
theorem OW.call {ops : Array Oper} {i : Nat} {l : List Nat} {Q : Act → World → Prop} {o : Oper} {f : FuncId} {args : Array Value} {H1 : World} (ho : ops[i]? = some o) (hg : o.guard = none) (hs : semD x.P o a H = some (.enter f args, H1))
    (h : FW x f args H1 fun v H2 => OW x ops l (a.put o.dst v) H2 Q) : OW x ops (i :: l) a H Q := by
  obtain ⟨⟨v, H2⟩, ⟨r, q, k0, hk⟩, k1, hk1⟩ := h
  try dsimp only at *
  refine ⟨r, q, max k0 k1, fun k hkk => ?_⟩
  show opsD x.P (x.E k) ops (i :: l) a H = _
  unfold opsD
  have h1 : (x.E k).fn f args H1 = some (v, H2) := hk1 k (by omega)
  simp only [ho, Region.wanted, hg, if_true, opD, hs, h1, Option.map_some]
  exact hk k (by omega)
theorem OW.round {ops : Array Oper} {i : Nat} {l : List Nat} {Q : Act → World → Prop} {o : Oper} {g : Nat} {f : FuncId} {t : Array Value} {as b : Code} {H1 : World} (ho : ops[i]? = some o) (hg : o.guard = none) (hs : semD x.P o a H = some (.round g f t as b, H1))
    (h : RW x g t as b H1 fun v H2 => OW x ops l (a.put o.dst v) H2 Q) : OW x ops (i :: l) a H Q := by
  obtain ⟨⟨v, H2⟩, ⟨r, q, k0, hk⟩, k1, hk1⟩ := h
  try dsimp only at *
  refine ⟨r, q, max k0 k1, fun k hkk => ?_⟩
  show opsD x.P (x.E k) ops (i :: l) a H = _
  unfold opsD
  have h1 : (x.E k).round g t as b H1 = some (v, H2) := hk1 k (by omega)
  simp only [ho, Region.wanted, hg, if_true, opD, hs, h1, Option.map_some]
  exact hk k (by omega)
end

/-- What a function's end asks. -/
def endW (x : Cx) (fn : Func) (Q : Value → World → Prop) : Exit → Act → World → Prop
  | .normal, a, H | .ret, a, H => ∃ H2 v H3, leaveD a.defers H = some H2 ∧ okRun ((results fn a.tmps).run x.P H2) = some (v, H3) ∧ Q v H3
  | _, _, _ => False
theorem fnD_of {x : Cx} {f : FuncId} {fn : Func} {c : Code} {args : Array Value} {H : World} {Q : Value → World → Prop} (hf : x.P.funcs[f]? = some fn) (hb : fn.body = some c)
    (h : CW x none c { tmps := args ++ Array.replicate (fn.ntmps - args.size) undef, defers := [] } H (endW x fn Q)) : Ev (fun k => fnD drawD x.P (x.E k) f args H) fun r => Q r.1 r.2 := by
  obtain ⟨⟨e, a1, H1⟩, q, k0, hk⟩ := h
  try dsimp only at *
  cases e with
  | normal =>
    obtain ⟨H2, v, H3, hl, hr, hq⟩ := q
    refine ⟨(v, H3), hq, k0, fun k hkk => ?_⟩
    have h1 := hk k hkk
    simp only [fnD, hf, hb, h1, hl, hr]
  | ret =>
    obtain ⟨H2, v, H3, hl, hr, hq⟩ := q
    refine ⟨(v, H3), hq, k0, fun k hkk => ?_⟩
    have h1 := hk k hkk
    simp only [fnD, hf, hb, h1, hl, hr]
  | _ => exact q.elim
theorem FW.of {x : Cx} {f : FuncId} {fn : Func} {c : Code} {args : Array Value} {H : World} {Q : Value → World → Prop} (ha : x.plain f = true) (hf : x.P.funcs[f]? = some fn) (hb : fn.body = some c)
    (h : CW x none c { tmps := args ++ Array.replicate (fn.ntmps - args.size) undef, defers := [] } H (endW x fn Q)) : FW x f args H Q := by
  obtain ⟨r, q, k0, hk⟩ := fnD_of hf hb h
  try dsimp only at *
  refine ⟨r, q, k0 + 1, fun k hkk => ?_⟩
  obtain ⟨j, rfl⟩ : ∃ j, k = j + 1 := ⟨k - 1, by omega⟩
  show callF drawD x.al x.sp x.P (x.E j) f args H = _
  simp only [Cx.plain, Bool.and_eq_true, Bool.not_eq_true', Option.isNone_iff_eq_none] at ha
  unfold callF
  simp only [ha.1, ha.2, Bool.false_and, Bool.false_eq_true, if_false]
  exact hk j (by omega)
/-- A function that is told by a rule of its own. -/
theorem FW.special {x : Cx} {f : FuncId} {args : Array Value} {H H1 : World} {v : Value} {g : Array Value → World → Option (Value × World)} {Q : Value → World → Prop} (ha : x.al f = false) (hs : x.sp f = some g) (hg : g args H = some (v, H1)) (hq : Q v H1) : FW x f args H Q := by
  refine ⟨(v, H1), hq, 1, fun k hkk => ?_⟩
  obtain ⟨j, rfl⟩ : ∃ j, k = j + 1 := ⟨k - 1, by omega⟩
  show callF drawD x.al x.sp x.P (x.E j) f args H = _
  unfold callF
  simp only [ha, hs, Bool.false_and, Bool.false_eq_true, if_false, hg]
/-- A call that stands alone. -/
theorem FW.alone {x : Cx} {f : FuncId} {fn : Func} {c : Code} {args : Array Value} {H : World} {Q : Value → World → Prop} (ha : (x.al f && args.all (plain deep)) = true) (hf : x.P.funcs[f]? = some fn) (hb : fn.body = some c)
    (h : CW x none c { tmps := args ++ Array.replicate (fn.ntmps - args.size) undef, defers := [] } World0 (endW x fn fun v0 H0 => ∃ v, strip deep x.P H0 v0 = some v ∧ Q v H)) : FW x f args H Q := by
  obtain ⟨⟨v0, H3⟩, ⟨v, hc, q⟩, k0, hk⟩ := fnD_of hf hb h
  try dsimp only at *
  refine ⟨(v, H), q, k0 + 1, fun k hkk => ?_⟩
  obtain ⟨j, rfl⟩ : ∃ j, k = j + 1 := ⟨k - 1, by omega⟩
  show callF drawD x.al x.sp x.P (x.E j) f args H = _
  unfold callF
  rw [if_pos ha]
  have h1 := hk j (by omega)
  simp only [aloneD, h1, hc, Option.map_some]
/-- What a function makes of plain values, of nothing that came in. -/
def FA (x : Cx) (f : FuncId) (l : List Value) (v : Value) : Prop := Ev (fun k => fnD drawD x.P (x.E k) f l.toArray World0) fun r => strip0 deep x.P r.2 r.1 = some v
/-- A call that stands alone, with arguments of the heap. -/
theorem FA.heap {x : Cx} {f : FuncId} {l : List Value} {v : Value} {args : Array Value} {H : World} {Q : Value → World → Prop} (h : FA x f l v) (ha : x.al f = true) (hp : args.all (plain deep) = false) (hs : stripArgs x.P H args = some l) (hq : Q v H) : FW x f args H Q := by
  obtain ⟨⟨v0, H0⟩, q, k0, hk⟩ := h
  dsimp only at *
  refine ⟨(v, H), hq, k0 + 1, fun k hkk => ?_⟩
  obtain ⟨j, rfl⟩ : ∃ j, k = j + 1 := ⟨k - 1, by omega⟩
  show callF drawD x.al x.sp x.P (x.E j) f args H = _
  have h1 := hk j (by omega)
  unfold callF
  simp only [ha, hp, Bool.and_false, Bool.false_eq_true, if_false, if_true, hs, aloneH, h1, q, Option.map_some]
theorem stripAll_mono {f g : Value → Option Value} : ∀ (l r : List Value), (∀ v y, f v = some y → g v = some y) → stripAll f l = some r → stripAll g l = some r
  | [], r, _, h => h
  | v :: l, r, hm, h => by
    unfold stripAll at h ⊢
    split at h
    · rename_i y hy
      simp only [Option.map_eq_some_iff] at h
      obtain ⟨z, hz, rfl⟩ := h
      rw [hm _ _ hy, stripAll_mono l z hm hz]; rfl
    · cases h
theorem strip0_strip {P : Program} {H : World} : ∀ (d : Nat) (v y : Value), strip0 d P H v = some y → strip d P H v = some y
  | 0, v, y, h => h
  | d + 1, v, y, h => by
    unfold strip0 at h
    unfold strip
    split at h
    · simp only [Option.map_eq_some_iff] at h ⊢
      obtain ⟨l, hl, rfl⟩ := h
      exact ⟨l, stripAll_mono _ _ (strip0_strip d) hl, rfl⟩
    · simp only [Option.map_eq_some_iff] at h ⊢
      obtain ⟨l, hl, rfl⟩ := h
      exact ⟨l, stripAll_mono _ _ (strip0_strip d) hl, rfl⟩
    · cases h
    · split at h
      case h_2 => cases h
      rename_i cs e fr hb
      split at h
      case h_2 => cases h
      rename_i de inf hu hi
      replace h := of_if' h
      obtain ⟨hpos, h⟩ := h
      split at h
      case h_2 => cases h
      rename_i l hl
      simp only [hb, hu, hi, if_pos hpos, stripAll_mono _ _ (strip0_strip d) hl]
      exact h
    · split <;> first | exact h | simp_all
theorem FA.plain {x : Cx} {f : FuncId} {l : List Value} {v : Value} {H : World} {Q : Value → World → Prop} (h : FA x f l v) (ha : x.al f = true) (hp : l.toArray.all (plain deep) = true) (hq : Q v H) : FW x f l.toArray H Q := by
  obtain ⟨⟨v0, H0⟩, q, k0, hk⟩ := h
  dsimp only at *
  refine ⟨(v, H), hq, k0 + 1, fun k hkk => ?_⟩
  obtain ⟨j, rfl⟩ : ∃ j, k = j + 1 := ⟨k - 1, by omega⟩
  show callF drawD x.al x.sp x.P (x.E j) f l.toArray H = _
  have h1 := hk j (by omega)
  unfold callF
  simp only [ha, hp, Bool.and_true, if_true, aloneD, h1, strip0_strip _ _ _ q, Option.map_some]
theorem FW.run {x : Cx} {f : FuncId} {args : Array Value} {H : World} {Q : Value → World → Prop} (h : FW x f args H Q) : ∃ k v H1, run x.P x.al x.sp k f args H = some (v, H1) ∧ Q v H1 := by
  obtain ⟨⟨v, H1⟩, q, k0, hk⟩ := h
  try dsimp only at *
  exact ⟨k0, v, H1, hk k0 (Nat.le_refl _), q⟩
end Go.Proofs.Ytmmmdmandocbhaa.Den
end

section
/- The meaning of an operation over a valuation of its operands (printed by gen_semr.py out of DenA); environments. -/
set_option linter.unusedVariables false
set_option linter.unusedSimpArgs false
namespace Go.Proofs.Ytmmmdmandocbhaa.Den

def binR (P : Program) (op : BinOp) (t : TypeId) (x y : Operand) (ρ : Operand → Value) (H : World) : Option (Next × World) :=
  if flatFor op (ρ x) && flatFor op (ρ y) then
    match okRun ((do Go.eqGuard op t x y (ρ x) (ρ y); Go.binOp op t (ρ x) (ρ y)).run P H) with
    | some (v, H1) => if flat1 v then some (.value v, H1) else none
    | none => none
  else match op with
    | .eql => (eqD P t (ρ x) (ρ y) H).map fun r => (.value (.bool r), H)
    | .neq => (eqD P t (ρ x) (ρ y) H).map fun r => (.value (.bool !r), H)
    | _ => none

def callOpR (P : Program) (c : Call) (ρ : Operand → Value) (H : World) : Option (Next × World) :=
  match c.callee with
  | .builtin b => (builtinD P b c.argTypes (c.args.map ρ) H).map fun r => (.value r.1, r.2)
  | .value g => (callD P (ρ g) (c.args.map ρ) H).map fun x => (x, H)
  | _ => none

def semR (P : Program) (o : Oper) (ρ : Operand → Value) (H : World) : Option (Next × World) :=
  if !(o.op.operands.all operandOk) then none else
  match pureD P o.op ρ with
  | some v => some (.value v, H)
  | none =>
  match o.op with
  | .slice t x lo hi mx => (lslice P t (ρ x) (lo.map ρ) (hi.map ρ) (mx.map ρ) H).map fun r => (.value r.1, r.2)
  | .binOp op t x y _ => binR P op t x y ρ H
  | .convert src dst x => (convD P src dst (ρ x) H).map fun r => (.value r.1, r.2)
  | .lookup t m k ok => (lookupD P t (ρ m) (ρ k) ok H).map fun v => (.value v, H)
  | .mapUpdate t m k v => (mapUpdateD P t (ρ m) (ρ k) (ρ v) H).map fun H1 => (.skip, H1)
  | .insert t m k v => (mapUpdateD P t (ρ m) (ρ k) (ρ v) H).map fun H1 => (.skip, H1)
  | .nilCheck x => match ρ x with
    | .pointer (some p) => some (.value (.pointer (some p)), H)
    | .func (.func f) fs cs => some (.value (.func (.func f) fs cs), H)
    | _ => none
  | .call c => callOpR P c ρ H
  | op => if okOp P op then okRun ((execOp ρ o).run P H) else none
def binV (P : Program) (op : BinOp) (t : TypeId) (x y : Operand) (X Y : Value) (H : World) : Option (Next × World) :=
  if flatFor op (X) && flatFor op (Y) then
    match okRun ((do Go.eqGuard op t x y (X) (Y); Go.binOp op t (X) (Y)).run P H) with
    | some (v, H1) => if flat1 v then some (.value v, H1) else none
    | none => none
  else match op with
    | .eql => (eqD P t (X) (Y) H).map fun r => (.value (.bool r), H)
    | .neq => (eqD P t (X) (Y) H).map fun r => (.value (.bool !r), H)
    | _ => none
theorem binR_binV (P : Program) (op : BinOp) (t : TypeId) (x y : Operand) (ρ : Operand → Value) (H : World) : binR P op t x y ρ H = binV P op t x y (ρ x) (ρ y) H := rfl
theorem semD_semR (P : Program) (o : Oper) (a : Act) (H : World) : semD P o a H = semR P o a.eval H := rfl

/-! ### environments -/
def lk : List (Nat × Value) → Nat → Value
  | [], _ => undef
  | (i, v) :: e, j => if j = i then v else lk e j
theorem lk_cons (i : Nat) (v : Value) (e : List (Nat × Value)) (j : Nat) : lk ((i, v) :: e) j = if j = i then v else lk e j := by simp [lk]
def evE (e : List (Nat × Value)) : Operand → Value
  | .tmp t => lk e t
  | .const v => v
  | .global g => .pointer (some ⟨g, 0, none⟩)
  | .func f => .func (.func f) #[] #[]
structure EnvOk (n : Nat) (e : List (Nat × Value)) (a : Act) : Prop where
  size : a.tmps.size = n
  get : ∀ t, a.tmps.getD t undef = lk e t
theorem EnvOk.eval {n : Nat} {e : List (Nat × Value)} {a : Act} (h : EnvOk n e a) : a.eval = evE e := by
  funext x
  cases x with
  | tmp t => exact h.get t
  | _ => rfl
def putE (e : List (Nat × Value)) (dst : Option Tmp) (v : Value) : List (Nat × Value) :=
  match dst with
  | some d => (d, v) :: e
  | none => e
theorem EnvOk.put {n : Nat} {e : List (Nat × Value)} {a : Act} (h : EnvOk n e a) (dst : Option Tmp) (hd : ∀ d, dst = some d → d < n) (v : Value) : EnvOk n (putE e dst v) (a.put dst v) := by
  cases dst with
  | none => exact h
  | some d =>
    refine ⟨by simp [Act.put, h.size], fun t => ?_⟩
    simp only [Act.put, putE, lk_cons]
    rw [Array.getD_eq_getD_getElem?, Array.getElem?_setIfInBounds]
    have := hd d rfl
    by_cases hdt : d = t
    · subst hdt
      rw [if_pos rfl, if_pos (by rw [h.size]; exact this), if_pos rfl]; rfl
    · rw [if_neg hdt, if_neg (fun e => hdt e.symm), ← h.get, Array.getD_eq_getD_getElem?]
def yieldE (ops : Array Oper) (e : List (Nat × Value)) (j : Nat) : Option Bool :=
  match (ops[j]?).bind (·.dst) with
  | some d => match lk e d with
    | .bool b => some b
    | _ => none
  | none => none
theorem EnvOk.yielded {n : Nat} {e : List (Nat × Value)} {a : Act} (h : EnvOk n e a) (ops : Array Oper) : yielded ops a.tmps = yieldE ops e := by
  funext j
  unfold Go.yielded yieldE
  cases hd : (ops[j]?).bind (·.dst) with
  | none => rfl
  | some d =>
    simp only [Option.bind_some]
    rw [← h.get d, Array.getD_eq_getD_getElem?]
    cases a.tmps[d]? with
    | none => rfl
    | some v => cases v <;> rfl

/-- Operations one behind the other, as a condition. -/
def OQ (x : Cx) (n : Nat) (ops : Array Oper) : List Nat → List (Nat × Value) → World → (List (Nat × Value) → World → Prop) → Prop
  | [], e, H, K => K e H
  | i :: l, e, H, K =>
    match ops[i]? with
    | none => False
    | some o =>
      (∀ d, o.dst = some d → d < n) ∧
      if Region.wanted o (yieldE ops e) then
        match semR x.P o (evE e) H with
        | some (.value v, H1) => OQ x n ops l (putE e o.dst v) H1 K
        | some (.skip, H1) => OQ x n ops l (putE e o.dst undef) H1 K
        | some (.enter f args, H1) => FW x f args H1 fun v H2 => OQ x n ops l (putE e o.dst v) H2 K
        | some (.round g _ t as b, H1) => RW x g t as b H1 fun v H2 => OQ x n ops l (putE e o.dst v) H2 K
        | _ => False
      else OQ x n ops l (putE e o.dst undef) H K
theorem OQ.ow {x : Cx} {n : Nat} {ops : Array Oper} {K : List (Nat × Value) → World → Prop} {Q : Act → World → Prop} {ds : List Deferred} (hQ : ∀ e a H, EnvOk n e a → a.defers = ds → K e H → Q a H) :
    ∀ (l : List Nat) (e : List (Nat × Value)) (a : Act) (H : World), EnvOk n e a → a.defers = ds → OQ x n ops l e H K → OW x ops l a H Q
  | [], e, a, H, he, hd, h => OW.nil (hQ e a H he hd h)
  | i :: l, e, a, H, he, hd, h => by
    unfold OQ at h
    cases ho : ops[i]? with
    | none => rw [ho] at h; exact h.elim
    | some o =>
      simp only [ho] at h
      obtain ⟨hdst, h⟩ := h
      have hput : ∀ v, (a.put o.dst v).defers = ds := fun v => by cases hds : o.dst <;> exact hd
      split at h
      · rename_i hw
        have hw' : Region.wanted o (Go.yielded ops a.tmps) = true := by rw [he.yielded]; exact hw
        cases hs : semR x.P o (evE e) H with
        | none => rw [hs] at h; exact h.elim
        | some p =>
          obtain ⟨nx, H1⟩ := p
          rw [hs] at h
          have hs' : semD x.P o a H = some (nx, H1) := by rw [semD_semR, he.eval]; exact hs
          cases nx with
          | value v =>
            obtain ⟨r, q, k0, hk⟩ := OQ.ow hQ l _ _ H1 (he.put o.dst hdst v) (hput v) h
            refine ⟨r, q, k0, fun k hkk => ?_⟩
            show opsD x.P (x.E k) ops (i :: l) a H = _
            unfold opsD
            simp only [ho, hw', if_true, opD, hs']
            exact hk k hkk
          | skip =>
            obtain ⟨r, q, k0, hk⟩ := OQ.ow hQ l _ _ H1 (he.put o.dst hdst undef) (hput _) h
            refine ⟨r, q, k0, fun k hkk => ?_⟩
            show opsD x.P (x.E k) ops (i :: l) a H = _
            unfold opsD
            simp only [ho, hw', if_true, opD, hs']
            exact hk k hkk
          | enter f args =>
            obtain ⟨⟨v, H2⟩, h2, k1, hk1⟩ := h
            obtain ⟨r, q, k0, hk⟩ := OQ.ow hQ l _ _ H2 (he.put o.dst hdst v) (hput v) h2
            refine ⟨r, q, max k0 k1, fun k hkk => ?_⟩
            show opsD x.P (x.E k) ops (i :: l) a H = _
            unfold opsD
            have h1 : (x.E k).fn f args H1 = some (v, H2) := hk1 k (by omega)
            simp only [ho, hw', if_true, opD, hs', h1, Option.map_some]
            exact hk k (by omega)
          | round g f t as b =>
            obtain ⟨⟨v, H2⟩, h2, k1, hk1⟩ := h
            obtain ⟨r, q, k0, hk⟩ := OQ.ow hQ l _ _ H2 (he.put o.dst hdst v) (hput v) h2
            refine ⟨r, q, max k0 k1, fun k hkk => ?_⟩
            show opsD x.P (x.E k) ops (i :: l) a H = _
            unfold opsD
            have h1 : (x.E k).round g t as b H1 = some (v, H2) := hk1 k (by omega)
            simp only [ho, hw', if_true, opD, hs', h1, Option.map_some]
            exact hk k (by omega)
          | _ => exact h.elim
      · rename_i hw
        have hw' : ¬ Region.wanted o (Go.yielded ops a.tmps) = true := by rw [he.yielded]; exact hw
        obtain ⟨r, q, k0, hk⟩ := OQ.ow hQ l _ _ H (he.put o.dst hdst undef) (hput _) h
        refine ⟨r, q, k0, fun k hkk => ?_⟩
        show opsD x.P (x.E k) ops (i :: l) a H = _
        unfold opsD
        simp only [ho]
        rw [if_neg hw']
        exact hk k hkk
end Go.Proofs.Ytmmmdmandocbhaa.Den
end

section
/- Code over environments. -/
set_option linter.unusedVariables false
set_option linter.unusedSimpArgs false
namespace Go.Proofs.Ytmmmdmandocbhaa.Den
abbrev Env := List (Nat × Value)

def CE (x : Cx) (ro : Option Nat) (n : Nat) (c : Code) (e : Env) (ds : List Deferred) (H : World) (Q : Exit → Env → List Deferred → World → Prop) : Prop :=
  ∀ a, EnvOk n e a → a.defers = ds → CW x ro c a H fun ex a1 H1 => ∃ e1, EnvOk n e1 a1 ∧ Q ex e1 a1.defers H1
def thenE (K : Env → List Deferred → World → Prop) (Q : Exit → Env → List Deferred → World → Prop) : Exit → Env → List Deferred → World → Prop
  | .normal, e, ds, H => K e ds H
  | ex, e, ds, H => Q ex e ds H
def blockE (id : Nat) (Q : Exit → Env → List Deferred → World → Prop) : Exit → Env → List Deferred → World → Prop
  | .exit id', e, ds, H => if id' = id then Q .normal e ds H else Q (.exit id') e ds H
  | ex, e, ds, H => Q ex e ds H

section
variable {x : Cx} {ro : Option Nat} {n : Nat} {e : Env} {ds : List Deferred} {H : World} {Q : Exit → Env → List Deferred → World → Prop}
theorem CE.imp {c : Code} {Q' : Exit → Env → List Deferred → World → Prop} (h : CE x ro n c e ds H Q) (hq : ∀ ex e ds H, Q ex e ds H → Q' ex e ds H) : CE x ro n c e ds H Q' :=
  fun a he hd => (h a he hd).imp fun ex a1 H1 ⟨e1, h1, q⟩ => ⟨e1, h1, hq _ _ _ _ q⟩
theorem CE.skip (h : Q .normal e ds H) : CE x ro n .skip e ds H Q := fun a he hd => CW.skip ⟨e, he, hd ▸ h⟩
theorem CE.label {l : Nat} (h : Q .normal e ds H) : CE x ro n (.label l) e ds H Q := fun a he hd => CW.label ⟨e, he, hd ▸ h⟩
theorem CE.ret (h : Q .ret e ds H) : CE x ro n .ret e ds H Q := fun a he hd => CW.ret ⟨e, he, hd ▸ h⟩
theorem CE.exit {id : Nat} (h : Q (.exit id) e ds H) : CE x ro n (.exit id) e ds H Q := fun a he hd => CW.exit ⟨e, he, hd ▸ h⟩
theorem CE.seq {c d : Code} (h : CE x ro n c e ds H (thenE (fun e1 ds1 H1 => CE x ro n d e1 ds1 H1 Q) Q)) : CE x ro n (.seq c d) e ds H Q := fun a he hd =>
  CW.seq ((h a he hd).imp fun ex a1 H1 ⟨e1, h1, q⟩ => by
    cases ex with
    | normal => exact q a1 h1 rfl
    | _ => exact ⟨e1, h1, q⟩)
theorem CE.cond {c : Operand} {d d' : Code} {t : Bool} (hc : evE e c = .bool t) (h : CE x ro n (if t then d else d') e ds H Q) : CE x ro n (.cond c d d') e ds H Q := fun a he hd =>
  CW.cond (by rw [he.eval]; exact hc) (h a he hd)
theorem CE.test {c : Operand} {d d' : Code} {p : Prop} [Decidable p] (hc : evE e c = .bool (decide p)) (h1 : p → CE x ro n d e ds H Q) (h2 : ¬ p → CE x ro n d' e ds H Q) : CE x ro n (.cond c d d') e ds H Q := by
  refine CE.cond hc ?_
  by_cases hp : p
  · simp only [hp, decide_true, if_true]; exact h1 hp
  · simp only [hp, decide_false, Bool.false_eq_true, if_false]; exact h2 hp
theorem CE.block {id : Nat} {c : Code} (h : CE x ro n c e ds H (blockE id Q)) : CE x ro n (.block id c) e ds H Q := fun a he hd =>
  CW.block ((h a he hd).imp fun ex a1 H1 ⟨e1, h1, q⟩ => by
    cases ex with
    | exit id' =>
      simp only [Exit.inBlock]
      simp only [blockE] at q
      split
      · rename_i hid; rw [if_pos hid] at q; exact ⟨e1, h1, q⟩
      · rename_i hid; rw [if_neg hid] at q; exact ⟨e1, h1, q⟩
    | _ => exact ⟨e1, h1, q⟩)
theorem CE.loop {c : Code} (h : CE x ro n c e ds H (thenE (fun e1 ds1 H1 => CE x ro n (.loop c) e1 ds1 H1 Q) Q)) : CE x ro n (.loop c) e ds H Q := fun a he hd =>
  CW.loop ((h a he hd).imp fun ex a1 H1 ⟨e1, h1, q⟩ => by
    cases ex with
    | normal => exact q a1 h1 rfl
    | _ => exact ⟨e1, h1, q⟩)
theorem CE.region {id : Nat} {ops : Array Oper} (h : OQ x n ops (List.range ops.size) e H fun e1 H1 => Q .normal e1 ds H1) : CE x ro n (.region id ops false) e ds H Q := fun a he hd =>
  CW.region (OQ.ow (ds := ds) (fun e1 a1 H1 h1 hd1 q => ⟨e1, h1, hd1 ▸ q⟩) _ e a H he hd h)
/-- A region that draws, where nothing that floats can see what moves. -/
theorem opsD_trace {P : Program} {E : Evs} {ops : Array Oper} : ∀ (l : List Nat) (a : Act) (H : World) (r : Act × World), opsD P E ops l a H = some r → ∃ tr, traceD P E ops l a H = some tr ∧ tr[l.length]? = some r
  | [], a, H, r, h => by cases h; exact ⟨[(a, H)], rfl, rfl⟩
  | i :: l, a, H, r, h => by
    unfold opsD at h
    unfold traceD stepD
    cases ho : ops[i]? with
    | none => rw [ho] at h; cases h
    | some o =>
      simp only [ho] at h ⊢
      split at h
      · rename_i hw
        simp only [hw, if_true]
        cases hop : opD P E o a H with
        | none => rw [hop] at h; cases h
        | some p =>
          obtain ⟨a1, H1⟩ := p
          rw [hop] at h
          obtain ⟨tr, h1, h2⟩ := opsD_trace l a1 H1 r h
          simp only [h1, Option.map_some]
          exact ⟨_, rfl, by simpa using h2⟩
      · rename_i hw
        rw [if_neg hw]
        obtain ⟨tr, h1, h2⟩ := opsD_trace l _ H r h
        simp only [h1, Option.map_some]
        exact ⟨_, rfl, by simpa using h2⟩
theorem CE.draw {id : Nat} {ops : Array Oper} (hs : drawStatic x.P ops = true) (hr : rePairs x.P ops = []) (h : OQ x n ops (List.range ops.size) e H fun e1 H1 => Q .normal e1 ds H1) : CE x ro n (.region id ops true) e ds H Q := fun a he hd => by
  obtain ⟨⟨a1, H1⟩, q, k0, hk⟩ := OQ.ow (Q := fun a1 H1 => ∃ e1, EnvOk n e1 a1 ∧ Q .normal e1 a1.defers H1) (ds := ds) (fun e1 a1 H1 h1 hd1 q => ⟨e1, h1, hd1 ▸ q⟩) _ e a H he hd h
  refine ⟨(.normal, a1, H1), q, k0, fun k hkk => ?_⟩
  obtain ⟨tr, h1, h2⟩ := opsD_trace _ _ _ _ (hk k hkk)
  show codeD drawD x.P (x.E k) ro (.region id ops true) a H = _
  unfold codeD
  simp only [if_true, drawD, h1, hs, hr, List.all_nil, Bool.and_self]
  rw [List.length_range] at h2
  rw [h2]; rfl
end

/-! ### functions -/
def resultsE (fn : Func) (e : Env) : Sem Value := do
  let vs ← fn.results.mapM fun
    | .tmp t => pure (lk e t)
    | .cell a t => do loadVar t (← asAddr (lk e a))
  pure (if h : vs.size = 1 then vs[0] else .tuple vs)
theorem EnvOk.results {n : Nat} {e : Env} {a : Act} (h : EnvOk n e a) (fn : Func) : results fn a.tmps = resultsE fn e := by
  unfold Go.results resultsE
  congr 2
  funext r
  cases r with
  | tmp t => simp only; rw [h.get]
  | cell p t => simp only; rw [h.get]
def envOf : Nat → List Value → Env
  | _, [] => []
  | i, v :: vs => (i, v) :: envOf (i + 1) vs
theorem lk_envOf : ∀ (vs : List Value) (i t : Nat), lk (envOf i vs) t = if i ≤ t then (vs[t - i]?).getD undef else undef
  | [], i, t => by simp [envOf, lk]
  | v :: vs, i, t => by
    simp only [envOf, lk_cons, lk_envOf vs]
    by_cases h : t = i
    · subst h; simp
    · rw [if_neg h]
      by_cases h2 : i ≤ t
      · rw [if_pos h2, if_pos (by omega)]
        obtain ⟨d, hd⟩ : ∃ d, t - i = d + 1 := ⟨t - i - 1, by omega⟩
        rw [hd, show t - (i + 1) = d by omega]; simp
      · rw [if_neg h2, if_neg (by omega)]
theorem envOk_start (args : Array Value) (n : Nat) (h : args.size ≤ n) : EnvOk n (envOf 0 args.toList) { tmps := args ++ Array.replicate (n - args.size) undef, defers := [] } := by
  refine ⟨by simp; omega, fun t => ?_⟩
  rw [lk_envOf, if_pos (Nat.zero_le _), Nat.sub_zero, Array.getElem?_toList, Array.getD_eq_getD_getElem?, Array.getElem?_append]
  split
  · rfl
  · rename_i ht
    rw [Array.getElem?_replicate, Array.getElem?_eq_none (xs := args) (by omega)]
    split <;> rfl
def endE (x : Cx) (fn : Func) (Q : Value → World → Prop) : Exit → Env → List Deferred → World → Prop
  | .normal, e, ds, H | .ret, e, ds, H => ∃ H2 v H3, leaveD ds H = some H2 ∧ okRun ((resultsE fn e).run x.P H2) = some (v, H3) ∧ Q v H3
  | _, _, _, _ => False
theorem endE_end {x : Cx} {fn : Func} {Q : Value → World → Prop} {n : Nat} {ex : Exit} {e : Env} {a : Act} {H : World} (he : EnvOk n e a) (h : endE x fn Q ex e a.defers H) : endW x fn Q ex a H := by
  cases ex with
  | normal => obtain ⟨H2, v, H3, h1, h2, h3⟩ := h; exact ⟨H2, v, H3, h1, by rw [he.results]; exact h2, h3⟩
  | ret => obtain ⟨H2, v, H3, h1, h2, h3⟩ := h; exact ⟨H2, v, H3, h1, by rw [he.results]; exact h2, h3⟩
  | _ => exact h
theorem FW.ofE {x : Cx} {f : FuncId} {fn : Func} {c : Code} {args : Array Value} {H : World} {Q : Value → World → Prop} {n : Nat} (ha : x.plain f = true) (hf : x.P.funcs[f]? = some fn) (hn : fn.ntmps = n) (hb : fn.body = some c) (hs : args.size ≤ n)
    (h : CE x none n c (envOf 0 args.toList) [] H (endE x fn Q)) : FW x f args H Q := by
  refine FW.of ha hf hb ?_
  rw [hn]
  exact (h _ (envOk_start args n hs) rfl).imp fun ex a1 H1 ⟨e1, h1, q⟩ => endE_end h1 q
theorem FW.aloneE {x : Cx} {f : FuncId} {fn : Func} {c : Code} {args : Array Value} {H : World} {Q : Value → World → Prop} {n : Nat} (ha : (x.al f && args.all (plain deep)) = true) (hf : x.P.funcs[f]? = some fn) (hn : fn.ntmps = n) (hb : fn.body = some c) (hs : args.size ≤ n)
    (h : CE x none n c (envOf 0 args.toList) [] World0 (endE x fn fun v0 H0 => ∃ v, strip deep x.P H0 v0 = some v ∧ Q v H)) : FW x f args H Q := by
  refine FW.alone ha hf hb ?_
  rw [hn]
  exact (h _ (envOk_start args n hs) rfl).imp fun ex a1 H1 ⟨e1, h1, q⟩ => endE_end h1 q
end Go.Proofs.Ytmmmdmandocbhaa.Den
end

section
/- What single operations come to. -/
set_option linter.unusedVariables false
set_option linter.unusedSimpArgs false
namespace Go.Proofs.Ytmmmdmandocbhaa.Den
variable {P : Program} {ρ : Operand → Value} {H : World}

theorem binV_int {op : BinOp} {t : TypeId} {x y : Operand} {k l : IntKind} {n m : Int} {v : Value} (h : okRun ((Go.binOp op t (.int k n) (.int l m)).run P H) = some (v, H)) (hv : flat1 v = true) :
    binV P op t x y (.int k n) (.int l m) H = some (.value v, H) := by
  have hg : ∀ w, (Go.eqGuard op t x y (.int k n) (.int l m)).run P w = .ok () w := by
    intro w; unfold Go.eqGuard; split <;> simp
  unfold binV
  have h1 : flatFor op (.int k n) = true := by unfold flatFor; split <;> rfl
  have h2 : flatFor op (.int l m) = true := by unfold flatFor; split <;> rfl
  simp only [h1, h2, Bool.and_self, if_true, Sem.run_bind, hg, Result.andThen_ok, h, hv]
section
variable {t : TypeId} {x y : Operand} {k : IntKind} {n m : Int}
theorem binV_eql : binV P .eql t x y (.int k n) (.int k m) H = some (.value (.bool (n == m)), H) := binV_int (by simp [Go.binOp, Op.intCmp, okRun]) rfl
theorem binV_neq : binV P .neq t x y (.int k n) (.int k m) H = some (.value (.bool (n != m)), H) := binV_int (by simp [Go.binOp, Op.intCmp, okRun]) rfl
theorem binV_lss : binV P .lss t x y (.int k n) (.int k m) H = some (.value (.bool (decide (n < m))), H) := binV_int (by simp [Go.binOp, Op.intCmp, okRun]) rfl
theorem binV_leq : binV P .leq t x y (.int k n) (.int k m) H = some (.value (.bool (decide (n ≤ m))), H) := binV_int (by simp [Go.binOp, Op.intCmp, okRun]) rfl
theorem binV_gtr : binV P .gtr t x y (.int k n) (.int k m) H = some (.value (.bool (decide (m < n))), H) := binV_int (by simp [Go.binOp, Op.intCmp, okRun]) rfl
theorem binV_geq : binV P .geq t x y (.int k n) (.int k m) H = some (.value (.bool (decide (m ≤ n))), H) := binV_int (by simp [Go.binOp, Op.intCmp, okRun]) rfl
theorem binV_add : binV P .add t x y (.int k n) (.int k m) H = some (.value (.int k (k.wrap (n + m))), H) := binV_int (by simp [Go.binOp, Op.intArith, okRun]) rfl
theorem binV_sub : binV P .sub t x y (.int k n) (.int k m) H = some (.value (.int k (k.wrap (n - m))), H) := binV_int (by simp [Go.binOp, Op.intArith, okRun]) rfl
end

/-! ### a region over the list of its operations -/
def OL (x : Cx) (n : Nat) (ops : Array Oper) : List Oper → Env → World → (Env → World → Prop) → Prop
  | [], e, H, K => K e H
  | o :: l, e, H, K =>
    (match o.dst with | some d => decide (d < n) | none => true) = true ∧
      if Region.wanted o (yieldE ops e) then
        match semR x.P o (evE e) H with
        | some (.value v, H1) => OL x n ops l (putE e o.dst v) H1 K
        | some (.skip, H1) => OL x n ops l (putE e o.dst undef) H1 K
        | some (.enter f args, H1) => FW x f args H1 fun v H2 => OL x n ops l (putE e o.dst v) H2 K
        | some (.round g _ t as b, H1) => RW x g t as b H1 fun v H2 => OL x n ops l (putE e o.dst v) H2 K
        | _ => False
      else OL x n ops l (putE e o.dst undef) H K
theorem OQ.of_OL {x : Cx} {n : Nat} {ops : Array Oper} {K : Env → World → Prop} : ∀ (l : List Oper) (s : Nat) (e : Env) (H : World), ops.toList.drop s = l → OL x n ops l e H K → OQ x n ops (List.range' s l.length) e H K
  | [], s, e, H, hl, h => h
  | o :: l, s, e, H, hl, h => by
    have ho : ops[s]? = some o := by
      rw [← Array.getElem?_toList]
      have := List.getElem?_drop (xs := ops.toList) (i := s) (j := 0)
      rw [hl] at this
      simpa using this.symm
    have hl' : ops.toList.drop (s + 1) = l := by
      rw [← List.drop_drop, hl]; rfl
    simp only [List.length_cons, List.range'_succ]
    unfold OQ
    unfold OL at h
    rw [ho]
    obtain ⟨hd, h⟩ := h
    refine ⟨fun d he => by rw [he] at hd; simpa using hd, ?_⟩
    split
    · rename_i hw
      rw [if_pos hw] at h
      split at h
      · rename_i heq; try rw [heq]
        exact OQ.of_OL l (s + 1) _ _ hl' h
      · rename_i heq; try rw [heq]
        exact OQ.of_OL l (s + 1) _ _ hl' h
      · rename_i heq; try rw [heq]
        exact FW.imp h fun v H2 h2 => OQ.of_OL l (s + 1) _ _ hl' h2
      · rename_i heq; try rw [heq]
        exact Ev.imp h fun r h2 => OQ.of_OL l (s + 1) _ _ hl' h2
      · exact h.elim
    · rename_i hw
      rw [if_neg hw] at h
      exact OQ.of_OL l (s + 1) _ _ hl' h
theorem CE.reg {x : Cx} {ro : Option Nat} {n : Nat} {e : Env} {ds : List Deferred} {H : World} {Q : Exit → Env → List Deferred → World → Prop} {id : Nat} {ops : List Oper} (h : OL x n ops.toArray ops e H fun e1 H1 => Q .normal e1 ds H1) : CE x ro n (.region id ops.toArray false) e ds H Q := by
  refine CE.region ?_
  have := OQ.of_OL (ops := ops.toArray) ops 0 e H (by simp) h
  rwa [← List.range_eq_range'] at this

/-! ### simple operations -/
theorem ok_tmp (t : Nat) : operandOk (.tmp t) = true := by simp [operandOk, constOk, constOk1]
theorem ok_func (t : Nat) : operandOk (.func t) = true := by simp [operandOk, constOk, constOk1]
theorem ok_bool (b : Bool) : operandOk (.const (.bool b)) = true := by simp [operandOk, constOk, constOk1]
theorem ok_int (k : IntKind) (n : Int) : operandOk (.const (.int k n)) = true := by simp [operandOk, constOk, constOk1]
theorem ok_string (s : ByteArray) : operandOk (.const (.string s)) = true := by simp [operandOk, constOk, constOk1]
theorem ok_slice (n c : Nat) : operandOk (.const (.slice none n c)) = true := by simp [operandOk, constOk, constOk1]
theorem ok_ptr : operandOk (.const (.pointer none)) = true := by simp [operandOk, constOk, constOk1]
theorem ok_map : operandOk (.const (.map none)) = true := by simp [operandOk, constOk, constOk1]
theorem ok_nilFunc : operandOk (.const .nilFunc) = true := by simp [operandOk, constOk, constOk1]
theorem ok_nilIface : operandOk (.const .nilIface) = true := by simp [operandOk, constOk, constOk1]
theorem ok_agg (cs : Array Value) (h : cs.all constOk1 = true) : operandOk (.const (.agg cs)) = true := h
theorem ev_tmp (e : Env) (t : Nat) : evE e (.tmp t) = lk e t := by simp [evE]
theorem ev_const (e : Env) (v : Value) : evE e (.const v) = v := by simp [evE]
theorem ev_func (e : Env) (f : Nat) : evE e (.func f) = .func (.func f) #[] #[] := by simp [evE]

end Go.Proofs.Ytmmmdmandocbhaa.Den
end

section
/- The opening: what came in, as values without addresses. -/
set_option linter.unusedVariables false
set_option linter.unusedSimpArgs false
namespace Go.Proofs.Ytmmmdmandocbhaa.Den
variable {P : Program} {H : Type} {enc : TypeId × Value → H}

def okFs (f : TypeId → Bool) (P : Program) : Nat → List Field → Nat → Bool
  | acc, [], n => acc == n
  | acc, fl :: fs, n => fl.offset == acc && f fl.type && okFs f P (acc + P.cellsOf fl.type) fs n
/-- The types of what can come in. -/
def okTy (P : Program) : Nat → TypeId → Bool
  | 0, _ => false
  | d + 1, t => match P.underlying t with
    | some .bool => true
    | some (.int _) => true
    | some .string => true
    | some (.slice e) => (match P.underlying e with
      | some _ => decide (0 < P.cellsOf e ∧ 0 < P.bytesOf e) && okTy P d e
      | none => false)
    | some (.struct fs) => okFs (okTy P d) P 0 fs.toList (P.cellsOf t)
    | _ => false
def TyF (T : TypeId → List Value → Prop) : List Field → List Value → Prop
  | [], cs => cs = []
  | fl :: fs, cs => ∃ a b, cs = a ++ b ∧ T fl.type a ∧ TyF T fs b
def elemOf (ag : Bool) (c : List Value) : Value := if ag then .agg c.toArray else c.headD undef
def aggU (P : Program) (t : TypeId) : Bool := (P.underlying t).elim false aggT
/-- What such cells look like. -/
def TyC (B : Nat) (P : Program) : Nat → TypeId → List Value → Prop
  | 0, _, _ => False
  | d + 1, t, cs => match P.underlying t with
    | some .bool => ∃ b, cs = [.bool b]
    | some (.int k) => ∃ n, cs = [.int k n] ∧ (Lit.int k n).wf = true
    | some .string => ∃ s, cs = [.string s] ∧ s.size ≤ B
    | some (.slice e) => cs = [.slice none 0 0] ∨ ∃ l : List (List Value), cs = [vs (P.cellsOf e) (l.map (elemOf (aggU P e))).toArray] ∧ l.length ≤ B ∧ ∀ c ∈ l, TyC B P d e c
    | some (.struct fs) => TyF (TyC B P d) fs.toList cs
    | _ => False

theorem mapM_some {α β : Type} {f : α → Option β} : ∀ (l : List α) (r : List β), l.mapM f = some r → r.length = l.length ∧ ∀ (k : Nat) (x : α), l[k]? = some x → ∃ y, f x = some y ∧ r[k]? = some y
  | [], r, h => by
    simp at h; subst h
    exact ⟨rfl, fun k x hx => by simp at hx⟩
  | a :: l, r, h => by
    simp only [List.mapM_cons, Option.bind_eq_bind, Option.bind_eq_some_iff, Option.pure_def, Option.some.injEq] at h
    obtain ⟨b, hb, r0, hr, rfl⟩ := h
    obtain ⟨h1, h2⟩ := mapM_some l r0 hr
    refine ⟨by simp [h1], fun k x hx => ?_⟩
    cases k with
    | zero => simp at hx; subst hx; exact ⟨b, hb, rfl⟩
    | succ k => obtain ⟨y, hy, hy2⟩ := h2 k x (by simpa using hx); exact ⟨y, hy, by simpa using hy2⟩
theorem cells_some {w : World} {a : Addr} {n : Nat} {l : List Value} (h : w.cells? 0 a n = some l) : l.length = n ∧ ∀ j, j < n → w.cell? (a.add j) = l[j]? := by
  unfold World.cells? at h
  rw [if_pos (Nat.zero_le _)] at h
  obtain ⟨h1, h2⟩ := mapM_some _ _ h
  refine ⟨by simpa using h1, fun j hj => ?_⟩
  obtain ⟨y, hy, hy2⟩ := h2 j j (by simp [hj])
  rw [hy, hy2]

/-- Cells that came in. -/
def CellsIn (B : Nat) (P : Program) (w : World) (d : Nat) (t : TypeId) (cs lcs : List Value) : Prop :=
  TyC B P d t lcs ∧ lcs.length = cs.length ∧ ∀ (k : Nat) (v v' : Value), lcs[k]? = some v → cs[k]? = some v' → VRel (pins w) v v'
theorem CellsIn.one {B : Nat} {w : World} {d : Nat} {t : TypeId} {v v' : Value} (h : TyC B P d t [v]) (hr : VRel (pins w) v v') : CellsIn B P w d t [v'] [v] := by
  refine ⟨h, rfl, fun k x x' hx hx' => ?_⟩
  cases k with
  | zero => simp at hx hx'; subst hx hx'; exact hr
  | succ k => simp at hx

theorem elem_single {B d : Nat} {t : TypeId} {c : List Value} (h : TyC B P d t c) (ha : aggU P t = false) : ∃ v, c = [v] ∧ notAgg v = true := by
  cases d with
  | zero => exact h.elim
  | succ d =>
    unfold TyC at h
    unfold aggU at ha
    split at h
    · obtain ⟨b, rfl⟩ := h; exact ⟨_, rfl, rfl⟩
    · obtain ⟨b, rfl, _⟩ := h; exact ⟨_, rfl, rfl⟩
    · obtain ⟨b, rfl, _⟩ := h; exact ⟨_, rfl, rfl⟩
    · rcases h with rfl | ⟨l, rfl, _⟩
      · exact ⟨_, rfl, rfl⟩
      · exact ⟨_, rfl, rfl⟩
    · rename_i fs hu
      rw [hu] at ha; cases ha
    · exact h.elim
theorem elem_cells {B d : Nat} {t : TypeId} {c : List Value} (h : TyC B P d t c) : (elemOf (aggU P t) c).cells = c.toArray := by
  unfold elemOf
  cases ha : aggU P t with
  | true => rfl
  | false =>
    obtain ⟨v, rfl, hv⟩ := elem_single h ha
    simp only [Bool.false_eq_true, if_false, List.headD_cons]
    rw [notAgg_cells hv]

theorem start_slice {B : Nat} {w : World} {d : Nat} {t e : TypeId} {a : Addr} {len cap : Nat} (hu : P.underlying t = some (.slice e)) (hp : 0 < P.cellsOf e) (hl : len ≤ cap) (hcap : len ≤ B)
    (h : ∀ i, i < len → ∃ l, w.cells? 0 (a.add (i * P.cellsOf e)) (P.cellsOf e) = some l ∧ ∃ lcs, CellsIn B P w d e l lcs) : ∃ lcs, CellsIn B P w (d + 1) t [.slice (some a) len cap] lcs := by
  by_cases hn : len = 0
  · subst hn
    refine ⟨[vs (P.cellsOf e) #[]], .one ?_ (.vsE _ _ _)⟩
    unfold TyC; rw [hu]
    exact .inr ⟨[], rfl, Nat.zero_le _, fun c hc => by simp at hc⟩
  · have hsp : a.spot = none := by
      obtain ⟨l, hc, _⟩ := h 0 (by omega)
      obtain ⟨hn2, hc⟩ := cells_some hc
      have := hc 0 hp
      rw [Nat.zero_mul] at this
      have hl0 : 0 < l.length := by omega
      rw [List.getElem?_eq_getElem hl0] at this
      exact World.cell?_spot (by simpa [Addr.add] using this)
    obtain ⟨b, off, spot⟩ := a
    simp only at hsp
    subst hsp
    have h' : ∀ i, ∃ lcs : List Value, i < len → TyC B P d e lcs ∧ lcs.length = P.cellsOf e ∧ ∀ (j : Nat) (v v' : Value), lcs[j]? = some v → w.cell? ⟨b, off + i * P.cellsOf e + j, none⟩ = some v' → VRel (pins w) v v' := by
      intro i
      by_cases hi : i < len
      · obtain ⟨l, hc, lcs, h1, h2, h3⟩ := h i hi
        obtain ⟨hn2, hc⟩ := cells_some hc
        refine ⟨lcs, fun _ => ⟨h1, by omega, fun j v v' hv hv' => h3 j v v' hv ?_⟩⟩
        have hj := (List.getElem?_eq_some_iff.1 hv).1
        rw [← hc j (by omega), add_plain, add_plain]
        exact hv'
      · exact ⟨[], fun h => absurd h hi⟩
    have hcell : ∀ i j, i < len → j < P.cellsOf e → ∃ v', w.cell? ⟨b, off + i * P.cellsOf e + j, none⟩ = some v' := by
      intro i j hi hj
      obtain ⟨l, hc, lcs, h1, h2, h3⟩ := h i hi
      obtain ⟨hn2, hc⟩ := cells_some hc
      have := hc j hj
      rw [add_plain, add_plain] at this
      exact ⟨l[j]'(by omega), by rw [this]; exact List.getElem?_eq_getElem _⟩
    let C : Nat → List Value := fun i => Classical.choose (h' i)
    have hC : ∀ i, i < len → _ := fun i => Classical.choose_spec (h' i)
    obtain ⟨v0, hv0⟩ := hcell 0 0 (by omega) hp
    obtain ⟨cs', e', fr, hrow, _⟩ := cell_some hv0
    have hfz : (pins w).fz b = some cs' := by simp only [pins, cellsAt, hrow]
    have hlast : off + len * P.cellsOf e ≤ cs'.size := by
      obtain ⟨v1, hv1⟩ := hcell (len - 1) (P.cellsOf e - 1) (by omega) (by omega)
      rw [cell_of hrow] at hv1
      have := (Array.getElem?_eq_some_iff.1 hv1).1
      have h3 : len * P.cellsOf e = (len - 1) * P.cellsOf e + P.cellsOf e := by
        rw [← Nat.succ_mul]; congr 1; omega
      omega
    refine ⟨[vs (P.cellsOf e) (((List.range len).map C).map (elemOf (aggU P e))).toArray], .one ?_ ?_⟩
    · unfold TyC; rw [hu]
      refine .inr ⟨(List.range len).map C, rfl, by simp; omega, fun c hc => ?_⟩
      simp only [List.mem_map, List.mem_range] at hc
      obtain ⟨i, hi, rfl⟩ := hc
      exact (hC i hi).1
    · have := VRel.vs (ι := pins w) (P.cellsOf e) (((List.range len).map C).map (elemOf (aggU P e))).toArray b off cap cs' hfz (by simp; exact hl) (fun k x hx => ?_) (by simpa using hlast) fun k j x y y' hx hy hy' => ?_
      · simpa [vs] using this
      · simp only [List.getElem?_toArray, List.getElem?_map, Option.map_eq_some_iff] at hx
        obtain ⟨_, ⟨i, hi, rfl⟩, rfl⟩ := hx
        obtain ⟨hi1, hi2⟩ := List.getElem?_eq_some_iff.1 hi
        simp at hi1 hi2; subst hi2
        obtain ⟨h1, h2, h3⟩ := hC _ hi1
        rw [elem_cells h1]
        simpa using h2
      · simp only [List.getElem?_toArray, List.getElem?_map, Option.map_eq_some_iff] at hx
        obtain ⟨_, ⟨i, hi, rfl⟩, rfl⟩ := hx
        obtain ⟨hi1, hi2⟩ := List.getElem?_eq_some_iff.1 hi
        simp at hi1 hi2; subst hi2
        obtain ⟨h1, h2, h3⟩ := hC _ hi1
        rw [elem_cells h1] at hy
        exact h3 j y y' (by simpa using hy) (by rw [cell_of hrow]; exact hy')
theorem okFs_mem {f : TypeId → Bool} {n : Nat} : ∀ (fs : List Field) (acc : Nat), okFs f P acc fs n = true → ∀ fl ∈ fs, f fl.type = true
  | [], acc, h, fl, hfl => by cases hfl
  | g :: fs, acc, h, fl, hfl => by
    simp only [okFs, Bool.and_eq_true] at h
    rcases List.mem_cons.1 hfl with rfl | hfl
    · exact h.1.2
    · exact okFs_mem fs _ h.2 fl hfl
theorem okFs_le {f : TypeId → Bool} {n : Nat} : ∀ (fs : List Field) (acc : Nat), okFs f P acc fs n = true → acc ≤ n ∧ ∀ fl ∈ fs, acc ≤ fl.offset ∧ fl.offset + P.cellsOf fl.type ≤ n
  | [], acc, h => by
    simp [okFs] at h; subst h
    exact ⟨Nat.le_refl _, fun fl hfl => by cases hfl⟩
  | g :: fs, acc, h => by
    simp only [okFs, Bool.and_eq_true, beq_iff_eq] at h
    obtain ⟨h1, h2⟩ := okFs_le fs _ h.2
    refine ⟨by omega, fun fl hfl => ?_⟩
    rcases List.mem_cons.1 hfl with rfl | hfl
    · omega
    · have := h2 fl hfl; omega
theorem start_fields {B : Nat} {w : World} {d n : Nat} : ∀ (fs : List Field) (acc : Nat) (cs : List Value), acc + cs.length = n → okFs (okTy P d) P acc fs n = true →
    (∀ fl ∈ fs, ∃ lcs, CellsIn B P w d fl.type ((cs.drop (fl.offset - acc)).take (P.cellsOf fl.type)) lcs) →
    ∃ lcs, TyF (TyC B P d) fs lcs ∧ lcs.length = cs.length ∧ ∀ (k : Nat) (v v' : Value), lcs[k]? = some v → cs[k]? = some v' → VRel (pins w) v v'
  | [], acc, cs, hn, hok, h => by
    simp [okFs] at hok
    have : cs = [] := List.length_eq_zero_iff.1 (by omega)
    subst this
    exact ⟨[], rfl, rfl, fun k v v' hv => by simp at hv⟩
  | fl :: fs, acc, cs, hn, hok, h => by
    simp only [okFs, Bool.and_eq_true, beq_iff_eq] at hok
    obtain ⟨⟨hoff, hf⟩, hrest⟩ := hok
    obtain ⟨a, ha1, ha2, ha3⟩ := h fl List.mem_cons_self
    rw [hoff, Nat.sub_self, List.drop_zero] at ha2 ha3
    obtain ⟨hle, hall⟩ := okFs_le fs _ hrest
    have hsz : (cs.take (P.cellsOf fl.type)).length = P.cellsOf fl.type := by rw [List.length_take]; omega
    obtain ⟨b, hb1, hb2, hb3⟩ := start_fields fs (acc + P.cellsOf fl.type) (cs.drop (P.cellsOf fl.type)) (by rw [List.length_drop]; omega) hrest fun g hg => by
      obtain ⟨lcs, hl⟩ := h g (List.mem_cons_of_mem _ hg)
      refine ⟨lcs, ?_⟩
      have := hall g hg
      rw [List.drop_drop, show P.cellsOf fl.type + (g.offset - (acc + P.cellsOf fl.type)) = g.offset - acc by omega]
      exact hl
    refine ⟨a ++ b, ⟨a, b, rfl, ha1, hb1⟩, by rw [List.length_append, ha2, hb2, hsz, List.length_drop]; omega, fun k v v' hv hv' => ?_⟩
    rw [List.getElem?_append] at hv
    split at hv
    · rename_i hk
      refine ha3 k v v' hv ?_
      rw [List.getElem?_take, if_pos (by omega)]; exact hv'
    · rename_i hk
      refine hb3 _ v v' hv ?_
      rw [List.getElem?_drop, ← hv']; congr 1; omega
theorem weightsAll_mem {l : List (DataW H)} {e : TypeId} {y : DataW H} (hy : y ∈ l) {n : Nat} (hn : n ∈ y.weights P e) : n ∈ DataW.weightsAll P e l := by
  induction l with
  | nil => cases hy
  | cons z l ih =>
    unfold DataW.weightsAll
    rcases List.mem_cons.1 hy with rfl | hy
    · exact List.mem_append_left _ hn
    · exact List.mem_append_right _ (ih hy)
theorem mapM_mem {α β : Type} {f : α → Option β} {l : List α} {r : List β} (h : l.mapM f = some r) {k : Nat} {x : α} (hk : l[k]? = some x) : ∃ y, f x = some y ∧ r[k]? = some y := (mapM_some l r h).2 k x hk
theorem start_cells {B : Nat} {w : World} {spare : Nat → Bool} {held : Bool} : ∀ (d fuel : Nat) (t : TypeId) (cs : List Value) (x : DataW H × List MemPlace), okTy P d t = true → DataW.trod enc P w 0 spare held fuel t cs = some x → (B = maxLen ∨ ∀ n ∈ x.1.weights P t, n ≤ B) → ∃ lcs, CellsIn B P w d t cs lcs
  | 0, _, _, _, _, h, _, _ => by cases h
  | _ + 1, 0, _, _, _, _, h, _ => by cases h
  | d + 1, fuel + 1, t, cs, x, hok, h, hB => by
    unfold okTy at hok
    unfold DataW.trod at h
    split at hok
    · rename_i hu
      rw [hu] at h
      split at h <;> first | (rename_i heq; cases heq; done) | cases h | skip
      all_goals first | (rename_i hc _; skip) | skip
      all_goals try (cases ‹some TypeDesc.bool = _›)
      all_goals first | exact ⟨[_], .one (by simp only [TyC, hu]; exact ⟨_, rfl⟩) (.bool _)⟩ | skip
    · rename_i k hu
      rw [hu] at h
      split at h
      all_goals try (cases ‹some (TypeDesc.int k) = _›)
      all_goals first | cases h | skip
      all_goals try (replace h := of_if' h; obtain ⟨⟨hk, hwf⟩, h⟩ := h; subst hk)
      all_goals first | exact ⟨[_], .one (by simp only [TyC, hu]; exact ⟨_, rfl, hwf⟩) (.int _ _)⟩ | skip
    · rename_i hu
      rw [hu] at h
      split at h
      all_goals try (cases ‹some TypeDesc.string = _›)
      all_goals first | cases h | skip
      all_goals try (replace h := of_if' h; obtain ⟨hk, h⟩ := h)
      all_goals try (injection h with h; subst h)
      all_goals first | exact ⟨[_], .one (by simp only [TyC, hu]; exact ⟨_, rfl, by
        rcases hB with rfl | hB
        · exact hk
        · exact hB _ (by simp only [DataW.weights]; exact List.mem_singleton.2 rfl)⟩) (.string _)⟩ | skip
    · rename_i e hu
      rw [hu] at h
      split at h
      all_goals try (cases ‹some (TypeDesc.slice e) = _›)
      all_goals first | cases h | skip
      · exact ⟨[_], .one (by unfold TyC; rw [hu]; exact .inl rfl) (.slNil _ _)⟩
      · rename_i a len cap
        replace h := of_if' h
        obtain ⟨⟨_, hlen, hcap⟩, h⟩ := h
        simp only [Option.bind_eq_some_iff] at h
        obtain ⟨elems, hel, h⟩ := h
        simp only [Option.map_eq_some_iff] at h
        obtain ⟨rest, _, h⟩ := h
        subst h
        split at hok
        case h_2 => cases hok
        rename_i de hue
        simp only [Bool.and_eq_true, decide_eq_true_eq] at hok
        have hel2 := mapM_some _ _ hel
        have hll : len ≤ B := by
          rcases hB with rfl | hB
          · exact Nat.le_trans hlen hcap
          · have := hB ((elems.length + rest.length) * P.bytesOf e) (by simp [DataW.weights, hu])
            have h1 : elems.length = len := by simpa using hel2.1
            have h3 : elems.length ≤ (elems.length + rest.length) * P.bytesOf e := Nat.le_trans (Nat.le_add_right _ _) (Nat.le_mul_of_pos_right _ hok.1.2)
            omega
        refine start_slice hu hok.1.1 hlen hll fun i hi => ?_
        obtain ⟨y, hy, hyel⟩ := hel2.2 i i (by simp [hi])
        simp only [Option.bind_eq_some_iff] at hy
        obtain ⟨l, hl, hy⟩ := hy
        exact ⟨l, hl, start_cells d fuel e l y hok.2 hy (hB.imp_right fun hB n hn => hB n (by
          simp only [DataW.weights, hu]
          refine List.mem_cons_of_mem _ (List.mem_append_left _ (weightsAll_mem (y := y.1) (List.mem_map_of_mem (List.mem_of_getElem? hyel)) hn))))⟩
    · rename_i fs hu
      rw [hu] at h
      simp only at h
      replace h := of_if' h
      obtain ⟨hlen, h⟩ := h
      simp only [Option.map_eq_some_iff] at h
      obtain ⟨xs, hxs, h⟩ := h
      subst h
      have h2 := mapM_some _ _ hxs
      obtain ⟨lcs, h3, h4, h5⟩ := start_fields (B := B) (P := P) (w := w) (d := d) (n := P.cellsOf t) fs.toList 0 cs (by simpa using hlen) hok fun fl hfl => by
        obtain ⟨k, hk⟩ := List.getElem?_of_mem hfl
        obtain ⟨y, hy, hyel⟩ := h2.2 k fl hk
        have hokf : okTy P d fl.type = true := okFs_mem fs.toList 0 hok fl hfl
        have := start_cells d fuel fl.type _ y hokf hy (hB.imp_right fun hB n hn => hB n (by
          simp only [DataW.weights, hu]
          exact DataW.weights_mem_each (ts := fs.toList.map (·.type)) (ds := xs.map (·.1)) (j := k) (by simp [hk]) (by simp [hyel]) n hn))
        rw [Nat.sub_zero]
        exact this
      exact ⟨lcs, by unfold TyC; rw [hu]; exact h3, h4, h5⟩
    · cases hok

/-- An argument that came in, its sizes told. -/
theorem start_argB {B : Nat} {w : World} {spare : Nat → Bool} {held : Bool} {d : Nat} {t : TypeId} {v : Value} {x : DataW H} {ps : List MemPlace} {r : Go.Reach} {b0 : Nat} (hok : okTy P d t = true) (hv : Value.okWide P w r b0 t v) (h : DataW.Trod enc P w 0 spare held t v x ps) (hB : B = maxLen ∨ ∀ n ∈ x.weights P t, n ≤ B) :
    ∃ lcs, TyC B P d t lcs ∧ VRel (pins w) (elemOf (aggU P t) lcs) v := by
  obtain ⟨fuel, h⟩ := h
  obtain ⟨lcs, h1, h2, h3⟩ := start_cells d fuel t _ _ hok h hB
  refine ⟨lcs, h1, ?_⟩
  unfold elemOf
  cases ha : aggU P t with
  | true =>
    unfold Value.okWide at hv
    have : ∃ cs, v = .agg cs := by
      unfold aggU at ha
      split at hv
      · obtain ⟨cs, h, _⟩ := hv; exact ⟨cs, h⟩
      · obtain ⟨cs, h, _⟩ := hv; exact ⟨cs, h⟩
      · rename_i hn1 hn2
        exfalso
        cases hu : P.underlying t with
        | none => rw [hu] at ha; cases ha
        | some u =>
          rw [hu] at ha
          cases u <;> first | (cases ha; done) | skip
          · exact hn2 _ _ hu
          · exact hn1 _ hu
    obtain ⟨cs, rfl⟩ := this
    exact .agg _ _ (by simpa [Value.cells] using h2) fun k y y' hy hy' => h3 k y y' (by simpa using hy) (by simpa [Value.cells] using hy')
  | false =>
    obtain ⟨u, rfl, hu⟩ := elem_single h1 ha
    simp only [Bool.false_eq_true, if_false, List.headD_cons]
    have hl : v.cells.toList.length = 1 := h2.symm
    cases v with
    | agg cs =>
      exfalso
      unfold Value.okWide at hv
      unfold aggU at ha
      split at hv
      · rename_i hu2; rw [hu2] at ha; cases ha
      · rename_i hu2; rw [hu2] at ha; cases ha
      · unfold Cell.okWide at hv
        split at hv <;> first | (simp_all; done) | (unfold Cell.ok at hv; split at hv <;> simp_all)
    | _ => exact h3 0 _ _ rfl rfl
/-- An argument that came in. -/
theorem start_arg {w : World} {spare : Nat → Bool} {held : Bool} {d : Nat} {t : TypeId} {v : Value} {x : DataW H} {ps : List MemPlace} {r : Go.Reach} {b0 : Nat} (hok : okTy P d t = true) (hv : Value.okWide P w r b0 t v) (h : DataW.Trod enc P w 0 spare held t v x ps) :
    ∃ lcs, TyC maxLen P d t lcs ∧ VRel (pins w) (elemOf (aggU P t) lcs) v := start_argB hok hv h (.inl rfl)
end Go.Proofs.Ytmmmdmandocbhaa.Den
end
