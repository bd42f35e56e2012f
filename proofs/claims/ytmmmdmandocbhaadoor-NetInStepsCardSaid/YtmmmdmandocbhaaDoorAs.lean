/- Helpers of this claim: an evaluator over plain values and its laws. -/
import Derived.Test.YtmmmdmandocbhaaDoorAr
section
/- Rows of bytes, what is kept, slices that grow: laws of no program. -/
set_option linter.unusedVariables false
set_option linter.unusedSimpArgs false
namespace Go.Proofs.YtmmmdmandocbhaaDoor.Den
theorem Acc.len {P : Program} {H H0 : World} {v : Value} {es : Nat} {e t : TypeId} {n : Nat} {cs : List Value} (h : Acc H v es e n cs) (ht : isSliceT P t = true) : builtinX P .len #[t] #[v] H0 = some (.value (.int .i64 n), H0) := by
  obtain ⟨_, ⟨rfl, rfl⟩ | ⟨r, rfl, _, _⟩⟩ := h
  · rw [len_slice, if_pos ht]
  · rw [len_slice, if_pos ht]
theorem Acc.pos {H : World} {v : Value} {es : Nat} {e : TypeId} {n : Nat} {cs : List Value} (h : Acc H v es e n cs) (hn : 0 < n) : ∃ r, v = .slice (some ⟨r, 0, none⟩) n n ∧ getO H r = some (.cells cs.toArray e (1, 0)) := by
  obtain ⟨_, ⟨rfl, rfl⟩ | ⟨r, rfl, _, hr⟩⟩ := h
  · cases hn
  · exact ⟨r, rfl, hr⟩
/-- What a heap held it holds still. -/
def Keep (H H' : World) : Prop := ∀ i o, getO H i = some o → getO H' i = some o
theorem Keep.refl {H : World} : Keep H H := fun _ _ h => h
theorem Keep.push {H H' : World} (h : Keep H H') (o : Obj) : Keep H (pushObj H' o) := fun i x hx => by
  have := h i x hx
  have := getO_lt this
  rw [get_push, if_neg (by omega)]; assumption
theorem Keep.trans {H H' H2 : World} (h : Keep H H') (g : Keep H' H2) : Keep H H2 := fun i x hx => g i x (h i x hx)
theorem enc_get {α : Type} {enc : α → Value} {es : Nat} (hs : ∀ x, (enc x).cells.size = es) (xs : List α) (k : Nat) (hk : k < xs.length) : (((xs.map enc).flatMap fun v => v.cells.toList).take (k * es + es)).drop (k * es) = (enc xs[k]).cells.toList := by
  induction xs generalizing k with
  | nil => simp at hk
  | cons x xs ih =>
    have h0 := hs x
    have hl : (enc x).cells.toList.length = es := by simp [h0]
    rw [List.map_cons, List.flatMap_cons]
    cases k with
    | zero =>
      simp only [Nat.zero_mul, Nat.zero_add, List.drop_zero, List.getElem_cons_zero]
      rw [List.take_append_of_le_length (by omega), List.take_of_length_le (by omega)]
    | succ k =>
      have := ih k (by simpa using hk)
      rw [List.getElem_cons_succ, ← this]
      rw [show (k + 1) * es + es = (enc x).cells.toList.length + (k * es + es) by rw [hl, Nat.succ_mul]; omega, List.take_length_add_append,
        show (k + 1) * es = (enc x).cells.toList.length + k * es by rw [hl, Nat.succ_mul]; omega, List.drop_length_add_append]
theorem enc_get' {α : Type} {enc : α → Value} {es : Nat} {cs : List Value} {xs : List α} (hs : ∀ x, (enc x).cells.size = es) (e : cs = (xs.map enc).flatMap fun v => v.cells.toList) (k : Nat) (hk : k < xs.length) : (cs.drop (k * es)).take es = (enc xs[k]).cells.toList := by
  rw [← enc_get hs xs k hk, e, List.drop_take]
  congr 1; omega
def ApV (u v : Value) : Prop := ∀ r n c, v = .slice (some ⟨r, 0, none⟩) n c → Apart u r
theorem Acc.keep {H H' : World} {u v : Value} {es : Nat} {e : TypeId} {n : Nat} {cs : List Value} (h : Acc H v es e n cs) (hk : ∀ i o, getO H i = some o → Apart u i → getO H' i = some o) (ha : ApV u v) : Acc H' v es e n cs := by
  obtain ⟨h1, h2 | ⟨r, rfl, hn, hr⟩⟩ := h
  · exact ⟨h1, .inl h2⟩
  · exact ⟨h1, .inr ⟨r, rfl, hn, hk r _ hr (ha r n n rfl)⟩⟩
theorem Acc.row_lt {H : World} {v : Value} {es : Nat} {e : TypeId} {n : Nat} {cs : List Value} (h : Acc H v es e n cs) {r m c : Nat} (hv : v = .slice (some ⟨r, 0, none⟩) m c) : r < H.heap.size := by
  subst hv
  obtain ⟨h1, ⟨h2, _⟩ | ⟨r', h2, hn, hr⟩⟩ := h
  · cases h2
  · injection h2 with h3 h4 h5
    injection h3 with h3
    injection h3 with h3
    subst h3
    exact getO_lt hr
def AccB (e : TypeId) (H : World) (v : Value) (bs : List UInt8) : Prop := Acc H v 1 e bs.length (bs.map fun b => Value.int .u8 b.toNat)
theorem byteV_of (b : UInt8) : byteV (.int .u8 (b.toNat : Int)) = b := by
  simp [byteV]
theorem conv_bytes {P : Program} {src dst e : TypeId} {v : Value} {H : World} {bs : List UInt8} (hs : P.underlying src = some (.slice e)) (he : P.underlying e = some (.int .u8)) (hd : P.underlying dst = some .string) (h : AccB e H v bs) : convX P src dst v H = some (.value (.string (sB bs)), H) := by
  obtain ⟨_, ⟨rfl, hn⟩ | ⟨r, rfl, hn, hr⟩⟩ := h
  · have : bs = [] := List.length_eq_zero_iff.1 hn
    subst this
    have hv : vConv P src dst (.slice none 0 0) = none := rfl
    unfold convX
    rw [hv]
    simp only [hs, he, hd]
    rfl
  · have hv : vConv P src dst (.slice (some ⟨r, 0, none⟩) bs.length bs.length) = none := rfl
    unfold convX
    rw [hv]
    have hrow : rowAt H ⟨r, 0, none⟩ bs.length = some (bs.map fun b => Value.int .u8 b.toNat).toArray := by
      simp [hr]
      exact List.take_of_length_le (by simp)
    have hu : ((bs.map fun b => Value.int .u8 b.toNat).toArray.all isU8) = true := by
      simp [isU8]
    have hst : strOf ((bs.map fun b => Value.int .u8 b.toNat).toArray.toList) = sB bs := by
      simp only [strOf, List.map_map, sB]
      congr 2
      conv => rhs; rw [← List.map_id bs]
      apply List.map_congr_left
      intro b _
      exact byteV_of b
    simp only [hs, he, hd, hrow, hu, hst, if_true]
theorem plainDI (k : IntKind) (n : Int) : plain deep (.int k n) = true := rfl
theorem plainDS (s : ByteArray) : plain deep (.string s) = true := rfl
theorem plainDB (b : Bool) : plain deep (.bool b) = true := rfl
theorem Acc.fresh {H : World} {v : Value} {es : Nat} {e : TypeId} {n : Nat} {cs : List Value} (h : Acc H v es e n cs) {i : Nat} (hi : H.heap.size ≤ i) : Apart v i := fun r m c hv => by
  have := h.row_lt hv
  omega
theorem ApV.symm {u v : Value} (h : ApV u v) : ApV v u := fun r n c e r' n' c' e' h2 => h r' n' c' e' r n c e h2.symm
@[simp] theorem convX_int {P : Program} {src dst : TypeId} {l : IntKind} {n : Int} {H : World} : convX P src dst (.int l n) H = match P.underlying src, P.underlying dst with
    | some _, some (.int k) => some (.value (.int k (k.wrap n)), H)
    | _, _ => none := by
  unfold convX vConv
  simp only
  cases P.underlying src with
  | none => rfl
  | some a =>
    cases P.underlying dst with
    | none => rfl
    | some b => cases b <;> rfl
theorem conv_row {P : Program} {src dst e : TypeId} {r c : Nat} {fr : Nat × Nat} {H : World} {bs : List UInt8} (hs : P.underlying src = some (.slice e)) (he : P.underlying e = some (.int .u8)) (hd : P.underlying dst = some .string) (hr : getO H r = some (.cells (bs.map fun b => Value.int .u8 b.toNat).toArray e fr)) : convX P src dst (.slice (some ⟨r, 0, none⟩) bs.length c) H = some (.value (.string (sB bs)), H) := by
  have hv : vConv P src dst (.slice (some ⟨r, 0, none⟩) bs.length c) = none := rfl
  unfold convX
  rw [hv]
  have hrow : rowAt H ⟨r, 0, none⟩ bs.length = some (bs.map fun b => Value.int .u8 b.toNat).toArray := by
    simp [hr]
    exact List.take_of_length_le (by simp)
  have hu : ((bs.map fun b => Value.int .u8 b.toNat).toArray.all isU8) = true := by
    simp [isU8]
  have hst : strOf ((bs.map fun b => Value.int .u8 b.toNat).toArray.toList) = sB bs := by
    simp only [strOf, List.map_map, sB]
    congr 2
    conv => rhs; rw [← List.map_id bs]
    apply List.map_congr_left
    intro b _
    exact byteV_of b
  simp only [hs, he, hd, hrow, hu, hst, if_true]
theorem conv_str {P : Program} {src dst e : TypeId} {inf : TypeInfo} {H : World} {bs : List UInt8} (hs : P.underlying src = some .string) (hd : P.underlying dst = some (.slice e)) (he : P.underlying e = some (.int .u8)) (hi : P.info? e = some inf) (hz : inf.size = 1) : convX P src dst (.string (sB bs)) H = some (.value (.slice (some ⟨H.heap.size, 0, none⟩) bs.length bs.length), pushObj H (.cells (bs.map fun b => Value.int .u8 b.toNat).toArray e (1, 0))) := by
  have hv : vConv P src dst (.string (sB bs)) = none := rfl
  unfold convX
  rw [hv]
  have hb : bytesOf (sB bs) = (bs.map fun b => Value.int .u8 b.toNat).toArray := by
    unfold bytesOf sB; simp
  simp only [hs, hd, he, hi, hz, if_true, hb, sB_size]
theorem SrcX.rowOff {P : Program} {H : World} {es r off n c : Nat} {cs : List Value} {e : TypeId} {fr : Nat × Nat} (h : getO H r = some (.cells cs.toArray e fr)) (hn : off + n * es ≤ cs.length) : SrcX P es (.slice (some ⟨r, off, none⟩) n c) H n ((cs.drop off).take (n * es)) := by
  unfold SrcX
  simp only [cellsOfD]
  have := run_loadCells_row (P := P) (off := off) (n := n * es) (show H.heap[r]? = _ from h) (by simpa using hn)
  rw [this]
  simp only [okRun, Option.map_some]
  congr 2
  apply Array.toList_inj.1
  simp [List.drop_take]
end Go.Proofs.YtmmmdmandocbhaaDoor.Den
end
