/- Helpers of this claim: an evaluator over plain values and its laws. -/
import Derived.Test.YtmmmdmandocbhaaDoorPt
import Derived.Lib.ItoaLen
section
/- strings.Builder in memory: copyCheck, WriteString, WriteByte, String; strconv.Itoa. -/
set_option linter.unusedVariables false
set_option linter.unusedSimpArgs false
namespace Go.Proofs.YtmmmdmandocbhaaDoor
open Go Go.Proofs.YtmmmdmandocbhaaDoor.Den
/-- What an append leaves alone. -/
structure FrV (H H' : World) (v v' : Value) : Prop where
  keep : ∀ i o, getO H i = some o → Apart v i → getO H' i = some o
  size : H.heap.size ≤ H'.heap.size
  apart : ∀ i, Apart v i → i < H.heap.size → Apart v' i
theorem addStr {H : World} {v : Value} {xs : List UInt8} (h : AccB 5 H v xs) (ys : List UInt8) (hl : xs.length + ys.length ≤ 2 ^ 40) : ∃ v' H', builtinX Tryd.prog .append #[64, 9] #[v, .string (sB ys)] H = some (.value v', H') ∧ AccB 5 H' v' (xs ++ ys) ∧ FrV H H' v v' := by
  obtain ⟨v', H', e1, acc', keepO, hsz, hap⟩ := Acc.append Tryd.prog (t1 := 64) (t2 := 9) h Tryd.underlying64 (by simp) info5 zero5 rfl rfl (by decide) (by decide) (by decide)
    (SrcX.string (P := Tryd.prog) (l := ys) (H := H)) (by simp) (by simp) (by simp [bytes5]; omega)
  refine ⟨v', H', e1, ?_, keepO, hsz, hap⟩
  unfold AccB
  rw [List.map_append, List.length_append]
  exact acc'
theorem addByte {H : World} {v : Value} {xs : List UInt8} (h : AccB 5 H v xs) (b : UInt8) (hl : xs.length + 1 ≤ 2 ^ 40) : ∃ v' H', builtinX Tryd.prog .append #[64, 64] #[v, .slice (some ⟨H.heap.size, 0, none⟩) 1 1] (pushObj H (.cells #[.int .u8 b.toNat] 5 (0, 0))) = some (.value v', H') ∧ AccB 5 H' v' (xs ++ [b]) ∧ FrV H H' v v' := by
  obtain ⟨v', H', e1, acc', keepO, hsz, hap⟩ := Acc.append Tryd.prog (t1 := 64) (t2 := 64) (Acc.push h (.cells #[.int .u8 b.toNat] 5 (0, 0))) Tryd.underlying64 (by simp) info5 zero5 rfl rfl (by decide) (by decide) (by decide)
    (SrcX.row (r := H.heap.size) (n := 1) (c := 1) (cs := [.int .u8 b.toNat]) (e := 5) (fr := (0, 0)) (by simp) rfl) rfl (by simp) (by simp [bytes5]; omega)
  refine ⟨v', H', e1, ?_, fun i o hi ha => keepO i o (by have := getO_lt hi; rw [get_push, if_neg (by omega)]; exact hi) ha, by rw [size_push] at hsz; omega, fun i ha hi => hap i ha (by rw [size_push]; omega)⟩
  unfold AccB
  rw [List.map_append, List.length_append]
  exact acc'
/-- A builder at block c, its buffer v, the bytes bs. -/
structure Bld (H : World) (c : Nat) (v : Value) (bs : List UInt8) : Prop where
  cell : getO H c = some (.cells #[.pointer none, v] 66 (0, 0)) ∨ getO H c = some (.cells #[p0 c, v] 66 (0, 0))
  acc : AccB 5 H v bs
  ap : Apart v c
structure FrB (H H' : World) (c : Nat) (v v' : Value) : Prop where
  keep : ∀ j o, getO H j = some o → j ≠ c → Apart v j → getO H' j = some o
  apart : ∀ j, j < H.heap.size → Apart v j → Apart v' j
  size : H.heap.size ≤ H'.heap.size
section
variable {H H' H2 : World} {c : Nat} {v v' v2 : Value} {bs : List UInt8}
theorem FrB.refl : FrB H H c v v := ⟨fun _ _ h _ _ => h, fun _ _ h => h, Nat.le_refl _⟩
theorem FrB.trans (h : FrB H H' c v v') (g : FrB H' H2 c v' v2) : FrB H H2 c v v2 :=
  ⟨fun j o h1 h2 h4 => g.keep j o (h.keep j o h1 h2 h4) h2 (h.apart j (getO_lt h1) h4), fun j h1 h2 => g.apart j (Nat.lt_of_lt_of_le h1 h.size) (h.apart j h1 h2), Nat.le_trans h.size g.size⟩
theorem FrB.push (o : Obj) : FrB H (pushObj H o) c v v := ⟨fun j o' h1 _ _ => by have := getO_lt h1; rw [get_push, if_neg (by omega)]; exact h1, fun _ _ h => h, by simp⟩
theorem FrB.setC (o : Obj) : FrB H (setO H c o) c v v := ⟨fun j o' h1 h2 _ => by rw [get_set, if_neg h2]; exact h1, fun _ _ h => h, by simp⟩
theorem Bld.lt (h : Bld H c v bs) : c < H.heap.size := by rcases h.cell with h | h <;> exact getO_lt h
theorem Bld.push (h : Bld H c v bs) (o : Obj) : Bld (pushObj H o) c v bs :=
  ⟨by have := h.lt; rw [get_push, if_neg (by omega)]; exact h.cell, Acc.push h.acc o, h.ap⟩
theorem Bld.setOther (h : Bld H c v bs) {i : Nat} (o : Obj) (h1 : i ≠ c) (h2 : Apart v i) : Bld (setO H i o) c v bs :=
  ⟨by rw [get_set, if_neg h1.symm]; exact h.cell, Acc.set h.acc o h2, h.ap⟩
theorem Bld.new (hc : getO H c = some (.cells #[.pointer none, .slice none 0 0] 66 (0, 0))) : Bld H c (.slice none 0 0) [] := ⟨.inl hc, ⟨rfl, .inl ⟨rfl, rfl⟩⟩, fun r n c e => by cases e⟩
theorem Bld.fresh (h : Bld H c v bs) {i : Nat} (hi : H.heap.size ≤ i) : i ≠ c ∧ Apart v i := ⟨by have := h.lt; omega, Acc.fresh h.acc hi⟩
theorem setCell0 {T : TypeId} {x y z : Value} (hc : getO H c = some (.cells #[x, y] T (0, 0))) : H.setCell ⟨c, 0, none⟩ z = setO H c (.cells #[z, y] T (0, 0)) := by
  have h : H.heap[c]? = some (.cells #[x, y] T (0, 0)) := hc
  simp only [World.setCell, setO]
  congr 1
  apply Array.ext_getElem?
  intro i
  rw [Array.getElem?_modify, Array.getElem?_setIfInBounds]
  by_cases hi : c = i
  · subst hi
    have hlt := (Array.getElem?_eq_some_iff.1 h).1
    rw [if_pos rfl, if_pos rfl, if_pos hlt, h]
    rfl
  · rw [if_neg hi, if_neg hi]
theorem Bld.write (h : Bld H c v bs) (hc : getO H c = some (.cells #[p0 c, v] 66 (0, 0))) {bs' : List UInt8} (acc : AccB 5 H' v' bs') (fr : FrV H H' v v') : getO H' c = some (.cells #[p0 c, v] 66 (0, 0)) ∧ Bld (setO H' c (.cells #[p0 c, v'] 66 (0, 0))) c v' bs' ∧ FrB H (setO H' c (.cells #[p0 c, v'] 66 (0, 0))) c v v' := by
  have hk := fr.keep _ _ hc h.ap
  have ha := fr.apart _ h.ap h.lt
  exact ⟨hk, ⟨.inr (by rw [get_set, if_pos rfl, if_pos (getO_lt hk)]), Acc.set acc _ ha, ha⟩,
    fun j o h1 h2 h3 => by rw [get_set, if_neg h2]; exact fr.keep _ _ h1 h3, fun j h1 h2 => fr.apart j h2 h1, by simpa using fr.size⟩
end
theorem check37 {H : World} {c : Nat} {v : Value} {bs : List UInt8} (hb : Bld H c v bs) {Q : Value → World → Prop}
    (hq : ∀ H', getO H' c = some (.cells #[p0 c, v] 66 (0, 0)) → Bld H' c v bs → FrB H H' c v v → Q (.tuple #[]) H') : FW X 37 #[p0 c] H Q := by
  rcases hb.cell with h | h
  · have hg : checkD 66 #[p0 c] H = some (.tuple #[], setO H c (.cells #[p0 c, v] 66 (0, 0))) := by
      have h' : H.heap[c]? = some (.cells #[.pointer none, v] 66 (0, 0)) := h
      simp [checkD, h', setCell0 h]
    refine FW.special (g := checkD 66) (by simp [X]) (by simp [X, sp17]) hg (hq _ ?_ ?_ (FrB.setC _))
    · rw [get_set, if_pos rfl, if_pos (getO_lt h)]
    · exact ⟨.inr (by rw [get_set, if_pos rfl, if_pos (getO_lt h)]), Acc.set hb.acc _ hb.ap, hb.ap⟩
  · have hg : checkD 66 #[p0 c] H = some (.tuple #[], H) := by
      have h' : H.heap[c]? = some (.cells #[p0 c, v] 66 (0, 0)) := h
      simp [checkD, h']
    exact FW.special (g := checkD 66) (by simp [X]) (by simp [X, sp17]) hg (hq _ h hb FrB.refl)
set_option maxRecDepth 100000 in
theorem writeString23 {H : World} {c : Nat} {v : Value} {bs : List UInt8} (hb : Bld H c v bs) (s : List UInt8) (hl : bs.length + s.length ≤ 2 ^ 40) {Q : Value → World → Prop}
    (hq : ∀ H' v', Bld H' c v' (bs ++ s) → FrB H H' c v v' → Q (.tuple #[.int .i64 s.length, .nilIface]) H') : FW X 23 #[p0 c, .string (sB s)] H Q := by
  refine FW.walk (by simp [X, sp17_no]) Tryd.func23 Tryd.ntmps23 rfl (by simp) ?_
  simp
  refine check37 hb fun H1 hc hb1 fr1 => ?_
  obtain ⟨v', H2, e1, acc2, fv⟩ := addStr hb1.acc s hl
  obtain ⟨hk, hb2, fr2⟩ := hb1.write hc acc2 fv
  have hlt := getO_lt hk
  have o1 : v'.cells = #[v'] := (Acc.one acc2).1
  have o2 : Value.oneCell' v' = true := (Acc.one acc2).2
  simp [hc, e1, hk, hlt, overL, o1, o2]
  exact hq _ _ hb2 (fr1.trans fr2)
set_option maxRecDepth 100000 in
theorem writeByte25 {H : World} {c : Nat} {v : Value} {bs : List UInt8} (hb : Bld H c v bs) (s : UInt8) (hl : bs.length + 1 ≤ 2 ^ 40) {Q : Value → World → Prop}
    (hq : ∀ H' v', Bld H' c v' (bs ++ [s]) → FrB H H' c v v' → Q .nilIface H') : FW X 25 #[p0 c, .int .u8 s.toNat] H Q := by
  refine FW.walk (by simp [X, sp17_no]) Tryd.func25 Tryd.ntmps25 rfl (by simp) ?_
  simp
  refine check37 hb fun H1 hc hb1 fr1 => ?_
  obtain ⟨v', H2, e1, acc2, fv⟩ := addByte hb1.acc s hl
  obtain ⟨hk, hb2, fr2⟩ := hb1.write hc acc2 fv
  have hlt := getO_lt hk
  have o1 : v'.cells = #[v'] := (Acc.one acc2).1
  have o2 : Value.oneCell' v' = true := (Acc.one acc2).2
  simp [hc, e1, hk, hlt, overL, o1, o2, buildSliceX, inOrder, catCells, szO]
  exact hq _ _ hb2 (fr1.trans fr2)
theorem okB_of (b : UInt8) : okB (.int .u8 b.toNat) = true := by
  have := b.toNat_lt
  simp [okB]
  omega
theorem string27 {H : World} {c : Nat} {v : Value} {bs : List UInt8} (hb : Bld H c v bs) (hl : bs.length ≤ 2 ^ 47) {Q : Value → World → Prop}
    (hq : ∀ H', (∀ j o, getO H j = some o → Apart v j → getO H' j = some o) → H.heap.size ≤ H'.heap.size → Q (.string (sB bs)) H') : FW X 27 #[p0 c] H Q := by
  have main : ∀ p, getO H c = some (.cells #[p, v] 66 (0, 0)) → FW X 27 #[p0 c] H Q := fun p hp => by
    have hp' : H.heap[c]? = some (.cells #[p, v] 66 (0, 0)) := hp
    obtain ⟨_, ⟨rfl, hn⟩ | ⟨r, rfl, hn, hr⟩⟩ := hb.acc
    · have : bs = [] := List.length_eq_zero_iff.1 hn
      subst this
      have hg : strD 66 5 #[p0 c] H = some (.string (sB []), H) := by simp [strD, hp']
      exact FW.special (g := strD 66 5) (by simp [X]) (by simp [X, sp17]) hg (hq _ (fun _ _ h _ => h) (Nat.le_refl _))
    · have hr' : H.heap[r]? = some (.cells (bs.map fun b => Value.int .u8 b.toNat).toArray 5 (1, 0)) := hr
      have hall : ((bs.map fun b => Value.int .u8 b.toNat).toArray.extract 0 (0 + bs.length)).toList.all okB = true := by
        simp [List.take_of_length_le, okB_of]
      have hbv : (((bs.map fun b => Value.int .u8 b.toNat).toArray.extract 0 (0 + bs.length)).toList.map byteV) = bs := by
        simp [List.take_of_length_le, Function.comp_def, byteV_of]
      have hg : strD 66 5 #[p0 c] H = some (.string (sB bs), killObj H r) := by
        have hb : byteV ∘ (fun b : UInt8 => Value.int .u8 b.toNat) = _root_.id := funext byteV_of
        simp [strD, hp', hr', given, hl, hn, List.take_of_length_le, hb, okB_of]
      refine FW.special (g := strD 66 5) (by simp [X]) (by simp [X, sp17]) hg (hq _ (fun j o h1 h2 => ?_) (by simp [killObj]))
      have h3 := h2 r _ _ rfl
      show (H.heap.setIfInBounds r deadObj)[j]? = some o
      rw [Array.getElem?_setIfInBounds, if_neg (fun e => h3 e.symm)]
      exact h1
  rcases hb.cell with h | h
  · exact main _ h
  · exact main _ h
theorem itoa24 {H : World} {n : Int} (hn : I64 n) {Q : Value → World → Prop} (hq : Q (.string (sB (Lib.itoa n))) H) : FW X 24 #[.int .i64 n] H Q := by
  have hg : itoaD #[.int .i64 n] H = some (.string (sB (Lib.itoa n)), H) := by
    show (if -9223372036854775808 ≤ n ∧ n ≤ 9223372036854775807 then some (Value.string ⟨(Lib.itoa n).toArray⟩, H) else none) = _
    rw [if_pos (show -9223372036854775808 ≤ n ∧ n ≤ 9223372036854775807 from hn)]
    rfl
  exact FW.special (g := itoaD) (by simp [X]) (by simp [X, sp17]) hg hq
theorem itoa_len {n : Int} (hn : I64 n) : (Lib.itoa n).length ≤ 21 := Lib.itoa_length_le n hn.1 hn.2
end Go.Proofs.YtmmmdmandocbhaaDoor
end

section
/- The text of a network: numbers, flags. -/
set_option linter.unusedVariables false
set_option linter.unusedSimpArgs false
namespace Go.Proofs.YtmmmdmandocbhaaDoor
open Go Go.Proofs.YtmmmdmandocbhaaDoor.Den
def wInts (l : List Int) : List UInt8 := l.flatMap fun x => Lib.itoa x ++ [32]
theorem wInts_len {l : List Int} (h : ∀ x ∈ l, I64 x) : (wInts l).length ≤ 22 * l.length := by
  induction l with
  | nil => simp [wInts]
  | cons x l ih =>
    have h1 := itoa_len (h x (by simp))
    have h2 := ih fun y hy => h y (by simp [hy])
    simp only [wInts, List.flatMap_cons, List.length_append, List.length_cons, List.length_nil] at h2 ⊢
    omega
/-- A row of numbers that can be read whatever the builder does. -/
def RdK (H : World) (c : Nat) (v sv : Value) (l : List Int) : Prop := ∀ H', (∀ j o, getO H j = some o → j ≠ c → Apart v j → getO H' j = some o) → Rd H' sv l
theorem RdK.row {H : World} {c r m : Nat} {v : Value} {l : List Int} {e : TypeId} {fr : Nat × Nat} (h : getO H r = some (.cells (l.map (Value.int .i64)).toArray e fr)) (h1 : r ≠ c) (h2 : Apart v r) : RdK H c v (.slice (some ⟨r, 0, none⟩) l.length m) l :=
  fun H' hk => Rd.row (hk _ _ h h1 h2)
theorem RdK.nil {H : World} {c : Nat} {v : Value} : RdK H c v (.slice none 0 0) [] :=
  fun H' hk => ⟨fun H0 => by simp, fun i h => by simp at h⟩
set_option maxRecDepth 100000 in
theorem write22 {H : World} {c : Nat} {v : Value} {bs : List UInt8} (hb : Bld H c v bs) {sv : Value} {l : List Int} (hr : RdK H c v sv l) (hi : ∀ x ∈ l, I64 x) (hll : l.length < 2 ^ 62) (hl : bs.length + 22 * l.length ≤ 2 ^ 40) {Q : Value → World → Prop}
    (hq : ∀ H' v', Bld H' c v' (bs ++ wInts l) → FrB H H' c v v' → Q (.tuple #[]) H') : FW X 22 #[sv, p0 c] H Q := by
  refine FW.walk (by simp [X, sp17_no]) Tryd.func22 Tryd.ntmps22 rfl (by simp) ?_
  have hlen := (hr H fun _ _ h _ _ => h).len
  simp [hlen]
  refine CE.range (m := l.length) (fun k e H' => lk e 1 = p0 c ∧ lk e 5 = sv ∧ ∃ v', Bld H' c v' (bs ++ wInts (l.take k)) ∧ FrB H H' c v v') ?_ (by omega) ?_ ?_ ?_
  · decide
  · simp [wInts]
    exact ⟨v, hb, FrB.refl⟩
  · rintro k e H' hk q1 q2 ⟨e1, e5, v1, hb1, fr1⟩
    obtain ⟨a, a1, a2⟩ := (hr H' fr1.keep).get k hk
    have hix := hi _ (List.getElem_mem hk)
    have hli := itoa_len hix
    have hw := wInts_len (l := l.take k) fun x hx => hi x (List.mem_of_mem_take hx)
    have hk2 : (l.take k).length = k := by rw [List.length_take]; omega
    simp [q1, q2, e1, e5, a1, a2]
    refine itoa24 hix ?_
    simp [e1]
    refine writeString23 hb1 (Lib.itoa l[k]) (by rw [List.length_append]; omega) fun H2 v2 hb2 fr2 => ?_
    simp [e1]
    refine writeByte25 hb2 32 (by rw [List.length_append, List.length_append]; omega) fun H3 v3 hb3 fr3 => ?_
    simp [q1, q2, e1, e5]
    refine ⟨v3, ?_, (fr1.trans fr2).trans fr3⟩
    have hx : wInts (l.take (k + 1)) = wInts (l.take k) ++ (Lib.itoa l[k] ++ [32]) := by
      unfold wInts
      rw [List.take_succ_eq_append_getElem hk, List.flatMap_append, List.flatMap_cons, List.flatMap_nil, List.append_nil]
    rw [hx]
    simpa [List.append_assoc] using hb3
  · rintro e H' q1 q2 ⟨e1, e5, v1, hb1, fr1⟩
    rw [List.take_length] at hb1
    simp
    exact hq _ _ hb1 fr1
def fB (b : Bool) : List UInt8 := if b then [116, 114, 117, 101] else [102, 97, 108, 115, 101]
theorem fB_len (b : Bool) : (fB b).length ≤ 5 := by cases b <;> decide
theorem str_fB (b : Bool) : (Value.string (sB (fB b))) = if b then .string "true".toUTF8 else .string "false".toUTF8 := by cases b <;> rfl
set_option maxRecDepth 100000 in
theorem fmt39 (b : Bool) {H : World} {Q : Value → World → Prop} (hq : Q (.string (sB (fB b))) H) : FW X 39 #[.bool b] H Q := by
  refine FW.walk (by simp [X, sp17_no]) Tryd.func39 Tryd.ntmps39 rfl (by simp) ?_
  cases b
  · simp; exact hq
  · simp; exact hq
set_option maxRecDepth 100000 in
theorem fmt26 (b : Bool) {H : World} {Q : Value → World → Prop} (hq : Q (.string (sB (fB b))) H) : FW X 26 #[.bool b] H Q := by
  refine FW.walk (by simp [X, sp17_no]) Tryd.func26 Tryd.ntmps26 rfl (by simp) ?_
  simp
  refine fmt39 b ?_
  simp
  exact hq
end Go.Proofs.YtmmmdmandocbhaaDoor
end

section
/- The text of a network: what it is, how long it is. -/
set_option linter.unusedVariables false
set_option linter.unusedSimpArgs false
namespace Go.Proofs.YtmmmdmandocbhaaDoor
open Go Go.Proofs.YtmmmdmandocbhaaDoor.Den
def linkT (n : NN) (i k : Int) : List UInt8 :=
  if (lnk n i k).delay = 1 ∧ (lnk n i k).jitter = 0 ∧ (lnk n i k).loss = 0 ∧ (lnk n i k).dbl = 0 then [] else wInts [-1, k, (lnk n i k).delay, (lnk n i k).jitter, (lnk n i k).loss, (lnk n i k).dbl]
def linksT (n : NN) (i : Int) (m : Nat) : List UInt8 := (List.range m).flatMap fun k => linkT n i (k : Nat)
def rowT (n : NN) (i : Int) : List UInt8 := wInts [sid n i] ++ (fB (dwn n i) ++ (linksT n i n.hosts.toNat ++ [10]))
def rowsT (n : NN) (m : Nat) : List UInt8 := (List.range m).flatMap fun i => rowT n (i : Nat)
def flT (f : Fl) : List UInt8 := wInts [f.id, f.frm, f.to, f.time, (f.body.length : Int)] ++ (fB f.twice ++ (f.body ++ [10]))
def flsT (l : List Fl) : List UInt8 := l.flatMap flT
def headT (n : NN) : List UInt8 := wInts [n.hosts, n.now, n.next, n.sent, n.arr, n.lost, n.dbl, n.used] ++ (wInts n.nums ++ [10])
/-- What Text writes. -/
def tText (n : NN) : List UInt8 := headT n ++ rowsT n n.hosts.toNat ++ flsT n.fl
/-- What Text asks of a network's numbers. -/
structure TB (n : NN) : Prop where
  h0 : 0 ≤ n.hosts
  h16 : n.hosts ≤ 16
  head : ∀ x ∈ [n.hosts, n.now, n.next, n.sent, n.arr, n.lost, n.dbl, n.used], I64 x
  nums : ∀ x ∈ n.nums, I64 x
  numsLen : n.nums.length ≤ 10010
  sides : ∀ a, I64 (sid n a)
  links : ∀ a c, I64 (lnk n a c).delay ∧ I64 (lnk n a c).jitter ∧ I64 (lnk n a c).loss ∧ I64 (lnk n a c).dbl
  fls : ∀ f ∈ n.fl, I64 f.id ∧ I64 f.frm ∧ I64 f.to ∧ I64 f.time ∧ f.body.length ≤ 65536
  flLen : n.fl.length ≤ 2 ^ 20
section
variable {n : NN} (t : TB n)
include t
theorem TB.link_i64 (i : Int) {k : Int} (hk : 0 ≤ k ∧ k < 16) : ∀ x ∈ [-1, k, (lnk n i k).delay, (lnk n i k).jitter, (lnk n i k).loss, (lnk n i k).dbl], I64 x := by
  obtain ⟨h1, h2, h3, h4⟩ := t.links i k
  intro x hx
  simp only [List.mem_cons, List.not_mem_nil, or_false] at hx
  rcases hx with rfl | rfl | rfl | rfl | rfl | rfl
  · unfold I64; omega
  · unfold I64; omega
  all_goals assumption
theorem TB.linkT_len (i : Int) {k : Int} (hk : 0 ≤ k ∧ k < 16) : (linkT n i k).length ≤ 132 := by
  unfold linkT
  split
  · simp
  · exact Nat.le_trans (wInts_len (t.link_i64 i hk)) (by simp)
theorem TB.linksT_len (i : Int) {m : Nat} (hm : m ≤ 16) : (linksT n i m).length ≤ 132 * m := by
  induction m with
  | zero => simp [linksT]
  | succ m ih =>
    have := ih (by omega)
    have h2 := t.linkT_len i (k := (m : Nat)) (by omega)
    unfold linksT at this ⊢
    rw [List.range_succ, List.flatMap_append, List.length_append]
    simp only [List.flatMap_cons, List.flatMap_nil, List.append_nil]
    omega
theorem TB.rowT_len (i : Int) : (rowT n i).length ≤ 2140 := by
  have h1 := wInts_len (l := [sid n i]) (by intro x hx; simp at hx; subst hx; exact t.sides i)
  have h2 := fB_len (dwn n i)
  have h3 := t.linksT_len i (m := n.hosts.toNat) (by have := t.h16; omega)
  have := t.h16
  unfold rowT
  simp only [List.length_append, List.length_cons, List.length_nil] at h1 ⊢
  omega
theorem TB.rowsT_len {m : Nat} : (rowsT n m).length ≤ 2140 * m := by
  induction m with
  | zero => simp [rowsT]
  | succ m ih =>
    have h2 := t.rowT_len (m : Nat)
    unfold rowsT at ih ⊢
    rw [List.range_succ, List.flatMap_append, List.length_append]
    simp only [List.flatMap_cons, List.flatMap_nil, List.append_nil]
    omega
theorem TB.fl_i64 {f : Fl} (hf : f ∈ n.fl) : ∀ x ∈ [f.id, f.frm, f.to, f.time, (f.body.length : Int)], I64 x := by
  obtain ⟨h1, h2, h3, h4, h5⟩ := t.fls f hf
  intro x hx
  simp only [List.mem_cons, List.not_mem_nil, or_false] at hx
  rcases hx with rfl | rfl | rfl | rfl | rfl
  all_goals first | assumption | (unfold I64; omega)
theorem TB.flT_len {f : Fl} (hf : f ∈ n.fl) : (flT f).length ≤ 65660 := by
  have h1 := wInts_len (t.fl_i64 hf)
  have h2 := fB_len f.twice
  have h3 := (t.fls f hf).2.2.2.2
  unfold flT
  simp only [List.length_append, List.length_cons, List.length_nil] at h1 ⊢
  omega
theorem TB.flsT_len : ∀ {l : List Fl}, (∀ f ∈ l, f ∈ n.fl) → (flsT l).length ≤ 65660 * l.length
  | [], _ => by simp [flsT]
  | f :: l, h => by
    have h1 := TB.flsT_len (l := l) fun g hg => h g (by simp [hg])
    have h2 := t.flT_len (h f (by simp))
    unfold flsT at h1 ⊢
    simp only [List.flatMap_cons, List.length_append, List.length_cons]
    omega
theorem TB.headT_len : (headT n).length ≤ 230000 := by
  have h1 := wInts_len t.head
  have h2 := wInts_len t.nums
  have h3 := t.numsLen
  unfold headT
  simp only [List.length_append, List.length_cons, List.length_nil] at h1 ⊢
  omega
end
/-- The text under way: what was there stays. -/
structure TxI (H0 H' : World) (c : Nat) (v : Value) (bs : List UInt8) : Prop where
  keep : Keep H0 H'
  bld : Bld H' c v bs
  ap : ∀ j, j < H0.heap.size → Apart v j
section
variable {H0 H1 H2 : World} {c : Nat} {v v2 : Value} {bs bs2 : List UInt8}
theorem TxI.step (h : TxI H0 H1 c v bs) (hb : Bld H2 c v2 bs2) (fr : FrB H1 H2 c v v2) (hc : H0.heap.size ≤ c) : TxI H0 H2 c v2 bs2 :=
  ⟨fun i o hi => fr.keep i o (h.keep i o hi) (by have := getO_lt hi; omega) (h.ap i (getO_lt hi)), hb,
    fun j hj => fr.apart j (by have := h.bld.lt; omega) (h.ap j hj)⟩
theorem TxI.push (h : TxI H0 H1 c v bs) (o : Obj) : TxI H0 (pushObj H1 o) c v bs := ⟨h.keep.push o, h.bld.push o, h.ap⟩
theorem TxI.rdRow (h : TxI H0 H1 c v bs) (hc : H0.heap.size ≤ c) {r m : Nat} {l : List Int} {e : TypeId} {fr : Nat × Nat} (hr : getO H0 r = some (.cells (l.map (Value.int .i64)).toArray e fr)) : RdK H1 c v (.slice (some ⟨r, 0, none⟩) l.length m) l :=
  RdK.row (h.keep _ _ hr) (by have := getO_lt hr; omega) (h.ap _ (getO_lt hr))
/-- A row that is made on the spot. -/
theorem Bld.rdNew (h : Bld H1 c v bs) (l : List Int) {e : TypeId} {fr : Nat × Nat} {m : Nat} : RdK (pushObj H1 (.cells (l.map (Value.int .i64)).toArray e fr)) c v (.slice (some ⟨H1.heap.size, 0, none⟩) l.length m) l := by
  have hf := h.fresh (i := H1.heap.size) (Nat.le_refl _)
  exact RdK.row (by rw [get_push, if_pos rfl]) hf.1 hf.2
end
end Go.Proofs.YtmmmdmandocbhaaDoor
end
