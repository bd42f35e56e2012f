/- Helpers of this claim: an evaluator over plain values and its laws. -/
import Derived.Test.YtmmmdmandocbhaaDoorIn
import Derived.Sort.Grow
import Derived.Deep.Draws
import Derived.Lib.LaidTab
import Derived.Lib.UnsafeStr
section
/- strconv.Itoa, told by the library's contract: the world grows behind the heap, tables lie as they are told. -/
set_option linter.unusedVariables false
set_option linter.unusedSimpArgs false
namespace Go.Proofs.YtmmmdmandocbhaaDoor.Den
variable {P : Program} {ι : Emb}
/-- New blocks behind the heap, and draws. -/
theorem Step.grown {H w : World} (h : Rel P ι H w) (k : Nat) (os : Array Obj) : Step P ι H w ι H (Go.Sort.grow (w.drewN k) os) := by
  have hold : ∀ b, b < w.heap.size → (w.heap ++ os)[b]? = w.heap[b]? := fun b hb => Array.getElem?_append_left hb
  have hlt : ∀ (b : Nat) (x : Obj), w.heap[b]? = some x → (w.heap ++ os)[b]? = some x := fun b x hb => by
    rw [hold b (Array.getElem?_eq_some_iff.1 hb).1]; exact hb
  refine ⟨Emb.le_refl _, ⟨fun b zs hz => ?_, fun j x hx hlx => ?_, h.inj, fun i r hi => ?_, h.only, h.tab⟩, ?_, rfl, rfl, rfl, fun b hb _ => hold b hb, fun i x r hi hg hr => ⟨hi, hold _ (h.dom i r hr).2⟩, fun _ _ h => .inl h, fun i x r hi hl hr => .inr ⟨i, x, r, hi, hl, hr, rfl⟩, Nat.le_refl _, fun _ _ => rfl⟩
  · obtain ⟨⟨e1, f1, h1⟩, h2⟩ := h.fz b zs hz
    exact ⟨⟨e1, f1, hlt _ _ h1⟩, h2⟩
  · obtain ⟨r, o', h1, h2, h3⟩ := h.obj j x hx hlx
    exact ⟨r, o', h1, hlt _ _ h2, h3⟩
  · have := h.dom i r hi
    show i < H.heap.size ∧ r.b < (w.heap ++ os).size
    simp only [Array.size_append]
    omega
  · show w.heap.size ≤ (w.heap ++ os).size
    simp only [Array.size_append]
    omega
theorem Rel.pow10 {H w : World} (h : Rel P ι H w) {g : Nat} (hg : P.globalNamed "internal/strconv.uint64pow10" = some g) : Lib.TabIs P w "internal/strconv.uint64pow10" .u64 Lib.pow10Tab := by
  obtain ⟨e, fr, hb⟩ := (h.fz g _ (h.tab "internal/strconv.uint64pow10" _ g (by simp [tabOf]; rfl) hg)).1
  unfold Lib.TabIs World.var?
  rw [hg]
  simp only [Option.bind_some, hb]
/-- Itoa, over plain values. -/
def itoaD (args : Array Value) (H : World) : Option (Value × World) :=
  match args.toList with
  | [.int .i64 n] => if -9223372036854775808 ≤ n ∧ n ≤ 9223372036854775807 then some (.string ⟨(Lib.itoa n).toArray⟩, H) else none
  | _ => none
/-- What the library's contract says of Itoa at function f. -/
def ItoaSays (P : Program) (f : FuncId) : Prop := ∀ (n : Int) (w : World), -9223372036854775808 ≤ n → n ≤ 9223372036854775807 → Lib.TabIs P w "internal/strconv.uint64pow10" .u64 Lib.pow10Tab →
  Calls P f #[.int .i64 n] w fun e w' => e = .returned (.string ⟨(Lib.itoa n).toArray⟩) ∧ ∃ k os, w' = Go.Sort.grow (w.drewN k) os
theorem itoa_sound {f : FuncId} {g : Nat} (hg : P.globalNamed "internal/strconv.uint64pow10" = some g) (hI : ItoaSays P f) :
    ∀ args H v H1, itoaD args H = some (v, H1) → FnS P f args H v H1 := by
  intro args H v H1 h
  refine fnS_of_calls fun ι w args' R hrel hargs hT => ?_
  unfold itoaD at h
  split at h
  case h_2 => cases h
  rename_i n hlist
  split at h
  case isFalse => cases h
  rename_i hc
  injection h with h
  injection h with hv hH
  subst hv hH
  have hargs0 : args = #[.int .i64 n] := Array.toList_inj.1 hlist
  subst hargs0
  have ha : args' = #[.int .i64 n] := by
    obtain ⟨hs, hv⟩ := hargs
    have h1 : args'.size = 1 := hs.symm
    have h0 : args'[0]? = some args'[0] := Array.getElem?_eq_getElem (by omega)
    have := hv 0 _ _ rfl h0
    generalize args'[0] = x at *
    cases this
    apply Array.ext_getElem?
    intro i
    match i with
    | 0 => exact h0
    | i + 1 => rw [Array.getElem?_eq_none (by omega), Array.getElem?_eq_none (by simp)]
  subst ha
  refine (hI n w hc.1 hc.2 (hrel.pow10 hg)).mono ?_
  rintro e w' ⟨rfl, k, os, rfl⟩
  exact hT ι _ _ (Step.grown hrel k os) (.string _)
end Go.Proofs.YtmmmdmandocbhaaDoor.Den
end

section
/- strings.Builder's copyCheck as a rule of its own. -/
set_option linter.unusedVariables false
set_option linter.unusedSimpArgs false
namespace Go.Proofs.YtmmmdmandocbhaaDoor.Den
variable {P : Program} {ι : Emb}
/-- What the library's contract says of copyCheck at function f, Builder being type T. -/
structure CheckSays (P : Program) (f : FuncId) (T : TypeId) : Prop where
  fresh : ∀ (b : Nat) (w : World), w.cell? ⟨b, 0, none⟩ = some (.pointer none) → w.shape? b = some (T, 2) → w.frozen? ⟨b, 0, none⟩ = false →
    Calls P f #[.pointer (some ⟨b, 0, none⟩)] w fun e w' => e = .returned (.tuple #[]) ∧ w' = w.setCell ⟨b, 0, none⟩ (.pointer (some ⟨b, 0, none⟩))
  used : ∀ (b : Nat) (w : World), w.cell? ⟨b, 0, none⟩ = some (.pointer (some ⟨b, 0, none⟩)) → Calls P f #[.pointer (some ⟨b, 0, none⟩)] w fun e w' => e = .returned (.tuple #[]) ∧ w' = w
def checkD (T : TypeId) (args : Array Value) (H : World) : Option (Value × World) :=
  match args.toList with
  | [.pointer (some ⟨i, 0, none⟩)] => match H.heap[i]? with
    | some (.cells cs e fr) => if e = T ∧ cs.size = 2 ∧ fr = (0, 0) then (match (cs[0]? : Option Value) with
        | some (.pointer none) => some (.tuple #[], H.setCell ⟨i, 0, none⟩ (.pointer (some ⟨i, 0, none⟩)))
        | some (.pointer (some ⟨j, 0, none⟩)) => if j = i then some (.tuple #[], H) else none
        | _ => none)
      else none
    | _ => none
  | _ => none
theorem check_sound {f : FuncId} {T : TypeId} (hC : CheckSays P f T) : ∀ args H v H1, checkD T args H = some (v, H1) → FnS P f args H v H1 := by
  intro args H v H1 h
  refine fnS_of_calls fun ι w args' R hrel hargs hT => ?_
  unfold checkD at h
  split at h
  case h_2 => cases h
  rename_i i hlist
  split at h
  case h_2 => cases h
  rename_i cs e fr hb
  split at h
  case isFalse => cases h
  rename_i hc
  obtain ⟨rfl, hsz, rfl⟩ := hc
  have hargs0 : args = #[.pointer (some ⟨i, 0, none⟩)] := Array.toList_inj.1 hlist
  subst hargs0
  obtain ⟨r, hr, ha⟩ : ∃ r, ι i = some r ∧ args' = #[.pointer (some ⟨r.b, r.base + 0, none⟩)] := by
    obtain ⟨hs, hv⟩ := hargs
    have h1 : args'.size = 1 := hs.symm
    have h0 : args'[0]? = some args'[0] := Array.getElem?_eq_getElem (by omega)
    have hx := hv 0 _ _ rfl h0
    generalize args'[0] = x at *
    cases hx
    rename_i r hr
    refine ⟨r, hr, ?_⟩
    apply Array.ext_getElem?
    intro j
    match j with
    | 0 => exact h0
    | j + 1 => rw [Array.getElem?_eq_none (by omega), Array.getElem?_eq_none (by simp)]
  subst ha
  obtain ⟨cs', fr', hw, hrow, hcs⟩ := hrel.row hr hb
  obtain ⟨hlen, hrow⟩ := hrow
  have hrow2 : fr' = (0, 0) ∧ r.base = 0 ∧ cs'.size = cs.size := by
    rcases hrow with ⟨_, h2, _⟩ | ⟨_, h2, _, h3, h4⟩ | ⟨h2, _⟩
    · exact absurd rfl h2
    · exact ⟨h2, h3, h4⟩
    · cases h2
  obtain ⟨rfl, hbase, hsz'⟩ := hrow2
  rw [hbase] at hcs ⊢
  have hcell : ∀ k, w.cell? ⟨r.b, k, none⟩ = cs'[k]? := fun k => by simp [World.cell?, hw]
  have hcellH : ∀ k, H.cell? ⟨i, k, none⟩ = cs[k]? := fun k => by simp [World.cell?, hb]
  have hfzH : H.frozen? ⟨i, 0, none⟩ = false := by simp [World.frozen?, hb]
  have hfzw : w.frozen? ⟨r.b, 0, none⟩ = false := by simp [World.frozen?, hw]
  split at h
  · rename_i h0
    injection h with h
    injection h with hv hH
    subst hv hH
    obtain ⟨v', h0', hv'⟩ := hcs 0 _ h0
    cases hv'
    have h00 : cs'[0]? = some (.pointer none) := h0'
    refine (hC.fresh r.b w ((hcell 0).trans h00) (by simp [World.shape?, hw]; omega) hfzw).mono ?_
    rintro e w' ⟨rfl, rfl⟩
    have st := hrel.setCell hr ((hcellH 0).trans h0) hfzH (VRel.ptr i 0 r hr)
    rw [hbase] at st
    exact hT ι _ _ st (.tuple _ _ rfl fun k v v' hk => by simp at hk)
  · rename_i j h0
    split at h
    case isFalse => cases h
    rename_i hj
    subst hj
    injection h with h
    injection h with hv hH
    subst hv hH
    obtain ⟨v', h0', hv'⟩ := hcs 0 _ h0
    cases hv'
    rename_i r2 hr2
    rw [hr] at hr2
    injection hr2 with hr2
    subst hr2
    rw [hbase] at h0'
    have h00 : cs'[0]? = some (.pointer (some ⟨r.b, 0, none⟩)) := h0'
    refine (hC.used r.b w ((hcell 0).trans h00)).mono ?_
    rintro e w' ⟨rfl, rfl⟩
    exact hT ι _ _ (Step.refl hrel) (.tuple _ _ rfl fun k v v' hk => by simp at hk)
  · cases h
end Go.Proofs.YtmmmdmandocbhaaDoor.Den
end

section
/- unsafe.String over a row, from wherever. -/
set_option linter.unusedVariables false
set_option linter.unusedSimpArgs false
namespace Go.Proofs.YtmmmdmandocbhaaDoor.Den
variable {P : Program} {ι : Emb}
theorem liesAt_bytes_off {e : TypeId} (hc : P.cellsOf e = 1) (count off n : Nat) (hn : off + n ≤ count) : liesAt P P.depth e count off e n = true := by
  have hd : P.depth = (2 * (P.types.size + Made.depth) + 1) + 1 := rfl
  rw [hd]
  simp only [liesAt, Bool.or_eq_true]
  left
  rw [hd]
  simp [Go.rowAt, hc, hn, Go.sameLayout, Nat.mod_one]
theorem run_unsafeString_off (w : World) (pt it ty e : TypeId) (hp : P.underlying pt = some (.pointer e)) (hc : P.cellsOf e = 1) (g off cells : Nat) (hsh : w.shape? g = some (e, cells)) (l : List UInt8) (h0 : l ≠ []) (hn : off + l.length ≤ cells) (h63 : l.length ≤ 9223372036854775807)
    (hcell : ∀ j x, l[j]? = some x → w.cell? ((⟨g, off, none⟩ : Addr).add j) = some (.int .u8 x.toNat)) :
    (Builtin.unsafeString_ #[pt, it] ty #[.pointer (some ⟨g, off, none⟩), .int .i64 l.length]).run P w = .ok (.string ⟨l.toArray⟩) (w.freeze ⟨g, off, none⟩ l.length) := by
  have hl : l.length ≠ 0 := by simpa using h0
  have hlb := Lib.run_loadBytes (P := P) w l ⟨g, off, none⟩ .empty hcell
  have hlies := liesAt_bytes_off (P := P) hc (cells / P.cellsOf e) off l.length (by rw [hc]; simpa using hn)
  have h63' : ¬ (9223372036854775807 : Int) < (l.length : Int) := by omega
  have hdef : Builtin.unsafeString_ #[pt, it] ty #[.pointer (some ⟨g, off, none⟩), .int .i64 l.length] =
      (do
        let n ← asInt (.int .i64 l.length)
        if n < 0 then runtimePanic (.error "unsafe.String: len out of range")
        if n > IntKind.i64.max then unsupported (.unsafePointer "String: a length above the largest int")
        if n = 0 then pure (.string .empty)
        else if ← variablesAt ⟨g, off, none⟩ (← Go.elemOf pt) n.toNat then do
          let s ← loadBytes ⟨g, off, none⟩ .empty n.toNat
          freeze ⟨g, off, none⟩ n.toNat
          pure (.string s)
        else unsupported (.unsafePointer "String: not so many bytes at ptr")) := rfl
  rw [hdef]
  have hmax : IntKind.i64.max = 9223372036854775807 := rfl
  have hneg : ¬ (l.length : Int) < 0 := by omega
  simp [asInt, asIntOf, hmax, h63', hneg, hl, variablesAt, hsh, Go.elemOf, run_underlying hp, hlies, hlb]
end Go.Proofs.YtmmmdmandocbhaaDoor.Den
end

section
/- strings.Builder's String as a rule of its own: the buffer's row is given up, for the machine freezes it. -/
set_option linter.unusedVariables false
set_option linter.unusedSimpArgs false
namespace Go.Proofs.YtmmmdmandocbhaaDoor.Den
variable {P : Program} {ι : Emb}
theorem freeze_heap (w : World) (b o n j : Nat) (hj : j ≠ b) : (w.freeze ⟨b, o, none⟩ n).heap[j]? = w.heap[j]? := by
  unfold World.freeze
  split
  · rfl
  · simp [Array.getElem?_modify, Ne.symm hj]
theorem freeze_at (w : World) (b o n : Nat) {cs : Array Value} {e : TypeId} {fr : Nat × Nat} (hb : w.heap[b]? = some (.cells cs e fr)) : ∃ fr', (w.freeze ⟨b, o, none⟩ n).heap[b]? = some (.cells cs e fr') := by
  unfold World.freeze
  split
  · exact ⟨fr, hb⟩
  · simp [Array.getElem?_modify, hb]
theorem freeze_size (w : World) (b o n : Nat) : (w.freeze ⟨b, o, none⟩ n).heap.size = w.heap.size := by
  unfold World.freeze
  split
  · rfl
  · simp
theorem freeze_rest (w : World) (b o n : Nat) : (w.freeze ⟨b, o, none⟩ n).os = w.os ∧ (w.freeze ⟨b, o, none⟩ n).tape = w.tape ∧ (w.freeze ⟨b, o, none⟩ n).output = w.output := by
  unfold World.freeze
  split
  · exact ⟨rfl, rfl, rfl⟩
  · exact ⟨rfl, rfl, rfl⟩
theorem Step.freezeKill {H w : World} (h : Rel P ι H w) {j : Nat} {r : Loc} {x : Obj} (hr : ι j = some r) (hj : H.heap[j]? = some x) (hx : live x = true) (hg : given x = false) (k o n : Nat) :
    Step P ι H w ι (killObj H j) ((w.drewN k).freeze ⟨r.b, o, none⟩ n) := by
  have hk := h.kill j fun y hy => by rw [hj] at hy; injection hy with hy; subst hy; exact hg
  have hheap : ∀ b, b ≠ r.b → ((w.drewN k).freeze ⟨r.b, o, none⟩ n).heap[b]? = w.heap[b]? := fun b hb => freeze_heap (w.drewN k) r.b o n b hb
  have hat : ∀ {cs : Array Value} {e : TypeId} {fr : Nat × Nat}, w.heap[r.b]? = some (.cells cs e fr) → ∃ fr', ((w.drewN k).freeze ⟨r.b, o, none⟩ n).heap[r.b]? = some (.cells cs e fr') := fun hb => freeze_at (w.drewN k) r.b o n hb
  have hsz : ((w.drewN k).freeze ⟨r.b, o, none⟩ n).heap.size = w.heap.size := freeze_size (w.drewN k) r.b o n
  obtain ⟨e1, e2, e3⟩ := freeze_rest (w.drewN k) r.b o n
  have hother : ∀ (i : Nat) (y : Obj) (s : Loc), H.heap[i]? = some y → live y = true → ι i = some s → i ≠ j → s.b ≠ r.b := fun i y s hi hl hs hij e =>
    hij (h.inj j i x y r s hj hx hi hl hr hs e.symm hg).symm
  have hkill : ∀ (i : Nat) (y : Obj), (killObj H j).heap[i]? = some y → live y = true → i ≠ j ∧ H.heap[i]? = some y := fun i y hi hl => by
    unfold killObj at hi
    simp only [Array.getElem?_setIfInBounds] at hi
    split at hi
    · split at hi
      · injection hi with hi; subst hi; cases hl
      · cases hi
    · rename_i hne
      exact ⟨fun e => hne e.symm, hi⟩
  refine { hk with
    rel := ⟨fun b cs hb => ?_, fun i y hi hl => ?_, hk.rel.inj, fun i s hs => ?_, hk.rel.only, hk.rel.tab⟩
    size := by rw [hsz]; exact Nat.le_refl _
    os := e1, tape := e2, output := e3
    keep := fun b hb hn => hheap b fun e => hn j x r hj hx hr e.symm
    pin := fun i y s hi hgv hs => ?_ }
  · obtain ⟨⟨e, fr, h1⟩, h2⟩ := hk.rel.fz b cs hb
    refine ⟨?_, h2⟩
    by_cases hbr : b = r.b
    · subst hbr
      obtain ⟨fr', h3⟩ := hat h1
      exact ⟨e, fr', h3⟩
    · exact ⟨e, fr, (hheap b hbr).trans h1⟩
  · obtain ⟨hij, hi'⟩ := hkill i y hi hl
    obtain ⟨s, y', h1, h2, h3⟩ := hk.rel.obj i y hi hl
    exact ⟨s, y', h1, (hheap s.b (hother i y s hi' hl h1 hij)).trans h2, h3⟩
  · rw [hsz]
    exact hk.rel.dom i s hs
  · obtain ⟨h1, h2⟩ := hk.pin i y s hi hgv hs
    refine ⟨h1, ?_⟩
    by_cases hij : i = j
    · subst hij
      rw [hj] at hi
      injection hi with hi
      subst hi
      rw [hg] at hgv
      cases hgv
    · exact hheap s.b (hother i y s hi (given_live hgv) hs hij)
end Go.Proofs.YtmmmdmandocbhaaDoor.Den
end

section
/- (*strings.Builder).String. -/
set_option linter.unusedVariables false
set_option linter.unusedSimpArgs false
namespace Go.Proofs.YtmmmdmandocbhaaDoor.Den
variable {P : Program} {ι : Emb}
def okB : Value → Bool
  | .int .u8 x => decide (0 ≤ x) && decide (x < 256)
  | _ => false
theorem okB_eq {v : Value} (h : okB v = true) : v = .int .u8 (byteV v).toNat := by
  unfold okB at h
  split at h
  · rename_i x
    simp only [Bool.and_eq_true, decide_eq_true_eq] at h
    simp only [byteV]
    congr 1
    have : x.toNat < 256 := by omega
    simp [UInt8.toNat_ofNat', Nat.mod_eq_of_lt this]
    omega
  · cases h
/-- What String does at function f. -/
structure StrSays (P : Program) (f : FuncId) (T e8 : TypeId) : Prop where
  nil : ∀ (b : Nat) (p : Value) (w : World), w.heap[b]? = some (.cells #[p, .slice none 0 0] T (0, 0)) → Calls P f #[.pointer (some ⟨b, 0, none⟩)] w fun e w' => e = .returned (.string ⟨#[]⟩) ∧ ∃ k, w' = w.drewN k
  row : ∀ (b : Nat) (p : Value) (g off cap : Nat) (cur : Array Value) (fr : Nat × Nat) (l : List UInt8) (w : World), w.heap[b]? = some (.cells #[p, .slice (some ⟨g, off, none⟩) l.length cap] T (0, 0)) → l ≠ [] → l.length ≤ cap → l.length ≤ 2 ^ 47 →
    w.heap[g]? = some (.cells cur e8 fr) → off + l.length ≤ cur.size → (∀ (j : Nat) (x : UInt8), l[j]? = some x → cur[off + j]? = some (.int .u8 x.toNat)) →
    Calls P f #[.pointer (some ⟨b, 0, none⟩)] w fun e w' => e = .returned (.string ⟨l.toArray⟩) ∧ ∃ k, w' = (w.drewN k).freeze ⟨g, off, none⟩ l.length
def strD (T e8 : TypeId) (args : Array Value) (H : World) : Option (Value × World) :=
  match args.toList with
  | [.pointer (some ⟨i, 0, none⟩)] => match H.heap[i]? with
    | some (.cells cs e fr) => if e = T ∧ cs.size = 2 ∧ fr = (0, 0) then (match (cs[1]? : Option Value) with
        | some (.slice none 0 0) => some (.string (sB []), H)
        | some (.slice (some ⟨j, o, none⟩) n c) => (match H.heap[j]? with
          | some (.cells bs e2 fr2) => if e2 = e8 ∧ given (.cells bs e2 fr2) = false ∧ 0 < n ∧ n ≤ 2 ^ 47 ∧ o + n ≤ bs.size ∧ (bs.extract o (o + n)).toList.all okB = true then
              some (.string (sB ((bs.extract o (o + n)).toList.map byteV)), killObj H j) else none
          | _ => none)
        | _ => none)
      else none
    | _ => none
  | _ => none
theorem arg_ptr {ι : Emb} {i : Nat} {args' : Array Value} (hargs : ARel ι #[.pointer (some ⟨i, 0, none⟩)] args') : ∃ r, ι i = some r ∧ args' = #[.pointer (some ⟨r.b, r.base + 0, none⟩)] := by
  obtain ⟨hs, hv⟩ := hargs
  have h1 : args'.size = 1 := hs.symm
  have h0 : args'[0]? = some args'[0] := Array.getElem?_eq_getElem (by omega)
  have hx := hv 0 _ _ rfl h0
  generalize args'[0] = x at *
  cases hx
  rename_i r hr
  refine ⟨r, hr, ?_⟩
  apply Array.ext_getElem?
  intro j
  match j with
  | 0 => exact h0
  | j + 1 => rw [Array.getElem?_eq_none (by omega), Array.getElem?_eq_none (by simp)]
theorem str_sound {f : FuncId} {T e8 : TypeId} (hS : StrSays P f T e8) : ∀ args H v H1, strD T e8 args H = some (v, H1) → FnS P f args H v H1 := by
  intro args H v H1 h
  refine fnS_of_calls fun ι w args' R hrel hargs hT => ?_
  unfold strD at h
  split at h
  case h_2 => cases h
  rename_i i hlist
  split at h
  case h_2 => cases h
  rename_i cs e fr hb
  split at h
  case isFalse => cases h
  rename_i hc
  obtain ⟨rfl, hsz, rfl⟩ := hc
  have hargs0 : args = #[.pointer (some ⟨i, 0, none⟩)] := Array.toList_inj.1 hlist
  subst hargs0
  obtain ⟨r, hr, ha⟩ := arg_ptr hargs
  subst ha
  obtain ⟨cs', fr', hw, hrow, hcs⟩ := hrel.row hr hb
  obtain ⟨hlen, hrow⟩ := hrow
  have hrow2 : fr' = (0, 0) ∧ r.base = 0 ∧ cs'.size = cs.size := by
    rcases hrow with ⟨_, h2, _⟩ | ⟨_, h2, _, h3, h4⟩ | ⟨h2, _⟩
    · exact absurd rfl h2
    · exact ⟨h2, h3, h4⟩
    · cases h2
  obtain ⟨rfl, hbase, hsz'⟩ := hrow2
  rw [hbase] at hcs ⊢
  have htwo : ∃ p q, cs' = #[p, q] := by
    have h2 : cs'.size = 2 := by omega
    refine ⟨cs'[0], cs'[1], ?_⟩
    apply Array.ext_getElem?
    intro k
    match k with
    | 0 => simp
    | 1 => simp
    | k + 2 => rw [Array.getElem?_eq_none (by omega), Array.getElem?_eq_none (by simp)]
  obtain ⟨p, q, rfl⟩ := htwo
  split at h
  · rename_i h1
    injection h with h
    injection h with hv hH
    subst hv hH
    obtain ⟨v', h1', hv'⟩ := hcs 1 _ h1
    have h1'' : q = v' := by simpa using h1'
    subst h1''
    cases hv'
    refine (hS.nil r.b p w hw).mono ?_
    rintro e w' ⟨rfl, k, rfl⟩
    exact hT ι _ (w.drewN k) (Step.drawn hrel (w.drawn + k)) (.string _)
  · rename_i j o n c h1
    split at h
    case h_2 => cases h
    rename_i bs e2 fr2 hj
    split at h
    case isFalse => cases h
    rename_i hc2
    obtain ⟨rfl, hg, hn0, hn47, hon, hall⟩ := hc2
    injection h with h
    injection h with hv hH
    subst hv hH
    obtain ⟨v', h1', hv'⟩ := hcs 1 _ h1
    have h1'' : q = v' := by simpa using h1'
    subst h1''
    cases hv' with
    | sl _ _ _ _ a' c' rj hrj hs =>
    obtain ⟨hs1, hs2, hs3, _⟩ := hs
    have ha' : a' = ⟨rj.b, rj.base + o, none⟩ := by
      rcases hs3 with h | h
      · exact h
      · omega
    subst ha'
    obtain ⟨cur, fr3, hwj, hrowj, hcj⟩ := hrel.row hrj hj
    have hl : ((bs.extract o (o + n)).toList.map byteV).length = n := by simp; omega
    have hget : ∀ (k : Nat), k < n → ∃ u, bs[o + k]? = some u ∧ okB u = true := fun k hk => by
      have hlt : o + k < bs.size := by omega
      refine ⟨bs[o + k], Array.getElem?_eq_getElem hlt, ?_⟩
      refine List.all_eq_true.1 hall _ ?_
      rw [Array.mem_toList_iff, Array.mem_iff_getElem]
      exact ⟨k, by simp; omega, by simp⟩
    have hcur : ∀ (k : Nat), k < n → ∃ u, bs[o + k]? = some u ∧ okB u = true ∧ cur[rj.base + o + k]? = some (.int .u8 (byteV u).toNat) := fun k hk => by
      obtain ⟨u, hu, ho⟩ := hget k hk
      obtain ⟨u', hu', hv'⟩ := hcj _ _ hu
      rw [okB_eq ho] at hv'
      cases hv'
      exact ⟨u, hu, ho, by rw [Nat.add_assoc]; exact hu'⟩
    have hsize : rj.base + o + n ≤ cur.size := by
      obtain ⟨u, _, _, h3⟩ := hcur (n - 1) (by omega)
      have := (Array.getElem?_eq_some_iff.1 h3).1
      omega
    generalize hL : (bs.extract o (o + n)).toList.map byteV = L at *
    subst hl
    refine (hS.row r.b p rj.b (rj.base + o) c' cur fr3 L w hw (fun e => by subst e; simp at hn0) (by omega) hn47 hwj hsize fun k x hx => ?_).mono ?_
    · have hk : k < L.length := (List.getElem?_eq_some_iff.1 hx).1
      obtain ⟨u, h1, h2, h3⟩ := hcur k hk
      rw [h3]
      have hx2 : L[k]? = some (byteV u) := by
        rw [← hL]
        have : (bs.extract o (o + L.length)).toList[k]? = some u := by
          rw [Array.getElem?_toList, Array.getElem?_extract]
          rw [if_pos (by omega)]
          exact h1
        simp only [List.getElem?_map]
        rw [this]
        rfl
      rw [hx2] at hx
      injection hx with hx
      rw [hx]
    · rintro e w' ⟨rfl, k, rfl⟩
      exact hT ι _ _ (Step.freezeKill hrel hrj hj rfl hg k (rj.base + o) L.length) (.string _)
  · cases h
end Go.Proofs.YtmmmdmandocbhaaDoor.Den
end
