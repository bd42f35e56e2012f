/- Helpers of this claim: an evaluator over plain values and its laws. -/
import Derived.Test.YtmmmdmandocbhaaDoorS
section
/- slices.Insert as a rule of its own: rows that are written on by copies. -/
set_option linter.unusedVariables false
set_option linter.unusedSimpArgs false
namespace Go.Proofs.YtmmmdmandocbhaaDoor.Den
variable {P : Program} {ι : Emb}
/-- Cells stored into a row of which nothing is frozen. -/
theorem run_overM {b : Nat} {e : TypeId} {fr : Nat × Nat} : ∀ (l : List Value) (k off : Nat) (cs : Array Value) (H : World), H.heap[b]? = some (.cells cs e fr) → (∀ j, j < cs.size → ¬ (fr.1 ≤ j ∧ j < fr.2)) → off + k + l.length ≤ cs.size → (∀ v ∈ l, v.oneCell' = true) →
    (Go.storeCells ⟨b, off, none⟩ l k).run P H = .ok () (setO H b (.cells (overL cs (off + k) l) e fr))
  | [], k, off, cs, H, hb, hfr, hl, ho => by
    unfold Go.storeCells
    simp only [Sem.run_pure, overL]
    congr 1
    exact (set_same (show getO H b = _ from hb)).symm
  | v :: l, k, off, cs, H, hb, hfr, hl, ho => by
    unfold Go.storeCells
    simp only [List.length_cons] at hl
    have hlt : off + k < cs.size := by omega
    have hf : H.frozen? ⟨b, off + k, none⟩ = false := by
      unfold World.frozen?
      simp only [hb]
      rw [Bool.eq_false_iff]
      simpa using hfr (off + k) hlt
    rw [add_plain]
    simp only [Sem.run_bind]
    rw [run_store_some (ho v List.mem_cons_self) ((cell_of hb).trans (Array.getElem?_eq_getElem hlt)) hf]
    simp only [Result.andThen_ok]
    rw [setCell_eq hb]
    have hb2 : (setO H b (.cells (cs.setIfInBounds (off + k) v) e fr)).heap[b]? = some (.cells (cs.setIfInBounds (off + k) v) e fr) := by
      have hlt := (Array.getElem?_eq_some_iff.1 hb).1
      simp [setO, hlt]
    rw [run_overM l (k + 1) off _ _ hb2 (fun j hj => hfr j (by simpa using hj)) (by simp; omega) fun x hx => ho x (List.mem_cons_of_mem _ hx), set_set]
    rfl
/-- copy, from row to row. -/
theorem run_copyRow {t1 t2 ty elem : TypeId} {inf : TypeInfo} (hu : P.underlying t1 = some (.slice elem)) (hi : P.info? elem = some inf) {w : World} {b o nd dc sb so ns sc k : Nat} {cs ss : Array Value} {e e2 : TypeId} {fr fr2 : Nat × Nat}
    (hb : w.heap[b]? = some (.cells cs e fr)) (hs : w.heap[sb]? = some (.cells ss e2 fr2)) (hfr : ∀ j, j < cs.size → ¬ (fr.1 ≤ j ∧ j < fr.2)) (hk : Nat.min ns nd = k) (hd : o + k * inf.size ≤ cs.size) (hss : so + k * inf.size ≤ ss.size) (ho : ∀ v ∈ (ss.extract so (so + k * inf.size)).toList, v.oneCell' = true) :
    (Builtin.copy_ #[t1, t2] ty #[.slice (some ⟨b, o, none⟩) nd dc, .slice (some ⟨sb, so, none⟩) ns sc]).run P w = .ok (goInt k) (setO w b (.cells (overL cs o (ss.extract so (so + k * inf.size)).toList) e fr)) := by
  have hload := run_loadCells_row (P := P) (off := so) (n := k * inf.size) hs (by omega)
  have hst := run_overM (P := P) (ss.extract so (so + k * inf.size)).toList 0 o cs w hb hfr (by simp; omega) ho
  rw [Nat.add_zero] at hst
  unfold Builtin.copy_
  have hfc : (Builtin.firstCells inf.size k (.slice (some ⟨sb, so, none⟩) ns sc)).run P w = .ok (ss.extract so (so + k * inf.size)) w := by
    unfold Builtin.firstCells
    exact hload
  simp only [List.getElem?_toArray, List.getElem?_cons_zero, List.getElem?_cons_succ, Sem.run_bind, run_underlying' hu, Result.andThen_ok, Builtin.lenOf, Sem.run_pure, hk, run_sizeOf' hi, hfc, hst]
end Go.Proofs.YtmmmdmandocbhaaDoor.Den
end

section
/- slices.Insert as a rule of its own: the rule, and that it holds of the machine where its three walks do. -/
set_option linter.unusedVariables false
set_option linter.unusedSimpArgs false
namespace Go.Proofs.YtmmmdmandocbhaaDoor.Den
variable {P : Program} {ι : Emb}
/-- What Insert makes of a row that grew, in its midst. -/
def insMid (P : Program) (elem : TypeId) (inf : TypeInfo) (a b : Addr) (n c i m : Nat) (H : World) : Option (Value × World) :=
  match H.heap[a.block]?, H.heap[b.block]? with
  | some (.cells cs e fr), some (.cells xs e2 fr2) =>
    if fr = (1, 0) ∧ fr2 = (0, 0) ∧ e = elem ∧ a.off + n * inf.size = cs.size ∧ c = n ∧ b.off + m * inf.size ≤ xs.size ∧ a.block ≠ b.block ∧ 0 < inf.size ∧ 0 < inf.bytes ∧ inf.bytes ≤ 2 ^ 20 ∧ (n + m) * inf.bytes ≤ 2 ^ 40 ∧ (cs.all Value.oneCell' = true) ∧ (xs.all Value.oneCell' = true) ∧
        (inf.zero.elim false fun z => decide (z.cells.size = inf.size)) = true then
      some (.slice (some ⟨H.heap.size, 0, none⟩) (n + m) (n + m), killObj (pushObj H (.cells (cs.extract a.off (a.off + i * inf.size) ++ xs.extract b.off (b.off + m * inf.size) ++ cs.extract (a.off + i * inf.size) (a.off + n * inf.size)) e (1, 0))) a.block)
    else none
  | _, _ => none
def insD (P : Program) (tS : TypeId) (args : Array Value) (H : World) : Option (Value × World) :=
  match args.toList with
  | [.slice base n c, .int .i64 i, .slice (some b) m mc] =>
    match P.underlying tS with
    | some (.slice elem) => match P.info? elem with
      | some inf =>
        if 0 < m ∧ n ≤ 2 ^ 40 ∧ 0 ≤ i ∧ n ≤ c ∧ (base.isSome || decide (n = 0 ∧ c = 0)) = true then
          if i = n then lappend P #[tS, tS] (.slice base n c) (.slice (some b) m mc) H
          else if i < n then match base with
            | some a => insMid P elem inf a b n c i.toNat m H
            | none => none
          else none
        else none
      | none => none
    | _ => none
  | _ => none
/-- Insert behind the last element. -/
def InsEnd (P : Program) (f : FuncId) (tS : TypeId) : Prop := ∀ (base : Option Addr) (n c m mc : Nat) (b : Addr) (w w1 : World) (v' : Value), 0 < m → n ≤ c → n ≤ 2 ^ 40 → (base = none → n = 0 ∧ c = 0) →
  (Builtin.append_ #[tS, tS] tS #[.slice base n c, .slice (some b) m mc]).run P w = .ok v' w1 → Calls P f #[.slice base n c, .int .i64 n, .slice (some b) m mc] w fun e w' => e = .returned v' ∧ w' = w1
/-- Insert in the midst, where there is room. -/
def InsRoom (P : Program) (f : FuncId) (es : Nat) : Prop := ∀ (rb p n c i vb q m mc : Nat) (cs xs : Array Value) (e e2 : TypeId) (fr : Nat × Nat) (w : World), i < n → 0 < m → n + m ≤ c → n ≤ 2 ^ 40 → m ≤ 2 ^ 40 → vb ≠ rb → w.heap[rb]? = some (.cells cs e fr) → w.heap[vb]? = some (.cells xs e2 (0, 0)) →
  (∀ j, j < cs.size → ¬ (fr.1 ≤ j ∧ j < fr.2)) → p + (n + m) * es ≤ cs.size → q + m * es ≤ xs.size → (∀ v ∈ (cs.extract (p + i * es) (p + n * es)).toList, v.oneCell' = true) → (∀ v ∈ (xs.extract q (q + m * es)).toList, v.oneCell' = true) →
  Calls P f #[.slice (some ⟨rb, p, none⟩) n c, .int .i64 i, .slice (some ⟨vb, q, none⟩) m mc] w fun r w' => r = .returned (.slice (some ⟨rb, p, none⟩) (n + m) c) ∧
    ∃ k, w' = { w with drawn := k, heap := w.heap.setIfInBounds rb (.cells (overL (overL cs (p + (i + m) * es) (cs.extract (p + i * es) (p + n * es)).toList) (p + i * es) (xs.extract q (q + m * es)).toList) e fr) }
/-- Insert in the midst, where there is none. -/
def InsGrow (P : Program) (f : FuncId) (elem : TypeId) (inf : TypeInfo) : Prop := ∀ (rb p n c i vb q m mc : Nat) (cs xs : Array Value) (e e2 : TypeId) (fr : Nat × Nat) (w : World), i < n → 0 < m → n ≤ c → c < n + m → (n + m) * inf.bytes ≤ 2 ^ 40 → n ≤ 2 ^ 40 → m ≤ 2 ^ 40 → vb ≠ rb → w.heap[rb]? = some (.cells cs e fr) → w.heap[vb]? = some (.cells xs e2 (0, 0)) →
  p + n * inf.size ≤ cs.size → q + m * inf.size ≤ xs.size → (∀ v ∈ (cs.extract p (p + n * inf.size)).toList, v.oneCell' = true) → (∀ v ∈ (xs.extract q (q + m * inf.size)).toList, v.oneCell' = true) →
  Calls P f #[.slice (some ⟨rb, p, none⟩) n c, .int .i64 i, .slice (some ⟨vb, q, none⟩) m mc] w fun r w' => ∃ cap k C, r = .returned (.slice (some ⟨w.heap.size, 0, none⟩) (n + m) cap) ∧ n + m ≤ cap ∧ w' = { w with drawn := k, heap := w.heap.push (.cells C elem) } ∧ C.size = cap * inf.size ∧
    ∀ j, j < (n + m) * inf.size → C[j]? = (cs.extract p (p + i * inf.size) ++ xs.extract q (q + m * inf.size) ++ cs.extract (p + i * inf.size) (p + n * inf.size))[j]?
theorem fnS_of_calls {f : FuncId} {args : Array Value} {H : World} {v : Value} {H1 : World} (h : ∀ (ι : Emb) (w : World) (args' : Array Value) (R : Ending → World → Prop), Rel P ι H w → ARel ι args args' → ThenV P ι H w v H1 R → Calls P f args' w R) : FnS P f args H v H1 := by
  intro ι w args' ro' n R hrel hargs hR
  have := h ι w args' R hrel hargs hR
  cases ro' <;> exact callsIn_wide.2 this
theorem ext_one {cs cs' : Array Value} {b o n : Nat} (hc : ∀ (k : Nat) (v : Value), cs[k]? = some v → ∃ v', cs'[b + k]? = some v' ∧ VRel ι v v') (h : cs.all Value.oneCell' = true) (hn : o + n ≤ cs.size) {p q : Nat} (hp : p = b + o) (hq : q = b + (o + n)) : ∀ v ∈ (cs'.extract p q).toList, v.oneCell' = true := by
  subst hp hq
  intro v hv
  obtain ⟨j, hj⟩ := List.mem_iff_getElem?.1 hv
  rw [Array.getElem?_toList, Array.getElem?_extract] at hj
  split at hj
  case isFalse => cases hj
  rename_i hlt
  have hk : o + j < cs.size := by omega
  obtain ⟨v', hv', hvr⟩ := hc (o + j) _ (Array.getElem?_eq_getElem hk)
  rw [← Nat.add_assoc, hj] at hv'
  injection hv' with hv'
  subst hv'
  rw [← hvr.oneCell]
  exact Array.all_eq_true.1 h _ hk
set_option maxHeartbeats 1000000 in
theorem ins_sound (hP : Good P) {f : FuncId} {tS elem : TypeId} {inf : TypeInfo} (hu : P.underlying tS = some (.slice elem)) (hi : P.info? elem = some inf) (hE : InsEnd P f tS) (hR : InsRoom P f inf.size) (hG : InsGrow P f elem inf) :
    ∀ args H v H1, insD P tS args H = some (v, H1) → FnS P f args H v H1 := by
  intro args H v H1 h
  refine fnS_of_calls fun ι w args' R hrel hargs hT => ?_
  unfold insD at h
  split at h
  case h_2 => cases h
  rename_i base n c i b m mc hlist
  rw [hu] at h
  simp only [hi] at h
  have hargs0 : args = #[.slice base n c, .int .i64 i, .slice (some b) m mc] := Array.toList_inj.1 hlist
  subst hargs0
  split at h
  case isFalse => cases h
  rename_i hc
  obtain ⟨hm, hn40, hi0, hnc, hnil⟩ := hc
  obtain ⟨s', i', x', rfl, hs, hii, hx⟩ : ∃ s' i' x', args' = #[s', i', x'] ∧ VRel ι (.slice base n c) s' ∧ VRel ι (.int .i64 i) i' ∧ VRel ι (.slice (some b) m mc) x' := by
    obtain ⟨h1, h2⟩ := hargs
    obtain ⟨l, rfl⟩ : ∃ l : List Value, args' = l.toArray := ⟨args'.toList, by simp⟩
    match l, h1 with
    | [s', i', x'], _ => exact ⟨s', i', x', rfl, h2 0 _ _ rfl rfl, h2 1 _ _ rfl rfl, h2 2 _ _ rfl rfl⟩
  cases hii
  cases hx with
  | sl j o2 _ _ a2' mc' r2 hr2 hsl2 =>
  obtain ⟨t1, t2, t3, t4, t5⟩ := hsl2
  split at h
  · -- behind the last
    rename_i hin
    subst hin
    obtain ⟨ι1, v', w1, hrun, hst, hv⟩ := lappend_sound (ty := tS) hP hrel hs (.sl j o2 m mc a2' mc' r2 hr2 ⟨t1, t2, t3, t4, t5⟩) h
    have hcall : Calls P f #[s', .int .i64 n, .slice (some a2') m mc'] w fun e w' => e = .returned v' ∧ w' = w1 := by
      cases hs with
      | slNil n c => exact hE none n c m mc' a2' w w1 v' hm hnc hn40 (fun _ => by simpa using hnil) hrun
      | sl i0 o n c a' c' r hr hsl => exact hE (some a') n c' m mc' a2' w w1 v' hm (by have := hsl.2.1; omega) hn40 (fun h => by cases h) hrun
    refine hcall.mono ?_
    rintro e w' ⟨rfl, rfl⟩
    exact hT ι1 v' w' hst hv
  split at h
  case isFalse => cases h
  rename_i hne hlt
  split at h
  case h_2 => cases h
  rename_i a
  cases hs with
  | sl i0 o _ _ a' c' r hr hsl =>
  obtain ⟨s1, s2, s3, s4, s5⟩ := hsl
  unfold insMid at h
  split at h
  case h_2 => cases h
  rename_i cs e fr xs e2 fr2 hh hh2
  split at h
  case isFalse => cases h
  rename_i hcond
  obtain ⟨rfl, rfl, rfl, hend, hcn, hxe, hbb, hes0, hb0, hb1, hb2, hone, honex, hz⟩ := hcond
  simp only [Option.some.injEq, Prod.mk.injEq] at h
  obtain ⟨rfl, rfl⟩ := h
  simp only at hh hh2 hend hxe hbb hT
  obtain ⟨k, rfl⟩ : ∃ k : Nat, i = (k : Int) := ⟨i.toNat, by omega⟩
  simp only [Int.toNat_natCast] at hT
  have hkn : k < n := by omega
  obtain ⟨cs', fr', hw, ⟨hlen, hrow⟩, hcells⟩ := hrel.row hr hh
  rcases hrow with ⟨hf1, _⟩ | ⟨hf1, _⟩ | ⟨_, hfr, hg, hroom, hlroom, inf', hi', hes, _⟩
  · cases hf1
  · cases hf1
  rw [hi] at hi'; injection hi' with hi'; subst hi'
  obtain ⟨xs', frx, hwx, ⟨hlenx, hrowx⟩, hcellsx⟩ := hrel.row hr2 hh2
  rcases hrowx with ⟨_, hf2, _⟩ | ⟨_, hfx, hgx, hbx, hsx⟩ | ⟨hf1, _⟩
  · exact absurd rfl hf2
  case inr.inr => cases hf1
  subst hfx
  have hblk : r2.b ≠ r.b := fun eb => hbb (hrel.inj i0 j _ _ r r2 hh rfl hh2 rfl hr hr2 eb.symm rfl)
  have s3 : a' = ⟨r.b, r.base + o, none⟩ := by rcases s3 with e | e; exact e; omega
  have t3 : a2' = ⟨r2.b, r2.base + o2, none⟩ := by rcases t3 with e | e; exact e; omega
  subst s3 t3
  have hnb : n + m ≤ (n + m) * inf.bytes := Nat.le_mul_of_pos_right _ hb0
  have hm40 : m ≤ 2 ^ 40 := by omega
  have hroom2 := (s5 hg).2
  rw [← hes] at hroom2
  have ekn : k * inf.size ≤ n * inf.size := Nat.mul_le_mul_right _ (by omega)
  have enm : (n + m) * inf.size = n * inf.size + m * inf.size := Nat.add_mul _ _ _
  have ekm : (k + m) * inf.size = k * inf.size + m * inf.size := Nat.add_mul _ _ _
  have enc : n * inf.size ≤ c' * inf.size := Nat.mul_le_mul_right _ (by omega)
  have hone1 : ∀ u ∈ (cs'.extract (r.base + o) (r.base + o + n * inf.size)).toList, u.oneCell' = true := ext_one hcells hone (o := o) (n := n * inf.size) (by omega) rfl (by omega)
  have hone2 : ∀ u ∈ (cs'.extract (r.base + o + k * inf.size) (r.base + o + n * inf.size)).toList, u.oneCell' = true := ext_one hcells hone (o := o + k * inf.size) (n := n * inf.size - k * inf.size) (by omega) (by omega) (by omega)
  have hone3 : ∀ u ∈ (xs'.extract (r2.base + o2) (r2.base + o2 + m * inf.size)).toList, u.oneCell' = true := ext_one hcellsx honex (o := o2) (n := m * inf.size) (by omega) rfl (by omega)
  have hnew : ARel ι (cs.extract o (o + k * inf.size) ++ xs.extract o2 (o2 + m * inf.size) ++ cs.extract (o + k * inf.size) (o + n * inf.size)) (cs'.extract (r.base + o) (r.base + o + k * inf.size) ++ xs'.extract (r2.base + o2) (r2.base + o2 + m * inf.size) ++ cs'.extract (r.base + o + k * inf.size) (r.base + o + n * inf.size)) := by
    have key : ∀ (zs zs' : Array Value) (b0 x y : Nat), (∀ (k : Nat) (v : Value), zs[k]? = some v → ∃ v', zs'[b0 + k]? = some v' ∧ VRel ι v v') → y ≤ zs.size → ARel ι (zs.extract x y) (zs'.extract (b0 + x) (b0 + y)) := by
      intro zs zs' b0 x y hc hy
      have hsz : ∀ j, j < zs.size → b0 + j < zs'.size := fun j hj => by
        obtain ⟨v', hv', _⟩ := hc j _ (Array.getElem?_eq_getElem hj)
        exact (Array.getElem?_eq_some_iff.1 hv').1
      refine ⟨?_, fun j u u' hu hu' => ?_⟩
      · simp only [Array.size_extract]
        by_cases hxy : x < y
        · have := hsz (y - 1) (by omega); omega
        · omega
      · rw [Array.getElem?_extract] at hu hu'
        split at hu
        case isFalse => cases hu
        split at hu'
        case isFalse => cases hu'
        obtain ⟨v', hv', hvr⟩ := hc _ _ hu
        rw [← Nat.add_assoc, hu'] at hv'
        injection hv' with hv'; subst hv'; exact hvr
    have k1 := key cs cs' r.base o (o + k * inf.size) hcells (by omega)
    have k2 := key xs xs' r2.base o2 (o2 + m * inf.size) hcellsx (by omega)
    have k3 := key cs cs' r.base (o + k * inf.size) (o + n * inf.size) hcells (by omega)
    simp only [← Nat.add_assoc] at k1 k2 k3
    exact (k1.append k2).append k3
  have hnsz : (cs.extract o (o + k * inf.size) ++ xs.extract o2 (o2 + m * inf.size) ++ cs.extract (o + k * inf.size) (o + n * inf.size)).size = (n + m) * inf.size := by
    simp only [Array.size_append, Array.size_extract]; omega
  have hcsz : ∀ j, j < cs.size → r.base + j < cs'.size := fun j hj => by
    obtain ⟨v', hv', _⟩ := hcells j _ (Array.getElem?_eq_getElem hj)
    exact (Array.getElem?_eq_some_iff.1 hv').1
  generalize hN : cs.extract o (o + k * inf.size) ++ xs.extract o2 (o2 + m * inf.size) ++ cs.extract (o + k * inf.size) (o + n * inf.size) = new at *
  generalize hN' : cs'.extract (r.base + o) (r.base + o + k * inf.size) ++ xs'.extract (r2.base + o2) (r2.base + o2 + m * inf.size) ++ cs'.extract (r.base + o + k * inf.size) (r.base + o + n * inf.size) = new' at *
  have hne1 : 0 < n * inf.size := Nat.mul_pos (by omega) hes0
  have hend' : r.base + o + n * inf.size ≤ cs'.size := by
    have := hcsz (cs.size - 1) (by omega); omega
  have hxend : r2.base + o2 + m * inf.size ≤ xs'.size := by omega
  by_cases hfit : n + m ≤ c'
  · -- in place
    have efit : (n + m) * inf.size ≤ c' * inf.size := Nat.mul_le_mul_right _ hfit
    refine (hR r.b (r.base + o) n c' k r2.b (r2.base + o2) m mc' cs' xs' e e2 fr' w hkn hm hfit hn40 hm40 hblk hw hwx hfr (by omega) hxend hone2 hone3).mono ?_
    rintro _ w' ⟨rfl, d, rfl⟩
    generalize hC : overL (overL cs' (r.base + o + (k + m) * inf.size) (cs'.extract (r.base + o + k * inf.size) (r.base + o + n * inf.size)).toList) (r.base + o + k * inf.size) (xs'.extract (r2.base + o2) (r2.base + o2 + m * inf.size)).toList = C
    have hCs : C.size = cs'.size := by rw [← hC, overL_size, overL_size]
    have hCat : ∀ j, j < (n + m) * inf.size → C[r.base + o + j]? = new'[j]? := by
      intro j hj
      have x1 : (cs'.extract (r.base + o) (r.base + o + k * inf.size)).size = k * inf.size := by simp only [Array.size_extract]; omega
      have x2 : (xs'.extract (r2.base + o2) (r2.base + o2 + m * inf.size)).size = m * inf.size := by simp only [Array.size_extract]; omega
      have x3 : (cs'.extract (r.base + o + k * inf.size) (r.base + o + n * inf.size)).size = n * inf.size - k * inf.size := by simp only [Array.size_extract]; omega
      rw [← hC, ← hN', overL_get, overL_size, Array.length_toList, x2]
      by_cases j1 : j < k * inf.size
      · rw [if_neg (by omega), overL_get, Array.length_toList, x3, if_neg (by omega), Array.getElem?_append_left (by rw [Array.size_append, x1]; omega), Array.getElem?_append_left (by rw [x1]; exact j1), Array.getElem?_extract, if_pos (by omega)]
      · by_cases j2 : j < k * inf.size + m * inf.size
        · rw [if_pos (by omega), Array.getElem?_append_left (by rw [Array.size_append, x1, x2]; omega), Array.getElem?_append_right (by rw [x1]; omega), x1, Array.getElem?_toList]
          congr 1; omega
        · rw [if_neg (by omega), overL_get, Array.length_toList, x3, if_pos (by omega), Array.getElem?_append_right (by rw [Array.size_append, x1, x2]; omega), Array.size_append, x1, x2, Array.getElem?_toList]
          congr 1; omega
    have hst := (hrel.drawn d).regrow (rn := ⟨r.b, r.base + o, (n + m) * inf.size, r.room - o, inf.size, true⟩) (o := .cells new e (1, 0)) (o' := .cells C e fr') hr hh rfl rfl rfl rfl (by
      refine .cells _ _ _ _ _ ⟨hnsz.symm, .inr (.inr ⟨rfl, fun j hj => hfr j (by omega), rfl, ?_, ?_, inf, hi, rfl, hes0⟩)⟩ fun j v hj => ?_
      · show r.base + o + (r.room - o) ≤ C.size
        omega
      · show new.size ≤ r.room - o
        omega
      · have hjl := (Array.getElem?_eq_some_iff.1 hj).1
        obtain ⟨v', hv', hvr⟩ := hnew.get hj
        exact ⟨v', by rw [← hv']; exact hCat j (by omega), hvr.mono (Emb.le_put hrel.fresh)⟩)
    refine hT _ _ _ ((Step.drawn hrel d).trans hst) ?_
    refine .sl H.heap.size 0 _ _ ⟨r.b, r.base + o, none⟩ c' ⟨r.b, r.base + o, (n + m) * inf.size, r.room - o, inf.size, true⟩ (Emb.put_same _ _ _) ⟨Nat.le_refl _, hfit, .inl rfl, fun hg => (by cases hg), fun _ => ⟨.inr ?_, ?_⟩⟩
    · show 0 + (n + m) * inf.size = (n + m) * inf.size
      omega
    · show 0 + c' * inf.size ≤ r.room - o
      omega
  · -- a new row
    refine (hG r.b (r.base + o) n c' k r2.b (r2.base + o2) m mc' cs' xs' e e2 fr' w hkn hm (by omega) (by omega) hb2 hn40 hm40 hblk hw hwx hend' hxend hone1 hone3).mono ?_
    rintro _ w' ⟨cap, d, C, rfl, hcap, rfl, hCs, hCat⟩
    have ecap : (n + m) * inf.size ≤ cap * inf.size := Nat.mul_le_mul_right _ hcap
    have hst := Rel.new (r := ⟨w.heap.size, 0, (n + m) * inf.size, cap * inf.size, inf.size, true⟩) (hrel.drawn d) (o := .cells new e (1, 0)) (o' := .cells C e) rfl rfl (by
      refine .cells _ _ _ _ _ ⟨hnsz.symm, .inr (.inr ⟨rfl, fun j _ => by simp, rfl, ?_, ?_, inf, hi, rfl, hes0⟩)⟩ fun j v hj => ?_
      · show 0 + cap * inf.size ≤ C.size
        omega
      · show new.size ≤ cap * inf.size
        omega
      · have hjl := (Array.getElem?_eq_some_iff.1 hj).1
        obtain ⟨v', hv', hvr⟩ := hnew.get hj
        refine ⟨v', ?_, hvr.mono (Emb.le_put hrel.fresh)⟩
        show C[0 + j]? = some v'
        rw [Nat.zero_add, hCat j (by omega), ← hv']
        rw [hN'])
    have hi0 : (pushObj H (.cells new e (1, 0))).heap[i0]? = some (.cells cs e (1, 0)) := by
      show getO (pushObj H _) i0 = _
      rw [get_push, if_neg (by have := getO_lt (show getO H i0 = _ from hh); omega)]; exact hh
    have hk2 := Rel.kill hst.rel i0 (fun x hx => by have := hi0.symm.trans hx; injection this with hx; subst hx; rfl)
    refine hT _ _ _ (((Step.drawn hrel d).trans hst).trans hk2) ?_
    refine .sl H.heap.size 0 _ _ ⟨w.heap.size, 0, none⟩ cap ⟨w.heap.size, 0, (n + m) * inf.size, cap * inf.size, inf.size, true⟩ (Emb.put_same _ _ _) ⟨Nat.le_refl _, hcap, .inl rfl, fun hg => (by cases hg), fun _ => ⟨.inr ?_, ?_⟩⟩
    · show 0 + (n + m) * inf.size = (n + m) * inf.size
      omega
    · show 0 + cap * inf.size ≤ cap * inf.size
      omega
end Go.Proofs.YtmmmdmandocbhaaDoor.Den
end
