/- Helpers of this claim: an evaluator over plain values and its laws. -/
import Derived.Test.YtmmmdmandocbhaaPp
section
set_option linter.unusedVariables false
set_option linter.unusedSimpArgs false
namespace Go.Proofs.Ytmmmdmandocbhaa
open Go Go.Proofs.Ytmmmdmandocbhaa.Den
/-! ### the plain law of NetTold -/
theorem lookM_put {α : Type} [DecidableEq α] (j k : α) (v : Value) : ∀ L : List (α × Value), lookM j (putM k v L) = if j = k then some v else lookM j L
  | [] => by
    unfold putM lookM
    by_cases h : k = j
    · rw [if_pos h, if_pos h.symm]
    · rw [if_neg h, if_neg (fun e => h e.symm)]; rfl
  | (a, w) :: L => by
    unfold putM
    by_cases h : a = k
    · subst h
      rw [if_pos rfl]
      unfold lookM
      by_cases h2 : a = j
      · rw [if_pos h2, if_pos h2.symm]
      · rw [if_neg h2, if_neg h2, if_neg (fun e => h2 e.symm)]
    · rw [if_neg h]
      unfold lookM
      by_cases h2 : a = j
      · subst h2
        rw [if_pos rfl, if_pos rfl, if_neg h]
      · rw [if_neg h2, if_neg h2]
        exact lookM_put j k v L
def cBump (c : Int → Int) (i : Int) : Int → Int := fun j => if j = i then c j + 1 else c j
abbrev before (f g : Fl) : Prop := f.id = g.id → f.twice = false ∧ g.twice = true
/-- What was told of the flights that are to arrive. -/
structure Told (R : List Fl) (next dbl : Int) (S : List (Int × Value)) (c : Int → Int) (tw : Int) : Prop where
  sent : ∀ f ∈ R, ∃ t, lookM f.id S = some (encP { f with time := t }) ∧ t ≤ f.time
  ids : ∀ f ∈ R, f.id < next
  pw : R.Pairwise before
  cnt : ∀ f ∈ R, c f.id = 0 ∨ (f.twice = true ∧ c f.id ≤ 1)
  zero : ∀ i, next ≤ i → c i = 0
  lo : ∀ i, 0 ≤ c i ∧ c i ≤ 2
  tw0 : 0 ≤ tw
  tw1 : tw + (R.countP (·.twice) : Nat) ≤ dbl
theorem Told.sub {R R' : List Fl} {next dbl tw : Int} {S : List (Int × Value)} {c : Int → Int} (h : Told R next dbl S c tw) (hs : R'.Sublist R) : Told R' next dbl S c tw :=
  ⟨fun f hf => h.sent f (hs.subset hf), fun f hf => h.ids f (hs.subset hf), h.pw.sublist hs, fun f hf => h.cnt f (hs.subset hf), h.zero, h.lo, h.tw0, by have := hs.countP_le (p := (·.twice)); have := h.tw1; omega⟩
theorem Told.take {y : Fl} {R : List Fl} {next dbl tw : Int} {S : List (Int × Value)} {c : Int → Int} (h : Told (y :: R) next dbl S c tw) : c y.id ≤ 1 ∧ Told R next dbl S (cBump c y.id) (if c y.id + 1 = 2 then tw + 1 else tw) := by
  obtain ⟨p1, p2⟩ := List.pairwise_cons.1 h.pw
  have hy := h.cnt y (List.mem_cons_self ..)
  have hi := h.ids y (List.mem_cons_self ..)
  have hlo := h.lo
  have h1 : c y.id ≤ 1 := by omega
  refine ⟨h1, fun f hf => h.sent f (List.mem_cons_of_mem _ hf), fun f hf => h.ids f (List.mem_cons_of_mem _ hf), p2, fun f hf => ?_, fun i hn => ?_, fun i => ?_, ?_, ?_⟩
  · unfold cBump
    by_cases e : f.id = y.id
    · rw [if_pos e]
      obtain ⟨q1, q2⟩ := p1 f hf e.symm
      rcases hy with hy | ⟨hy, _⟩
      · rw [e, hy]; exact .inr ⟨q2, by decide⟩
      · rw [q1] at hy; cases hy
    · rw [if_neg e]; exact h.cnt f (List.mem_cons_of_mem _ hf)
  · unfold cBump
    rw [if_neg (by omega)]; exact h.zero i hn
  · unfold cBump
    have := hlo i
    split
    · rename_i e; subst e; omega
    · exact this
  · have := h.tw0
    split <;> omega
  · have ht := h.tw1
    rw [List.countP_cons] at ht
    split
    · rename_i e
      rcases hy with hy | ⟨hy, _⟩
      · omega
      · rw [hy] at ht; simp at ht; omega
    · split at ht <;> omega
theorem putF_pw1 {r : Fl → Fl → Prop} {x : Fl} : ∀ {l : List Fl}, l.Pairwise r → (∀ y ∈ l, r y x ∧ r x y) → (putF l x).Pairwise r
  | [], _, _ => List.pairwise_singleton _ _
  | y :: l, h, hx => by
    obtain ⟨h1, h2⟩ := List.pairwise_cons.1 h
    by_cases hk : kLt y x
    · rw [putF_cons_t hk]
      refine List.pairwise_cons.2 ⟨fun b hb => ?_, putF_pw1 h2 fun z hz => hx z (List.mem_cons_of_mem _ hz)⟩
      rcases putF_mem.1 hb with rfl | hb
      · exact (hx y (List.mem_cons_self ..)).1
      · exact h1 b hb
    · rw [putF_cons_f hk]
      exact List.pairwise_cons.2 ⟨fun b hb => (hx b hb).2, h⟩
theorem putF_pw2 {x : Fl} (ht : x.twice = true) : ∀ {l : List Fl}, Sorted l → l.Pairwise before → (∀ y ∈ l, y.id = x.id → y.twice = false ∧ kLt y x) → (putF l x).Pairwise before
  | [], _, _, _ => List.pairwise_singleton _ _
  | y :: l, hs, h, hx => by
    obtain ⟨h1, h2⟩ := List.pairwise_cons.1 h
    obtain ⟨s1, s2⟩ := List.pairwise_cons.1 hs
    by_cases hk : kLt y x
    · rw [putF_cons_t hk]
      refine List.pairwise_cons.2 ⟨fun b hb => ?_, putF_pw2 ht s2 h2 fun z hz => hx z (List.mem_cons_of_mem _ hz)⟩
      rcases putF_mem.1 hb with rfl | hb
      · exact fun e => ⟨(hx y (List.mem_cons_self ..) e).1, ht⟩
      · exact h1 b hb
    · rw [putF_cons_f hk]
      refine List.pairwise_cons.2 ⟨fun b hb e => ?_, h⟩
      have hb2 := (hx b hb e.symm).2
      rcases List.mem_cons.1 hb with rfl | hb
      · exact absurd hb2 hk
      · exact absurd hb2 (kLt_up (s1 b hb) hk)
theorem putF_countP (p : Fl → Bool) (l : List Fl) (x : Fl) : (putF l x).countP p = l.countP p + if p x = true then 1 else 0 := by
  unfold putF insA
  have e : l.countP p = (l.take (pos l x) ++ l.drop (pos l x)).countP p := by rw [List.take_append_drop]
  rw [List.countP_append, List.countP_cons, e, List.countP_append]
  omega
section
variable {R : List Fl} {next dbl tw : Int} {S : List (Int × Value)} {c : Int → Int}
theorem Told.keepS (h : Told R next dbl S c tw) (v : Value) : ∀ f ∈ R, ∃ t, lookM f.id (putM next v S) = some (encP { f with time := t }) ∧ t ≤ f.time := fun f hf => by
  have := h.ids f hf
  rw [lookM_put, if_neg (by omega)]
  exact h.sent f hf
theorem Told.lost (h : Told R next dbl S c tw) (v : Value) : Told R (next + 1) dbl (putM next v S) c tw :=
  ⟨h.keepS v, fun f hf => by have := h.ids f hf; omega, h.pw, h.cnt, fun i hi => h.zero i (by omega), h.lo, h.tw0, h.tw1⟩
theorem Told.put1 (h : Told R next dbl S c tw) {x : Fl} {t : Int} (hi : x.id = next) (hx : x.twice = false) (ht : t ≤ x.time) : Told (putF R x) (next + 1) dbl (putM next (encP { x with time := t }) S) c tw := by
  refine ⟨fun f hf => ?_, fun f hf => ?_, putF_pw1 h.pw fun y hy => ?_, fun f hf => ?_, fun i hi => h.zero i (by omega), h.lo, h.tw0, ?_⟩
  · rcases putF_mem.1 hf with rfl | hf
    · exact ⟨t, by rw [lookM_put, if_pos hi], ht⟩
    · exact h.keepS _ f hf
  · rcases putF_mem.1 hf with rfl | hf
    · omega
    · have := h.ids f hf; omega
  · have := h.ids y hy
    exact ⟨fun e => by omega, fun e => by omega⟩
  · rcases putF_mem.1 hf with rfl | hf
    · exact .inl (h.zero _ (by omega))
    · exact h.cnt f hf
  · rw [putF_countP, hx]; simpa using h.tw1
theorem Told.put2 (h : Told R next dbl S c tw) (hs : Sorted R) {x y : Fl} {t : Int} (hi : x.id = next) (hx : x.twice = false) (ht : t ≤ x.time) (hyi : y.id = x.id) (hyf : y.frm = x.frm) (hyt : y.to = x.to) (hyb : y.body = x.body) (hy : y.twice = true) (hlt : x.time < y.time) :
    Told (putF (putF R x) y) (next + 1) (dbl + 1) (putM next (encP { x with time := t }) S) c tw := by
  have g := h.put1 hi hx ht
  refine ⟨fun f hf => ?_, fun f hf => ?_, putF_pw2 hy (putF_sorted x hs) g.pw fun z hz e => ?_, fun f hf => ?_, g.zero, h.lo, h.tw0, ?_⟩
  · rcases putF_mem.1 hf with rfl | hf
    · refine ⟨t, ?_, by omega⟩
      rw [lookM_put, if_pos (by omega)]
      simp only [encP, cellsP, hyi, hyf, hyt, hyb]
    · exact g.sent f hf
  · rcases putF_mem.1 hf with rfl | hf
    · omega
    · exact g.ids f hf
  · rcases putF_mem.1 hz with rfl | hz
    · exact ⟨hx, .inl hlt⟩
    · have := h.ids z hz; omega
  · rcases putF_mem.1 hf with rfl | hf
    · exact .inl (h.zero _ (by omega))
    · exact g.cnt f hf
  · have := g.tw1
    rw [putF_countP, hy, if_pos rfl]; omega
end
end Go.Proofs.Ytmmmdmandocbhaa
end

section
set_option linter.unusedVariables false
set_option linter.unusedSimpArgs false
namespace Go.Proofs.Ytmmmdmandocbhaa
open Go Go.Proofs.Ytmmmdmandocbhaa.Den
theorem clone_app0 {H : World} {b : Nat} {x : Value} (hb : getO H b = some (.cells #[] 3 (0, 0))) (hx : SrcX Try.prog 1 x H 0 []) :
    builtinX Try.prog .append #[29, 29] #[.slice (some ⟨b, 0, none⟩) 0 0, x] H = some (.value (.slice (some ⟨b, 0, none⟩) 0 0), H) := by
  refine builtin_append (r := (_, _)) ?_
  have hap : appended Try.prog (some 29) Try.t3 x H = some (0, #[]) := appended_src Try.prog (es := 1) (by simp) (by simp) hx
  have h1 : ((#[29, 29] : Array TypeId)[0]?).bind Try.prog.underlying = some (.slice 3) := by simp
  have h2 : (#[29, 29] : Array TypeId)[1]? = some 29 := rfl
  simp only [lappend, h1, h2, info3, hap, Nat.add_zero, Nat.le_refl, if_true, storeCells, Sem.run_pure, okRun, Option.map_some]
set_option maxRecDepth 100000 in
/-- The copy of a row of numbers that came in. -/
theorem clone41v {H : World} (o : Option (List Int)) (hn : (o.getD []).length ≤ 2 ^ 20) {Q : Value → World → Prop}
    (hq : ∀ H' a m c, Nums H' (.slice a m c) (o.getD []) → Keep H H' → H.heap.size ≤ H'.heap.size → (∀ r o2 m2 c2, Value.slice a m c = .slice (some ⟨r, o2, none⟩) m2 c2 → H.heap.size ≤ r) → Q (.slice a m c) H') : FW X 41 #[sidesV o] H Q := by
  refine FW.walk (by simp [X, sp17_no]) Try.func41 Try.ntmps41 rfl (by simp) ?_
  have hnil := fun x y H0 => slV_nil (P := Try.prog) (t := 29) (x := x) (y := y) (H := H0) (es := 1) (o := o.map fun l => l.map (Value.int .i64)) (by simp)
  cases o with
  | none =>
    simp [hnil]
    exact hq H none 0 0 (.inl ⟨rfl, rfl⟩) (fun _ _ h => h) (Nat.le_refl _) (fun r o2 m2 c2 e => by cases e)
  | some l =>
  have hb : getO (pushObj H (.cells #[] 3 (0, 0))) H.heap.size = some (.cells #[] 3 (0, 0)) := by rw [get_push, if_pos rfl]
  have hx : SrcX Try.prog 1 (sidesV (some l)) (pushObj H (.cells #[] 3 (0, 0))) l.length (l.map (Value.int .i64)) := by
    have h := SrcX.slV (P := Try.prog) (es := 1) (o := some (l.map (Value.int .i64))) (H := pushObj H (.cells #[] 3 (0, 0)))
    simp [List.flatMap_map] at h
    rw [List.map_eq_flatMap]
    exact h
  have k1 : Keep H (pushObj H (.cells #[] 3 (0, 0))) := fun j o hj => by
    have := getO_lt hj
    rw [get_push, if_neg (by omega)]; exact hj
  by_cases hl : l = []
  · subst hl
    have ha := clone_app0 hb hx
    simp [hnil, buildSliceX, inOrder, catCells, szO, ha]
    exact hq _ _ _ _ (.inr ⟨H.heap.size, 0, (0, 0), rfl, hb⟩) k1 (by simp) (fun r o2 m2 c2 e => by cases e; omega)
  · have ha := clone_app hb hx hl hn
    have hz : (pushObj H (.cells #[] 3 (0, 0))).heap.size = H.heap.size + 1 := by simp
    rw [hz] at ha
    simp [hnil, buildSliceX, inOrder, catCells, szO, ha]
    refine hq _ _ _ _ (.inr ⟨H.heap.size + 1, l.length, (1, 0), rfl, by rw [get_push, if_pos (by simp)]; rfl⟩) (fun j o hj => ?_) (by simp; omega) (fun r o2 m2 c2 e => by cases e; omega)
    have := getO_lt hj
    rw [get_push, if_neg (by simp; omega), get_push, if_neg (by omega)]; exact hj
/-- What New answers. -/
def eNew (h : Int) (l : List Int) : Int := if h < 1 ∨ 16 < h ∨ (l.any fun x => decide (x < 0)) = true then 7 else if 10000 < l.length then 4 else 0
set_option maxRecDepth 100000 in
/-- New of numbers that came in. -/
theorem new8v {H : World} (o : Option (List Int)) (hlen : (o.getD []).length < 2 ^ 62) (h : Int) {Q : Value → World → Prop}
    (hq : ∀ H' b vn, eNew h (o.getD []) = 0 → H.heap.size ≤ b → NSt H' b (netZ h (o.getD []) ⟨1, 0, 0, 0⟩) vn (.slice none 0 0) → Keep H H' → H.heap.size ≤ H'.heap.size → Q (.tuple #[p0 b, .int .i64 0]) H')
    (hz : eNew h (o.getD []) ≠ 0 → Q (.tuple #[.pointer none, .int .i64 (eNew h (o.getD []))]) H) : FW X 8 #[.int .i64 h, sidesV o] H Q := by
  have rd : Rd H (sidesV o) (o.getD []) := Rd.slV
  have hcl := fun hn Q => clone41v (H := H) o hn (Q := Q)
  have hvlen := fun H0 => rd.len H0
  generalize hv : sidesV o = v at *
  generalize o.getD [] = l at *
  refine FW.walk (by simp [X, sp17_no]) Try.func8 Try.ntmps8 rfl (by simp) ?_
  by_cases a1 : h < 1
  · have e : eNew h l = 7 := by simp [eNew, a1]
    rw [e] at hz
    simp [a1]
    exact hz (by decide)
  by_cases a2 : 16 < h
  · have e : eNew h l = 7 := by simp [eNew, a2]
    rw [e] at hz
    simp [a1, a2]
    exact hz (by decide)
  simp [a1, a2]
  refine contains39 (l := l) (cs := []) (p := fun x => decide (x < 0)) rd (by omega) (by simp) (fun x Q => by simpa using new40 H x Q) ?_
  cases hany : (l.any fun x => decide (x < 0)) with
  | true =>
    have e : eNew h l = 7 := by unfold eNew; rw [if_pos (.inr (.inr hany))]
    rw [e] at hz
    simp
    exact hz (by decide)
  | false =>
  by_cases hbig : 10000 < l.length
  · have e : eNew h l = 4 := by unfold eNew; rw [hany, if_neg (by simp; omega), if_pos hbig]
    rw [e] at hz
    have hb' : (10000 : Int) < l.length := by omega
    simp [hvlen, hb']
    exact hz (by decide)
  have e : eNew h l = 0 := by unfold eNew; rw [hany, if_neg (by simp; omega), if_neg hbig]
  rw [e] at hq
  have hb' : ¬ (10000 : Int) < l.length := by omega
  simp [hvlen, hb']
  refine hcl (by omega) _ fun H1 av am ac nums k1 z1 fresh => ?_
  have b78 := build78 h l av am ac
  generalize hvn : Value.slice av am ac = vn at *
  simp [b78, szO]
  have gnb : getO (pushObj H1 (netO (netZ h l ⟨0, 0, 0, 0⟩) vn (.slice none 0 0))) H1.heap.size = some (netO (netZ h l ⟨0, 0, 0, 0⟩) vn (.slice none 0 0)) := by rw [get_push, if_pos rfl]
  have k2 : Keep H1 (pushObj H1 (netO (netZ h l ⟨0, 0, 0, 0⟩) vn (.slice none 0 0))) := fun j o hj => by
    have := getO_lt hj
    rw [get_push, if_neg (by omega)]; exact hj
  have z2 : (pushObj H1 (netO (netZ h l ⟨0, 0, 0, 0⟩) vn (.slice none 0 0))).heap.size = H1.heap.size + 1 := by simp
  have nums2 : Nums (pushObj H1 (netO (netZ h l ⟨0, 0, 0, 0⟩) vn (.slice none 0 0))) vn l := nums.imp fun r o m c e x hx => k2 _ _ hx
  have apn : ApO vn H1.heap.size := fun r o n c e => by
    rcases nums with ⟨e2, _⟩ | ⟨r2, c2, fr2, e2, hr⟩
    · rw [e2] at e; cases e
    · rw [e2] at e; cases e; have := getO_lt hr; omega
  generalize hH2 : pushObj H1 (netO (netZ h l ⟨0, 0, 0, 0⟩) vn (.slice none 0 0)) = H2 at *
  generalize hnb : H1.heap.size = nb at *
  have hset0 : H2 = setO H2 nb (netO (netL h l (0 * 16)) vn (.slice none 0 0)) := by
    rw [Nat.zero_mul, netL_0]
    exact (set_same gnb).symm
  have lnb : nb < H2.heap.size := by omega
  refine CE.inv (NwO nb H2 h l vn) ?_ (d := 16) ⟨by simp, 0, rfl, by omega, by simp, hset0⟩
  rintro d e H' ⟨e6, i, rfl, hi, e27, hH'⟩
  by_cases hlt : i < 16
  rotate_left
  · have hi16 : i = 16 := by omega
    subst hi16
    simp [e27, e6]
    rw [show 16 * 16 = 256 from rfl, netL_256] at hH'
    rw [hH']
    refine hq _ nb vn rfl (by omega) ⟨by rw [get_set, if_pos rfl, if_pos lnb], ⟨List.length_replicate, List.length_replicate, List.length_replicate⟩, ?_, .inl ⟨rfl, rfl⟩, apn, ?_, ?_⟩ ?_ ?_
    · exact nums2.imp fun r o m c e x hx => by rw [get_set, if_neg (fun e' => apn _ _ _ _ e e'.symm)]; exact hx
    · intro r o n c e; cases e
    · intro r o n c e r' o' n' c' e'; cases e'
    · intro j o hj
      have := getO_lt hj
      rw [get_set, if_neg (by omega)]; exact k2 _ _ (k1 _ _ hj)
    · simp; omega
  have hlt' : (i : Int) < 16 := by omega
  simp [e27, e6, hlt']
  refine CE.inv (NwI nb H2 h l vn i) ?_ (d := 16) ⟨by simp [e6], by simp, by simp [e27], 0, rfl, by omega, by simp, by simpa using hH'⟩
  rintro d e H' ⟨e6, e7, e27, k, rfl, hk, e30, hH'⟩
  by_cases hkt : k < 16
  rotate_left
  · have hk16 : k = 16 := by omega
    subst hk16
    have wi : IntKind.i64.wrap ((i : Int) + 1) = ((i + 1 : Nat) : Int) := by rw [wrap64 (by omega) (by omega)]; omega
    simp [e30, e27, wi]
    refine ⟨16 - (i + 1), by omega, by simp [e6], i + 1, rfl, by omega, by simp, ?_⟩
    rw [hH', show (i + 1) * 16 = i * 16 + 16 by omega]
  have hkt' : (k : Int) < 16 := by omega
  have gN : getO H' nb = some (netO (netL h l (i * 16 + k)) vn (.slice none 0 0)) := by rw [hH', get_set, if_pos rfl, if_pos lnb]
  have lN := getO_lt gN
  have wf := netL_wf h l (t := i * 16 + k) (by omega)
  have sl := sN_link (n := netL h l (i * 16 + k)) (vn := vn) (vf := .slice none 0 0) wf (k := i * 16 + k) (j := 0) (by omega) (by decide) (c := .int .i64 1) (x := ⟨1, 0, 0, 0⟩) (by rw [netL_get h l (by omega)]; rfl)
  rw [netL_set h l (by omega), show 9 + (i * 16 + k) * 4 + 0 = 9 + i * 64 + k * 4 by omega] at sl
  have hlo : 9 + i * 64 + k * 4 + 1 ≤ (cellsN (netL h l (i * 16 + k)) vn (.slice none 0 0)).length := cN_le wf (by omega)
  have wk : IntKind.i64.wrap ((k : Int) + 1) = ((k + 1 : Nat) : Int) := by rw [wrap64 (by omega) (by omega)]; omega
  simp [e30, e7, e6, hkt', hlt', idxP, gN, lN, overL, sl, hlo, wk]
  refine ⟨16 - (k + 1), by omega, by simp [e6], by simp [e7], by simp [e27], k + 1, rfl, by omega, by simp, ?_⟩
  rw [hH', set_set, Nat.add_assoc]
end Go.Proofs.Ytmmmdmandocbhaa
end

section
set_option linter.unusedVariables false
set_option linter.unusedSimpArgs false
namespace Go.Proofs.Ytmmmdmandocbhaa
open Go Go.Proofs.Ytmmmdmandocbhaa.Den
theorem oN_sides {n : NN} {vn vf : Value} (h : WF n) {l : List Int} (hl : l.length ≤ 16) :
    overL (cellsN n vn vf).toArray 1033 (l.map (Value.int .i64)) = (cellsN { n with sides := l ++ n.sides.drop l.length } vn vf).toArray := by
  have hlen := cN_size (vn := vn) (vf := vf) h
  rw [overL_list _ _ _ (by rw [hlen, List.length_map]; omega)]
  congr 1
  have hf := flatE_len encLk_size n.links
  have hA : ∀ A B : List Value, A.length = 9 → B.length = 1024 → ∀ R, (A ++ (B ++ R)).take 1033 = A ++ B ∧ ∀ k, (A ++ (B ++ R)).drop (1033 + k) = R.drop k := fun A B a b R => by
    rw [← List.append_assoc]
    refine ⟨?_, fun k => ?_⟩
    · rw [show 1033 = (A ++ B).length by simp [a, b], List.take_left]
    · rw [← List.drop_drop, show 1033 = (A ++ B).length by simp [a, b], List.drop_left]
  unfold cellsN
  obtain ⟨t1, t2⟩ := hA [.int .i64 n.sent, .int .i64 n.arr, .int .i64 n.lost, .int .i64 n.dbl, .int .i64 n.hosts, vn, .int .i64 n.used, .int .i64 n.now, .int .i64 n.next] (flatE encLk n.links) rfl (by rw [hf, h.links]) (n.sides.map (Value.int .i64) ++ (n.down.map Value.bool ++ [vf]))
  rw [t1, t2, List.length_map, List.drop_append, List.length_map, h.sides, Nat.sub_eq_zero_of_le hl, List.drop_zero, List.map_append, List.map_drop]
  simp only [List.append_assoc]
theorem has43a {H : World} {b r : Nat} {n : NN} {vn vf : Value} (hn : getO H b = some (netO n vn vf)) {i : Int} {e : TypeId} {fr : Nat × Nat} (hr : getO H r = some (.cells #[.int .i64 i] e fr)) {Q : Value → World → Prop}
    (hq : Q (.bool (decide (0 ≤ i ∧ i < n.hosts))) (pushObj H (.cells #[p0 b] 25 (0, 0)))) : FW X 43 #[p0 b, .slice (some ⟨r, 0, none⟩) 1 1] H Q := by
  refine FW.walk (by simp [X, sp17_no]) Try.func43 Try.ntmps43 rfl (by simp) ?_
  have hrl := getO_lt hr
  have hbl := getO_lt hn
  simp
  refine contains39 (l := [i]) (cs := [p0 (szO H)]) (p := fun x => decide (x < 0 ∨ n.hosts ≤ x)) (Rd.row (e := e) (fr := fr) ?_) (by simp) (by simp) (fun x Q => has59 (b := b) (n := n) (vn := vn) (vf := vf) ?_ ?_ x Q) ?_
  · simp; rw [if_neg (by omega)]; exact hr
  · rw [get_push, if_neg (by omega)]; exact hn
  · simp
  have e : ([i].any fun x => decide (x < 0 ∨ n.hosts ≤ x)) = !decide (0 ≤ i ∧ i < n.hosts) := by
    rw [Bool.eq_iff_iff]; simp
  rw [e]
  generalize decide (0 ≤ i ∧ i < n.hosts) = d at *
  simp
  exact hq
/-! ### Link -/
def eLink (n : NN) (x y : Int) : Int := if ¬ hasB n x y then 7 else if x = y then 10 else 0
def rLink (n : NN) (x y : Int) : Lk := if eLink n x y = 0 then lnk n x y else ⟨0, 0, 0, 0⟩
set_option maxRecDepth 100000 in
theorem link15 {H : World} {b : Nat} {n : NN} {vn vf : Value} (st : NSt H b n vn vf) (h16 : n.hosts ≤ 16) (x y : Int) {Q : Value → World → Prop}
    (hq : ∀ H', NSt H' b n vn vf → FrN H H' b vf vf → Q (.tuple #[encLk (rLink n x y), .int .i64 (eLink n x y)]) H') : FW X 15 #[p0 b, .int .i64 x, .int .i64 y] H Q := by
  refine FW.walk (by simp [X, sp17_no]) Try.func15 Try.ntmps15 rfl (by simp) ?_
  have st1 := st.push (.cells (encLk ⟨0, 0, 0, 0⟩).cells 32 (0, 0))
  have fr1 : FrN H (pushObj H (.cells (encLk ⟨0, 0, 0, 0⟩).cells 32 (0, 0))) b vf vf := FrN.push _
  have g7 : getO (pushObj H (.cells (encLk ⟨0, 0, 0, 0⟩).cells 32 (0, 0))) H.heap.size = some (.cells (encLk ⟨0, 0, 0, 0⟩).cells 32 (0, 0)) := by rw [get_push, if_pos rfl]
  have nf := st.fresh (i := H.heap.size) (Nat.le_refl _)
  simp [szO, allocX]
  change NSt (pushObj H (.cells #[.int .i64 0, .int .i64 0, .int .i64 0, .int .i64 0] 32 (0, 0))) b n vn vf at st1
  change FrN H (pushObj H (.cells #[.int .i64 0, .int .i64 0, .int .i64 0, .int .i64 0] 32 (0, 0))) b vf vf at fr1
  change getO (pushObj H (.cells #[.int .i64 0, .int .i64 0, .int .i64 0, .int .i64 0] 32 (0, 0))) H.heap.size = some (.cells #[.int .i64 0, .int .i64 0, .int .i64 0, .int .i64 0] 32 (0, 0)) at g7
  generalize hH1 : pushObj H (.cells #[.int .i64 0, .int .i64 0, .int .i64 0, .int .i64 0] 32 (0, 0)) = H1 at *
  generalize hm : H.heap.size = m at *
  have gr : getO (pushObj H1 (.cells #[.int .i64 x, .int .i64 y] 3 (0, 0))) H1.heap.size = some (.cells #[.int .i64 x, .int .i64 y] 3 (0, 0)) := by rw [get_push, if_pos rfl]
  have st2 := st1.push (.cells #[.int .i64 x, .int .i64 y] 3 (0, 0))
  have fr2 := fr1.trans (FrN.push (.cells #[.int .i64 x, .int .i64 y] 3 (0, 0)))
  have lm := getO_lt g7
  have g72 : getO (pushObj H1 (.cells #[.int .i64 x, .int .i64 y] 3 (0, 0))) m = some (.cells #[.int .i64 0, .int .i64 0, .int .i64 0, .int .i64 0] 32 (0, 0)) := by rw [get_push, if_neg (by omega)]; exact g7
  simp [szO, buildSliceX, inOrder, catCells]
  generalize hH2 : pushObj H1 (.cells #[.int .i64 x, .int .i64 y] 3 (0, 0)) = H2 at *
  refine has43 st2.net gr ?_
  have st3 := st2.push (.cells #[p0 b] 25 (0, 0))
  have fr3 : FrN H (pushObj H2 (.cells #[p0 b] 25 (0, 0))) b vf vf := fr2.trans (FrN.push _)
  have g73 : getO (pushObj H2 (.cells #[p0 b] 25 (0, 0))) m = some (.cells #[.int .i64 0, .int .i64 0, .int .i64 0, .int .i64 0] 32 (0, 0)) := by have := getO_lt g72; rw [get_push, if_neg (by omega)]; exact g72
  generalize hH3 : pushObj H2 (.cells #[p0 b] 25 (0, 0)) = H3 at *
  have lm3 := getO_lt g73
  by_cases hh : hasB n x y
  rotate_left
  · have e : eLink n x y = 7 := by simp [eLink, hh]
    have e1 : rLink n x y = ⟨0, 0, 0, 0⟩ := by simp [rLink, e]
    rw [e, e1] at hq
    have hd : decide (0 ≤ x ∧ x < n.hosts ∧ 0 ≤ y ∧ y < n.hosts) = false := decide_eq_false hh
    rw [hd]
    simp [g73, buildQ, fillX, Value.cells, overL, lm3]
    exact hq _ (st3.setO' _ nf.1 nf.2.1 nf.2.2) (fr3.setFresh _ (by omega))
  have hd : decide (0 ≤ x ∧ x < n.hosts ∧ 0 ≤ y ∧ y < n.hosts) = true := decide_eq_true hh
  rw [hd]
  by_cases hxy : x = y
  · have e : eLink n x y = 10 := by simp [eLink, hh, hxy]; simpa [hxy] using hh
    have e1 : rLink n x y = ⟨0, 0, 0, 0⟩ := by simp [rLink, e]
    rw [e, e1] at hq
    have hxd : decide (x = y) = true := decide_eq_true hxy
    simp [hxd, g73, buildQ, fillX, Value.cells, overL, lm3]
    exact hq _ (st3.setO' _ nf.1 nf.2.1 nf.2.2) (fr3.setFresh _ (by omega))
  have e : eLink n x y = 0 := by simp [eLink, hh, hxy]
  have e1 : rLink n x y = lnk n x y := by simp [rLink, e]
  rw [e, e1] at hq
  have hxd : decide (x = y) = false := decide_eq_false hxy
  obtain ⟨x0, x1, y0, y1⟩ := hh
  have x16 : x < 16 := by omega
  have y16 : y < 16 := by omega
  have hn3 := st3.net
  have cl := cN_lnk (vn := vn) (vf := vf) st3.wf x0 x16 y0 y16 rfl
  have hlo : 9 + x.toNat * 64 + y.toNat * 4 + 4 ≤ (cellsN n vn vf).length := cN_le st3.wf (by omega)
  simp [hxd, hn3, idxP, x0, x16, y0, y16, hlo, cl, g73, Value.cells, overL, lm3]
  exact hq _ (st3.setO' _ nf.1 nf.2.1 nf.2.2) (fr3.setFresh _ (by omega))
/-! ### Down, Up -/
def eTurn (n : NN) (x : Int) (d : Bool) : Int := if ¬ (0 ≤ x ∧ x < n.hosts) then 7 else if dwn n x = d then 9 else 0
def pTurn (n : NN) (x : Int) (d : Bool) : NN := if eTurn n x d = 0 then { n with down := n.down.set x.toNat d } else n
set_option maxRecDepth 100000 in
theorem turn49 {H : World} {b : Nat} {n : NN} {vn vf : Value} (st : NSt H b n vn vf) (h16 : n.hosts ≤ 16) (x : Int) (d : Bool) {Q : Value → World → Prop}
    (hq : ∀ H', NSt H' b (pTurn n x d) vn vf → FrN H H' b vf vf → Q (.int .i64 (eTurn n x d)) H') : FW X 49 #[p0 b, .int .i64 x, .bool d] H Q := by
  refine FW.walk (by simp [X, sp17_no]) Try.func49 Try.ntmps49 rfl (by simp) ?_
  have gr : getO (pushObj H (.cells #[.int .i64 x] 3 (0, 0))) H.heap.size = some (.cells #[.int .i64 x] 3 (0, 0)) := by rw [get_push, if_pos rfl]
  have st2 := st.push (.cells #[.int .i64 x] 3 (0, 0))
  have fr2 : FrN H (pushObj H (.cells #[.int .i64 x] 3 (0, 0))) b vf vf := FrN.push _
  simp [szO, buildSliceX, inOrder, catCells]
  generalize hH2 : pushObj H (.cells #[.int .i64 x] 3 (0, 0)) = H2 at *
  refine has43a st2.net gr ?_
  have st3 := st2.push (.cells #[p0 b] 25 (0, 0))
  have fr3 : FrN H (pushObj H2 (.cells #[p0 b] 25 (0, 0))) b vf vf := fr2.trans (FrN.push _)
  generalize hH3 : pushObj H2 (.cells #[p0 b] 25 (0, 0)) = H3 at *
  by_cases hh : 0 ≤ x ∧ x < n.hosts
  rotate_left
  · have e : eTurn n x d = 7 := by unfold eTurn; rw [if_pos hh]
    have e1 : pTurn n x d = n := by simp [pTurn, e]
    rw [e, e1] at hq
    rw [decide_eq_false hh]
    simp
    exact hq _ st3 fr3
  rw [decide_eq_true hh]
  obtain ⟨x0, x1⟩ := hh
  have x16 : x < 16 := by omega
  have hn3 := st3.net
  have lb3 := getO_lt hn3
  have cd := cN_dwn (vn := vn) (vf := vf) st3.wf x0 x16 (k := 1049 + x.toNat) rfl
  have hnn : ¬ ¬ (0 ≤ x ∧ x < n.hosts) := fun h => h ⟨x0, x1⟩
  by_cases hdd : dwn n x = d
  · have e : eTurn n x d = 9 := by unfold eTurn; rw [if_neg hnn, if_pos hdd]
    have e1 : pTurn n x d = n := by simp [pTurn, e]
    rw [e, e1] at hq
    have hbe : (dwn n x == d) = true := by rw [hdd]; exact beq_self_eq_true d
    simp [hn3, idxP, x0, x16, cd, bX_beql Try.underlying4, hbe, -beq_iff_eq]
    exact hq _ st3 fr3
  have e : eTurn n x d = 0 := by unfold eTurn; rw [if_neg hnn, if_neg hdd]
  have e1 : pTurn n x d = { n with down := n.down.set x.toNat d } := by simp [pTurn, e]
  rw [e, e1] at hq
  have sl := sN_down (vn := vn) (vf := vf) st3.wf (i := x.toNat) (by omega) d
  have hlo : 1049 + x.toNat + 1 ≤ (cellsN n vn vf).length := cN_le st3.wf (by omega)
  have st4 := st3.write { n with down := n.down.set x.toNat d } ⟨st3.wf.links, st3.wf.sides, by simp [st3.wf.down]⟩ rfl rfl
  have hbe : (dwn n x == d) = false := beq_eq_false_iff_ne.2 hdd
  simp [hn3, idxP, x0, x16, cd, bX_beql Try.underlying4, hbe, hlo, lb3, overL, sl]
  exact hq _ st4 (fr3.trans (FrN.setB _))
set_option maxRecDepth 100000 in
theorem down32 {H : World} {b : Nat} {n : NN} {vn vf : Value} (st : NSt H b n vn vf) (h16 : n.hosts ≤ 16) (x : Int) {Q : Value → World → Prop}
    (hq : ∀ H', NSt H' b (pTurn n x true) vn vf → FrN H H' b vf vf → Q (.int .i64 (eTurn n x true)) H') : FW X 32 #[p0 b, .int .i64 x] H Q := by
  refine FW.walk (by simp [X, sp17_no]) Try.func32 Try.ntmps32 rfl (by simp) ?_
  simp
  refine turn49 st h16 x true fun H' st' fr' => ?_
  simp
  exact hq _ st' fr'
set_option maxRecDepth 100000 in
theorem up34 {H : World} {b : Nat} {n : NN} {vn vf : Value} (st : NSt H b n vn vf) (h16 : n.hosts ≤ 16) (x : Int) {Q : Value → World → Prop}
    (hq : ∀ H', NSt H' b (pTurn n x false) vn vf → FrN H H' b vf vf → Q (.int .i64 (eTurn n x false)) H') : FW X 34 #[p0 b, .int .i64 x] H Q := by
  refine FW.walk (by simp [X, sp17_no]) Try.func34 Try.ntmps34 rfl (by simp) ?_
  simp
  refine turn49 st h16 x false fun H' st' fr' => ?_
  simp
  exact hq _ st' fr'
/-! ### Heal, Part -/
def pHeal (n : NN) : NN := { n with sides := List.replicate 16 0 }
set_option maxRecDepth 100000 in
theorem heal30 {H : World} {b : Nat} {n : NN} {vn vf : Value} (st : NSt H b n vn vf) {Q : Value → World → Prop}
    (hq : ∀ H', NSt H' b (pHeal n) vn vf → FrN H H' b vf vf → Q (.int .i64 0) H') : FW X 30 #[p0 b] H Q := by
  refine FW.walk (by simp [X, sp17_no]) Try.func30 Try.ntmps30 rfl (by simp) ?_
  have hn3 := st.net
  have lb3 := getO_lt hn3
  have os := oN_sides (vn := vn) (vf := vf) st.wf (l := List.replicate 16 0) (by simp)
  have hd : n.sides.drop 16 = [] := List.drop_eq_nil_of_le (by rw [st.wf.sides]; exact Nat.le_refl _)
  have hlo : 1033 + 16 ≤ (cellsN n vn vf).length := cN_le st.wf (by omega)
  have st4 := st.write (pHeal n) ⟨st.wf.links, List.length_replicate, st.wf.down⟩ rfl rfl
  have os' : overL (cellsN n vn vf).toArray 1033 [.int .i64 0, .int .i64 0, .int .i64 0, .int .i64 0, .int .i64 0, .int .i64 0, .int .i64 0, .int .i64 0, .int .i64 0, .int .i64 0, .int .i64 0, .int .i64 0, .int .i64 0, .int .i64 0, .int .i64 0, .int .i64 0] = (cellsN (pHeal n) vn vf).toArray := by
    refine os.trans ?_
    rw [List.length_replicate, hd, List.append_nil]; rfl
  simp [buildQ, fillX, hn3, lb3, hlo, Value.cells, os', -overL_cons]
  exact hq _ st4 (FrN.setB _)
def ePart (n : NN) (l : List Int) : Int := if (l.any fun x => decide (x < 0)) = true then 7 else if (l.length : Int) ≠ n.hosts then 11 else 0
def pPart (n : NN) (l : List Int) : NN := if ePart n l = 0 then { n with sides := l ++ n.sides.drop l.length } else n
theorem part48 (H : World) (i : Int) (Q : Value → World → Prop) : FW X 48 #[.int .i64 i] H Q = Q (.bool (decide (i < 0))) H := by
  refine FW.aloneEq ?_ Try.func48 Try.ntmps48 rfl (by simp) ?_ H Q
  · simp [X, plainDI]
  simp
set_option maxRecDepth 100000 in
theorem part28 {H : World} {b : Nat} {n : NN} {vn vf : Value} (st : NSt H b n vn vf) (h1 : 1 ≤ n.hosts) (h16 : n.hosts ≤ 16) (o : Option (List Int)) (hl : (o.getD []).length < 2 ^ 62) {Q : Value → World → Prop}
    (hq : ∀ H', NSt H' b (pPart n (o.getD [])) vn vf → FrN H H' b vf vf → Q (.int .i64 (ePart n (o.getD []))) H') : FW X 28 #[p0 b, sidesV o] H Q := by
  have rd : Rd H (sidesV o) (o.getD []) := Rd.slV
  have hvlen := fun H0 => rd.len H0
  have hcp := fun (hs : (o.map fun l => l.map (Value.int .i64)).isSome = true) (hn : (o.getD []).length ≤ 16) => copy_vs (H := H) Try.prog (t1 := 29) (t2 := 29) (e := 3) (r := b) (o := 1033) (n := 16) (c := 16) (es := 1) (fr := (0, 0)) (x := o.map fun l => l.map (Value.int .i64)) Try.underlying29 info3 rfl st.net rfl (by rw [getD_mapI]; exact hn)
  have hfl : ((o.map fun l => l.map (Value.int .i64)).getD []).flatMap (fun v => v.cells.toList) = (o.getD []).map (Value.int .i64) := by
    cases o with
    | none => rfl
    | some l => simp [List.flatMap_map]; rw [List.map_eq_flatMap]
  have hsm : (o.map fun l => l.map (Value.int .i64)).isSome = o.isSome := by cases o <;> rfl
  rw [hfl, hsm, getD_mapI] at hcp
  have hson : (o.getD []).length ≠ 0 → o.isSome = true := fun h => by cases o with
    | none => exact absurd rfl h
    | some l => rfl
  have hv : slV 1 (o.map fun l => l.map (Value.int .i64)) = sidesV o := rfl
  rw [hv] at hcp
  clear hfl hsm
  generalize sidesV o = v at *
  generalize hb : o.isSome = ob at *
  generalize hlo : o.getD [] = l at *
  refine FW.walk (by simp [X, sp17_no]) Try.func28 Try.ntmps28 rfl (by simp) ?_
  simp
  refine contains39 (l := l) (cs := []) (p := fun x => decide (x < 0)) rd (by omega) (by simp) (fun x Q => by simpa using part48 H x Q) ?_
  cases hany : (l.any fun x => decide (x < 0)) with
  | true =>
    have e : ePart n l = 7 := by simp [ePart, hany]
    have e1 : pPart n l = n := by simp [pPart, e]
    rw [e, e1] at hq
    simp
    exact hq _ st FrN.refl
  | false =>
  have hn := st.net
  by_cases hsz : (l.length : Int) = n.hosts
  rotate_left
  · have e : ePart n l = 11 := by simp [ePart, hany, hsz]
    have e1 : pPart n l = n := by simp [pPart, e]
    rw [e, e1] at hq
    simp [hvlen, hn, hsz]
    exact hq _ st FrN.refl
  have e : ePart n l = 0 := by simp [ePart, hany, hsz]
  have e1 : pPart n l = { n with sides := l ++ n.sides.drop l.length } := by simp [pPart, e]
  rw [e, e1] at hq
  have hlb := getO_lt hn
  have os := oN_sides (vn := vn) (vf := vf) st.wf (l := l) (by omega)
  have hc := hcp (hson (by omega)) (by omega) (by simp [cN_size st.wf]; omega) (by simp [Value.oneCell']) (hson (by omega))
  rw [os] at hc
  have sa := slice_arr Try.prog (t := 74) (e := 3) (n := 16) (o := 1033) Try.underlying74 info3 hn
  have st4 := st.write { n with sides := l ++ n.sides.drop l.length } ⟨st.wf.links, by simp [st.wf.sides]; omega, st.wf.down⟩ rfl rfl
  simp [hvlen, hn, hsz, sa, hc]
  exact hq _ st4 (FrN.setB _)
/-! ### Reach, IsUp, Used -/
def eReach (n : NN) (x y : Int) : Int := if ¬ hasB n x y then 7 else 0
def rReach (n : NN) (x y : Int) : Bool := if eReach n x y = 0 then !dwn n x && !dwn n y && decide (sid n x = sid n y) else false
set_option maxRecDepth 100000 in
theorem reach35 {H : World} {b : Nat} {n : NN} {vn vf : Value} (st : NSt H b n vn vf) (h16 : n.hosts ≤ 16) (x y : Int) {Q : Value → World → Prop}
    (hq : ∀ H', NSt H' b n vn vf → FrN H H' b vf vf → Q (.tuple #[.bool (rReach n x y), .int .i64 (eReach n x y)]) H') : FW X 35 #[p0 b, .int .i64 x, .int .i64 y] H Q := by
  refine FW.walk (by simp [X, sp17_no]) Try.func35 Try.ntmps35 rfl (by simp) ?_
  have gr : getO (pushObj H (.cells #[.int .i64 x, .int .i64 y] 3 (0, 0))) H.heap.size = some (.cells #[.int .i64 x, .int .i64 y] 3 (0, 0)) := by rw [get_push, if_pos rfl]
  have st2 := st.push (.cells #[.int .i64 x, .int .i64 y] 3 (0, 0))
  have fr2 : FrN H (pushObj H (.cells #[.int .i64 x, .int .i64 y] 3 (0, 0))) b vf vf := FrN.push _
  simp [szO, buildSliceX, inOrder, catCells]
  generalize hH2 : pushObj H (.cells #[.int .i64 x, .int .i64 y] 3 (0, 0)) = H2 at *
  refine has43 st2.net gr ?_
  have st3 := st2.push (.cells #[p0 b] 25 (0, 0))
  have fr3 : FrN H (pushObj H2 (.cells #[p0 b] 25 (0, 0))) b vf vf := fr2.trans (FrN.push _)
  generalize hH3 : pushObj H2 (.cells #[p0 b] 25 (0, 0)) = H3 at *
  by_cases hh : hasB n x y
  rotate_left
  · have e : eReach n x y = 7 := by simp [eReach, hh]
    have e1 : rReach n x y = false := by simp [rReach, e]
    rw [e, e1] at hq
    have hd : decide (0 ≤ x ∧ x < n.hosts ∧ 0 ≤ y ∧ y < n.hosts) = false := decide_eq_false hh
    rw [hd]
    simp
    exact hq _ st3 fr3
  have hd : decide (0 ≤ x ∧ x < n.hosts ∧ 0 ≤ y ∧ y < n.hosts) = true := decide_eq_true hh
  rw [hd]
  have e : eReach n x y = 0 := by simp [eReach, hh]
  have e1 : rReach n x y = (!dwn n x && !dwn n y && decide (sid n x = sid n y)) := by simp [rReach, e]
  rw [e, e1] at hq
  obtain ⟨x0, x1, y0, y1⟩ := hh
  have x16 : x < 16 := by omega
  have y16 : y < 16 := by omega
  have hn3 := st3.net
  have cx := cN_dwn (vn := vn) (vf := vf) st3.wf x0 x16 (k := 1049 + x.toNat) rfl
  have cy := cN_dwn (vn := vn) (vf := vf) st3.wf y0 y16 (k := 1049 + y.toNat) rfl
  have sx := cN_sid (vn := vn) (vf := vf) st3.wf x0 x16 (k := 1033 + x.toNat) rfl
  have sy := cN_sid (vn := vn) (vf := vf) st3.wf y0 y16 (k := 1033 + y.toNat) rfl
  simp
  refine WP.draw0 (by decide +kernel) (by decide +kernel) ?_
  cases hdx : dwn n x with
  | true =>
    rw [hdx] at hq cx
    simp [hn3, idxP, x0, x16, y0, y16, cx]
    exact hq _ st3 fr3
  | false =>
  cases hdy : dwn n y with
  | true =>
    rw [hdx, hdy] at hq
    rw [hdx] at cx
    rw [hdy] at cy
    simp [hn3, idxP, x0, x16, y0, y16, cx, cy]
    exact hq _ st3 fr3
  | false =>
    rw [hdx, hdy] at hq
    rw [hdx] at cx
    rw [hdy] at cy
    simp [hn3, idxP, x0, x16, y0, y16, cx, cy, sx, sy]
    simpa using hq _ st3 fr3
def isUp (n : NN) (x : Int) : Bool := decide (0 ≤ x ∧ x < n.hosts) && !dwn n x
set_option maxRecDepth 100000 in
theorem isup51 {H : World} {b : Nat} {n : NN} {vn vf : Value} (st : NSt H b n vn vf) (h16 : n.hosts ≤ 16) (x : Int) {Q : Value → World → Prop}
    (hq : ∀ H', NSt H' b n vn vf → FrN H H' b vf vf → Q (.bool (isUp n x)) H') : FW X 51 #[p0 b, .int .i64 x] H Q := by
  refine FW.walk (by simp [X, sp17_no]) Try.func51 Try.ntmps51 rfl (by simp) ?_
  have gr : getO (pushObj H (.cells #[.int .i64 x] 3 (0, 0))) H.heap.size = some (.cells #[.int .i64 x] 3 (0, 0)) := by rw [get_push, if_pos rfl]
  have st2 := st.push (.cells #[.int .i64 x] 3 (0, 0))
  have fr2 : FrN H (pushObj H (.cells #[.int .i64 x] 3 (0, 0))) b vf vf := FrN.push _
  have nn := fun (x y : Operand) (H0 : World) => (bX_ptr_nil (P := Try.prog) (t := 25) (x := x) (y := y) (H := H0) (a := ⟨b, 0, none⟩) Try.underlying25).2
  simp [szO, buildSliceX, inOrder, catCells, nn]
  generalize hH2 : pushObj H (.cells #[.int .i64 x] 3 (0, 0)) = H2 at *
  refine has43a st2.net gr ?_
  have st3 := st2.push (.cells #[p0 b] 25 (0, 0))
  have fr3 : FrN H (pushObj H2 (.cells #[p0 b] 25 (0, 0))) b vf vf := fr2.trans (FrN.push _)
  generalize hH3 : pushObj H2 (.cells #[p0 b] 25 (0, 0)) = H3 at *
  by_cases hh : 0 ≤ x ∧ x < n.hosts
  rotate_left
  · have e1 : isUp n x = false := by unfold isUp; rw [decide_eq_false hh]; rfl
    rw [e1] at hq
    rw [decide_eq_false hh]
    simp
    exact hq _ st3 fr3
  have e1 : isUp n x = !dwn n x := by unfold isUp; rw [decide_eq_true hh]; rfl
  rw [e1] at hq
  rw [decide_eq_true hh]
  obtain ⟨x0, x1⟩ := hh
  have x16 : x < 16 := by omega
  have hn3 := st3.net
  have cx := cN_dwn (vn := vn) (vf := vf) st3.wf x0 x16 (k := 1049 + x.toNat) rfl
  simp [hn3, idxP, x0, x16, cx]
  exact hq _ st3 fr3
set_option maxRecDepth 100000 in
theorem used54 {H : World} {b : Nat} {n : NN} {vn vf : Value} (st : NSt H b n vn vf) {Q : Value → World → Prop} (hq : Q (.int .i64 n.used) H) : FW X 54 #[p0 b] H Q := by
  refine FW.walk (by simp [X, sp17_no]) Try.func54 Try.ntmps54 rfl (by simp) ?_
  have h := st.net
  simp [h]
  exact hq
end Go.Proofs.Ytmmmdmandocbhaa
end
