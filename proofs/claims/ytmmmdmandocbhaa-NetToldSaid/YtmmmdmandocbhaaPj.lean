/- Helpers of this claim: an evaluator over plain values and its laws. -/
import Derived.Test.YtmmmdmandocbhaaPi
section
set_option linter.unusedVariables false
set_option linter.unusedSimpArgs false
namespace Go.Proofs.Ytmmmdmandocbhaa
open Go Go.Proofs.Ytmmmdmandocbhaa.Den
theorem fls_time {H : World} {r : Nat} {pre l : List Fl} (hr : getO H r = some (.cells (flatE encF (pre ++ l)).toArray 83 (1, 0))) {i j : Nat} (hi : i < l.length) (hj : j < 6) :
    (flatE encF (pre ++ l))[pre.length * 6 + i * 6 + j]? = (cellsF l[i])[j]? := by
  have hlt : pre.length + i < (pre ++ l).length := by simp; omega
  have h1 := flatE_get encF_size (pre ++ l) hlt hj
  rw [List.getElem_append_right (by omega)] at h1
  simp only [Nat.add_sub_cancel_left] at h1
  rw [show pre.length * 6 + i * 6 + j = (pre.length + i) * 6 + j by omega, h1]
  rfl
/-- The first flight is cut off. -/
theorem fls_tail {H : World} {v : Value} {f : Fl} {l : List Fl} (h : Fls H v (f :: l)) : ∃ r o, v = .slice (some ⟨r, o, none⟩) (l.length + 1) (l.length + 1) ∧ sliceX Try.prog 76 v (some (.int .i64 1)) none none H = some (.value (.slice (some ⟨r, o + 6, none⟩) l.length l.length), H) ∧ Fls H (.slice (some ⟨r, o + 6, none⟩) l.length l.length) l ∧
    indexAddrQ Try.prog 76 v (.int .i64 0) = some (.pointer (some ⟨r, o, none⟩)) ∧ loadX Try.prog 83 (.pointer (some ⟨r, o, none⟩)) H = some (.value (encF f), H) ∧ loadX Try.prog 3 (.pointer (some ⟨r, o + 3, none⟩)) H = some (.value (.int .i64 f.time), H) := by
  rcases h with ⟨_, h⟩ | ⟨r, pre, rfl, hr⟩
  · cases h
  · refine ⟨r, pre.length * 6, by simp, ?_, ?_, ?_, ?_, ?_⟩
    · have hl : (flatE encF (pre ++ f :: l)).length = pre.length * 6 + (l.length + 1) * 6 := by rw [flatE_len encF_size]; simp; omega
      have := slice_heap Try.prog (t := 76) (e := 83) (r := r) (o := pre.length * 6) (n := l.length + 1) (c := l.length + 1) (l := 1) (h := l.length + 1) (lo := some (.int .i64 1)) (hi := none) (fr := (1, 0)) (inf := Try.t83) (H := H) Try.underlying76 info83 hr rfl (by omega) (by simp [vBound]) (by simp [vBound]; omega)
      simpa using this
    · refine .inr ⟨r, pre ++ [f], by simp [Nat.add_mul], ?_⟩
      rw [List.append_assoc]; exact hr
    · simp [idxS]
    · have := fls_load hr (i := 0) (by simp)
      simpa using this
    · have := fls_time hr (i := 0) (j := 3) (by simp) (by decide)
      simp at this
      simp [hr, this]
theorem NSt.cut {H : World} {b : Nat} {n : NN} {vn : Value} {r o m c o2 m2 c2 : Nat} {l : List Fl} (st : NSt H b n vn (.slice (some ⟨r, o, none⟩) m c)) (hf : Fls H (.slice (some ⟨r, o2, none⟩) m2 c2) l) :
    NSt (setO H b (netO { n with fl := l } vn (.slice (some ⟨r, o2, none⟩) m2 c2))) b { n with fl := l } vn (.slice (some ⟨r, o2, none⟩) m2 c2) := by
  have hb := getO_lt st.net
  have hrb : b ≠ r := st.apf _ _ _ _ rfl
  have ap : ∀ j, ApO (.slice (some ⟨r, o, none⟩) m c) j → ApO (.slice (some ⟨r, o2, none⟩) m2 c2) j := fun j h r' o' n' c' e => by cases e; exact h _ _ _ _ rfl
  refine ⟨by rw [get_set, if_pos rfl, if_pos hb], ⟨st.wf.links, st.wf.sides, st.wf.down⟩, st.nums.imp fun r o m c e x hx => ?_, hf.imp fun r' o m c e x hx => ?_, st.apn, ap _ st.apf, fun r o m c e => ap _ (st.apx _ _ _ _ e)⟩
  · rw [get_set, if_neg (fun e' => st.apn _ _ _ _ e e'.symm)]; exact hx
  · cases e
    rw [get_set, if_neg (fun e' => hrb e'.symm)]; exact hx
@[simp] theorem stepY {n : Nat} {dsts : List (Option Tmp)} {l : List Oper} {e : Env} {d : Option Tmp} {K : Env → World → Prop} {r : Nat} {args : Array Value} {H : World} : stepX X n dsts l e d (callX Try.prog (.func (.yield r) #[] #[]) args H) K = yieldW X r args H fun v H2 => OX X n dsts l (putE e d v) H2 K := stepX_yield'
structure DI (b c1 c2 y : Nat) (fl : List Fl) (time : Int) (S : Nat → World → Prop) (d : Nat) (e : Env) (H : World) : Prop where
  e0 : lk e 0 = .func (.yield y) #[] #[]
  e1 : lk e 1 = p0 c1
  e2 : lk e 2 = p0 c2
  k : ∃ k, d = fl.length - k ∧ k ≤ fl.length ∧ S k H ∧ ∀ j (hj : j < fl.length), j < k → fl[j].time ≤ time
set_option maxRecDepth 100000 in
theorem due58 {H : World} {b c1 c2 y : Nat} {time : Int} {vn : Value} {fl : List Fl} (S : Nat → World → Prop)
    (hstep : ∀ k Hx, S k Hx → ∃ n vf, NSt Hx b n vn vf ∧ n.fl = fl.drop k ∧ getO Hx c1 = some (.cells #[p0 b] 25 (0, 0)) ∧ getO Hx c2 = some (.cells #[.int .i64 time] 3 (0, 0)) ∧
      ∀ Hy vf' (hk : k < fl.length), fl[k].time ≤ time → NSt Hy b { n with fl := fl.drop (k + 1) } vn vf' → FrN Hx Hy b vf vf' → Hy.heap.size = Hx.heap.size + 1 → (∀ j, ApO vf j → ApO vf' j) → yieldW X y #[encF fl[k]] Hy fun v Hz => v = .bool true ∧ S (k + 1) Hz)
    {Q : Value → World → Prop} (h0 : S 0 H)
    (hq : ∀ k Hx, k ≤ fl.length → S k Hx → (∀ hk : k < fl.length, ¬ fl[k].time ≤ time) → (∀ j (hj : j < fl.length), j < k → fl[j].time ≤ time) → Q (.tuple #[]) Hx) : FW X 58 #[.func (.yield y) #[] #[], p0 c1, p0 c2] H Q := by
  refine FW.walk (by simp [X, sp17_no]) Try.func58 Try.ntmps58 rfl (by simp) ?_
  simp
  refine CE.inv (DI b c1 c2 y fl time S) ?_ (d := fl.length) ⟨by simp, by simp, by simp, 0, rfl, Nat.zero_le _, h0, fun j _ h => absurd h (by omega)⟩
  rintro d e Hx ⟨e0, e1, e2, k, rfl, hk, hS, hle⟩
  obtain ⟨n, vf, st, hfl, g1, g2, htk⟩ := hstep k Hx hS
  have hn := st.net
  have c9 := cN_fl (vn := vn) (vf := vf) st.wf
  have hlen := fun H0 => st.fl.len (H0 := H0)
  simp
  refine WP.draw0 (by decide +kernel) (by decide +kernel) ?_
  by_cases hkl : k < fl.length
  rotate_left
  · have hl0 : n.fl.length = 0 := by rw [hfl]; simp; omega
    simp [e0, e1, e2, g1, g2, hn, c9, hlen, hl0]
    exact hq k Hx hk hS (fun h => absurd h hkl) hle
  have hcons : n.fl = fl[k] :: fl.drop (k + 1) := by rw [hfl]; exact List.drop_eq_getElem_cons hkl
  have hfs := st.fl
  rw [hcons] at hfs
  obtain ⟨r, o, rfl, t1, t2, t3, t4, t5⟩ := fls_tail hfs
  generalize hL : fl.drop (k + 1) = L at *
  have hl1 : n.fl.length = L.length + 1 := by rw [hcons]; rfl
  have hpos : 0 < n.fl.length := by omega
  by_cases ht : fl[k].time ≤ time
  rotate_left
  · have htd : decide (fl[k].time ≤ time) = false := decide_eq_false ht
    simp [e0, e1, e2, g1, g2, hn, c9, hpos, t3, t5, htd, hlen]
    exact hq k Hx hk hS (fun _ => ht) hle
  have htd : decide (fl[k].time ≤ time) = true := decide_eq_true ht
  have st1 := st.push (.cells (cellsF fl[k]) 83 (0, 0))
  have fr1 : FrN Hx (pushObj Hx (.cells (cellsF fl[k]) 83 (0, 0))) b (.slice (some ⟨r, o, none⟩) (L.length + 1) (L.length + 1)) (.slice (some ⟨r, o, none⟩) (L.length + 1) (L.length + 1)) := FrN.push _
  have hfs1 := st1.fl
  rw [hcons] at hfs1
  obtain ⟨r', o', e', t1', t2', _, _, _⟩ := fls_tail hfs1
  cases e'
  have gp : ∀ j o, getO Hx j = some o → getO (pushObj Hx (.cells (cellsF fl[k]) 83 (0, 0))) j = some o := fun j o hj => by
    have := getO_lt hj
    rw [get_push, if_neg (by omega)]; exact hj
  have g1' := gp _ _ g1
  have g4 : getO (pushObj Hx (.cells (cellsF fl[k]) 83 (0, 0))) Hx.heap.size = some (.cells (cellsF fl[k]) 83 (0, 0)) := by rw [get_push, if_pos rfl]
  have hz1 : (pushObj Hx (.cells (cellsF fl[k]) 83 (0, 0))).heap.size = Hx.heap.size + 1 := by simp
  have nb : ¬ Hx.heap.size = b := by have := getO_lt hn; omega
  simp [e0, e1, e2, g1, g2, hn, c9, hpos, t3, t4, t5, htd, hlen, allocX, szO, overL, Value.cells]
  generalize hH1 : pushObj Hx (.cells (cellsF fl[k]) 83 (0, 0)) = H1 at *
  generalize hm : Hx.heap.size = m at *
  have hn1 := st1.net
  have lb1 := getO_lt hn1
  have s9 := fun v => sN_fl (vn := vn) (vf := (.slice (some ⟨r, o, none⟩) (L.length + 1) (L.length + 1))) st.wf v
  have hz : 1066 ≤ (cellsN n vn (.slice (some ⟨r, o, none⟩) (L.length + 1) (L.length + 1))).length := cN_le st.wf (by decide)
  have st2 := st1.cut t2'
  have g42 : getO (setO H1 b (netO { n with fl := L } vn (.slice (some ⟨r, o + 6, none⟩) L.length L.length))) m = some (.cells (cellsF fl[k]) 83 (0, 0)) := by rw [get_set, if_neg nb]; exact g4
  have apx : ∀ j, ApO (.slice (some ⟨r, o, none⟩) (L.length + 1) (L.length + 1)) j → ApO (.slice (some ⟨r, o + 6, none⟩) L.length L.length) j := fun j h r' o' n' c' e => by cases e; exact h _ _ _ _ rfl
  have fr2 : FrN Hx (setO H1 b (netO { n with fl := L } vn (.slice (some ⟨r, o + 6, none⟩) L.length L.length))) b (.slice (some ⟨r, o, none⟩) (L.length + 1) (L.length + 1)) (.slice (some ⟨r, o + 6, none⟩) L.length L.length) :=
    ⟨fun j o h1 h2 h3 => by rw [get_set, if_neg h2]; exact fr1.keep j o h1 h2 h3, fun j h1 h2 h3 => apx j h3, by simp [hz1]; omega⟩
  have hy := htk _ _ hkl ht st2 fr2 (by simp [hz1, hm]) apx
  have hHy : setO H1 b (.cells (cellsN n vn (.slice (some ⟨r, o + 6, none⟩) L.length L.length)).toArray 78 (0, 0)) = setO H1 b (netO { n with fl := L } vn (.slice (some ⟨r, o + 6, none⟩) L.length L.length)) := rfl
  refine WP.draw0 (by decide +kernel) (by decide +kernel) ?_
  simp [e0, e1, g1', hn1, c9, t1', lb1, hz, s9, hHy, nb, g4]
  generalize hH2 : setO H1 b (netO { n with fl := L } vn (.slice (some ⟨r, o + 6, none⟩) L.length L.length)) = H2 at *
  refine yieldW.imp hy ?_
  rintro v Hz ⟨rfl, hS'⟩
  simp
  refine ⟨fl.length - (k + 1), by omega, by simp [e0], by simp [e1], by simp [e2], k + 1, rfl, by omega, hS', fun j hj hjk => ?_⟩
  by_cases e : j = k
  · subst e; exact ht
  · exact hle j hj (by omega)
end Go.Proofs.Ytmmmdmandocbhaa
end
