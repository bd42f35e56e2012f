/- Helpers of this claim: an evaluator over plain values and its laws. -/
import Derived.Test.YtlpoejkleopdoaaJc
section
set_option linter.unusedVariables false
set_option linter.unusedSimpArgs false
namespace Go.Proofs.Ytlpoejkleopdoaa
open Go Go.Proofs.Ytlpoejkleopdoaa.Den
theorem JSt.push {H : World} {jb mb : Nat} {most room : Int} {M : List (Op × Value)} (st : JSt H jb mb most room M) (o : Obj) : JSt (pushObj H o) jb mb most room M := by
  have lj := getO_lt st.hj
  refine ⟨by rw [get_push, if_neg (by omega)]; exact st.hj, st.hm.push o, fun x hx => ?_, st.hd⟩
  obtain ⟨h1, h2, h3⟩ := st.hb x hx
  exact ⟨Acc.push h1 o, h2, h3⟩
/-- What a take leaves alone. -/
structure Fram (H H' : World) (jb mb : Nat) (M M' : List (Op × Value)) : Prop where
  keep : ∀ j o, getO H j = some o → j ≠ jb → j ≠ mb → (∀ x ∈ M, Apart x.2 j) → getO H' j = some o
  apart : ∀ j, j < H.heap.size → (∀ x ∈ M, Apart x.2 j) → ∀ x ∈ M', Apart x.2 j
  size : H.heap.size ≤ H'.heap.size
theorem Fram.refl {H : World} {jb mb : Nat} {M : List (Op × Value)} : Fram H H jb mb M M := ⟨fun _ _ h _ _ _ => h, fun _ _ h => h, Nat.le_refl _⟩
theorem Fram.trans {H H' H2 : World} {jb mb : Nat} {M M' M2 : List (Op × Value)} (h : Fram H H' jb mb M M') (g : Fram H' H2 jb mb M' M2) : Fram H H2 jb mb M M2 :=
  ⟨fun j o h1 h2 h3 h4 => g.keep j o (h.keep j o h1 h2 h3 h4) h2 h3 (h.apart j (getO_lt h1) h4), fun j h1 h2 => g.apart j (Nat.lt_of_lt_of_le h1 h.size) (h.apart j h1 h2), Nat.le_trans h.size g.size⟩
theorem Fram.push {H : World} {jb mb : Nat} {M : List (Op × Value)} (o : Obj) : Fram H (pushObj H o) jb mb M M :=
  ⟨fun j x h _ _ _ => by have := getO_lt h; rw [get_push, if_neg (by omega)]; exact h, fun _ _ h => h, by simp⟩
theorem Acc.fresh {H : World} {v : Value} {es : Nat} {e : TypeId} {n : Nat} {cs : List Value} (h : Den.Acc H v es e n cs) {i : Nat} (hi : H.heap.size ≤ i) : Apart v i := fun r n c hv => by
  have := Acc.row_lt h hv
  omega
theorem JSt.set {H : World} {jb mb : Nat} {most room : Int} {M : List (Op × Value)} (st : JSt H jb mb most room M) {i : Nat} (o : Obj) (h1 : ¬ jb = i) (h2 : ¬ mb = i) (h3 : ∀ x ∈ M, Apart x.2 i) : JSt (setO H i o) jb mb most room M :=
  ⟨by rw [get_set, if_neg h1]; exact st.hj, st.hm.set o h2, fun x hx => have ⟨a, b, c⟩ := st.hb x hx; ⟨Acc.set a o (h3 x hx), b, c⟩, st.hd⟩
theorem Fram.forget {H H' : World} {jb mb : Nat} {M : List (Op × Value)} {id : Int} (h : ∀ j, j ≠ jb → j ≠ mb → getO H' j = getO H j) (hs : H'.heap.size = H.heap.size) : Fram H H' jb mb M (delP id M) :=
  ⟨fun j o h1 h2 h3 _ => by rw [h j h2 h3]; exact h1, fun j _ h2 x hx => h2 x (delP_mem hx), by omega⟩
theorem putP_mem {o x : Op × Value} : ∀ {M : List (Op × Value)}, x ∈ putP o M → x = o ∨ x ∈ delP o.1.id M
  | [], h => .inl (by simpa [putP] using h)
  | y :: L, h => by
    unfold putP at h
    unfold delP
    split at h
    · rename_i hy
      rw [if_pos hy]
      rcases List.mem_cons.1 h with rfl | h
      · exact .inl rfl
      · exact .inr h
    · rename_i hy
      rw [if_neg hy]
      rcases List.mem_cons.1 h with rfl | h
      · exact .inr List.mem_cons_self
      · rcases putP_mem h with h | h
        · exact .inl h
        · exact .inr (List.mem_cons_of_mem _ h)
theorem putP_pair {R : Op × Value → Op × Value → Prop} {o : Op × Value} : ∀ {M : List (Op × Value)}, M.Pairwise R → (∀ y ∈ delP o.1.id M, R o y ∧ R y o) → (putP o M).Pairwise R
  | [], h, _ => by simp [putP]
  | y :: L, h, ho => by
    rw [List.pairwise_cons] at h
    unfold putP
    unfold delP at ho
    split
    · rename_i hy
      rw [if_pos hy] at ho
      exact List.pairwise_cons.2 ⟨fun z hz => (ho z hz).1, h.2⟩
    · rename_i hy
      rw [if_neg hy] at ho
      refine List.pairwise_cons.2 ⟨fun z hz => ?_, putP_pair h.2 fun z hz => ho z (List.mem_cons_of_mem _ hz)⟩
      rcases putP_mem hz with rfl | hz
      · exact (ho y List.mem_cons_self).2
      · exact h.1 z (delP_mem hz)
theorem JSt.put {H H5 : World} {jb mb : Nat} {most room : Int} {M : List (Op × Value)} (st : JSt H jb mb most room M) {bv v' : Value} {x : Op} {n : Nat} {cs : List Value} (accv : Den.Acc H bv 1 5 n cs) (keepO : ∀ i o, getO H i = some o → Apart bv i → getO H5 i = some o) (acc' : AccB 5 H5 v' x.body) (hsz : H.heap.size ≤ H5.heap.size)
    (hap : ∀ i, Apart bv i → i < H.heap.size → Apart v' i) (ap1 : Apart bv jb) (ap2 : Apart bv mb) (ap3 : ∀ y ∈ delP x.id M, ApV bv y.2 ∧ ApV y.2 bv) (ap4 : ∀ j, (∀ y ∈ M, Apart y.2 j) → Apart bv j) {o : Obj}
    (hm : MapIs KI (setO (setO H5 jb (.cells #[.int .i64 most, .int .i64 room, .int .i64 (bytesO (putO x (M.map (·.1)))), .map (some mb)] 78 (0, 0))) mb o) mb (putM x.id (.agg #[v', .int .i64 x.count]) (M.map heldV))) :
    JSt (setO (setO H5 jb (.cells #[.int .i64 most, .int .i64 room, .int .i64 (bytesO (putO x (M.map (·.1)))), .map (some mb)] 78 (0, 0))) mb o) jb mb most room (putP (x, v') M) ∧
    Fram H (setO (setO H5 jb (.cells #[.int .i64 most, .int .i64 room, .int .i64 (bytesO (putO x (M.map (·.1)))), .map (some mb)] 78 (0, 0))) mb o) jb mb M (putP (x, v') M) := by
  have hne := st.ne
  have lj := getO_lt st.hj
  have lm := st.hm.lt
  obtain ⟨e1, e2⟩ := putP_1 (x, v') M
  have av : ∀ y ∈ delP x.id M, ApV v' y.2 ∧ ApV y.2 v' := fun y hy => by
    have h1 : ApV v' y.2 := fun r n c e => hap r ((ap3 y hy).1 r n c e) (Acc.row_lt (st.hb y (delP_mem hy)).1 e)
    refine ⟨h1, fun r n c e r' n' c' e' => ?_⟩
    have := h1 r' n' c' e' r n c e
    exact fun h => this h.symm
  refine ⟨⟨?_, by rw [e2]; exact hm, fun y hy => ?_, putP_pair st.hd fun y hy => ⟨av y hy, (av y hy).2, (av y hy).1⟩⟩, ⟨fun j z h1 h2 h3 h4 => ?_, fun j h1 h2 y hy => ?_, by simp; omega⟩⟩
  · rw [get_set, if_neg (fun e => hne e.symm), get_set, if_pos rfl, if_pos (by omega), e1]
  · rcases putP_mem hy with rfl | hy
    · have a1 := hap jb ap1 lj
      have a2 := hap mb ap2 lm
      exact ⟨Acc.set (Acc.set acc' _ a1) _ a2, a1, a2⟩
    · obtain ⟨h1, h2, h3⟩ := st.hb y (delP_mem hy)
      exact ⟨Acc.set (Acc.set (Acc.keep h1 keepO (ap3 y hy).1) _ h2) _ h3, h2, h3⟩
  · rw [get_set, if_neg h3, get_set, if_neg h2]
    exact keepO j z h1 (ap4 j h4)
  · rcases putP_mem hy with rfl | hy
    · exact hap j (ap4 j h2) h1
    · exact h2 y (delP_mem hy)
/-- What is boxed for a while: two rows more, the second filled. -/
theorem JSt.fresh {H : World} {jb mb : Nat} {most room : Int} {M : List (Op × Value)} (st : JSt H jb mb most room M) (o o' o2 : Obj) : JSt (setO (pushObj (pushObj H o) o') (H.heap.size + 1) o2) jb mb most room M ∧ Fram H (setO (pushObj (pushObj H o) o') (H.heap.size + 1) o2) jb mb M M := by
  have lj := getO_lt st.hj
  have lm := st.hm.lt
  refine ⟨((st.push o).push o').set o2 (by omega) (by omega) fun x hx => Acc.fresh (st.hb x hx).1 (by omega), fun j x h _ _ _ => ?_, fun _ _ h => h, by simp; omega⟩
  have := getO_lt h
  rw [get_set, if_neg (by omega), get_push, if_neg (by simp; omega), get_push, if_neg (by omega)]
  exact h
set_option maxRecDepth 100000 in
theorem Take46 {H : World} {jb mb : Nat} {most room : Int} {M : List (Op × Value)} (st : JSt H jb mb most room M) (hi : OInv most room (M.map (·.1))) (p : Pc) {Q : Value → World → Prop}
    (hq : ∀ H' M', JSt H' jb mb most room M' → M'.map (·.1) = (takeW most room (M.map (·.1)) p).1 → Fram H H' jb mb M M' → Q (.tuple #[.string (sB (takeW most room (M.map (·.1)) p).2.1), .bool (takeW most room (M.map (·.1)) p).2.2.1, .int .i64 (takeW most room (M.map (·.1)) p).2.2.2]) H') : FW X 46 #[p0 jb, encP p] H Q := by
  refine FW.walk (by simp [X]) Try.func46 Try.ntmps46 rfl (by simp) ?_
  have st1 := st.push (.cells #[.int .i64 p.id, .int .i64 p.place, .bool p.more, .string (sB p.body)] 33 (0, 0))
  have hnil : ∀ H : World, binX Try.prog .eql 62 (.tmp 10) (.const (.pointer none)) (p0 jb) (.pointer none) H = some (.value (.bool false), H) := fun H => (bX_ptr_nil Try.underlying62).1
  simp [szO, hnil, Valid_eq]
  cases hv : valid p with
  | false =>
    simp
    have := hq (pushObj H (.cells #[.int .i64 p.id, .int .i64 p.place, .bool p.more, .string (sB p.body)] 33 (0, 0))) M st1
    simp [takeW, hv] at this
    refine this ⟨fun j o h1 h2 h3 h4 => ?_, fun j h1 h2 => h2, by simp⟩
    have := getO_lt h1
    rw [get_push, if_neg (by omega)]; exact h1
  | true =>
  simp
  have hj := st1.hj
  obtain ⟨bv, hlk, acc, ap1, ap2, ap3, ap4⟩ := st1.look p.id
  have lj := getO_lt st.hj
  have njh : ¬ jb = H.heap.size := by omega
  have hj0 := st.hj
  obtain ⟨c1, c2⟩ := acc.one
  generalize hH1 : pushObj H (.cells #[.int .i64 p.id, .int .i64 p.place, .bool p.more, .string (sB p.body)] 33 (0, 0)) = H1 at *
  have hsz1 : H1.heap.size = H.heap.size + 1 := by rw [← hH1]; simp
  have g3 : getO H1 H.heap.size = some (.cells #[.int .i64 p.id, .int .i64 p.place, .bool p.more, .string (sB p.body)] 33 (0, 0)) := by rw [← hH1]; simp
  have hbq := acc.veq
  cases hfo : findO p.id (M.map (·.1)) with
  | none =>
    simp only [hfo, Option.map_none, Option.getD_none, Option.isSome_none] at hlk acc
    refine WP.drawP [(0, 11), (1, 11), (2, 11), (3, 11), (4, 11), (5, 11), (6, 11), (7, 11), (8, 11), (9, 11), (9, 12)] (by decide +kernel) (by decide +kernel) ?_
    simp [hj, hlk, allocX, szO, c1, c2, g3, hsz1]
    have lm1 := st1.hm.lt
    have hlkA : ∀ o ok, lookupD Try.prog 76 (.map (some mb)) (.int .i64 p.id) ok (pushObj H1 o) = _ := fun o ok => (look_at (by rw [get_push, if_neg (by omega)])).trans (hlk ok)
    have hlkB : ∀ o o' ok, lookupD Try.prog 76 (.map (some mb)) (.int .i64 p.id) ok (setO (pushObj H1 o) (H.heap.size + 1) o') = _ := fun o o' ok => (look_at (by rw [get_set, if_neg (by omega), get_push, if_neg (by omega)])).trans (hlk ok)
    have n1 : ¬ jb = H.heap.size + 1 := by omega
    refine ⟨Checks.cons rfl rfl rfl ?_ <| Checks.cons rfl rfl rfl ?_ <| Checks.cons rfl rfl rfl ?_ <| Checks.cons rfl rfl rfl ?_ <| Checks.cons rfl rfl rfl ?_ <| Checks.cons rfl rfl rfl ?_ <| Checks.cons rfl rfl rfl ?_ <| Checks.cons rfl rfl rfl ?_ <| Checks.cons rfl rfl rfl ?_ <| Checks.cons rfl rfl rfl ?_ <| Checks.cons rfl rfl rfl ?_ .nil, ?_⟩
    iterate 11
      · unfold reV
        simp [hj, hlk, hlkA, hlkB, g3, n1, q1_int, q_cons, q_nil, qB_cons, qB_nil, q2_agg, q2_int, q2_bool, q_tuple, q_agg, q_int, q_bool, q_str, q_ptr, q_map, acc.veq, acc.veq1, hsz1]
    obtain ⟨st2, fr2⟩ := st.fresh (.cells #[.int .i64 p.id, .int .i64 p.place, .bool p.more, .string (sB p.body)] 33 (0, 0)) (.cells #[nil0, .int .i64 0] 80 (0, 0)) (.cells #[bv, .int .i64 0] 80 (0, 0))
    rw [hH1] at st2 fr2
    have g3' : getO (setO (pushObj H1 (.cells #[nil0, .int .i64 0] 80 (0, 0))) (H.heap.size + 1) (.cells #[bv, .int .i64 0] 80 (0, 0))) H.heap.size = some (.cells #[.int .i64 p.id, .int .i64 p.place, .bool p.more, .string (sB p.body)] 33 (0, 0)) := by
      rw [get_set, if_neg (by omega), get_push, if_neg (by omega)]; exact g3
    have fresh : ∀ i, H.heap.size ≤ i → Apart bv i := fun i hi => ap4 i fun y hy => Acc.fresh (st.hb y hy).1 hi
    have acc2 : AccB 5 (setO (pushObj H1 (.cells #[nil0, .int .i64 0] 80 (0, 0))) (H.heap.size + 1) (.cells #[bv, .int .i64 0] 80 (0, 0))) bv [] := Acc.set (Acc.push acc _) _ (fresh _ (by omega))
    have g7 : getO (setO (pushObj H1 (.cells #[nil0, .int .i64 0] 80 (0, 0))) (H.heap.size + 1) (.cells #[bv, .int .i64 0] 80 (0, 0))) (H.heap.size + 1) = some (.cells #[bv, .int .i64 0] 80 (0, 0)) := by
      simp [hsz1]
    generalize (setO (pushObj H1 (.cells #[nil0, .int .i64 0] 80 (0, 0))) (H.heap.size + 1) (.cells #[bv, .int .i64 0] 80 (0, 0))) = H2 at *
    have hj2 := st2.hj
    have hdn := delO_none hfo
    have hvl := valid_len hv
    have hlenb := fun H0 => Acc.len (P := Try.prog) (H0 := H0) (t := 57) acc (by simp)
    have hby := hi.bytes
    have hrm := hi.room0
    have hmo := hi.most0
    have hle := hi.len
    have hw1 : IntKind.i64.wrap ((p.body.length : Int)) = (p.body.length : Int) := wrap64 (by omega) (by omega)
    have hw2 : IntKind.i64.wrap ((bytesO (M.map (·.1)) : Int) + (p.body.length : Int)) = (bytesO (M.map (·.1)) : Int) + (p.body.length : Int) := wrap64 (by omega) (by omega)
    refine gIf_ndec (fun hp => ?_) (fun hp => ?_)
    rotate_left
    · simp [g3']
      refine forget54 st2 hi p.id fun H' st' hk hs => ?_
      have := hq H' (delP p.id M) st' (by rw [(delP_1 p.id M).1, hdn]; simp [takeW, hv, hfo, hp]) (fr2.trans (.forget hk hs))
      simp [takeW, hv, hfo, hp] at this ⊢
      exact this
    simp [g3']
    refine gIf_nb (fun hm => ?_) (fun hm => ?_)
    · -- more to come
      simp
      refine WP.draw0 (by decide +kernel) (by decide +kernel) ?_
      simp [g3', g7, hj2, hlenb, hw1, hw2]
      have hbig : ¬ (65536 : Int) < p.body.length := by omega
      refine gIf_ndec (fun hb => absurd hb hbig) (fun hb => ?_)
      simp [g3', g7, hj2, hlenb, hw1, hw2, hbig]
      refine gIf_dec (fun hr => ?_) (fun hr => ?_)
      · simp [g3']
        refine forget54 st2 hi p.id fun H' st' hk hs => ?_
        have := hq H' (delP p.id M) st' (by rw [(delP_1 p.id M).1, hdn]; simp [takeW, hv, hfo, hp, hm, hr]) (fr2.trans (.forget hk hs))
        simp [takeW, hv, hfo, hp, hm, hr] at this ⊢
        exact this
      have hml := map_len (P := Try.prog) (t := 76) Try.underlying76 st2.hm
      rw [List.length_map] at hml
      simp
      refine WP.draw0 (by decide +kernel) (by decide +kernel) ?_
      simp [g3', g7, hj2, hml, hm]
      rw [List.length_map] at hle
      refine gIf_dec (fun hl => ?_) (fun hl => ?_)
      · have hl2 : most ≤ (M.length : Int) := by omega
        have := hq H2 M st2 (by simp [takeW, hv, hfo, hp, hm, hr, hl2]) fr2
        simp [takeW, hv, hfo, hp, hm, hr, hl2] at this ⊢
        exact this
      have hl2 : ¬ most ≤ (M.length : Int) := by omega
      have hsl := slice_full (P := Try.prog) (t := 57) (k := .i64) Try.underlying57 info5 acc2
      simp only [List.length_nil, Int.ofNat_zero] at hsl
      obtain ⟨v', H5, e1', acc', keepO, hsz5, hap⟩ := AccB.add acc2 p.body (by simp; omega)
      have k3 := keepO _ _ g3' (fresh _ (by omega))
      have k7 := keepO _ _ g7 (fresh _ (by omega))
      have kj := keepO _ _ hj2 ap1
      have lj5 := getO_lt kj
      simp
      refine WP.draw0 (by decide +kernel) (by decide +kernel) ?_
      simp [g3', g7, hlenb, hsl, e1']
      obtain ⟨v1, v2⟩ := Acc.one acc'
      have hput : bytesO (putO ⟨p.id, 1, p.body⟩ (M.map (·.1))) = bytesO (M.map (·.1)) + p.body.length := by
        rw [putO_none hfo]; simp [bytesO]
      have hw3 : IntKind.i64.wrap ((bytesO (M.map (·.1)) : Int) + (p.body.length : Int)) = (bytesO (putO ⟨p.id, 1, p.body⟩ (M.map (·.1))) : Int) := by rw [hw2, hput]; omega
      have hmk : MapIs KI H5 mb (M.map heldV) := st2.hm.keep fun o h => keepO _ _ h ap2
      obtain ⟨o, hmu, hm'⟩ := map_put (P := Try.prog) (t := 76) Try.underlying76 Try.underlying3 (keyInt .i64) (hmk.set (i := jb) (.cells #[.int .i64 most, .int .i64 room, .int .i64 (bytesO (putO ⟨p.id, 1, p.body⟩ (M.map (·.1)))), .map (some mb)] 78 (0, 0)) st.ne) p.id (.agg #[v', .int .i64 1])
      obtain ⟨stf, frf⟩ := JSt.put st2 (x := ⟨p.id, 1, p.body⟩) acc2 keepO acc' hsz5 hap ap1 ap2 ap3 ap4 hm'
      have hb80 : buildQ Try.prog 80 [(0, v'), (1, .int .i64 1)] = some (.agg #[v', .int .i64 1]) := by simp [buildQ, fillX, v1]
      have hw0 : IntKind.i64.wrap 1 = 1 := wrap64 (by decide) (by decide)
      have nj3 : ¬ H.heap.size = jb := by omega
      have nj7 : ¬ H.heap.size + 1 = jb := by omega
      simp [k3, k7, kj, hm]
      refine WP.draw0 (by decide +kernel) (by decide +kernel) ?_
      simp [k3, k7, kj, hw3, lj5]
      refine WP.draw0 (by decide +kernel) (by decide +kernel) ?_
      simp [k3, k7, kj, lj5, nj3, nj7, hw0, hb80, hmu]
      have := hq _ (putP (⟨p.id, 1, p.body⟩, v') M) stf (by rw [(putP_1 _ M).1, putO_none hfo]; simp [takeW, hv, hfo, hp, hm, hr, hl2]) (fr2.trans frf)
      simp [takeW, hv, hfo, hp, hm, hr, hl2] at this
      exact this
    · simp
      refine WP.draw0 (by decide +kernel) (by decide +kernel) ?_
      simp [g3', hj2]
      refine gIf_dec (fun hr => ?_) (fun hr => ?_)
      · have := hq H2 M st2 (by simp [takeW, hv, hfo, hp, hm, hr]) fr2
        simp [takeW, hv, hfo, hp, hm, hr] at this ⊢
        exact this
      · have := hq H2 M st2 (by simp [takeW, hv, hfo, hp, hm, hr]) fr2
        simp [takeW, hv, hfo, hp, hm, hr, g3'] at this ⊢
        exact this
  | some x => 
    simp only [hfo, Option.map_some, Option.getD_some, Option.isSome_some] at hlk acc
    obtain ⟨hxm, hxi⟩ := findO_mem hfo
    have hxb := hi.body x hxm
    refine WP.drawP [(0, 11), (1, 11), (2, 11), (3, 11), (4, 11), (5, 11), (6, 11), (7, 11), (8, 11), (9, 11), (9, 12)] (by decide +kernel) (by decide +kernel) ?_
    simp [hj, hlk, allocX, szO, c1, c2, g3, hsz1]
    have lm1 := st1.hm.lt
    have hlkA : ∀ o ok, lookupD Try.prog 76 (.map (some mb)) (.int .i64 p.id) ok (pushObj H1 o) = _ := fun o ok => (look_at (by rw [get_push, if_neg (by omega)])).trans (hlk ok)
    have hlkB : ∀ o o' ok, lookupD Try.prog 76 (.map (some mb)) (.int .i64 p.id) ok (setO (pushObj H1 o) (H.heap.size + 1) o') = _ := fun o o' ok => (look_at (by rw [get_set, if_neg (by omega), get_push, if_neg (by omega)])).trans (hlk ok)
    have n1 : ¬ jb = H.heap.size + 1 := by omega
    refine ⟨Checks.cons rfl rfl rfl ?_ <| Checks.cons rfl rfl rfl ?_ <| Checks.cons rfl rfl rfl ?_ <| Checks.cons rfl rfl rfl ?_ <| Checks.cons rfl rfl rfl ?_ <| Checks.cons rfl rfl rfl ?_ <| Checks.cons rfl rfl rfl ?_ <| Checks.cons rfl rfl rfl ?_ <| Checks.cons rfl rfl rfl ?_ <| Checks.cons rfl rfl rfl ?_ <| Checks.cons rfl rfl rfl ?_ .nil, ?_⟩
    iterate 11
      · unfold reV
        simp [hj, hlk, hlkA, hlkB, g3, n1, q1_int, q_cons, q_nil, qB_cons, qB_nil, q2_agg, q2_int, q2_bool, q_tuple, q_agg, q_int, q_bool, q_str, q_ptr, q_map, acc.veq, acc.veq1, hsz1]
    obtain ⟨st2, fr2⟩ := st.fresh (.cells #[.int .i64 p.id, .int .i64 p.place, .bool p.more, .string (sB p.body)] 33 (0, 0)) (.cells #[nil0, .int .i64 0] 80 (0, 0)) (.cells #[bv, .int .i64 x.count] 80 (0, 0))
    rw [hH1] at st2 fr2
    have g3' : getO (setO (pushObj H1 (.cells #[nil0, .int .i64 0] 80 (0, 0))) (H.heap.size + 1) (.cells #[bv, .int .i64 x.count] 80 (0, 0))) H.heap.size = some (.cells #[.int .i64 p.id, .int .i64 p.place, .bool p.more, .string (sB p.body)] 33 (0, 0)) := by
      rw [get_set, if_neg (by omega), get_push, if_neg (by omega)]; exact g3
    have fresh : ∀ i, H.heap.size ≤ i → Apart bv i := fun i hi => ap4 i fun y hy => Acc.fresh (st.hb y hy).1 hi
    have acc2 : AccB 5 (setO (pushObj H1 (.cells #[nil0, .int .i64 0] 80 (0, 0))) (H.heap.size + 1) (.cells #[bv, .int .i64 x.count] 80 (0, 0))) bv x.body := Acc.set (Acc.push acc _) _ (fresh _ (by omega))
    have g7 : getO (setO (pushObj H1 (.cells #[nil0, .int .i64 0] 80 (0, 0))) (H.heap.size + 1) (.cells #[bv, .int .i64 x.count] 80 (0, 0))) (H.heap.size + 1) = some (.cells #[bv, .int .i64 x.count] 80 (0, 0)) := by
      simp [hsz1]
    generalize (setO (pushObj H1 (.cells #[nil0, .int .i64 0] 80 (0, 0))) (H.heap.size + 1) (.cells #[bv, .int .i64 x.count] 80 (0, 0))) = H2 at *
    have hj2 := st2.hj
    have hvl := valid_len hv
    have hlenb := fun H0 => Acc.len (P := Try.prog) (H0 := H0) (t := 57) acc (by simp)
    have hby := hi.bytes
    have hrm := hi.room0
    have hw1 : IntKind.i64.wrap ((x.body.length : Int) + (p.body.length : Int)) = (x.body.length : Int) + (p.body.length : Int) := wrap64 (by omega) (by omega)
    have hw2 : IntKind.i64.wrap ((bytesO (M.map (·.1)) : Int) + (p.body.length : Int)) = (bytesO (M.map (·.1)) : Int) + (p.body.length : Int) := wrap64 (by omega) (by omega)
    refine gIf_ndec (fun hp => ?_) (fun hp => ?_)
    rotate_left
    · simp [g3']
      refine forget54 st2 hi p.id fun H' st' hk hs => ?_
      have := hq H' (delP p.id M) st' (by rw [(delP_1 p.id M).1]; simp [takeW, hv, hfo, hp]) (fr2.trans (.forget hk hs))
      simp [takeW, hv, hfo, hp] at this ⊢
      exact this
    simp [g3']
    refine WP.draw0 (by decide +kernel) (by decide +kernel) ?_
    simp [g3', g7, hj2, hlenb, hw1, hw2]
    refine gIf_ndec (fun hb => ?_) (fun hb => ?_)
    · have hb' : 65536 < x.body.length + p.body.length := by omega
      simp [hb, g3']
      refine forget54 st2 hi p.id fun H' st' hk hs => ?_
      have := hq H' (delP p.id M) st' (by rw [(delP_1 p.id M).1]; simp [takeW, hv, hfo, hp, hb']) (fr2.trans (.forget hk hs))
      simp [takeW, hv, hfo, hp, hb'] at this ⊢
      exact this
    have hb' : ¬ 65536 < x.body.length + p.body.length := by omega
    simp [hb, g3', hj2, hw2]
    refine gIf_dec (fun hr => ?_) (fun hr => ?_)
    · simp [g3']
      refine forget54 st2 hi p.id fun H' st' hk hs => ?_
      have := hq H' (delP p.id M) st' (by rw [(delP_1 p.id M).1]; simp [takeW, hv, hfo, hp, hr]) (fr2.trans (.forget hk hs))
      simp [takeW, hv, hfo, hp, hr] at this ⊢
      exact this
    have hval : 0 ≤ p.place ∧ p.place ≤ 1000000 := by
      simp only [valid, Bool.and_eq_true, decide_eq_true_eq] at hv
      omega
    have hsl := slice_full (P := Try.prog) (t := 57) (k := .i64) Try.underlying57 info5 acc2
    obtain ⟨v', H5, e1', acc', keepO, hsz5, hap⟩ := AccB.add acc2 p.body (by omega)
    have k3 := keepO _ _ g3' (fresh _ (by omega))
    have k7 := keepO _ _ g7 (fresh _ (by omega))
    have kj := keepO _ _ hj2 ap1
    have lj5 := getO_lt kj
    obtain ⟨v1, v2⟩ := Acc.one acc'
    have lj2 := getO_lt hj2
    have lm2 := st2.hm.lt
    have hmk : MapIs KI H5 mb (M.map heldV) := st2.hm.keep fun o h => keepO _ _ h ap2
    simp
    refine WP.draw0 (by decide +kernel) (by decide +kernel) ?_
    simp [g3', g7, hj2]
    refine WP.draw0 (by decide +kernel) (by decide +kernel) ?_
    simp [g3', g7, hlenb, hsl, e1']
    simp [k3, k7, kj]
    refine gIf_nb (fun hm => ?_) (fun hm => ?_)
    · have hput := putO_some (o := ⟨p.id, x.count + 1, x.body ++ p.body⟩) hfo
      simp only [List.length_append] at hput
      have hw3 : IntKind.i64.wrap ((bytesO (M.map (·.1)) : Int) + (p.body.length : Int)) = (bytesO (putO ⟨p.id, x.count + 1, x.body ++ p.body⟩ (M.map (·.1))) : Int) := by rw [hw2]; omega
      have hw4 : IntKind.i64.wrap (x.count + 1) = x.count + 1 := wrap64 (by omega) (by omega)
      obtain ⟨o, hmu, hm'⟩ := map_put (P := Try.prog) (t := 76) Try.underlying76 Try.underlying3 (keyInt .i64) (hmk.set (i := jb) (.cells #[.int .i64 most, .int .i64 room, .int .i64 (bytesO (putO ⟨p.id, x.count + 1, x.body ++ p.body⟩ (M.map (·.1)))), .map (some mb)] 78 (0, 0)) st.ne) p.id (.agg #[v', .int .i64 (x.count + 1)])
      obtain ⟨stf, frf⟩ := JSt.put st2 (x := ⟨p.id, x.count + 1, x.body ++ p.body⟩) acc2 keepO acc' hsz5 hap ap1 ap2 ap3 ap4 hm'
      have hb80 : buildQ Try.prog 80 [(0, v'), (1, .int .i64 (x.count + 1))] = some (.agg #[v', .int .i64 (x.count + 1)]) := by simp [buildQ, fillX, v1]
      have nj3 : ¬ H.heap.size = jb := by omega
      have nj7 : ¬ H.heap.size + 1 = jb := by omega
      simp
      refine WP.draw0 (by decide +kernel) (by decide +kernel) ?_
      simp [k3, k7, kj, hw3, lj5]
      refine WP.draw0 (by decide +kernel) (by decide +kernel) ?_
      simp [k3, k7, kj, lj5, nj3, nj7, hw4, hb80, hmu]
      have := hq _ (putP (⟨p.id, x.count + 1, x.body ++ p.body⟩, v') M) stf (by rw [(putP_1 _ M).1]; simp [takeW, hv, hfo, hp, hm, hr, hb']) (fr2.trans frf)
      simp [takeW, hv, hfo, hp, hm, hr, hb'] at this
      exact this
    · simp [k3]
      refine forgetL kj hmk (fun y hy H0 => Acc.len (P := Try.prog) (H0 := H0) (t := 57) (st2.hb y hy).1 (by simp)) hi p.id fun H' fj fm fk fs fa => ?_
      have a1 := hap jb ap1 lj2
      have a2 := hap mb ap2 lm2
      have hcv := conv_bytes (P := Try.prog) (src := 57) (dst := 9) Try.underlying57 Try.underlying5 Try.underlying9 (fa _ _ _ _ _ acc' a1 a2)
      have stf : JSt H' jb mb most room (delP p.id M) := ⟨fj, fm, fun y hy => have ⟨b1, b2, b3⟩ := st2.hb y (delP_mem hy); ⟨fa _ _ _ _ _ (Acc.keep b1 keepO (ap3 y hy).1) b2 b3, b2, b3⟩, st2.hd.sublist (delP_sub M)⟩
      have frf : Fram H2 H' jb mb M (delP p.id M) := ⟨fun j z h1 h2 h3 h4 => by rw [fk j h2 h3]; exact keepO j z h1 (ap4 j h4), fun j h1 h2 y hy => h2 y (delP_mem hy), by omega⟩
      have := hq _ (delP p.id M) stf (by rw [(delP_1 _ M).1]; simp [takeW, hv, hfo, hp, hm, hr, hb']) (fr2.trans frf)
      simp [takeW, hv, hfo, hp, hm, hr, hb', hcv] at this ⊢
      exact this
end Go.Proofs.Ytlpoejkleopdoaa
end
