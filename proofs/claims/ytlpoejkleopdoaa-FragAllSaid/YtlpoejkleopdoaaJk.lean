/- Helpers of this claim: an evaluator over plain values and its laws. -/
import Derived.Test.YtlpoejkleopdoaaJg
section
set_option linter.unusedVariables false
set_option linter.unusedSimpArgs false
namespace Go.Proofs.Ytlpoejkleopdoaa
open Go Go.Proofs.Ytlpoejkleopdoaa.Den
theorem putO_idx {o : Op} : ∀ {L : List Op} {k : Nat} (hk : k < L.length), (∀ j (hj : j < k), L[j].id ≠ o.id) → L[k].id = o.id → putO o L = L.set k o
  | [], k, hk, _, _ => by simp at hk
  | y :: L, 0, hk, _, h => by
    unfold putO
    rw [if_pos (by simpa using h)]
    simp
  | y :: L, k + 1, hk, h1, h => by
    unfold putO
    have h0 : ¬ y.id = o.id := by simpa using h1 0 (by omega)
    rw [if_neg h0]
    have hk' : k < L.length := by simpa using hk
    rw [putO_idx hk' (fun j hj => by simpa using h1 (j + 1) (by omega)) (by simpa using h)]
    simp
theorem set3 (x : Op) : ∀ (L : List Op) (k : Nat), k < L.length → (((((L.map encO).flatMap fun v => v.cells.toList).set (k * 3) (.int .i64 x.id)).set (k * 3 + 1) (.int .i64 x.count)).set (k * 3 + 2) (.string (sB x.body))) = ((L.set k x).map encO).flatMap fun v => v.cells.toList
  | [], k, hk => by simp at hk
  | y :: L, 0, _ => by simp
  | y :: L, k + 1, hk => by
    have ih := set3 x L k (by simpa using hk)
    rw [List.set_cons_succ, List.map_cons, List.map_cons, List.flatMap_cons, List.flatMap_cons, ← ih]
    have e : (encO y).cells.toList = [.int .i64 y.id, .int .i64 y.count, .string (sB y.body)] := by simp
    rw [e, show (k + 1) * 3 = k * 3 + 1 + 1 + 1 by omega]
    simp only [List.cons_append, List.nil_append, List.set_cons_succ]
theorem RSt.push {H : World} {jb : Nat} {most room : Int} {L : List Op} {v : Value} (st : RSt H jb most room L v) (o : Obj) : RSt (pushObj H o) jb most room L v := st.keep (Keep.refl.push o)
set_option maxRecDepth 100000 in
theorem Take48 {H : World} {jb : Nat} {most room : Int} {L : List Op} {v : Value} (st : RSt H jb most room L v) (hi : OInv most room L) (p : Pc) {Q : Value → World → Prop}
    (hq : ∀ H' v', RSt H' jb most room (takeW most room L p).1 v' → FrR H H' jb v v' → Q (.tuple #[.string (sB (takeW most room L p).2.1), .bool (takeW most room L p).2.2.1, .int .i64 (takeW most room L p).2.2.2]) H') : FW X 48 #[p0 jb, encP p] H Q := by
  refine FW.walk (by simp [X]) Try.func48 Try.ntmps48 rfl (by simp) ?_
  have lj := getO_lt st.hj
  have hmo := hi.most0
  have hle := hi.len
  have hby := hi.bytes
  have hrm := hi.room0
  have st1 := st.push (.cells #[.int .i64 p.id, .int .i64 p.place, .bool p.more, .string (sB p.body)] 33 (0, 0))
  have fr1 : FrR H (pushObj H (.cells #[.int .i64 p.id, .int .i64 p.place, .bool p.more, .string (sB p.body)] 33 (0, 0))) jb v v := FrR.ofKeep (Keep.refl.push _) (by simp)
  simp [szO, ValidR_eq]
  cases hv : valid p with
  | false =>
    have := hq _ v (by simpa [takeW, hv] using st1) fr1
    simp [takeW, hv] at this ⊢
    exact this
  | true =>
  simp
  have hvl := valid_len hv
  refine find55 st1 (by omega) p.id fun H1 hK1 => ?_
  have g3 : getO H1 H.heap.size = some (.cells #[.int .i64 p.id, .int .i64 p.place, .bool p.more, .string (sB p.body)] 33 (0, 0)) := hK1 _ _ (by simp)
  have l3 := getO_lt g3
  have st2 := st1.keep hK1
  have fr2 : FrR H H1 jb v v := fr1.trans (FrR.ofKeep hK1 (by simp; omega))
  have hj2 := st2.hj
  rcases idxO_find (id := p.id) L with ⟨f1, f2⟩ | ⟨k, hk, f1, f2, f3⟩
  · simp [f2, g3]
    refine gIf_ndec (fun hp => ?_) (fun hp => ?_)
    rotate_left
    · have := hq H1 v (by simpa [takeW, hv, f1, hp] using st2) fr2
      simp [takeW, hv, f1, hp] at this ⊢
      exact this
    simp
    refine WP.draw0 (by decide +kernel) (by decide +kernel) ?_
    simp [g3, hj2]
    have hw2 : IntKind.i64.wrap ((bytesO L : Int) + (p.body.length : Int)) = (bytesO L : Int) + (p.body.length : Int) := wrap64 (by omega) (by omega)
    refine gIf_nb (fun hm => ?_) (fun hm => ?_)
    · simp [hm]
      refine WP.drawP [(5, 0), (6, 0), (7, 0), (9, 0), (10, 0), (11, 0), (12, 0)] (by decide +kernel) (by decide +kernel) ?_
      simp [g3, hm]
      refine Bytes56 st2 hi fun H2 hK2 => ?_
      have g3' := hK2 _ _ g3
      have hj3 := hK2 _ _ hj2
      simp [g3', hj3, hw2]
      refine ⟨Checks.cons rfl rfl rfl ?_ <| Checks.cons rfl rfl rfl ?_ <| Checks.cons rfl rfl rfl ?_ <| Checks.cons rfl rfl rfl ?_ <| Checks.cons rfl rfl rfl ?_ <| Checks.cons rfl rfl rfl ?_ <| Checks.cons rfl rfl rfl ?_ .nil, ?_⟩
      iterate 7
        · unfold reV
          simp [g3, hj2, hm, g3', hj3, q1_int, q_cons, q_nil, qB_cons, qB_nil, q2_agg, q2_int, q2_bool, q_tuple, q_agg, q_int, q_bool, q_str, q_ptr, q_map]
      have st3 := st2.keep hK2
      have l3' := getO_lt g3'
      have szK2 : H1.heap.size ≤ H2.heap.size := by
        rcases Nat.lt_or_ge H2.heap.size H1.heap.size with h | h
        · have hx : ∃ o, getO H1 H2.heap.size = some o := ⟨_, Array.getElem?_eq_getElem h⟩
          obtain ⟨o, ho⟩ := hx
          have := getO_lt (hK2 _ _ ho)
          omega
        · exact h
      have fr3 : FrR H H2 jb v v := fr2.trans (FrR.ofKeep hK2 szK2)
      refine gIf_dec (fun hr => ?_) (fun hr => ?_)
      · have := hq H2 v (by simpa [takeW, hv, f1, hp, hm, hr] using st3) fr3
        simp [takeW, hv, f1, hp, hm, hr] at this ⊢
        exact this
      have hlen := fun H0 => Acc.len (P := Try.prog) (H0 := H0) (t := 82) st.acc (by simp)
      simp [g3', hm]
      refine WP.draw0 (by decide +kernel) (by decide +kernel) ?_
      simp [hj3, hlen]
      refine gIf_dec (fun hl => ?_) (fun hl => ?_)
      · have := hq H2 v (by simpa [takeW, hv, f1, hp, hm, hr, hl] using st3) fr3
        simp [takeW, hv, f1, hp, hm, hr, hl] at this ⊢
        exact this
      simp
      have lj3 := getO_lt hj3
      have njs : ¬ jb = H2.heap.size := by omega
      have n3s : ¬ H.heap.size = H2.heap.size := by omega
      obtain ⟨v', H5, e1, acc5, keepO, hsz5, hap5⟩ := AccO.add st3.acc (by omega) ⟨p.id, 1, p.body⟩
      have hj5 := keepO _ _ hj3 st.ap
      have lj5 := getO_lt hj5
      obtain ⟨c1, c2⟩ := Acc.one acc5
      have hb87 : buildQ Try.prog 87 [(0, .int .i64 p.id), (1, .int .i64 1), (2, .string (sB p.body))] = some (encO ⟨p.id, 1, p.body⟩) := by simp [buildQ, fillX, encO]
      refine WP.drawP [(0, 11), (0, 12), (1, 11), (2, 11), (3, 11), (4, 11)] (by decide +kernel) (by decide +kernel) ?_
      simp [g3', hj3, hb87, buildSliceX, inOrder, catCells, szO, e1]
      simp [hj5, lj5, c1, c2]
      refine ⟨Checks.cons rfl rfl rfl ?_ <| Checks.cons rfl rfl rfl ?_ <| Checks.cons rfl rfl rfl ?_ <| Checks.cons rfl rfl rfl ?_ <| Checks.cons rfl rfl rfl ?_ <| Checks.cons rfl rfl rfl ?_ .nil, ?_⟩
      iterate 6
        · unfold reV
          simp [hj3, hj5, njs, c1, c2, lj5, q1_int, q_cons, q_nil, qB_cons, qB_nil, q2_agg, q2_int, q2_bool, q_tuple, q_agg, q_int, q_bool, q_str, q_ptr, q_map, acc5.veq, st.acc.veq]
      have fr5 : FrR H2 (setO H5 jb (.cells #[.int .i64 most, .int .i64 room, v'] 84 (0, 0))) jb v v' := ⟨fun j o h1 h2 h3 => by rw [get_set, if_neg h2]; exact keepO j o h1 h3, fun j h1 h2 => hap5 j h2 h1, by simp; omega⟩
      have st5 : RSt (setO H5 jb (.cells #[.int .i64 most, .int .i64 room, v'] 84 (0, 0))) jb most room (L ++ [⟨p.id, 1, p.body⟩]) v' := ⟨by rw [get_set, if_pos rfl, if_pos lj5], Acc.set acc5 _ (hap5 jb st.ap lj3), hap5 jb st.ap lj3⟩
      have := hq _ v' (by simpa [takeW, hv, f1, hp, hm, hr, hl] using st5) (fr3.trans fr5)
      simp [takeW, hv, f1, hp, hm, hr, hl] at this
      exact this
    · simp [g3, hj2, hm]
      refine gIf_dec (fun hr => ?_) (fun hr => ?_)
      · have := hq H1 v (by simpa [takeW, hv, f1, hp, hm, hr] using st2) fr2
        simp [takeW, hv, f1, hp, hm, hr] at this ⊢
        exact this
      simp
      refine WP.drawP [(5, 0), (6, 0), (7, 0), (9, 0), (10, 0), (11, 0), (12, 0)] (by decide +kernel) (by decide +kernel) ?_
      simp [g3, hm]
      refine ⟨Checks.cons rfl rfl rfl ?_ <| Checks.cons rfl rfl rfl ?_ <| Checks.cons rfl rfl rfl ?_ <| Checks.cons rfl rfl rfl ?_ <| Checks.cons rfl rfl rfl ?_ <| Checks.cons rfl rfl rfl ?_ <| Checks.cons rfl rfl rfl ?_ .nil, ?_⟩
      iterate 7
        · unfold reV
          simp [g3, hj2, hm,  q1_int, q_cons, q_nil, qB_cons, qB_nil, q2_agg, q2_int, q2_bool, q_tuple, q_agg, q_int, q_bool, q_str, q_ptr, q_map]
      have := hq H1 v (by simpa [takeW, hv, f1, hp, hm, hr] using st2) fr2
      simp [takeW, hv, f1, hp, hm, hr] at this
      exact this
  · have hk0 : ¬ ((k : Int) < 0) := by omega
    have hxm : L[k] ∈ L := List.getElem_mem hk
    have hxb := hi.body _ hxm
    have hxi : L[k].id = p.id := (findO_mem f2).2
    have hdel : delO p.id L = L.take k ++ L.drop (k + 1) := delO_idx (x := L[k]) hk f3 hxi
    obtain ⟨r, rfl, hr⟩ := Acc.pos st2.acc (by omega)
    obtain ⟨cs, hcs⟩ : ∃ cs, cs = (L.map encO).flatMap fun v => v.cells.toList := ⟨_, rfl⟩
    rw [← hcs] at hr
    have hclen : cs.length = L.length * 3 := by rw [hcs, flatO_len]
    have hg := enc_get' (es := 3) (enc := encO) (fun x => by simp) hcs k hk
    have hb : k * 3 + 3 ≤ L.length * 3 := by omega
    have hkI : (k : Int) < L.length := by omega
    have hw1 : IntKind.i64.wrap ((L[k].body.length : Int) + (p.body.length : Int)) = (L[k].body.length : Int) + (p.body.length : Int) := wrap64 (by omega) (by omega)
    have hw2 : IntKind.i64.wrap ((bytesO L : Int) + (p.body.length : Int)) = (bytesO L : Int) + (p.body.length : Int) := wrap64 (by omega) (by omega)
    have st3 := st2.push (.cells #[.int .i64 L[k].id, .int .i64 L[k].count, .string (sB L[k].body)] 87 (0, 0))
    have fr3 := fr2.trans (FrR.ofKeep (H' := pushObj H1 (.cells #[.int .i64 L[k].id, .int .i64 L[k].count, .string (sB L[k].body)] 87 (0, 0))) (Keep.refl.push _) (by simp))
    have lj1 := getO_lt hj2
    have lr1 := getO_lt hr
    have njs : ¬ jb = H1.heap.size := by omega
    have n3s : ¬ H.heap.size = H1.heap.size := by omega
    have nrs : ¬ r = H1.heap.size := by omega
    simp [f1, hk0, hj2, hr, hk, hkI, hclen, hb, hg, allocX, szO, g3, n3s]
    have g3' : getO (pushObj H1 (.cells #[.int .i64 L[k].id, .int .i64 L[k].count, .string (sB L[k].body)] 87 (0, 0))) H.heap.size = some (.cells #[.int .i64 p.id, .int .i64 p.place, .bool p.more, .string (sB p.body)] 33 (0, 0)) := by rw [get_push, if_neg n3s]; exact g3
    have g8 : getO (pushObj H1 (.cells #[.int .i64 L[k].id, .int .i64 L[k].count, .string (sB L[k].body)] 87 (0, 0))) H1.heap.size = some (.cells #[.int .i64 L[k].id, .int .i64 L[k].count, .string (sB L[k].body)] 87 (0, 0)) := by rw [get_push, if_pos rfl]
    have hr3 : getO (pushObj H1 (.cells #[.int .i64 L[k].id, .int .i64 L[k].count, .string (sB L[k].body)] 87 (0, 0))) r = some (.cells cs.toArray 87 (1, 0)) := by rw [get_push, if_neg nrs]; exact hr
    generalize pushObj H1 (.cells #[.int .i64 L[k].id, .int .i64 L[k].count, .string (sB L[k].body)] 87 (0, 0)) = H3 at *
    have hj3 := st3.hj
    have lim : L.length ≤ 1000 := by omega
    refine gIf_ndec (fun hp => ?_) (fun hp => ?_)
    rotate_left
    · simp
      refine remove57 st3 lim hk fun H' v' st' fr' => ?_
      have := hq H' v' (by simpa [takeW, hv, f2, hp, hdel] using st') (fr3.trans fr')
      simp [takeW, hv, f2, hp] at this ⊢
      exact this
    simp
    refine WP.drawP [(11, 0), (12, 0), (13, 0), (15, 0), (16, 0), (17, 0), (18, 0)] (by decide +kernel) (by decide +kernel) ?_
    simp [g3', g8, hw1]
    refine gIf_ndec (fun hb => ?_) (fun hb => ?_)
    · have hb' : 65536 < L[k].body.length + p.body.length := by omega
      simp [hb]
      refine ⟨Checks.cons rfl rfl rfl ?_ <| Checks.cons rfl rfl rfl ?_ <| Checks.cons rfl rfl rfl ?_ <| Checks.cons rfl rfl rfl ?_ <| Checks.cons rfl rfl rfl ?_ <| Checks.cons rfl rfl rfl ?_ <| Checks.cons rfl rfl rfl ?_ .nil, ?_⟩
      iterate 7
        · unfold reV
          simp [g3', g8, hj3, hb, hw1, q1_int, q_cons, q_nil, qB_cons, qB_nil, q2_agg, q2_int, q2_bool, q_tuple, q_agg, q_int, q_bool, q_str, q_ptr, q_map]
      refine remove57 st3 lim hk fun H' v' st' fr' => ?_
      have := hq H' v' (by simpa [takeW, hv, f2, hp, hdel, hb'] using st') (fr3.trans fr')
      simp [takeW, hv, f2, hp, hb'] at this ⊢
      exact this
    have hb' : ¬ 65536 < L[k].body.length + p.body.length := by omega
    simp [hb]
    refine Bytes56 st3 hi fun H4 hK4 => ?_
    have szK4 : H3.heap.size ≤ H4.heap.size := by
      rcases Nat.lt_or_ge H4.heap.size H3.heap.size with h | h
      · have hx : ∃ o, getO H3 H4.heap.size = some o := ⟨_, Array.getElem?_eq_getElem h⟩
        obtain ⟨o, ho⟩ := hx
        have := getO_lt (hK4 _ _ ho)
        omega
      · exact h
    have st4 := st3.keep hK4
    have fr4 := fr3.trans (FrR.ofKeep hK4 szK4)
    have g34 := hK4 _ _ g3'
    have g84 := hK4 _ _ g8
    have hj4 := hK4 _ _ hj3
    have hr4 := hK4 _ _ hr3
    simp [g34, g84, hj4, hw2]
    refine ⟨Checks.cons rfl rfl rfl ?_ <| Checks.cons rfl rfl rfl ?_ <| Checks.cons rfl rfl rfl ?_ <| Checks.cons rfl rfl rfl ?_ <| Checks.cons rfl rfl rfl ?_ <| Checks.cons rfl rfl rfl ?_ <| Checks.cons rfl rfl rfl ?_ .nil, ?_⟩
    iterate 7
      · unfold reV
        simp [g3', g8, hj3, g34, g84, hj4, hb, hw1, q1_int, q_cons, q_nil, qB_cons, qB_nil, q2_agg, q2_int, q2_bool, q_tuple, q_agg, q_int, q_bool, q_str, q_ptr, q_map]
    refine gIf_dec (fun hr => ?_) (fun hr => ?_)
    · simp
      refine remove57 st4 lim hk fun H' v' st' fr' => ?_
      have := hq H' v' (by simpa [takeW, hv, f2, hp, hdel, hb', hr] using st') (fr4.trans fr')
      simp [takeW, hv, f2, hp, hb', hr] at this ⊢
      exact this
    simp [g34]
    have nr3 : ¬ H.heap.size = r := fun e => by
      have h9 := hr4
      rw [← e, g34] at h9
      injection h9 with h9
      injection h9 with _ h9
      cases h9
    have nr8 : ¬ H1.heap.size = r := fun e => nrs e.symm
    have l34 := getO_lt g34
    have l84 := getO_lt g84
    have nj3 : ¬ H.heap.size = jb := by omega
    have nj8 : ¬ H1.heap.size = jb := by omega
    have hadd : L[k].body.length + p.body.length ≤ 9223372036854775807 := by omega
    refine gIf_nb (fun hm => ?_) (fun hm => ?_)
    · simp
      refine WP.draw0 (by decide +kernel) (by decide +kernel) ?_
      have hval : 0 ≤ p.place ∧ p.place ≤ 1000000 := by
        simp only [valid, Bool.and_eq_true, decide_eq_true_eq] at hv
        omega
      have hw4 : IntKind.i64.wrap (L[k].count + 1) = L[k].count + 1 := wrap64 (by omega) (by omega)
      have hb87 : buildQ Try.prog 87 [(0, .int .i64 p.id), (1, .int .i64 (L[k].count + 1)), (2, .string (sB (L[k].body ++ p.body)))] = some (encO ⟨p.id, L[k].count + 1, L[k].body ++ p.body⟩) := by simp [buildQ, fillX, encO]
      have lr4 := getO_lt hr4
      have hb3 : k * 3 + 3 ≤ L.length * 3 := by omega
      have hset := set3 ⟨p.id, L[k].count + 1, L[k].body ++ p.body⟩ L k hk
      rw [← hcs] at hset
      have hput : putO ⟨p.id, L[k].count + 1, L[k].body ++ p.body⟩ L = L.set k ⟨p.id, L[k].count + 1, L[k].body ++ p.body⟩ := putO_idx hk f3 hxi
      have njr : ¬ jb = r := fun e => st4.ap r _ _ rfl e
      have st5 : RSt (setO H4 r (.cells (((L.set k ⟨p.id, L[k].count + 1, L[k].body ++ p.body⟩).map encO).flatMap fun v => v.cells.toList).toArray 87 (1, 0))) jb most room (L.set k ⟨p.id, L[k].count + 1, L[k].body ++ p.body⟩) (.slice (some ⟨r, 0, none⟩) L.length L.length) := by
        refine ⟨by rw [get_set, if_neg njr]; exact hj4, ⟨by rw [flatO_len], .inr ⟨r, by simp, by simp; omega, ?_⟩⟩, st4.ap⟩
        rw [get_set, if_pos rfl, if_pos lr4]
      have fr5 : FrR H4 (setO H4 r (.cells (((L.set k ⟨p.id, L[k].count + 1, L[k].body ++ p.body⟩).map encO).flatMap fun v => v.cells.toList).toArray 87 (1, 0))) jb (.slice (some ⟨r, 0, none⟩) L.length L.length) (.slice (some ⟨r, 0, none⟩) L.length L.length) :=
        ⟨fun j o h1 h2 h3 => by rw [get_set, if_neg (h3 r _ _ rfl)]; exact h1, fun _ _ h => h, by simp⟩
      simp [g34, g84, hj4, hr4, hw4, hadd, hxi, hb87, hk, hkI, hclen, hb3, hset]
      have := hq _ _ (by simpa [takeW, hv, f2, hp, hput, hb', hr, hm] using st5) (fr4.trans fr5)
      simp [takeW, hv, f2, hp, hb', hr, hm] at this
      exact this
    · simp
      refine remove57 st4 lim hk fun H' v' st' fr' => ?_
      have h34 := fr'.keep _ _ g34 nj3 (fun r' n' c' e => by cases e; exact nr3)
      have h84 := fr'.keep _ _ g84 nj8 (fun r' n' c' e => by cases e; exact nr8)
      have := hq H' v' (by simpa [takeW, hv, f2, hp, hdel, hb', hr, hm] using st') (fr4.trans fr')
      simp [takeW, hv, f2, hp, hb', hr, hm, h34, h84, hadd] at this ⊢
      exact this
end Go.Proofs.Ytlpoejkleopdoaa
end
