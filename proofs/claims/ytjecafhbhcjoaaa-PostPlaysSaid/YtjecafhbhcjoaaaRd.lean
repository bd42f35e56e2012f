/- Helpers of this claim: an evaluator over plain values and its laws. -/
import Derived.Test.YtjecafhbhcjoaaaRc
section
set_option linter.unusedVariables false
set_option linter.unusedSimpArgs false
namespace Go.Proofs.Ytjecafhbhcjoaaa
open Go Go.Proofs.Ytjecafhbhcjoaaa.Den
/-- A block apart from both posts. -/
structure Side (a pb rb : Nat) (v : Value) (bs : List Nat) (w : Value) : Prop where
  h1 : a ≠ pb
  h2 : Apart v a
  h3 : a ∉ bs
  h4 : a ≠ rb
  h5 : Apart w a
section
variable {H H' : World} {a pb rb : Nat} {p p' : PP} {q q' : RP} {v v' w w' : Value} {bs bs' : List Nat}
theorem Side.fresh (b : Both H pb p v bs rb q w) (ha : H.heap.size ≤ a) : Side a pb rb v bs w := by
  have h1 := b.ps.fresh ha
  have h2 := b.rs.fresh ha
  exact ⟨h1.1, h1.2.1, h1.2.2, h2.1, h2.2⟩
theorem Side.afterP (h : Side a pb rb v bs w) (hl : a < H.heap.size) (fr : FrP H H' pb v bs v' bs') : Side a pb rb v' bs' w := by
  obtain ⟨h1, h2⟩ := fr.fresh a hl h.h1 h.h2 h.h3
  exact ⟨h.h1, h1, h2, h.h4, h.h5⟩
theorem Side.afterR (h : Side a pb rb v bs w) (hl : a < H.heap.size) (fr : FrR H H' rb w w') : Side a pb rb v bs w' := ⟨h.h1, h.h2, h.h3, h.h4, fr.fresh a hl h.h4 h.h5⟩
theorem Side.keepP (h : Side a pb rb v bs w) {o : Obj} (ho : getO H a = some o) (fr : FrP H H' pb v bs v' bs') : getO H' a = some o := fr.keep _ _ ho h.h1 h.h2 h.h3
theorem Side.keepR (h : Side a pb rb v bs w) {o : Obj} (ho : getO H a = some o) (fr : FrR H H' rb w w') : getO H' a = some o := fr.keep _ _ ho h.h4 h.h5
theorem Both.push (b : Both H pb p v bs rb q w) (o : Obj) : Both (pushObj H o) pb p v bs rb q w := b.afterP (b.ps.push o) (FrP.push o)
end
def DoneQ (pb rb m : Nat) (r : Value) (H' : World) : Prop := r = .bool true ∧ ∃ p v bs q w, Both H' pb p v bs rb q w ∧ Sim p q (m + 1)
theorem accR_keep {H0 H H' : World} {rb : Nat} {vo w w' : Value} {xs : List Rp} (h : AccR H vo xs) (hrb : rb < H0.heap.size) (hw : ∀ r n c, w = .slice (some ⟨r, 0, none⟩) n c → r < H0.heap.size) (old : ∀ j, j < H0.heap.size → Apart vo j) (fr : FrR H H' rb w w') : AccR H' vo xs := by
  obtain ⟨h1, ⟨rfl, h2⟩ | ⟨r, rfl, h2, h3⟩⟩ := h
  · exact ⟨h1, .inl ⟨rfl, h2⟩⟩
  · refine ⟨h1, .inr ⟨r, rfl, h2, fr.keep _ _ h3 (fun e => old rb hrb r _ _ rfl e.symm) fun r' n c e e2 => ?_⟩⟩
    exact old r' (hw r' n c e) r _ _ rfl e2.symm
set_option maxRecDepth 100000 in
theorem do23 {H : World} {pb rb : Nat} {p : PP} {q : RP} {v w : Value} {bs : List Nat} {m : Nat} (b : Both H pb p v bs rb q w) (s : Sim p q m) (hm : m ≤ 900) (x : Ac) (hn : I64 x.num) :
    FW X 23 #[p0 pb, p0 rb, encA x] H (DoneQ pb rb m) := by
  refine FW.walk (by simp [X]) Try.func23 Try.ntmps23 rfl (by simp) ?_
  have b1 := b.push (.cells (cellsA x) 40 (0, 0))
  have g : getO (pushObj H (.cells (cellsA x) 40 (0, 0))) H.heap.size = some (.cells (cellsA x) 40 (0, 0)) := by simp
  have sd : Side H.heap.size pb rb v bs w := Side.fresh b (Nat.le_refl _)
  have sd1 : H.heap.size < (pushObj H (.cells (cellsA x) 40 (0, 0))).heap.size := by simp
  simp [szO]
  generalize pushObj H (.cells (cellsA x) 40 (0, 0)) = H1 at *
  generalize H.heap.size = a at *
  clear b
  have hlen : bs.length ≤ 900 := by
    have h1 := b1.ps.len
    have h2 := s.len
    rw [h1, s.all]
    exact Nat.le_trans (List.length_filter_le _ _) (by omega)
  have hql : q.l.length ≤ 900 := Nat.le_trans s.len hm
  have hasc : Asc p.all := by rw [s.all]; exact s.num.asc (by omega) _
  have hord : 1 ≤ p.order ∧ p.order ≤ 4 := by rw [s.order]; exact s.ord
  simp [g]
  by_cases k456 : x.kind = 4 ∨ x.kind = 5 ∨ x.kind = 6
  · have hs := sim_next s (by omega) x.now
    have step : ∀ (n : Nat), True := fun _ => trivial
    rcases k456 with k | k | k
    all_goals
      simp [k, g]
      refine Next14 b1.ps (by omega) hord x.now fun H2 st2 fr2 => ?_
      have b2 := b1.afterP st2 fr2
      have sd2 := sd.afterP sd1 fr2
      have g2 := sd.keepP g fr2
      rw [hs.1]
      generalize hres : (rNext q x.now).2 = res at *
      obtain ⟨n1, l1, e1⟩ := res
      have b3 := b2.push (.cells (encL l1).cells 38 (0, 0))
      have sd3 : Side H2.heap.size pb rb v bs w := Side.fresh b2 (Nat.le_refl _)
      have sl3 : H2.heap.size < (pushObj H2 (.cells (encL l1).cells 38 (0, 0))).heap.size := by simp
      have g3 : getO (pushObj H2 (.cells (encL l1).cells 38 (0, 0))) H2.heap.size = some (.cells (encL l1).cells 38 (0, 0)) := by simp
      have na : ¬ a = H2.heap.size := by have := getO_lt g2; omega
      simp only [encL_cells] at b3 g3 sl3
      simp [allocX, szO, overL, na, g2]
      generalize hH3 : pushObj H2 (.cells #[.int .i64 l1.pri, .int .i64 l1.unt, .int .i64 l1.tries, .bool l1.back, .string (sB l1.target), .string (sB l1.body)] 38 (0, 0)) = H3 at *
      generalize H2.heap.size = a2 at *
      refine Next45 b3.rs (by omega) x.now fun H4 st4 fr4 => ?_
      have b4 := b3.afterR st4 fr4
      have g4 := sd3.keepR g3 fr4
      have na2 : ¬ a2 = H4.heap.size := by have := getO_lt g4; omega
      rw [hres]
      simp [allocX, szO, overL, na2, g4, eqL]
      exact ⟨rfl, _, _, _, _, _, b4.push _, hs.2.mono (Nat.le_succ _)⟩
  have n4 : ¬ x.kind = 4 := fun e => k456 (.inl e)
  have n5 : ¬ x.kind = 5 := fun e => k456 (.inr (.inl e))
  have n6 : ¬ x.kind = 6 := fun e => k456 (.inr (.inr e))
  clear k456
  by_cases k789 : x.kind = 7 ∨ x.kind = 8 ∨ x.kind = 9
  · have hs := sim_done s (by omega) x.num x.now x.ok x.reply
    rcases k789 with k | k | k
    all_goals
      simp [k, g]
      refine WP.drawP [(10, 0), (11, 0), (12, 0), (13, 0), (14, 0), (15, 0), (16, 0), (17, 0), (18, 0)] (by decide +kernel) (by decide +kernel) ?_
      simp [g]
      refine Done15 b1.ps hasc (by omega) hn x.now x.ok x.reply fun H2 st2 fr2 => ?_
      have b2 := b1.afterP st2 fr2
      have g2 := sd.keepP g fr2
      rw [hs.1]
      simp [g2]
      refine Done46 b2.rs (by omega) x.num x.now x.ok x.reply fun H4 st4 fr4 => ?_
      have b4 := b2.afterR st4 fr4
      simp
      refine ⟨Checks.cons rfl rfl rfl ?_ (Checks.cons rfl rfl rfl ?_ (Checks.cons rfl rfl rfl ?_ (Checks.cons rfl rfl rfl ?_ (Checks.cons rfl rfl rfl ?_ (Checks.cons rfl rfl rfl ?_ (Checks.cons rfl rfl rfl ?_ (Checks.cons rfl rfl rfl ?_ (Checks.cons rfl rfl rfl ?_ .nil)))))))), ?_⟩
      iterate 9
        · unfold reV
          simp [g, g2, q_int, q_ptr, q_bool, q_str]
      exact ⟨rfl, _, _, _, _, _, b4, hs.2.mono (Nat.le_succ _)⟩
  have n7 : ¬ x.kind = 7 := fun e => k789 (.inl e)
  have n8 : ¬ x.kind = 8 := fun e => k789 (.inr (.inl e))
  have n9 : ¬ x.kind = 9 := fun e => k789 (.inr (.inr e))
  clear k789
  by_cases k10 : x.kind = 10
  · have hs := sim_state s (by omega) x.num x.now
    simp [k10, g]
    refine State47 b1.ps hasc (by omega) hn x.now fun H2 st2 fr2 => ?_
    have b2 := b1.afterP st2 fr2
    have g2 := sd.keepP g fr2
    rw [hs.1]
    simp [g2]
    refine State48 b2.rs (by omega) x.num x.now fun H4 st4 fr4 => ?_
    have b4 := b2.afterR st4 fr4
    simp
    exact ⟨rfl, _, _, _, _, _, b4, hs.2.mono (Nat.le_succ _)⟩
  by_cases k11 : x.kind = 11
  · have hs := sim_poll s (by omega) x.num x.now
    simp [k11, g]
    refine Poll16 b1.ps hasc (by omega) hn x.now fun H2 st2 fr2 => ?_
    have b2 := b1.afterP st2 fr2
    have g2 := sd.keepP g fr2
    rw [hs.1]
    simp [g2]
    refine Poll49 b2.rs (by omega) x.num x.now fun H4 st4 fr4 => ?_
    have b4 := b2.afterR st4 fr4
    simp
    exact ⟨rfl, _, _, _, _, _, b4, hs.2.mono (Nat.le_succ _)⟩
  by_cases k12 : x.kind = 12
  · have hs := sim_backs s (by omega) x.now
    simp [k12, g]
    refine Backs17 b1.ps (by omega) x.now fun H2 vo st2 fr2 acc sep old => ?_
    have b2 := b1.afterP st2 fr2
    have g2 := sd.keepP g fr2
    rw [hs.1]
    simp [g2]
    refine Backs50 b2.rs (by omega) x.now fun H4 vo4 st4 fr4 acc4 sep4 old4 => ?_
    have b4 := b2.afterR st4 fr4
    rw [hs.1] at acc
    have avo := accR_keep acc (getO_lt b1.rs.hp) (fun r n c e => Acc.row_lt b1.rs.acc e) old fr4
    have hle : (rBacks q x.now).2.1.length < 2 ^ 62 := by
      unfold rBacks
      split
      · simp
      · have := backsR_len (atR q x.now).l
        have h2 : (atR q x.now).l.length = q.l.length := by simp [atR]
        show (backsR (atR q x.now).l).length < _
        omega
    have hsame := fun Q => sameR_heap avo acc4 hle Q
    simp [hsame]
    exact ⟨rfl, _, _, _, _, _, b4, hs.2.mono (Nat.le_succ _)⟩
  by_cases k13 : x.kind = 13
  · have hs := sim_with s (by omega) x.num x.now
    simp [k13, g]
    refine WP.drawP [(6, 0), (7, 0), (8, 0), (9, 0), (10, 0)] (by decide +kernel) (by decide +kernel) ?_
    simp [g]
    refine With18 b1.ps hasc (by omega) hn x.now fun H2 v2 bs2 st2 fr2 => ?_
    have b2 := b1.afterP st2 fr2
    have g2 := sd.keepP g fr2
    rw [hs.1]
    simp [g2]
    refine With52 b2.rs (by omega) x.num x.now fun H4 st4 fr4 => ?_
    have b4 := b2.afterR st4 fr4
    simp
    refine ⟨Checks.cons rfl rfl rfl ?_ (Checks.cons rfl rfl rfl ?_ (Checks.cons rfl rfl rfl ?_ (Checks.cons rfl rfl rfl ?_ (Checks.cons rfl rfl rfl ?_ .nil)))), ?_⟩
    iterate 5
      · unfold reV
        simp [g, g2, q_int, q_ptr, q_bool, q_str]
    exact ⟨rfl, _, _, _, _, _, b4, hs.2.mono (Nat.le_succ _)⟩
  by_cases k14 : x.kind = 14
  · have hs := sim_when s (by omega) x.now
    simp [k14, g]
    refine When53 b1.ps (by omega) x.now fun H2 st2 fr2 => ?_
    have b2 := b1.afterP st2 fr2
    have g2 := sd.keepP g fr2
    rw [hs.1]
    simp [g2]
    refine When54 b2.rs (by omega) x.now fun H4 st4 fr4 => ?_
    have b4 := b2.afterR st4 fr4
    simp
    exact ⟨rfl, _, _, _, _, _, b4, hs.2.mono (Nat.le_succ _)⟩
  · have hs := sim_put s (by omega) x.le x.now
    simp [n4, n5, n6, n7, n8, n9, k10, k11, k12, k13, k14, g]
    refine Put19 b1.ps (by omega) x.le x.now fun H2 v2 bs2 st2 fr2 => ?_
    have b2 := b1.afterP st2 fr2
    have g2 := sd.keepP g fr2
    have sd2 := sd.afterP sd1 fr2
    rw [hs.1]
    simp [g2]
    refine Put55 b2.rs (by omega) x.le x.now fun H4 w4 st4 fr4 => ?_
    have b4 := b2.afterR st4 fr4
    have g4 := sd2.keepR g2 fr4
    have hv42 := fun Q => Valid42 x.le H4 Q
    have hv56 := fun Q => Valid56 x.le H4 Q
    simp
    refine WP.drawP [(12, 0), (13, 0)] (by decide +kernel) (by decide +kernel) ?_
    simp [g4, hv42, hv56, bX_beql Try.underlying4]
    refine ⟨Checks.cons rfl rfl rfl ?_ (Checks.cons rfl rfl rfl ?_ .nil), ?_⟩
    iterate 2
      · unfold reV
        simp [g4, q_int, q_ptr, q_bool, q_str, q_encL]
    exact ⟨rfl, _, _, _, _, _, b4, hs.2⟩
end Go.Proofs.Ytjecafhbhcjoaaa
end
