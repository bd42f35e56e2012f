/- Helpers of this claim: an evaluator over plain values and its laws. -/
import Derived.Test.YtmmmdmandocbhaaPv
section
set_option linter.unusedVariables false
set_option linter.unusedSimpArgs false
namespace Go.Proofs.Ytmmmdmandocbhaa
open Go Go.Proofs.Ytmmmdmandocbhaa.Den
/-- A state that gets more room. -/
theorem Inv.mono {n : NN} {T T' : Nat} (iv : Inv n T) (h : T ≤ T') (h2 : T' ≤ 100000) : Inv n T' :=
  { h1 := iv.h1, h2 := iv.h2, us := iv.us, ok := iv.ok, now0 := iv.now0, now1 := iv.now1, id0 := iv.id0, id1 := by have := iv.id1; omega, sent := iv.sent, dbl0 := iv.dbl0, dbl1 := iv.dbl1, arr := iv.arr, lost := iv.lost, sum := iv.sum, nums := iv.nums, links := iv.links, at' := iv.at', T := h2 }
/-- The law lets a time go by. -/
theorem LI.passed {hosts : Int} {k : Nat} {H H1 H2 : World} {b : Nat} {n : NN} {vn vf vf1 vw vg vg2 : Value} {got : List Fl} (h : LI hosts k H b n vn vf vw vg got) (hk : k + 1 ≤ 200) {t : Int} (ht : t = n.now + 1)
    (st : NSt H1 b (pPass n t) vn vf1) (fr : FrN H H1 b vf vf1) (ap : App H1 H2 vg vg2) (ag : AccP H2 vg2 (got ++ n.fl)) : LI hosts (k + 1) H2 b (pPass n t) vn vf1 vw vg2 (got ++ n.fl) := by
  have hn := h.now
  obtain ⟨p1, p2, p3, p4, p5, p6, p7⟩ := plain_pass h.iv h.pl (t := t) (by omega) (by omega)
  obtain ⟨w1, sw1⟩ := accp_fr h.w fr h.sw
  obtain ⟨g1, sg1⟩ := accp_fr h.g fr h.sg
  obtain ⟨st2, sg2⟩ := ap.nst st sg1
  obtain ⟨w2, t2⟩ := ap.acc w1 h.two
  exact ⟨st2, (inv_pass h.iv t).mono (by omega) (by omega), p3, by rw [p5]; omega, by rw [p7]; exact h.hosts, by rw [p4, List.append_nil]; exact w2, ag, fun f hf => by
      rw [p5]
      rcases List.mem_append.1 hf with hf | hf
      · have := h.gt f hf; omega
      · have := (h.pl.fl f hf).1; omega, by rw [p6, h.arr, List.length_append]; omega, by rw [p4, List.length_append]; have := h.len; simp; omega, sw1, sg2, t2⟩
/-- What the law does in a loop: the act's kind, then either road. -/
def isSend (x : Ac) : Prop := 3 ≤ x.kind ∧ x.kind ≤ 8
def hst (h x : Int) : Int := (x.tmod h + h).tmod h
theorem hst_ok {h x : Int} (h1 : 1 ≤ h) (h2 : h ≤ 16) : 0 ≤ hst h x ∧ hst h x < h ∧ IntKind.i64.wrap (x.tmod h + h) = x.tmod h + h := by
  have a1 : -h < x.tmod h := by
    have := Int.tmod_lt_of_pos (-x) (show 0 < h by omega)
    rw [Int.neg_tmod] at this
    omega
  have a2 := Int.tmod_lt_of_pos x (show 0 < h by omega)
  exact ⟨Int.tmod_nonneg _ (by omega), Int.tmod_lt_of_pos _ (by omega), wrap64 (by omega) (by omega)⟩
/-- The law sends. -/
theorem LI.sent {hosts : Int} {k : Nat} {H H1 : World} {b : Nat} {n : NN} {vn vf vf1 vw vg vw2 : Value} {got : List Fl} (h : LI hosts k H b n vn vf vw vg got) (hk : k + 1 ≤ 200) {x y : Int} {body : List UInt8} (hb : body.length ≤ 100) (hh : hasB n x y)
    (st : NSt H1 b (pSend n x y body) vn vf1) (sw : Sp3 vw2 b vn vf1) (sg : Sp3 vg b vn vf1) (g : AccP H1 vg got) (two : Two vw2 vg) (aw : AccP H1 vw2 (got ++ putF n.fl (sentF n x y body))) : LI hosts (k + 1) H1 b (pSend n x y body) vn vf1 vw2 vg got := by
  have hl := h.len
  obtain ⟨p1, p2, p3, p4, p5, p6, p7, p8⟩ := plain_send h.iv h.pl hb hh (by omega)
  exact ⟨st, inv_send h.iv (by omega) x y body, p3, by rw [p5]; have := h.now; omega, by rw [p7]; exact h.hosts, by rw [p4]; exact aw, g, fun f hf => by rw [p5]; exact h.gt f hf, by rw [p6]; exact h.arr, by rw [p4, putF_len]; omega, sw, sg, two⟩
end Go.Proofs.Ytmmmdmandocbhaa
end
