/- Helpers of this claim: an evaluator over plain values and its laws. -/
import Derived.Test.YtjecafhbhcjoaaaRb
section
set_option linter.unusedVariables false
set_option linter.unusedSimpArgs false
namespace Go.Proofs.Ytjecafhbhcjoaaa
open Go Go.Proofs.Ytjecafhbhcjoaaa.Den
/-- Both posts, apart from each other. -/
structure Both (H : World) (pb : Nat) (p : PP) (v : Value) (bs : List Nat) (rb : Nat) (q : RP) (w : Value) : Prop where
  ps : PSt H pb p v bs
  rs : RSt H rb q w
  d1 : rb ≠ pb
  d2 : Apart v rb
  d3 : rb ∉ bs
  sep : Sep pb v bs w
section
variable {H H' : World} {pb rb : Nat} {p p' : PP} {q q' : RP} {v v' w w' : Value} {bs bs' : List Nat}
theorem Both.afterP (h : Both H pb p v bs rb q w) (st : PSt H' pb p' v' bs') (fr : FrP H H' pb v bs v' bs') : Both H' pb p' v' bs' rb q w := by
  obtain ⟨a1, a2⟩ := Acc.frp h.rs.acc h.sep fr
  obtain ⟨b1, b2⟩ := fr.fresh rb (getO_lt h.rs.hp) h.d1 h.d2 h.d3
  exact ⟨st, ⟨fr.keep _ _ h.rs.hp h.d1 h.d2 h.d3, a1, h.rs.apv⟩, h.d1, b1, b2, a2⟩
theorem ApV.symm' {u v : Value} (h : ApV u v) : ApV v u := ApV.symm h
theorem Both.afterR (h : Both H pb p v bs rb q w) (st : RSt H' rb q' w') (fr : FrR H H' rb w w') : Both H' pb p v bs rb q' w' := by
  have lpb := getO_lt h.ps.hp
  refine ⟨⟨fr.keep _ _ h.ps.hp (fun e => h.d1 e.symm) h.sep.1, h.ps.hv.keep fun r o hr _ hna => ?_, h.ps.len, fun i h1 h2 => ?_, h.ps.nd, h.ps.apv, h.ps.apl, h.ps.pbn⟩, st, h.d1, h.d2, h.d3, ?_, ?_, ?_⟩
  · rcases h.ps.hv with ⟨rfl, _⟩ | ⟨r', tail, rfl, _, h3, _⟩
    · exact absurd (apart_nil r) hna
    · by_cases e : r = r'
      · subst e
        exact fr.keep _ _ hr (fun e => h.d2 r _ _ rfl e.symm) (h.sep.2.1 r _ _ rfl)
      · exact absurd (fun r2 n c e1 e2 => e (by cases e1; exact e2)) hna
  · have hm := List.getElem_mem h1
    exact fr.keep _ _ (h.ps.hl i h1 h2) (fun e => h.d3 (by rw [← e]; exact hm)) (h.sep.2.2 _ hm)
  · exact fr.fresh _ lpb (fun e => h.d1 e.symm) h.sep.1
  · intro r n c e
    rcases h.ps.hv with ⟨rfl, _⟩ | ⟨r', tail, rfl, _, h3, _⟩
    · cases e
    · have e0 := e
      cases e
      exact fr.fresh _ (getO_lt h3) (fun e => h.d2 _ _ _ rfl e.symm) (h.sep.2.1 _ _ _ rfl)
  · intro b hb
    exact fr.fresh _ (h.ps.lt hb) (fun e => h.d3 (by rw [← e]; exact hb)) (h.sep.2.2 _ hb)
end
/-- An act. -/
structure Ac where
  kind : Int
  num : Int
  now : Int
  ok : Bool
  le : Le
  reply : List UInt8
abbrev cellsA (x : Ac) : Array Value := #[.int .i64 x.kind, .int .i64 x.num, .int .i64 x.now, .bool x.ok, .int .i64 x.le.pri, .int .i64 x.le.unt, .int .i64 x.le.tries, .bool x.le.back, .string (sB x.le.target), .string (sB x.le.body), .string (sB x.reply)]
abbrev encA (x : Ac) : Value := .agg (cellsA x)
abbrev acts (o : Option (List Ac)) : Value := slV 11 (o.map (List.map encA))
theorem plainA (o : Option (List Ac)) : plain deep (acts o) = true := plain_of (d := 2) (plain_slMap (fun n => by simp [plain, constOk1]) o) (by decide)
theorem getD_mapA (o : Option (List Ac)) : (o.map (List.map encA)).getD [] = (o.getD []).map encA := by cases o <;> rfl
def heavy (x : Ac) : Bool := (decide (100 < x.le.body.length) && decide (x.le.body.length ≤ 1000)) || decide (1010 < x.le.body.length) || decide (1010 < x.le.target.length) || decide (1010 < x.reply.length)
def lightW (l : List Ac) : Bool := !(l.any heavy) && decide (l.length ≤ 150)
set_option maxRecDepth 100000 in
theorem light12 (o : Option (List Ac)) (hl : (o.getD []).length < 2 ^ 62) (H : World) (Q : Value → World → Prop) : FW X 12 #[acts o] H Q = Q (.bool (lightW (o.getD []))) H := by
  refine FW.aloneEq ?_ Try.func12 Try.ntmps12 rfl (by simp) ?_ H Q
  · simp [X, plainA]
  simp
  refine CE.range (m := (o.getD []).length) (fun k e H' => lk e 0 = acts o ∧ lk e 5 = acts o ∧ ((o.getD []).take k).any heavy = false) ?_ (by omega) ?_ ?_ ?_
  · decide
  · simp
  · rintro k e H' hk q1 q2 ⟨h0, h5, hn⟩
    have hany : ((o.getD []).take (k + 1)).any heavy = heavy (o.getD [])[k] := by rw [List.take_succ_eq_append_getElem hk, List.any_append, hn]; simp
    rw [hany]
    have hbad : heavy (o.getD [])[k] = true → lightW (o.getD []) = false := by
      intro h
      unfold lightW
      have : (o.getD []).any heavy = true := List.any_eq_true.2 ⟨_, List.getElem_mem hk, h⟩
      simp [this]
    simp [q1, q2, h0, h5, getD_mapA, idxV, hk, allocX, szO, overL]
    generalize (o.getD [])[k] = x at *
    have c1 : (100 : Int) < x.le.body.length ↔ 100 < x.le.body.length := by omega
    have c2 : (x.le.body.length : Int) ≤ 1000 ↔ x.le.body.length ≤ 1000 := by omega
    have c3 : (1010 : Int) < x.le.body.length ↔ 1010 < x.le.body.length := by omega
    have c4 : (1010 : Int) < x.le.target.length ↔ 1010 < x.le.target.length := by omega
    have c5 : (1010 : Int) < x.reply.length ↔ 1010 < x.reply.length := by omega
    unfold heavy at hbad ⊢
    by_cases b1 : 100 < x.le.body.length
    · by_cases b2 : x.le.body.length ≤ 1000
      · simp [c1, c2, b1, b2]
        simp [b1, b2] at hbad
        simp [hbad]
      · by_cases b3 : 1010 < x.le.body.length
        · simp [c1, c2, c3, b1, b2, b3]
          simp [b3] at hbad
          simp [hbad]
        · by_cases b4 : 1010 < x.le.target.length
          · simp [c1, c2, c3, c4, b1, b2, b3, b4]
            simp [b4] at hbad
            simp [hbad]
          · by_cases b5 : 1010 < x.reply.length
            · simp [c1, c2, c3, c4, c5, b1, b2, b3, b4, b5]
              simp [b5] at hbad
              simp [hbad]
            · simp [c1, c2, c3, c4, c5, b1, b2, b3, b4, b5, q1, q2, h0, h5]
    · have b3 : ¬ 1010 < x.le.body.length := by omega
      by_cases b4 : 1010 < x.le.target.length
      · simp [c1, c2, c3, c4, b1, b3, b4]
        simp [b4] at hbad
        simp [hbad]
      · by_cases b5 : 1010 < x.reply.length
        · simp [c1, c2, c3, c4, c5, b1, b3, b4, b5]
          simp [b5] at hbad
          simp [hbad]
        · simp [c1, c2, c3, c4, c5, b1, b3, b4, b5, q1, q2, h0, h5]
  · rintro e H' q1 q2 ⟨h0, h5, hn⟩
    rw [List.take_length] at hn
    simp [h0, lightW, hn]
    omega
set_option maxRecDepth 100000 in
theorem counts26 {H : World} {pb rb : Nat} {p : PP} {q : RP} {v w : Value} {bs : List Nat} {m : Nat} (b : Both H pb p v bs rb q w) (s : Sim p q m) (hm : m ≤ 1000) {Q : Value → World → Prop} (hq : ∀ H', Both H' pb p v bs rb q w → Q (.bool true) H') : FW X 26 #[p0 pb, p0 rb] H Q := by
  refine FW.walk (by simp [X]) Try.func26 Try.ntmps26 rfl (by simp) ?_
  have hc := fun Q => Count20 b.ps.hp Q
  have hl := s.len
  simp [hc]
  refine Count57 b.rs (by omega) fun H2 st2 fr2 => ?_
  simp [s.put, s.ans, s.giv, s.lat, s.wdr]
  exact hq _ (b.afterR st2 fr2)
end Go.Proofs.Ytjecafhbhcjoaaa
end
