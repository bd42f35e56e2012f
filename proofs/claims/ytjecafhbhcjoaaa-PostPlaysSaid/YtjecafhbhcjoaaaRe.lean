/- Helpers of this claim: an evaluator over plain values and its laws. -/
import Derived.Test.YtjecafhbhcjoaaaRd
section
set_option linter.unusedVariables false
set_option linter.unusedSimpArgs false
namespace Go.Proofs.Ytjecafhbhcjoaaa
open Go Go.Proofs.Ytjecafhbhcjoaaa.Den
theorem both_new (H : World) (o r q : Int) : Both (pushObj (pushObj H (postO ⟨0, 0, 0, 0, 0, o, r, q, 0, []⟩ (.slice none 0 0))) (refO ⟨o, r, q, 0, [], 0⟩ (.slice none 0 0))) H.heap.size ⟨0, 0, 0, 0, 0, o, r, q, 0, []⟩ (.slice none 0 0) [] (H.heap.size + 1) ⟨o, r, q, 0, [], 0⟩ (.slice none 0 0) := by
  have n1 : ¬ H.heap.size = H.heap.size + 1 := by omega
  refine ⟨⟨by simp [n1], Row.nil, rfl, fun i h1 h2 => by simp at h1, by simp, apart_nil _, fun b hb => by simp at hb, by simp⟩, ⟨by simp, AccE.nil, apart_nil _⟩, by omega, apart_nil _, by simp, apart_nil _, fun r n c e => apart_nil _, fun b hb => by simp at hb⟩
theorem sim_new {o r q : Int} (h : okNew o r q = true) : Sim ⟨0, 0, 0, 0, 0, o, r, q, 0, []⟩ ⟨o, r, q, 0, [], 0⟩ 0 := by
  unfold okNew at h
  simp at h
  refine ⟨rfl, rfl, rfl, rfl, ⟨by simp; omega, by simp; omega⟩, by simp, rfl, fun i h => by simp at h, fun x hx => by simp at hx, by simp, rfl, rfl, rfl, rfl, rfl⟩
theorem rptr_nil (b : Nat) {x y : Operand} {H : World} : binX Try.prog .eql 57 x y (p0 b) (.pointer none) H = some (.value (.bool false), H) := (bX_ptr_nil Try.underlying57).1
theorem rnil_nil {x y : Operand} {H : World} : binX Try.prog .eql 57 x y (.pointer none) (.pointer none) H = some (.value (.bool true), H) := bX_ptr_nil2 Try.underlying57
theorem pnil_nil {x y : Operand} {H : World} : binX Try.prog .eql 32 x y (.pointer none) (.pointer none) H = some (.value (.bool true), H) := bX_ptr_nil2 Try.underlying32
set_option maxRecDepth 100000 in
theorem Plays5 (o r q : Int) (l : Option (List Ac)) (hl : (l.getD []).length < 2 ^ 62) (hn : ∀ x ∈ l.getD [], I64 x.num) (H : World) : FW X 5 #[.int .i64 o, .int .i64 r, .int .i64 q, acts l] H fun v _ => v = .bool true := by
  refine FW.walk (by simp [X]) Try.func5 Try.ntmps5 rfl (by simp) ?_
  have h12 := fun H Q => light12 l hl H Q
  cases hw : lightW (l.getD []) with
  | false => simp [h12, hw, awake_eq]
  | true =>
  have hlen : (l.getD []).length ≤ 150 := by
    unfold lightW at hw
    simp at hw
    exact hw.2
  cases hok : okNew o r q with
  | false => simp [h12, hw, awake_eq, New13, New22, hok, pnil_nil, rnil_nil, bX_bneq Try.underlying4]
  | true =>
  have b0 := both_new H o r q
  have s0 := sim_new hok
  simp [h12, hw, New13, New22, hok, pptr_nil, rptr_nil, bX_bneq Try.underlying4]
  refine CE.range (m := (l.getD []).length) (fun k e H' => lk e 9 = p0 H.heap.size ∧ lk e 11 = p0 (H.heap.size + 1) ∧ lk e 46 = acts l ∧ ∃ p v bs q w, Both H' H.heap.size p v bs (H.heap.size + 1) q w ∧ Sim p q k) ?_ (by omega) ?_ ?_ ?_
  · decide
  · refine ⟨by simp, by simp, by simp, by simp, by simp, _, _, _, _, _, b0, s0⟩
  · rintro k e H' hk q1 q2 ⟨e9, e11, e46, p, v, bs, q, w, b, s⟩
    generalize H.heap.size = pb at *
    generalize pb + 1 = rb at *
    have hx := hn _ (List.getElem_mem hk)
    simp [q1, q2, e46, getD_mapA, idxV, hk, allocX, szO, overL, e9, e11]
    generalize (l.getD [])[k] = x at *
    refine FW.imp (do23 (b.push _) s (by omega) x hx) ?_
    rintro _ H2 ⟨rfl, p2, v2, bs2, q2', w2, b2, s2⟩
    have hl2 := s2.len
    have hbl : bs2.length ≤ 200 := by rw [b2.ps.len, s2.all]; exact Nat.le_trans (List.length_filter_le _ _) (by omega)
    simp [e9, e11]
    refine Waiting21 b2.ps (by omega) fun H3 vo st3 fr3 acc3 sep3 old3 => ?_
    have b3 := b2.afterP st3 fr3
    simp [e9, e11]
    refine Waiting25 b3.rs (by omega) fun H4 wo st4 fr4 acc4 sep4 old4 => ?_
    have b4 := b3.afterR st4 fr4
    rw [sim_waiting s2] at acc3
    have acc3' : AccI H4 vo (waitL q2'.l) := by
      obtain ⟨h1, ⟨rfl, h2⟩ | ⟨r, rfl, h2, h3⟩⟩ := acc3
      · exact ⟨h1, .inl ⟨rfl, h2⟩⟩
      · refine ⟨h1, .inr ⟨r, rfl, h2, fr4.keep _ _ h3 (fun e => old3 rb (getO_lt b2.rs.hp) r _ _ rfl e.symm) fun r' n c e e2 => ?_⟩⟩
        exact old3 r' (Acc.row_lt b2.rs.acc e) r _ _ rfl e2.symm
    have hsame := fun Q => sameI_heap acc3' acc4 (by have := waitL_len q2'.l; omega) Q
    simp [hsame, e9, e11]
    refine counts26 b4 s2 (by omega) fun H5 b5 => ?_
    simp [q1, q2, e46, e9, e11]
    exact ⟨_, _, _, _, ⟨_, b5⟩, s2⟩
  · rintro e H' q1 q2 ⟨e9, e11, e46, p, v, bs, q, w, b, s⟩
    simp [awake_eq]
set_option maxRecDepth 100000 in
theorem wf_i64 {n : Int} (h : (Lit.int .i64 n).wf = true) : I64 n := by
  simp [Lit.wf, IntKind.min, IntKind.max, IntKind.bits, IntKind.signed] at h
  unfold I64
  omega
set_option maxRecDepth 100000 in
theorem in_L (c : List Value) (h : TyC reachBytes Try.prog 2 38 c) : ∃ a : Le, c = (encL a).cells.toList := by
  unfold TyC at h
  simp only [Try.underlying38] at h
  obtain ⟨a1, b1, rfl, h1, a2, b2, rfl, h2, a3, b3, rfl, h3, a4, b4, rfl, h4, a5, b5, rfl, h5, a6, b6, rfl, h6, h7⟩ := h
  subst h7
  obtain ⟨n1, _, _, rfl⟩ := in_int (k := .i64) (by simp) h1
  obtain ⟨n2, _, _, rfl⟩ := in_int (k := .i64) (by simp) h2
  obtain ⟨n3, _, _, rfl⟩ := in_int (k := .i64) (by simp) h3
  obtain ⟨n4, _, rfl⟩ := in_bool (by simp) h4
  obtain ⟨n5, _, _, rfl⟩ := in_string (by simp) h5
  obtain ⟨n6, _, _, rfl⟩ := in_string (by simp) h6
  exact ⟨⟨n1, n2, n3, n4, n5, n6⟩, rfl⟩
set_option maxRecDepth 100000 in
theorem in_A (c : List Value) (h : TyC reachBytes Try.prog 3 40 c) : ∃ a : Ac, Den.elemOf (aggU Try.prog 40) c = encA a ∧ I64 a.num := by
  have hag : aggU Try.prog 40 = true := by unfold aggU; simp
  unfold TyC at h
  simp only [Try.underlying40] at h
  rw [hag]
  obtain ⟨a1, b1, rfl, h1, a2, b2, rfl, h2, a3, b3, rfl, h3, a4, b4, rfl, h4, a5, b5, rfl, h5, a6, b6, rfl, h6, h7⟩ := h
  subst h7
  obtain ⟨n1, _, _, rfl⟩ := in_int (k := .i64) (by simp) h1
  obtain ⟨n2, _, g2, rfl⟩ := in_int (k := .i64) (by simp) h2
  obtain ⟨n3, _, _, rfl⟩ := in_int (k := .i64) (by simp) h3
  obtain ⟨n4, _, rfl⟩ := in_bool (by simp) h4
  obtain ⟨le, rfl⟩ := in_L _ h5
  obtain ⟨n6, _, _, rfl⟩ := in_string (by simp) h6
  exact ⟨⟨n1, n2, n3, n4, le, n6⟩, rfl, wf_i64 g2⟩
set_option maxRecDepth 100000 in
theorem in_Acts (c : List Value) (h : TyC reachBytes Try.prog 4 30 c) : ∃ o : Option (List Ac), Den.elemOf (aggU Try.prog 30) c = acts o ∧ (o.getD []).length < 2 ^ 62 ∧ ∀ a ∈ o.getD [], I64 a.num :=
  have ⟨o, h1, h2, h3⟩ := in_slice (enc := encA) (Ok := fun a => I64 a.num) Try.underlying30 (by simp) in_A h
  ⟨o, h1, Nat.lt_of_le_of_lt h2 (by decide), h3⟩
end Go.Proofs.Ytjecafhbhcjoaaa
end
