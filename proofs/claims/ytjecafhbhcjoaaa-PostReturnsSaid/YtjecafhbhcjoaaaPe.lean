/- Helpers of this claim: an evaluator over plain values and its laws. -/
import Derived.Test.YtjecafhbhcjoaaaPd
section
set_option linter.unusedVariables false
set_option linter.unusedSimpArgs false
namespace Go.Proofs.Ytjecafhbhcjoaaa
open Go Go.Proofs.Ytjecafhbhcjoaaa.Den
theorem marksW_app : ∀ (l pre m : List Int), marksW pre (l ++ m) = (marksW pre l && marksW (pre ++ l) m)
  | [], pre, m => by simp [marksW]
  | a :: l, pre, m => by
    show (!badAt pre a && marksW (pre ++ [a]) (l ++ m)) = ((!badAt pre a && marksW (pre ++ [a]) l) && marksW (pre ++ a :: l) m)
    rw [marksW_app l (pre ++ [a]) m, Bool.and_assoc]
    simp
theorem marksW_take {l : List Int} (h : marksW [] l = true) (k : Nat) : marksW [] (l.take k) = true := by
  have := marksW_app (l.take k) [] (l.drop k)
  rw [List.take_append_drop, h] at this
  have := this.symm
  rw [Bool.and_eq_true] at this
  exact this.1
theorem marksW_closed : ∀ (l pre : List Int), marksW pre l = true → ((2 ∈ pre → 1 ∈ pre) ∧ (3 ∈ pre → 2 ∈ pre)) → (2 ∈ pre ++ l → 1 ∈ pre ++ l) ∧ (3 ∈ pre ++ l → 2 ∈ pre ++ l)
  | [], pre, _, h => by simpa using h
  | a :: l, pre, hm, h => by
    have hm : (!badAt pre a && marksW (pre ++ [a]) l) = true := hm
    simp only [Bool.and_eq_true, Bool.not_eq_true'] at hm
    have := marksW_closed l (pre ++ [a]) hm.2 ⟨fun h2 => ?_, fun h2 => ?_⟩
    · simpa using this
    · rcases List.mem_append.1 h2 with h3 | h3
      · exact List.mem_append_left _ (h.1 h3)
      · have e : a = 2 := (List.mem_singleton.1 h3).symm
        subst e
        refine List.mem_append_left _ (Classical.byContradiction fun hn => ?_)
        have hb := hm.1
        unfold badAt at hb
        have e1 : (2 : Int) - 1 = 1 := rfl
        rw [e1] at hb
        simp [hn] at hb
    · rcases List.mem_append.1 h2 with h3 | h3
      · exact List.mem_append_left _ (h.2 h3)
      · have e : a = 3 := (List.mem_singleton.1 h3).symm
        subst e
        refine List.mem_append_left _ (Classical.byContradiction fun hn => ?_)
        have hb := hm.1
        unfold badAt at hb
        have e1 : (3 : Int) - 1 = 2 := rfl
        rw [e1] at hb
        simp [hn] at hb
theorem goW_spec (w : Int) : ∀ (l pre : List Int), goW w pre l = (0, 0, 0, 8) ∨ ∃ k, ∃ hk : k < l.length, (l[k] = w ∧ goW w pre l = ((pre.length : Int) + k + 1, 0, 0, 0)) ∨ ((l[k] = 4 ∨ l[k] = 5) ∧ goW w pre l = ((pre.length : Int) + k + 1, 2, if 1 ∈ pre ++ l.take k then 2 else 1, 0))
  | [], pre => .inl rfl
  | m :: l, pre => by
    have e : goW w pre (m :: l) = if m = w then ((pre.length : Int) + 1, 0, 0, 0) else if m = 4 ∨ m = 5 then ((pre.length : Int) + 1, 2, if 1 ∈ pre then 2 else 1, 0) else goW w (pre ++ [m]) l := rfl
    rw [e]
    by_cases h1 : m = w
    · rw [if_pos h1]
      exact .inr ⟨0, by simp, .inl ⟨h1, by simp⟩⟩
    · rw [if_neg h1]
      by_cases h2 : m = 4 ∨ m = 5
      · rw [if_pos h2]
        exact .inr ⟨0, by simp, .inr ⟨h2, by simp⟩⟩
      · rw [if_neg h2]
        rcases goW_spec w l (pre ++ [m]) with h3 | ⟨k, hk, h3⟩
        · exact .inl h3
        · refine .inr ⟨k + 1, by simpa using hk, ?_⟩
          have hl : (((pre ++ [m]).length : Nat) : Int) + (k : Int) + 1 = (pre.length : Int) + ((k + 1 : Nat) : Int) + 1 := by simp; omega
          rw [hl] at h3
          simpa using h3
/-- What the law asks of a call that returns. -/
theorem ret_ok {c : Int} {l : List Int} (h : (retW c l).2.2.2 = 0) : ∃ k : Nat, (retW c l).1 = (k : Int) ∧ k ≤ l.length ∧ (finW c (l.take k)).2 = 0 ∧ (c = 4 → (retW c l).2.1 = 0 → (finW c (l.take k)).1 = 0) ∧ ((retW c l).2.1 = 2 → (retW c l).2.2.1 = 1 → (finW c (l.take k)).1 = 1) := by
  unfold retW at h ⊢
  by_cases c1 : c < 1 ∨ 4 < c
  · rw [if_pos c1] at h; cases h
  rw [if_neg c1] at h ⊢
  by_cases hm : marksW [] l = true
  · rw [if_pos hm] at h ⊢
    by_cases c2 : c = 2
    · subst c2
      refine ⟨0, rfl, Nat.zero_le _, ?_, fun e _ => absurd e (by decide), fun e => absurd e (show ¬ (0 : Int) = 2 by decide)⟩
      simp [finW, marksW]
    · rw [if_neg c2] at h ⊢
      rcases goW_spec (wantW c) l [] with h3 | ⟨k, hk, h3⟩
      · rw [h3] at h; cases h
      · have hmt := marksW_take hm (k + 1)
        have hcl := marksW_closed (l.take (k + 1)) [] hmt ⟨fun h => by simp at h, fun h => by simp at h⟩
        rw [List.nil_append] at hcl
        have hf2 : (finW c (l.take (k + 1))).2 = 0 := by
          unfold finW
          rw [if_pos hmt, if_neg c1]
          split
          · rfl
          · split <;> rfl
        have hlast : l[k] ∈ l.take (k + 1) := List.mem_take_iff_getElem.2 ⟨k, by omega, rfl⟩
        rcases h3 with ⟨h4, h5⟩ | ⟨h4, h5⟩
        · refine ⟨k + 1, by rw [h5]; simp, hk, hf2, fun e _ => ?_, fun e => by rw [h5] at e; exact absurd e (show ¬ (0 : Int) = 2 by decide)⟩
          have hw : wantW c = 3 := by subst e; rfl
          unfold finW
          rw [if_pos hmt, if_neg c1, if_pos (by rw [← hw, ← h4]; exact hlast)]
        · refine ⟨k + 1, by rw [h5]; simp, hk, hf2, fun _ e => by rw [h5] at e; exact absurd e (show ¬ (2 : Int) = 0 by decide), fun _ e => ?_⟩
          rw [h5] at e
          simp only [List.nil_append] at e
          have hn1 : ¬ (1 : Int) ∈ l.take k := fun hin => by rw [if_pos hin] at e; exact absurd e (show ¬ (2 : Int) = 1 by decide)
          have hn1' : ¬ (1 : Int) ∈ l.take (k + 1) := by
            rw [List.take_succ_eq_append_getElem hk]
            intro hin
            rcases List.mem_append.1 hin with h6 | h6
            · exact hn1 h6
            · have := List.mem_singleton.1 h6
              rcases h4 with h7 | h7 <;> omega
          have hn2 : ¬ (2 : Int) ∈ l.take (k + 1) := fun h => hn1' (hcl.1 h)
          have hn3 : ¬ (3 : Int) ∈ l.take (k + 1) := fun h => hn2 (hcl.2 h)
          unfold finW
          rw [if_pos hmt, if_neg c1, if_neg hn3, if_neg hn2]
  · rw [if_neg hm] at h; cases h
set_option maxRecDepth 100000 in
theorem PostReturns3 (c : Int) (o : Option (List Int)) (hl : (o.getD []).length < 2 ^ 63) (H : World) : FW X 3 #[.int .i64 c, ints o] H fun v _ => v = .bool true := by
  refine FW.walk (by simp [X]) Try.func3 Try.ntmps3 rfl (by simp) ?_
  by_cases h20 : 20 < ((o.getD []).length : Int)
  · simp [h20, awake_eq]
  · have hl2 : (o.getD []).length < 2 ^ 62 := by omega
    have hr := ret_ok (c := c) (l := o.getD [])
    simp [h20, Returns8 c o hl2, Returns9 c o hl2, Final10 c o hl2, Final11 c o hl2]
    rcases hre : retW c (o.getD []) with ⟨a, s, d, e⟩
    rw [hre] at hr
    simp only at hr ⊢
    by_cases he : e = 0
    · obtain ⟨k, rfl, hk, hf, hq1, hq2⟩ := hr he
      subst he
      have hg : (o.map (List.take k)).getD [] = (o.getD []).take k := by cases o <;> simp
      have htk := fun H => take_ints o (n := k) hk H
      have hfn := fun H Q => Final10 c (o.map (List.take k)) (by rw [hg, List.length_take]; omega) H Q
      rw [hg] at hfn
      have hk' : ¬ ((o.getD []).length : Int) < (k : Int) := by omega
      have hk0 : ¬ (k : Int) < 0 := by omega
      rcases hfe : finW c ((o.getD []).take k) with ⟨n, g⟩
      rw [hfe] at hf hq1 hq2 hfn
      simp only at hf hq1 hq2 hfn
      subst hf
      by_cases c4 : c = 4
      · subst c4
        by_cases s0 : s = 0
        · have n0 := hq1 rfl s0
          subst s0 n0
          simp [hk', hk0, htk, hfn, awake_eq]
        · by_cases s2 : s = 2
          · by_cases d1 : d = 1
            · have n1 := hq2 s2 d1
              subst s2 d1 n1
              simp [hk', hk0, htk, hfn, awake_eq]
            · simp [hk', hk0, htk, hfn, awake_eq, s0, s2, d1]
          · simp [hk', hk0, htk, hfn, awake_eq, s0, s2]
      · by_cases s2 : s = 2
        · by_cases d1 : d = 1
          · have n1 := hq2 s2 d1
            subst s2 d1 n1
            simp [hk', hk0, htk, hfn, awake_eq, c4]
          · simp [hk', hk0, htk, hfn, awake_eq, c4, s2, d1]
        · simp [hk', hk0, htk, hfn, awake_eq, c4, s2]
    · simp [he, awake_eq]
set_option maxRecDepth 100000 in
theorem in_Ints (c : List Value) (h : TyC reachBytes Try.prog 2 22 c) : ∃ o : Option (List Int), Den.elemOf (aggU Try.prog 22) c = ints o ∧ (o.getD []).length < 2 ^ 63 :=
  have ⟨o, h1, h2, _⟩ := in_slice (enc := Value.int .i64) (Ok := fun _ => True) Try.underlying22 (by simp) (fun c hc => have ⟨n, h1, _, _⟩ := in_int (k := .i64) (by simp) hc; ⟨n, h1, trivial⟩) h
  ⟨o, h1, Nat.lt_of_le_of_lt h2 (by decide)⟩
end Go.Proofs.Ytjecafhbhcjoaaa
end
