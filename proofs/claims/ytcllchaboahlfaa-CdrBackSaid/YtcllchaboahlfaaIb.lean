/- Helpers of this claim: an evaluator over plain values and its laws. -/
import Derived.Test.YtcllchaboahlfaaIa
section
set_option linter.unusedVariables false
set_option linter.unusedSimpArgs false
namespace Go.Proofs.Ytcllchaboahlfaa
open Go Go.Proofs.Ytcllchaboahlfaa.Den
/-! ### what was written is read -/
theorem skipW_zeros {s : List UInt8} : ∀ (k nx : Nat), (∀ i, i < k → s[nx + i]? = some 0) → skipW s k nx = (nx + k, false)
  | 0, nx, _ => rfl
  | k + 1, nx, h => by
    unfold skipW
    have h0 := h 0 (by omega)
    rw [Nat.add_zero] at h0
    rw [if_pos h0, skipW_zeros k (nx + 1) fun i hi => by rw [show nx + 1 + i = nx + (i + 1) by omega]; exact h (i + 1) (by omega)]
    rw [show nx + 1 + k = nx + (k + 1) by omega]
section
variable {s out body rest : List UInt8} {at' : Int} {big : Bool}
theorem pad_zeros {size : Int} (h : s = out ++ List.replicate (padN at' out size) 0 ++ body ++ rest) : padS s at' ⟨out.length, -1⟩ size = ⟨out.length + padN at' out size, -1⟩ ∧ padE s at' ⟨out.length, -1⟩ size = 0 := by
  have e : padR at' out.length size = padN at' out size := rfl
  have hz := skipW_zeros (s := s) (padN at' out size) out.length fun i hi => by
    rw [h, List.append_assoc, List.append_assoc, List.getElem?_append_right (by omega), show out.length + i - out.length = i by omega, List.getElem?_append_left (by simpa using hi), List.getElem?_replicate, if_pos hi]
  unfold padS padE
  simp only [e, hz]
  exact ⟨rfl, rfl⟩
theorem slice_body {s pre body rest : List UInt8} (h : s = pre ++ body ++ rest) : sliceW s pre.length body.length = body := by
  unfold sliceW
  rw [h, List.append_assoc, List.drop_left, List.take_left]
theorem take_body {size : Int} {n : Nat} (h : s = out ++ List.replicate (padN at' out size) 0 ++ body ++ rest) (hn : body.length = n) : takeR s at' ⟨out.length, -1⟩ n size = ((body, 0), ⟨out.length + padN at' out size + n, -1⟩) := by
  obtain ⟨h1, h2⟩ := pad_zeros h
  have hl : s.length = out.length + padN at' out size + n + rest.length := by rw [h]; simp; omega
  have hs : sliceW s (out.length + padN at' out size) n = body := by
    have := slice_body (s := s) (pre := out ++ List.replicate (padN at' out size) 0) h
    simpa [hn] using this
  unfold takeR
  rw [h1, h2]
  rw [if_neg (show ¬ (0 : Int) ≤ -1 by decide), if_neg (by decide), if_neg (by simp only; omega)]
  simp only [hs]
theorem padN_one (at' : Int) (out : List UInt8) : padN at' out 1 = 0 := padR_one at' out.length
theorem putW_ok {at' : Int} {out s out' : List UInt8} {size : Int} (h : putW at' out s size = (out', 0)) : out' = out ++ List.replicate (padN at' out size) 0 ++ s ∧ out.length + padN at' out size + s.length ≤ 65536 := by
  unfold putW at h
  split at h
  · cases h
  · exact ⟨(Prod.mk.inj h).1.symm, by omega⟩
theorem oct_back {n : Int} {out' : List UInt8} (h : octetW at' out n = (out', 0)) (hp : s = out' ++ rest) : octR s at' ⟨out.length, -1⟩ = ((n, 0), ⟨out'.length, -1⟩) ∧ out' = out ++ [UInt8.ofNat n.toNat] ∧ 0 ≤ n ∧ n ≤ 255 := by
  unfold octetW at h
  split at h
  · cases h
  · rename_i hn
    obtain ⟨rfl, _⟩ := putW_ok h
    have := take_body (s := s) (out := out) (at' := at') (rest := rest) (size := 1) (n := 1) hp rfl
    have hlen : (out ++ List.replicate (padN at' out 1) 0 ++ [UInt8.ofNat n.toNat]).length = out.length + padN at' out 1 + 1 := by simp; omega
    rw [hlen]
    unfold octR
    rw [this]
    refine ⟨?_, by rw [padN_one]; simp, by omega, by omega⟩
    have e : (((UInt8.ofNat n.toNat).toNat : Nat) : Int) = n := by rw [UInt8.toNat_ofNat']; omega
    rw [List.headD_cons, e]
    simp
theorem flag_back {b : Bool} {out' : List UInt8} (h : flagW at' out b = (out', 0)) (hp : s = out' ++ rest) : flagR s at' ⟨out.length, -1⟩ = ((b, 0), ⟨out'.length, -1⟩) := by
  obtain ⟨h1, _, _, _⟩ := oct_back h hp
  unfold flagR
  rw [h1]
  cases b <;> rfl
theorem num_back {n : Int} {size : Nat} (hs : size = 2 ∨ size = 4 ∨ size = 8) (hb : numBad n size = false) (h1 : -9223372036854775808 ≤ n) (h2 : n < 9223372036854775808) (hp : s = out ++ List.replicate (padN at' out size) 0 ++ numL n size big ++ rest) :
    rnum s at' big ⟨out.length, -1⟩ size = ((n, 0), ⟨out.length + padN at' out size + size, -1⟩) := by
  have := take_body (n := size) hp (by simp)
  unfold rnum
  rw [this]
  simp only [if_true]
  rw [sgn_num n hs big hb h1 h2]
theorem number_back {n : Int} {size : Nat} (hs : size = 2 ∨ size = 4 ∨ size = 8) {out' : List UInt8} (h : numberW at' out n size big = (out', 0)) (h1 : -9223372036854775808 ≤ n) (h2 : n < 9223372036854775808) (hp : s = out' ++ rest) :
    rnum s at' big ⟨out.length, -1⟩ size = ((n, 0), ⟨out'.length, -1⟩) := by
  unfold numberW at h
  cases hb : numBad n size with
  | true => rw [if_pos hb] at h; cases h
  | false =>
    rw [if_neg (by rw [hb]; decide)] at h
    obtain ⟨rfl, _⟩ := putW_ok h
    rw [num_back hs hb h1 h2 hp]
    simp; omega
theorem count_back {k : Nat} {tail : List UInt8} {least : Int} (hk : k ≤ 65536) (hl : least ≤ k) (hkt : k ≤ tail.length) (hp : s = out ++ List.replicate (padN at' out 4) 0 ++ (numL k 4 big ++ tail) ++ rest) :
    countR s at' big ⟨out.length, -1⟩ least = (((k : Int), 0), ⟨out.length + padN at' out 4 + 4, -1⟩) := by
  have hb : numBad (k : Int) 4 = false := by
    have hbd : bound 4 = 2147483648 := by decide
    simp only [numBad, hbd, Bool.and_eq_false_iff, Bool.or_eq_false_iff, decide_eq_false_iff_not]
    omega
  have hr := num_back (s := s) (out := out) (at' := at') (big := big) (rest := tail ++ rest) (n := k) (size := 4) (by omega) hb (by omega) (by omega) (by rw [hp]; simp)
  have hlen : s.length = out.length + padN at' out 4 + 4 + tail.length + rest.length := by rw [hp]; simp; omega
  have c4 : ((4 : Nat) : Int) = 4 := rfl
  rw [c4] at hr
  unfold countR
  rw [hr]
  rw [if_neg (by simp only; omega)]
theorem bytes_back {t out' : List UInt8} (h : bytesW at' out t big = (out', 0)) (hp : s = out' ++ rest) : bytesR s at' big ⟨out.length, -1⟩ = ((t, 0), ⟨out'.length, -1⟩) := by
  obtain ⟨rfl, hl⟩ := putW_ok h
  have hll : t.length + 4 ≤ 65536 := by simp at hl; omega
  have hc := count_back (s := s) (out := out) (at' := at') (big := big) (rest := rest) (k := t.length) (tail := t) (least := 0) (by omega) (by omega) (Nat.le_refl _) hp
  unfold bytesR
  rw [hc]
  simp only [if_true]
  have hlen : s.length = out.length + padN at' out 4 + 4 + t.length + rest.length := by rw [hp]; simp; omega
  have hs : sliceW s (out.length + padN at' out 4 + 4) t.length = t := by
    have := slice_body (s := s) (pre := out ++ List.replicate (padN at' out 4) 0 ++ numL t.length 4 big) (body := t) (rest := rest) (by rw [hp]; simp)
    have hpl : (out ++ List.replicate (padN at' out 4) 0 ++ numL t.length 4 big).length = out.length + padN at' out 4 + 4 := by simp; omega
    rwa [hpl] at this
  unfold rawR
  rw [if_neg (show ¬ (0 : Int) ≤ -1 by decide), if_neg (by omega), if_neg (by simp only; omega)]
  simp only [Int.toNat_natCast, hs]
  simp; omega
theorem text_back {t out' : List UInt8} (h : textW at' out t big = (out', 0)) (hp : s = out' ++ rest) : textR s at' big ⟨out.length, -1⟩ = ((t, 0), ⟨out'.length, -1⟩) := by
  unfold textW at h
  split at h
  · cases h
  · rename_i hz
    obtain ⟨rfl, hl⟩ := putW_ok h
    have hll : t.length + 5 ≤ 65536 := by simp at hl; omega
    have hc := count_back (s := s) (out := out) (at' := at') (big := big) (rest := rest) (k := t.length + 1) (tail := t ++ [0]) (least := 1) (by omega) (by omega) (by simp) (by rw [hp]; simp)
    unfold textR
    rw [hc]
    simp only [if_true, Int.toNat_natCast]
    have hlen : s.length = out.length + padN at' out 4 + 4 + t.length + 1 + rest.length := by rw [hp]; simp; omega
    have hpl : (out ++ List.replicate (padN at' out 4) 0 ++ numL (t.length + 1 : Int) 4 big).length = out.length + padN at' out 4 + 4 := by simp; omega
    have hs : sliceW s (out.length + padN at' out 4 + 4) t.length = t := by
      have := slice_body (s := s) (pre := out ++ List.replicate (padN at' out 4) 0 ++ numL (t.length + 1 : Int) 4 big) (body := t) (rest := [0] ++ rest) (by rw [hp]; simp)
      rwa [hpl] at this
    have hg : s[out.length + padN at' out 4 + 4 + t.length]? = some 0 := by
      rw [hp]
      have e : out ++ List.replicate (padN at' out 4) 0 ++ (numL (t.length + 1 : Int) 4 big ++ (t ++ [0])) ++ rest = (out ++ List.replicate (padN at' out 4) 0 ++ numL (t.length + 1 : Int) 4 big) ++ (t ++ ([0] ++ rest)) := by simp
      rw [e, List.getElem?_append_right (by rw [hpl]; omega), hpl, List.getElem?_append_right (by omega)]
      rw [show out.length + padN at' out 4 + 4 + t.length - (out.length + padN at' out 4 + 4) - t.length = 0 by omega]
      rfl
    unfold tailR
    simp only [Nat.add_sub_cancel, hs, hg, if_true]
    rw [if_neg hz]
    simp; omega
theorem raw_back {t out' : List UInt8} (h : putW at' out t 1 = (out', 0)) (hp : s = out' ++ rest) : rawR s at' ⟨out.length, -1⟩ t.length = ((t, 0), ⟨out'.length, -1⟩) := by
  obtain ⟨rfl, hl⟩ := putW_ok h
  have := take_body (n := t.length) hp rfl
  rw [takeR_one] at this
  rw [this]
  simp; omega
theorem align_back {size : Int} {out' : List UInt8} (h : alignW at' out size = (out', 0)) (hp : s = out' ++ rest) : alignR s at' ⟨out.length, -1⟩ size = (0, ⟨out'.length, -1⟩) := by
  unfold alignW at h
  split at h
  · rename_i hz
    obtain ⟨rfl, hl⟩ := putW_ok h
    obtain ⟨h1, h2⟩ := pad_zeros hp
    unfold alignR
    rw [if_neg (show ¬ (0 : Int) ≤ -1 by decide), if_pos hz, h1, h2]
    simp
  · cases h
/-- The act that reads what the act wrote, and what it tells. -/
def fixA (a : Ac) : Ac := if a.kind = 7 then ⟨a.kind, a.s.length, a.m, a.s⟩ else a
def wantA (a : Ac) : Td := if a.kind = 1 ∧ a.n = 1 then ⟨1, [], 0⟩ else if ¬ a.kind = 1 ∧ a.kind < 5 then ⟨a.n, [], 0⟩ else if 5 ≤ a.kind ∧ a.kind < 8 then ⟨0, a.s, 0⟩ else ⟨0, [], 0⟩
theorem act_back {a : Ac} {out' : List UInt8} (k0 : 0 ≤ a.kind) (k8 : a.kind ≤ 8) (h1 : -9223372036854775808 ≤ a.n) (h2 : a.n < 9223372036854775808) (h : actW at' big out a = (out', 0)) (hp : s = out' ++ rest) :
    readR s at' big ⟨out.length, -1⟩ (fixA a) = (wantA a, ⟨out'.length, -1⟩) := by
  obtain ⟨kind, n, m, t⟩ := a
  simp only at k0 k8 h1 h2
  unfold actW at h
  simp only at h
  have hk : (fixA ⟨kind, n, m, t⟩).kind = kind := by unfold fixA; split <;> rfl
  unfold readR
  rw [hk]
  by_cases e0 : kind = 0
  · rw [if_pos e0] at h
    rw [if_pos e0, (oct_back h hp).1]
    simp [ofN, wantA, e0]
  rw [if_neg e0] at h ⊢
  by_cases e1 : kind = 1
  · rw [if_pos e1] at h
    rw [if_pos e1, flag_back h hp]
    by_cases hn : n = 1 <;> simp [ofF, wantA, e1, hn]
  rw [if_neg e1] at h ⊢
  by_cases e2 : kind = 2
  · rw [if_pos e2] at h
    rw [if_pos e2, number_back (.inl rfl) h h1 h2 hp]
    simp [ofN, wantA, e2]
  rw [if_neg e2] at h ⊢
  by_cases e3 : kind = 3
  · rw [if_pos e3] at h
    rw [if_pos e3, number_back (.inr (.inl rfl)) h h1 h2 hp]
    simp [ofN, wantA, e3]
  rw [if_neg e3] at h ⊢
  by_cases e4 : kind = 4
  · rw [if_pos e4] at h
    rw [if_pos e4, number_back (.inr (.inr rfl)) h h1 h2 hp]
    simp [ofN, wantA, e4]
  rw [if_neg e4] at h ⊢
  by_cases e5 : kind = 5
  · rw [if_pos e5] at h
    rw [if_pos e5, text_back h hp]
    simp [ofT, wantA, e5]
  rw [if_neg e5] at h ⊢
  by_cases e6 : kind = 6
  · rw [if_pos e6] at h
    rw [if_pos e6, bytes_back h hp]
    simp [ofT, wantA, e6]
  rw [if_neg e6] at h ⊢
  by_cases e7 : kind = 7
  · rw [if_pos e7] at h
    have hf : (fixA ⟨kind, n, m, t⟩).n = t.length := by unfold fixA; rw [if_pos e7]
    rw [if_pos e7, hf, raw_back h hp]
    simp [ofT, wantA, e7]
  rw [if_neg e7] at h ⊢
  have e8 : kind = 8 := by omega
  rw [if_pos e8] at h
  have hf : (fixA ⟨kind, n, m, t⟩).n = n := by unfold fixA; rw [if_neg e7]
  rw [hf, align_back h hp]
  simp [wantA, e8]
/-- What was written so far, and the acts that wrote it. -/
inductive Wrote (at' : Int) (big : Bool) : List UInt8 → List Ac → Prop
  | nil : Wrote at' big [] []
  | snoc {out out' done a} : Wrote at' big out done → 0 ≤ a.kind → a.kind ≤ 8 → -9223372036854775808 ≤ a.n → a.n < 9223372036854775808 → actW at' big out a = (out', 0) → Wrote at' big out' (done ++ [a])
theorem actW_more {a : Ac} {out' : List UInt8} {e : Int} (k8 : a.kind ≤ 8) (k0 : 0 ≤ a.kind) (h : actW at' big out a = (out', e)) : (e = 0 → ∃ m, out' = out ++ m) ∧ (¬ e = 0 → out' = out) := by
  have hput : ∀ {l size o e}, putW at' out l size = (o, e) → (e = 0 → ∃ m, o = out ++ m) ∧ (¬ e = 0 → o = out) := by
    intro l size o e h
    unfold putW at h
    split at h
    · obtain ⟨rfl, rfl⟩ := Prod.mk.inj h
      exact ⟨fun h => absurd h (by decide), fun _ => rfl⟩
    · obtain ⟨rfl, rfl⟩ := Prod.mk.inj h
      exact ⟨fun _ => ⟨_, List.append_assoc _ _ _⟩, fun h => absurd rfl h⟩
  have hbad : ∀ {o e : _} {c : Int}, ¬ c = 0 → (out, c) = (o, e) → (e = 0 → ∃ m, o = out ++ m) ∧ (¬ e = 0 → o = out) := by
    intro o e c hc h
    obtain ⟨rfl, rfl⟩ := Prod.mk.inj h
    exact ⟨fun h => absurd h hc, fun _ => rfl⟩
  have hoct : ∀ {n o e}, octetW at' out n = (o, e) → (e = 0 → ∃ m, o = out ++ m) ∧ (¬ e = 0 → o = out) := by
    intro n o e h
    unfold octetW at h
    split at h
    · exact hbad (by decide) h
    · exact hput h
  have hnum : ∀ {n size o e}, numberW at' out n size big = (o, e) → (e = 0 → ∃ m, o = out ++ m) ∧ (¬ e = 0 → o = out) := by
    intro n size o e h
    unfold numberW at h
    split at h
    · exact hbad (by decide) h
    · exact hput h
  unfold actW at h
  split at h
  · exact hoct h
  split at h
  · exact hoct h
  split at h
  · exact hnum h
  split at h
  · exact hnum h
  split at h
  · exact hnum h
  split at h
  · unfold textW at h
    split at h
    · exact hbad (by decide) h
    · exact hput h
  split at h
  · exact hput h
  split at h
  · exact hput h
  split at h
  · unfold alignW at h
    split at h
    · exact hput h
    · exact hbad (by decide) h
  · omega
theorem Wrote.back {out : List UInt8} {done : List Ac} (h : Wrote at' big out done) : ∃ f : Nat → Nat, f 0 = 0 ∧ f done.length = out.length ∧ ∀ k (hk : k < done.length) (s rest : List UInt8), s = out ++ rest → readR s at' big ⟨f k, -1⟩ (fixA done[k]) = (wantA done[k], ⟨f (k + 1), -1⟩) := by
  induction h with
  | nil => exact ⟨fun _ => 0, rfl, rfl, fun k hk => absurd hk (by simp)⟩
  | @snoc out out' done a hw k0 k8 h1 h2 ha ih =>
    obtain ⟨f, f0, f1, f2⟩ := ih
    refine ⟨fun k => if k ≤ done.length then f k else out'.length, by simp [f0], by simp only [List.length_append, List.length_singleton]; rw [if_neg (by omega)], fun k hk s rest hp => ?_⟩
    rw [List.length_append, List.length_singleton] at hk
    by_cases hkd : k < done.length
    · obtain ⟨m, hm⟩ := (actW_more k8 k0 ha).1 rfl
      have := f2 k hkd s (m ++ rest) (by rw [hp, hm]; simp)
      simp only
      rw [if_pos (by omega), if_pos (by omega), List.getElem_append_left hkd]
      exact this
    · have e : k = done.length := by omega
      subst e
      simp only
      rw [if_pos (Nat.le_refl _), if_neg (by omega), List.getElem_concat_length rfl, f1]
      exact act_back k0 k8 h1 h2 ha hp
end
end Go.Proofs.Ytcllchaboahlfaa
end
