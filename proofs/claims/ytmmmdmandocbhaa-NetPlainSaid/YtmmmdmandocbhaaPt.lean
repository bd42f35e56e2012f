/- Helpers of this claim: an evaluator over plain values and its laws. -/
import Derived.Test.YtmmmdmandocbhaaPs
section
set_option linter.unusedVariables false
set_option linter.unusedSimpArgs false
namespace Go.Proofs.Ytmmmdmandocbhaa
open Go Go.Proofs.Ytmmmdmandocbhaa.Den
/-! ### the plain law of NetPlain -/
structure PlainN (n : NN) : Prop where
  lk : ∀ a b, lnk n a b = ⟨1, 0, 0, 0⟩
  sd : ∀ a, sid n a = 0
  dn : ∀ a, dwn n a = false
  lost : n.lost = 0
  dbl : n.dbl = 0
  fl : ∀ f ∈ n.fl, f.time ≤ n.now + 1 ∧ f.twice = false ∧ n.now ≤ f.time
theorem getD_repl {α : Type} (x : α) (m i : Nat) : (List.replicate m x).getD i x = x := by
  rw [List.getD_eq_getElem?_getD, List.getElem?_replicate]
  split <;> rfl
theorem plain_new (h : Int) (l : List Int) : PlainN (netZ h l ⟨1, 0, 0, 0⟩) where
  lk := fun a b => getD_repl _ _ _
  sd := fun a => getD_repl _ _ _
  dn := fun a => getD_repl _ _ _
  lost := rfl
  dbl := rfl
  fl := fun f hf => (List.not_mem_nil hf).elim
theorem plain_arrv {n : NN} (h : PlainN n) (f : Fl) : arrv n f = true := by
  unfold arrv
  rw [h.dn, h.sd, h.sd]; rfl
theorem tw_all {α : Type} {p : α → Bool} {l : List α} (h : ∀ x ∈ l, p x = true) : (l.takeWhile p).length = l.length := by
  induction l with
  | nil => rfl
  | cons x l ih =>
    rw [List.takeWhile_cons, if_pos (h x (List.mem_cons_self ..)), List.length_cons, ih fun y hy => h y (List.mem_cons_of_mem _ hy), List.length_cons]
/-- A plain network that lets a time go by. -/
theorem plain_pass {n : NN} {T : Nat} (iv : Inv n T) (h : PlainN n) {t : Int} (h1 : n.now + 1 ≤ t) (h2 : t ≤ 1000000000000) :
    ePass n t = 0 ∧ oPass n t = n.fl ∧ PlainN (pPass n t) ∧ (pPass n t).fl = [] ∧ (pPass n t).now = t ∧ (pPass n t).arr = n.arr + n.fl.length ∧ (pPass n t).hosts = n.hosts := by
  have hok : pPassOk n t := ⟨by omega, h2⟩
  have hc : cntT n.fl t = n.fl.length := tw_all fun f hf => decide_eq_true (by have := h.fl f hf; omega)
  have e : pPass n t = pK { n with now := t } n.fl n.fl.length := by unfold pPass; rw [if_pos hok, hc]
  have ha : ∀ f, arrv { n with now := t } f = true := fun f => plain_arrv h f
  have hl : (n.fl.take n.fl.length).countP (fun f => !arrv { n with now := t } f) = 0 := by
    rw [List.countP_eq_zero]; intro f _; simp [ha]
  have har : (n.fl.take n.fl.length).countP (arrv { n with now := t }) = n.fl.length := by
    rw [List.take_length, List.countP_eq_length]; intro f _; exact ha f
  refine ⟨if_pos hok, ?_, ?_, ?_, ?_, ?_, ?_⟩
  · unfold oPass
    rw [if_pos hok, hc, List.take_length, List.filter_eq_self]
    intro f _; exact plain_arrv h f
  · rw [e]
    refine ⟨h.lk, h.sd, h.dn, ?_, h.dbl, fun f hf => ?_⟩
    · show n.lost + (((n.fl.take n.fl.length).countP fun f => !arrv { n with now := t } f : Nat) : Int) = 0
      rw [hl, h.lost]; rfl
    · have hf' : f ∈ n.fl.drop n.fl.length := hf
      rw [List.drop_length] at hf'
      exact (List.not_mem_nil hf').elim
  · rw [e]; exact List.drop_length
  · rw [e]; rfl
  · rw [e]
    show n.arr + (((n.fl.take n.fl.length).countP (arrv { n with now := t }) : Nat) : Int) = _
    rw [har]
  · rw [e]; rfl
def sentF (n : NN) (a b : Int) (body : List UInt8) : Fl := ⟨n.next, a, b, if a = b then n.now else n.now + 1, body, false⟩
/-- A plain network that sends. -/
theorem plain_send {n : NN} {T : Nat} (iv : Inv n T) (h : PlainN n) {a b : Int} {body : List UInt8} (hb : body.length ≤ 100) (hh : hasB n a b) (hf : n.fl.length < 10000) :
    eSend n a b body = 0 ∧ iSend n a b body = n.next ∧ PlainN (pSend n a b body) ∧ (pSend n a b body).fl = putF n.fl (sentF n a b body) ∧ (pSend n a b body).now = n.now ∧ (pSend n a b body).arr = n.arr ∧ (pSend n a b body).hosts = n.hosts ∧ (pSend n a b body).next = n.next + 1 := by
  have he : eSend n a b body = 0 := by simp [eSend, hh, h.dn, show ¬ 65536 < body.length by omega, show ¬ 10000 ≤ n.fl.length by omega]
  have hi : iSend n a b body = n.next := by simp [iSend, he]
  have hp : pSend n a b body = pTake n a b body := by simp [pSend, he]
  obtain ⟨u, hu⟩ := pNum_snd (pSent n)
  have hk := pNum_fst (n := pSent n) iv.nums
  have ht : ∃ u, pTake n a b body = { pPut (pSent n) (sentF n a b body) with used := u } := by
    by_cases hab : a = b
    · refine ⟨n.used, ?_⟩
      unfold pTake
      rw [if_pos hab]
      have : newF n a b body = sentF n a b body := by simp [newF, sentF, hab]
      rw [this]; rfl
    · refine ⟨u, ?_⟩
      unfold pTake
      have hm : 0 ≤ (pNum (pSent n)).1.tmod 100 := Int.tmod_nonneg _ hk.1
      have hm2 : 0 ≤ ((pNum (pSent n)).1.tdiv 100).tmod 100 := Int.tmod_nonneg _ (Int.tdiv_nonneg hk.1 (by decide))
      rw [if_neg hab, h.lk, if_neg, if_neg (by show ¬ _ < (0 : Int); omega), hu]
      · have : late (newF n a b body) ⟨1, 0, 0, 0⟩ (pNum (pSent n)).1 = sentF n a b body := by
          simp [late, newF, sentF, hab]
        rw [this]; rfl
      · rw [h.sd, h.sd]
        rintro (h1 | h1)
        · exact h1 rfl
        · have : (pNum (pSent n)).1.tmod 100 < 0 := h1
          omega
  obtain ⟨u2, e⟩ := ht
  refine ⟨he, hi, ?_, ?_, ?_, ?_, ?_, ?_⟩
  · rw [hp, e]
    refine ⟨h.lk, h.sd, h.dn, h.lost, h.dbl, fun f hf => ?_⟩
    rcases putF_mem.1 (show f ∈ putF n.fl (sentF n a b body) from hf) with rfl | hf
    · show (if a = b then n.now else n.now + 1) ≤ n.now + 1 ∧ false = false ∧ n.now ≤ (if a = b then n.now else n.now + 1)
      split <;> refine ⟨by omega, rfl, by omega⟩
    · exact h.fl f hf
  all_goals (rw [hp, e]; rfl)
/-- Put in by its time, from the end, is put among the flights. -/
theorem want_ins {n : NN} {T : Nat} (iv : Inv n T) (h : PlainN n) {got : List Fl} (hg : ∀ f ∈ got, f.time ≤ n.now) {a b : Int} {body : List UInt8} {i : Nat} (hi : i ≤ (got ++ n.fl).length)
    (h1 : ∀ j (hj : j < (got ++ n.fl).length), j + 1 = i → (got ++ n.fl)[j].time ≤ (sentF n a b body).time) (h2 : ∀ j (hj : j < (got ++ n.fl).length), i ≤ j → (sentF n a b body).time < (got ++ n.fl)[j].time) :
    (got ++ n.fl).take i ++ sentF n a b body :: (got ++ n.fl).drop i = got ++ putF n.fl (sentF n a b body) := by
  have hnow : n.now ≤ (sentF n a b body).time := by
    show n.now ≤ (if a = b then n.now else n.now + 1)
    split <;> omega
  have hid : (sentF n a b body).id = n.next := rfl
  generalize sentF n a b body = x at *
  rw [List.length_append] at hi
  have hgi : got.length ≤ i := by
    refine Classical.byContradiction fun hc => ?_
    have hlt : i < got.length := by omega
    have := h2 i (by simp; omega) (Nat.le_refl _)
    rw [List.getElem_append_left hlt] at this
    have := hg _ (List.getElem_mem hlt)
    omega
  have hs := List.pairwise_iff_getElem.1 iv.ok.so
  have hk : i - got.length = pos n.fl x := by
    refine pos_eq (by omega) (fun m hm hmk => ?_) (fun m hm hmk => ?_)
    · have hp := h1 (i - 1) (by simp; omega) (by omega)
      rw [List.getElem_append_right (by omega)] at hp
      have hid2 := (iv.at' _ (List.getElem_mem hm)).2.2.2.2
      have hle : n.fl[m].time ≤ n.fl[i - 1 - got.length].time := by
        rcases Nat.lt_or_ge m (i - 1 - got.length) with h3 | h3
        · have := hs m (i - 1 - got.length) hm (by omega) h3
          unfold kLt at this
          omega
        · have : m = i - 1 - got.length := by omega
          subst this; exact Int.le_refl _
      unfold kLt
      omega
    · have hp := h2 (got.length + m) (by simp; omega) (by omega)
      rw [List.getElem_append_right (by omega)] at hp
      simp only [Nat.add_sub_cancel_left] at hp
      unfold kLt
      omega
  rw [List.take_append, List.drop_append, List.take_of_length_le hgi, List.drop_eq_nil_of_le hgi, List.nil_append, List.append_assoc, hk]
  rfl
end Go.Proofs.Ytmmmdmandocbhaa
end
