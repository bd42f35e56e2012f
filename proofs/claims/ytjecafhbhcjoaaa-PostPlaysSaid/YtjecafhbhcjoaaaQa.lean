/- Helpers of this claim: an evaluator over plain values and its laws. -/
import Derived.Test.YtjecafhbhcjoaaaPa
section
set_option linter.unusedVariables false
set_option linter.unusedSimpArgs false
namespace Go.Proofs.Ytjecafhbhcjoaaa
open Go Go.Proofs.Ytjecafhbhcjoaaa.Den
abbrev p0 (b : Nat) : Value := .pointer (some ⟨b, 0, none⟩)
/-- A letter. -/
structure Lt where
  pri : Int
  unt : Int
  tries : Int
  back : Bool
  target : List UInt8
  body : List UInt8
  num : Int
  st : Int
  tried : Int
  frm : Int
  reply : List UInt8
  told : Bool
abbrev cellsL (x : Lt) : Array Value := #[.int .i64 x.pri, .int .i64 x.unt, .int .i64 x.tries, .bool x.back, .string (sB x.target), .string (sB x.body), .int .i64 x.num, .int .i64 x.st, .int .i64 x.tried, .int .i64 x.frm, .string (sB x.reply), .bool x.told]
abbrev letO (x : Lt) : Obj := .cells (cellsL x) 82 (0, 0)
/-- A post. -/
structure PP where
  put : Int
  ans : Int
  giv : Int
  lat : Int
  wdr : Int
  order : Int
  room : Int
  pause : Int
  now : Int
  all : List Lt
abbrev postO (p : PP) (v : Value) : Obj := .cells #[.int .i64 p.put, .int .i64 p.ans, .int .i64 p.giv, .int .i64 p.lat, .int .i64 p.wdr, .int .i64 p.order, .int .i64 p.room, .int .i64 p.pause, .int .i64 p.now, v] 77 (0, 0)
/-- A row of pointers, with what lies behind it. -/
def Row (H : World) (v : Value) (bs : List Nat) : Prop := (v = .slice none 0 0 ∧ bs = []) ∨ ∃ r tail, v = .slice (some ⟨r, 0, none⟩) bs.length (bs.length + tail.length) ∧ 0 < bs.length + tail.length ∧ getO H r = some (.cells (bs.map p0 ++ tail).toArray 79 (1, 0)) ∧ tail.all Value.oneCell' = true
theorem Row.nil {H : World} : Row H (.slice none 0 0) [] := .inl ⟨rfl, rfl⟩
theorem Row.keep {H H' : World} {v : Value} {bs : List Nat} (h : Row H v bs) (hk : ∀ r o, getO H r = some o → (∀ n c, v = .slice (some ⟨r, 0, none⟩) n c → True) → ¬ Apart v r → getO H' r = some o) : Row H' v bs := by
  rcases h with h | ⟨r, tail, h1, h2, h3, h4⟩
  · exact .inl h
  · exact .inr ⟨r, tail, h1, h2, hk r _ h3 (fun _ _ _ => trivial) (fun ha => ha r _ _ h1 rfl), h4⟩
theorem Row.push {H : World} {v : Value} {bs : List Nat} (h : Row H v bs) (o : Obj) : Row (pushObj H o) v bs := h.keep fun r o' h1 _ _ => by have := getO_lt h1; rw [get_push, if_neg (by omega)]; exact h1
theorem Row.set {H : World} {v : Value} {bs : List Nat} (h : Row H v bs) {i : Nat} (o : Obj) (ha : Apart v i) : Row (setO H i o) v bs := h.keep fun r o' h1 _ h2 => by
  rw [get_set, if_neg (show ¬ r = i from fun e => h2 (e ▸ ha))]; exact h1
theorem Row.len {H H0 : World} {v : Value} {bs : List Nat} (h : Row H v bs) : builtinX Try.prog .len #[75] #[v] H0 = some (.value (.int .i64 bs.length), H0) := by
  rcases h with ⟨rfl, rfl⟩ | ⟨r, tail, rfl, _, _, _⟩
  · simp
  · simp
theorem Row.fresh {H : World} {v : Value} {bs : List Nat} (h : Row H v bs) {i : Nat} (hi : H.heap.size ≤ i) : Apart v i := fun r n c hv => by
  rcases h with ⟨rfl, rfl⟩ | ⟨r', tail, rfl, _, h3, _⟩
  · cases hv
  · have := getO_lt h3
    cases hv
    omega
theorem nodup_inj {l : List Nat} (h : l.Nodup) {i k : Nat} (hi : i < l.length) (hk : k < l.length) (e : l[i] = l[k]) : i = k := by
  rcases Nat.lt_trichotomy i k with h1 | h1 | h1
  · exact absurd e (List.pairwise_iff_getElem.1 h i k hi hk h1)
  · exact h1
  · exact absurd e.symm (List.pairwise_iff_getElem.1 h k i hk hi h1)
structure PSt (H : World) (pb : Nat) (p : PP) (v : Value) (bs : List Nat) : Prop where
  hp : getO H pb = some (postO p v)
  hv : Row H v bs
  len : bs.length = p.all.length
  hl : ∀ i (h1 : i < bs.length) (h2 : i < p.all.length), getO H bs[i] = some (letO p.all[i])
  nd : bs.Nodup
  apv : Apart v pb
  apl : ∀ b ∈ bs, Apart v b
  pbn : pb ∉ bs
structure FrP (H H' : World) (pb : Nat) (v : Value) (bs : List Nat) (v' : Value) (bs' : List Nat) : Prop where
  keep : ∀ j o, getO H j = some o → j ≠ pb → Apart v j → j ∉ bs → getO H' j = some o
  fresh : ∀ j, j < H.heap.size → j ≠ pb → Apart v j → j ∉ bs → Apart v' j ∧ j ∉ bs'
  size : H.heap.size ≤ H'.heap.size
section
variable {H H' H2 : World} {pb : Nat} {p p' : PP} {v v' v2 : Value} {bs bs' bs2 : List Nat}
theorem FrP.refl : FrP H H pb v bs v bs := ⟨fun _ _ h _ _ _ => h, fun _ _ _ h1 h2 => ⟨h1, h2⟩, Nat.le_refl _⟩
theorem FrP.trans (h : FrP H H' pb v bs v' bs') (g : FrP H' H2 pb v' bs' v2 bs2) : FrP H H2 pb v bs v2 bs2 :=
  ⟨fun j o h1 h2 h3 h4 => have ⟨a, b⟩ := h.fresh j (getO_lt h1) h2 h3 h4; g.keep j o (h.keep j o h1 h2 h3 h4) h2 a b,
   fun j h1 h2 h3 h4 => have ⟨a, b⟩ := h.fresh j h1 h2 h3 h4; g.fresh j (Nat.lt_of_lt_of_le h1 h.size) h2 a b, Nat.le_trans h.size g.size⟩
theorem FrP.push (o : Obj) : FrP H (pushObj H o) pb v bs v bs := ⟨fun j o' h1 _ _ _ => by have := getO_lt h1; rw [get_push, if_neg (by omega)]; exact h1, fun _ _ _ h1 h2 => ⟨h1, h2⟩, by simp⟩
theorem FrP.setP (o : Obj) : FrP H (setO H pb o) pb v bs v bs := ⟨fun j o' h1 h2 _ _ => by rw [get_set, if_neg h2]; exact h1, fun _ _ _ h1 h2 => ⟨h1, h2⟩, by simp⟩
theorem FrP.setL {b : Nat} (hb : b ∈ bs) (o : Obj) : FrP H (setO H b o) pb v bs v bs := ⟨fun j o' h1 _ _ h4 => by rw [get_set, if_neg (show ¬ j = b from fun e => h4 (by rw [e]; exact hb))]; exact h1, fun _ _ _ h1 h2 => ⟨h1, h2⟩, by simp⟩
theorem FrP.setFresh (h : FrP H H' pb v bs v' bs') {i : Nat} (o : Obj) (hi : H.heap.size ≤ i) : FrP H (setO H' i o) pb v bs v' bs' :=
  ⟨fun j o' h1 h2 h3 h4 => by have := getO_lt h1; rw [get_set, if_neg (by omega)]; exact h.keep j o' h1 h2 h3 h4, h.fresh, by rw [size_set]; exact h.size⟩
theorem PSt.lt (st : PSt H pb p v bs) {b : Nat} (hb : b ∈ bs) : b < H.heap.size := by
  obtain ⟨i, hi, rfl⟩ := List.getElem_of_mem hb
  exact getO_lt (st.hl i hi (st.len ▸ hi))
theorem PSt.push (st : PSt H pb p v bs) (o : Obj) : PSt (pushObj H o) pb p v bs :=
  ⟨by have := getO_lt st.hp; rw [get_push, if_neg (by omega)]; exact st.hp, st.hv.push o, st.len, fun i h1 h2 => by have := getO_lt (st.hl i h1 h2); rw [get_push, if_neg (by omega)]; exact st.hl i h1 h2, st.nd, st.apv, st.apl, st.pbn⟩
theorem PSt.setOther (st : PSt H pb p v bs) {i : Nat} (o : Obj) (h1 : i ≠ pb) (h2 : Apart v i) (h3 : i ∉ bs) : PSt (setO H i o) pb p v bs :=
  ⟨by rw [get_set, if_neg h1.symm]; exact st.hp, st.hv.set o h2, st.len, fun k k1 k2 => by rw [get_set, if_neg (show ¬ bs[k] = i from fun e => h3 (by rw [← e]; exact List.getElem_mem k1))]; exact st.hl k k1 k2, st.nd, st.apv, st.apl, st.pbn⟩
theorem PSt.fresh (st : PSt H pb p v bs) {i : Nat} (hi : H.heap.size ≤ i) : i ≠ pb ∧ Apart v i ∧ i ∉ bs :=
  ⟨fun e => by have := getO_lt st.hp; omega, st.hv.fresh hi, fun h => by have := st.lt h; omega⟩
theorem PSt.setP (st : PSt H pb p v bs) (ha : p'.all = p.all) : PSt (setO H pb (postO p' v)) pb p' v bs :=
  ⟨by rw [get_set, if_pos rfl, if_pos (getO_lt st.hp)], st.hv.set _ st.apv, by rw [ha]; exact st.len, fun k k1 k2 => by
    rw [get_set, if_neg (show ¬ bs[k] = pb from fun e => st.pbn (by rw [← e]; exact List.getElem_mem k1))]
    simp only [ha]
    exact st.hl k k1 (by rw [← ha]; exact k2), st.nd, st.apv, st.apl, st.pbn⟩
theorem PSt.setL (st : PSt H pb p v bs) {i : Nat} (hi : i < bs.length) (x : Lt) : PSt (setO H bs[i] (letO x)) pb { p with all := p.all.set i x } v bs := by
  have hm := List.getElem_mem hi
  refine ⟨by rw [get_set, if_neg (show ¬ pb = bs[i] from fun e => st.pbn (by rw [e]; exact hm))]; exact st.hp, st.hv.set _ (st.apl _ hm), by simpa using st.len, fun k k1 k2 => ?_, st.nd, st.apv, st.apl, st.pbn⟩
  rw [get_set]
  by_cases hk : k = i
  · subst hk
    rw [if_pos rfl, if_pos (st.lt hm)]
    simp
  · rw [if_neg (show ¬ bs[k] = bs[i] from fun e => hk (nodup_inj st.nd k1 hi e)), st.hl k k1 (by rw [← st.len]; exact k1)]
    simp [List.getElem_set, show ¬ i = k from fun e => hk e.symm]
theorem PSt.look (st : PSt H pb p v bs) {i : Nat} (hi : i < bs.length) : getO H bs[i] = some (letO (p.all[i]'(st.len ▸ hi))) := st.hl i hi _
/-- What the row of pointers holds. -/
theorem PSt.row (st : PSt H pb p v bs) (h : 0 < bs.length) : ∃ r c cs, v = .slice (some ⟨r, 0, none⟩) bs.length c ∧ bs.length ≤ c ∧ getO H r = some (.cells cs 79 (1, 0)) ∧ ∀ k (hk : k < bs.length), cs[k]? = some (p0 bs[k]) := by
  rcases st.hv with ⟨_, rfl⟩ | ⟨r, tail, h1, h2, h3, _⟩
  · simp at h
  · refine ⟨r, _, _, h1, by omega, h3, fun k hk => ?_⟩
    rw [List.getElem?_toArray, List.getElem?_append_left (by simpa using hk), List.getElem?_map, List.getElem?_eq_getElem hk]; rfl
end
/-! ### time -/
def overL' (x : Lt) (now : Int) : Bool := decide (0 < x.unt) && decide (x.unt < now)
def lateS (now : Int) (x : Lt) : Lt := if x.st = 1 ∧ overL' x now = true then { x with st := 5 } else x
def latF (now : Int) : Int → List Lt → Int
  | a, [] => a
  | a, x :: l => latF now (if x.st = 1 ∧ overL' x now = true then IntKind.i64.wrap (a + 1) else a) l
def atBad (p : PP) (now : Int) : Prop := now < p.now ∨ 1000000000000 < now
instance (p : PP) (now : Int) : Decidable (atBad p now) := by unfold atBad; infer_instance
def atP (p : PP) (now : Int) : PP := { p with now := now, all := p.all.map (lateS now), lat := latF now p.lat p.all }
theorem lptr_nil (b : Nat) {x y : Operand} {H : World} : binX Try.prog .eql 79 x y (p0 b) (.pointer none) H = some (.value (.bool false), H) := (bX_ptr_nil Try.underlying79).1
theorem pptr_nil (b : Nat) {x y : Operand} {H : World} : binX Try.prog .eql 32 x y (p0 b) (.pointer none) H = some (.value (.bool false), H) := (bX_ptr_nil Try.underlying32).1
set_option maxRecDepth 100000 in
theorem over38 {H : World} {b : Nat} {x : Lt} (h : getO H b = some (letO x)) (now : Int) (Q : Value → World → Prop) : FW X 38 #[p0 b, .int .i64 now] H Q = Q (.bool (overL' x now)) H := by
  refine FW.eqE (by simp [X]) Try.func38 Try.ntmps38 rfl (by simp) ?_ Q
  unfold overL'
  by_cases h0 : 0 < x.unt
  · simp [h, h0]
  · simp [h, h0]
theorem latF_drop {now a : Int} {l : List Lt} {k : Nat} (hk : k < l.length) : latF now a (l.drop k) = latF now (if l[k].st = 1 ∧ overL' l[k] now = true then IntKind.i64.wrap (a + 1) else a) (l.drop (k + 1)) := by
  rw [List.drop_eq_getElem_cons hk]; rfl
def mix (f : Lt → Lt) (l : List Lt) (k : Nat) : List Lt := (l.take k).map f ++ l.drop k
theorem mix_len (f : Lt → Lt) (l : List Lt) (k : Nat) : (mix f l k).length = l.length := by simp [mix]; omega
theorem mix_get {f : Lt → Lt} {l : List Lt} {k : Nat} (hk : k < l.length) : (mix f l k)[k]'(by rw [mix_len]; exact hk) = l[k] := by
  unfold mix
  rw [List.getElem_append_right (by simp; omega)]
  simp [Nat.min_eq_left (Nat.le_of_lt hk)]
theorem mix_succ {f : Lt → Lt} {l : List Lt} {k : Nat} (hk : k < l.length) : (mix f l k).set k (f l[k]) = mix f l (k + 1) := by
  unfold mix
  have hlen : ((l.take k).map f).length = k := by simp; omega
  rw [List.set_append_right _ _ (by omega), hlen, Nat.sub_self, List.drop_eq_getElem_cons hk, List.take_succ_eq_append_getElem hk, List.set_cons_zero, List.map_append, List.append_assoc]
  rfl
theorem mix_same {f : Lt → Lt} {l : List Lt} {k : Nat} (hk : k < l.length) (h : f l[k] = l[k]) : mix f l (k + 1) = mix f l k := by
  rw [← mix_succ hk, h, ← mix_get (f := f) hk]
  simp
theorem mix_zero (f : Lt → Lt) (l : List Lt) : mix f l 0 = l := by simp [mix]
theorem mix_all (f : Lt → Lt) (l : List Lt) : mix f l l.length = l.map f := by simp [mix]
set_option maxRecDepth 100000 in
theorem at35 {H : World} {pb : Nat} {p : PP} {v : Value} {bs : List Nat} (st : PSt H pb p v bs) (hl : bs.length < 2 ^ 62) (now : Int) {Q : Value → World → Prop}
    (hb : atBad p now → Q (.int .i64 7) H) (hq : ¬ atBad p now → ∀ H', PSt H' pb (atP p now) v bs → FrP H H' pb v bs v bs → Q (.int .i64 0) H') : FW X 35 #[p0 pb, .int .i64 now] H Q := by
  refine FW.walk (by simp [X]) Try.func35 Try.ntmps35 rfl (by simp) ?_
  have hp := st.hp
  have lp := getO_lt hp
  by_cases h1 : now < p.now
  · simp [pptr_nil, hp, h1]
    exact hb (.inl h1)
  by_cases h2 : 1000000000000 < now
  · simp [pptr_nil, hp, h1, h2]
    exact hb (.inr h2)
  have hq := hq (fun h => h.elim h1 h2)
  have hlen := fun H0 => st.hv.len (H0 := H0)
  have st1 := st.setP (p' := { p with now := now }) rfl
  have fr1 : FrP H (setO H pb (postO { p with now := now } v)) pb v bs v bs := FrP.setP _
  simp [pptr_nil, hp, h1, h2, lp, overL, hlen]
  show CE _ _ _ _ _ _ (setO H pb (postO { p with now := now } v)) _
  generalize setO H pb (postO { p with now := now } v) = H1 at *
  refine CE.range (m := bs.length) (fun k e H' => lk e 28 = v ∧ lk e 0 = p0 pb ∧ lk e 1 = .int .i64 now ∧ ∃ a, latF now p.lat p.all = latF now a (p.all.drop k) ∧ PSt H' pb { p with now := now, lat := a, all := mix (lateS now) p.all k } v bs ∧ FrP H1 H' pb v bs v bs) ?_ (by omega) ?_ ?_ ?_
  · decide
  · refine ⟨by simp, by simp, by simp, by simp, by simp, p.lat, by simp, ?_, FrP.refl⟩
    rw [mix_zero]; exact st1
  · rintro k e H' hk q1 q2 ⟨h28, h0, hn, a, hlat, stk, frk⟩
    obtain ⟨r, c, cs, rfl, hnc, hr, hcs⟩ := stk.row (by omega)
    have hbs := hcs k hk
    have hk' : k < p.all.length := by rw [← st.len]; exact hk
    have hlk := stk.look hk
    rw [mix_get hk'] at hlk
    rw [latF_drop hk'] at hlat
    have hov := fun Q => over38 hlk now Q
    have hpk := stk.hp
    have lpk := getO_lt hpk
    have lbk := getO_lt hlk
    have nbp : ¬ pb = bs[k] := fun e => stk.pbn (by rw [e]; exact List.getElem_mem hk)
    generalize hx : p.all[k] = x at *
    by_cases hc : x.st = 1 ∧ overL' x now = true
    · rw [if_pos hc] at hlat
      have hst := stk.setL hk { x with st := 5 }
      have hms : (mix (lateS now) p.all k).set k { x with st := 5 } = mix (lateS now) p.all (k + 1) := by
        rw [← mix_succ hk', hx]
        unfold lateS
        rw [if_pos hc]
      simp only [hms] at hst
      have hst2 := hst.setP (p' := { p with now := now, lat := IntKind.i64.wrap (a + 1), all := mix (lateS now) p.all (k + 1) }) rfl
      simp [q1, q2, h28, h0, hn, hr, hk, hbs, hlk, hc.1, hov, hc.2, lbk, overL, nbp, hpk, lpk]
      exact ⟨_, hlat, hst2, frk.trans ((FrP.setL (List.getElem_mem hk) _).trans (FrP.setP _))⟩
    · rw [if_neg hc] at hlat
      have hms : mix (lateS now) p.all (k + 1) = mix (lateS now) p.all k := mix_same hk' (by rw [hx]; unfold lateS; rw [if_neg hc])
      rw [hms]
      by_cases hs1 : x.st = 1
      · have ho : overL' x now = false := by
          cases ho : overL' x now with
          | false => rfl
          | true => exact absurd ⟨hs1, ho⟩ hc
        simp [q1, q2, h28, h0, hn, hr, hk, hbs, hlk, hs1, hov, ho]
        exact ⟨_, hlat, stk, frk⟩
      · simp [q1, q2, h28, h0, hn, hr, hk, hbs, hlk, hs1]
        exact ⟨_, hlat, stk, frk⟩
  · rintro e H' q1 q2 ⟨h28, h0, hn, a, hlat, stk, frk⟩
    simp
    refine hq _ ?_ (fr1.trans frk)
    have e1 : mix (lateS now) p.all bs.length = p.all.map (lateS now) := by rw [st.len]; exact mix_all _ _
    rw [st.len, List.drop_length] at hlat
    rw [e1] at stk
    unfold atP
    rw [hlat]
    exact stk
end Go.Proofs.Ytjecafhbhcjoaaa
end

section
set_option linter.unusedVariables false
set_option linter.unusedSimpArgs false
namespace Go.Proofs.Ytjecafhbhcjoaaa
open Go Go.Proofs.Ytjecafhbhcjoaaa.Den
set_option maxRecDepth 100000 in
theorem within34 (n lo hi : Int) (H : World) (Q : Value → World → Prop) : FW X 34 #[.int .i64 n, .int .i64 lo, .int .i64 hi] H Q = Q (.bool (decide (lo ≤ n) && decide (n ≤ hi))) H := by
  refine FW.aloneEq ?_ Try.func34 Try.ntmps34 rfl (by simp) ?_ H Q
  · simp [X, plainDI]
  by_cases h : lo ≤ n <;> simp [h]
/-- A letter that is put. -/
structure Le where
  pri : Int
  unt : Int
  tries : Int
  back : Bool
  target : List UInt8
  body : List UInt8
def encL (x : Le) : Value := .agg #[.int .i64 x.pri, .int .i64 x.unt, .int .i64 x.tries, .bool x.back, .string (sB x.target), .string (sB x.body)]
theorem plainL1 (x : Le) : plain 1 (encL x) = true := by simp [plain, encL, constOk1]
@[simp] theorem encL_cells (x : Le) : (encL x).cells = #[.int .i64 x.pri, .int .i64 x.unt, .int .i64 x.tries, .bool x.back, .string (sB x.target), .string (sB x.body)] := rfl
@[simp] theorem encL_agg (a b c : Int) (d : Bool) (e f : List UInt8) : (.agg #[.int .i64 a, .int .i64 b, .int .i64 c, .bool d, .string (sB e), .string (sB f)] : Value) = encL ⟨a, b, c, d, e, f⟩ := rfl
theorem plainL (x : Le) : plain deep (encL x) = true := plain_of (d := 1) (plainL1 x) (by decide)
def validW (x : Le) : Bool := decide (0 ≤ x.pri) && decide (x.pri ≤ 100) && (decide (0 ≤ x.unt) && decide (x.unt ≤ 1000000000000)) && (decide (1 ≤ x.tries) && decide (x.tries ≤ 20)) && decide (x.target.length ≤ 1000) && decide (x.body.length ≤ 1000)
set_option maxRecDepth 100000 in
theorem Valid42 (x : Le) (H : World) (Q : Value → World → Prop) : FW X 42 #[encL x] H Q = Q (.bool (validW x)) H := by
  refine FW.aloneEq ?_ Try.func42 Try.ntmps42 rfl (by simp) ?_ H Q
  · simp [X, plainL]
  unfold validW
  simp [szO]
  cases h1 : decide (0 ≤ x.pri) && decide (x.pri ≤ 100) with
  | false => simp [within34, h1]
  | true =>
    cases h2 : decide (0 ≤ x.unt) && decide (x.unt ≤ 1000000000000) with
    | false => simp [within34, h1, h2]
    | true =>
      cases h3 : decide (1 ≤ x.tries) && decide (x.tries ≤ 20) with
      | false => simp [within34, h1, h2, h3]
      | true =>
        by_cases h4 : (x.target.length : Int) ≤ 1000
        · have h4' : x.target.length ≤ 1000 := by omega
          by_cases h5 : (x.body.length : Int) ≤ 1000
          · have h5' : x.body.length ≤ 1000 := by omega
            simp [within34, h1, h2, h3, h4, h5, h4', h5']
          · have h5' : ¬ x.body.length ≤ 1000 := by omega
            simp [within34, h1, h2, h3, h4, h5, h4', h5']
        · have h4' : ¬ x.target.length ≤ 1000 := by omega
          simp [within34, h1, h2, h3, h4, h4']
/-! ### the orders -/
def orW (a b : Int) : Int := if a = 0 then b else a
def untW (x : Lt) : Int := if x.unt = 0 then 1000000000001 else x.unt
def numD (x y : Lt) : Int := IntKind.i64.wrap (x.num - y.num)
def lessW (order : Int) (x y : Lt) : Int := if order = 3 then orW (IntKind.i64.wrap (y.pri - x.pri)) (numD x y) else if order = 4 then orW (IntKind.i64.wrap (untW x - untW y)) (numD x y) else numD x y
section
variable {H : World} {a b : Nat} {x y : Lt}
set_option maxRecDepth 100000 in
theorem first70 (ha : getO H a = some (letO x)) (hb : getO H b = some (letO y)) (Q : Value → World → Prop) : FW X 70 #[p0 a, p0 b] H Q = Q (.int .i64 (numD x y)) H := by
  refine FW.eqE (by simp [X]) Try.func70 Try.ntmps70 rfl (by simp) ?_ Q
  unfold numD
  simp
  refine WP.draw0 (by decide +kernel) (by decide +kernel) ?_
  simp [ha, hb]
set_option maxRecDepth 100000 in
theorem until71 (ha : getO H a = some (letO x)) (Q : Value → World → Prop) : FW X 71 #[p0 a] H Q = Q (.int .i64 (untW x)) H := by
  refine FW.eqE (by simp [X]) Try.func71 Try.ntmps71 rfl (by simp) ?_ Q
  unfold untW
  by_cases h : x.unt = 0
  · simp [ha, h]
  · simp [ha, h]
set_option maxRecDepth 100000 in
theorem or73 {r : Nat} {n m : Int} (hr : getO H r = some (.cells #[.int .i64 n, .int .i64 m] 3 (0, 0))) (Q : Value → World → Prop) : FW X 73 #[.slice (some ⟨r, 0, none⟩) 2 2] H Q = Q (.int .i64 (orW n m)) H := by
  refine FW.eqE (by simp [X]) Try.func73 Try.ntmps73 rfl (by simp) ?_ Q
  unfold orW
  have w1 : IntKind.i64.wrap 1 = 1 := by decide
  have w2 : IntKind.i64.wrap 2 = 2 := by decide
  simp
  refine CE.round ?_
  by_cases h : n = 0
  · subst h
    simp [hr, w1]
    refine CE.round ?_
    by_cases h2 : m = 0
    · subst h2
      simp [hr, w1, w2]
      refine CE.round ?_
      simp [hr]
    · simp [hr, h2]
  · simp [hr, h]
end
end Go.Proofs.Ytjecafhbhcjoaaa
end
