/- Helpers of this claim: an evaluator over plain values and its laws. -/
import Derived.Test.YtmmmdmandocbhaaNc
section
set_option linter.unusedVariables false
set_option linter.unusedSimpArgs false
namespace Go.Proofs.Ytmmmdmandocbhaa
open Go Go.Proofs.Ytmmmdmandocbhaa.Den
/-! ### the network of the reference -/
abbrev cellsW (x : Fl) : Array Value := #[.int .i64 x.id, .int .i64 (if x.twice then 1 else 0), .int .i64 x.frm, .int .i64 x.to, .int .i64 x.time, .string (sB x.body)]
abbrev encW (x : Fl) : Value := .agg (cellsW x)
theorem encW_size (x : Fl) : (encW x).cells.size = 6 := rfl
theorem encW_one (x : Fl) : (encW x).cells.all Value.oneCell' = true := by simp [Value.cells, Value.oneCell']
/-- A row that may be read and written. -/
def RowC (e : TypeId) (H : World) (v : Value) (n : Nat) (cs : List Value) : Prop := (v = .slice none 0 0 ∧ n = 0 ∧ cs = []) ∨ ∃ r c fr, v = .slice (some ⟨r, 0, none⟩) n c ∧ getO H r = some (.cells cs.toArray e fr) ∧ mayW fr = true
structure RL where
  links : List Lk
  sides : List Int
  down : List Bool
  und : List Fl
abbrev netR (n : NN) (vn vl vs vd vu : Value) : Obj := .cells #[.int .i64 n.hosts, .int .i64 n.now, vn, .int .i64 n.used, vl, vs, vd, vu, .int .i64 n.sent, .int .i64 n.arr, .int .i64 n.lost, .int .i64 n.dbl] 90 (0, 0)
/-- Two slices stand in no one row. -/
def ApV (v w : Value) : Prop := ∀ r o n c, v = .slice (some ⟨r, o, none⟩) n c → ApO w r
theorem ApV.symm {v w : Value} (h : ApV v w) : ApV w v := fun r o n c e r' o' n' c' e' h' => h _ _ _ _ e' _ _ _ _ e h'.symm
theorem ApV.nil_l {w : Value} : ApV (.slice none 0 0) w := fun r o n c e => by cases e
theorem ApV.nil_r {v : Value} : ApV v (.slice none 0 0) := fun _ _ _ _ _ r o n c e => by cases e
theorem ApO.nil {j : Nat} : ApO (.slice none 0 0) j := fun r o n c e => by cases e
structure RSt (H : World) (b : Nat) (n : NN) (m : RL) (vn vl vs vd vu : Value) : Prop where
  net : getO H b = some (netR n vn vl vs vd vu)
  nums : RowC 3 H vn n.nums.length (n.nums.map (Value.int .i64))
  links : RowC 32 H vl m.links.length (flatE encLk m.links)
  sides : RowC 3 H vs m.sides.length (m.sides.map (Value.int .i64))
  down : RowC 4 H vd m.down.length (m.down.map Value.bool)
  und : AccE encW 6 92 H vu m.und
  ll : (m.links.length : Int) = n.hosts * n.hosts
  lk : ∀ x y, hasB n x y → m.links[(x * n.hosts + y).toNat]? = some (lnk n x y)
  sl : (m.sides.length : Int) = n.hosts
  sd : ∀ x, 0 ≤ x → x < n.hosts → m.sides[x.toNat]? = some (sid n x)
  dl : (m.down.length : Int) = n.hosts
  dn : ∀ x, 0 ≤ x → x < n.hosts → m.down[x.toNat]? = some (dwn n x)
  pm : m.und.Perm n.fl
  apb : ∀ v ∈ [vn, vl, vs, vd, vu], ApO v b
  pw : [vn, vl, vs, vd, vu].Pairwise ApV
structure FrR (H H' : World) (b : Nat) (V V' : List Value) : Prop where
  keep : ∀ j o, getO H j = some o → j ≠ b → (∀ v ∈ V, ApO v j) → getO H' j = some o
  fresh : ∀ j, j < H.heap.size → j ≠ b → (∀ v ∈ V, ApO v j) → ∀ v ∈ V', ApO v j
  size : H.heap.size ≤ H'.heap.size
section
variable {H H' H2 : World} {b : Nat} {n n' : NN} {m : RL} {vn vl vs vd vu v w : Value} {V V' V2 : List Value} {e : TypeId} {k : Nat} {cs : List Value}
theorem FrR.refl : FrR H H b V V := ⟨fun _ _ h _ _ => h, fun _ _ _ h1 => h1, Nat.le_refl _⟩
theorem FrR.trans (h : FrR H H' b V V') (g : FrR H' H2 b V' V2) : FrR H H2 b V V2 :=
  ⟨fun j o h1 h2 h3 => g.keep j o (h.keep j o h1 h2 h3) h2 (h.fresh j (getO_lt h1) h2 h3), fun j h1 h2 h3 => g.fresh j (Nat.lt_of_lt_of_le h1 h.size) h2 (h.fresh j h1 h2 h3), Nat.le_trans h.size g.size⟩
theorem FrR.push (o : Obj) : FrR H (pushObj H o) b V V := ⟨fun j o' h1 _ _ => by have := getO_lt h1; rw [get_push, if_neg (by omega)]; exact h1, fun _ _ _ h1 => h1, by simp⟩
theorem FrR.setB (o : Obj) : FrR H (setO H b o) b V V := ⟨fun j o' h1 h2 _ => by rw [get_set, if_neg h2]; exact h1, fun _ _ _ h1 => h1, by simp⟩
theorem FrR.ofKeep (hk : Keep H H') (hs : H.heap.size ≤ H'.heap.size) : FrR H H' b V V := ⟨fun j o h _ _ => hk _ _ h, fun _ _ _ h => h, hs⟩
theorem FrR.setFresh (h : FrR H H' b V V') {i : Nat} (o : Obj) (hi : H.heap.size ≤ i) : FrR H (setO H' i o) b V V' :=
  ⟨fun j o' h1 h2 h3 => by have := getO_lt h1; rw [get_set, if_neg (by omega)]; exact h.keep j o' h1 h2 h3, h.fresh, by simpa using h.size⟩
/-- A row of one of the slices is written. -/
theorem FrR.setRow {r o c k' : Nat} (ob : Obj) (hv : v ∈ V) (he : v = .slice (some ⟨r, o, none⟩) k' c) : FrR H (setO H r ob) b V V :=
  ⟨fun j o' h1 h2 h3 => by rw [get_set, if_neg (h3 v hv _ _ _ _ he)]; exact h1, fun _ _ _ h1 => h1, by simp⟩
theorem RowC.imp (h : RowC e H v k cs) (hk : ∀ r o m c, v = .slice (some ⟨r, o, none⟩) m c → ∀ x, getO H r = some x → getO H' r = some x) : RowC e H' v k cs := by
  rcases h with h | ⟨r, c, fr, rfl, h, hm⟩
  · exact .inl h
  · exact .inr ⟨r, c, fr, rfl, hk _ _ _ _ rfl _ h, hm⟩
theorem RowC.ap (h : RowC e H v k cs) {j : Nat} (hj : H.heap.size ≤ j) : ApO v j := fun r o n c e' => by
  rcases h with ⟨e2, _⟩ | ⟨r2, c2, fr2, e2, hr, _⟩
  · rw [e2] at e'; cases e'
  · rw [e2] at e'; cases e'; have := getO_lt hr; omega
theorem accw_imp {l : List Fl} (h : AccE encW 6 92 H v l) (hk : ∀ r o m c, v = .slice (some ⟨r, o, none⟩) m c → ∀ x, getO H r = some x → getO H' r = some x) : AccE encW 6 92 H' v l := by
  obtain ⟨h1, h2⟩ := h
  rcases h2 with ⟨rfl, h0⟩ | ⟨r, rfl, hp, hr⟩
  · exact ⟨h1, .inl ⟨rfl, h0⟩⟩
  · exact ⟨h1, .inr ⟨r, rfl, hp, hk _ _ _ _ rfl _ hr⟩⟩
theorem accw_ap {l : List Fl} (h : AccE encW 6 92 H v l) {j : Nat} (hj : H.heap.size ≤ j) : ApO v j := fun r o n c e' => by
  rcases h.2 with ⟨e2, _⟩ | ⟨r2, e2, _, hr⟩
  · rw [e2] at e'; cases e'
  · rw [e2] at e'; cases e'; have := getO_lt hr; omega
theorem RSt.keepR (h : RSt H b n m vn vl vs vd vu) (hb : ∀ o, getO H b = some o → getO H' b = some o) (hk : ∀ v ∈ [vn, vl, vs, vd, vu], ∀ r o k c, v = .slice (some ⟨r, o, none⟩) k c → ∀ x, getO H r = some x → getO H' r = some x) : RSt H' b n m vn vl vs vd vu :=
  { h with net := hb _ h.net, nums := h.nums.imp (hk vn (by simp)), links := h.links.imp (hk vl (by simp)), sides := h.sides.imp (hk vs (by simp)), down := h.down.imp (hk vd (by simp)), und := accw_imp h.und (hk vu (by simp)) }
theorem RSt.keep (h : RSt H b n m vn vl vs vd vu) (hk : Keep H H') : RSt H' b n m vn vl vs vd vu := h.keepR (fun o ho => hk _ _ ho) fun _ _ _ _ _ _ _ x hx => hk _ _ hx
theorem RSt.push (h : RSt H b n m vn vl vs vd vu) (o : Obj) : RSt (pushObj H o) b n m vn vl vs vd vu := h.keep fun j x hj => by have := getO_lt hj; rw [get_push, if_neg (by omega)]; exact hj
theorem RSt.fresh (h : RSt H b n m vn vl vs vd vu) {j : Nat} (hj : H.heap.size ≤ j) : j ≠ b ∧ ∀ v ∈ [vn, vl, vs, vd, vu], ApO v j := by
  have hb := getO_lt h.net
  refine ⟨by omega, fun v hv => ?_⟩
  simp only [List.mem_cons, List.not_mem_nil, or_false] at hv
  rcases hv with rfl | rfl | rfl | rfl | rfl
  · exact h.nums.ap hj
  · exact h.links.ap hj
  · exact h.sides.ap hj
  · exact h.down.ap hj
  · exact accw_ap h.und hj
theorem RSt.setFresh (h : RSt H b n m vn vl vs vd vu) {i : Nat} (o : Obj) (hb : i ≠ b) (ha : ∀ v ∈ [vn, vl, vs, vd, vu], ApO v i) : RSt (setO H i o) b n m vn vl vs vd vu :=
  h.keepR (fun x hx => by rw [get_set, if_neg (fun e => hb e.symm)]; exact hx) fun v hv r o' k c e x hx => by rw [get_set, if_neg (fun e' => ha v hv _ _ _ _ e e'.symm)]; exact hx
/-- The network's own cells are written. -/
theorem RSt.write (h : RSt H b n m vn vl vs vd vu) (n' : NN) (h1 : n'.hosts = n.hosts) (h2 : n'.nums = n.nums) (h3 : n'.links = n.links) (h4 : n'.sides = n.sides) (h5 : n'.down = n.down) (h6 : n'.fl = n.fl) : RSt (setO H b (netR n' vn vl vs vd vu)) b n' m vn vl vs vd vu := by
  have hb := getO_lt h.net
  have hrow : ∀ v ∈ [vn, vl, vs, vd, vu], ∀ r o k c, v = .slice (some ⟨r, o, none⟩) k c → ∀ x, getO H r = some x → getO (setO H b (netR n' vn vl vs vd vu)) r = some x := fun v hv r o k c e x hx => by
    rw [get_set, if_neg (fun e' => h.apb v hv _ _ _ _ e e'.symm)]; exact hx
  have e1 : ∀ x y, lnk n' x y = lnk n x y := fun x y => by unfold lnk; rw [h3]
  have e2 : ∀ x, sid n' x = sid n x := fun x => by unfold sid; rw [h4]
  have e3 : ∀ x, dwn n' x = dwn n x := fun x => by unfold dwn; rw [h5]
  exact ⟨by simp [hb], by rw [h2]; exact h.nums.imp (hrow vn (by simp)), h.links.imp (hrow vl (by simp)), h.sides.imp (hrow vs (by simp)), h.down.imp (hrow vd (by simp)), accw_imp h.und (hrow vu (by simp)), by rw [h1]; exact h.ll, fun x y hxy => by rw [h1, e1]; exact h.lk x y (by unfold hasB at *; rw [h1] at hxy; exact hxy),
    by rw [h1]; exact h.sl, fun x x0 x1 => by rw [e2]; exact h.sd x x0 (by rw [h1] at x1; exact x1), by rw [h1]; exact h.dl, fun x x0 x1 => by rw [e3]; exact h.dn x x0 (by rw [h1] at x1; exact x1), by rw [h6]; exact h.pm, h.apb, h.pw⟩
end
/-! ### reading rows -/
theorem RowC.at29 {H : World} {v : Value} {k : Nat} {cs : List Value} (h : RowC 3 H v k cs) {x : Int} (x0 : 0 ≤ x) (x1 : x < k) : ∃ r fr c, mayW fr = true ∧ indexAddrQ Try.prog 29 v (.int .i64 x) = some (.pointer (some ⟨r, x.toNat, none⟩)) ∧ getO H r = some (.cells cs.toArray 3 fr) ∧ v = .slice (some ⟨r, 0, none⟩) k c := by
  rcases h with ⟨_, h0, _⟩ | ⟨r, c, fr, rfl, hr, hm⟩
  · subst h0; omega
  · exact ⟨r, fr, c, hm, by simp [idxS, x0, x1], hr, rfl⟩
theorem RowC.at86 {H : World} {v : Value} {k : Nat} {cs : List Value} (h : RowC 4 H v k cs) {x : Int} (x0 : 0 ≤ x) (x1 : x < k) : ∃ r fr c, mayW fr = true ∧ indexAddrQ Try.prog 86 v (.int .i64 x) = some (.pointer (some ⟨r, x.toNat, none⟩)) ∧ getO H r = some (.cells cs.toArray 4 fr) ∧ v = .slice (some ⟨r, 0, none⟩) k c := by
  rcases h with ⟨_, h0, _⟩ | ⟨r, c, fr, rfl, hr, hm⟩
  · subst h0; omega
  · exact ⟨r, fr, c, hm, by simp [idxS, x0, x1], hr, rfl⟩
theorem RowC.at87 {H : World} {v : Value} {k : Nat} {cs : List Value} (h : RowC 32 H v k cs) {x : Int} (x0 : 0 ≤ x) (x1 : x < k) : ∃ r fr c, mayW fr = true ∧ indexAddrQ Try.prog 87 v (.int .i64 x) = some (.pointer (some ⟨r, x.toNat * 4, none⟩)) ∧ getO H r = some (.cells cs.toArray 32 fr) ∧ v = .slice (some ⟨r, 0, none⟩) k c := by
  rcases h with ⟨_, h0, _⟩ | ⟨r, c, fr, rfl, hr, hm⟩
  · subst h0; omega
  · exact ⟨r, fr, c, hm, by simp [idxS, x0, x1], hr, rfl⟩
theorem RowC.len {e : TypeId} {H H0 : World} {v : Value} {k : Nat} {cs : List Value} {t : TypeId} (h : RowC e H v k cs) (ht : t = 29 ∨ t = 86 ∨ t = 87) : builtinX Try.prog .len #[t] #[v] H0 = some (.value (.int .i64 k), H0) := by
  rcases ht with rfl | rfl | rfl <;> rcases h with ⟨rfl, rfl, rfl⟩ | ⟨r, c, fr, rfl, h, hm⟩ <;> simp
/-! ### what reads alone -/
set_option maxRecDepth 100000 in
theorem host46 {H : World} {b : Nat} {n : NN} {vn vl vs vd vu : Value} (hn : getO H b = some (netR n vn vl vs vd vu)) (x : Int) (Q : Value → World → Prop) : FW X 46 #[p0 b, .int .i64 x] H Q = Q (.bool (decide (0 ≤ x ∧ x < n.hosts))) H := by
  refine FW.eqE (by simp [X, sp17_no]) Try.func46 Try.ntmps46 rfl (by simp) ?_ Q
  by_cases h : 0 ≤ x
  · by_cases h2 : x < n.hosts
    · simp [hn, h, h2]
    · simp [hn, h, h2]
  · simp [h]
set_option maxRecDepth 100000 in
theorem counts50 {H : World} {b : Nat} {n : NN} {vn vl vs vd vu : Value} (hn : getO H b = some (netR n vn vl vs vd vu)) {Q : Value → World → Prop} (hq : Q (.tuple #[.int .i64 n.sent, .int .i64 n.arr, .int .i64 n.lost, .int .i64 n.dbl]) H) : FW X 50 #[p0 b] H Q := by
  refine FW.walk (by simp [X, sp17_no]) Try.func50 Try.ntmps50 rfl (by simp) ?_
  simp
  refine WP.draw0 (by decide +kernel) (by decide +kernel) ?_
  simp [hn]
  exact hq
set_option maxRecDepth 100000 in
theorem used55 {H : World} {b : Nat} {n : NN} {vn vl vs vd vu : Value} (hn : getO H b = some (netR n vn vl vs vd vu)) (Q : Value → World → Prop) : FW X 55 #[p0 b] H Q = Q (.int .i64 n.used) H := by
  refine FW.eqE (by simp [X, sp17_no]) Try.func55 Try.ntmps55 rfl (by simp) ?_ Q
  simp [hn]
set_option maxRecDepth 100000 in
theorem now56 {H : World} {b : Nat} {n : NN} {vn vl vs vd vu : Value} (hn : getO H b = some (netR n vn vl vs vd vu)) (Q : Value → World → Prop) : FW X 56 #[p0 b] H Q = Q (.int .i64 n.now) H := by
  refine FW.eqE (by simp [X, sp17_no]) Try.func56 Try.ntmps56 rfl (by simp) ?_ Q
  simp [hn]
theorem accw_len {H H0 : World} {v : Value} {l : List Fl} (h : AccE encW 6 92 H v l) : builtinX Try.prog .len #[88] #[v] H0 = some (.value (.int .i64 l.length), H0) := by
  obtain ⟨h1, h2⟩ := h
  rcases h2 with ⟨rfl, h0⟩ | ⟨r, rfl, hp, hr⟩
  · simp [h0]
  · simp
set_option maxRecDepth 100000 in
theorem under53 {H : World} {b : Nat} {n : NN} {m : RL} {vn vl vs vd vu : Value} (st : RSt H b n m vn vl vs vd vu) (Q : Value → World → Prop) : FW X 53 #[p0 b] H Q = Q (.int .i64 n.fl.length) H := by
  refine FW.eqE (by simp [X, sp17_no]) Try.func53 Try.ntmps53 rfl (by simp) ?_ Q
  have hl := fun H0 => accw_len (H0 := H0) st.und
  rw [st.pm.length_eq] at hl
  have hn := st.net
  simp [hn, hl]
set_option maxRecDepth 100000 in
theorem isup52 {H : World} {b : Nat} {n : NN} {m : RL} {vn vl vs vd vu : Value} (st : RSt H b n m vn vl vs vd vu) (x : Int) (Q : Value → World → Prop) : FW X 52 #[p0 b, .int .i64 x] H Q = Q (.bool (isUp n x)) H := by
  refine FW.eqE (by simp [X, sp17_no]) Try.func52 Try.ntmps52 rfl (by simp) ?_ Q
  have hn := st.net
  have hh := fun Q => host46 st.net x Q
  by_cases h : 0 ≤ x ∧ x < n.hosts
  rotate_left
  · have e1 : isUp n x = false := by unfold isUp; rw [decide_eq_false h]; rfl
    have hd := decide_eq_false h
    rw [hd] at hh
    simp [hh, e1]
  have e1 : isUp n x = !dwn n x := by unfold isUp; rw [decide_eq_true h]; rfl
  have hd := decide_eq_true h
  rw [hd] at hh
  obtain ⟨x0, x1⟩ := h
  obtain ⟨r, fr, c, hm, hi, hr, hv⟩ := st.down.at86 x0 (by have := st.dl; omega)
  have hx := st.dn x x0 x1
  simp [hh, hn, hi, hr, hx, e1]
theorem q_bool' (a : Bool) : veq (.bool a) (.bool a) = true := q_bool a
end Go.Proofs.Ytmmmdmandocbhaa
end
