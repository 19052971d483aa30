/- Reconcile: answers, merging, the dialogue: plain laws (locality, enough fuel, the number of messages). -/
import Derived.Test.YtnllocghmnhooaaDoorUa
namespace Go.Proofs.YtnllocghmnhooaaDoor
set_option linter.unusedVariables false
set_option linter.unusedSimpArgs false
namespace Rc

structure Rng where
  f : Bs
  t : Bs
  n : Int
  d : Bs
def sm (H : List Rec → Bs) (l : List Rec) (f t : Bs) : Rng := ⟨f, t, ((inn l f t).length : Int), H (inn l f t)⟩
theorem sm_congr {H : List Rec → Bs} {l m : List Rec} {f t : Bs} (h : inn l f t = inn m f t) : sm H l f t = sm H m f t := by unfold sm; rw [h]
def agr (H : List Rec → Bs) (l : List Rec) (r : Rng) : Bool := decide (((inn l r.f r.t).length : Int) = r.n) && (H (inn l r.f r.t) == r.d)
theorem agr_sm {H : List Rec → Bs} {l m : List Rec} {f t : Bs} (h : inn l f t = inn m f t) : agr H l (sm H m f t) = true := by simp [agr, sm, h]
def mid (l : List Rec) : Bs := key (l.getD (l.length / 2) ⟨0, 0, []⟩)
theorem mid_eq {l : List Rec} (h : l.length / 2 < l.length) : mid l = key l[l.length / 2] := by
  unfold mid; rw [List.getD_eq_getElem?_getD, List.getElem?_eq_getElem h]; rfl

/-- adoption -/
def put (l : List Rec) : List Rec → List Rec
  | [] => l
  | r :: q => put (ins r l) q
def mrg (l o : List Rec) : List Rec := put l (o.filter fun r => !has l (key r))
def mrgR (l : List Rec) : List Rec → List Rec
  | [] => l
  | r :: q => mrgR (if has l (key r) then l else ins r l) q
theorem has_ins {r : Rec} {l : List Rec} {k : Bs} : has (ins r l) k = (key r == k || has l k) := by
  rw [Bool.eq_iff_iff, Bool.or_eq_true, has_iff, has_iff, beq_iff_eq]
  constructor
  · rintro ⟨x, hx, e⟩
    rcases ins_mem.1 hx with rfl | hx
    · exact Or.inl e
    · exact Or.inr ⟨x, hx, e⟩
  · rintro (e | ⟨x, hx, e⟩)
    · exact ⟨r, ins_mem.2 (Or.inl rfl), e⟩
    · exact ⟨x, ins_mem.2 (Or.inr hx), e⟩
theorem mrgR_put : ∀ (q l l0 : List Rec), Srt q → (∀ r ∈ q, has l (key r) = has l0 (key r)) → mrgR l q = put l (q.filter fun r => !has l0 (key r))
  | [], _, _, _, _ => rfl
  | r :: q, l, l0, hs, h => by
    obtain ⟨h1, h2⟩ := List.pairwise_cons.1 hs
    have hr := h r (by simp)
    cases e : has l0 (key r) with
    | true =>
      rw [List.filter_cons, if_neg (by simp [e])]
      show mrgR (if has l (key r) then l else ins r l) q = _
      rw [hr, e, if_pos rfl]
      exact mrgR_put q l l0 h2 fun x hx => h x (List.mem_cons_of_mem _ hx)
    | false =>
      rw [List.filter_cons, if_pos (by simp [e])]
      show mrgR (if has l (key r) then l else ins r l) q = put (ins r l) _
      rw [hr, e, if_neg (by simp)]
      refine mrgR_put q (ins r l) l0 h2 fun x hx => ?_
      rw [has_ins, h x (List.mem_cons_of_mem _ hx)]
      have : (key r == key x) = false := by
        rw [beq_eq_false_iff_ne]
        exact fun e => kirr (key x) (by have := h1 x hx; rwa [e] at this)
      rw [this, Bool.false_or]
theorem mrgR_eq {l q : List Rec} (h : Srt q) : mrgR l q = mrg l q := mrgR_put q l l h fun _ _ => rfl

theorem put_sub : ∀ (q l : List Rec), l.Sublist (put l q)
  | [], l => List.Sublist.refl l
  | r :: q, l => (ins_sub r l).trans (put_sub q (ins r l))
theorem put_mem : ∀ (q l : List Rec) {x : Rec}, x ∈ put l q ↔ x ∈ q ∨ x ∈ l
  | [], l, x => by simp [put]
  | r :: q, l, x => by
    show x ∈ put (ins r l) q ↔ _
    rw [put_mem q (ins r l), ins_mem, List.mem_cons]
    constructor
    · rintro (h | h | h) <;> simp [h]
    · rintro ((h | h) | h) <;> simp [h]
theorem put_srt : ∀ (q l : List Rec), Srt q → Srt l → (∀ r ∈ q, has l (key r) = false) → Srt (put l q)
  | [], l, _, h, _ => h
  | r :: q, l, hq, hl, hn => by
    obtain ⟨h1, h2⟩ := List.pairwise_cons.1 hq
    refine put_srt q (ins r l) h2 (ins_srt hl (hn r (by simp))) fun x hx => ?_
    rw [has_ins, hn x (List.mem_cons_of_mem _ hx), Bool.or_false, beq_eq_false_iff_ne]
    exact fun e => kirr (key x) (by have := h1 x hx; rwa [e] at this)
theorem put_filter : ∀ (q l : List Rec) {p : Rec → Bool}, (∀ r ∈ q, p r = false) → (put l q).filter p = l.filter p
  | [], l, _, _ => rfl
  | r :: q, l, p, h => (put_filter q (ins r l) fun x hx => h x (List.mem_cons_of_mem _ hx)).trans (ins_filter (h r (by simp)))
theorem mrg_sub (l o : List Rec) : l.Sublist (mrg l o) := put_sub _ _
theorem mrg_mem {l o : List Rec} {x : Rec} (h : x ∈ mrg l o) : x ∈ o ∨ x ∈ l := by
  rcases (put_mem _ _).1 h with h | h
  · exact Or.inl (List.mem_filter.1 h).1
  · exact Or.inr h
theorem mrg_srt {l o : List Rec} (hl : Srt l) (ho : Srt o) : Srt (mrg l o) :=
  put_srt _ _ (ho.filter _) hl fun r hr => by simpa using (List.mem_filter.1 hr).2
theorem mrg_filter {l o : List Rec} {p : Rec → Bool} (h : ∀ r ∈ o, p r = false) : (mrg l o).filter p = l.filter p :=
  put_filter _ _ fun r hr => h r (List.mem_filter.1 hr).1

/-- the dialogue about a summary r that the site y sends to the site x -/
def dlg (H : List Rec → Bs) : Nat → List Rec → List Rec → Rng → List Rec × List Rec × Nat
  | 0, x, y, _ => (x, y, 1)
  | n + 1, x, y, r =>
    if agr H x r then (x, y, 1)
    else if (inn x r.f r.t).length ≤ 4 then (mrg x (inn y r.f r.t), mrg y (inn x r.f r.t), 3)
    else
      let k := mid (inn x r.f r.t)
      let p := dlg H n y x (sm H x r.f k)
      let q := dlg H n p.1 p.2.1 (sm H x k r.t)
      (q.2.1, q.1, 1 + p.2.2 + q.2.2)

theorem dlg_succ (H : List Rec → Bs) (n : Nat) (x y : List Rec) (r : Rng) : dlg H (n + 1) x y r =
    if agr H x r then (x, y, 1)
    else if (inn x r.f r.t).length ≤ 4 then (mrg x (inn y r.f r.t), mrg y (inn x r.f r.t), 3)
    else ((dlg H n (dlg H n y x (sm H x r.f (mid (inn x r.f r.t)))).1 (dlg H n y x (sm H x r.f (mid (inn x r.f r.t)))).2.1 (sm H x (mid (inn x r.f r.t)) r.t)).2.1,
      (dlg H n (dlg H n y x (sm H x r.f (mid (inn x r.f r.t)))).1 (dlg H n y x (sm H x r.f (mid (inn x r.f r.t)))).2.1 (sm H x (mid (inn x r.f r.t)) r.t)).1,
      1 + (dlg H n y x (sm H x r.f (mid (inn x r.f r.t)))).2.2 + (dlg H n (dlg H n y x (sm H x r.f (mid (inn x r.f r.t)))).1 (dlg H n y x (sm H x r.f (mid (inn x r.f r.t)))).2.1 (sm H x (mid (inn x r.f r.t)) r.t)).2.2) := rfl

/-- a sorted list out of given records -/
structure St (U x : List Rec) : Prop where
  srt : Srt x
  mem : ∀ z ∈ x, z ∈ U
theorem nodup_len : ∀ (l U : List Rec), l.Nodup → (∀ x ∈ l, x ∈ U) → l.length ≤ U.length
  | [], _, _, _ => by simp
  | x :: l, U, hn, h => by
    obtain ⟨h1, h2⟩ := List.nodup_cons.1 hn
    have hx := h x (by simp)
    have := nodup_len l (U.erase x) h2 fun z hz => by
      have hne : z ≠ x := fun e => h1 (e ▸ hz)
      exact (List.mem_erase_of_ne hne).2 (h z (List.mem_cons_of_mem _ hz))
    rw [List.length_erase_of_mem hx] at this
    have h0 : 0 < U.length := List.length_pos_of_mem hx
    simp
    omega
theorem Srt.nodup {l : List Rec} (h : Srt l) : l.Nodup := by
  show List.Pairwise (fun a b => a ≠ b) l
  exact h.imp fun {a b} k (e : a = b) => kirr (key a) (by rw [← e] at k; exact k)
theorem St.len {U x : List Rec} (h : St U x) : x.length ≤ U.length := nodup_len x U h.srt.nodup h.mem
theorem St.mrg {U x o : List Rec} (h : St U x) (k : St U o) : St U (mrg x o) := ⟨mrg_srt h.srt k.srt, fun z hz => by
  rcases mrg_mem hz with hz | hz
  · exact k.mem z hz
  · exact h.mem z hz⟩
theorem St.inn {U x : List Rec} (h : St U x) (f t : Bs) : St U (inn x f t) := ⟨h.srt.sub (inn_sub x f t), fun z hz => h.mem z (inn_mem.1 hz).1⟩
theorem dlg_st (H : List Rec → Bs) {U : List Rec} : ∀ (n : Nat) {x y : List Rec} (r : Rng), St U x → St U y → St U (dlg H n x y r).1 ∧ St U (dlg H n x y r).2.1
  | 0, x, y, r, hx, hy => ⟨hx, hy⟩
  | n + 1, x, y, r, hx, hy => by
    unfold dlg
    split
    · exact ⟨hx, hy⟩
    · split
      · exact ⟨hx.mrg (hy.inn _ _), hy.mrg (hx.inn _ _)⟩
      · obtain ⟨p1, p2⟩ := dlg_st H n (sm H x r.f (mid (Rc.inn x r.f r.t))) hy hx
        obtain ⟨q1, q2⟩ := dlg_st H n (sm H x (mid (Rc.inn x r.f r.t)) r.t) p1 p2
        exact ⟨q2, q1⟩
theorem dlg_sub (H : List Rec → Bs) : ∀ (n : Nat) (x y : List Rec) (r : Rng), x.Sublist (dlg H n x y r).1 ∧ y.Sublist (dlg H n x y r).2.1
  | 0, x, y, r => ⟨List.Sublist.refl _, List.Sublist.refl _⟩
  | n + 1, x, y, r => by
    unfold dlg
    split
    · exact ⟨List.Sublist.refl _, List.Sublist.refl _⟩
    · split
      · exact ⟨mrg_sub _ _, mrg_sub _ _⟩
      · obtain ⟨p1, p2⟩ := dlg_sub H n y x (sm H x r.f (mid (inn x r.f r.t)))
        obtain ⟨q1, q2⟩ := dlg_sub H n (dlg H n y x (sm H x r.f (mid (inn x r.f r.t)))).1 (dlg H n y x (sm H x r.f (mid (inn x r.f r.t)))).2.1 (sm H x (mid (inn x r.f r.t)) r.t)
        exact ⟨p2.trans q2, p1.trans q1⟩

/-! the middle of a range -/
theorem mid_in {l : List Rec} {f t : Bs} (h : 4 < (inn l f t).length) : inR f t (mid (inn l f t)) = true := by
  have hm : (inn l f t).length / 2 < (inn l f t).length := by omega
  rw [mid_eq hm]
  exact (inn_mem.1 (List.getElem_mem hm)).2
theorem mid_ne {l : List Rec} : mid l ≠ [] := key_ne _
theorem inR_lo {f t k z : Bs} (hk : inR f t k = true) (hn : k ≠ []) : inR f k z = (inR f t z && decide (z < k)) := by
  obtain ⟨h1, h2⟩ := inR_iff.1 hk
  rw [Bool.eq_iff_iff, inR_iff, Bool.and_eq_true, inR_iff, decide_eq_true_eq]
  constructor
  · rintro ⟨a, b | b⟩
    · exact absurd b hn
    · refine ⟨⟨a, ?_⟩, b⟩
      rcases h2 with h | h
      · exact Or.inl h
      · exact Or.inr (ktr b h)
  · rintro ⟨⟨a, _⟩, b⟩
    exact ⟨a, Or.inr b⟩
theorem inR_hi {f t k z : Bs} (hk : inR f t k = true) : inR k t z = (inR f t z && !decide (z < k)) := by
  obtain ⟨h1, h2⟩ := inR_iff.1 hk
  rw [Bool.eq_iff_iff, inR_iff, Bool.and_eq_true, inR_iff, Bool.not_eq_true', decide_eq_false_iff_not]
  constructor
  · rintro ⟨a, b⟩
    exact ⟨⟨fun e => a (kle e h1), b⟩, a⟩
  · rintro ⟨⟨_, b⟩, c⟩
    exact ⟨c, b⟩
theorem idx_at {l : List Rec} (h : Srt l) {m : Nat} (hm : m < l.length) : idx l (key l[m]) = m := by
  rcases Nat.lt_trichotomy (idx l (key l[m])) m with e | e | e
  · exfalso
    have h1 := idx_hi h (k := key l[m]) (Nat.le_refl _) (by omega)
    exact h1 ((List.pairwise_iff_getElem.1 h) _ _ (by omega) hm e)
  · exact e
  · exact absurd (idx_lo h e) (kirr _)
theorem inn_lo {x : List Rec} (hx : Srt x) {f t : Bs} (h : 4 < (inn x f t).length) : inn x f (mid (inn x f t)) = (inn x f t).take ((inn x f t).length / 2) := by
  have hm : (inn x f t).length / 2 < (inn x f t).length := by omega
  have hs : Srt (inn x f t) := hx.sub (inn_sub x f t)
  have e := idx_take hs (mid (inn x f t))
  rw [mid_eq hm, idx_at hs hm, ← mid_eq hm] at e
  rw [e]
  show x.filter _ = (x.filter _).filter _
  rw [List.filter_filter]
  congr 1
  funext z
  rw [inR_lo (mid_in h) mid_ne, Bool.and_comm]
theorem inn_hi {x : List Rec} (hx : Srt x) {f t : Bs} (h : 4 < (inn x f t).length) : inn x (mid (inn x f t)) t = (inn x f t).drop ((inn x f t).length / 2) := by
  have hm : (inn x f t).length / 2 < (inn x f t).length := by omega
  have hs : Srt (inn x f t) := hx.sub (inn_sub x f t)
  have e := idx_drop hs (mid (inn x f t))
  rw [mid_eq hm, idx_at hs hm, ← mid_eq hm] at e
  rw [e]
  show x.filter _ = (x.filter _).filter _
  rw [List.filter_filter]
  congr 1
  funext z
  rw [inR_hi (mid_in h), Bool.and_comm]
theorem inn_lo_le {y : List Rec} {f t k : Bs} (hk : inR f t k = true) (hn : k ≠ []) : (inn y f k).length ≤ (inn y f t).length := by
  unfold inn
  rw [← List.countP_eq_length_filter, ← List.countP_eq_length_filter]
  exact List.countP_mono_left fun z _ e => by rw [inR_lo hk hn, Bool.and_eq_true] at e; exact e.1
theorem inn_hi_le {y : List Rec} {f t k : Bs} (hk : inR f t k = true) : (inn y k t).length ≤ (inn y f t).length := by
  unfold inn
  rw [← List.countP_eq_length_filter, ← List.countP_eq_length_filter]
  exact List.countP_mono_left fun z _ e => by rw [inR_hi hk, Bool.and_eq_true] at e; exact e.1

/-- what lies outside the range stays -/
theorem dlg_loc (H : List Rec → Bs) : ∀ (n : Nat) (x y : List Rec) (r : Rng) {p : Rec → Bool}, (∀ z, inR r.f r.t (key z) = true → p z = false) → (dlg H n x y r).1.filter p = x.filter p ∧ (dlg H n x y r).2.1.filter p = y.filter p
  | 0, x, y, r, p, hp => ⟨rfl, rfl⟩
  | n + 1, x, y, r, p, hp => by
    unfold dlg
    split
    · exact ⟨rfl, rfl⟩
    · split
      · exact ⟨mrg_filter fun z hz => hp z (inn_mem.1 hz).2, mrg_filter fun z hz => hp z (inn_mem.1 hz).2⟩
      · rename_i h4
        have hk := mid_in (l := x) (f := r.f) (t := r.t) (by omega)
        obtain ⟨p1, p2⟩ := dlg_loc H n y x (sm H x r.f (mid (inn x r.f r.t))) (p := p) fun z hz => hp z (by
          have hz' : inR r.f (mid (inn x r.f r.t)) (key z) = true := hz
          rw [inR_lo hk mid_ne, Bool.and_eq_true] at hz'; exact hz'.1)
        obtain ⟨q1, q2⟩ := dlg_loc H n (dlg H n y x (sm H x r.f (mid (inn x r.f r.t)))).1 (dlg H n y x (sm H x r.f (mid (inn x r.f r.t)))).2.1 (sm H x (mid (inn x r.f r.t)) r.t) (p := p) fun z hz => hp z (by
          have hz' : inR (mid (inn x r.f r.t)) r.t (key z) = true := hz
          rw [inR_hi hk, Bool.and_eq_true] at hz'; exact hz'.1)
        exact ⟨q2.trans p2, q1.trans p1⟩
/-- the upper part is as it was, behind the dialogue on the lower part -/
theorem dlg_up (H : List Rec → Bs) (n : Nat) (x y : List Rec) (r : Rng) {f t k : Bs} (hk : inR f t k = true) (hn : k ≠ []) (hf : r.f = f) (ht : r.t = k) : inn (dlg H n x y r).1 k t = inn x k t ∧ inn (dlg H n x y r).2.1 k t = inn y k t :=
  dlg_loc H n x y r fun z hz => by
    rw [hf, ht, inR_lo hk hn, Bool.and_eq_true] at hz
    rw [inR_hi hk, Bool.and_eq_false_iff]
    exact Or.inr (by simpa using hz.2)

/-- enough fuel -/
theorem dlg_fuel (H : List Rec → Bs) (n : Nat) : ∀ (m p q : Nat) (x y : List Rec) (r : Rng), Srt x → Srt y → (inn x r.f r.t).length ≤ 2 ^ p → (inn y r.f r.t).length ≤ 2 ^ q → p + q + 1 ≤ n → p + q + 1 ≤ m → dlg H n x y r = dlg H m x y r := by
  induction n with
  | zero => intro m p q x y r hx hy hp hq hn hm; omega
  | succ n ih =>
    intro m p q x y r hx hy hp hq hn hm
    obtain ⟨m, rfl⟩ : ∃ m', m = m' + 1 := ⟨m - 1, by omega⟩
    rw [dlg_succ, dlg_succ]
    by_cases ha : agr H x r = true
    · rw [if_pos ha, if_pos ha]
    rw [if_neg ha, if_neg ha]
    by_cases h4 : (inn x r.f r.t).length ≤ 4
    · rw [if_pos h4, if_pos h4]
    rw [if_neg h4, if_neg h4]
    have h5 : 4 < (inn x r.f r.t).length := by omega
    have hk := mid_in (l := x) (f := r.f) (t := r.t) h5
    have hp3 : 3 ≤ p := by
      rcases Nat.lt_or_ge p 3 with h | h
      · have : 2 ^ p ≤ 2 ^ 2 := Nat.pow_le_pow_right (by omega) (by omega)
        omega
      · exact h
    obtain ⟨p', rfl⟩ : ∃ p', p = p' + 1 := ⟨p - 1, by omega⟩
    rw [Nat.pow_succ] at hp
    have e1 := inn_lo hx h5
    have e2 := inn_hi hx h5
    have l1 : (inn x r.f (mid (inn x r.f r.t))).length ≤ 2 ^ p' := by rw [e1, List.length_take]; omega
    have l2 : (inn x (mid (inn x r.f r.t)) r.t).length ≤ 2 ^ p' := by rw [e2, List.length_drop]; omega
    have l3 := Nat.le_trans (inn_lo_le (y := y) hk mid_ne) hq
    have l4 := Nat.le_trans (inn_hi_le (y := y) hk) hq
    have f1 := ih m q p' y x (sm H x r.f (mid (inn x r.f r.t))) hy hx l3 l1 (by omega) (by omega)
    have U1 := dlg_up H m y x (sm H x r.f (mid (inn x r.f r.t))) hk mid_ne rfl rfl
    have S1 := dlg_st H (U := x ++ y) m (sm H x r.f (mid (inn x r.f r.t))) ⟨hy, fun z hz => List.mem_append_right _ hz⟩ ⟨hx, fun z hz => List.mem_append_left _ hz⟩
    have f2 := ih m q p' (dlg H m y x (sm H x r.f (mid (inn x r.f r.t)))).1 (dlg H m y x (sm H x r.f (mid (inn x r.f r.t)))).2.1 (sm H x (mid (inn x r.f r.t)) r.t) S1.1.srt S1.2.srt
      (by show (inn _ (mid (inn x r.f r.t)) r.t).length ≤ _; rw [U1.1]; exact l4) (by show (inn _ (mid (inn x r.f r.t)) r.t).length ≤ _; rw [U1.2]; exact l2) (by omega) (by omega)
    simp only [f1, f2]

/-! the number of messages -/
def lk (l : List Rec) (k : Bs) : Option Rec := l.find? fun x => key x == k
theorem lk_filter (l : List Rec) (k : Bs) : lk l k = (l.filter fun x => key x == k).head? := by
  unfold lk; rw [List.head?_filter]
theorem lk_mem {l : List Rec} (h : Srt l) {z : Rec} (hz : z ∈ l) : lk l (key z) = some z := by
  have hs : (lk l (key z)).isSome = true := by
    unfold lk; rw [List.find?_isSome]; exact ⟨z, hz, by simp⟩
  obtain ⟨w, hw⟩ := Option.isSome_iff_exists.1 hs
  have h1 := List.mem_of_find?_eq_some hw
  have h2 : (key w == key z) = true := List.find?_some (p := fun x => key x == key z) hw
  rw [hw, h.uniq h1 hz (by simpa using h2)]
theorem lk_of {l : List Rec} {k : Bs} {z : Rec} (h : lk l k = some z) : z ∈ l ∧ key z = k := by
  have h2 : (key z == k) = true := List.find?_some (p := fun x => key x == k) h
  exact ⟨List.mem_of_find?_eq_some h, by simpa using h2⟩
def df (K : List Bs) (x y : List Rec) (f t : Bs) : Nat := K.countP fun k => inR f t k && !(lk x k == lk y k)
theorem df_zero {K : List Bs} {x y : List Rec} {f t : Bs} (hx : Srt x) (hy : Srt y) (kx : ∀ z ∈ x, key z ∈ K) (ky : ∀ z ∈ y, key z ∈ K) (h : df K x y f t = 0) : inn x f t = inn y f t := by
  have h0 : ∀ k ∈ K, inR f t k = true → lk x k = lk y k := fun k hk hr => by
    have := List.countP_eq_zero.1 h k hk
    simpa [hr] using this
  refine srt_ext (hx.sub (inn_sub _ _ _)) (hy.sub (inn_sub _ _ _)) fun z => ?_
  rw [inn_mem, inn_mem]
  constructor
  · rintro ⟨h1, h2⟩
    have := h0 (key z) (kx z h1) h2
    rw [lk_mem hx h1] at this
    exact ⟨(lk_of this.symm).1, h2⟩
  · rintro ⟨h1, h2⟩
    have := h0 (key z) (ky z h1) h2
    rw [lk_mem hy h1] at this
    exact ⟨(lk_of this).1, h2⟩
theorem df_split {K : List Bs} {x y x1 y1 : List Rec} {f t k : Bs} (hk : inR f t k = true) (hn : k ≠ []) (hx : inn x1 k t = inn x k t) (hy : inn y1 k t = inn y k t) :
    df K x y f k + df K x1 y1 k t ≤ df K x y f t := by
  have key1 : ∀ (l l1 : List Rec), inn l1 k t = inn l k t → ∀ z, inR k t z = true → lk l1 z = lk l z := fun l l1 h z hz => by
    rw [lk_filter, lk_filter]
    have e : ∀ m : List Rec, m.filter (fun x => key x == z) = (inn m k t).filter fun x => key x == z := fun m => by
      unfold inn
      rw [List.filter_filter]
      refine List.filter_congr fun w _ => ?_
      cases hw : (key w == z) with
      | false => simp
      | true =>
        have : key w = z := by simpa using hw
        rw [this, hz]; rfl
    rw [e l1, e l, h]
  have e1 : df K x1 y1 k t = K.countP fun z => inR k t z && !(lk x z == lk y z) := by
    unfold df
    refine List.countP_congr fun z _ => ?_
    cases hz : inR k t z with
    | false => simp
    | true => rw [key1 x x1 hx z hz, key1 y y1 hy z hz]
  rw [e1]
  unfold df
  clear e1 key1 hx hy
  induction K with
  | nil => simp
  | cons z K ih =>
    simp only [List.countP_cons]
    rw [inR_lo hk hn, inR_hi hk]
    have ih' : K.countP (fun k' => inR f k k' && !(lk x k' == lk y k')) + K.countP (fun z => inR k t z && !(lk x z == lk y z)) ≤ K.countP fun k' => inR f t k' && !(lk x k' == lk y k') := ih
    cases inR f t z <;> cases (lk x z == lk y z) <;> by_cases hz : z < k <;> simp [hz] <;> omega
theorem df_comm (K : List Bs) (x y : List Rec) (f t : Bs) : df K x y f t = df K y x f t := by
  unfold df
  refine List.countP_congr fun z _ => ?_
  rw [show (lk x z == lk y z) = (lk y z == lk x z) from by rw [Bool.eq_iff_iff, beq_iff_eq, beq_iff_eq]; exact eq_comm]
theorem dlg_count (H : List Rec → Bs) {U : List Rec} {K : List Bs} (hK : ∀ z ∈ U, key z ∈ K) (n : Nat) : ∀ (p q : Nat) (x y : List Rec) (f t : Bs), St U x → St U y → (inn x f t).length ≤ 2 ^ p → (inn y f t).length ≤ 2 ^ q →
    1 ≤ (dlg H n x y (sm H y f t)).2.2 ∧ (dlg H n x y (sm H y f t)).2.2 ≤ 1 + 2 * (df K x y f t * (p + q + 1)) := by
  induction n with
  | zero => intro p q x y f t hx hy hp hq; exact ⟨Nat.le_refl 1, Nat.le_add_right 1 _⟩
  | succ n ih =>
    intro p q x y f t hx hy hp hq
    rw [dlg_succ]
    by_cases ha : agr H x (sm H y f t) = true
    · rw [if_pos ha]; simp
    rw [if_neg ha]
    have hd : 1 ≤ df K x y f t := by
      rcases Nat.eq_zero_or_pos (df K x y f t) with h | h
      · exact absurd (agr_sm (df_zero hx.srt hy.srt (fun z hz => hK z (hx.mem z hz)) (fun z hz => hK z (hy.mem z hz)) h)) ha
      · exact h
    show 1 ≤ (if (inn x f t).length ≤ 4 then _ else _ : List Rec × List Rec × Nat).2.2 ∧ (if (inn x f t).length ≤ 4 then _ else _ : List Rec × List Rec × Nat).2.2 ≤ _
    by_cases h4 : (inn x f t).length ≤ 4
    · rw [if_pos h4]
      have := Nat.mul_le_mul hd (show 1 ≤ p + q + 1 by omega)
      show 1 ≤ 3 ∧ 3 ≤ _
      omega
    rw [if_neg h4]
    have h5 : 4 < (inn x f t).length := by omega
    have hk := mid_in (l := x) (f := f) (t := t) h5
    have hp3 : 3 ≤ p := by
      rcases Nat.lt_or_ge p 3 with h | h
      · have : 2 ^ p ≤ 2 ^ 2 := Nat.pow_le_pow_right (by omega) (by omega)
        omega
      · exact h
    obtain ⟨p', rfl⟩ : ∃ p', p = p' + 1 := ⟨p - 1, by omega⟩
    rw [Nat.pow_succ] at hp
    have e1 := inn_lo hx.srt h5
    have e2 := inn_hi hx.srt h5
    have l1 : (inn x f (mid (inn x f t))).length ≤ 2 ^ p' := by rw [e1, List.length_take]; omega
    have l2 : (inn x (mid (inn x f t)) t).length ≤ 2 ^ p' := by rw [e2, List.length_drop]; omega
    have l3 := Nat.le_trans (inn_lo_le (y := y) hk mid_ne) hq
    have l4 := Nat.le_trans (inn_hi_le (y := y) hk) hq
    obtain ⟨k, hkk⟩ : ∃ k, k = mid (inn x f t) := ⟨_, rfl⟩
    have hkn : k ≠ [] := by rw [hkk]; exact mid_ne
    have f1 := ih q p' y x f k hy hx (by rw [hkk]; exact l3) (by rw [hkk]; exact l1)
    have U1 := dlg_up H n y x (sm H x f k) (f := f) (t := t) (k := k) (by rw [hkk]; exact hk) hkn rfl rfl
    have S1 := dlg_st H n (sm H x f k) hy hx
    have hsm : sm H x k t = sm H (dlg H n y x (sm H x f k)).2.1 k t := sm_congr U1.2.symm
    have f2 := ih q p' (dlg H n y x (sm H x f k)).1 (dlg H n y x (sm H x f k)).2.1 k t S1.1 S1.2 (by rw [U1.1, hkk]; exact l4) (by rw [U1.2, hkk]; exact l2)
    rw [← hsm] at f2
    have hsp := df_split (K := K) (x := y) (y := x) (by rw [hkk]; exact hk) hkn U1.1 U1.2
    rw [df_comm K y x f t] at hsp
    show 1 ≤ 1 + (dlg H n y x (sm H x f (mid (inn x f t)))).2.2 + (dlg H n (dlg H n y x (sm H x f (mid (inn x f t)))).1 (dlg H n y x (sm H x f (mid (inn x f t)))).2.1 (sm H x (mid (inn x f t)) t)).2.2 ∧ 1 + (dlg H n y x (sm H x f (mid (inn x f t)))).2.2 + (dlg H n (dlg H n y x (sm H x f (mid (inn x f t)))).1 (dlg H n y x (sm H x f (mid (inn x f t)))).2.1 (sm H x (mid (inn x f t)) t)).2.2 ≤ _
    rw [← hkk]
    obtain ⟨A, hA⟩ : ∃ A, A = df K y x f k := ⟨_, rfl⟩
    obtain ⟨B, hB⟩ : ∃ B, B = df K (dlg H n y x (sm H x f k)).1 (dlg H n y x (sm H x f k)).2.1 k t := ⟨_, rfl⟩
    obtain ⟨D, hD⟩ : ∃ D, D = df K x y f t := ⟨_, rfl⟩
    rw [← hA] at f1 hsp
    rw [← hB] at f2 hsp
    rw [← hD] at hsp hd ⊢
    obtain ⟨L, hL⟩ : ∃ L, L = q + p' + 1 := ⟨_, rfl⟩
    rw [← hL] at f1 f2
    rw [show p' + 1 + q + 1 = L + 1 by omega]
    have m1 : (A + B) * L ≤ D * L := Nat.mul_le_mul_right L hsp
    rw [Nat.add_mul] at m1
    rw [Nat.mul_add, Nat.mul_one]
    omega
end Rc
end Go.Proofs.YtnllocghmnhooaaDoor
