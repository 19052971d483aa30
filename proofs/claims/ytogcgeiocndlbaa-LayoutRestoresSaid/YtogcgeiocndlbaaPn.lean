/- Plain laws of interpolation over GF(256): a polynomial with more zeros than its degree is zero; Newton's form interpolates; Lagrange's form is the same polynomial. -/
import Derived.Test.YtogcgeiocndlbaaPj
namespace Go.Proofs.Ytogcgeiocndlbaa
open Gf

theorem pmul_lin_le (p : List UInt8) (r : UInt8) : (pmul p [r, 1]).length ≤ p.length + 1 := canon_len (canon_pmul _ _) fun i hi => by
  rw [cf_pmul]
  exact mulF_above p (m := 2) (fun i hi => cf_ge (by simpa using hi)) i (by omega) (.inr trivial)
theorem pmul_nil (q : List UInt8) : pmul [] q = [] := canon_zero (canon_pmul _ _) fun i => by rw [cf_pmul]; rfl
theorem pscale_le (p : List UInt8) (x : UInt8) : (pscale p x 0).length ≤ p.length := canon_len (canon_pscale _ _ _) fun i hi => by
  rw [cf_pscale, if_neg (by omega), cf_ge (by omega), gm_zero]
theorem hor_pscale (y : UInt8) (p : List UInt8) (x : UInt8) : hor y (pscale p x 0) = gm x (hor y p) := by
  rw [← hor_map]
  exact hor_cf y fun i => by rw [cf_pscale, if_neg (by omega), cf_map]; rfl
theorem hor_one (y : UInt8) : hor y [1] = 1 := by
  show ga (gm 0 y) 1 = 1
  rw [zero_gm, zero_ga]
theorem hor_single (y a : UInt8) : hor y [a] = a := by
  show ga (gm 0 y) a = a
  rw [zero_gm, zero_ga]
theorem ga_ne {a b : UInt8} (h : a ≠ b) : ga a b ≠ 0 := fun e => h (ga_eq_zero e)

/-- a polynomial with more zeros than its degree is zero -/
theorem zeros_nil : ∀ (xs : List UInt8) (r : List UInt8), xs.Nodup → Canon r → r.length ≤ xs.length → (∀ x ∈ xs, hor x r = 0) → r = []
  | [], r, _, _, hl, _ => List.eq_nil_of_length_eq_zero (Nat.le_zero.1 hl)
  | x :: xs, r, hd, hc, hl, hz => by
    rw [List.nodup_cons] at hd
    have h1 := div_back r [x, 1] (lin_ne x)
    rw [prem_lin, hz x (by simp), show trim [(0 : UInt8)] = [] from rfl, trim_canon hc] at h1
    have h2 : padd (pmul (pquo r [x, 1]) [x, 1]) [] = pmul (pquo r [x, 1]) [x, 1] := canon_ext (canon_padd _ _) (canon_pmul _ _) fun i => by rw [cf_padd, cf_nil, ga_zero]
    rw [h2] at h1
    have hq : Canon (pquo r [x, 1]) := (div_law (p := r) (lin_ne x)).2.1
    by_cases hn : pquo r [x, 1] = []
    · rw [hn, pmul_nil] at h1; exact h1.symm
    · exfalso
      have hl2 := (pmul_lin_length hq hn x).1
      rw [h1] at hl2
      simp only [List.length_cons] at hl
      refine hn (zeros_nil xs _ hd.2 hq (by omega) fun y hy => ?_)
      have h3 := hz y (by simp [hy])
      rw [← h1, hor_pmul, hor_lin] at h3
      rcases gm_eq_zero h3 with h4 | h4
      · exact h4
      · exact absurd (ga_eq_zero h4) (fun e => hd.1 (e ▸ hy))
theorem interp_unique {xs p q : List UInt8} (hd : xs.Nodup) (hp : Canon p) (hq : Canon q) (hpl : p.length ≤ xs.length) (hql : q.length ≤ xs.length) (h : ∀ x ∈ xs, hor x p = hor x q) : p = q := by
  have h0 : padd p q = [] := zeros_nil xs _ hd (canon_padd _ _) (by have := padd_length p q; omega) fun x hx => by rw [hor_padd, h x hx, ga_self]
  refine canon_ext hp hq fun i => ga_eq_zero ?_
  rw [← cf_padd, h0, cf_nil]

/-! Newton's form -/
theorem take_snoc' {xs : List UInt8} {k : Nat} (h : k < xs.length) : xs.take (k + 1) = xs.take k ++ [xs.getD k 0] := by
  rw [take_snoc h, getD_lt h]
structure Newton (xs ys : List UInt8) (k : Nat) (o z : List UInt8) : Prop where
  zc : Canon z
  zl : z.length = k + 1
  zz : ∀ y, hor y z = 0 ↔ y ∈ xs.take k
  oc : Canon o
  ol : o.length ≤ k
  oy : ∀ i, i < k → hor (xs.getD i 0) o = ys.getD i 0
  nd : (xs.take k).Nodup
theorem getD_mem {xs : List UInt8} {i k : Nat} (hi : i < k) (hk : k ≤ xs.length) : xs.getD i 0 ∈ xs.take k := by
  rw [getD_lt (by omega)]
  exact List.mem_take_iff_getElem.2 ⟨i, by omega, rfl⟩
theorem newton_run {xs ys : List UInt8} : ∀ {k : Nat}, k ≤ xs.length → match ipSt xs ys k with | none => ¬ (xs.take k).Nodup | some (o, z) => Newton xs ys k o z
  | 0, _ => by
    show Newton xs ys 0 [] [1]
    refine ⟨canon_one, rfl, fun y => ?_, canon_nil, Nat.le_refl _, fun i hi => absurd hi (by omega), by simp⟩
    rw [hor_one]; simp
  | k + 1, hk => by
    have ih := newton_run (xs := xs) (ys := ys) (k := k) (by omega)
    rw [take_snoc' (by omega : k < xs.length)]
    show match (match ipSt xs ys k with
      | none => none
      | some (o, z) =>
        if ev z (xs.getD k 0) = 0 then none
        else some (padd o (pmul [Gf.gm (Gf.ga (ys.getD k 0) (ev o (xs.getD k 0))) (Gf.inv (ev z (xs.getD k 0)))] z), pmul z [xs.getD k 0, 1])) with | none => _ | some (o, z) => _
    revert ih
    cases hs : ipSt xs ys k with
    | none => exact fun ih h => ih (List.nodup_append.1 h).1
    | some oz =>
      obtain ⟨o, z⟩ := oz
      intro ih
      have ih : Newton xs ys k o z := ih
      simp only [ev_hor]
      by_cases h0 : hor (xs.getD k 0) z = 0
      · rw [if_pos h0]
        intro h
        exact (List.nodup_append.1 h).2.2 _ ((ih.zz _).1 h0) _ (by simp) rfl
      · rw [if_neg h0]
        have hnm : xs.getD k 0 ∉ xs.take k := fun h => h0 ((ih.zz _).2 h)
        have hzn : z ≠ [] := fun h => by have := ih.zl; rw [h] at this; simp at this
        show Newton xs ys (k + 1) _ _
        generalize hsv : gm (ga (ys.getD k 0) (hor (xs.getD k 0) o)) (inv (hor (xs.getD k 0) z)) = s
        have hval : ∀ y, hor y (padd o (pmul [s] z)) = ga (hor y o) (gm s (hor y z)) := fun y => by rw [hor_padd, hor_pmul, hor_single]
        refine ⟨canon_pmul _ _, ?_, fun y => ?_, canon_padd _ _, ?_, fun i hi => ?_, ?_⟩
        · rw [(pmul_lin_length ih.zc hzn _).1, ih.zl]
        · rw [hor_pmul, hor_lin, take_snoc' (by omega : k < xs.length), List.mem_append, List.mem_singleton, ← ih.zz y]
          constructor
          · intro h
            rcases gm_eq_zero h with h | h
            · exact .inl h
            · exact .inr (ga_eq_zero h)
          · rintro (h | h)
            · rw [h, zero_gm]
            · rw [h, ga_self, gm_zero]
        · have h1 := padd_length o (pmul [s] z)
          have h2 : (pmul [s] z).length ≤ z.length := canon_len (canon_pmul _ _) fun i hi => by
            rw [cf_pmul]
            exact mulF_above [s] (m := z.length) (fun i hi => cf_ge hi) i (by simp; omega) (.inr trivial)
          have := ih.ol
          have := ih.zl
          omega
        · rw [hval]
          rcases Nat.lt_or_eq_of_le (Nat.le_of_lt_succ hi) with hi | rfl
          · rw [(ih.zz _).2 (getD_mem hi (by omega)), gm_zero, ga_zero, ih.oy i hi]
          · rw [← hsv, gm_assoc, gm_comm (inv _), gm_inv h0, gm_one, ga_left_comm, ga_self, ga_zero]
        · rw [take_snoc' (by omega : k < xs.length)]
          refine List.nodup_append.2 ⟨ih.nd, by simp, fun a ha b hb e => ?_⟩
          rw [List.mem_singleton] at hb
          exact hnm (hb ▸ e ▸ ha)

/-! Lagrange's form -/
def lgT (xs ys : List UInt8) (i : Nat) : Nat → List UInt8
  | 0 => trim [ys.getD i 0]
  | k + 1 => if k = i then lgT xs ys i k else pscale (pmul (lgT xs ys i k) [xs.getD k 0, 1]) (inv (ga (xs.getD i 0) (xs.getD k 0))) 0
def lgS (xs ys : List UInt8) : Nat → List UInt8
  | 0 => []
  | i + 1 => padd (lgS xs ys i) (lgT xs ys i xs.length)
theorem lgT_canon (xs ys : List UInt8) (i : Nat) : ∀ k, Canon (lgT xs ys i k)
  | 0 => canon_trim _
  | k + 1 => by
    unfold lgT
    split
    · exact lgT_canon xs ys i k
    · exact canon_pscale _ _ _
theorem lgT_len (xs ys : List UInt8) (i : Nat) : ∀ k, (lgT xs ys i k).length + (if i < k then 1 else 0) ≤ k + 1
  | 0 => by
    have := trim_length [ys.getD i 0]
    simp at this ⊢
    unfold lgT
    simp; omega
  | k + 1 => by
    have ih := lgT_len xs ys i k
    unfold lgT
    split
    · subst i; rw [if_neg (by omega)] at ih; rw [if_pos (by omega)]; omega
    · have h1 := pscale_le (pmul (lgT xs ys i k) [xs.getD k 0, 1]) (inv (ga (xs.getD i 0) (xs.getD k 0)))
      have h2 := pmul_lin_le (lgT xs ys i k) (xs.getD k 0)
      by_cases hik : i < k
      · rw [if_pos hik] at ih; rw [if_pos (by omega)]; omega
      · rw [if_neg hik] at ih; rw [if_neg (by omega)]; omega
theorem lgT_zero (xs ys : List UInt8) (i : Nat) {j : Nat} (hj : j ≠ i) : ∀ k, j < k → hor (xs.getD j 0) (lgT xs ys i k) = 0
  | 0, h => absurd h (by omega)
  | k + 1, h => by
    unfold lgT
    split
    · exact lgT_zero xs ys i hj k (by omega)
    · rw [hor_pscale, hor_pmul, hor_lin]
      rcases Nat.lt_or_eq_of_le (Nat.le_of_lt_succ h) with h | rfl
      · rw [lgT_zero xs ys i hj k h, zero_gm, gm_zero]
      · rw [ga_self, gm_zero, gm_zero]
theorem lgT_one (xs ys : List UInt8) (i : Nat) (hi : ∀ k, k < xs.length → k ≠ i → xs.getD i 0 ≠ xs.getD k 0) : ∀ k, k ≤ xs.length → hor (xs.getD i 0) (lgT xs ys i k) = ys.getD i 0
  | 0, _ => by unfold lgT; rw [hor_trim, hor_single]
  | k + 1, h => by
    unfold lgT
    split
    · exact lgT_one xs ys i hi k (by omega)
    · rename_i hk
      rw [hor_pscale, hor_pmul, hor_lin, lgT_one xs ys i hi k (by omega), gm_comm (inv _), gm_assoc, gm_inv (ga_ne (hi k (by omega) hk)), gm_one]
theorem lgS_canon (xs ys : List UInt8) : ∀ i, Canon (lgS xs ys i)
  | 0 => canon_nil
  | _ + 1 => canon_padd _ _
theorem lgS_len (xs ys : List UInt8) : ∀ i, i ≤ xs.length → (lgS xs ys i).length ≤ xs.length
  | 0, _ => Nat.zero_le _
  | i + 1, h => by
    unfold lgS
    have h1 := padd_length (lgS xs ys i) (lgT xs ys i xs.length)
    have h2 := lgS_len xs ys i (by omega)
    have h3 := lgT_len xs ys i xs.length
    rw [if_pos (by omega)] at h3
    omega
theorem nodup_getD {xs : List UInt8} (h : xs.Nodup) {i j : Nat} (hi : i < xs.length) (hj : j < xs.length) (hne : i ≠ j) : xs.getD i 0 ≠ xs.getD j 0 := by
  rw [getD_lt hi, getD_lt hj]
  intro e
  exact hne ((List.getElem_inj h).1 e)
theorem lgS_val {xs ys : List UInt8} (hd : xs.Nodup) {j : Nat} (hj : j < xs.length) : ∀ i, i ≤ xs.length → hor (xs.getD j 0) (lgS xs ys i) = if j < i then ys.getD j 0 else 0
  | 0, _ => by rw [if_neg (by omega)]; rfl
  | i + 1, h => by
    unfold lgS
    rw [hor_padd, lgS_val hd hj i (by omega)]
    by_cases hji : j = i
    · subst hji
      rw [if_neg (by omega), if_pos (by omega), zero_ga]
      exact lgT_one xs ys j (fun k hk hne => nodup_getD hd hj hk (Ne.symm hne)) _ (Nat.le_refl _)
    · rw [lgT_zero xs ys i hji _ hj, ga_zero]
      by_cases h1 : j < i
      · rw [if_pos h1, if_pos (by omega)]
      · rw [if_neg h1, if_neg (by omega)]
/-- what the reference's interpolation hands back -/
def ripRun (xs ys : List UInt8) : List UInt8 × Int :=
  if xs.length = ys.length then if xs.Nodup then (lgS xs ys xs.length, 0) else ([], 8) else ([], 1)
theorem newton_all {xs ys : List UInt8} (hd : xs.Nodup) : ∃ o z, ipSt xs ys xs.length = some (o, z) ∧ Newton xs ys xs.length o z := by
  have h := newton_run (xs := xs) (ys := ys) (Nat.le_refl _)
  revert h
  cases ipSt xs ys xs.length with
  | none => intro h; exact absurd (by rw [List.take_length]; exact hd) h
  | some oz => intro h; exact ⟨oz.1, oz.2, rfl, h⟩
theorem newton_none {xs ys : List UInt8} (hd : ¬ xs.Nodup) : ipSt xs ys xs.length = none := by
  have h := newton_run (xs := xs) (ys := ys) (Nat.le_refl _)
  revert h
  cases ipSt xs ys xs.length with
  | none => intro h; rfl
  | some oz => intro h; have h : Newton xs ys xs.length oz.1 oz.2 := h; exact absurd (by have := h.nd; rwa [List.take_length] at this) hd
theorem mem_getD {xs : List UInt8} {x : UInt8} (h : x ∈ xs) : ∃ j, j < xs.length ∧ x = xs.getD j 0 := by
  obtain ⟨j, hj, rfl⟩ := List.mem_iff_getElem.1 h
  exact ⟨j, hj, (getD_lt hj).symm⟩
theorem rip_ip (xs ys : List UInt8) : ripRun xs ys = ipRun xs ys := by
  unfold ripRun ipRun
  by_cases hl : xs.length = ys.length
  · rw [if_pos hl, if_pos hl]
    by_cases hd : xs.Nodup
    · rw [if_pos hd]
      obtain ⟨o, z, h1, h2⟩ := newton_all (ys := ys) hd
      rw [h1]
      show (lgS xs ys xs.length, (0 : Int)) = (o, 0)
      rw [interp_unique hd (lgS_canon xs ys _) h2.oc (lgS_len xs ys _ (Nat.le_refl _)) h2.ol fun x hx => ?_]
      obtain ⟨j, hj, rfl⟩ := mem_getD hx
      rw [lgS_val hd hj _ (Nat.le_refl _), if_pos hj, h2.oy j hj]
    · rw [if_neg hd, newton_none hd]
  · rw [if_neg hl, if_neg hl]

/-! what the program's interpolation hands back -/
theorem ip_ok {xs ys : List UInt8} (h : (ipRun xs ys).2 = 0) : xs.length = ys.length ∧ xs.Nodup ∧ Canon (ipRun xs ys).1 ∧ (ipRun xs ys).1.length ≤ xs.length ∧ ∀ i, i < xs.length → hor (xs.getD i 0) (ipRun xs ys).1 = ys.getD i 0 := by
  by_cases hl : xs.length = ys.length
  · by_cases hd : xs.Nodup
    · obtain ⟨o, z, h1, h2⟩ := newton_all (ys := ys) hd
      have : ipRun xs ys = (o, 0) := by unfold ipRun; rw [if_pos hl, h1]
      rw [this]
      exact ⟨hl, hd, h2.oc, h2.ol, h2.oy⟩
    · have : ipRun xs ys = ([], 8) := by unfold ipRun; rw [if_pos hl, newton_none hd]
      rw [this] at h; exact absurd h (by decide)
  · have : ipRun xs ys = ([], 1) := by unfold ipRun; rw [if_neg hl]
    rw [this] at h; exact absurd h (by decide)
theorem ip_fail {xs ys : List UInt8} (h : (ipRun xs ys).2 ≠ 0) : (ipRun xs ys).1 = [] := by
  rw [← rip_ip] at h ⊢
  unfold ripRun at h ⊢
  split
  · split
    · rename_i h1 h2; rw [if_pos h1, if_pos h2] at h; exact absurd rfl h
    · rfl
  · rfl
/-- a polynomial is recovered from its values -/
theorem ip_back {xs p vs : List UInt8} (hd : xs.Nodup) (hl : vs.length = xs.length) (hv : ∀ i, i < xs.length → vs.getD i 0 = hor (xs.getD i 0) p) (hp : (trim p).length ≤ xs.length) : ipRun xs vs = (trim p, 0) := by
  obtain ⟨o, z, h1, h2⟩ := newton_all (ys := vs) hd
  have h3 : ipRun xs vs = (o, 0) := by unfold ipRun; rw [if_pos hl.symm, h1]
  rw [h3, interp_unique hd h2.oc (canon_trim p) h2.ol hp fun x hx => ?_]
  obtain ⟨j, hj, rfl⟩ := mem_getD hx
  rw [h2.oy j hj, hv j hj, hor_trim]

/-! products of linear factors -/
def linP : List UInt8 → Nat → List UInt8
  | _, 0 => [1]
  | rs, k + 1 => pmul (linP rs k) [rs.getD k 0, 1]
theorem linP_law (rs : List UInt8) : ∀ k, k ≤ rs.length → Canon (linP rs k) ∧ (linP rs k).length = k + 1 ∧ ∀ x, (hor x (linP rs k) = 0 ↔ x ∈ rs.take k)
  | 0, _ => ⟨canon_one, rfl, fun x => by show hor x [1] = 0 ↔ _; rw [hor_one]; simp⟩
  | k + 1, h => by
    obtain ⟨h1, h2, h3⟩ := linP_law rs k (by omega)
    have hn : linP rs k ≠ [] := fun e => by rw [e] at h2; simp at h2
    refine ⟨canon_pmul _ _, by show (pmul _ _).length = _; rw [(pmul_lin_length h1 hn _).1, h2], fun x => ?_⟩
    show hor x (pmul _ _) = 0 ↔ _
    rw [hor_pmul, hor_lin, take_snoc' (by omega : k < rs.length), List.mem_append, List.mem_singleton, ← h3 x]
    constructor
    · intro h
      rcases gm_eq_zero h with h | h
      · exact .inl h
      · exact .inr (ga_eq_zero h)
    · rintro (h | h)
      · rw [h, zero_gm]
      · rw [h, ga_self, gm_zero]

end Go.Proofs.Ytogcgeiocndlbaa
