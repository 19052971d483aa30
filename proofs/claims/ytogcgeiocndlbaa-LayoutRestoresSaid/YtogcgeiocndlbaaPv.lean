/- Plain laws of polynomials over GF(256): division with remainder, degrees, values of products. No program in sight. -/
import Derived.Test.YtogcgeiocndlbaaPz
namespace Go.Proofs.Ytogcgeiocndlbaa
open Gf

theorem canon_len {l : List UInt8} (h : Canon l) {m : Nat} (hz : ∀ i, m ≤ i → cf l i = 0) : l.length ≤ m := by
  rcases h with rfl | h
  · simp
  · rcases Nat.lt_or_ge m l.length with h1 | h1
    · exact absurd (hz _ (by omega)) h
    · exact h1
/-- no product reaches beyond the degrees -/
theorem mulF_above (b : List UInt8) {f : Nat → UInt8} {m : Nat} (hf : ∀ i, m ≤ i → f i = 0) : ∀ n, b.length + m ≤ n + 1 → b ≠ [] ∨ True → mulF b f n = 0 := by
  induction b with
  | nil => intro n _ _; rfl
  | cons a b ih =>
    intro n hn _
    show ga (gm a (f n)) (sh (mulF b f) n) = 0
    simp only [List.length_cons] at hn
    rw [hf n (by omega), gm_zero, zero_ga]
    cases n with
    | zero => rfl
    | succ n => exact ih n (by omega) (.inr trivial)
/-- the highest place of a product -/
theorem mulF_lead (b : List UInt8) (a : UInt8) {f : Nat → UInt8} {m : Nat} (hf : ∀ i, m < i → f i = 0) : mulF (b ++ [a]) f (b.length + m) = gm a (f m) := by
  rw [mulF_snoc, if_pos (by omega), show b.length + m - b.length = m by omega]
  rw [mulF_above b (m := m + 1) (fun i hi => hf i (by omega)) _ (by omega) (.inr trivial), zero_ga]
theorem split_last {b : List UInt8} (h : b ≠ []) : ∃ b' a, b = b' ++ [a] ∧ b'.length = b.length - 1 ∧ cf b (b.length - 1) = a := by
  refine ⟨b.dropLast, b.getLast h, (List.dropLast_concat_getLast h).symm, by simp, ?_⟩
  have hl : b.length - 1 < b.length := by have := List.length_pos_iff.2 h; omega
  rw [cf_lt hl, List.getLast_eq_getElem]
theorem canon_ne {b : List UInt8} (h : Canon b) (hb : b ≠ []) : cf b (b.length - 1) ≠ 0 := h.resolve_left hb
/-- no zero divisors, by degrees -/
theorem mul_zero_above {b e : List UInt8} (hb : Canon b) (hbn : b ≠ []) (he : Canon e) (hz : ∀ n, b.length - 1 ≤ n → mulF b (cf e) n = 0) : e = [] := by
  rcases he with h | h
  · exact h
  · exfalso
    obtain ⟨b', a, hb1, hb2, hb3⟩ := split_last hbn
    have hen : 0 < e.length := by
      rcases Nat.eq_zero_or_pos e.length with h0 | h0
      · rw [List.eq_nil_of_length_eq_zero h0] at h; exact absurd (cf_nil _) h
      · exact h0
    have h1 := hz (b.length - 1 + (e.length - 1)) (by omega)
    rw [← hb2] at h1
    have h2 := mulF_lead b' a (f := cf e) (m := e.length - 1) (fun i hi => cf_ge (by omega))
    rw [← hb1] at h2
    rw [h2] at h1
    rcases gm_eq_zero h1 with h3 | h3
    · exact canon_ne hb hbn (hb3.trans h3)
    · exact h h3
/-- quotient and remainder are one -/
theorem div_unique {b Q Q' R R' : List UInt8} (hb : Canon b) (hbn : b ≠ []) (hR : ∀ n, b.length - 1 ≤ n → cf R n = 0) (hR' : ∀ n, b.length - 1 ≤ n → cf R' n = 0)
    (h : ∀ n, ga (mulF b (cf Q) n) (cf R n) = ga (mulF b (cf Q') n) (cf R' n)) : (∀ n, cf Q n = cf Q' n) ∧ ∀ n, cf R n = cf R' n := by
  have hE : padd Q Q' = [] := by
    refine mul_zero_above hb hbn (canon_padd Q Q') fun n hn => ?_
    rw [mulF_congr b (cf_padd Q Q'), mulF_add]
    have := h n
    rw [hR n hn, hR' n hn, ga_zero, ga_zero] at this
    rw [this, ga_self]
  have hQ : ∀ n, cf Q n = cf Q' n := fun n => ga_eq_zero (by rw [← cf_padd, hE, cf_nil])
  refine ⟨hQ, fun n => ?_⟩
  have := h n
  rw [mulF_congr b hQ] at this
  exact ga_cancel this

/-! long division, as the program does it -/
def dvStep (b : List UInt8) (s : Nat) (st : List UInt8 × List UInt8) : List UInt8 × List UInt8 :=
  let f := gm (st.2.getD (s + (b.length - 1)) 0) (inv (b.getD (b.length - 1) 0))
  (st.1.set s f, rowIn f b s b.length st.2)
def dvRun (b : List UInt8) : Nat → List UInt8 × List UInt8 → List UInt8 × List UInt8
  | 0, st => st
  | s + 1, st => dvRun b s (dvStep b s st)
def divRun (p q : List UInt8) : List UInt8 × List UInt8 × Bool :=
  if trim q = [] then ([], [], false)
  else
    let r := dvRun (trim q) ((trim p).length - ((trim q).length - 1)) (List.replicate ((trim p).length - ((trim q).length - 1)) 0, trim p)
    (trim r.1, trim r.2, true)
theorem dvStep_len (b : List UInt8) (s : Nat) (st : List UInt8 × List UInt8) : (dvStep b s st).1.length = st.1.length ∧ (dvStep b s st).2.length = st.2.length := by
  unfold dvStep
  exact ⟨by simp, by simp [rowIn_length]⟩
theorem cf_unit (s : Nat) (f : UInt8) (i : Nat) : cf (List.replicate s 0 ++ [f]) i = if i = s then f else 0 := by
  rw [cf_append]
  simp only [List.length_replicate]
  split
  · rename_i h
    rw [cf_lt (by simpa using h)]
    rw [if_neg (by omega)]
    simp
  · rename_i h
    by_cases h2 : i = s
    · subst h2; rw [if_pos rfl, Nat.sub_self]; rfl
    · rw [if_neg h2, cf_ge (by simp; omega)]
theorem mulF_zeros (s : Nat) (f : Nat → UInt8) : ∀ n, mulF (List.replicate s 0) f n = 0 := by
  induction s with
  | zero => intro n; rfl
  | succ s ih =>
    intro n
    show ga (gm 0 (f n)) (sh (mulF (List.replicate s 0) f) n) = 0
    rw [zero_gm, zero_ga]
    cases n with
    | zero => rfl
    | succ n => exact ih n
theorem mulF_unit (b : List UInt8) (s : Nat) (f : UInt8) (n : Nat) : mulF b (fun i => if i = s then f else 0) n = if s ≤ n then gm f (cf b (n - s)) else 0 := by
  rw [mulF_congr b (fun i => (cf_unit s f i).symm), mulF_comm, mulF_snoc, mulF_zeros, zero_ga]
  simp
/-- what the long division keeps -/
def DvInv (P b : List UInt8) (s : Nat) (st : List UInt8 × List UInt8) : Prop :=
  (∀ n, cf P n = ga (mulF b (cf st.1) n) (cf st.2 n)) ∧ (∀ i, i < s → cf st.1 i = 0) ∧ (∀ n, s + (b.length - 1) ≤ n → cf st.2 n = 0) ∧ s ≤ st.1.length ∧ s + (b.length - 1) ≤ st.2.length
theorem dvInv_step {P b : List UInt8} (hb : Canon b) (hbn : b ≠ []) {s : Nat} {st : List UInt8 × List UInt8} (h : DvInv P b (s + 1) st) : DvInv P b s (dvStep b s st) := by
  obtain ⟨h1, h2, h3, h4, h5⟩ := h
  have hbl : 0 < b.length := List.length_pos_iff.2 hbn
  have hlast := canon_ne hb hbn
  have hf : gm (gm (cf st.2 (s + (b.length - 1))) (inv (cf b (b.length - 1)))) (cf b (b.length - 1)) = cf st.2 (s + (b.length - 1)) := by
    rw [gm_assoc, gm_comm (inv _), gm_inv hlast, gm_one]
  generalize hfd : gm (cf st.2 (s + (b.length - 1))) (inv (cf b (b.length - 1))) = f at hf
  have e1 : (dvStep b s st).1 = st.1.set s f := by rw [← hfd]; rfl
  have e2 : (dvStep b s st).2 = rowIn f b s b.length st.2 := by rw [← hfd]; rfl
  have c1 : ∀ n, cf (dvStep b s st).1 n = ga (cf st.1 n) (if n = s then f else 0) := by
    intro n
    rw [e1, cf_set]
    by_cases hn : n = s
    · rw [if_pos ⟨hn, by omega⟩, if_pos hn, hn, h2 s (by omega), zero_ga]
    · rw [if_neg (fun h => hn h.1), if_neg hn, ga_zero]
  have c2 : ∀ n, cf (dvStep b s st).2 n = ga (cf st.2 n) (if s ≤ n then gm f (cf b (n - s)) else 0) := by
    intro n
    rw [e2, cf_rowIn _ _ _ _ _ _ (by omega)]
    congr 1
    by_cases hn : s ≤ n
    · rw [if_pos hn]
      by_cases hn2 : n < s + b.length
      · rw [if_pos ⟨hn, hn2⟩]
      · rw [if_neg (by omega), cf_ge (by omega), gm_zero]
    · rw [if_neg hn, if_neg (by omega)]
  refine ⟨fun n => ?_, fun i hi => ?_, fun n hn => ?_, ?_, ?_⟩
  · rw [h1, mulF_congr b c1, mulF_add b (cf st.1) (fun i => if i = s then f else 0), mulF_unit, c2]
    generalize (if s ≤ n then gm f (cf b (n - s)) else 0) = t
    rw [ga_comm (cf st.2 n) t, ← ga_assoc, ga_assoc (mulF b (cf st.1) n) t t, ga_self, ga_zero]
  · rw [c1, h2 i (by omega), if_neg (by omega), ga_zero]
  · rw [c2, if_pos (by omega)]
    by_cases hn2 : n = s + (b.length - 1)
    · rw [hn2, show s + (b.length - 1) - s = b.length - 1 by omega, hf, ga_self]
    · rw [h3 n (by omega), cf_ge (by omega : b.length ≤ n - s), gm_zero, ga_zero]
  · rw [(dvStep_len b s st).1]; omega
  · rw [(dvStep_len b s st).2]; omega
theorem dvInv_run {P b : List UInt8} (hb : Canon b) (hbn : b ≠ []) : ∀ (s : Nat) (st : List UInt8 × List UInt8), DvInv P b s st → DvInv P b 0 (dvRun b s st)
  | 0, _, h => h
  | s + 1, _, h => dvInv_run hb hbn s _ (dvInv_step hb hbn h)
theorem div_law {p q : List UInt8} (hq : trim q ≠ []) :
    (divRun p q).2.2 = true ∧ Canon (divRun p q).1 ∧ Canon (divRun p q).2.1 ∧ (divRun p q).2.1.length < (trim q).length ∧ ∀ n, cf p n = ga (mulF (trim q) (cf (divRun p q).1) n) (cf (divRun p q).2.1 n) := by
  have hb := canon_trim q
  have hbl : 0 < (trim q).length := List.length_pos_iff.2 hq
  unfold divRun
  rw [if_neg hq]
  simp only
  generalize hs : (trim p).length - ((trim q).length - 1) = s
  have h0 : DvInv (trim p) (trim q) s (List.replicate s 0, trim p) ∨ s = 0 := by
    rcases Nat.eq_zero_or_pos s with h | h
    · exact .inr h
    · left
      refine ⟨fun n => ?_, fun i hi => ?_, fun n hn => cf_ge (by show (trim p).length ≤ n; omega), by simp, by show s + _ ≤ (trim p).length; omega⟩
      · rw [mulF_comm, mulF_zeros, zero_ga]
      · show cf (List.replicate s 0) i = 0
        rw [cf_lt (by simpa using hi)]; simp
  have h1 : (∀ n, cf (trim p) n = ga (mulF (trim q) (cf (dvRun (trim q) s (List.replicate s 0, trim p)).1) n) (cf (dvRun (trim q) s (List.replicate s 0, trim p)).2 n)) ∧
      ∀ n, (trim q).length - 1 ≤ n → cf (dvRun (trim q) s (List.replicate s 0, trim p)).2 n = 0 := by
    rcases h0 with h0 | h0
    · have := dvInv_run hb hq s _ h0
      exact ⟨this.1, fun n hn => this.2.2.1 n (by omega)⟩
    · subst h0
      refine ⟨fun n => ?_, fun n hn => ?_⟩
      · show cf (trim p) n = ga (mulF (trim q) (cf []) n) (cf (trim p) n)
        rw [mulF_comm]
        exact (zero_ga _).symm
      · show cf (trim p) n = 0
        exact cf_ge (by omega)
  obtain ⟨h1, h2⟩ := h1
  refine ⟨trivial, canon_trim _, canon_trim _, ?_, fun n => ?_⟩
  · have := canon_len (canon_trim (dvRun (trim q) s (List.replicate s 0, trim p)).2) (m := (trim q).length - 1) (fun i hi => by rw [cf_trim]; exact h2 i hi)
    omega
  · rw [← cf_trim p, h1 n, cf_trim, mulF_congr (trim q) (cf_trim (dvRun (trim q) s (List.replicate s 0, trim p)).1)]
theorem div_none {p q : List UInt8} (hq : trim q = []) : divRun p q = ([], [], false) := by unfold divRun; rw [if_pos hq]

/-! long division, as the reference does it -/
def rdvStep (b : List UInt8) (st : List UInt8 × List UInt8) : List UInt8 × List UInt8 :=
  let c := gm (st.2.getD (st.2.length - 1) 0) (inv (b.getD (b.length - 1) 0))
  (padd st.1 (pscale [1] c (st.2.length - b.length)), padd st.2 (pscale b c (st.2.length - b.length)))
theorem rdv_short {b : List UInt8} (hb : Canon b) (hbn : b ≠ []) {st : List UInt8 × List UInt8} (hl : b.length ≤ st.2.length) : (rdvStep b st).2.length < st.2.length := by
  have hbl : 0 < b.length := List.length_pos_iff.2 hbn
  have hlast := canon_ne hb hbn
  have := canon_len (l := (rdvStep b st).2) (canon_padd _ _) (m := st.2.length - 1) (fun i hi => by
    show cf (padd st.2 (pscale b (gm (cf st.2 (st.2.length - 1)) (inv (cf b (b.length - 1)))) (st.2.length - b.length))) i = 0
    rw [cf_padd, cf_pscale, if_neg (by omega)]
    by_cases h : i = st.2.length - 1
    · subst h
      rw [show st.2.length - 1 - (st.2.length - b.length) = b.length - 1 by omega, gm_assoc, gm_comm (inv _), gm_inv hlast, gm_one, ga_self]
    · rw [cf_ge (by omega : st.2.length ≤ i), cf_ge (by omega : b.length ≤ i - (st.2.length - b.length)), gm_zero, ga_zero])
  omega
def rdvRun (b : List UInt8) : Nat → List UInt8 × List UInt8 → List UInt8 × List UInt8
  | 0, st => st
  | f + 1, st => if b.length ≤ st.2.length then rdvRun b f (rdvStep b st) else st
theorem rdvRun_stop (b : List UInt8) (st : List UInt8 × List UInt8) (h : ¬ b.length ≤ st.2.length) : ∀ f, rdvRun b f st = st
  | 0 => rfl
  | f + 1 => by unfold rdvRun; rw [if_neg h]
def RdInv (P b : List UInt8) (st : List UInt8 × List UInt8) : Prop :=
  (∀ n, cf P n = ga (mulF b (cf st.1) n) (cf st.2 n)) ∧ Canon st.1 ∧ Canon st.2
theorem rdInv_step {P b : List UInt8} {st : List UInt8 × List UInt8} (h : RdInv P b st) : RdInv P b (rdvStep b st) := by
  obtain ⟨h1, h2, h3⟩ := h
  refine ⟨fun n => ?_, canon_padd _ _, canon_padd _ _⟩
  show _ = ga (mulF b (cf (padd st.1 (pscale [1] _ _))) n) (cf (padd st.2 (pscale b _ _)) n)
  generalize gm (st.2.getD (st.2.length - 1) 0) (inv (b.getD (b.length - 1) 0)) = c
  generalize st.2.length - b.length = k
  rw [h1, mulF_congr b (cf_padd st.1 (pscale [1] c k)), mulF_add, cf_padd, cf_pscale]
  have e : ∀ i, cf (pscale [1] c k) i = if i = k then c else 0 := by
    intro i
    rw [cf_pscale]
    by_cases h : i < k
    · rw [if_pos h, if_neg (by omega)]
    · rw [if_neg h]
      by_cases h2 : i = k
      · subst h2; rw [if_pos rfl, Nat.sub_self]; show gm c 1 = c; rw [gm_one]
      · rw [if_neg h2, cf_ge (by simp; omega), gm_zero]
  rw [mulF_congr b e, mulF_unit]
  have e2 : (if n < k then 0 else gm c (cf b (n - k))) = if k ≤ n then gm c (cf b (n - k)) else 0 := by
    by_cases h : n < k
    · rw [if_pos h, if_neg (by omega)]
    · rw [if_neg h, if_pos (by omega)]
  rw [e2]
  generalize (if k ≤ n then gm c (cf b (n - k)) else 0) = t
  rw [ga_comm (cf st.2 n) t, ← ga_assoc, ga_assoc (mulF b (cf st.1) n) t t, ga_self, ga_zero]
theorem rdInv_run {P b : List UInt8} (hb : Canon b) (hbn : b ≠ []) : ∀ (f : Nat) (st : List UInt8 × List UInt8), st.2.length ≤ f → RdInv P b st → RdInv P b (rdvRun b f st) ∧ (rdvRun b f st).2.length < b.length
  | 0, st, hf, h => ⟨h, by have := List.length_pos_iff.2 hbn; show st.2.length < _; omega⟩
  | f + 1, st, hf, h => by
    unfold rdvRun
    split
    · rename_i hl
      exact rdInv_run hb hbn f _ (by have := rdv_short hb hbn hl; omega) (rdInv_step h)
    · exact ⟨h, by omega⟩
/-- the reference's division is the program's -/
theorem rdiv_div {p q : List UInt8} (hq : trim q ≠ []) : rdvRun (trim q) (trim p).length ([], trim p) = ((divRun p q).1, (divRun p q).2.1) := by
  have hb := canon_trim q
  obtain ⟨_, hc1, hc2, hl, he⟩ := div_law (p := p) hq
  have h0 : RdInv p (trim q) ([], trim p) := by
    refine ⟨fun n => ?_, canon_nil, canon_trim p⟩
    rw [mulF_comm, cf_trim]
    exact (zero_ga _).symm
  obtain ⟨⟨h1, h2, h3⟩, h4⟩ := rdInv_run hb hq _ _ (Nat.le_refl _) h0
  obtain ⟨u1, u2⟩ := div_unique hb hq (fun n hn => cf_ge (by omega : _ ≤ n)) (fun n hn => cf_ge (by omega : _ ≤ n)) (fun n => (h1 n).symm.trans (he n))
  exact Prod.ext (canon_ext h2 hc1 u1) (canon_ext h3 hc2 u2)

end Go.Proofs.Ytogcgeiocndlbaa
