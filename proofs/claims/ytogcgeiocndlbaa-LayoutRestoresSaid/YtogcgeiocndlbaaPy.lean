/- Plain laws of polynomials over GF(256): coefficients, canonical lists, sums, products. No program in sight. -/
import Derived.Test.YtogcgeiocndlbaaPx
namespace Go.Proofs.Ytogcgeiocndlbaa
open Gf

/-- a coefficient -/
def cf (p : List UInt8) (i : Nat) : UInt8 := p.getD i 0
theorem cf_nil (i : Nat) : cf [] i = 0 := by simp [cf]
theorem cf_zero (a : UInt8) (p : List UInt8) : cf (a :: p) 0 = a := rfl
theorem cf_succ (a : UInt8) (p : List UInt8) (i : Nat) : cf (a :: p) (i + 1) = cf p i := rfl
theorem cf_ge {p : List UInt8} {i : Nat} (h : p.length ≤ i) : cf p i = 0 := getD_ge h
theorem cf_lt {p : List UInt8} {i : Nat} (h : i < p.length) : cf p i = p[i] := getD_lt h
theorem cf_append (p q : List UInt8) (i : Nat) : cf (p ++ q) i = if i < p.length then cf p i else cf q (i - p.length) := by
  unfold cf
  rw [List.getD_eq_getElem?_getD, List.getElem?_append]
  split
  · rw [List.getD_eq_getElem?_getD]
  · rw [List.getD_eq_getElem?_getD]

/-! trim -/
theorem trimTo_above (l : List UInt8) : ∀ n i, trimTo l n ≤ i → i < n → cf l i = 0
  | 0, _, _, h => absurd h (Nat.not_lt_zero _)
  | n + 1, i, h1, h2 => by
    have e : trimTo l (n + 1) = if l.getD n 0 = 0 then trimTo l n else n + 1 := rfl
    rw [e] at h1
    split at h1
    · rename_i hz
      rcases Nat.lt_succ_iff_lt_or_eq.1 h2 with h3 | h3
      · exact trimTo_above l n i h1 h3
      · rw [h3]; exact hz
    · omega
theorem trimTo_last (l : List UInt8) : ∀ n, trimTo l n = 0 ∨ cf l (trimTo l n - 1) ≠ 0
  | 0 => .inl rfl
  | n + 1 => by
    have e : trimTo l (n + 1) = if l.getD n 0 = 0 then trimTo l n else n + 1 := rfl
    rw [e]
    split
    · exact trimTo_last l n
    · rename_i h; right; exact h
theorem trim_len (l : List UInt8) : (trim l).length = trimTo l l.length := by
  unfold trim
  rw [List.length_take]
  exact Nat.min_eq_left (trimTo_le l _)
theorem cf_trim (l : List UInt8) (i : Nat) : cf (trim l) i = cf l i := by
  by_cases h : i < (trim l).length
  · have h2 : i < trimTo l l.length := by rw [← trim_len]; exact h
    have h3 : i < l.length := Nat.lt_of_lt_of_le h2 (trimTo_le l _)
    rw [cf_lt h, cf_lt h3]
    exact List.getElem_take
  · rw [cf_ge (by omega)]
    by_cases h3 : i < l.length
    · exact (trimTo_above l _ i (by rw [← trim_len]; omega) h3).symm
    · exact (cf_ge (by omega)).symm
theorem trim_last (l : List UInt8) : trim l = [] ∨ cf (trim l) ((trim l).length - 1) ≠ 0 := by
  rcases trimTo_last l l.length with h | h
  · left; exact List.eq_nil_of_length_eq_zero (by rw [trim_len, h])
  · right; rw [cf_trim, trim_len]; exact h
/-- canonical lists: no zero at the end -/
def Canon (l : List UInt8) : Prop := l = [] ∨ cf l (l.length - 1) ≠ 0
theorem canon_trim (l : List UInt8) : Canon (trim l) := trim_last l
theorem canon_nil : Canon [] := .inl rfl
theorem canon_ext {p q : List UInt8} (hp : Canon p) (hq : Canon q) (h : ∀ i, cf p i = cf q i) : p = q := by
  have key : ∀ {a b : List UInt8}, Canon b → (∀ i, cf a i = cf b i) → ¬ a.length < b.length := by
    intro a b hb hab hlt
    rcases hb with rfl | hb
    · simp at hlt
    · exact hb ((hab _).symm.trans (cf_ge (by omega)))
  have hl : p.length = q.length := by
    have h1 := key hq h
    have h2 := key hp (fun i => (h i).symm)
    omega
  refine List.ext_getElem hl fun i h1 h2 => ?_
  rw [← cf_lt h1, ← cf_lt h2]
  exact h i
theorem trim_ext {p q : List UInt8} (h : ∀ i, cf p i = cf q i) : trim p = trim q :=
  canon_ext (canon_trim p) (canon_trim q) fun i => by rw [cf_trim, cf_trim, h]
theorem trim_canon {p : List UInt8} (h : Canon p) : trim p = p := canon_ext (canon_trim p) h fun i => cf_trim p i
theorem trim_trim (p : List UInt8) : trim (trim p) = trim p := trim_canon (canon_trim p)
theorem canon_zero {p : List UInt8} (h : Canon p) (hz : ∀ i, cf p i = 0) : p = [] := canon_ext h canon_nil fun i => by rw [hz, cf_nil]

/-! sums -/
theorem cf_addTo (p q : List UInt8) (m i : Nat) : cf (addTo p q m) i = if i < m then ga (cf p i) (cf q i) else 0 := by
  by_cases h : i < m
  · rw [if_pos h, cf_lt (by rw [addTo_length]; exact h)]
    simp [addTo, cf]
  · rw [if_neg h, cf_ge (by rw [addTo_length]; omega)]
theorem cf_padd (p q : List UInt8) (i : Nat) : cf (padd p q) i = ga (cf p i) (cf q i) := by
  unfold padd
  rw [cf_trim, cf_addTo]
  split
  · rfl
  · rw [cf_ge (by omega : p.length ≤ i), cf_ge (by omega : q.length ≤ i), ga_zero]
theorem canon_padd (p q : List UInt8) : Canon (padd p q) := canon_trim _
theorem cf_scaleTo (p : List UInt8) (x : UInt8) (k i : Nat) : cf (scaleTo p x k p.length) i = if i < k then 0 else gm x (cf p (i - k)) := by
  unfold scaleTo
  rw [cf_append]
  simp only [List.length_replicate]
  split
  · rename_i h
    rw [cf_lt (by simpa using h)]
    simp
  · by_cases h : i - k < p.length
    · rw [cf_lt (by simpa using h)]
      simp [cf]
    · rw [cf_ge (by simpa using h), cf_ge (by omega), gm_zero]
theorem cf_pscale (p : List UInt8) (x : UInt8) (k i : Nat) : cf (pscale p x k) i = if i < k then 0 else gm x (cf p (i - k)) := by
  unfold pscale
  rw [cf_trim, cf_scaleTo]
theorem canon_pscale (p : List UInt8) (x : UInt8) (k : Nat) : Canon (pscale p x k) := canon_trim _

/-! products: a list times a row of coefficients -/
def sh (f : Nat → UInt8) : Nat → UInt8
  | 0 => 0
  | n + 1 => f n
def mulF : List UInt8 → (Nat → UInt8) → Nat → UInt8
  | [], _ => fun _ => 0
  | a :: p, f => fun n => ga (gm a (f n)) (sh (mulF p f) n)
theorem sh_congr {f g : Nat → UInt8} (h : ∀ n, f n = g n) : ∀ n, sh f n = sh g n
  | 0 => rfl
  | n + 1 => h n
theorem mulF_congr (p : List UInt8) {f g : Nat → UInt8} (h : ∀ n, f n = g n) : ∀ n, mulF p f n = mulF p g n := by
  induction p with
  | nil => intro n; rfl
  | cons a p ih => intro n; simp only [mulF]; rw [h, sh_congr ih]
theorem mulF_add (p : List UInt8) (f g : Nat → UInt8) : ∀ n, mulF p (fun i => ga (f i) (g i)) n = ga (mulF p f n) (mulF p g n) := by
  induction p with
  | nil => intro n; exact (ga_zero 0).symm
  | cons a p ih =>
    intro n
    simp only [mulF]
    have e : sh (mulF p fun i => ga (f i) (g i)) n = ga (sh (mulF p f) n) (sh (mulF p g) n) := by
      cases n with
      | zero => exact (ga_zero 0).symm
      | succ n => exact ih n
    rw [e, gm_ga]
    simp only [ga_assoc, ga_left_comm]
theorem mulF_smul (p : List UInt8) (c : UInt8) (f : Nat → UInt8) : ∀ n, mulF p (fun i => gm c (f i)) n = gm c (mulF p f n) := by
  induction p with
  | nil => intro n; exact (gm_zero c).symm
  | cons a p ih =>
    intro n
    simp only [mulF]
    have e : sh (mulF p fun i => gm c (f i)) n = gm c (sh (mulF p f) n) := by
      cases n with
      | zero => exact (gm_zero c).symm
      | succ n => exact ih n
    rw [e, gm_ga, gm_left_comm]
theorem mulF_sh (p : List UInt8) (f : Nat → UInt8) : ∀ n, mulF p (sh f) n = sh (mulF p f) n := by
  induction p with
  | nil => intro n; cases n <;> rfl
  | cons a p ih =>
    intro n
    cases n with
    | zero =>
      show ga (gm a 0) 0 = 0
      rw [gm_zero, ga_zero]
    | succ n =>
      show ga (gm a (f n)) (mulF p (sh f) n) = ga (gm a (f n)) (sh (mulF p f) n)
      rw [ih n]
theorem mulF_zero (p : List UInt8) : ∀ n, mulF p (fun _ => 0) n = 0 := by
  induction p with
  | nil => intro n; rfl
  | cons a p ih =>
    intro n
    simp only [mulF]
    rw [gm_zero, zero_ga]
    cases n with
    | zero => rfl
    | succ n => exact ih n
theorem mulF_swap (r p : List UInt8) (f : Nat → UInt8) : ∀ n, mulF r (mulF p f) n = mulF p (mulF r f) n := by
  induction r with
  | nil => intro n; exact (mulF_zero p n).symm
  | cons a r ih =>
    intro n
    have e : mulF (a :: r) f = fun n => ga (gm a (f n)) (sh (mulF r f) n) := rfl
    rw [e, mulF_add p (fun n => gm a (f n)) (sh (mulF r f)), mulF_smul, mulF_sh]
    show ga (gm a (mulF p f n)) (sh (mulF r (mulF p f)) n) = _
    rw [sh_congr ih]
theorem cf_cons (a : UInt8) (p : List UInt8) (n : Nat) : cf (a :: p) n = ga (if n = 0 then a else 0) (sh (cf p) n) := by
  cases n with
  | zero => exact (ga_zero a).symm
  | succ n => exact (zero_ga _).symm
theorem mulF_cons (q : List UInt8) (a : UInt8) (p : List UInt8) : ∀ n, mulF q (cf (a :: p)) n = ga (gm a (cf q n)) (sh (mulF q (cf p)) n) := by
  induction q with
  | nil =>
    intro n
    rw [cf_nil, gm_zero, zero_ga]
    cases n <;> rfl
  | cons b q ih =>
    intro n
    cases n with
    | zero =>
      show ga (gm b a) 0 = ga (gm a b) 0
      rw [gm_comm]
    | succ n =>
      show ga (gm b (cf p n)) (mulF q (cf (a :: p)) n) = ga (gm a (cf q n)) (ga (gm b (cf p n)) (sh (mulF q (cf p)) n))
      rw [ih n, ga_left_comm]
theorem mulF_comm (p q : List UInt8) : ∀ n, mulF p (cf q) n = mulF q (cf p) n := by
  induction p with
  | nil =>
    intro n
    have h : ∀ n, cf [] n = (fun _ => (0 : UInt8)) n := fun n => cf_nil n
    rw [mulF_congr q h, mulF_zero]; rfl
  | cons a p ih =>
    intro n
    rw [mulF_cons]
    show ga (gm a (cf q n)) (sh (mulF p (cf q)) n) = _
    rw [sh_congr ih]
theorem mulF_left {p p' : List UInt8} (q : List UInt8) (h : ∀ n, cf p n = cf p' n) : ∀ n, mulF p (cf q) n = mulF p' (cf q) n := by
  intro n; rw [mulF_comm p, mulF_comm p', mulF_congr q h]
theorem mulF_snoc (p : List UInt8) (a : UInt8) (f : Nat → UInt8) : ∀ n, mulF (p ++ [a]) f n = ga (mulF p f n) (if p.length ≤ n then gm a (f (n - p.length)) else 0) := by
  induction p with
  | nil =>
    intro n
    simp only [List.nil_append, mulF, List.length_nil, Nat.zero_le, if_true, Nat.sub_zero]
    have : sh (fun _ => (0 : UInt8)) n = 0 := by cases n <;> rfl
    rw [this, ga_zero, zero_ga]
  | cons b p ih =>
    intro n
    cases n with
    | zero =>
      show ga (gm b (f 0)) 0 = ga (ga (gm b (f 0)) 0) (if p.length + 1 ≤ 0 then _ else 0)
      rw [if_neg (by omega), ga_zero, ga_zero]
    | succ n =>
      show ga (gm b (f (n + 1))) (mulF (p ++ [a]) f n) = ga (ga (gm b (f (n + 1))) (mulF p f n)) (if p.length + 1 ≤ n + 1 then gm a (f (n + 1 - (p.length + 1))) else 0)
      rw [ih n, ga_assoc]
      congr 2
      by_cases h : p.length ≤ n
      · rw [if_pos h, if_pos (by omega)]
        congr 2
        omega
      · rw [if_neg h, if_neg (by omega)]

theorem cf_set (l : List UInt8) (k : Nat) (x : UInt8) (i : Nat) : cf (l.set k x) i = if i = k ∧ k < l.length then x else cf l i := by
  by_cases h : i < l.length
  · rw [cf_lt (by rw [List.length_set]; exact h), List.getElem_set, cf_lt h]
    by_cases hk : k = i
    · rw [if_pos hk, if_pos ⟨hk.symm, by omega⟩]
    · rw [if_neg hk, if_neg (fun h => hk h.1.symm)]
  · rw [cf_ge (by rw [List.length_set]; omega), cf_ge (by omega), if_neg (by omega)]
theorem cf_rowIn (x : UInt8) (q : List UInt8) (i : Nat) (out : List UInt8) (n : Nat) : ∀ k, i + k ≤ out.length →
    cf (rowIn x q i k out) n = ga (cf out n) (if i ≤ n ∧ n < i + k then gm x (cf q (n - i)) else 0)
  | 0, _ => by rw [rowIn_zero, if_neg (by omega), ga_zero]
  | k + 1, h => by
    rw [rowIn_succ', cf_set, rowIn_length]
    by_cases hn : n = i + k
    · rw [if_pos ⟨hn, by omega⟩, if_pos (by omega)]
      have := cf_rowIn x q i out n k (by omega)
      rw [if_neg (by omega), ga_zero] at this
      show ga (cf (rowIn x q i k out) (i + k)) (gm x (cf q k)) = _
      rw [← hn, this, hn]
      congr 3
      omega
    · rw [if_neg (fun h => hn h.1), cf_rowIn x q i out n k (by omega)]
      congr 1
      by_cases h2 : i ≤ n ∧ n < i + k
      · rw [if_pos h2, if_pos (by omega)]
      · rw [if_neg h2, if_neg (by omega)]
theorem take_snoc {p : List UInt8} {i : Nat} (h : i < p.length) : p.take (i + 1) = p.take i ++ [p[i]] := List.take_succ_eq_append_getElem h
theorem cf_mulSt (p q : List UInt8) (n : Nat) : ∀ i, i ≤ p.length → cf (mulSt p q i) n = mulF (p.take i) (cf q) n
  | 0, _ => by
    show cf (List.replicate _ 0) n = 0
    by_cases h : n < p.length + q.length
    · rw [cf_lt (by simpa using h)]; simp
    · rw [cf_ge (by simpa using h)]
  | i + 1, h => by
    rw [mulSt_succ (by omega : i < p.length), cf_rowIn _ _ _ _ _ _ (by rw [mulSt_length]; omega), cf_mulSt p q n i (by omega), take_snoc (by omega : i < p.length), mulF_snoc]
    have hl : (p.take i).length = i := by rw [List.length_take]; omega
    rw [hl]
    congr 1
    by_cases h1 : i ≤ n
    · rw [if_pos h1]
      by_cases h2 : n < i + q.length
      · rw [if_pos ⟨h1, h2⟩]
      · rw [if_neg (by omega), cf_ge (by omega), gm_zero]
    · rw [if_neg h1, if_neg (by omega)]
theorem cf_pmul (p q : List UInt8) (n : Nat) : cf (pmul p q) n = mulF p (cf q) n := by
  unfold pmul
  rw [cf_trim, cf_mulSt p q n _ (Nat.le_refl _), List.take_length]
theorem canon_pmul (p q : List UInt8) : Canon (pmul p q) := canon_trim _
theorem cf_rmulTo (p q : List UInt8) (n : Nat) : ∀ i, i ≤ p.length → cf (rmulTo p q i) n = mulF (p.take i) (cf q) n
  | 0, _ => cf_nil n
  | i + 1, h => by
    rw [rmulTo_succ q (by omega : i < p.length), cf_padd, cf_rmulTo p q n i (by omega), cf_pscale, take_snoc (by omega : i < p.length), mulF_snoc]
    have hl : (p.take i).length = i := by rw [List.length_take]; omega
    rw [hl]
    congr 1
    by_cases h1 : i ≤ n
    · rw [if_pos h1, if_neg (by omega)]
    · rw [if_neg h1, if_pos (by omega)]
theorem canon_rmulTo (p q : List UInt8) : ∀ i, Canon (rmulTo p q i)
  | 0 => canon_nil
  | _ + 1 => canon_padd _ _
theorem rmul_pmul (p q : List UInt8) : rmulTo p q p.length = pmul p q :=
  canon_ext (canon_rmulTo p q _) (canon_pmul p q) fun i => by rw [cf_rmulTo p q i _ (Nat.le_refl _), List.take_length, cf_pmul]

/-! the ring laws -/
theorem padd_comm (p q : List UInt8) : padd p q = padd q p := canon_ext (canon_padd _ _) (canon_padd _ _) fun i => by rw [cf_padd, cf_padd, ga_comm]
theorem padd_assoc (p q r : List UInt8) : padd (padd p q) r = padd p (padd q r) := canon_ext (canon_padd _ _) (canon_padd _ _) fun i => by simp only [cf_padd, ga_assoc]
theorem padd_self (p : List UInt8) : padd p p = [] := canon_zero (canon_padd _ _) fun i => by rw [cf_padd, ga_self]
theorem pmul_comm (p q : List UInt8) : pmul p q = pmul q p := canon_ext (canon_pmul _ _) (canon_pmul _ _) fun i => by rw [cf_pmul, cf_pmul, mulF_comm]
theorem pmul_assoc (p q r : List UInt8) : pmul (pmul p q) r = pmul p (pmul q r) := canon_ext (canon_pmul _ _) (canon_pmul _ _) fun i => by
  rw [cf_pmul, cf_pmul, mulF_comm, mulF_congr r (fun n => cf_pmul p q n), mulF_congr p (fun n => (cf_pmul q r n).trans (mulF_comm q r n)), mulF_swap]
theorem pmul_padd (p q r : List UInt8) : pmul p (padd q r) = padd (pmul p q) (pmul p r) := canon_ext (canon_pmul _ _) (canon_padd _ _) fun i => by
  rw [cf_pmul, cf_padd, cf_pmul, cf_pmul, mulF_congr p (fun n => cf_padd q r n), mulF_add]
theorem mulF_one (f : Nat → UInt8) (n : Nat) : mulF [1] f n = f n := by
  show ga (gm 1 (f n)) (sh (fun _ => 0) n) = f n
  have : sh (fun _ => (0 : UInt8)) n = 0 := by cases n <;> rfl
  rw [this, ga_zero, one_gm]
theorem pmul_one (p : List UInt8) : pmul p [1] = trim p := canon_ext (canon_pmul _ _) (canon_trim _) fun i => by rw [cf_pmul, mulF_comm, mulF_one, cf_trim]

end Go.Proofs.Ytogcgeiocndlbaa
