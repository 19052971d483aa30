/- Plain laws of polynomials over GF(256): derivatives and values. No program in sight. -/
import Derived.Test.YtogcgeiocndlbaaPy
namespace Go.Proofs.Ytogcgeiocndlbaa
open Gf

/-! the derivative -/
def D (f : Nat → UInt8) (n : Nat) : UInt8 := if n % 2 = 0 then f (n + 1) else 0
theorem cf_pder (p : List UInt8) (n : Nat) : cf (pder p) n = D (cf p) n := by
  unfold pder
  rw [cf_trim]
  unfold D
  by_cases h : n < p.length - 1
  · rw [cf_lt (by simp [derTo]; omega)]
    unfold derTo
    rw [List.getElem_map, List.getElem_range]
    by_cases h2 : n % 2 = 0
    · rw [if_pos h2, if_pos (by omega)]; rfl
    · rw [if_neg h2, if_neg (by omega)]
  · rw [cf_ge (by simp [derTo]; omega)]
    split
    · exact (cf_ge (by omega)).symm
    · rfl
theorem canon_pder (p : List UInt8) : Canon (pder p) := canon_trim _
theorem D_congr {f g : Nat → UInt8} (h : ∀ n, f n = g n) (n : Nat) : D f n = D g n := by unfold D; rw [h]
theorem D_add (f g : Nat → UInt8) (n : Nat) : D (fun i => ga (f i) (g i)) n = ga (D f n) (D g n) := by
  unfold D
  split
  · rfl
  · exact (ga_zero 0).symm
theorem D_smul (c : UInt8) (f : Nat → UInt8) (n : Nat) : D (fun i => gm c (f i)) n = gm c (D f n) := by
  unfold D
  split
  · rfl
  · exact (gm_zero c).symm
theorem D_sh (g : Nat → UInt8) (n : Nat) : D (sh g) n = ga (g n) (sh (D g) n) := by
  unfold D
  cases n with
  | zero => exact (ga_zero _).symm
  | succ n =>
    show (if (n + 1) % 2 = 0 then g (n + 1) else 0) = ga (g (n + 1)) (if n % 2 = 0 then g (n + 1) else 0)
    by_cases h : n % 2 = 0
    · rw [if_neg (by omega), if_pos h, ga_self]
    · rw [if_pos (by omega), if_neg h, ga_zero]
theorem mulF_left_add {l a b : List UInt8} (q : List UInt8) (h : ∀ n, cf l n = ga (cf a n) (sh (cf b) n)) (n : Nat) : mulF l (cf q) n = ga (mulF a (cf q) n) (sh (mulF b (cf q)) n) := by
  rw [mulF_comm, mulF_congr q h, mulF_add q (cf a) (sh (cf b)), mulF_sh, mulF_comm q a, sh_congr (mulF_comm q b)]
theorem D_cons (a : UInt8) (p : List UInt8) (n : Nat) : D (cf (a :: p)) n = ga (cf p n) (sh (D (cf p)) n) := by
  rw [D_congr (cf_cons a p), D_add (fun n => if n = 0 then a else 0) (sh (cf p)), D_sh]
  have : D (fun n => if n = 0 then a else 0) n = 0 := by
    unfold D
    split <;> rfl
  rw [this, zero_ga]
theorem D_mul (p q : List UInt8) : ∀ n, D (mulF p (cf q)) n = ga (mulF (pder p) (cf q) n) (mulF p (D (cf q)) n) := by
  induction p with
  | nil =>
    intro n
    have h1 : pder [] = [] := canon_zero (canon_pder _) fun i => by rw [cf_pder]; unfold D; split <;> simp [cf_nil]
    rw [h1]
    show D (fun _ => 0) n = ga 0 0
    rw [ga_zero]
    unfold D
    split <;> rfl
  | cons a p ih =>
    intro n
    have e : ∀ n, mulF (a :: p) (cf q) n = ga (gm a (cf q n)) (sh (mulF p (cf q)) n) := fun _ => rfl
    rw [D_congr e, D_add (fun n => gm a (cf q n)) (sh (mulF p (cf q))), D_smul, D_sh, sh_congr ih]
    have h2 := mulF_left_add (l := pder (a :: p)) (a := p) (b := pder p) q (fun n => by rw [cf_pder, D_cons, sh_congr (fun n => (cf_pder p n).symm)]) n
    rw [h2]
    show _ = ga _ (ga (gm a (D (cf q) n)) (sh (mulF p (D (cf q))) n))
    have e3 : sh (fun n => ga (mulF (pder p) (cf q) n) (mulF p (D (cf q)) n)) n = ga (sh (mulF (pder p) (cf q)) n) (sh (mulF p (D (cf q))) n) := by
      cases n with
      | zero => exact (ga_zero 0).symm
      | succ n => rfl
    rw [e3]
    simp only [ga_assoc, ga_left_comm, ga_comm]
theorem pder_padd (p q : List UInt8) : pder (padd p q) = padd (pder p) (pder q) := canon_ext (canon_pder _) (canon_padd _ _) fun i => by
  rw [cf_pder, cf_padd, cf_pder, cf_pder, D_congr (cf_padd p q), D_add]
theorem pder_pmul (p q : List UInt8) : pder (pmul p q) = padd (pmul (pder p) q) (pmul p (pder q)) := canon_ext (canon_pder _) (canon_padd _ _) fun i => by
  rw [cf_pder, D_congr (cf_pmul p q), D_mul, cf_padd, cf_pmul, cf_pmul, mulF_congr p (fun n => (cf_pder q n).symm)]

theorem pmul_length (p q : List UInt8) : (pmul p q).length ≤ p.length + q.length := by
  unfold pmul
  have := trim_length (mulSt p q p.length)
  rwa [mulSt_length] at this
theorem pder_length (p : List UInt8) : (pder p).length ≤ p.length := by
  unfold pder
  have := trim_length (derTo p (p.length - 1))
  simp [derTo] at this ⊢
  omega

end Go.Proofs.Ytogcgeiocndlbaa
