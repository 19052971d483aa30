/- Texts in memory; how they are placed, in plain Lean. -/
import Derived.Test.YtfjjdogjihpbnaaDoorMb
namespace Go.Proofs.YtfjjdogjihpbnaaDoor
open Go.RowKit
namespace Mc

/-! texts in memory -/
def txc (t : Txt) : List Value := [.int .i64 t.1, .string t.2]
theorem txs_len : ∀ l : List Txt, (l.flatMap txc).length = l.length * 2
  | [] => rfl
  | t :: l => by rw [List.flatMap_cons, List.length_append, txs_len l, List.length_cons]; simp [txc]; omega
theorem txs_at : ∀ (l : List Txt) (k : Nat) (hk : k < l.length) (i : Nat), i < 2 → (l.flatMap txc)[k * 2 + i]? = (txc l[k])[i]?
  | [], k, hk, _, _ => absurd hk (by simp)
  | t :: l, 0, _, i, hi => by rw [List.flatMap_cons, List.getElem?_append_left (by simp [txc]; omega)]; simp
  | t :: l, k + 1, hk, i, hi => by
    rw [List.flatMap_cons, List.getElem?_append_right (by simp [txc]; omega)]
    rw [show (k + 1) * 2 + i - (txc t).length = k * 2 + i by simp [txc]; omega]
    simpa using txs_at l k (by simpa using hk) i hi
/-- a []api.Text that reads as l -/
def Txs (w : World) (A : Option Addr) (n c : Nat) (l : List Txt) : Prop := Sl w 2 A n c (l.flatMap txc)
section
variable {w w' : World} {A : Option Addr} {n c : Nat} {l : List Txt}
theorem Txs.len (h : Txs w A n c l) : n = l.length := by have := h.2.2.1; rw [txs_len] at this; omega
theorem Txs.below (h : Txs w A n c l) (hb : Below w.heap.size w w') : Txs w' A n c l := Sl.below h hb
theorem Txs.alloc (h : Txs w A n c l) (o : Obj) : Txs (w.alloc o) A n c l := Sl.alloc h o
theorem Txs.at_ (h : Txs w A n c l) {k : Nat} (hk : k < l.length) : ∃ ad, A = some ad ∧ ad.block < w.heap.size ∧ w.cell? (ad.add (k * 2)) = some (.int .i64 l[k].1) ∧ w.cell? ⟨(ad.add (k * 2)).block, (ad.add (k * 2)).off + 1, none⟩ = some (.string l[k].2) := by
  obtain ⟨ad, e, hb, hc⟩ := h.2.2.2 (by have := h.len; omega)
  refine ⟨ad, e, hb, ?_, ?_⟩
  · exact hc (k * 2) _ (by have := txs_at l k hk 0 (by omega); simpa [txc] using this)
  · have h2 := hc (k * 2 + 1) _ (by have := txs_at l k hk 1 (by omega); simpa [txc] using this)
    rw [← add_plus] at h2
    rw [show ((ad.add (k * 2)).add 1) = ⟨(ad.add (k * 2)).block, (ad.add (k * 2)).off + 1, none⟩ from rfl] at h2
    exact h2
end

/-! placing, byte by byte -/
def putP (m : Nat → Int) (t : Txt) (j : Nat) : Nat → Int := fun i => if t.1.toNat ≤ i ∧ i < t.1.toNat + j then ((t.2.data.getD (i - t.1.toNat) 0).toNat : Int) else m i
theorem putP_zero (m : Nat → Int) (t : Txt) : putP m t 0 = m := by
  funext i; unfold putP; rw [if_neg (by omega)]
theorem putP_all (m : Nat → Int) (t : Txt) : putP m t t.2.size = putT m t := rfl
theorem putP_succ (m : Nat → Int) (t : Txt) (j : Nat) : put (putP m t j) (t.1.toNat + j) ((t.2.data.getD j 0).toNat : Int) = putP m t (j + 1) := by
  funext i
  unfold put putP
  by_cases h : i = t.1.toNat + j
  · subst h
    rw [if_pos rfl, if_pos (by omega), show t.1.toNat + j - t.1.toNat = j by omega]
  · rw [if_neg h]
    by_cases h2 : t.1.toNat ≤ i ∧ i < t.1.toNat + j
    · rw [if_pos h2, if_pos (by omega)]
    · rw [if_neg h2, if_neg (by omega)]
def memN (ts : List Txt) (k : Nat) : Nat → Int := memT (ts.take k)
theorem memN_zero (ts : List Txt) : memN ts 0 = fun _ => 0 := rfl
theorem memN_succ (ts : List Txt) {k : Nat} (hk : k < ts.length) : memN ts (k + 1) = putT (memN ts k) ts[k] := by
  unfold memN memT
  rw [List.take_succ_eq_append_getElem hk, List.foldl_append]
  rfl
theorem memN_all (ts : List Txt) {k : Nat} (hk : ts.length ≤ k) : memN ts k = memT ts := by
  unfold memN; rw [List.take_of_length_le hk]
/-- do the first k texts fit? -/
def fitN (at_ : Int) (ts : List Txt) (k : Nat) : Bool := decide (0 ≤ at_) && decide (at_ < 262144) && !(ts.take k).any badT
theorem fitN_succ (at_ : Int) (ts : List Txt) {k : Nat} (hk : k < ts.length) : fitN at_ ts (k + 1) = (fitN at_ ts k && !badT ts[k]) := by
  unfold fitN
  rw [List.take_succ_eq_append_getElem hk, List.any_append]
  simp [Bool.and_assoc]
theorem fit_all {at_ : Int} {ts : List Txt} {k : Nat} (hk : ts.length ≤ k) : (fitN at_ ts k = true ↔ ¬ (at_ < 0 ∨ 262144 ≤ at_ ∨ ts.any badT = true)) := by
  unfold fitN
  rw [List.take_of_length_le hk]
  simp only [Bool.and_eq_true, decide_eq_true_eq, Bool.not_eq_true', not_or, Bool.not_eq_true]
  constructor
  · rintro ⟨⟨h1, h2⟩, h3⟩
    exact ⟨by omega, by omega, h3⟩
  · rintro ⟨h1, h2, h3⟩
    exact ⟨⟨by omega, by omega⟩, h3⟩
/-- an outcome -/
def outV (r : Res) : Value := .agg #[.string (ofL r.1), .int .i64 r.2.1, .int .i64 r.2.2]
theorem runT_bad {ts : List Txt} {at_ : Int} {input : List Int} {steps : Int} (h : fitN at_ ts ts.length = false) : runT ts at_ input steps = ([], 2, 0) := by
  unfold runT
  rw [if_pos]
  exact Classical.byContradiction fun hn => by
    have := (fit_all (Nat.le_refl _)).2 hn
    rw [h] at this; cases this
theorem runT_limit {ts : List Txt} {at_ : Int} {input : List Int} {steps : Int} (h : fitN at_ ts ts.length = true) (hs : 100000000 < steps) : runT ts at_ input steps = ([], 6, 0) := by
  unfold runT
  rw [if_neg ((fit_all (Nat.le_refl _)).1 h), if_pos hs]
theorem runT_none {ts : List Txt} {at_ : Int} {input : List Int} {steps : Int} (h : fitN at_ ts ts.length = true) (hs : steps ≤ 0) : runT ts at_ input steps = ([], 13, 0) := by
  unfold runT
  rw [if_neg ((fit_all (Nat.le_refl _)).1 h), if_neg (by omega), show steps.toNat = 0 by omega]
  rfl
theorem runT_run {ts : List Txt} {at_ : Int} {input : List Int} {steps : Nat} (h : fitN at_ ts ts.length = true) (hs : ¬ (100000000 : Int) < (steps : Int)) : runT ts at_ input (steps : Int) = runM steps 0 (start ts at_ input) := by
  unfold runT
  rw [if_neg ((fit_all (Nat.le_refl _)).1 h), if_neg (by omega), Int.toNat_natCast]

def okN (ts : List Txt) (k : Nat) : Bool := !(ts.take k).any badT
theorem okN_zero (ts : List Txt) : okN ts 0 = true := by simp [okN]
theorem okN_succ (ts : List Txt) {k : Nat} (hk : k < ts.length) : okN ts (k + 1) = (okN ts k && !badT ts[k]) := by
  unfold okN
  rw [List.take_succ_eq_append_getElem hk, List.any_append]
  simp
theorem fitN_ok {at_ : Int} (h0 : 0 ≤ at_) (h1 : at_ < 262144) (ts : List Txt) (k : Nat) : fitN at_ ts k = okN ts k := by
  unfold fitN okN; simp [h0, h1]
theorem fitN_no {at_ : Int} (h : at_ < 0 ∨ 262144 ≤ at_) (ts : List Txt) (k : Nat) : fitN at_ ts k = false := by
  unfold fitN
  rcases h with h | h
  · rw [show decide (0 ≤ at_) = false from decide_eq_false (by omega)]; rfl
  · rw [show decide (at_ < 262144) = false from decide_eq_false (by omega)]; simp
theorem badT_neg {t : Txt} (h : t.1 < 0) : badT t = true := by unfold badT; simp [h]
theorem badT_far {t : Txt} (h : 262144 - (t.2.size : Int) < t.1) : badT t = true := by unfold badT; simp [h]
theorem badT_ok {t : Txt} (h : ¬ t.1 < 0) (h2 : t.1 ≤ 262144 - (t.2.size : Int)) : badT t = false := by unfold badT; simp; omega

end Mc
end Go.Proofs.YtfjjdogjihpbnaaDoor
