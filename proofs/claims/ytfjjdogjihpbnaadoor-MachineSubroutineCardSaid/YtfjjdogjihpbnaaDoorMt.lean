/- Straight-line code that keeps a number in one word of memory, in plain Lean: literals, and the program of MachineArithmetic. -/
import Derived.Test.YtfjjdogjihpbnaaDoorOc
import Derived.Lib.ItoaNum
namespace Go.Proofs.YtfjjdogjihpbnaaDoor
open Go.RowKit
set_option linter.unusedVariables false
namespace Mc

/-- the code l lies from p on -/
def LiesB (m : Nat → Int) (p : Int) (l : List UInt8) : Prop := 0 ≤ p ∧ p + l.length ≤ 900 ∧ ∀ j : Nat, j < l.length → m (p.toNat + j) = ((l.getD j 0).toNat : Int)
theorem LiesB.tail {m : Nat → Int} {p : Int} {x : UInt8} {l : List UInt8} (h : LiesB m p (x :: l)) : LiesB m (p + 1) l := by
  obtain ⟨h0, h1, h2⟩ := h
  refine ⟨by omega, by simp at h1; omega, fun j hj => ?_⟩
  rw [show (p + 1).toNat + j = p.toNat + (j + 1) by omega, h2 _ (by simp; omega)]
  simp
theorem LiesB.head {m : Nat → Int} {p : Int} {x : UInt8} {l : List UInt8} (h : LiesB m p (x :: l)) : m p.toNat = (x.toNat : Int) := by
  have := h.2.2 0 (by simp)
  simpa using this
theorem LiesB.put {m : Nat → Int} {p : Int} {l : List UInt8} (h : LiesB m p l) (a : Nat) (ha : 900 ≤ a) (v : Int) : LiesB (put m a v) p l :=
  ⟨h.1, h.2.1, fun j hj => by
    have h1 := h.2.1
    have h0 := h.1
    unfold Mc.put
    rw [if_neg (by omega)]
    exact h.2.2 j hj⟩
theorem LiesB.app {m : Nat → Int} {p : Int} {a b : List UInt8} (h : LiesB m p (a ++ b)) : LiesB m p a ∧ LiesB m (p + a.length) b := by
  obtain ⟨h0, h1, h2⟩ := h
  rw [List.length_append] at h1 h2
  refine ⟨⟨h0, by omega, fun j hj => ?_⟩, ⟨by omega, by omega, fun j hj => ?_⟩⟩
  · rw [h2 j (by omega)]
    simp [List.getD, List.getElem?_append_left hj]
  · rw [show (p + (a.length : Int)).toNat + j = p.toNat + (a.length + j) by omega, h2 _ (by omega)]
    rw [List.getD, List.getElem?_append_right (by omega), show a.length + j - a.length = j by omega]
    rfl
/-- what one instruction does: v stands in word A -/
def one (A : Int) (c : Int) (v : Int) (d : List Int) (o : List UInt8) (g : Bool) : Option (Int × List Int × List UInt8 × Bool) :=
  if c = 36 ∨ c = 63 ∨ c = 58 ∨ c = 59 ∨ c = 44 then none
  else if c = 64 then match d with
    | a :: r => if a = A then some (v, v :: r, o, false) else none
    | _ => none
  else if c = 33 then match d with
    | a :: x :: r => if a = A then some (x, r, o, false) else none
    | _ => none
  else (stp ⟨fun _ => 0, 0, d, [], [], o, g⟩ c).map fun u => (v, u.data, u.out, decide (isDig c))
theorem stp_local (c : Int) (h : ¬ (c = 36 ∨ c = 63 ∨ c = 58 ∨ c = 59 ∨ c = 44)) (h1 : ¬ c = 64) (h2 : ¬ c = 33) (m : Nat → Int) (p : Int) (d cs i : List Int) (o : List UInt8) (g : Bool) :
    nxt ⟨m, p, d, cs, i, o, g⟩ c = (stp ⟨fun _ => 0, 0, d, [], [], o, g⟩ c).map fun u => ⟨m, p + 1, u.data, cs, i, u.out, decide (isDig c)⟩ := by
  simp only [not_or] at h
  obtain ⟨h3, h4, h5, h6, h7⟩ := h
  unfold nxt stp
  by_cases k1 : isDig c
  · simp only [if_pos k1]
    unfold stDig
    cases g <;> cases d <;> simp only [show ∀ (m : Nat → Int) (p : Int) (d cs i : List Int) (o : List UInt8) (g : Bool) (v : Int), psh ⟨m, p, d, cs, i, o, g⟩ v = if d.length < 256 then some ⟨m, p, v :: d, cs, i, o, g⟩ else none from fun _ _ _ _ _ _ _ _ => rfl]
    · split <;> rfl
    · split <;> rfl
    · rfl
    · rfl
  · simp only [if_neg k1]
    by_cases k2 : c = 32 ∨ c = 10
    · simp only [if_pos k2]; rfl
    simp only [if_neg k2]
    by_cases k3 : isBin c
    · simp only [if_pos k3]
      unfold stBin
      match d with
      | [] => rfl
      | [x] => rfl
      | b :: a :: l =>
        simp only
        cases bin c a b <;> rfl
    simp only [if_neg k3, if_neg h1, if_neg h2, if_neg h4, if_neg h5, if_neg h6, if_neg h7]
    by_cases k5 : c = 46
    · simp only [if_pos k5]
      unfold stOut
      cases d <;> rfl
    · simp only [if_neg k5]
      rfl
theorem one_nxt {A : Nat} (hA : A < 262144) {c v : Int} {d : List Int} {o : List UInt8} {g : Bool} {v' : Int} {d' : List Int} {o' : List UInt8} {g' : Bool} (h : one A c v d o g = some (v', d', o', g')) {m : Nat → Int} (hm : m A = v) (p : Int) (cs i : List Int) :
    c ≠ 36 ∧ ∃ m', nxt ⟨m, p, d, cs, i, o, g⟩ c = some ⟨m', p + 1, d', cs, i, o', g'⟩ ∧ m' A = v' ∧ (m' = m ∨ ∃ x, m' = put m A x) := by
  unfold one at h
  split at h
  · cases h
  rename_i k0
  refine ⟨fun e => k0 (.inl e), ?_⟩
  split at h
  · rename_i k1
    subst k1
    split at h
    · rename_i a r
      split at h
      · rename_i ha
        subst ha
        injection h with h
        injection h with e1 h
        injection h with e2 h
        injection h with e3 e4
        subst e1 e2 e3 e4
        refine ⟨m, ?_, hm, .inl rfl⟩
        unfold nxt stp
        have n1 : ¬ isDig 64 := by decide
        have n2 : ¬ isBin 64 := by decide
        rw [if_neg n1, if_neg (by decide), if_neg n2, if_pos rfl]
        unfold stLoad
        simp only
        rw [if_neg (by omega)]
        simp only [Option.map_some, Int.toNat_natCast, hm]
        rfl
      · cases h
    · cases h
  rename_i k1
  split at h
  · rename_i k2
    subst k2
    split at h
    · rename_i a x r
      split at h
      · rename_i ha
        subst ha
        injection h with h
        injection h with e1 h
        injection h with e2 h
        injection h with e3 e4
        subst e1 e2 e3 e4
        refine ⟨put m A x, ?_, by simp [put], .inr ⟨_, rfl⟩⟩
        unfold nxt stp
        have n1 : ¬ isDig 33 := by decide
        have n2 : ¬ isBin 33 := by decide
        rw [if_neg n1, if_neg (by decide), if_neg n2, if_neg (by decide), if_pos rfl]
        unfold stStore
        simp only
        rw [if_neg (by omega)]
        simp only [Option.map_some, Int.toNat_natCast]
        rfl
      · cases h
    · cases h
  rename_i k2
  rw [stp_local c k0 k1 k2]
  cases hs : stp ⟨fun _ => 0, 0, d, [], [], o, g⟩ c with
  | none => rw [hs] at h; cases h
  | some u =>
    rw [hs] at h
    simp only [Option.map_some, Option.some.injEq, Prod.mk.injEq] at h
    obtain ⟨rfl, rfl, rfl, rfl⟩ := h
    exact ⟨m, rfl, hm, .inl rfl⟩
def sl (A : Int) : List UInt8 → Int → List Int → List UInt8 → Bool → Option (Int × List Int × List UInt8 × Bool)
  | [], v, d, o, g => some (v, d, o, g)
  | c :: l, v, d, o, g => match one A (c.toNat : Int) v d o g with
    | some (v', d', o', g') => sl A l v' d' o' g'
    | none => none
theorem sl_app (A : Int) : ∀ (a b : List UInt8) (v : Int) (d : List Int) (o : List UInt8) (g : Bool), sl A (a ++ b) v d o g = (sl A a v d o g).bind fun r => sl A b r.1 r.2.1 r.2.2.1 r.2.2.2
  | [], b, v, d, o, g => rfl
  | c :: a, b, v, d, o, g => by
    simp only [List.cons_append, sl]
    cases one A (c.toNat : Int) v d o g with
    | none => rfl
    | some r => exact sl_app A a b _ _ _ _
/-- straight-line code runs as sl says -/
theorem sl_run {A : Nat} (hA : A < 262144) (hA2 : 900 ≤ A) : ∀ (l : List UInt8) (v : Int) (d : List Int) (o : List UInt8) (g : Bool) {v' : Int} {d' : List Int} {o' : List UInt8} {g' : Bool}, sl A l v d o g = some (v', d', o', g') →
    ∀ (m : Nat → Int) (p : Int) (cs i : List Int) (k n : Nat), LiesB m p l → m A = v →
    ∃ m', runM (k + l.length) n ⟨m, p, d, cs, i, o, g⟩ = runM k (n + l.length) ⟨m', p + l.length, d', cs, i, o', g'⟩ ∧ m' A = v' ∧ (m' = m ∨ ∃ x, m' = put m A x)
  | [], v, d, o, g, v', d', o', g', h, m, p, cs, i, k, n, hl, hm => by
    simp only [sl, Option.some.injEq, Prod.mk.injEq] at h
    obtain ⟨rfl, rfl, rfl, rfl⟩ := h
    exact ⟨m, by simp, hm, .inl rfl⟩
  | c :: l, v, d, o, g, v', d', o', g', h, m, p, cs, i, k, n, hl, hm => by
    unfold sl at h
    cases h1 : one A (c.toNat : Int) v d o g with
    | none => rw [h1] at h; cases h
    | some r =>
      obtain ⟨v1, d1, o1, g1⟩ := r
      rw [h1] at h
      simp only at h
      obtain ⟨hc, m1, hn, hm1, hp⟩ := one_nxt hA h1 hm p cs i
      have hl1 : LiesB m1 (p + 1) l := by
        rcases hp with rfl | ⟨x, rfl⟩
        · exact hl.tail
        · exact hl.tail.put A hA2 x
      obtain ⟨m2, hr, hm2, hp2⟩ := sl_run hA hA2 l v1 d1 o1 g1 h m1 (p + 1) cs i k (n + 1) hl1 hm1
      refine ⟨m2, ?_, hm2, ?_⟩
      · rw [show k + (c :: l).length = k + l.length + 1 by simp; omega]
        have e1 := hl.head
        have hb := hl.2.1
        simp at hb
        rw [runM_next (s := ⟨m, p, d, cs, i, o, g⟩) (by simp; omega) (by simp only [e1]; exact hc) (by simp only [e1]; exact hn), hr]
        congr 1
        · simp; omega
        · congr 1; simp; omega
      · rcases hp with rfl | ⟨x, rfl⟩
        · exact hp2
        · rcases hp2 with rfl | ⟨y, rfl⟩
          · exact .inr ⟨x, rfl⟩
          · refine .inr ⟨y, ?_⟩
            funext j; unfold put; split <;> rfl
/-! numerals -/
theorem dec_small {n : Nat} (h : n < 10) : Lib.decDigits n = [UInt8.ofNat (48 + n)] := by rw [Lib.decDigits, dif_pos h]
theorem dec_big {n : Nat} (h : ¬ n < 10) : Lib.decDigits n = Lib.decDigits (n / 10) ++ [UInt8.ofNat (48 + n % 10)] := by rw [Lib.decDigits, dif_neg h]
theorem dec_len : ∀ (k n : Nat), 1 ≤ k → n < 10 ^ k → (Lib.decDigits n).length ≤ k
  | 0, n, h, _ => by omega
  | k + 1, n, _, h => by
    by_cases h10 : n < 10
    · rw [dec_small h10]; simp
    · rw [dec_big h10, List.length_append]
      have hk : 1 ≤ k := by
        rcases Nat.eq_zero_or_pos k with h0 | h0
        · subst h0; simp at h; omega
        · omega
      have := dec_len k (n / 10) hk (by rw [Nat.pow_succ] at h; omega)
      simp; omega
theorem dig_nat {x : Nat} (h : x < 10) : ((UInt8.ofNat (48 + x)).toNat : Int) = 48 + (x : Int) := by
  rw [UInt8.toNat_ofNat', Nat.mod_eq_of_lt (by omega)]; omega
theorem one_digit (A : Int) {x : Nat} (hx : x < 10) (v : Int) (d : List Int) (o : List UInt8) (g : Bool) :
    one A ((UInt8.ofNat (48 + x)).toNat : Int) v d o g = (stDig ⟨fun _ => 0, 0, d, [], [], o, g⟩ (48 + (x : Int))).map fun u => (v, u.data, u.out, true) := by
  rw [dig_nat hx]
  unfold one
  rw [if_neg (by omega), if_neg (by omega), if_neg (by omega)]
  unfold stp
  have hd : isDig (48 + (x : Int)) := by unfold isDig; omega
  rw [if_pos hd]
  simp only [hd, decide_true]
/-- the digits of n push n -/
theorem sl_dec (A v : Int) (d : List Int) (o : List UInt8) (hd : d.length < 256) (n : Nat) (hn : n < 4294967296) : sl A (Lib.decDigits n) v d o false = some (v, (n : Int) :: d, o, true) := by
  induction n using Nat.strongRecOn with
  | _ n ih =>
    by_cases h10 : n < 10
    · rw [dec_small h10]
      unfold sl
      rw [one_digit A h10]
      have e : stDig ⟨fun _ => 0, 0, d, [], [], o, false⟩ (48 + (n : Int)) = some ⟨fun _ => 0, 0, (48 + (n : Int) - 48) :: d, [], [], o, false⟩ := by
        unfold stDig psh
        cases d <;> simp only <;> rw [if_pos (by first | exact hd | simpa using hd)]
      rw [e]
      simp only [Option.map_some, sl]
      rw [show (48 : Int) + (n : Int) - 48 = (n : Int) by omega]
    · rw [dec_big h10, sl_app, ih (n / 10) (by omega) (by omega)]
      simp only [Option.bind_some]
      unfold sl
      rw [one_digit A (by omega)]
      have e : stDig ⟨fun _ => 0, 0, ((n / 10 : Nat) : Int) :: d, [], [], o, true⟩ (48 + ((n % 10 : Nat) : Int)) = some ⟨fun _ => 0, 0, u32 (u32 (u32 (((n / 10 : Nat) : Int) * 10) + (48 + ((n % 10 : Nat) : Int))) - 48) :: d, [], [], o, true⟩ := rfl
      rw [e]
      simp only [Option.map_some, sl]
      have : u32 (u32 (u32 (((n / 10 : Nat) : Int) * 10) + (48 + ((n % 10 : Nat) : Int))) - 48) = (n : Int) := by unfold u32; omega
      rw [this]

end Mc
end Go.Proofs.YtfjjdogjihpbnaaDoor
