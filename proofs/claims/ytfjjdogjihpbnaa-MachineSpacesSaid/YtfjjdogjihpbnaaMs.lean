/- Straight-line code: spaces and line feeds between its instructions change only the number of steps, in plain Lean. -/
import Derived.Test.YtfjjdogjihpbnaaOc
namespace Go.Proofs.Ytfjjdogjihpbnaa
open Go.RowKit
set_option linter.unusedVariables false
namespace Mc

def special (c : Int) : Prop := c = 64 ∨ c = 33 ∨ c = 63 ∨ c = 58 ∨ c = 59
instance (c : Int) : Decidable (special c) := by unfold special; exact inferInstance
theorem psh_eq (m : Nat → Int) (p : Int) (d cs i : List Int) (o : List UInt8) (g : Bool) (v : Int) : psh ⟨m, p, d, cs, i, o, g⟩ v = if d.length < 256 then some ⟨m, p, v :: d, cs, i, o, g⟩ else none := rfl
/-- an instruction that is no jump and does not touch the memory -/
theorem nxt_straight (c : Int) (h : ¬ special c) (d i : List Int) (o : List UInt8) (g : Bool) :
    ∃ r : Option (List Int × List Int × List UInt8), ∀ m p cs g', (isDig c → g' = g) → nxt ⟨m, p, d, cs, i, o, g'⟩ c = r.map fun x => ⟨m, p + 1, x.1, cs, x.2.1, x.2.2, decide (isDig c)⟩ := by
  unfold special at h
  simp only [not_or] at h
  obtain ⟨h1, h2, h3, h4, h5⟩ := h
  refine ⟨(stp ⟨fun _ => 0, 0, d, [], i, o, g⟩ c).map fun u => (u.data, u.input, u.out), fun m p cs g' hg => ?_⟩
  unfold nxt stp
  by_cases k1 : isDig c
  · rw [if_pos k1, if_pos k1, hg k1]
    unfold stDig
    cases g <;> cases d <;> simp only [psh_eq]
    · rfl
    · split <;> rfl
    · rfl
    · rfl
  · simp only [if_neg k1]
    by_cases k2 : c = 32 ∨ c = 10
    · simp only [if_pos k2]; rfl
    simp only [if_neg k2]
    by_cases k3 : isBin c
    · simp only [if_pos k3]
      unfold stBin
      match d with
      | [] => rfl
      | [x] => rfl
      | b :: a :: l =>
        simp only
        cases bin c a b <;> rfl
    simp only [if_neg k3, if_neg h1, if_neg h2, if_neg h3, if_neg h4, if_neg h5]
    by_cases k4 : c = 44
    · simp only [if_pos k4]
      unfold stRead
      cases i <;> simp only [psh_eq] <;> split <;> rfl
    simp only [if_neg k4]
    by_cases k5 : c = 46
    · simp only [if_pos k5]
      unfold stOut
      cases d <;> rfl
    · simp only [if_neg k5]
      rfl

/-- the code l lies from p on, zeros behind it -/
def Lies (m : Nat → Int) (p : Int) (l : List UInt8) : Prop := 0 ≤ p ∧ p + l.length < 262144 ∧ ∀ j : Nat, m (p.toNat + j) = ((l.getD j 0).toNat : Int)
theorem Lies.tail {m : Nat → Int} {p : Int} {x : UInt8} {l : List UInt8} (h : Lies m p (x :: l)) : Lies m (p + 1) l := by
  obtain ⟨h0, h1, h2⟩ := h
  refine ⟨by omega, by simp at h1; omega, fun j => ?_⟩
  rw [show (p + 1).toNat + j = p.toNat + (j + 1) by omega, h2]
  simp
theorem Lies.head {m : Nat → Int} {p : Int} {x : UInt8} {l : List UInt8} (h : Lies m p (x :: l)) : m p.toNat = (x.toNat : Int) := by
  have := h.2.2 0
  simpa using this
theorem Lies.done {m : Nat → Int} {p : Int} (h : Lies m p []) : m p.toNat = 0 := by
  have := h.2.2 0
  simpa using this
def isd (x : UInt8) : Bool := decide (isDig (x.toNat : Int))
def gap (x y : UInt8) : Bool := !(isd x && isd y)
/-- sep between neighbours that are not both digits -/
def wide (sep : List UInt8) : List UInt8 → List UInt8
  | [] => []
  | [x] => [x]
  | x :: y :: l => x :: ((if gap x y = true then sep else []) ++ wide sep (y :: l))
def Blank (sep : List UInt8) : Prop := ∀ x ∈ sep, (x.toNat : Int) = 32 ∨ (x.toNat : Int) = 10
/-- blanks are passed over -/
theorem blank_run : ∀ (sep : List UInt8) (hs : Blank sep) (l : List UInt8) (b n : Nat) (m : Nat → Int) (p : Int) (d cs i : List Int) (o : List UInt8) (g : Bool), Lies m p (sep ++ l) →
    ∃ g', runM (b + sep.length) n ⟨m, p, d, cs, i, o, g⟩ = runM b (n + sep.length) ⟨m, p + sep.length, d, cs, i, o, g'⟩ ∧ (sep = [] → g' = g) ∧ (sep ≠ [] → g' = false)
  | [], _, l, b, n, m, p, d, cs, i, o, g, _ => ⟨g, by simp, fun _ => rfl, fun h => absurd rfl h⟩
  | x :: sep, hs, l, b, n, m, p, d, cs, i, o, g, hl => by
    obtain ⟨g', h1, h2, h3⟩ := blank_run sep (fun y hy => hs y (by simp [hy])) l b (n + 1) m (p + 1) d cs i o false hl.tail
    have hh : m p.toNat = (x.toNat : Int) := Lies.head hl
    have hx : (x.toNat : Int) = 32 ∨ (x.toNat : Int) = 10 := hs x (by simp)
    have hdig : ¬ isDig (x.toNat : Int) := by unfold isDig; omega
    have hnx : nxt ⟨m, p, d, cs, i, o, g⟩ (m p.toNat) = some ⟨m, p + 1, d, cs, i, o, false⟩ := by
      rw [hh]
      unfold nxt stp
      rw [if_neg hdig, if_pos hx]
      simp [hdig]
    have hst : runM (b + (x :: sep).length) n ⟨m, p, d, cs, i, o, g⟩ = runM (b + sep.length) (n + 1) ⟨m, p + 1, d, cs, i, o, false⟩ := by
      rw [show b + (x :: sep).length = b + sep.length + 1 by simp; omega]
      refine runM_next (s := ⟨m, p, d, cs, i, o, g⟩) ?_ ?_ hnx
      · have := hl.2.1; simp at this ⊢; omega
      · show ¬ m p.toNat = 36
        rw [hh]; omega
    refine ⟨g', ?_, fun h => (by cases h), fun _ => ?_⟩
    · rw [hst, h1]
      congr 1
      · simp; omega
      · congr 1; simp; omega
    · by_cases he : sep = []
      · rw [h2 he]
      · exact h3 he

def Same (a b : Res) : Prop := a.1 = b.1 ∧ a.2.1 = b.2.1 ∧ a.2.2 ≤ b.2.2
/-- straight-line code and the same code with blanks in it -/
theorem wide_run {sep : List UInt8} (hs : Blank sep) : ∀ (l : List UInt8) (hl : ∀ x ∈ l, ¬ special (x.toNat : Int)) (a b n k : Nat) (m m' : Nat → Int) (p p' : Int) (d cs cs' i : List Int) (o : List UInt8) (g g' : Bool),
    Lies m p l → Lies m' p' (wide sep l) → l.length + 1 ≤ a → (wide sep l).length + 1 ≤ b → n ≤ k → (∀ x r, l = x :: r → isd x = true → g' = g) →
    Same (runM a n ⟨m, p, d, cs, i, o, g⟩) (runM b k ⟨m', p', d, cs', i, o, g'⟩)
  | [], _, a, b, n, k, m, m', p, p', d, cs, cs', i, o, g, g', h, h', ha, hb, hn, _ => by
    obtain ⟨a, rfl⟩ : ∃ a', a = a' + 1 := ⟨a - 1, by simp at ha; omega⟩
    obtain ⟨b, rfl⟩ : ∃ b', b = b' + 1 := ⟨b - 1, by simp [wide] at hb; omega⟩
    have e1 : m p.toNat = 0 := h.done
    have e2 : m' p'.toNat = 0 := Lies.done h'
    have f1 := h.2.1
    have f2 := h'.2.1
    simp [wide] at f1 f2
    rw [runM_trap (s := ⟨m, p, d, cs, i, o, g⟩) (by simp; omega) (by simp [e1]) (by simp only [e1]; rfl), runM_trap (s := ⟨m', p', d, cs', i, o, g'⟩) (by simp; omega) (by simp [e2]) (by simp only [e2]; rfl)]
    exact ⟨rfl, rfl, by simp; omega⟩
  | x :: l, hl, a, b, n, k, m, m', p, p', d, cs, cs', i, o, g, g', h, h', ha, hb, hn, hg => by
    obtain ⟨a, rfl⟩ : ∃ a', a = a' + 1 := ⟨a - 1, by simp at ha; omega⟩
    obtain ⟨t, ht⟩ : ∃ t, wide sep (x :: l) = x :: t := by cases l <;> exact ⟨_, rfl⟩
    rw [ht] at h' hb
    obtain ⟨b, rfl⟩ : ∃ b', b = b' + 1 := ⟨b - 1, by simp at hb; omega⟩
    have e1 := h.head
    have e2 := h'.head
    have f1 := h.2.1
    have f2 := h'.2.1
    simp at f1 f2
    by_cases h36 : (x.toNat : Int) = 36
    · rw [runM_halt (s := ⟨m, p, d, cs, i, o, g⟩) (by simp; omega) (by simp only [e1, h36]), runM_halt (s := ⟨m', p', d, cs', i, o, g'⟩) (by simp; omega) (by simp only [e2, h36])]
      exact ⟨rfl, rfl, by simp; omega⟩
    obtain ⟨r, hr⟩ := nxt_straight (x.toNat : Int) (hl x (by simp)) d i o g
    have n1 := hr m p cs g (fun _ => rfl)
    have n2 := hr m' p' cs' g' (fun hd => hg x l rfl (by unfold isd; simpa using hd))
    cases r with
    | none =>
      rw [runM_trap (s := ⟨m, p, d, cs, i, o, g⟩) (by simp; omega) (by simp only [e1]; exact h36) (by simp only [e1]; exact n1), runM_trap (s := ⟨m', p', d, cs', i, o, g'⟩) (by simp; omega) (by simp only [e2]; exact h36) (by simp only [e2]; exact n2)]
      exact ⟨rfl, rfl, by simp; omega⟩
    | some r =>
      obtain ⟨d1, i1, o1⟩ := r
      rw [runM_next (s := ⟨m, p, d, cs, i, o, g⟩) (by simp; omega) (by simp only [e1]; exact h36) (by simp only [e1]; exact n1), runM_next (s := ⟨m', p', d, cs', i, o, g'⟩) (by simp; omega) (by simp only [e2]; exact h36) (by simp only [e2]; exact n2)]
      have g1 := h.tail
      have g2 := h'.tail
      match l, ht with
      | [], ht =>
        have : t = [] := by simp [wide] at ht; exact ht
        subst this
        exact wide_run hs [] (fun y hy => by cases hy) a b (n + 1) (k + 1) m m' (p + 1) (p' + 1) d1 cs cs' i1 o1 _ _ g1 g2 (by simp at ha ⊢; omega) (by simp [wide] at hb ⊢; omega) (by omega) (fun y r h => by cases h)
      | y :: l, ht =>
        have ht' : t = (if gap x y = true then sep else []) ++ wide sep (y :: l) := by
          have := ht
          simp only [wide] at this
          injection this with _ h2
          exact h2.symm
        subst ht'
        obtain ⟨sp, hsp⟩ : ∃ sp, sp = (if gap x y = true then sep else []) := ⟨_, rfl⟩
        rw [← hsp] at g2 hb
        have hbl : Blank sp := by
          rw [hsp]
          split
          · exact hs
          · intro y hy; cases hy
        obtain ⟨b, rfl⟩ : ∃ b', b = b' + sp.length := ⟨b - sp.length, by simp at hb; omega⟩
        obtain ⟨g3, q1, q2, q3⟩ := blank_run sp hbl (wide sep (y :: l)) b (k + 1) m' (p' + 1) d1 cs' i1 o1 (decide (isDig (x.toNat : Int))) g2
        rw [q1]
        have g4 : Lies m' (p' + 1 + sp.length) (wide sep (y :: l)) := by
          clear hb q1 q2 q3 hbl hsp ht
          generalize p' + 1 = q at g2 ⊢
          induction sp generalizing q with
          | nil => simpa using g2
          | cons z sp ih =>
            have := ih (q + 1) g2.tail
            rw [show q + ((z :: sp).length : Int) = q + 1 + sp.length by simp; omega]
            exact this
        refine wide_run hs (y :: l) (fun z hz => hl z (List.mem_cons_of_mem _ hz)) a b (n + 1) (k + 1 + sp.length) m m' (p + 1) _ d1 cs cs' i1 o1 _ _ g1 g4 (by simp at ha ⊢; omega) (by simp at hb ⊢; omega) (by omega) (fun z r hz hd => ?_)
        injection hz with hz _
        subst hz
        by_cases he : sp = []
        · exact q2 he
        · rw [q3 he]
          cases hx : decide (isDig (x.toNat : Int)) with
          | false => rfl
          | true =>
            exfalso
            apply he
            rw [hsp, if_neg]
            unfold gap
            rw [hd, show isd x = true from hx]
            decide
/-! the program's way to the wide text -/
def piece (sep l : List UInt8) (i : Nat) : List UInt8 := l.getD i 0 :: (if i + 1 < l.length ∧ gap (l.getD i 0) (l.getD (i + 1) 0) = true then sep else [])
def wideN (sep l : List UInt8) (k : Nat) : List UInt8 := (List.range k).flatMap (piece sep l)
theorem wideN_succ (sep l : List UInt8) (k : Nat) : wideN sep l (k + 1) = wideN sep l k ++ piece sep l k := by
  unfold wideN; rw [List.range_succ, List.flatMap_append]; simp
theorem piece_succ (sep : List UInt8) (x : UInt8) (l : List UInt8) (i : Nat) : piece sep (x :: l) (i + 1) = piece sep l i := by
  unfold piece
  simp
theorem wideN_all (sep : List UInt8) : ∀ l : List UInt8, wideN sep l l.length = wide sep l
  | [] => rfl
  | [x] => by simp [wideN, piece, wide]
  | x :: y :: l => by
    have ih := wideN_all sep (y :: l)
    unfold wideN at ih ⊢
    rw [List.length_cons, List.range_succ_eq_map, List.flatMap_cons, List.flatMap_map]
    rw [show ((List.range (y :: l).length).flatMap fun a => piece sep (x :: y :: l) a.succ) = (List.range (y :: l).length).flatMap (piece sep (y :: l)) from by
      congr 1; funext i; exact piece_succ sep x (y :: l) i]
    rw [ih]
    simp [piece, wide]
theorem piece_len (sep l : List UInt8) (i : Nat) : (piece sep l i).length ≤ sep.length + 1 := by
  unfold piece
  split <;> simp
theorem wideN_len (sep l : List UInt8) (k : Nat) : (wideN sep l k).length ≤ k * (sep.length + 1) := by
  induction k with
  | zero => simp [wideN]
  | succ k ih => rw [wideN_succ, List.length_append]; have := piece_len sep l k; rw [Nat.succ_mul]; omega

theorem lies_start (c : ByteArray) (hc : c.size ≤ 1000) : Lies (memT [(0, c)]) 0 c.data.toList := by
  have hcl : c.data.toList.length = c.size := by simp
  refine ⟨by omega, by omega, fun j => ?_⟩
  show putT (fun _ => 0) (0, c) _ = _
  unfold putT
  simp only [Int.toNat_zero, Nat.zero_le, Nat.zero_add, true_and, Nat.sub_zero]
  by_cases h : j < c.size
  · rw [if_pos h]
    simp [Array.getD_eq_getD_getElem?]
  · rw [if_neg h]
    rw [List.getD, List.getElem?_eq_none (by omega)]
    rfl
theorem runT_one (c : ByteArray) (hc : c.size ≤ 1000) (input : List Int) : runT [(0, c)] 0 input 1000 = runM 1000 0 ⟨memT [(0, c)], 0, [], [], input, [], false⟩ := by
  have hb : badT (0, c) = false := by unfold badT; simp; omega
  unfold runT
  rw [if_neg (by simp [hb]), if_neg (by omega)]
  rfl
theorem spaces_run (sep : List UInt8) (hs : Blank sep) (hsl : sep.length ≤ 2) (c : ByteArray) (hc : c.size ≤ 200) (hl : ∀ x ∈ c.data.toList, ¬ special (x.toNat : Int)) (input : List Int) :
    Same (runT [(0, c)] 0 input 1000) (runT [(0, ofL (wide sep c.data.toList))] 0 input 1000) := by
  have hcl : c.data.toList.length = c.size := by simp
  have hw : (wide sep c.data.toList).length ≤ c.size * 3 := by
    rw [← wideN_all]
    have := wideN_len sep c.data.toList c.data.toList.length
    rw [hcl] at this ⊢
    exact Nat.le_trans this (Nat.mul_le_mul_left _ (by omega))
  have hws : (ofL (wide sep c.data.toList)).size = (wide sep c.data.toList).length := by
    show (wide sep c.data.toList).toArray.size = _
    simp
  have hlw : (ofL (wide sep c.data.toList)).data.toList = wide sep c.data.toList := by simp [ofL]
  rw [runT_one c (by omega), runT_one _ (by omega)]
  have l1 := lies_start c (by omega)
  have l2 := lies_start (ofL (wide sep c.data.toList)) (by omega)
  rw [hlw] at l2
  exact wide_run hs c.data.toList hl 1000 1000 0 0 _ _ 0 0 [] [] [] input [] false false l1 l2 (by omega) (by omega) (Nat.le_refl _) (fun _ _ _ _ => rfl)

end Mc
end Go.Proofs.Ytfjjdogjihpbnaa
