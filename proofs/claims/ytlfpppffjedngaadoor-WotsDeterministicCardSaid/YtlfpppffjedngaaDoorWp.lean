/- One-time signatures in plain Lean: chains over a hash of lists of strings. -/
import Derived.Lib.ItoaNum
namespace Go.Proofs.YtlfpppffjedngaaDoor
namespace Wt
abbrev Bs := List UInt8

/-- x after n steps of the function f -/
def chain (f : Bs → Bs) (x : Bs) : Nat → Bs
  | 0 => x
  | n + 1 => f (chain f x n)
theorem chain_add (f : Bs → Bs) (x : Bs) (a : Nat) : ∀ b, chain f (chain f x a) b = chain f x (a + b)
  | 0 => rfl
  | b + 1 => by
    show f (chain f (chain f x a) b) = f (chain f x (a + b))
    rw [chain_add f x a b]
/-- the 32 digits of 16 bytes -/
def nibs (h : Bs) : List Nat := h.flatMap fun b => [b.toNat / 16, b.toNat % 16]
def chk (l : List Nat) : Nat := l.foldl (fun s d => s + (15 - d)) 0
def sums (l : List Nat) : List Nat := [chk l / 256, chk l / 16 % 16, chk l % 16]
def digs (h : Bs) : List Nat := nibs h ++ sums (nibs h)
theorem nibs_len (h : Bs) : (nibs h).length = 2 * h.length := by
  induction h with
  | nil => rfl
  | cons b l ih =>
    show (([b.toNat / 16, b.toNat % 16] : List Nat) ++ nibs l).length = _
    rw [List.length_append, ih]
    simp; omega
theorem nibs_le (h : Bs) : ∀ d ∈ nibs h, d ≤ 15 := by
  intro d hd
  obtain ⟨b, _, hb⟩ := List.mem_flatMap.1 hd
  have := b.toNat_lt
  simp at hb
  omega
theorem chk_from (l : List Nat) : ∀ s, l.foldl (fun s d => s + (15 - d)) s = s + chk l := by
  induction l with
  | nil => intro s; rfl
  | cons d l ih =>
    intro s
    unfold chk
    simp only [List.foldl_cons]
    rw [ih, ih (0 + (15 - d))]
    omega
theorem chk_cons (d : Nat) (l : List Nat) : chk (d :: l) = (15 - d) + chk l := by
  show l.foldl _ (0 + (15 - d)) = _
  rw [chk_from]; omega
theorem chk_append (a b : List Nat) : chk (a ++ b) = chk a + chk b := by
  unfold chk
  rw [List.foldl_append, chk_from]; rfl
theorem chk_le (l : List Nat) : chk l ≤ 15 * l.length := by
  induction l with
  | nil => simp [chk]
  | cons d l ih => rw [chk_cons]; simp; omega
theorem digs_len {h : Bs} (hh : h.length = 16) : (digs h).length = 35 := by
  unfold digs sums
  rw [List.length_append, nibs_len, hh]; rfl
theorem digs_le {h : Bs} (hh : h.length = 16) : ∀ d ∈ digs h, d ≤ 15 := by
  intro d hd
  unfold digs at hd
  rcases List.mem_append.1 hd with hd | hd
  · exact nibs_le h d hd
  · have h1 := chk_le (nibs h)
    rw [nibs_len, hh] at h1
    unfold sums at hd
    simp at hd
    omega
theorem digs_get_le {h : Bs} (hh : h.length = 16) (i : Nat) : (digs h).getD i 0 ≤ 15 := by
  rcases Nat.lt_or_ge i (digs h).length with hi | hi
  · rw [List.getD_eq_getElem?_getD, List.getElem?_eq_getElem hi]
    exact digs_le hh _ (List.getElem_mem hi)
  · rw [List.getD_eq_getElem?_getD, List.getElem?_eq_none hi]
    simp
/-- of two lists of equal length, one below the other, the checksums tell whether they differ -/
theorem chk_mono : ∀ (x y : List Nat), x.length = y.length → (∀ d ∈ x, d ≤ 15) → (∀ d ∈ y, d ≤ 15) → (∀ i, x.getD i 0 ≤ y.getD i 0) → chk y ≤ chk x ∧ (chk x = chk y → x = y)
  | [], [], _, _, _, _ => ⟨Nat.le_refl _, fun _ => rfl⟩
  | a :: x, b :: y, hl, hx, hy, h => by
    have ih := chk_mono x y (by simpa using hl) (fun d hd => hx d (by simp [hd])) (fun d hd => hy d (by simp [hd])) (fun i => by simpa using h (i + 1))
    have h0 : a ≤ b := by simpa using h 0
    have ha := hx a (by simp)
    have hb := hy b (by simp)
    rw [chk_cons, chk_cons]
    refine ⟨by omega, fun e => ?_⟩
    have e1 : a = b := by omega
    have e2 := ih.2 (by omega)
    rw [e1, e2]
theorem getD_left {a b : List Nat} {i : Nat} (h : i < a.length) : (a ++ b).getD i 0 = a.getD i 0 := by
  rw [List.getD_eq_getElem?_getD, List.getElem?_append_left h, ← List.getD_eq_getElem?_getD]
theorem getD_right {a b : List Nat} {i : Nat} (h : a.length ≤ i) : (a ++ b).getD i 0 = b.getD (i - a.length) 0 := by
  rw [List.getD_eq_getElem?_getD, List.getElem?_append_right h, ← List.getD_eq_getElem?_getD]
theorem digs_mono {h k : Bs} (hh : h.length = 16) (hk : k.length = 16) (hle : ∀ i, (digs h).getD i 0 ≤ (digs k).getD i 0) : digs h = digs k := by
  have hl : (nibs h).length = 32 := by rw [nibs_len, hh]
  have kl : (nibs k).length = 32 := by rw [nibs_len, hk]
  have h1 := chk_mono (nibs h) (nibs k) (by omega) (nibs_le h) (nibs_le k) (fun i => by
    rcases Nat.lt_or_ge i 32 with hi | hi
    · have := hle i
      unfold digs at this
      rw [getD_left (by omega), getD_left (by omega)] at this
      exact this
    · rw [List.getD_eq_getElem?_getD, List.getElem?_eq_none (by omega)]
      simp)
  have h32 := hle 32
  have h33 := hle 33
  have h34 := hle 34
  unfold digs at h32 h33 h34
  rw [getD_right (by omega), getD_right (by omega), hl, kl] at h32 h33 h34
  simp [sums] at h32 h33 h34
  have e := h1.2 (by omega)
  unfold digs
  rw [e]
/-- the signature -/
def sgn (f : Bs → Bs) (sec : Nat → Bs) (d : List Nat) : Nat → Bs
  | 0 => []
  | n + 1 => sgn f sec d n ++ chain f (sec n) (d.getD n 0)
theorem sgn_len {f : Bs → Bs} {sec : Nat → Bs} {d : List Nat} (hf : ∀ x, (f x).length = 16) (hs : ∀ i, (sec i).length = 16) : ∀ n, (sgn f sec d n).length = 16 * n
  | 0 => rfl
  | n + 1 => by
    have h : (chain f (sec n) (d.getD n 0)).length = 16 := by
      cases d.getD n 0 with
      | zero => exact hs n
      | succ k => exact hf _
    show (sgn f sec d n ++ _).length = _
    rw [List.length_append, sgn_len hf hs n, h]; omega
theorem chain_len {f : Bs → Bs} (hf : ∀ x, (f x).length = 16) {x : Bs} (hx : x.length = 16) (n : Nat) : (chain f x n).length = 16 := by
  cases n with
  | zero => exact hx
  | succ k => exact hf _
/-- the piece of chain i -/
def piece (s : Bs) (i : Nat) : Bs := (s.drop (16 * i)).take 16
theorem sgn_piece {f : Bs → Bs} {sec : Nat → Bs} {d : List Nat} (hf : ∀ x, (f x).length = 16) (hs : ∀ i, (sec i).length = 16) : ∀ n i, i < n → piece (sgn f sec d n) i = chain f (sec i) (d.getD i 0)
  | 0, i, h => by omega
  | n + 1, i, h => by
    show piece (sgn f sec d n ++ _) i = _
    have hl := sgn_len (d := d) hf hs n
    unfold piece
    rcases Nat.lt_or_ge i n with hi | hi
    · rw [List.drop_append_of_le_length (by omega), List.take_append_of_le_length (by rw [List.length_drop]; omega)]
      exact sgn_piece hf hs n i hi
    · obtain rfl : i = n := by omega
      rw [List.drop_append, List.drop_eq_nil_of_le (by omega), hl, show 16 * i - 16 * i = 0 by omega, List.drop_zero, List.nil_append]
      exact List.take_of_length_le (by rw [chain_len hf (hs i)]; omega)
/-- the ends of the chains of a signature -/
def ends (f : Bs → Bs) (s : Bs) (d : List Nat) : Nat → List Bs
  | 0 => []
  | n + 1 => ends f s d n ++ [chain f (piece s n) (15 - d.getD n 0)]
def pubs (f : Bs → Bs) (sec : Nat → Bs) : Nat → List Bs
  | 0 => []
  | n + 1 => pubs f sec n ++ [chain f (sec n) 15]
theorem ends_len (f : Bs → Bs) (s : Bs) (d : List Nat) : ∀ n, (ends f s d n).length = n
  | 0 => rfl
  | n + 1 => by show (ends f s d n ++ [_]).length = _; rw [List.length_append, ends_len f s d n]; rfl
theorem pubs_len (f : Bs → Bs) (sec : Nat → Bs) : ∀ n, (pubs f sec n).length = n
  | 0 => rfl
  | n + 1 => by show (pubs f sec n ++ [_]).length = _; rw [List.length_append, pubs_len f sec n]; rfl
theorem ends_sgn {f : Bs → Bs} {sec : Nat → Bs} {d : List Nat} (hf : ∀ x, (f x).length = 16) (hs : ∀ i, (sec i).length = 16) (hd : ∀ i, d.getD i 0 ≤ 15) (m : Nat) : ∀ n, n ≤ m → ends f (sgn f sec d m) d n = pubs f sec n
  | 0, _ => rfl
  | n + 1, h => by
    show ends f (sgn f sec d m) d n ++ [_] = pubs f sec n ++ [_]
    rw [ends_sgn hf hs hd m n (by omega), sgn_piece hf hs m n (by omega), chain_add, show d.getD n 0 + (15 - d.getD n 0) = 15 by have := hd n; omega]

end Wt
end Go.Proofs.YtlfpppffjedngaaDoor
