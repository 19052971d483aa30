/- Reconcile: records, keys, sorted lists, ranges, insertion: plain laws. -/
import Derived.Test.YtnllocghmnhooaaDoorBase
namespace Go.Proofs.YtnllocghmnhooaaDoor
set_option linter.unusedVariables false
set_option linter.unusedSimpArgs false
namespace Rc
abbrev Bs := List UInt8

/-- a number in decimal digits, of a fixed width -/
def dgs : Nat → Nat → Bs
  | 0, _ => []
  | w + 1, n => dgs w (n / 10) ++ [UInt8.ofNat (48 + n % 10)]
theorem dgs_len : ∀ (w n : Nat), (dgs w n).length = w
  | 0, _ => rfl
  | w + 1, n => by simp [dgs, dgs_len w]
theorem dig_inj {a b : Nat} (ha : a < 10) (hb : b < 10) (h : UInt8.ofNat (48 + a) = UInt8.ofNat (48 + b)) : a = b := by
  have := congrArg UInt8.toNat h
  rw [UInt8.toNat_ofNat', UInt8.toNat_ofNat', Nat.mod_eq_of_lt (by omega), Nat.mod_eq_of_lt (by omega)] at this
  omega
theorem dgs_inj : ∀ (w n m : Nat), n < 10 ^ w → m < 10 ^ w → dgs w n = dgs w m → n = m
  | 0, n, m, hn, hm, _ => by simp at hn hm; omega
  | w + 1, n, m, hn, hm, h => by
    rw [Nat.pow_succ] at hn hm
    have h' := List.append_inj h (by rw [dgs_len, dgs_len])
    have e1 := dgs_inj w (n / 10) (m / 10) (by omega) (by omega) h'.1
    have e2 := dig_inj (Nat.mod_lt n (by omega)) (Nat.mod_lt m (by omega)) (by simpa using h'.2)
    omega

structure Rec where
  a : Nat
  s : Nat
  d : Bs
  deriving DecidableEq
def key (r : Rec) : Bs := dgs 10 r.a ++ 45 :: dgs 3 r.s
structure Val (r : Rec) : Prop where
  a : r.a < 4294967296
  s1 : 1 ≤ r.s
  s2 : r.s ≤ 255
  d : r.d.length = 32
theorem key_len (r : Rec) : (key r).length = 14 := by simp [key, dgs_len]
theorem key_ne (r : Rec) : key r ≠ [] := fun e => by have := key_len r; rw [e] at this; simp at this
theorem key_inj {r q : Rec} (hr : Val r) (hq : Val q) (h : key r = key q) : r.a = q.a ∧ r.s = q.s := by
  have h' := List.append_inj h (by rw [dgs_len, dgs_len])
  have h2 : dgs 3 r.s = dgs 3 q.s := by simpa using h'.2
  exact ⟨dgs_inj 10 _ _ (Nat.lt_of_lt_of_le hr.a (by decide)) (Nat.lt_of_lt_of_le hq.a (by decide)) h'.1, dgs_inj 3 _ _ (by have := hr.s2; omega) (by have := hq.s2; omega) h2⟩
theorem rec_eq {r q : Rec} (hr : Val r) (hq : Val q) (h : key r = key q) (hd : r.d = q.d) : r = q := by
  obtain ⟨h1, h2⟩ := key_inj hr hq h
  cases r; cases q; simp_all

/-! order -/
theorem kirr (x : Bs) : ¬ x < x := List.lt_irrefl x
theorem ktr {x y z : Bs} (h : x < y) (k : y < z) : x < z := List.lt_trans h k
theorem ktri {x y : Bs} (h : ¬ x < y) (k : ¬ y < x) : x = y := List.le_antisymm (List.not_lt.1 k) (List.not_lt.1 h)
theorem kasym {x y : Bs} (h : x < y) : ¬ y < x := fun k => kirr _ (ktr h k)
theorem kle {x y z : Bs} (h : x < y) (k : ¬ z < y) : x < z := by
  by_cases e : y < z
  · exact ktr h e
  · rwa [ktri e k] at h
theorem kle' {x y z : Bs} (h : ¬ y < x) (k : y < z) : x < z := by
  by_cases e : x < y
  · exact ktr e k
  · rwa [ktri e h]

def Srt (l : List Rec) : Prop := l.Pairwise fun x y => key x < key y
theorem Srt.nil_ : Srt [] := List.Pairwise.nil
theorem Srt.sub {l m : List Rec} (h : Srt m) (hs : l.Sublist m) : Srt l := h.sublist hs
theorem Srt.filter {l : List Rec} (h : Srt l) (p : Rec → Bool) : Srt (l.filter p) := h.sub List.filter_sublist
def has (l : List Rec) (k : Bs) : Bool := l.any fun x => key x == k
theorem has_iff {l : List Rec} {k : Bs} : has l k = true ↔ ∃ x ∈ l, key x = k := by simp [has]
theorem has_not {l : List Rec} {k : Bs} : has l k = false ↔ ∀ x ∈ l, key x ≠ k := by
  rw [← Bool.not_eq_true, has_iff]; exact ⟨fun h x hx e => h ⟨x, hx, e⟩, fun h ⟨x, hx, e⟩ => h x hx e⟩
theorem Srt.uniq {l : List Rec} (h : Srt l) {x y : Rec} (hx : x ∈ l) (hy : y ∈ l) (e : key x = key y) : x = y := by
  induction l with
  | nil => simp at hx
  | cons z l ih =>
    obtain ⟨h1, h2⟩ := List.pairwise_cons.1 h
    rcases List.mem_cons.1 hx with hx' | hx' <;> rcases List.mem_cons.1 hy with hy' | hy'
    · rw [hx', hy']
    · exact absurd (h1 y hy') (by rw [← hx', e]; exact kirr _)
    · exact absurd (h1 x hx') (by rw [← hy', e]; exact kirr _)
    · exact ih h2 hx' hy'

/-- how many keys are less than k -/
def idx (l : List Rec) (k : Bs) : Nat := l.countP fun x => decide (key x < k)
theorem idx_le (l : List Rec) (k : Bs) : idx l k ≤ l.length := List.countP_le_length
theorem idx_take {l : List Rec} (h : Srt l) (k : Bs) : l.take (idx l k) = l.filter fun x => decide (key x < k) := by
  induction l with
  | nil => simp
  | cons z l ih =>
    obtain ⟨h1, h2⟩ := List.pairwise_cons.1 h
    by_cases hz : key z < k
    · have : idx (z :: l) k = idx l k + 1 := by simp [idx, hz]
      rw [this, List.take_succ_cons, ih h2]; simp [hz]
    · have h0 : ∀ x ∈ l, ¬ key x < k := fun x hx e => hz (ktr (h1 x hx) e)
      have : idx (z :: l) k = 0 := by
        unfold idx
        rw [List.countP_eq_zero]
        intro x hx
        rcases List.mem_cons.1 hx with rfl | hx
        · simpa using hz
        · simpa using h0 x hx
      rw [this]
      symm
      rw [List.take_zero, List.filter_eq_nil_iff]
      intro x hx
      rcases List.mem_cons.1 hx with rfl | hx
      · simpa using hz
      · simpa using h0 x hx
theorem idx_drop {l : List Rec} (h : Srt l) (k : Bs) : l.drop (idx l k) = l.filter fun x => !decide (key x < k) := by
  induction l with
  | nil => simp
  | cons z l ih =>
    obtain ⟨h1, h2⟩ := List.pairwise_cons.1 h
    by_cases hz : key z < k
    · have : idx (z :: l) k = idx l k + 1 := by simp [idx, hz]
      rw [this, List.drop_succ_cons, ih h2]; simp [hz]
    · have h0 : ∀ x ∈ l, ¬ key x < k := fun x hx e => hz (ktr (h1 x hx) e)
      have : idx (z :: l) k = 0 := by
        unfold idx
        rw [List.countP_eq_zero]
        intro x hx
        rcases List.mem_cons.1 hx with rfl | hx
        · simpa using hz
        · simpa using h0 x hx
      rw [this]
      symm
      rw [List.drop_zero, List.filter_eq_self]
      intro x hx
      rcases List.mem_cons.1 hx with rfl | hx
      · simpa using hz
      · simpa using h0 x hx
/-- what lies at the places below, and from, the index -/
theorem idx_lo {l : List Rec} (h : Srt l) {k : Bs} {i : Nat} (hi : i < idx l k) : key (l[i]'(Nat.lt_of_lt_of_le hi (idx_le l k))) < k := by
  have hm : l[i]'(Nat.lt_of_lt_of_le hi (idx_le l k)) ∈ l.take (idx l k) := by
    rw [List.mem_take_iff_getElem]
    exact ⟨i, by have := idx_le l k; omega, rfl⟩
  rw [idx_take h] at hm
  simpa using (List.mem_filter.1 hm).2
theorem idx_hi {l : List Rec} (h : Srt l) {k : Bs} {i : Nat} (hi : idx l k ≤ i) (hl : i < l.length) : ¬ key l[i] < k := by
  have hm : l[i] ∈ l.drop (idx l k) := by
    rw [List.mem_drop_iff_getElem]
    exact ⟨i - idx l k, by omega, by congr 1; omega⟩
  rw [idx_drop h] at hm
  simpa using (List.mem_filter.1 hm).2

/-- insertion -/
def ins (r : Rec) (l : List Rec) : List Rec := l.take (idx l (key r)) ++ r :: l.drop (idx l (key r))
theorem ins_len (r : Rec) (l : List Rec) : (ins r l).length = l.length + 1 := by
  have := idx_le l (key r)
  simp [ins]; omega
theorem ins_sub (r : Rec) (l : List Rec) : l.Sublist (ins r l) := by
  have h : (l.take (idx l (key r)) ++ l.drop (idx l (key r))).Sublist (ins r l) := List.Sublist.append (List.Sublist.refl _) (List.sublist_cons_self _ _)
  rwa [List.take_append_drop] at h
theorem ins_mem {r x : Rec} {l : List Rec} : x ∈ ins r l ↔ x = r ∨ x ∈ l := by
  have h : x ∈ l ↔ x ∈ l.take (idx l (key r)) ∨ x ∈ l.drop (idx l (key r)) := by rw [← List.mem_append, List.take_append_drop]
  rw [h]
  simp only [ins, List.mem_append, List.mem_cons]
  constructor
  · rintro (h | h | h) <;> simp [h]
  · rintro (h | h | h) <;> simp [h]
theorem ins_srt {r : Rec} {l : List Rec} (h : Srt l) (hn : has l (key r) = false) : Srt (ins r l) := by
  unfold ins
  rw [idx_take h, idx_drop h]
  refine List.pairwise_append.2 ⟨h.filter _, List.pairwise_cons.2 ⟨fun x hx => ?_, h.filter _⟩, fun x hx y hy => ?_⟩
  · obtain ⟨h1, h2⟩ := List.mem_filter.1 hx
    have h3 : ¬ key x < key r := by simpa using h2
    by_cases e : key r < key x
    · exact e
    · exact absurd (ktri h3 e) (has_not.1 hn x h1)
  · have hx' : key x < key r := by simpa using (List.mem_filter.1 hx).2
    rcases List.mem_cons.1 hy with rfl | hy
    · exact hx'
    · exact kle hx' (by simpa using (List.mem_filter.1 hy).2)
theorem ins_val {r : Rec} {l : List Rec} (hr : Val r) (hl : ∀ x ∈ l, Val x) : ∀ x ∈ ins r l, Val x := fun x hx => by
  rcases ins_mem.1 hx with rfl | hx
  · exact hr
  · exact hl x hx
theorem ins_filter {r : Rec} {l : List Rec} {p : Rec → Bool} (hp : p r = false) : (ins r l).filter p = l.filter p := by
  unfold ins
  rw [List.filter_append, List.filter_cons, hp, if_neg (by simp), ← List.filter_append, List.take_append_drop]

/-- ranges of keys -/
def inR (f t k : Bs) : Bool := !decide (k < f) && (t == [] || decide (k < t))
theorem inR_iff {f t k : Bs} : inR f t k = true ↔ ¬ k < f ∧ (t = [] ∨ k < t) := by simp [inR]
def inn (l : List Rec) (f t : Bs) : List Rec := l.filter fun x => inR f t (key x)
theorem inn_all (l : List Rec) : inn l [] [] = l := by
  unfold inn
  rw [List.filter_eq_self]
  intro x _
  rw [inR_iff]
  exact ⟨by simp, Or.inl rfl⟩
theorem inn_mem {l : List Rec} {f t : Bs} {x : Rec} : x ∈ inn l f t ↔ x ∈ l ∧ inR f t (key x) = true := List.mem_filter
theorem inn_sub (l : List Rec) (f t : Bs) : (inn l f t).Sublist l := List.filter_sublist
theorem inn_len (l : List Rec) (f t : Bs) : (inn l f t).length ≤ l.length := (inn_sub l f t).length_le
/-- the slice of a sorted list that a range is -/
theorem inn_open {l : List Rec} (h : Srt l) (f : Bs) : l.drop (idx l f) = inn l f [] := by
  rw [idx_drop h]
  unfold inn
  congr 1
  funext x
  simp [inR]
theorem inn_slice {l : List Rec} (h : Srt l) (f : Bs) {t : Bs} (ht : t ≠ []) : (l.drop (idx l f)).take (max (idx l f) (idx l t) - idx l f) = inn l f t := by
  have ht' : (t == []) = false := by simpa using ht
  have e : (l.take (idx l t)).drop (idx l f) = inn l f t := by
    rw [idx_take h]
    have h2 := h.filter fun x => decide (key x < t)
    have e2 : idx l f = idx (l.filter fun x => decide (key x < t)) f ∨ idx (l.filter fun x => decide (key x < t)) f = (l.filter fun x => decide (key x < t)).length ∧ (l.filter fun x => decide (key x < t)).length ≤ idx l f := by
      unfold idx
      rw [List.countP_filter]
      by_cases hft : f < t
      · left
        refine List.countP_congr fun x _ => ?_
        simp only [Bool.and_eq_true, decide_eq_true_eq]
        exact ⟨fun k => ⟨k, ktr k hft⟩, fun k => k.1⟩
      · right
        have hc : l.countP (fun x => decide (key x < f) && decide (key x < t)) = l.countP fun x => decide (key x < t) := by
          refine List.countP_congr fun x _ => ?_
          simp only [Bool.and_eq_true, decide_eq_true_eq]
          exact ⟨fun k => k.2, fun k => ⟨kle k hft, k⟩⟩
        rw [← List.countP_eq_length_filter, hc]
        refine ⟨rfl, ?_⟩
        refine List.countP_mono_left fun x _ k => ?_
        simp only [decide_eq_true_eq] at k ⊢
        exact kle k hft
    have e3 : (l.filter fun x => decide (key x < t)).drop (idx l f) = (l.filter fun x => decide (key x < t)).drop (idx (l.filter fun x => decide (key x < t)) f) := by
      rcases e2 with e | ⟨e, k⟩
      · rw [e]
      · rw [e, List.drop_eq_nil_of_le k, List.drop_eq_nil_of_le (Nat.le_refl _)]
    rw [e3, idx_drop h2, List.filter_filter]
    unfold inn
    congr 1
    funext x
    simp [inR, ht']
  rw [← e, List.drop_take]
  congr 1
  omega
/-- a sorted list is told by its members -/
theorem srt_ext : ∀ {l m : List Rec}, Srt l → Srt m → (∀ x, x ∈ l ↔ x ∈ m) → l = m
  | [], [], _, _, _ => rfl
  | [], y :: m, _, _, h => absurd ((h y).2 (by simp)) (by simp)
  | x :: l, [], _, _, h => absurd ((h x).1 (by simp)) (by simp)
  | x :: l, y :: m, hl, hm, h => by
    obtain ⟨a1, a2⟩ := List.pairwise_cons.1 hl
    obtain ⟨b1, b2⟩ := List.pairwise_cons.1 hm
    have e : x = y := by
      rcases List.mem_cons.1 ((h x).1 (by simp)) with e | e
      · exact e
      · rcases List.mem_cons.1 ((h y).2 (by simp)) with e' | e'
        · exact e'.symm
        · exact absurd (b1 x e) (kasym (a1 y e'))
    subst e
    rw [srt_ext a2 b2 fun z => ?_]
    constructor
    · intro hz
      rcases List.mem_cons.1 ((h z).1 (List.mem_cons_of_mem _ hz)) with e | e
      · subst e; exact absurd (a1 _ hz) (kirr _)
      · exact e
    · intro hz
      rcases List.mem_cons.1 ((h z).2 (List.mem_cons_of_mem _ hz)) with e | e
      · subst e; exact absurd (b1 _ hz) (kirr _)
      · exact e
end Rc
end Go.Proofs.YtnllocghmnhooaaDoor
