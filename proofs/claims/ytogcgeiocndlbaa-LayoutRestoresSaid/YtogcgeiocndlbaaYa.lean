/- Even lists of blocks, shares, bit sets: the plain parts (also in the texts of chapter 15). -/
import Derived.Test.YtogcgeiocndlbaaLn
namespace Go.Proofs.Ytogcgeiocndlbaa
open Go.RowKit


/-- the least length of the first k strings, 40 at most -/
def evM (l : List ByteArray) : Nat → Nat
  | 0 => 40
  | k + 1 => min (evM l k) (l.getD k default).size
def evT (l : List ByteArray) : List ByteArray := l.take 8
def evN (l : List ByteArray) : Nat := evM (evT l) (evT l).length
def evn (l : List ByteArray) : List ByteArray := if l = [] then [ofL [97]] else (evT l).map fun s => s.extract 0 (evN l)
theorem evM_le (l : List ByteArray) : ∀ k, evM l k ≤ 40
  | 0 => Nat.le_refl _
  | k + 1 => Nat.le_trans (Nat.min_le_left _ _) (evM_le l k)
theorem evM_succ {l : List ByteArray} {k : Nat} (hk : k < l.length) : evM l (k + 1) = min (evM l k) l[k].size := by
  show min _ _ = _
  simp [List.getD, List.getElem?_eq_getElem hk]
theorem evM_size {l : List ByteArray} {j : Nat} (hj : j < l.length) : ∀ k, j < k → evM l k ≤ l[j].size
  | 0, h => absurd h (by omega)
  | k + 1, h => by
    rcases Nat.lt_or_eq_of_le (Nat.le_of_lt_succ h) with h1 | h1
    · exact Nat.le_trans (Nat.min_le_left _ _) (evM_size hj k h1)
    · subst h1; rw [evM_succ hj]; exact Nat.min_le_right _ _
theorem bl_extract (s : ByteArray) (n : Nat) : bl (s.extract 0 n) = (bl s).take n := by
  unfold bl
  simp [ByteArray.data_extract]
theorem size_extract' (s : ByteArray) {n : Nat} (h : n ≤ s.size) : (s.extract 0 n).size = n := by
  rw [← bl_length, bl_extract, List.length_take, bl_length]; omega
theorem evn_len (l : List ByteArray) : (evn l).length = if l = [] then 1 else min 8 l.length := by
  unfold evn evT
  split <;> simp
theorem evn_bound (l : List ByteArray) : 0 < (evn l).length ∧ (evn l).length ≤ 8 := by
  rw [evn_len]
  split
  · simp
  · rename_i h
    have := List.length_pos_iff.2 h
    omega
/-- the length of the blocks -/
def evL (l : List ByteArray) : Nat := if l = [] then 1 else evN l
theorem evn_size (l : List ByteArray) : ∀ s ∈ evn l, s.size = evL l := by
  unfold evn evL
  split
  · intro s hs; simp at hs; subst hs; rfl
  · intro s hs
    obtain ⟨t, ht, rfl⟩ := List.mem_map.1 hs
    obtain ⟨j, hj, rfl⟩ := List.mem_iff_getElem.1 ht
    exact size_extract' _ (evM_size hj _ hj)
theorem evL_le (l : List ByteArray) : evL l ≤ 40 := by
  unfold evL
  split
  · omega
  · exact evM_le _ _
theorem map_take_succ {α β : Type} {f : α → β} {l : List α} {k : Nat} (hk : k < l.length) : (l.take (k + 1)).map f = (l.take k).map f ++ [f l[k]] := by
  rw [List.take_succ_eq_append_getElem hk, List.map_append]; rfl



def xorL (a b : List UInt8) : List UInt8 := List.zipWith Gf.ga a b
theorem xorL_succ {a b : List UInt8} {k : Nat} (h : k < a.length) (h' : k < b.length) : (xorL a b).take (k + 1) = (xorL a b).take k ++ [Gf.ga a[k] b[k]] := by
  have hk : k < (xorL a b).length := by unfold xorL; rw [List.length_zipWith]; omega
  rw [List.take_succ_eq_append_getElem hk, show (xorL a b)[k] = Gf.ga a[k] b[k] from List.getElem_zipWith]

/-- what the model's tables say of a slice type t whose elements fill 'size' cells -/
structure ElTy (P : Program) (t e : TypeId) (z : Value) (size bytes : Nat) : Prop where
  ht : P.underlying t = some (.slice e)
  hi : ∃ i, P.info? e = some i ∧ i.zero = some z ∧ i.size = size ∧ i.bytes = bytes
  hz : z.cells.size = size
  hp : 0 < size
/-- append(s, y): one element of some cells, laid in a block of its own first -/
theorem wpl_pushN {P : Program} {t e : TypeId} {z : Value} {size bytes : Nat} (T : ElTy P t e z size bytes) {w : World} {ops : Array Oper} {rest : List Oper} {o : Oper} {a : Act} {Q : Exit → Act → World → Prop} (hgd : o.guard = none) (s x : Operand)
    (ho : o.op = .call { callee := .builtin .append, args := #[s, x], argTypes := #[t, t] })
    (base : Nat) (v : Value) (n : Nat) (xs : List Value) (hs : a.eval s = v) (hown : w.ownsRow base e size v n xs)
    (g : Nat) (ys : List Value) (hl : ys.length = size) (hx : a.eval x = .slice (some ⟨g, 0, none⟩) 1 1) (hblk : Blk w g e ys.toArray) (hy : ∀ y ∈ ys, y.oneCell' = true) (hbase : base ≤ w.heap.size) (h63 : n + 1 ≤ maxLen) (hbytes : (n + 1) * bytes ≤ 140737488355328)
    (h : ∀ v' w', w'.ownsRow base e size v' (n + 1) (xs ++ ys) → w.grownBy w' v.ownBlock → (v'.ownBlock = v.ownBlock ∨ v'.ownBlock = some w.heap.size) → wpList P ops Q rest (a.put o.dst v') w') : wpList P ops Q (o :: rest) a w := by
  obtain ⟨i, hi, hz, h1, hb⟩ := T.hi
  refine wpl_append_sl w hgd s x t ho base e i z size bytes T.ht hi hz h1 hb T.hz T.hp v n xs hs hown (some ⟨g, 0, none⟩) 1 1 ys hx ?_ hy h63 hbytes hbase h
  have := Blk.sl (size := size) (n := 1) hblk (by simp [hl]) (by unfold maxLen; omega)
  simpa using this
theorem info_shr : (Try.prog.info? 47).map (fun i => (i.zero, i.size, i.bytes)) = some (some (.agg #[.int .i64 0, .string ⟨#[]⟩]), 2, 24) := by kernel_rfl
theorem ty_shr : ElTy Try.prog 45 47 (.agg #[.int .i64 0, .string ⟨#[]⟩]) 2 24 := ⟨Try.underlying45, info_parts info_shr, rfl, by omega⟩
theorem shs_own {w : World} {base n : Nat} {e : TypeId} {v : Value} {hv : List (Int × ByteArray)} (h : w.ownsRow base e 2 v n (hv.flatMap shc)) : ∃ A c, v = .slice A n c ∧ Shs w A n c hv ∧ ∀ ad, A = some ad → base ≤ ad.block := own_form h
/-- all blocks as shares -/
def shA (a : List ByteArray) (o k : Nat) : List (Int × ByteArray) := (List.range k).map fun i => (((o + i : Nat) : Int), a.getD i default)
def shsL (a b : List ByteArray) : List (Int × ByteArray) := shA a 0 a.length ++ shA b a.length b.length
theorem shA_succ {a : List ByteArray} {o k : Nat} (h : k < a.length) : shA a o (k + 1) = shA a o k ++ [(((o + k : Nat) : Int), a[k])] := by
  simp [shA, List.range_succ, List.getD, List.getElem?_eq_getElem h]
theorem shA_len (a : List ByteArray) (o k : Nat) : (shA a o k).length = k := by simp [shA]
theorem flat_snoc (l : List (Int × ByteArray)) (x : Int × ByteArray) : (l ++ [x]).flatMap shc = l.flatMap shc ++ [.int .i64 x.1, .string x.2] := by
  rw [List.flatMap_append]; simp [shc]



theorem ofInt_u16 (a : Nat) (ha : a < 65536) : (BitVec.ofInt 16 (a : Int)).toNat = a := by
  rw [BitVec.ofInt_natCast, BitVec.toNat_ofNat]; exact Nat.mod_eq_of_lt (by omega)
theorem u16_and_nat (a b : Nat) (ha : a < 65536) (hb : b < 65536) : bits .and .u16 (a : Int) (b : Int) = ((a &&& b : Nat) : Int) := by
  have hx : a &&& b < 2 ^ 16 := Nat.and_lt_two_pow _ (by omega)
  show IntKind.u16.wrap ((BitVec.ofInt 16 (a : Int) &&& BitVec.ofInt 16 (b : Int)).toNat : Int) = _
  rw [BitVec.toNat_and, ofInt_u16 a ha, ofInt_u16 b hb, IntKind.wrap_u16]
  omega
theorem tst_bit16 {b : Nat} (hb : b < 65536) (i : Nat) : (bits .and .u16 ((b : Int) / 2 ^ i) 1 == 1) = b.testBit i := by
  have e : ((b : Int) / 2 ^ i) = ((b / 2 ^ i : Nat) : Int) := by rw [Int.natCast_ediv, Int.natCast_pow]; rfl
  have hl : b / 2 ^ i ≤ b := Nat.div_le_self _ _
  rw [e, show (1 : Int) = ((1 : Nat) : Int) from rfl, u16_and_nat _ _ (by omega) (by omega), nat_mask1, Nat.testBit_eq_decide_div_mod_eq, Bool.eq_iff_iff]
  simp; omega

/-- the shares that a bit set selects -/
def smL (l : List (Int × ByteArray)) (set : Nat) (k : Nat) : List (Int × ByteArray) := ((List.range k).filter fun i => set.testBit i).map fun i => l.getD i default
theorem smL_yes {l : List (Int × ByteArray)} {set k : Nat} (hk : k < l.length) (h : set.testBit k = true) : smL l set (k + 1) = smL l set k ++ [l[k]] := by
  simp [smL, List.range_succ, List.filter_append, h, List.getD, List.getElem?_eq_getElem hk]
theorem smL_no {l : List (Int × ByteArray)} {set k : Nat} (h : set.testBit k = false) : smL l set (k + 1) = smL l set k := by
  simp [smL, List.range_succ, List.filter_append, h]
theorem smL_len_le (l : List (Int × ByteArray)) (set k : Nat) : (smL l set k).length ≤ k := by
  unfold smL
  rw [List.length_map]
  exact Nat.le_trans (List.length_filter_le _ _) (by simp)

/-! stripes -/
def stD (l : List ByteArray) : List (List UInt8) := (evn l).map bl
theorem stD_len (l : List ByteArray) : (stD l).length = (evn l).length := by simp [stD]
theorem stD_even (l : List ByteArray) : Even (stD l) (evL l) := by
  have hb := evn_bound l
  refine ⟨by rw [stD_len]; omega, by rw [stD_len]; omega, fun j hj => ?_⟩
  rw [stD_len] at hj
  unfold stD
  rw [map_getD_bl _ _ hj, bl_length]
  exact evn_size l _ (by simp [List.getD, List.getElem?_eq_getElem hj])
/-- all blocks of the stripe, as shares -/
def stL (l : List ByteArray) (sp : Nat) : List (Int × ByteArray) := shsL (evn l) (sprs (evn l) sp)
theorem stL_len (l : List ByteArray) (sp : Nat) : (stL l sp).length = (evn l).length + sp := by
  unfold stL shsL
  rw [List.length_append, shA_len, shA_len, sprs_len]
theorem spr_shr (l : List ByteArray) (i : Nat) : spr (evn l) i = ofL (shr (stD l) ((evn l).length + i)) := by
  unfold spr shr
  rw [stD_len]
  rfl
theorem shA_at {a : List ByteArray} {o k j : Nat} (h : j < (shA a o k).length) : (shA a o k)[j] = (((o + j : Nat) : Int), a.getD j default) := by
  simp only [shA, List.getElem_map, List.getElem_range]
theorem stL_at (l : List ByteArray) {sp j : Nat} (hj : j < (stL l sp).length) : (stL l sp)[j] = ((j : Int), ofL (shr (stD l) j)) := by
  have hl := stL_len l sp
  have he := stD_even l
  have hj' : j < (evn l).length + sp := by rw [← hl]; exact hj
  unfold stL shsL at hj ⊢
  rw [List.getElem_append]
  split
  · rename_i h
    rw [shA_at]
    rw [shA_len] at h
    rw [Nat.zero_add, shr_data he (by rw [stD_len]; exact h)]
    unfold stD
    rw [map_getD_bl _ _ h, ofL_bl]
  · rename_i h
    rw [shA_at]
    rw [shA_len] at h ⊢
    have hj2 : j - (evn l).length < sp := by omega
    rw [show (evn l).length + (j - (evn l).length) = j by omega]
    congr 1
    simp only [sprs, List.getD, List.getElem?_map, List.getElem?_range hj2]
    simp only [Option.map_some, Option.getD_some]
    rw [spr_shr, show (evn l).length + (j - (evn l).length) = j by omega]
theorem stL_on (l : List ByteArray) {sp : Nat} (hsp : sp ≤ 7) : OnStripe (stD l) (stL l sp) := fun x hx => by
  obtain ⟨j, hj, rfl⟩ := List.mem_iff_getElem.1 hx
  have hl := stL_len l sp
  have hb := evn_bound l
  rw [stL_at l hj]
  exact ⟨j, by omega, rfl, bl_ofL _⟩
theorem unev_evn (l : List ByteArray) : (evn l).any (unev (evn l)) = false := any_false fun s hs => by
  unfold unev
  have h0 : (evn l).getD 0 default ∈ evn l := by
    have := (evn_bound l).1
    rw [List.getD, List.getElem?_eq_getElem this]
    exact List.getElem_mem this
  rw [evn_size l s hs, evn_size l _ h0]
  simp
theorem encE_evn (l : List ByteArray) {sp : Nat} (hsp : sp ≤ 7) : encE (evn l) (sp : Int) = 0 ∧ encB (evn l) (sp : Int) = sprs (evn l) sp := by
  have hb := evn_bound l
  have h1 : encE (evn l) (sp : Int) = 0 := by
    unfold encE
    rw [if_neg (by omega), unev_evn]
    rfl
  refine ⟨h1, ?_⟩
  unfold encB
  rw [if_pos h1, Int.toNat_natCast]

end Go.Proofs.Ytogcgeiocndlbaa
