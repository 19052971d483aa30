/- Words for memory: a slice that reads as a list of cells; a block that is known whole; an append whose source may be nil or empty; what a call that only makes memory leaves as it was. -/
import Derived.WalkKit
import Derived.WalkSpells
import Derived.WalkLawsBesides
import Derived.Lib.Hide
import Derived.Maps.AppendAt
import Derived.Deep.AppendLies
import Derived.Deep.Draws
import Derived.Laws.OwnMore
import Derived.Laws.CopyOwn
import Derived.Laws.Cover3
import Derived.Laws.BytesArg
namespace Go.Proofs.YtnllocghmnhooaaDoor
open Go.RowKit

theorem add_block (a : Addr) (n : Nat) : (a.add n).block = a.block := by unfold Addr.add; split <;> rfl
theorem add_plus (a : Addr) (i j : Nat) : (a.add i).add j = a.add (i + j) := by
  unfold Addr.add
  by_cases hi : i = 0 <;> by_cases hj : j = 0 <;> simp [hi, hj, Nat.add_assoc]
theorem add_own (g j : Nat) : (⟨g, 0, none⟩ : Addr).add j = ⟨g, j, none⟩ := by unfold Addr.add; split <;> simp_all

/-- the slice value '.slice A n c' holds the cells xs, 'size' of them to an element -/
def Sl (w : World) (size : Nat) (A : Option Addr) (n c : Nat) (xs : List Value) : Prop :=
  n ≤ c ∧ c ≤ maxLen ∧ xs.length = n * size ∧ (0 < n → ∃ ad, A = some ad ∧ ad.block < w.heap.size ∧ ∀ j u, xs[j]? = some u → w.cell? (ad.add j) = some u)

section
variable {w w' : World} {size n c : Nat} {A : Option Addr} {xs : List Value}
theorem Sl.nil_ (w : World) (size : Nat) : Sl w size none 0 0 [] := ⟨Nat.le_refl _, Nat.zero_le _, by simp, fun h => absurd h (by omega)⟩
theorem Sl.le_max (h : Sl w size A n c xs) : n ≤ maxLen := Nat.le_trans h.1 h.2.1
theorem Sl.keep (h : Sl w size A n c xs) (hs : w.heap.size ≤ w'.heap.size) (hk : ∀ k, k < w.heap.size → w'.heap[k]? = w.heap[k]?) : Sl w' size A n c xs :=
  ⟨h.1, h.2.1, h.2.2.1, fun hn => by
    obtain ⟨ad, e, hb, hc⟩ := h.2.2.2 hn
    exact ⟨ad, e, by omega, fun j u hu => (World.cell?_of_block (hk _ (by rw [add_block]; exact hb))).trans (hc j u hu)⟩⟩
theorem Sl.below (h : Sl w size A n c xs) (hb : Below w.heap.size w w') : Sl w' size A n c xs := h.keep hb.size hb.block
theorem Sl.drew (h : Sl w size A n c xs) : Sl w.drew size A n c xs := h
theorem Sl.drewN (h : Sl w size A n c xs) (k : Nat) : Sl (w.drewN k) size A n c xs := h
theorem Sl.alloc (h : Sl w size A n c xs) (o : Obj) : Sl (w.alloc o) size A n c xs := h.keep (by simp) (fun k hk => Below.heap_alloc w o k hk)
/-- a cell of a slice of one-cell elements -/
theorem Sl.at_ (h : Sl w 1 A n c xs) {k : Nat} (hk : k < n) : ∃ ad u, A = some ad ∧ ad.block < w.heap.size ∧ xs[k]? = some u ∧ w.cell? (ad.add k) = some u := by
  obtain ⟨ad, e, hb, hc⟩ := h.2.2.2 (by omega)
  have hl : k < xs.length := by have := h.2.2.1; omega
  exact ⟨ad, xs[k], e, hb, List.getElem?_eq_getElem hl, hc k _ (List.getElem?_eq_getElem hl)⟩
/-- only block g has turned, and the slice does not lie there -/
theorem Sl.grown (h : Sl w size A n c xs) {row : Option Nat} (hg : w.grownBy w' row) (hne : ∀ ad g, A = some ad → row = some g → ad.block ≠ g) : Sl w' size A n c xs :=
  ⟨h.1, h.2.1, h.2.2.1, fun hn => by
    obtain ⟨ad, e, hb, hc⟩ := h.2.2.2 hn
    exact ⟨ad, e, Nat.lt_of_lt_of_le hb hg.size, fun j u hu => (World.cell?_of_block (hg.block _ (by rw [add_block]; exact hb) (fun er => by
      rw [add_block] at er; exact hne ad _ e er.symm rfl))).trans (hc j u hu)⟩⟩
theorem Sl.own {base : Nat} {e : TypeId} {c : Nat} (h : w.ownsRow base e size (.slice A n c) n xs) (hc : n ≤ c ∧ c ≤ maxLen) : Sl w size A n c xs := by
  refine ⟨hc.1, hc.2, h.1, fun hn => ?_⟩
  obtain ⟨g, cap, hv, _, hlt⟩ := h.form hn
  have hA : A = some ⟨g, 0, none⟩ := by injection hv
  subst hA
  exact ⟨_, rfl, hlt, h.cells (g := g) rfl⟩
/-- what the call owns, as a slice that reads -/
theorem own_form {base : Nat} {e : TypeId} {v : Value} (h : w.ownsRow base e size v n xs) : ∃ A c, v = .slice A n c ∧ Sl w size A n c xs ∧ ∀ ad, A = some ad → base ≤ ad.block := by
  rcases h.2 with ⟨rfl, rfl⟩ | ⟨g, cap, cur, rfl, hb, hg, hnc, hcm, _⟩
  · refine ⟨none, 0, rfl, ?_, fun ad h => by cases h⟩
    have : xs = [] := List.eq_nil_of_length_eq_zero (by simpa using h.1)
    subst this
    exact Sl.nil_ w size
  · exact ⟨some ⟨g, 0, none⟩, cap, rfl, Sl.own h ⟨hnc, hcm⟩, fun ad h => by cases h; exact hb⟩
/-- the first k elements -/
theorem Sl.take (h : Sl w size A n c xs) {k : Nat} (hk : k ≤ n) : Sl w size A k c (xs.take (k * size)) := by
  refine ⟨by have := h.1; omega, h.2.1, ?_, fun h0 => ?_⟩
  · rw [List.length_take, h.2.2.1]; exact Nat.min_eq_left (Nat.mul_le_mul_right _ hk)
  · obtain ⟨ad, e, hb, hc⟩ := h.2.2.2 (by omega)
    refine ⟨ad, e, hb, fun j u hu => hc j u ?_⟩
    rw [List.getElem?_take] at hu
    split at hu
    · exact hu
    · cases hu
/-- the elements from k on, as the model cuts them -/
theorem Sl.drop (h : Sl w size A n c xs) {k : Nat} (hk : k ≤ n) : Sl w size (if c = k then A else A.map (·.add (k * size))) (n - k) (c - k) (xs.drop (k * size)) := by
  refine ⟨by have := h.1; omega, by have := h.2.1; omega, by rw [List.length_drop, h.2.2.1, Nat.sub_mul], fun hn => ?_⟩
  obtain ⟨ad, rfl, hb, hcell⟩ := h.2.2.2 (by omega)
  have := h.1
  rw [if_neg (by omega)]
  refine ⟨ad.add (k * size), rfl, by rw [add_block]; exact hb, fun j u hu => ?_⟩
  rw [add_plus]
  exact hcell _ u (by rw [← hu, List.getElem?_drop])
end

/-- block g is just the cells cs of element type t, none of them frozen -/
def Blk (w : World) (g : Nat) (t : TypeId) (cs : Array Value) : Prop := w.heap[g]? = some (.cells cs t (0, 0))
section
variable {w w' : World} {g : Nat} {t : TypeId} {cs : Array Value}
theorem Blk.lt (h : Blk w g t cs) : g < w.heap.size := (Array.getElem?_eq_some_iff.1 h).1
theorem Blk.cell (h : Blk w g t cs) (i : Nat) : w.cell? ⟨g, i, none⟩ = cs[i]? := cell_of_row w g i cs t (0, 0) h
theorem Blk.frozen (h : Blk w g t cs) (i : Nat) : w.frozen? ⟨g, i, none⟩ = false := by
  unfold Blk at h
  simp [World.frozen?, h]
theorem Blk.new (w : World) (t : TypeId) (cs : Array Value) : Blk (w.alloc (.cells cs t)) w.heap.size t cs := heap_alloc_new w _
theorem Blk.drew (h : Blk w g t cs) : Blk w.drew g t cs := h
theorem Blk.drewN (h : Blk w g t cs) (n : Nat) : Blk (w.drewN n) g t cs := h
theorem Blk.alloc (h : Blk w g t cs) (o : Obj) : Blk (w.alloc o) g t cs := (Below.heap_alloc w o g h.lt).trans h
theorem Blk.set_ (h : Blk w g t cs) (i : Nat) (u : Value) : Blk (w.setCell ⟨g, i, none⟩ u) g t (cs.setIfInBounds i u) := by
  unfold Blk at h ⊢
  simp [World.setCell, Array.getElem?_modify, h]
theorem Blk.far (h : Blk w g t cs) {p : Addr} (hp : g ≠ p.block) (u : Value) : Blk (w.setCell p u) g t cs := (Below.heap_setCell w p u g hp).trans h
theorem Blk.below (h : Blk w g t cs) (hb : Below w.heap.size w w') : Blk w' g t cs := (hb.block g h.lt).trans h
theorem Blk.grown (h : Blk w g t cs) {row : Option Nat} (hb : w.grownBy w' row) (hg : some g ≠ row) : Blk w' g t cs := (hb.block g h.lt hg).trans h
theorem Blk.sl {size n : Nat} (h : Blk w g t cs) (hs : cs.size = n * size) (hn : n ≤ maxLen) : Sl w size (some ⟨g, 0, none⟩) n n cs.toList :=
  ⟨Nat.le_refl _, hn, by simpa using hs, fun _ => ⟨_, rfl, h.lt, fun j u hu => by rw [add_own, h.cell]; simpa using hu⟩⟩
theorem Blk.own {size n base : Nat} (h : Blk w g t cs) (hb : base ≤ g) (hs : cs.size = n * size) (hn : n ≤ maxLen) : w.ownsRow base t size (.slice (some ⟨g, 0, none⟩) n n) n cs.toList :=
  ⟨by simpa using hs, .inr ⟨g, n, cs, rfl, hb, h, Nat.le_refl _, hn, hs, List.take_of_length_le (by rw [Array.length_toList, hs]; exact Nat.le_refl _)⟩⟩
end

theorem below_drewN {B : Nat} {a w : World} (h : Below B a w) (n : Nat) : Below B a (w.drewN n) := ⟨h.os, h.tape, h.output, h.size, h.block⟩

/-- only draws lie between two worlds -/
def Dr (w w' : World) : Prop := ∃ d, w' = w.drewN d
theorem Dr.refl (w : World) : Dr w w := ⟨0, rfl⟩
theorem Dr.trans {a b c : World} (h : Dr a b) (k : Dr b c) : Dr a c := by
  obtain ⟨d, rfl⟩ := h
  obtain ⟨e, rfl⟩ := k
  exact ⟨d + e, World.drewN_drewN _ _ _⟩
theorem Dr.drewN {a b : World} (h : Dr a b) (n : Nat) : Dr a (b.drewN n) := h.trans ⟨n, rfl⟩
theorem Dr.drew {a b : World} (h : Dr a b) : Dr a b.drew := h.trans ⟨1, rfl⟩
theorem Dr.heap {a b : World} (h : Dr a b) : b.heap = a.heap := by obtain ⟨d, rfl⟩ := h; rfl
theorem Dr.below {a b : World} (h : Dr a b) (B : Nat) : Below B a b := by obtain ⟨d, rfl⟩ := h; exact below_drewN (Below.refl _ _) d
theorem Dr.sl {w w' : World} (h : Dr w w') {size n c : Nat} {A : Option Addr} {xs : List Value} (k : Sl w size A n c xs) : Sl w' size A n c xs := by obtain ⟨d, rfl⟩ := h; exact k

section
variable {P : Program} (w : World)
theorem run_append_nilsrc (base : Nat) (t ty e : TypeId) (i : TypeInfo) (size : Nat) (ht : P.underlying t = some (.slice e)) (hi : P.info? e = some i)
    (v : Value) (n : Nat) (xs : List Value) (hown : w.ownsRow base e size v n xs) (c : Nat) : (Builtin.append_ #[t, t] ty #[v, .slice none 0 c]).run P w = .ok v w := by
  rcases hown.2 with ⟨rfl, rfl⟩ | ⟨g, cap, cur, rfl, _, _, hnc, _⟩
  · simp [Builtin.append_, run_underlying ht, sizeOf, typeInfo, hi, Builtin.lenOf, Builtin.firstCells]
  · simp [Builtin.append_, run_underlying ht, sizeOf, typeInfo, hi, Builtin.lenOf, Builtin.firstCells, hnc, storeCells]

/-- append onto a row of the call's own, from a slice that reads, nil and empty let in -/
theorem run_append_sl (base : Nat) (t ty e : TypeId) (i : TypeInfo) (z : Value) (size bytes : Nat) (ht : P.underlying t = some (.slice e)) (hi : P.info? e = some i) (hz : i.zero = some z)
    (hsize : i.size = size) (hby : i.bytes = bytes) (hzs : z.cells.size = size) (hsz : 0 < size)
    (v : Value) (n : Nat) (xs : List Value) (hown : w.ownsRow base e size v n xs)
    (A : Option Addr) (m c : Nat) (news : List Value) (hr : Sl w size A m c news) (h1 : ∀ u ∈ news, u.oneCell' = true)
    (h63 : n + m ≤ maxLen) (hbytes : (n + m) * bytes ≤ 140737488355328) (hbase : base ≤ w.heap.size) :
    ∃ v' w', (Builtin.append_ #[t, t] ty #[v, .slice A m c]).run P w = .ok v' w' ∧ w'.ownsRow base e size v' (n + m) (xs ++ news) ∧ w.grownBy w' v.ownBlock ∧
      (v'.ownBlock = v.ownBlock ∨ v'.ownBlock = some w.heap.size) := by
  rcases A with _ | ad
  · have hm : m = 0 := by
      rcases Nat.eq_zero_or_pos m with h0 | h0
      · exact h0
      · obtain ⟨ad, h, _⟩ := hr.2.2.2 h0
        cases h
    subst hm
    have hn : news = [] := List.eq_nil_of_length_eq_zero (by simpa using hr.2.2.1)
    subst hn
    exact ⟨v, w, run_append_nilsrc w base t ty e i size ht hi v n xs hown c, by simpa using hown, World.grownBy.refl w _, .inl rfl⟩
  · have hcells : ∀ j u, news[j]? = some u → w.cell? (ad.add j) = some u := by
      intro j u hu
      rcases Nat.eq_zero_or_pos m with h0 | h0
      · subst h0
        have hn : news = [] := List.eq_nil_of_length_eq_zero (by simpa using hr.2.2.1)
        subst hn
        simp at hu
      · obtain ⟨ad', h, _, hc⟩ := hr.2.2.2 h0
        injection h with h
        subst h
        exact hc j u hu
    obtain ⟨v', w', hrun, h2, h3, _, h5⟩ := run_append_own_at (P := P) w base t ty e i z size bytes ht hi hz hsize hby hzs hsz v n xs hown ad m c news hr.2.2.1 hcells h1 h63 hbytes hbase
    exact ⟨v', w', hrun, h2, h3, h5⟩

theorem wpl_append_sl {ops : Array Oper} {rest : List Oper} {o : Oper} {a : Act} {Q : Exit → Act → World → Prop} (hgd : o.guard = none) (s x : Operand) (t : TypeId)
    (ho : o.op = .call { callee := .builtin .append, args := #[s, x], argTypes := #[t, t] })
    (base : Nat) (e : TypeId) (i : TypeInfo) (z : Value) (size bytes : Nat) (ht : P.underlying t = some (.slice e)) (hi : P.info? e = some i) (hz : i.zero = some z)
    (hsize : i.size = size) (hby : i.bytes = bytes) (hzs : z.cells.size = size) (hsz : 0 < size)
    (v : Value) (n : Nat) (xs : List Value) (hs : a.eval s = v) (hown : w.ownsRow base e size v n xs)
    (A : Option Addr) (m c : Nat) (news : List Value) (hx : a.eval x = .slice A m c) (hr : Sl w size A m c news) (h1 : ∀ u ∈ news, u.oneCell' = true)
    (h63 : n + m ≤ maxLen) (hbytes : (n + m) * bytes ≤ 140737488355328) (hbase : base ≤ w.heap.size)
    (h : ∀ v' w', w'.ownsRow base e size v' (n + m) (xs ++ news) → w.grownBy w' v.ownBlock → (v'.ownBlock = v.ownBlock ∨ v'.ownBlock = some w.heap.size) → wpList P ops Q rest (a.put o.dst v') w') : wpList P ops Q (o :: rest) a w := by
  refine wpList_plain hgd fun K hK => ?_
  obtain ⟨v', w', hrun, h2, h3, h4⟩ := run_append_sl (P := P) w base t o.type e i z size bytes ht hi hz hsize hby hzs hsz v n xs hown A m c news hr h1 h63 hbytes hbase
  unfold Oper.wp execOp
  simp only [ho, resolve, invoke, builtin, Sem.run_bind, Sem.run_pure, Result.andThen_ok, List.map_toArray, List.map_cons, List.map_nil, hs, hx, hrun]
  exact hK _ _ (h v' w' h2 h3 h4)

/-- make([]T, n): the new block written out -/
theorem run_make_blk (t e : TypeId) (i : TypeInfo) (z : Value) (ht : P.underlying t = some (.slice e)) (hi : P.info? e = some i) (hz : i.zero = some z)
    (kl kc : IntKind) (n : Nat) (hbytes : i.bytes * n ≤ 281474976710656) (h63 : n ≤ 9223372036854775807) :
    (Instr.makeSlice t (.int kl (n : Int)) (.int kc (n : Int))).run P w = .ok (.slice (some ⟨w.heap.size, 0, none⟩) n n) (w.alloc (.cells (madeCells z.cells (n * i.size)) e)) := by
  have hb : (i.bytes : Int) * (n : Int) ≤ 281474976710656 := by
    have h : ((i.bytes * n : Nat) : Int) ≤ 281474976710656 := by omega
    rwa [Int.natCast_mul] at h
  have hr := run_make (P := P) w t e i z ht hi hz kl kc n n (by omega) (Int.le_refl _) hb (by omega)
  simpa only [Int.toNat_natCast] using hr
end

/-- what the model's tables say of a slice type t whose elements fill one cell -/
structure OneTy (P : Program) (t e : TypeId) (z : Value) (bytes : Nat) : Prop where
  ht : P.underlying t = some (.slice e)
  hi : ∃ i, P.info? e = some i ∧ i.zero = some z ∧ i.size = 1 ∧ i.bytes = bytes
  hz : z.cells.size = 1

/-- append(s, y): one element, laid in a block of its own first -/
theorem wpl_push {P : Program} {t e : TypeId} {z : Value} {bytes : Nat} (T : OneTy P t e z bytes) {w : World} {ops : Array Oper} {rest : List Oper} {o : Oper} {a : Act} {Q : Exit → Act → World → Prop} (hgd : o.guard = none) (s x : Operand)
    (ho : o.op = .call { callee := .builtin .append, args := #[s, x], argTypes := #[t, t] })
    (base : Nat) (v : Value) (n : Nat) (xs : List Value) (hs : a.eval s = v) (hown : w.ownsRow base e 1 v n xs)
    (g : Nat) (y : Value) (hx : a.eval x = .slice (some ⟨g, 0, none⟩) 1 1) (hblk : Blk w g e #[y]) (hy : y.oneCell' = true) (hbase : base ≤ w.heap.size) (h63 : n + 1 ≤ maxLen) (hbytes : (n + 1) * bytes ≤ 140737488355328)
    (h : ∀ v' w', w'.ownsRow base e 1 v' (n + 1) (xs ++ [y]) → w.grownBy w' v.ownBlock → (v'.ownBlock = v.ownBlock ∨ v'.ownBlock = some w.heap.size) → wpList P ops Q rest (a.put o.dst v') w') : wpList P ops Q (o :: rest) a w := by
  obtain ⟨i, hi, hz, h1, hb⟩ := T.hi
  exact wpl_append_sl w hgd s x t ho base e i z 1 bytes T.ht hi hz h1 hb T.hz (by omega) v n xs hs hown (some ⟨g, 0, none⟩) 1 1 [y] hx (Blk.sl (n := 1) hblk rfl (by unfold maxLen; omega)) (by simpa using hy) h63 hbytes hbase h

theorem own_mono {w : World} {b b' : Nat} {e : TypeId} {size : Nat} {v : Value} {n : Nat} {xs : List Value} (h : w.ownsRow b e size v n xs) (hb : b' ≤ b) : w.ownsRow b' e size v n xs := by
  refine ⟨h.1, ?_⟩
  rcases h.2 with h2 | ⟨g, cap, cur, hv, hg, r⟩
  · exact .inl h2
  · exact .inr ⟨g, cap, cur, hv, by omega, r⟩
theorem own_below {w w' : World} {b : Nat} {e : TypeId} {size : Nat} {v : Value} {n : Nat} {xs : List Value} (h : w.ownsRow b e size v n xs) (hb : Below w.heap.size w w') : w'.ownsRow b e size v n xs :=
  h.kept (row := none) ⟨hb.os, hb.tape, hb.output, hb.size, fun k hk _ => hb.block k hk⟩ (by cases hv : v.ownBlock <;> simp)
theorem own_alloc {w : World} {b : Nat} {e : TypeId} {size : Nat} {v : Value} {n : Nat} {xs : List Value} (h : w.ownsRow b e size v n xs) (o : Obj) : (w.alloc o).ownsRow b e size v n xs := h.alloc o
theorem push_below {B : Nat} {w wr w1 : World} {e : TypeId} {size : Nat} {v : Value} {n : Nat} {xs : List Value} {o : Obj} (hb : Below B w wr) (hB : B ≤ wr.heap.size) (hown : wr.ownsRow B e size v n xs)
    (hgrow : (wr.alloc o).grownBy w1 v.ownBlock) : Below B w w1 :=
  (hb.alloc hB o).grown hgrow (by simp; omega) (fun k hk => (hown.lt k hk).1)

theorem run_eql_nil {P : Program} (w : World) (t e : TypeId) (a : Option Addr) (l c : Nat) (h : P.underlying t = some (.slice e)) : (binOp .eql t (.slice a l c) (.slice none 0 0)).run P w = .ok (.bool a.isNone) w := by
  simp [binOp, run_equal_slice_nil w t e a l c h]
theorem ret_eq {a b : Value} (h : a = b) : Ending.returned a = .returned b := by rw [h]

/-- a byte as a value; a list of bytes as cells -/
def B (x : UInt8) : Value := .int .u8 (x.toNat : Int)
def bv (l : List UInt8) : List Value := l.map B
theorem bv_length (l : List UInt8) : (bv l).length = l.length := by simp [bv]
theorem bv_get {l : List UInt8} {k : Nat} {u : Value} (h : (bv l)[k]? = some u) : ∃ hk : k < l.length, u = .int .u8 ((l[k]).toNat : Int) := by
  unfold bv at h
  rw [List.getElem?_map] at h
  cases hl : l[k]? with
  | none => rw [hl] at h; cases h
  | some x =>
    rw [hl] at h
    obtain ⟨hk, hx⟩ := List.getElem?_eq_some_iff.1 hl
    refine ⟨hk, ?_⟩
    injection h with h
    rw [← h, hx]; rfl
theorem bv_one (l : List UInt8) : ∀ u ∈ bv l, u.oneCell' = true := by
  intro u hu
  obtain ⟨x, _, rfl⟩ := List.mem_map.1 hu
  rfl
theorem bv_append (a b : List UInt8) : bv (a ++ b) = bv a ++ bv b := by simp [bv]
theorem bv_take (l : List UInt8) (k : Nat) : (bv l).take (k * 1) = bv (l.take k) := by simp [bv, List.map_take]
theorem bv_drop (l : List UInt8) (k : Nat) : (bv l).drop (k * 1) = bv (l.drop k) := by simp [bv, List.map_drop]

theorem made_bytes (n : Nat) : (madeCells (Value.int .u8 0).cells (n * 1)).toList = bv (List.replicate n 0) := by
  show (madeCells #[Value.int .u8 0] (n * 1)).toList = _
  rw [toList_madeCells_one, Nat.mul_one]
  unfold bv
  rw [List.map_replicate]
  rfl
/-- a []byte that reads as l -/
def Byt (w : World) (A : Option Addr) (n c : Nat) (l : List UInt8) : Prop := Sl w 1 A n c (bv l)
section
variable {w w' : World} {A : Option Addr} {n c : Nat} {l : List UInt8}
theorem Byt.len (h : Byt w A n c l) : n = l.length := by have := h.2.2.1; rw [bv_length] at this; omega
theorem Byt.at_ (h : Byt w A n c l) {k : Nat} (hk : k < l.length) : ∃ ad, A = some ad ∧ ad.block < w.heap.size ∧ w.cell? (ad.add k) = some (.int .u8 ((l[k]).toNat : Int)) := by
  obtain ⟨ad, u, e, hb, hx, hc⟩ := Sl.at_ h (by rw [h.len]; exact hk)
  obtain ⟨_, rfl⟩ := bv_get hx
  exact ⟨ad, e, hb, hc⟩
theorem Byt.below (h : Byt w A n c l) (hb : Below w.heap.size w w') : Byt w' A n c l := Sl.below h hb
theorem Byt.drew (h : Byt w A n c l) : Byt w.drew A n c l := h
theorem Byt.drewN (h : Byt w A n c l) (k : Nat) : Byt (w.drewN k) A n c l := h
theorem Byt.dr (h : Byt w A n c l) (k : Dr w w') : Byt w' A n c l := k.sl h
theorem Byt.alloc (h : Byt w A n c l) (o : Obj) : Byt (w.alloc o) A n c l := Sl.alloc h o
theorem Byt.take (h : Byt w A n c l) {k : Nat} (hk : k ≤ n) : Byt w A k c (l.take k) := by have := Sl.take h hk; rw [bv_take] at this; exact this
theorem Byt.heap_ (h : Byt w A n c l) (e : w'.heap = w.heap) : Byt w' A n c l := Sl.keep h (by rw [e]; exact Nat.le_refl _) (fun k _ => by rw [e])
theorem Byt.nil_ (w : World) : Byt w none 0 0 [] := Sl.nil_ w 1
theorem byt_own {base : Nat} {e : TypeId} {v : Value} (h : w.ownsRow base e 1 v n (bv l)) : ∃ A c, v = .slice A n c ∧ Byt w A n c l ∧ ∀ ad, A = some ad → base ≤ ad.block := own_form h
theorem Byt.of_nil (h : Byt w none n c l) : l = [] := by
  cases l with
  | nil => rfl
  | cons x l =>
    obtain ⟨ad, e, _⟩ := h.2.2.2 (by have := h.len; simp at this; omega)
    cases e
end

/-- a string's bytes from a list -/
def ofL (l : List UInt8) : ByteArray := ⟨l.toArray⟩
theorem ofL_inj {a b : List UInt8} : ofL a = ofL b ↔ a = b := by
  constructor
  · intro h; have := congrArg (fun s : ByteArray => s.data.toList) h; simpa [ofL] using this
  · rintro rfl; rfl
/-- string(p) of a slice that reads -/
theorem run_conv_byt {P : Program} {w : World} {A : Option Addr} {n c : Nat} {l : List UInt8} (h : Byt w A n c l) (src e dst : TypeId) (hs : P.underlying src = some (.slice e)) (he : P.underlying e = some (.int .u8)) (hd : P.underlying dst = some .string) :
    (convert src dst (.slice A n c)).run P w = .ok (.string (ofL l)) w := by
  have hn := h.len
  cases A with
  | none =>
    obtain rfl := h.of_nil
    have := run_convert_bytes_nil (P := P) w src e hs he n c dst hd
    rw [this]; rfl
  | some ad =>
    rcases Nat.eq_zero_or_pos n with h0 | h0
    · have hl : l = [] := List.eq_nil_of_length_eq_zero (by omega)
      subst hl
      subst h0
      have hl0 : (loadCells ad 0).run P w = .ok #[] w := by
        have := run_loadCells_list (P := P) w ad [] (fun j v hj => by simp at hj)
        simpa using this
      rw [run_convert_bytes_string w src dst e _ 0 c hs he hd, run_bytesToString w _ 0 c [] hl0]
      rfl
    · obtain ⟨ad', e', _, hc⟩ := h.2.2.2 h0
      cases e'
      have hl : (loadCells ad n).run P w = .ok ((l.map fun x => (x.toNat : Int)).map (Value.int .u8)).toArray w := by
        have := run_loadCells_list (P := P) w ad ((l.map fun x => (x.toNat : Int)).map (Value.int .u8)) (fun j v hj => hc j v (by
          rw [← hj]; simp [bv, Function.comp_def]; rfl))
        simpa [hn] using this
      rw [run_convert_bytes_string w src dst e _ n c hs he hd, run_bytesToString w _ n c _ hl, foldl_push_bytes]
      simp only [List.map_map, Function.comp_def, Int.toNat_natCast, UInt8.ofNat_toNat, List.map_id']
      simp [ByteArray.empty, ByteArray.emptyWithCapacity, ofL]
      rfl

/-- a byte out of a number that fits -/
theorem byte_of {n : Int} (h : (Lit.int .u8 n).wf = true) : ∃ x : UInt8, n = (x.toNat : Int) := by
  have hb : 0 ≤ n ∧ n ≤ 255 := by
    have e1 : IntKind.u8.min = 0 := rfl
    have e2 : IntKind.u8.max = 255 := rfl
    simp [Lit.wf, e1, e2] at h
    omega
  refine ⟨UInt8.ofNat n.toNat, ?_⟩
  rw [UInt8.toNat_ofNat', Nat.mod_eq_of_lt (by omega)]
  omega
/-- a []byte that came in -/
theorem byt_rows {w : World} {a : Option Addr} {len cap : Nat} {zs : List Int}
    (h : (a = none ∧ len = 0 ∧ cap = 0 ∧ zs = []) ∨ ∃ x, a = some x ∧ len ≤ cap ∧ cap ≤ maxLen ∧ zs.length = cap ∧ (∀ i, i < zs.length → w.cell? (x.add i) = some (.int .u8 (zs.getD i 0))) ∧ ∀ n ∈ zs, (Lit.int .u8 n).wf = true) :
    ∃ l, Byt w a len cap l := by
  rcases h with ⟨rfl, rfl, rfl, _⟩ | ⟨x, rfl, hlc, hcm, hz, hcell, hwf⟩
  · exact ⟨[], Byt.nil_ w⟩
  · have hlen : ((zs.take len).map fun z => UInt8.ofNat z.toNat).length = len := by simp; omega
    refine ⟨(zs.take len).map fun z => UInt8.ofNat z.toNat, hlc, hcm, by rw [bv_length, hlen, Nat.mul_one], fun h0 => ⟨x, rfl, ?_, ?_⟩⟩
    · have := World.block_lt_of_cell? w _ (hcell 0 (by omega))
      rwa [add_block] at this
    · intro j u hu
      obtain ⟨hj, rfl⟩ := bv_get hu
      have hj' : j < len := by rw [hlen] at hj; exact hj
      rw [hcell j (by omega)]
      obtain ⟨b, hb⟩ := byte_of (hwf (zs[j]'(by omega)) (List.getElem_mem _))
      have e : zs.getD j 0 = zs[j]'(by omega) := by simp [List.getD, List.getElem?_eq_getElem (show j < zs.length by omega)]
      rw [e]
      simp [hb]

end Go.Proofs.YtnllocghmnhooaaDoor
