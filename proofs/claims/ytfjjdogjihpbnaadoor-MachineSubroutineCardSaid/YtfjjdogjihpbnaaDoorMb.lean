/- The machine in memory: its memory, its stacks and its output, in blocks that differ; its struct. -/
import Derived.Test.YtfjjdogjihpbnaaDoorMa
namespace Go.Proofs.YtfjjdogjihpbnaaDoor
open Go.RowKit
namespace Mc

def V (x : Int) : Value := .int .u32 x
def iv (l : List Int) : List Value := l.map V
theorem iv_len (l : List Int) : (iv l).length = l.length := by simp [iv]
theorem iv_one (l : List Int) : ∀ u ∈ iv l, u.oneCell' = true := by
  intro u hu
  obtain ⟨x, _, rfl⟩ := List.mem_map.1 hu
  rfl
theorem iv_app (a b : List Int) : iv (a ++ b) = iv a ++ iv b := by simp [iv]

theorem own_grow {w w' : World} {b s n : Nat} {e : TypeId} {v : Value} {xs : List Value} {row : Option Nat} (h : w.ownsRow b e s v n xs) (hg : w.grownBy w' row) (hne : ∀ g, row = some g → v.ownBlock ≠ some g) : w'.ownsRow b e s v n xs :=
  h.kept hg (by
    cases hv : v.ownBlock with
    | none => exact .inl rfl
    | some g => exact .inr fun e => hne g e.symm hv)
theorem own_take {w : World} {b n m : Nat} {e : TypeId} {A : Option Addr} {c : Nat} {xs : List Value} (h : w.ownsRow b e 1 (.slice A n c) n xs) (hm : m ≤ n) : w.ownsRow b e 1 (.slice A m c) m (xs.take m) := by
  refine ⟨by have := h.1; simp; omega, ?_⟩
  rcases h.2 with ⟨h1, h2⟩ | ⟨g, cap, cur, h1, hb, hg, hnc, hcm, hcs, ht⟩
  · injection h1 with e1 e2 e3
    exact .inl ⟨by rw [e1, e3, show m = 0 by omega], by omega⟩
  · injection h1 with e1 _ e3
    subst e3
    refine .inr ⟨g, c, cur, by rw [e1], hb, hg, by omega, hcm, hcs, ?_⟩
    rw [← ht, List.take_take]
    congr 1
    omega
theorem set_grown (W : World) (k i : Nat) (u : Value) : W.grownBy (W.setCell ⟨k, i, none⟩ u) (some k) :=
  ⟨rfl, rfl, rfl, by simp, fun j _ hj => Below.heap_setCell W _ u j (fun e => hj (by rw [e]))⟩
theorem alloc_grown (W : World) (o : Obj) : W.grownBy (W.alloc o) none :=
  ⟨rfl, rfl, rfl, by simp, fun j hj _ => Below.heap_alloc W o j hj⟩

/-- memory, stacks and output of a machine whose struct is block g -/
structure Parts (fix : List (Nat × Obj)) (w0 W : World) (g gm : Nat) (mem : Nat → Int) (vd : Value) (D : List Int) (vc : Value) (C : List Int) (vo : Value) (O : List UInt8) : Prop where
  bel : Below w0.heap.size w0 W
  gb : w0.heap.size ≤ g ∧ g < W.heap.size
  mb : w0.heap.size ≤ gm ∧ gm ≠ g
  m : ∃ cs, Blk W gm 22 cs ∧ cs.size = 262144 ∧ ∀ i, i < 262144 → cs[i]? = some (V (mem i))
  d : W.ownsRow w0.heap.size 22 1 vd D.length (iv D.reverse)
  c : W.ownsRow w0.heap.size 22 1 vc C.length (iv C.reverse)
  o : W.ownsRow w0.heap.size 5 1 vo O.length (bv O)
  nd : ∀ k, vd.ownBlock = some k → k ≠ g ∧ k ≠ gm ∧ vc.ownBlock ≠ some k ∧ vo.ownBlock ≠ some k
  nc : ∀ k, vc.ownBlock = some k → k ≠ g ∧ k ≠ gm ∧ vo.ownBlock ≠ some k
  no : ∀ k, vo.ownBlock = some k → k ≠ g ∧ k ≠ gm
  f : ∀ p ∈ fix, W.heap[p.1]? = some p.2 ∧ p.1 ≠ g ∧ p.1 ≠ gm ∧ vd.ownBlock ≠ some p.1 ∧ vc.ownBlock ≠ some p.1 ∧ vo.ownBlock ≠ some p.1

section
variable {fix : List (Nat × Obj)} {w0 W W1 : World} {g gm : Nat} {mem : Nat → Int} {vd vc vo v' : Value} {D C D' : List Int} {O O' : List UInt8}
theorem Parts.gmlt (h : Parts fix w0 W g gm mem vd D vc C vo O) : gm < W.heap.size := by
  obtain ⟨cs, h1, _⟩ := h.m
  exact h1.lt
theorem Parts.sz (h : Parts fix w0 W g gm mem vd D vc C vo O) : w0.heap.size ≤ W.heap.size := h.bel.size
theorem Parts.flt (h : Parts fix w0 W g gm mem vd D vc C vo O) {p : Nat × Obj} (hp : p ∈ fix) : p.1 < W.heap.size := (Array.getElem?_eq_some_iff.1 (h.f p hp).1).1
theorem keep_fix {w w1 : World} {row : Option Nat} {p : Nat × Obj} (h : w.heap[p.1]? = some p.2) (hg : w.grownBy w1 row) (hne : ∀ k, row = some k → k ≠ p.1) : w1.heap[p.1]? = some p.2 :=
  (hg.block _ (Array.getElem?_eq_some_iff.1 h).1 (fun e => hne _ e.symm rfl)).trans h
/-- a turn of a block that is none of theirs -/
theorem Parts.turn (h : Parts fix w0 W g gm mem vd D vc C vo O) {row : Option Nat} (hg : W.grownBy W1 row) (hb : ∀ k, row = some k → w0.heap.size ≤ k ∧ k ≠ gm ∧ vd.ownBlock ≠ some k ∧ vc.ownBlock ≠ some k ∧ vo.ownBlock ≠ some k) (hf : ∀ k, row = some k → ∀ p ∈ fix, k ≠ p.1) : Parts fix w0 W1 g gm mem vd D vc C vo O := by
  obtain ⟨cs, h1, h2, h3⟩ := h.m
  exact ⟨h.bel.grown hg h.bel.size (fun k hk => (hb k hk).1), ⟨h.gb.1, Nat.lt_of_lt_of_le h.gb.2 hg.size⟩, h.mb, ⟨cs, h1.grown hg (fun e => (hb gm e.symm).2.1 rfl), h2, h3⟩,
    own_grow h.d hg (fun k e => (hb k e).2.2.1), own_grow h.c hg (fun k e => (hb k e).2.2.2.1), own_grow h.o hg (fun k e => (hb k e).2.2.2.2), h.nd, h.nc, h.no, fun p hp => ⟨keep_fix (h.f p hp).1 hg (fun k e => hf k e p hp), (h.f p hp).2⟩⟩
theorem Parts.alloc (h : Parts fix w0 W g gm mem vd D vc C vo O) (o : Obj) : Parts fix w0 (W.alloc o) g gm mem vd D vc C vo O := h.turn (alloc_grown W o) (fun k e => by cases e) (fun k e => by cases e)
theorem Parts.drewN (h : Parts fix w0 W g gm mem vd D vc C vo O) (n : Nat) : Parts fix w0 (W.drewN n) g gm mem vd D vc C vo O :=
  ⟨below_drewN h.bel n, h.gb, h.mb, h.m, h.d, h.c, h.o, h.nd, h.nc, h.no, h.f⟩
theorem Parts.drew (h : Parts fix w0 W g gm mem vd D vc C vo O) : Parts fix w0 W.drew g gm mem vd D vc C vo O :=
  ⟨h.bel.drew, h.gb, h.mb, h.m, h.d, h.c, h.o, h.nd, h.nc, h.no, h.f⟩
/-- a store into the struct -/
theorem Parts.setG (h : Parts fix w0 W g gm mem vd D vc C vo O) (i : Nat) (u : Value) : Parts fix w0 (W.setCell ⟨g, i, none⟩ u) g gm mem vd D vc C vo O :=
  h.turn (set_grown W g i u) (fun k e => by
    injection e with e
    subst e
    exact ⟨h.gb.1, fun e => h.mb.2 e.symm, fun e => (h.nd _ e).1 rfl, fun e => (h.nc _ e).1 rfl, fun e => (h.no _ e).1 rfl⟩) (fun k e p hp => by
    injection e with e
    subst e
    exact fun e => (h.f p hp).2.1 e.symm)
/-- a store into the memory -/
theorem Parts.setM (h : Parts fix w0 W g gm mem vd D vc C vo O) {a : Nat} (ha : a < 262144) (x : Int) : Parts fix w0 (W.setCell ⟨gm, a, none⟩ (V x)) g gm (put mem a x) vd D vc C vo O := by
  obtain ⟨cs, h1, h2, h3⟩ := h.m
  have hg := set_grown W gm a (V x)
  refine ⟨h.bel.grown hg h.bel.size (fun k hk => by injection hk with hk; subst hk; exact h.mb.1), ⟨h.gb.1, Nat.lt_of_lt_of_le h.gb.2 hg.size⟩, h.mb, ⟨_, h1.set_ a (V x), by simpa using h2, fun i hi => ?_⟩,
    own_grow h.d hg (fun k e e2 => ?_), own_grow h.c hg (fun k e e2 => ?_), own_grow h.o hg (fun k e e2 => ?_), h.nd, h.nc, h.no, fun p hp => ⟨keep_fix (h.f p hp).1 hg (fun k e e2 => ?_), (h.f p hp).2⟩⟩
  · unfold put
    by_cases hia : i = a
    · subst hia
      rw [if_pos rfl]
      simp [h2, ha]
    · rw [if_neg hia, Array.getElem?_setIfInBounds, if_neg (fun e => hia e.symm)]
      exact h3 i hi
  · injection e with e; subst e; exact (h.nd _ e2).2.1 rfl
  · injection e with e; subst e; exact (h.nc _ e2).2.1 rfl
  · injection e with e; subst e; exact (h.no _ e2).2 rfl
  · injection e with e; subst e; exact (h.f p hp).2.2.1 e2.symm
/-- a word of the memory -/
theorem Parts.word (h : Parts fix w0 W g gm mem vd D vc C vo O) {a : Nat} (ha : a < 262144) : W.cell? ⟨gm, a, none⟩ = some (V (mem a)) := by
  obtain ⟨cs, h1, h2, h3⟩ := h.m
  rw [h1.cell, h3 a ha]
theorem Parts.wordF (h : Parts fix w0 W g gm mem vd D vc C vo O) (a : Nat) : W.frozen? ⟨gm, a, none⟩ = false := by
  obtain ⟨cs, h1, h2, h3⟩ := h.m
  exact h1.frozen a
theorem new_ne {v v1 : Value} {N k : Nat} (hv : v1.ownBlock = v.ownBlock ∨ v1.ownBlock = some N) (h : v.ownBlock ≠ some k) (hk : k < N) : v1.ownBlock ≠ some k := by
  rcases hv with hv | hv
  · rw [hv]; exact h
  · rw [hv]; intro e; injection e with e; omega
/-- the stack has grown -/
theorem Parts.gd (h : Parts fix w0 W g gm mem vd D vc C vo O) (ho : W1.ownsRow w0.heap.size 22 1 v' D'.length (iv D'.reverse)) (hg : W.grownBy W1 vd.ownBlock) (hv : v'.ownBlock = vd.ownBlock ∨ v'.ownBlock = some W.heap.size) : Parts fix w0 W1 g gm mem v' D' vc C vo O := by
  obtain ⟨cs, h1, h2, h3⟩ := h.m
  refine ⟨h.bel.grown hg h.bel.size (fun k hk => (h.d.lt k hk).1), ⟨h.gb.1, Nat.lt_of_lt_of_le h.gb.2 hg.size⟩, h.mb, ⟨cs, h1.grown hg (fun e => (h.nd _ e.symm).2.1 rfl), h2, h3⟩,
    ho, own_grow h.c hg (fun k e => (h.nd k e).2.2.1), own_grow h.o hg (fun k e => (h.nd k e).2.2.2), fun k e => ?_, h.nc, h.no, fun p hp => ⟨keep_fix (h.f p hp).1 hg (fun k e e2 => (h.f p hp).2.2.2.1 (e2 ▸ e)), (h.f p hp).2.1, (h.f p hp).2.2.1, new_ne hv (h.f p hp).2.2.2.1 (h.flt hp), (h.f p hp).2.2.2.2⟩⟩
  rcases hv with hv | hv
  · exact h.nd k (hv.symm.trans e)
  · have e3 := hv.symm.trans e
    injection e3 with e3
    exact ⟨by have := h.gb.2; omega, by have := h.gmlt; omega, fun e4 => by have := (h.c.lt k e4).2; omega, fun e4 => by have := (h.o.lt k e4).2; omega⟩
theorem Parts.gc (h : Parts fix w0 W g gm mem vd D vc C vo O) (ho : W1.ownsRow w0.heap.size 22 1 v' D'.length (iv D'.reverse)) (hg : W.grownBy W1 vc.ownBlock) (hv : v'.ownBlock = vc.ownBlock ∨ v'.ownBlock = some W.heap.size) : Parts fix w0 W1 g gm mem vd D v' D' vo O := by
  obtain ⟨cs, h1, h2, h3⟩ := h.m
  refine ⟨h.bel.grown hg h.bel.size (fun k hk => (h.c.lt k hk).1), ⟨h.gb.1, Nat.lt_of_lt_of_le h.gb.2 hg.size⟩, h.mb, ⟨cs, h1.grown hg (fun e => (h.nc _ e.symm).2.1 rfl), h2, h3⟩,
    own_grow h.d hg (fun k e e2 => (h.nd k e2).2.2.1 e), ho, own_grow h.o hg (fun k e => (h.nc k e).2.2), fun k e => ⟨(h.nd k e).1, (h.nd k e).2.1, fun e4 => ?_, (h.nd k e).2.2.2⟩, fun k e => ?_, h.no, fun p hp => ⟨keep_fix (h.f p hp).1 hg (fun k e e2 => (h.f p hp).2.2.2.2.1 (e2 ▸ e)), (h.f p hp).2.1, (h.f p hp).2.2.1, (h.f p hp).2.2.2.1, new_ne hv (h.f p hp).2.2.2.2.1 (h.flt hp), (h.f p hp).2.2.2.2.2⟩⟩
  · rcases hv with hv | hv
    · exact (h.nd k e).2.2.1 (hv.symm.trans e4)
    · have e3 := hv.symm.trans e4
      injection e3 with e3
      have := (h.d.lt k e).2
      omega
  · rcases hv with hv | hv
    · exact h.nc k (hv.symm.trans e)
    · have e3 := hv.symm.trans e
      injection e3 with e3
      exact ⟨by have := h.gb.2; omega, by have := h.gmlt; omega, fun e4 => by have := (h.o.lt k e4).2; omega⟩
theorem Parts.go (h : Parts fix w0 W g gm mem vd D vc C vo O) (ho : W1.ownsRow w0.heap.size 5 1 v' O'.length (bv O')) (hg : W.grownBy W1 vo.ownBlock) (hv : v'.ownBlock = vo.ownBlock ∨ v'.ownBlock = some W.heap.size) : Parts fix w0 W1 g gm mem vd D vc C v' O' := by
  obtain ⟨cs, h1, h2, h3⟩ := h.m
  refine ⟨h.bel.grown hg h.bel.size (fun k hk => (h.o.lt k hk).1), ⟨h.gb.1, Nat.lt_of_lt_of_le h.gb.2 hg.size⟩, h.mb, ⟨cs, h1.grown hg (fun e => (h.no _ e.symm).2 rfl), h2, h3⟩,
    own_grow h.d hg (fun k e e2 => (h.nd k e2).2.2.2 e), own_grow h.c hg (fun k e e2 => (h.nc k e2).2.2 e), ho, fun k e => ⟨(h.nd k e).1, (h.nd k e).2.1, (h.nd k e).2.2.1, fun e4 => ?_⟩, fun k e => ⟨(h.nc k e).1, (h.nc k e).2.1, fun e4 => ?_⟩, fun k e => ?_, fun p hp => ⟨keep_fix (h.f p hp).1 hg (fun k e e2 => (h.f p hp).2.2.2.2.2 (e2 ▸ e)), (h.f p hp).2.1, (h.f p hp).2.2.1, (h.f p hp).2.2.2.1, (h.f p hp).2.2.2.2.1, new_ne hv (h.f p hp).2.2.2.2.2 (h.flt hp)⟩⟩
  · rcases hv with hv | hv
    · exact (h.nd k e).2.2.2 (hv.symm.trans e4)
    · have e3 := hv.symm.trans e4
      injection e3 with e3
      have := (h.d.lt k e).2
      omega
  · rcases hv with hv | hv
    · exact (h.nc k e).2.2 (hv.symm.trans e4)
    · have e3 := hv.symm.trans e4
      injection e3 with e3
      have := (h.c.lt k e).2
      omega
  · rcases hv with hv | hv
    · exact h.no k (hv.symm.trans e)
    · have e3 := hv.symm.trans e
      injection e3 with e3
      exact ⟨by have := h.gb.2; omega, by have := h.gmlt; omega⟩
/-- fewer values on the stack -/
theorem Parts.dtake {A : Option Addr} {n c m : Nat} (h : Parts fix w0 W g gm mem (.slice A n c) D vc C vo O) (hn : n = D.length) (hD : D'.length = m) (hr : iv D'.reverse = (iv D.reverse).take m) (hm : m ≤ n) : Parts fix w0 W g gm mem (.slice A m c) D' vc C vo O := by
  have h2 := h.d
  rw [← hn] at h2
  have h3 := own_take h2 hm
  rw [← hr] at h3
  have hob : (Value.slice A m c).ownBlock = (Value.slice A n c).ownBlock := by cases A <;> rfl
  exact ⟨h.bel, h.gb, h.mb, h.m, by rw [hD]; exact h3, h.c, h.o, fun k e => h.nd k (hob ▸ e), h.nc, h.no, fun p hp => by rw [hob]; exact h.f p hp⟩
theorem Parts.ctake {A : Option Addr} {n c m : Nat} (h : Parts fix w0 W g gm mem vd D (.slice A n c) C vo O) (hn : n = C.length) (hD : D'.length = m) (hr : iv D'.reverse = (iv C.reverse).take m) (hm : m ≤ n) : Parts fix w0 W g gm mem vd D (.slice A m c) D' vo O := by
  have h2 := h.c
  rw [← hn] at h2
  have h3 := own_take h2 hm
  rw [← hr] at h3
  have hob : (Value.slice A m c).ownBlock = (Value.slice A n c).ownBlock := by cases A <;> rfl
  exact ⟨h.bel, h.gb, h.mb, h.m, h.d, by rw [hD]; exact h3, h.o, fun k e => by rw [hob]; exact h.nd k e, fun k e => h.nc k (hob ▸ e), h.no, fun p hp => by rw [hob]; exact h.f p hp⟩
end

theorem take_tail (x : Int) (l : List Int) : iv l.reverse = (iv (x :: l).reverse).take l.length := by
  rw [List.reverse_cons, iv_app, List.take_append_of_le_length (by simp [iv]), List.take_of_length_le (by simp [iv])]
theorem take_tail2 (x y : Int) (l : List Int) : iv l.reverse = (iv (x :: y :: l).reverse).take l.length := by
  rw [List.reverse_cons, List.reverse_cons, iv_app, iv_app, List.append_assoc, List.take_append_of_le_length (by simp [iv]), List.take_of_length_le (by simp [iv])]

/-- a row of numbers, as a slice whose cells read -/
theorem own_sl {w : World} {b : Nat} {e : TypeId} {v : Value} {D : List Int} (h : w.ownsRow b e 1 v D.length (iv D.reverse)) : ∃ A c, v = .slice A D.length c ∧ D.length ≤ c ∧ c ≤ maxLen := by
  obtain ⟨A, c, rfl, h1, _⟩ := own_form h
  exact ⟨A, c, rfl, h1.1, h1.2.1⟩
/-- the top of a stack -/
theorem own_top {w : World} {b : Nat} {e : TypeId} {A : Option Addr} {n c : Nat} {x : Int} {l : List Int} (h : w.ownsRow b e 1 (.slice A n c) (x :: l).length (iv (x :: l).reverse)) : ∃ k, A = some ⟨k, 0, none⟩ ∧ n = l.length + 1 ∧ w.cell? ⟨k, l.length, none⟩ = some (V x) ∧ w.frozen? ⟨k, l.length, none⟩ = false ∧ b ≤ k ∧ k < w.heap.size := by
  rcases h.2 with ⟨_, h2⟩ | ⟨g, cap, cur, h1, hb, hg, hnc, hcm, hcs, ht⟩
  · simp at h2
  · injection h1 with e1 e2 e3
    subst e1 e3 e2
    refine ⟨g, rfl, rfl, ?_, h.frozenAt _, hb, (Array.getElem?_eq_some_iff.1 hg).1⟩
    rw [h.cellAt l.length (by simp), List.reverse_cons, iv_app, List.getElem?_append_right (by simp [iv])]
    simp [iv]
theorem own_snd {w : World} {b : Nat} {e : TypeId} {A : Option Addr} {n c : Nat} {x y : Int} {l : List Int} (h : w.ownsRow b e 1 (.slice A n c) (x :: y :: l).length (iv (x :: y :: l).reverse)) : ∃ k, A = some ⟨k, 0, none⟩ ∧ w.cell? ⟨k, l.length, none⟩ = some (V y) ∧ w.frozen? ⟨k, l.length, none⟩ = false := by
  rcases h.2 with ⟨_, h2⟩ | ⟨g, cap, cur, h1, hb, hg, hnc, hcm, hcs, ht⟩
  · simp at h2
  · injection h1 with e1 e2 e3
    subst e1 e3 e2
    refine ⟨g, rfl, ?_, h.frozenAt _⟩
    rw [h.cellAt l.length (by simp; omega), List.reverse_cons, List.reverse_cons, iv_app, iv_app, List.append_assoc, List.getElem?_append_right (by simp [iv])]
    simp [iv]

theorem set_top (x v : Int) (l : List Int) : (iv (x :: l).reverse).set l.length (V v) = iv (v :: l).reverse := by
  rw [List.reverse_cons, List.reverse_cons, iv_app, iv_app, List.set_append_right _ _ (by simp [iv])]
  simp [iv]
/-- the top of the stack is written anew -/
theorem Parts.dset {fix : List (Nat × Obj)} {w0 W : World} {g gm : Nat} {mem : Nat → Int} {vc vo : Value} {x : Int} {l C : List Int} {O : List UInt8} {kb n c T : Nat} (h : Parts fix w0 W g gm mem (.slice (some ⟨kb, 0, none⟩) n c) (x :: l) vc C vo O) (hT : l.length = T) (v : Int) :
    Parts fix w0 (W.setCell ⟨kb, T, none⟩ (V v)) g gm mem (.slice (some ⟨kb, 0, none⟩) n c) (v :: l) vc C vo O := by
  subst hT
  obtain ⟨k, e1, e2, _⟩ := own_top h.d
  have hd := h.d
  rw [show (x :: l).length = n by rw [e2]; rfl] at hd
  obtain ⟨h1, h2⟩ := hd.stored l.length (V v)
  rw [set_top] at h1
  exact h.gd (D' := v :: l) (by rw [show (v :: l).length = n by rw [e2]; rfl]; exact h1) h2 (.inl rfl)

end Mc
end Go.Proofs.YtfjjdogjihpbnaaDoor
