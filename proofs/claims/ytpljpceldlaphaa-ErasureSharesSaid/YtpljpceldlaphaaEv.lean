/- steleref15.first: the points and blocks of the first shares with different indices. -/
import Derived.Test.YtpljpceldlaphaaEr
namespace Go.Proofs.Ytpljpceldlaphaa
open Go.RowKit

theorem alloc_sz (w : World) (o : Obj) : (w.alloc o).heap.size = w.heap.size + 1 := by simp
theorem Blk.new1 (w : World) (o : Obj) (t : TypeId) (cs : Array Value) : Blk ((w.alloc o).alloc (.cells cs t)) (w.heap.size + 1) t cs := by
  have := Blk.new (w.alloc o) t cs
  rwa [alloc_sz] at this
theorem lit1 (w : World) (o : Obj) (t : TypeId) : ((w.alloc o).alloc (.cells #[] t)).ownsRow w.heap.size t 1 (.slice (some ⟨w.heap.size + 1, 0, none⟩) 0 0) 0 [] := by
  have := World.ownsRow_lit (base := w.heap.size) (e := t) (size := 1) (w.alloc o) #[] 0 (by rw [alloc_sz]; omega) (Nat.zero_le _) rfl
  rwa [alloc_sz] at this
/-- two rows of the call's own, in blocks that differ -/
def Pair (ex ey : TypeId) (W0 W : World) (vx : Value) (nx : Nat) (xs : List Value) (vy : Value) (ny : Nat) (ys : List Value) : Prop :=
  W.ownsRow W0.heap.size ex 1 vx nx xs ∧ W.ownsRow W0.heap.size ey 1 vy ny ys ∧ (∀ g, vx.ownBlock = some g → vy.ownBlock ≠ some g) ∧ Below W0.heap.size W0 W
section
variable {ex ey : TypeId} {W0 W : World} {vx vy : Value} {nX nY : Nat} {xs ys : List Value}
theorem Pair.alloc (h : Pair ex ey W0 W vx nX xs vy nY ys) (o : Obj) : Pair ex ey W0 (W.alloc o) vx nX xs vy nY ys := ⟨own_alloc h.1 o, own_alloc h.2.1 o, h.2.2.1, h.2.2.2.alloc h.2.2.2.size o⟩
theorem Pair.drew (h : Pair ex ey W0 W vx nX xs vy nY ys) : Pair ex ey W0 W.drew vx nX xs vy nY ys := ⟨h.1, h.2.1, h.2.2.1, h.2.2.2.drew⟩
theorem Pair.drewN (h : Pair ex ey W0 W vx nX xs vy nY ys) (k : Nat) : Pair ex ey W0 (W.drewN k) vx nX xs vy nY ys := ⟨h.1, h.2.1, h.2.2.1, below_drewN h.2.2.2 k⟩
theorem Pair.gx (h : Pair ex ey W0 W vx nX xs vy nY ys) {W' : World} {v' : Value} {n' : Nat} {xs' : List Value} (ho : W'.ownsRow W0.heap.size ex 1 v' n' xs') (hg : W.grownBy W' vx.ownBlock) (hv : v'.ownBlock = vx.ownBlock ∨ v'.ownBlock = some W.heap.size) : Pair ex ey W0 W' v' n' xs' vy nY ys := by
  refine ⟨ho, own_grown h.2.1 hg h.2.2.1, fun g e e2 => ?_, h.2.2.2.grown hg h.2.2.2.size (fun k hk => (h.1.lt k hk).1)⟩
  rcases hv with hv | hv
  · exact h.2.2.1 g (hv.symm.trans e) e2
  · have e3 := hv.symm.trans e
    injection e3 with e3
    have := (h.2.1.lt g e2).2
    omega
theorem Pair.gy (h : Pair ex ey W0 W vx nX xs vy nY ys) {W' : World} {v' : Value} {n' : Nat} {ys' : List Value} (ho : W'.ownsRow W0.heap.size ey 1 v' n' ys') (hg : W.grownBy W' vy.ownBlock) (hv : v'.ownBlock = vy.ownBlock ∨ v'.ownBlock = some W.heap.size) : Pair ex ey W0 W' vx nX xs v' n' ys' := by
  refine ⟨own_grown h.1 hg (fun g e e2 => h.2.2.1 g e2 e), ho, fun g e e2 => ?_, h.2.2.2.grown hg h.2.2.2.size (fun k hk => (h.2.1.lt k hk).1)⟩
  rcases hv with hv | hv
  · exact h.2.2.1 g e (hv.symm.trans e2)
  · have e3 := hv.symm.trans e2
    injection e3 with e3
    have := (h.1.lt g e).2
    omega
theorem Pair.nx (h : Pair ex ey W0 W vx nX xs vy nY ys) (g : Nat) (hg : W.heap.size ≤ g) : some g ≠ vx.ownBlock := fun e => by have := (h.1.lt g e.symm).2; omega
theorem Pair.sz (h : Pair ex ey W0 W vx nX xs vy nY ys) : W0.heap.size ≤ W.heap.size := h.2.2.2.size
end

theorem chs_full {data : Nat} : ∀ (l : List (Int × ByteArray)) (st : List UInt8 × List ByteArray), ¬ st.1.length < data → l.foldl (chStep data) st = st
  | [], _, _ => rfl
  | x :: l, st, h => by
    have h1 : chStep data st x = st := by unfold chStep; rw [if_neg (fun hc => h hc.1)]
    rw [List.foldl_cons, h1]
    exact chs_full l st h
/-- once there are enough of them, nothing is added -/
theorem chs_stop {data : Nat} {hv : List (Int × ByteArray)} {i : Nat} (h : ¬ (chs data (hv.take i)).1.length < data) : chs data hv = chs data (hv.take i) := by
  have e : hv = hv.take i ++ hv.drop i := (List.take_append_drop i hv).symm
  have : chs data (hv.take i ++ hv.drop i) = (hv.drop i).foldl (chStep data) (chs data (hv.take i)) := List.foldl_append
  rw [← e] at this
  rw [this]
  exact chs_full _ _ h
theorem chs_take {data : Nat} {hv : List (Int × ByteArray)} {i : Nat} (h : i < hv.length) : chs data (hv.take (i + 1)) = chStep data (chs data (hv.take i)) hv[i] := by
  rw [List.take_succ_eq_append_getElem h, chs_snoc]

/-- what first leaves -/
def GivesP (w : World) (st : List UInt8 × List ByteArray) (e : Ending) (w' : World) : Prop :=
  ∃ vx vy, e = .returned (.tuple #[vx, vy]) ∧ Pair 5 9 w w' vx st.1.length (bv st.1) vy st.1.length (st.2.map Value.string)

/-- is byte k of l the number x, for a k below m? -/
def knw (l : List UInt8) (x : Int) (m : Nat) : Bool := (l.take m).any fun b => ((b.toNat : Nat) : Int) == x
theorem knw_succ {l : List UInt8} {x : Int} {m : Nat} (h : m < l.length) : knw l x (m + 1) = (knw l x m || (((l[m]).toNat : Nat) : Int) == x) := by
  unfold knw
  rw [List.take_succ_eq_append_getElem h, List.any_append]
  simp
theorem knw_all {l : List UInt8} {j : Nat} (hj : j < 256) : knw l (j : Int) l.length = decide (byt8 (j : Int) ∈ l) := by
  unfold knw
  rw [List.take_length, Bool.eq_iff_iff, List.any_eq_true, decide_eq_true_iff]
  constructor
  · rintro ⟨b, hb, e⟩
    rw [beq_iff_eq] at e
    have : byt8 (j : Int) = b := by
      have hjb : j = b.toNat := by omega
      rw [byt8_nat hj, hjb]
      exact UInt8.ofNat_toNat
    rwa [this]
  · intro h
    refine ⟨_, h, ?_⟩
    rw [beq_iff_eq, byt8_nat hj, UInt8.toNat_ofNat']
    omega

end Go.Proofs.Ytpljpceldlaphaa
