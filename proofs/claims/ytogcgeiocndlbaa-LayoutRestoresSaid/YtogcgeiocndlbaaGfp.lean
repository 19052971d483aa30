/- gf256.power (a loop over the iterator of the bits of the exponent), Inv and Div. -/
import Derived.Test.YtogcgeiocndlbaaGfr
import Derived.Test.YtogcgeiocndlbaaRng
namespace Go.Proofs.Ytogcgeiocndlbaa
open Go.RowKit

attribute [local go_sem] Oper.semAt_some

/-- the bits of a number, least first -/
def bitsOf : Nat → Nat → List Bool
  | 0, _ => []
  | f + 1, m => if m = 0 then [] else (m % 2 == 1) :: bitsOf f (m / 2)

set_option maxRecDepth 100000 in
set_option maxHeartbeats 1000000 in
theorem binary_in (F : Fence) (n : Nat) (hf : F.fn 67) (hro : F.round = none) (hn : 1 ≤ n) (l Bn : Nat) (m f : Nat) (hm : m < 2 ^ f) (hf63 : f ≤ 62) (J : List Bool → World → Prop)
    (hst : ∀ pre W v, J pre W → Boxed W Bn 3 v → ∀ u, J pre (W.setCell ⟨Bn, 0, none⟩ u))
    (hY : ∀ pre x W, J pre W → YieldAt F (n - 1) Try.prog l #[.bool x] W fun e W' => e = .returned (.bool true) ∧ J (pre ++ [x]) W' ∧ W'.heap[Bn]? = W.heap[Bn]?)
    (W : World) (hB : Boxed W Bn 3 (.int .i64 (m : Int))) (h0 : J [] W) :
    CallsIn F n Try.prog 67 #[.func (.yield l) #[] #[], .pointer (some ⟨Bn, 0, none⟩)] W fun e W' => (∃ v, e = .returned v) ∧ ∃ xs, xs = bitsOf f m ∧ J xs W' := by
  refine callsIn_of_wp Try.func67 rfl hf ?_ hro
  simp only [Try.ntmps67, List.size_toArray, List.length_cons, List.length_nil, Nat.reduceAdd, Nat.reduceSub, Array.replicate_succ, Array.replicate_zero, List.push_toArray, List.append_toArray, List.nil_append, List.cons_append]
  gi_wp2
  gi_loopw [] (fun wr => ∃ (pre : List Bool) (k c : Nat), pre ++ bitsOf k c = bitsOf f m ∧ k ≤ f ∧ c < 2 ^ k ∧ J pre wr ∧ Boxed wr Bn 3 (.int .i64 (c : Int)))
    (fun wr => match wr.cell? ⟨Bn, 0, none⟩ with | some v => (intOf v).toNat | none => 0)
  case atStart => exact ⟨[], f, m, rfl, Nat.le_refl _, hm, h0, hB⟩
  case round =>
    obtain ⟨pre, k, c, hx, hk, hc, hJs, hBox⟩ := hrel
    have hB0 := hBox
    have hcell := hBox.cell
    have hfr := hBox.frozen
    have hx63 : c < 2 ^ 62 := Nat.lt_of_lt_of_le hc (Nat.pow_le_pow_right (by omega) (by omega))
    by_cases hz : c = 0
    · have hb0 : bitsOf k c = [] := by cases k <;> simp [bitsOf, hz]
      subst hz
      have HX := Lib.hid hx
      have HB0 := Lib.hid hb0
      clear hx hb0
      gi_wp2
      go_end0
      refine ⟨⟨_, rfl⟩, pre, ?_, hJs⟩
      have := HX.out
      rw [HB0.out] at this
      simpa using this
    · obtain ⟨j, rfl⟩ : ∃ j, k = j + 1 := ⟨k - 1, by
        rcases Nat.eq_zero_or_pos k with h | h
        · subst h; simp at hc; omega
        · omega⟩
      have hpos : 0 < c := by omega
      have hdiv : c / 2 < 2 ^ j := by rw [Nat.pow_succ] at hc; omega
      have hand : bits .and .i64 (c : Int) 1 = ((c % 2 : Nat) : Int) := by have := i64_and_nat c 1 (by omega) (by omega); rw [nat_mask1] at this; exact this
      have htb : (bits .and .i64 (c : Int) 1 == 1) = (c % 2 == 1) := by rw [hand]; rw [Bool.eq_iff_iff]; simp; omega
      have HX := Lib.hid hx
      have HZ := Lib.hid hz
      have HC := Lib.hid hc
      have HD := Lib.hid hdiv
      obtain ⟨fn, tmps, assign, body, hy, hR⟩ := hY pre (c % 2 == 1) wr hJs
      have HJ := Lib.hid hJs
      have HBx := Lib.hid hBox
      clear hx hz hc hand hdiv hJs hB0 hBox
      gi_wp2
      refine hR.mono ?_
      rintro e W3 ⟨rfl, hJ3, hk3⟩
      have hb3 : Boxed W3 Bn 3 (.int .i64 (c : Int)) := hk3.trans HBx.out
      have hc3 := hb3.cell
      have hf3 := hb3.frozen
      have HB3 := Lib.hid hb3
      have HJ3 := Lib.hid hJ3
      have HK3 := Lib.hid hk3
      clear hk3 hb3 hJ3
      gi_wp2
      go_roundw
      case rel =>
        refine ⟨pre ++ [c % 2 == 1], j, c / 2, ?_, by omega, HD.out, hst _ _ _ HJ3.out HB3.out _, ?_⟩
        · rw [← HX.out]
          conv => rhs; unfold bitsOf
          rw [if_neg HZ.out]
          simp
        · have := HB3.out.set (.int .i64 ((c / 2 : Nat) : Int))
          simpa using this
      case measure =>
        rw [World.cell?_setCell_same' _ _ _ (by rw [HB3.out.cell]; rfl), hcell]
        simp [intOf]
        omega

/-- gf256.binary: the number in a box, the closure over it -/
theorem mkbinary_in (F : Fence) (n : Nat) (hf : F.fn 66) (hro : F.round = none) (m : Int) (w : World) :
    CallsIn F n Try.prog 66 #[.int .i64 m] w fun e w' => e = .returned (.func (.func 67) #[] #[.pointer (some ⟨w.heap.size, 0, none⟩)]) ∧ w' = w.alloc (.cells #[.int .i64 m] 3) := by
  refine callsIn_of_wp Try.func66 rfl hf ?_ hro
  simp only [Try.ntmps66, List.size_toArray, List.length_cons, List.length_nil, Nat.reduceAdd, Nat.reduceSub, Array.replicate_succ, Array.replicate_zero, List.push_toArray, List.append_toArray, List.nil_append, List.cons_append]
  gi_wp2
  go_ret
  exact ⟨rfl, rfl⟩

/-- one round of power: the product and the square -/
def pwStep (s : Nat × Nat) (b : Bool) : Nat × Nat := (if b then Gf.gmul s.1 s.2 else s.1, Gf.gmul s.2 s.2)
def pw (a : Nat) (bs : List Bool) : Nat × Nat := bs.foldl pwStep (1, a)
theorem pw_snoc (a : Nat) (bs : List Bool) (b : Bool) : pw a (bs ++ [b]) = pwStep (pw a bs) b := by simp [pw]
theorem pw_lt {a : Nat} (ha : a < 256) (bs : List Bool) : (pw a bs).1 < 256 ∧ (pw a bs).2 < 256 := by
  have : ∀ (l : List Bool) (s : Nat × Nat), s.1 < 256 → s.2 < 256 → (l.foldl pwStep s).1 < 256 ∧ (l.foldl pwStep s).2 < 256 := by
    intro l
    induction l with
    | nil => intro s h1 h2; exact ⟨h1, h2⟩
    | cons b l ih =>
      intro s h1 h2
      refine ih _ ?_ (Gf.gmul_lt _ h2)
      show (if b then Gf.gmul s.1 s.2 else s.1) < 256
      split
      · exact Gf.gmul_lt _ h1
      · exact h1
  exact this bs (1, a) (by show (1 : Nat) < 256; omega) ha
theorem pw_254 (a : Nat) : (pw a (bitsOf 62 254)).1 = Gf.ginv a := by
  have : bitsOf 62 254 = [false, true, true, true, true, true, true, true] := by decide
  rw [this]
  rfl

/-- what holds between two rounds: the boxes of a (block B) and of the product (block B + 1) -/
def PwI (w : World) (a : Nat) (pre : List Bool) (W : World) : Prop :=
  Boxed W w.heap.size 5 (.int .u8 ((pw a pre).2 : Int)) ∧ Boxed W (w.heap.size + 1) 5 (.int .u8 ((pw a pre).1 : Int)) ∧ Below w.heap.size w W ∧ w.heap.size + 3 ≤ W.heap.size

theorem boxed_far {W : World} {b : Nat} {t : TypeId} {v : Value} (h : Boxed W b t v) {p : Addr} (hp : b ≠ p.block) (u : Value) : Boxed (W.setCell p u) b t v := (Below.heap_setCell W p u b hp).trans h
theorem boxed_put {W : World} {b : Nat} {t : TypeId} {v : Value} (h : Boxed W b t v) {l : Nat} {o : Obj} (o' : Obj) (hl : W.heap[l]? = some o) (ho : o.isCells = false) : Boxed (W.putObj l o') b t v := by
  have hne : b ≠ l := by
    rintro rfl
    rw [show W.heap[b]? = _ from h] at hl
    cases hl
    cases ho
  exact (World.putObj_heap_other hne).trans h
theorem below_put {B : Nat} {a w : World} (h : Below B a w) {l : Nat} (hl : B ≤ l) (o : Obj) : Below B a (w.putObj l o) :=
  h.trans ⟨rfl, rfl, rfl, by simp, fun k hk => World.putObj_heap_other (by omega)⟩
theorem setCell_size (W : World) (p : Addr) (u : Value) : (W.setCell p u).heap.size = W.heap.size := by simp [World.setCell]
theorem keepsFrom_set {B : Nat} (W : World) (p : Addr) (u : Value) : KeepsFrom B W (W.setCell p u) := (KeepsOthers.setCell W p u).from B

theorem pwI_sq {w W : World} {a : Nat} {pre : List Bool} {b : Bool} (hA : Boxed W w.heap.size 5 (.int .u8 ((pw a pre).2 : Int)))
    (hP : Boxed W (w.heap.size + 1) 5 (.int .u8 ((pw a (pre ++ [b])).1 : Int))) (hB : Below w.heap.size w W) (hs : w.heap.size + 3 ≤ W.heap.size) :
    PwI w a (pre ++ [b]) (W.setCell ⟨w.heap.size, 0, none⟩ (.int .u8 (Gf.gmul (pw a pre).2 (pw a pre).2 : Int))) := by
  have e : (pw a (pre ++ [b])).2 = Gf.gmul (pw a pre).2 (pw a pre).2 := by rw [pw_snoc]; rfl
  refine ⟨?_, boxed_far (p := ⟨w.heap.size, 0, none⟩) hP (by simp) _, hB.setCell (p := ⟨w.heap.size, 0, none⟩) (Nat.le_refl _) _, by rw [setCell_size]; exact hs⟩
  rw [e]
  exact hA.set _
theorem pwI_mul {w W : World} {a : Nat} {pre : List Bool} (hA : Boxed W w.heap.size 5 (.int .u8 ((pw a pre).2 : Int)))
    (hP : Boxed W (w.heap.size + 1) 5 (.int .u8 ((pw a pre).1 : Int))) (hB : Below w.heap.size w W) (hs : w.heap.size + 3 ≤ W.heap.size) :
    PwI w a (pre ++ [true]) ((W.setCell ⟨w.heap.size + 1, 0, none⟩ (.int .u8 (Gf.gmul (pw a pre).1 (pw a pre).2 : Int))).setCell ⟨w.heap.size, 0, none⟩ (.int .u8 (Gf.gmul (pw a pre).2 (pw a pre).2 : Int))) := by
  have e : (pw a (pre ++ [true])).1 = Gf.gmul (pw a pre).1 (pw a pre).2 := by rw [pw_snoc]; rfl
  refine pwI_sq (boxed_far (p := ⟨w.heap.size + 1, 0, none⟩) hA (by simp) _) ?_ (hB.setCell (p := ⟨w.heap.size + 1, 0, none⟩) (by show w.heap.size ≤ w.heap.size + 1; omega) _) (by rw [setCell_size]; exact hs)
  rw [e]
  exact hP.set _

set_option maxRecDepth 100000 in
set_option maxHeartbeats 2000000 in
theorem power_in (F : Fence) (n : Nat) (h41 : F.fn 65) (h42 : F.fn 66) (h43 : F.fn 67) (h30 : F.fn 52) (hro : F.round = none) (hn : 3 ≤ n)
    (hmul : ∀ (k a b : Nat) (W : World), a < 256 → b < 256 → CallsIn F k Try.prog 52 #[.int .u8 (a : Int), .int .u8 (b : Int)] W fun e w' => e = .returned (.int .u8 (Gf.gmul a b : Int)) ∧ w' = W)
    (a m : Nat) (ha : a < 256) (hm : m < 2 ^ 62) (w : World) :
    CallsIn F n Try.prog 65 #[.int .u8 (a : Int), .int .i64 (m : Int)] w fun e W' => e = .returned (.int .u8 ((pw a (bitsOf 62 m)).1 : Int)) ∧ Below w.heap.size w W' := by
  have h1 : 1 ≤ n := by omega
  refine callsIn_of_wp_marks Try.func65 rfl h41 ?_ hro
  simp only [Try.ntmps65, List.size_toArray, List.length_cons, List.length_nil, Nat.reduceAdd, Nat.reduceSub, Array.replicate_succ, Array.replicate_zero, List.push_toArray, List.append_toArray, List.nil_append, List.cons_append]
  gi_wp2_with (gi_at_call 66; refine (mkbinary_in F (n - 1) h42 hro _ _).mono ?_; rintro e w' ⟨rfl, rfl⟩)
  have bA := ((Boxed.new w 5 (.int .u8 (a : Int))).alloc (.cells #[.int .u8 1] 5)).alloc (.cells #[.int .i64 (m : Int)] 3)
  have bP := (Boxed.new (w.alloc (.cells #[.int .u8 (a : Int)] 5)) 5 (.int .u8 1)).alloc (.cells #[.int .i64 (m : Int)] 3)
  have bN := Boxed.new ((w.alloc (.cells #[.int .u8 (a : Int)] 5)).alloc (.cells #[.int .u8 1] 5)) 3 (.int .i64 (m : Int))
  have hB0 : Below w.heap.size w (((w.alloc (.cells #[.int .u8 (a : Int)] 5)).alloc (.cells #[.int .u8 1] 5)).alloc (.cells #[.int .i64 (m : Int)] 3)) :=
    (((Below.refl _ w).alloc (Nat.le_refl _) _).alloc (by simp) _).alloc (by simp; omega) _
  have hsz : (((w.alloc (.cells #[.int .u8 (a : Int)] 5)).alloc (.cells #[.int .u8 1] 5)).alloc (.cells #[.int .i64 (m : Int)] 3)).heap.size = w.heap.size + 3 := by simp
  rw [World.size_alloc] at bP
  rw [World.size_alloc, World.size_alloc] at bN
  generalize ((w.alloc (.cells #[.int .u8 (a : Int)] 5)).alloc (.cells #[.int .u8 1] 5)).alloc (.cells #[.int .i64 (m : Int)] 3) = w3 at *
  refine range_all hro h1 (gf := 67) (lb := #[.pointer (some ⟨w.heap.size + 1 + 1, 0, none⟩)]) rfl h43 (enters_of Try.func67 (by kernel_rfl) rfl)
    (fun x : Bool => #[.bool x]) (fun W W' => W'.heap[w.heap.size + 2]? = W.heap[w.heap.size + 2]?) (fun xs => xs = bitsOf 62 m)
    (fun h k => k.trans h) (fun W l o' hl => World.putObj_heap_other (by omega)) (fun _ => rfl)
    (PwI w a) ?hI ?h0
    (fun x => { tmps := #[.int .u8 (a : Int), .int .i64 (m : Int), .pointer (some ⟨w.heap.size, 0, none⟩), undef, .int .u8 0, .pointer (some ⟨w.heap.size + 1, 0, none⟩), .bool x,
      .int .i64 (m : Int), .func (.func 67) #[] #[.pointer (some ⟨w.heap.size + 1 + 1, 0, none⟩)], .bool x, undef, undef, undef, undef, undef, undef, undef, undef], defers := [] }) ?hassign ?hbody ?hiter ?hdone
  case hI =>
    rintro s W l o o' ⟨h1, h2, h3, h4⟩ hl hlo hc
    exact ⟨boxed_put h1 o' hlo hc, boxed_put h2 o' hlo hc, below_put h3 (by omega) _, by simpa using h4⟩
  case h0 =>
    intro o o'
    exact ⟨(bA.alloc o).alloc o', (bP.alloc o).alloc o', (hB0.alloc (by omega) o).alloc (by simp; omega) o', by simp; omega⟩
  case hassign =>
    intro l x W K hK
    gi_wp2
    exact hK
  case hbody =>
    rintro l pre x W ⟨hA, hP, hB, hs⟩
    obtain ⟨l1, l2⟩ := pw_lt ha pre
    have cA := hA.cell
    have cP := hP.cell
    have fP := hP.frozen
    have fA := hA.frozen
    have hlt1 : Gf.gmul (pw a pre).1 (pw a pre).2 < 256 := Gf.gmul_lt _ l1
    have HA := Lib.hid hA
    have HP := Lib.hid hP
    have HB := Lib.hid hB
    have HS := Lib.hid hs
    have HW3 := Lib.hid hsz
    clear hA hP hB hs hsz bA bP bN hB0
    have hm1 : ∀ W', CallsIn (F.inRound l) (n - 1 - 1 - 1) Try.prog 52 #[.int .u8 ((pw a pre).1 : Int), .int .u8 ((pw a pre).2 : Int)] W' fun e w' => e = .returned (.int .u8 (Gf.gmul (pw a pre).1 (pw a pre).2 : Int)) ∧ w' = W' :=
      fun W' => CallsIn.inRound l (hmul _ _ _ W' l1 l2)
    have hm2 : ∀ W', CallsIn (F.inRound l) (n - 1 - 1 - 1) Try.prog 52 #[.int .u8 ((pw a pre).2 : Int), .int .u8 ((pw a pre).2 : Int)] W' fun e w' => e = .returned (.int .u8 (Gf.gmul (pw a pre).2 (pw a pre).2 : Int)) ∧ w' = W' :=
      fun W' => CallsIn.inRound l (hmul _ _ _ W' l2 l2)
    have HM1 := Lib.hid hm1
    have HM2 := Lib.hid hm2
    have hd : 1 ≤ n - 1 - 1 := by omega
    clear hm1 hm2 hmul
    cases x
    · gi_wp2_with (gi_at_call 52; refine (HM2.out _).mono ?_; rintro e w' ⟨rfl, rfl⟩)
      exact ⟨keepsFrom_set _ _ _, Below.heap_setCell _ _ _ _ (by simp), pwI_sq HA.out (by rw [pw_snoc]; exact HP.out) HB.out HS.out⟩
    · gi_wp2_with (first | (gi_at_call 52; (with_reducible refine (HM1.out _).mono ?_); rintro e w' ⟨rfl, rfl⟩) | (gi_at_call 52; (with_reducible refine (HM2.out _).mono ?_); rintro e w' ⟨rfl, rfl⟩))
      exact ⟨(keepsFrom_set _ _ _).trans (keepsFrom_set _ _ _), (Below.heap_setCell _ _ _ _ (by simp)).trans (Below.heap_setCell _ _ _ _ (by simp)), pwI_mul HA.out HP.out HB.out HS.out⟩
  case hiter =>
    intro l J W hJ1 hJ2 hY hJ0 hW
    obtain ⟨o, o', hW⟩ := hW
    refine binary_in F (n - 1) h43 hro (by omega) l _ m 62 hm (by omega) J ?_ hY W ?_ hJ0
    · intro pre W1 v hj hb u
      obtain ⟨⟨h1, h2, h3, h4⟩, _⟩ := hJ1 _ _ hj
      refine hJ2 _ _ _ hj ⟨boxed_far h1 (by simp) u, boxed_far h2 (by simp) u, h3.setCell (by show w.heap.size ≤ w.heap.size + 2; omega) u, by rw [setCell_size]; exact h4⟩ (by rw [setCell_size]; exact Nat.le_refl _) ?_
      intro k _ ob hk ho
      exact (KeepsOthers.setCell W1 _ u).same k ob hk ho
    · rw [hW]; exact (bN.alloc o).alloc o'
  case hdone =>
    rintro xs W rfl ⟨hA, hP, hB, hs⟩ hD
    have cP := hP.cell
    gi_wp2
    refine ⟨by simp, .inl ⟨_, _, rfl, run_takeDeferred hD, ?_⟩⟩
    exact ⟨_, results_tmp rfl _ _ _, rfl, below_put hB (by omega) _⟩

theorem power_n (a m : Nat) (ha : a < 256) (hm : m < 2 ^ 62) (w : World) :
    Calls Try.prog 65 #[.int .u8 (a : Int), .int .i64 (m : Int)] w fun e W' => e = .returned (.int .u8 ((pw a (bitsOf 62 m)).1 : Int)) ∧ Below w.heap.size w W' :=
  callsIn_wide.1 (power_in Fence.wide 10 trivial trivial trivial trivial rfl (by omega) (fun k a b W ha hb => callsIn_wide.2 (gmul_n a b ha hb W)) a m ha hm w)

set_option maxRecDepth 100000 in
set_option maxHeartbeats 400000 in
theorem ginv_n (a : Nat) (ha : a < 256) (w : World) :
    Calls Try.prog 63 #[.int .u8 (a : Int)] w fun e w' => e = .returned (.tuple #[.int .u8 (Gf.ginv a : Int), .bool (!Nat.beq a 0)]) ∧ Below w.heap.size w w' := by
  rcases Nat.eq_zero_or_pos a with h0 | h0
  · have HC := Lib.hid (show Ending.returned (.tuple #[.int .u8 (0 : Int), .bool false]) = .returned (.tuple #[.int .u8 (Gf.ginv a : Int), .bool (!Nat.beq a 0)]) by rw [h0]; rfl)
    have ht : ((a : Int) == 0) = true := by rw [h0]; rfl
    clear h0
    go_enter Try.func63, Try.ntmps63
    go_wp2
    go_ret2
    exact ⟨HC.out, Below.refl _ _⟩
  · have hb : Nat.beq a 0 = false := by
      cases hb : Nat.beq a 0 with
      | true => have := Nat.eq_of_beq_eq_true hb; omega
      | false => rfl
    have HC := Lib.hid (show Ending.returned (.tuple #[.int .u8 ((pw a (bitsOf 62 254)).1 : Int), .bool true]) = .returned (.tuple #[.int .u8 (Gf.ginv a : Int), .bool (!Nat.beq a 0)]) by rw [pw_254, hb]; rfl)
    clear hb
    go_enter Try.func63, Try.ntmps63
    go_wp2_with (go_at_call 65; refine (power_n a 254 ha (by omega) _).mono ?_; rintro e w1 ⟨rfl, hb1⟩)
    go_ret2
    exact ⟨HC.out, by assumption⟩

set_option maxRecDepth 100000 in
set_option maxHeartbeats 400000 in
theorem gdiv_n (a b : Nat) (ha : a < 256) (hb : b < 256) (w : World) :
    Calls Try.prog 54 #[.int .u8 (a : Int), .int .u8 (b : Int)] w fun e w' => e = .returned (.tuple #[.int .u8 (Gf.gmul a (Gf.ginv b) : Int), .bool (!Nat.beq b 0)]) ∧ Below w.heap.size w w' := by
  have hl := ginv_lt hb
  go_enter Try.func54, Try.ntmps54
  go_wp2_with (first | (go_at_call 63; refine (ginv_n b hb _).mono ?_; rintro e w1 ⟨rfl, hb1⟩) | (go_at_call 52; refine (gmul_n a (Gf.ginv b) ha hl _).mono ?_; rintro e w1 ⟨rfl, rfl⟩))
  go_ret2
  exact ⟨rfl, by assumption⟩
end Go.Proofs.Ytogcgeiocndlbaa
