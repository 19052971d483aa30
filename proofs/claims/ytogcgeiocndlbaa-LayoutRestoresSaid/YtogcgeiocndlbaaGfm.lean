/- Plain arithmetic of GF(256): the field laws of the byte product, no program in sight. -/
import Derived.KernelRfl
namespace Go.Proofs.Ytogcgeiocndlbaa
namespace Gf

def dbl (a : Nat) : Nat := bif Nat.ble 128 a then Nat.xor (a * 2 % 256) 29 else a * 2
def sel (p : Bool) (a : Nat) : Nat := bif p then a else 0
def st (b k a s : Nat) : Nat := Nat.xor s (sel (Nat.beq (Nat.land (Nat.shiftRight b k) 1) 1) a)
def gmul (a b : Nat) : Nat :=
  let a1 := dbl a; let a2 := dbl a1; let a3 := dbl a2; let a4 := dbl a3; let a5 := dbl a4; let a6 := dbl a5; let a7 := dbl a6
  st b 7 a7 (st b 6 a6 (st b 5 a5 (st b 4 a4 (st b 3 a3 (st b 2 a2 (st b 1 a1 (st b 0 a 0)))))))
def allN (n : Nat) (p : Nat → Bool) : Bool := Nat.rec true (fun n r => p n && r) n
theorem allN_spec {n : Nat} {p : Nat → Bool} (h : allN n p = true) : ∀ i, i < n → p i = true := by
  induction n with
  | zero => intro i hi; omega
  | succ n ih =>
    have h' : (p n && allN n p) = true := h
    rw [Bool.and_eq_true] at h'
    intro i hi
    rcases Nat.lt_succ_iff_lt_or_eq.1 hi with h1 | h1
    · exact ih h'.2 i h1
    · subst h1; exact h'.1

theorem comm_chk : allN 256 (fun a => allN 256 fun b => Nat.beq (gmul a b) (gmul b a)) = true := by decide +kernel
theorem dbl_chk : allN 256 (fun a => allN 256 fun b => Nat.beq (dbl (Nat.xor a b)) (Nat.xor (dbl a) (dbl b))) = true := by decide +kernel
theorem dbl_lt_chk : allN 256 (fun a => Nat.blt (dbl a) 256) = true := by decide +kernel
theorem one_chk : allN 256 (fun a => Nat.beq (gmul a 1) a) = true := by decide +kernel

theorem gmul_comm {a b : Nat} (ha : a < 256) (hb : b < 256) : gmul a b = gmul b a := Nat.eq_of_beq_eq_true (allN_spec (allN_spec comm_chk a ha) b hb)
theorem dbl_xor {a b : Nat} (ha : a < 256) (hb : b < 256) : dbl (a ^^^ b) = dbl a ^^^ dbl b := Nat.eq_of_beq_eq_true (allN_spec (allN_spec dbl_chk a ha) b hb)
theorem dbl_lt {a : Nat} (ha : a < 256) : dbl a < 256 := Nat.le_of_ble_eq_true (allN_spec dbl_lt_chk a ha)
theorem gmul_one {a : Nat} (ha : a < 256) : gmul a 1 = a := Nat.eq_of_beq_eq_true (allN_spec one_chk a ha)
theorem xor_lt {a b : Nat} (ha : a < 256) (hb : b < 256) : a ^^^ b < 256 := Nat.xor_lt_two_pow (n := 8) ha hb
theorem sel_lt {p : Bool} {a : Nat} (ha : a < 256) : sel p a < 256 := by cases p <;> simp [sel, ha]
theorem sel_xor (p : Bool) (a b : Nat) : sel p (a ^^^ b) = sel p a ^^^ sel p b := by cases p <;> simp [sel]
theorem sel_bxor (p q : Bool) (a : Nat) : sel (p ^^ q) a = sel p a ^^^ sel q a := by cases p <;> cases q <;> simp [sel]
theorem dbl_zero : dbl 0 = 0 := rfl
theorem dbl_sel (p : Bool) (a : Nat) : dbl (sel p a) = sel p (dbl a) := by cases p <;> simp [sel, dbl_zero]

/-- bit k of b -/
def bt (b k : Nat) : Bool := Nat.beq (Nat.land (Nat.shiftRight b k) 1) 1
theorem bt_eq (b k : Nat) : bt b k = b.testBit k := by
  rw [Nat.testBit_eq_decide_div_mod_eq]
  have h : Nat.land (Nat.shiftRight b k) 1 = b / 2 ^ k % 2 := by
    show (b >>> k) &&& 1 = _
    rw [Nat.and_one_is_mod, Nat.shiftRight_eq_div_pow]
  unfold bt
  rw [h]
  by_cases h1 : b / 2 ^ k % 2 = 1
  · rw [h1]; simp
  · have : Nat.beq (b / 2 ^ k % 2) 1 = false := by
      cases hb : Nat.beq (b / 2 ^ k % 2) 1 with
      | true => exact absurd (Nat.eq_of_beq_eq_true hb) h1
      | false => rfl
    rw [this]; simp [h1]
theorem bt_xor (b c k : Nat) : bt (b ^^^ c) k = (bt b k ^^ bt c k) := by rw [bt_eq, bt_eq, bt_eq, Nat.testBit_xor]
def d (k : Nat) (a : Nat) : Nat := match k with | 0 => a | k + 1 => dbl (d k a)
theorem gmul_eq (a b : Nat) : gmul a b = (((((((0 ^^^ sel (bt b 0) (d 0 a)) ^^^ sel (bt b 1) (d 1 a)) ^^^ sel (bt b 2) (d 2 a)) ^^^ sel (bt b 3) (d 3 a)) ^^^ sel (bt b 4) (d 4 a)) ^^^ sel (bt b 5) (d 5 a)) ^^^ sel (bt b 6) (d 6 a)) ^^^ sel (bt b 7) (d 7 a) := rfl
theorem d_lt {a : Nat} (ha : a < 256) : ∀ k, d k a < 256
  | 0 => ha
  | k + 1 => dbl_lt (d_lt ha k)
theorem d_xor {a b : Nat} (ha : a < 256) (hb : b < 256) : ∀ k, d k (a ^^^ b) = d k a ^^^ d k b
  | 0 => rfl
  | k + 1 => by show dbl (d k (a ^^^ b)) = _; rw [d_xor ha hb k, dbl_xor (d_lt ha k) (d_lt hb k)]; rfl
theorem gmul_lt {a : Nat} (b : Nat) (ha : a < 256) : gmul a b < 256 := by
  rw [gmul_eq]
  refine xor_lt (xor_lt (xor_lt (xor_lt (xor_lt (xor_lt (xor_lt (xor_lt (by omega) ?_) ?_) ?_) ?_) ?_) ?_) ?_) ?_ <;> exact sel_lt (d_lt ha _)
theorem gmul_xor_right (a b c : Nat) : gmul a (b ^^^ c) = gmul a b ^^^ gmul a c := by
  simp only [gmul_eq, bt_xor, sel_bxor, Nat.zero_xor]
  ac_rfl
theorem gmul_xor_left {a b : Nat} (c : Nat) (ha : a < 256) (hb : b < 256) : gmul (a ^^^ b) c = gmul a c ^^^ gmul b c := by
  simp only [gmul_eq, d_xor ha hb, sel_xor, Nat.zero_xor]
  ac_rfl
theorem gmul_zero (a : Nat) : gmul a 0 = 0 := by
  have h : ∀ k, bt 0 k = false := fun k => by rw [bt_eq]; simp
  simp [gmul_eq, h, sel]
theorem d_dbl (a : Nat) : ∀ k, d k (dbl a) = dbl (d k a)
  | 0 => rfl
  | k + 1 => by show dbl (d k (dbl a)) = _; rw [d_dbl a k]; rfl
theorem gmul_dbl {a : Nat} (b : Nat) (ha : a < 256) : gmul (dbl a) b = dbl (gmul a b) := by
  have hs : ∀ k, sel (bt b k) (d k a) < 256 := fun k => sel_lt (d_lt ha k)
  have h0 : (0 : Nat) < 256 := by omega
  have h1 := xor_lt h0 (hs 0)
  have h2 := xor_lt h1 (hs 1)
  have h3 := xor_lt h2 (hs 2)
  have h4 := xor_lt h3 (hs 3)
  have h5 := xor_lt h4 (hs 4)
  have h6 := xor_lt h5 (hs 5)
  have h7 := xor_lt h6 (hs 6)
  rw [gmul_eq a b, dbl_xor h7 (hs 7), dbl_xor h6 (hs 6), dbl_xor h5 (hs 5), dbl_xor h4 (hs 4), dbl_xor h3 (hs 3), dbl_xor h2 (hs 2), dbl_xor h1 (hs 1), dbl_xor h0 (hs 0)]
  simp only [gmul_eq, d_dbl, dbl_sel, dbl_zero]
theorem gmul_d {a b : Nat} (ha : a < 256) (hb : b < 256) : ∀ k, gmul a (d k b) = d k (gmul a b)
  | 0 => rfl
  | k + 1 => by
    show gmul a (dbl (d k b)) = dbl (d k (gmul a b))
    rw [gmul_comm ha (dbl_lt (d_lt hb k)), gmul_dbl _ (d_lt hb k), gmul_comm (d_lt hb k) ha, gmul_d ha hb k]
theorem gmul_sel {a b : Nat} (p : Bool) : gmul a (sel p b) = sel p (gmul a b) := by cases p <;> simp [sel, gmul_zero]
theorem gmul_assoc {a b : Nat} (c : Nat) (ha : a < 256) (hb : b < 256) : gmul (gmul a b) c = gmul a (gmul b c) := by
  rw [gmul_eq b c]
  simp only [gmul_xor_right, gmul_sel, gmul_d ha hb, gmul_zero]
  rw [gmul_eq (gmul a b) c]

/-! the same on bytes -/
def gm (a b : UInt8) : UInt8 := UInt8.ofNat (gmul a.toNat b.toNat)
/-- the sum -/
def ga (a b : UInt8) : UInt8 := a ^^^ b
theorem gm_toNat (a b : UInt8) : (gm a b).toNat = gmul a.toNat b.toNat := by
  unfold gm
  rw [UInt8.toNat_ofNat']
  exact Nat.mod_eq_of_lt (gmul_lt _ a.toNat_lt)
theorem ext {a b : UInt8} (h : a.toNat = b.toNat) : a = b := UInt8.toNat_inj.1 h
theorem gm_comm (a b : UInt8) : gm a b = gm b a := ext (by rw [gm_toNat, gm_toNat, gmul_comm a.toNat_lt b.toNat_lt])
theorem gm_assoc (a b c : UInt8) : gm (gm a b) c = gm a (gm b c) := ext (by rw [gm_toNat, gm_toNat, gm_toNat, gm_toNat, gmul_assoc _ a.toNat_lt b.toNat_lt])
theorem gm_xor (a b c : UInt8) : gm a (b ^^^ c) = gm a b ^^^ gm a c := ext (by rw [gm_toNat, UInt8.toNat_xor, UInt8.toNat_xor, gm_toNat, gm_toNat, gmul_xor_right])
theorem xor_gm (a b c : UInt8) : gm (a ^^^ b) c = gm a c ^^^ gm b c := by rw [gm_comm, gm_xor, gm_comm c a, gm_comm c b]
theorem gm_one (a : UInt8) : gm a 1 = a := ext (by rw [gm_toNat]; exact gmul_one a.toNat_lt)
theorem one_gm (a : UInt8) : gm 1 a = a := by rw [gm_comm, gm_one]
theorem gm_zero (a : UInt8) : gm a 0 = 0 := ext (by rw [gm_toNat]; exact gmul_zero _)
theorem zero_gm (a : UInt8) : gm 0 a = 0 := by rw [gm_comm, gm_zero]
theorem gm_left_comm (a b c : UInt8) : gm a (gm b c) = gm b (gm a c) := by rw [← gm_assoc, gm_comm a b, gm_assoc]

/-- a to the power 254, by repeated squaring -/
def ginv (a : Nat) : Nat :=
  let a2 := gmul a a; let a4 := gmul a2 a2; let a8 := gmul a4 a4; let a16 := gmul a8 a8; let a32 := gmul a16 a16; let a64 := gmul a32 a32; let a128 := gmul a64 a64
  gmul (gmul (gmul (gmul (gmul (gmul (gmul 1 a2) a4) a8) a16) a32) a64) a128
theorem inv_chk : allN 256 (fun a => Nat.beq (gmul a (ginv a)) (bif Nat.beq a 0 then 0 else 1)) = true := by decide +kernel
theorem ginv_lt_chk : allN 256 (fun a => Nat.blt (ginv a) 256) = true := by decide +kernel
def inv (a : UInt8) : UInt8 := UInt8.ofNat (ginv a.toNat)
theorem inv_toNat (a : UInt8) : (inv a).toNat = ginv a.toNat := by
  unfold inv
  rw [UInt8.toNat_ofNat']
  exact Nat.mod_eq_of_lt (Nat.le_of_ble_eq_true (allN_spec ginv_lt_chk _ a.toNat_lt))
theorem gm_inv {a : UInt8} (h : a ≠ 0) : gm a (inv a) = 1 := ext (by
  rw [gm_toNat, inv_toNat, Nat.eq_of_beq_eq_true (allN_spec inv_chk _ a.toNat_lt)]
  have : Nat.beq a.toNat 0 = false := by
    cases hb : Nat.beq a.toNat 0 with
    | true => exact absurd (ext (Nat.eq_of_beq_eq_true hb)) h
    | false => rfl
  rw [this]; rfl)
theorem inv_zero : inv 0 = 0 := by decide +kernel
theorem gm_eq_zero {a b : UInt8} (h : gm a b = 0) : a = 0 ∨ b = 0 := by
  by_cases ha : a = 0
  · exact .inl ha
  · right
    have : gm (inv a) (gm a b) = b := by rw [← gm_assoc, gm_comm (inv a) a, gm_inv ha, one_gm]
    rw [h, gm_zero] at this
    exact this.symm
theorem gm_cancel {a b c : UInt8} (ha : a ≠ 0) (h : gm a b = gm a c) : b = c := by
  have h1 : gm (inv a) (gm a b) = gm (inv a) (gm a c) := by rw [h]
  rwa [← gm_assoc, ← gm_assoc, gm_comm (inv a) a, gm_inv ha, one_gm, one_gm] at h1
theorem inv_unique {a b : UInt8} (h : gm a b = 1) : b = inv a := by
  have ha : a ≠ 0 := by rintro rfl; rw [zero_gm] at h; exact absurd h (by decide)
  exact gm_cancel ha (h.trans (gm_inv ha).symm)
theorem xor_self (a : UInt8) : a ^^^ a = 0 := UInt8.xor_self
theorem xor_eq_zero {a b : UInt8} (h : a ^^^ b = 0) : a = b := by
  have : (a ^^^ b) ^^^ b = 0 ^^^ b := by rw [h]
  rwa [UInt8.xor_assoc, UInt8.xor_self, UInt8.xor_zero, UInt8.zero_xor] at this

/-! the reference's product: the polynomial product, then its reduction from the top -/
def rTop (p k : Nat) : Nat := Nat.xor p (sel (bt p k) (Nat.shiftLeft 285 (k - 8)))
def rSum (a b : Nat) : Nat → Nat
  | 0 => 0
  | k + 1 => Nat.xor (rSum a b k) (sel (bt b k) (Nat.shiftLeft a k))
def rRed (p : Nat) : Nat → Nat
  | 0 => p
  | k + 1 => rRed (rTop p (k + 8)) k
theorem rTop_xor (p q k : Nat) : rTop (p ^^^ q) k = rTop p k ^^^ rTop q k := by
  show (p ^^^ q) ^^^ sel (bt (p ^^^ q) k) _ = (p ^^^ sel (bt p k) _) ^^^ (q ^^^ sel (bt q k) _)
  rw [bt_xor, sel_bxor]; ac_rfl
theorem rRed_xor : ∀ k p q, rRed (p ^^^ q) k = rRed p k ^^^ rRed q k
  | 0, _, _ => rfl
  | k + 1, p, q => by show rRed (rTop (p ^^^ q) (k + 8)) k = _; rw [rTop_xor, rRed_xor k]; rfl
theorem rRed_zero : rRed 0 7 = 0 := by decide +kernel
theorem rRed_sel (p : Bool) (x : Nat) : rRed (sel p x) 7 = sel p (rRed x 7) := by cases p <;> simp [sel, rRed_zero]
def red7 (p : Nat) : Nat := rTop (rTop (rTop (rTop (rTop (rTop (rTop p 14) 13) 12) 11) 10) 9) 8
theorem rd_chk : allN 256 (fun a => Nat.beq (red7 (Nat.shiftLeft a 0)) (d 0 a) && Nat.beq (red7 (Nat.shiftLeft a 1)) (d 1 a) && Nat.beq (red7 (Nat.shiftLeft a 2)) (d 2 a) && Nat.beq (red7 (Nat.shiftLeft a 3)) (d 3 a)
    && Nat.beq (red7 (Nat.shiftLeft a 4)) (d 4 a) && Nat.beq (red7 (Nat.shiftLeft a 5)) (d 5 a) && Nat.beq (red7 (Nat.shiftLeft a 6)) (d 6 a) && Nat.beq (red7 (Nat.shiftLeft a 7)) (d 7 a)) = true := by decide +kernel
theorem rmul_eq {a b : Nat} (ha : a < 256) : rRed (rSum a b 8) 7 = gmul a b := by
  have h := allN_spec rd_chk a ha
  simp only [Bool.and_eq_true] at h
  obtain ⟨⟨⟨⟨⟨⟨⟨h0, h1⟩, h2⟩, h3⟩, h4⟩, h5⟩, h6⟩, h7⟩ := h
  have e : ∀ p, rRed p 7 = red7 p := fun _ => rfl
  have hs : rSum a b 8 = (((((((0 ^^^ sel (bt b 0) (Nat.shiftLeft a 0)) ^^^ sel (bt b 1) (Nat.shiftLeft a 1)) ^^^ sel (bt b 2) (Nat.shiftLeft a 2)) ^^^ sel (bt b 3) (Nat.shiftLeft a 3)) ^^^ sel (bt b 4) (Nat.shiftLeft a 4)) ^^^ sel (bt b 5) (Nat.shiftLeft a 5)) ^^^ sel (bt b 6) (Nat.shiftLeft a 6)) ^^^ sel (bt b 7) (Nat.shiftLeft a 7) := rfl
  rw [hs]
  simp only [rRed_xor, rRed_sel, rRed_zero]
  simp only [e, Nat.eq_of_beq_eq_true h0, Nat.eq_of_beq_eq_true h1, Nat.eq_of_beq_eq_true h2, Nat.eq_of_beq_eq_true h3, Nat.eq_of_beq_eq_true h4, Nat.eq_of_beq_eq_true h5, Nat.eq_of_beq_eq_true h6, Nat.eq_of_beq_eq_true h7]
  exact (gmul_eq a b).symm
theorem sel_if (p k a : Nat) : sel (bt p k) a = if p / 2 ^ k % 2 = 1 then a else 0 := by
  rw [bt_eq, Nat.testBit_eq_decide_div_mod_eq]
  by_cases h : p / 2 ^ k % 2 = 1 <;> simp [sel, h]
theorem rTop_lt {p k : Nat} (hp : p < 32768) (hk : k ≤ 14) : rTop p k < 32768 := by
  unfold rTop
  rw [sel_if]
  refine Nat.xor_lt_two_pow (n := 15) hp ?_
  split
  · show 285 <<< (k - 8) < _
    rw [Nat.shiftLeft_eq]
    have : 2 ^ (k - 8) ≤ 2 ^ 6 := Nat.pow_le_pow_right (by omega) (by omega)
    omega
  · omega
theorem rSum_lt {a : Nat} (b : Nat) (ha : a < 256) : ∀ k, rSum a b k < 2 ^ (k + 7)
  | 0 => by simp [rSum]
  | k + 1 => by
    have h := rSum_lt b ha k
    have h1 : a <<< k < 2 ^ (k + 1 + 7) := by
      rw [Nat.shiftLeft_eq]
      have : 2 ^ (k + 1 + 7) = 256 * 2 ^ k := by rw [Nat.pow_add, Nat.pow_succ]; omega
      rw [this]; exact Nat.mul_lt_mul_of_pos_right (by omega) (Nat.two_pow_pos k)
    have h2 : rSum a b k < 2 ^ (k + 1 + 7) := Nat.lt_trans h (Nat.pow_lt_pow_right (by omega) (by omega))
    unfold rSum
    rw [sel_if]
    refine Nat.xor_lt_two_pow h2 ?_
    split
    · exact h1
    · exact Nat.two_pow_pos _

end Gf
end Go.Proofs.Ytogcgeiocndlbaa
