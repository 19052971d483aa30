/- The law LayoutConcatenation of stelelaw16 returns true for every input, and each argument reads behind the call as it read before. No conditions. -/
import Derived.Test.YtogcgeiocndlbaaLj
namespace Go.Proofs.Ytogcgeiocndlbaa
namespace LayoutConcatenation
open Go.RowKit Ly

theorem nst_app {D m : Nat} (hD : 1 ≤ D) {a : List UInt8} (b : List UInt8) (ha : a.length = 28 * D * m) : nst D (a ++ b) = m + nst D b ∧ nst D a = m := by
  have h1 : 0 < 28 * D := by omega
  unfold nst
  rw [List.length_append, ha]
  generalize 28 * D = c at *
  constructor
  · rw [show c * m + b.length + (c - 1) = (b.length + (c - 1)) + c * m by omega, Nat.add_mul_div_left _ _ h1, Nat.add_comm]
  · rw [show c * m + (c - 1) = (c - 1) + c * m by omega, Nat.add_mul_div_left _ _ h1, Nat.div_eq_of_lt (by omega), Nat.zero_add]
theorem blk_left {D m q b : Nat} {l r : List UInt8} (hl : l.length = 28 * D * m) (hq : q < m) (hb : b < D) : blkAt (l ++ r) (q * D + b) = blkAt l (q * D + b) := by
  unfold blkAt
  refine List.map_congr_left fun i hi => ?_
  have hi := List.mem_range.1 hi
  have h1 : 28 * (q * D + b) + i < l.length := by
    rw [hl]
    have h2 : q * D + b + 1 ≤ m * D := by
      have h3 : (q + 1) * D ≤ m * D := Nat.mul_le_mul_right _ hq
      rw [Nat.add_mul, Nat.one_mul] at h3
      omega
    have h4 : 28 * (q * D + b + 1) ≤ 28 * (m * D) := Nat.mul_le_mul_left _ h2
    rw [Nat.mul_assoc, Nat.mul_comm D m]
    omega
  rw [List.getD, List.getD, List.getElem?_append_left h1]
theorem blk_right {D m q b : Nat} {l r : List UInt8} (hl : l.length = 28 * D * m) : blkAt (l ++ r) ((m + q) * D + b) = blkAt r (q * D + b) := by
  unfold blkAt
  refine List.map_congr_left fun i hi => ?_
  have e : 28 * ((m + q) * D + b) + i = l.length + (28 * (q * D + b) + i) := by
    rw [hl, Nat.add_mul, Nat.mul_assoc 28 D m, Nat.mul_comm D m]
    omega
  rw [List.getD, List.getD, e, List.getElem?_append_right (by omega)]
  congr 2
  omega
theorem strs_app {D S m : Nat} (hD : 1 ≤ D) {a : List UInt8} (b : List UInt8) (ha : a.length = 28 * D * m) : strs D S (a ++ b) = strs D S a ++ strs D S b := by
  obtain ⟨h1, h2⟩ := nst_app hD b ha
  unfold strs
  rw [h1, h2, List.range_add, List.map_append, List.map_map]
  congr 1
  · refine List.map_congr_left fun q hq => ?_
    have hq := List.mem_range.1 hq
    have e : dat D (a ++ b) q = dat D a q := by
      unfold dat
      refine List.map_congr_left fun i hi => ?_
      rw [blk_left ha hq (List.mem_range.1 hi)]
    unfold strp
    rw [e]
  · refine List.map_congr_left fun q _ => ?_
    have e : dat D (a ++ b) (m + q) = dat D b q := by
      unfold dat
      refine List.map_congr_left fun i _ => ?_
      rw [blk_right ha]
    show strp D S (a ++ b) (m + q) = _
    unfold strp
    rw [e]
theorem bl_app (a b : ByteArray) : bl (a ++ b) = bl a ++ bl b := by simp [bl, ByteArray.data_append]
theorem strs_len_le {D S : Nat} (hD : 1 ≤ D) (l : List UInt8) : (strs D S l).length ≤ l.length := by
  unfold strs
  rw [List.length_map, List.length_range]
  exact nst_le hD (Nat.le_mul_of_pos_left _ (by omega))

/-- append, where a guard that says yes stands ahead -/
theorem wpl_append_slG {P : Program} (w : World) {ops : Array Oper} {rest : List Oper} {o : Oper} {a : Act} {Q : Exit → Act → World → Prop} (hw : Region.wanted o (yielded ops a.tmps) = true) (s x : Operand) (t : TypeId)
    (ho : o.op = .call { callee := .builtin .append, args := #[s, x], argTypes := #[t, t] })
    (base : Nat) (e : TypeId) (i : TypeInfo) (z : Value) (size bytes : Nat) (ht : P.underlying t = some (.slice e)) (hi : P.info? e = some i) (hz : i.zero = some z)
    (hsize : i.size = size) (hby : i.bytes = bytes) (hzs : z.cells.size = size) (hsz : 0 < size)
    (v : Value) (n : Nat) (xs : List Value) (hs : a.eval s = v) (hown : w.ownsRow base e size v n xs)
    (A : Option Addr) (m c : Nat) (news : List Value) (hx : a.eval x = .slice A m c) (hr : Sl w size A m c news) (h1 : ∀ u ∈ news, u.oneCell' = true)
    (h63 : n + m ≤ maxLen) (hbytes : (n + m) * bytes ≤ 140737488355328) (hbase : base ≤ w.heap.size)
    (h : ∀ v' w', w'.ownsRow base e size v' (n + m) (xs ++ news) → w.grownBy w' v.ownBlock → (v'.ownBlock = v.ownBlock ∨ v'.ownBlock = some w.heap.size) → wpList P ops Q rest (a.put o.dst v') w') : wpList P ops Q (o :: rest) a w := by
  refine wpList_step fun K hK => ?_
  rw [if_pos hw]
  obtain ⟨v', w', hrun, h2, h3, h4⟩ := run_append_sl (P := P) w base t o.type e i z size bytes ht hi hz hsize hby hzs hsz v n xs hown A m c news hr h1 h63 hbytes hbase
  unfold Oper.wp execOp
  simp only [ho, resolve, invoke, builtin, Sem.run_bind, Sem.run_pure, Result.andThen_ok, List.map_toArray, List.map_cons, List.map_nil, hs, hx, hrun]
  exact hK _ _ (h v' w' h2 h3 h4)

/-- the rows vs read as L -/
def RV (w : World) (vs : List Value) (L : List (List ByteArray)) : Prop := vs.length = L.length ∧ ∀ k (h : k < L.length), ∃ A' c', vs[k]? = some (.slice A' L[k].length c') ∧ Lst Value.string w A' L[k].length c' L[k]
theorem RV.of {w : World} {B : Nat} {vs : List Value} {L : List (List ByteArray)} (hr : RowsOk w B vs L) : RV w vs L :=
  ⟨hr.1, fun k hk => by
    obtain ⟨u, h1, h2⟩ := hr.2 k hk
    obtain ⟨A', c', rfl, h3, _⟩ := lst_own h2
    exact ⟨A', c', h1, h3⟩⟩
theorem RV.below {w w' : World} {vs : List Value} {L : List (List ByteArray)} (h : RV w vs L) (hb : Below w.heap.size w w') : RV w' vs L :=
  ⟨h.1, fun k hk => by obtain ⟨A', c', h4, h5⟩ := h.2 k hk; exact ⟨A', c', h4, h5.below hb⟩⟩
theorem RV.app {w : World} {vs us : List Value} {L M : List (List ByteArray)} (h : RV w vs L) (h' : RV w us M) : RV w (vs ++ us) (L ++ M) := by
  refine ⟨by rw [List.length_append, List.length_append, h.1, h'.1], fun k hk => ?_⟩
  by_cases hkl : k < L.length
  · obtain ⟨A', c', h4, h5⟩ := h.2 k hkl
    refine ⟨A', c', ?_, ?_⟩
    · rw [List.getElem?_append_left (by rw [h.1]; exact hkl), List.getElem_append_left hkl]; exact h4
    · rw [List.getElem_append_left hkl]; exact h5
  · have hk2 : k - L.length < M.length := by rw [List.length_append] at hk; omega
    obtain ⟨A', c', h4, h5⟩ := h'.2 (k - L.length) hk2
    refine ⟨A', c', ?_, ?_⟩
    · rw [List.getElem?_append_right (by rw [h.1]; omega), List.getElem_append_right (by omega), h.1]; exact h4
    · rw [List.getElem_append_right (by omega)]; exact h5

set_option maxRecDepth 100000 in
set_option maxHeartbeats 2000000 in
theorem core (w : World) (d t : Int) (a b : ByteArray) (ha : a.size ≤ maxLen) (hb : b.size ≤ maxLen) :
    Calls Try.prog 4 #[.agg #[.int .i64 d, .int .i64 t], .string a, .string b] w fun e w' => e = .returned (.bool true) ∧ Below w.heap.size w w' := by
  have ha1 : a.size ≤ 9223372036854775807 := by unfold maxLen at ha; omega
  have hb1 : b.size ≤ 9223372036854775807 := by unfold maxLen at hb; omega
  clear ha hb
  go_enter Try.func4, Try.ntmps4
  go_wp2_with fail
  refine (alive_f _).mono ?_
  rintro e w1 ⟨rfl, hb⟩
  have HL := Lib.hid ((Blk.new w 23 #[.int .i64 d, .int .i64 t]).below hb)
  have HB1 := Lib.hid (((Below.refl w.heap.size w).alloc (Nat.le_refl _) (.cells #[.int .i64 d, .int .i64 t] 23)).trans (hb.mono (by simp)))
  clear hb
  have c0 := HL.out.cell 0
  have c1 := HL.out.cell 1
  simp only [List.getElem?_toArray, List.getElem?_cons_zero, List.getElem?_cons_succ] at c0 c1
  by_cases hok : okL d t
  · have HC := Lib.hid (fun W => check_yes d t hok W)
    obtain ⟨h1, h2, h3, h4⟩ := hok
    obtain ⟨D, rfl⟩ := Int.eq_ofNat_of_zero_le (show 0 ≤ d by omega)
    obtain ⟨S, rfl⟩ := Int.eq_ofNat_of_zero_le h3
    have hD : 1 ≤ D := by omega
    have hD8 : D ≤ 8 := by omega
    have hS : S ≤ 7 := by omega
    clear h1 h2 h3 h4
    go_wp2_with fail
    refine (HC.out _).mono ?_
    rintro e w2 ⟨rfl, hb⟩
    have HL2 := Lib.hid (HL.out.below hb)
    have HB2 := Lib.hid (HB1.out.trans (hb.mono HB1.out.size))
    clear hb c0 c1 HL HB1 HC
    by_cases hbig : 600 < a.size
    · go_wp2_with fail
      go_ret
      exact ⟨rfl, HB2.out⟩
    have hbigd : decide ((600 : Int) < a.size) = false := decide_eq_false (by omega)
    by_cases hbig2 : 600 < b.size
    · go_wp2_with fail
      go_ret
      exact ⟨rfl, HB2.out⟩
    have hbigd2 : decide ((600 : Int) < b.size) = false := decide_eq_false (by omega)
    obtain ⟨N, m, hN, hNa, hNm⟩ : ∃ N m : Nat, (a.size : Int) - (a.size : Int) % (28 * (D : Int)) = (N : Int) ∧ N ≤ a.size ∧ N = 28 * D * m := by
      refine ⟨28 * D * (a.size / (28 * D)), a.size / (28 * D), ?_, Nat.mul_div_le _ _, rfl⟩
      have h1 := Nat.div_add_mod a.size (28 * D)
      have h2 : (a.size : Int) % (28 * (D : Int)) = ((a.size % (28 * D) : Nat) : Int) := by
        rw [Int.natCast_emod, Int.natCast_mul]; rfl
      rw [h2]
      omega
    have HM := Lib.hid hNm
    have c0 := HL2.out.cell 0
    have c1 := HL2.out.cell 1
    simp only [List.getElem?_toArray, List.getElem?_cons_zero, List.getElem?_cons_succ] at c0 c1
    clear hNm
    go_wp2_with fail
    obtain ⟨a', ha'⟩ : ∃ a', a' = a.extract 0 N := ⟨_, rfl⟩
    have hsz : a'.size = N := by rw [ha', ByteArray.size_extract]; omega
    have HLA := Lib.hid (show (bl a').length = 28 * D * m by rw [← HM.out, ← hsz]; simp [bl])
    rw [← ha']
    clear ha' hN
    have HZ := Lib.hid (show strs D S (bl (a' ++ b)) = strs D S (bl a') ++ strs D S (bl b) by rw [bl_app]; exact strs_app hD (bl b) HLA.out)
    have hn1 := strs_len_le (S := S) hD (bl a')
    have hn2 := strs_len_le (S := S) hD (bl b)
    have hla : (bl a').length = a'.size := by simp [bl]
    have hlb : (bl b).length = b.size := by simp [bl]
    have HN1 := Lib.hid (show (strs D S (bl a')).length ≤ 600 by omega)
    have HN2 := Lib.hid (show (strs D S (bl b)).length ≤ 600 by omega)
    have hsz' : a'.size ≤ 600 := by omega
    have hbz' : b.size ≤ 600 := by omega
    clear hn1 hn2 hla hlb hsz hNa
    obtain ⟨L1, hL1⟩ : ∃ L1, L1 = strs D S (bl a') := ⟨_, rfl⟩
    obtain ⟨L2, hL2⟩ : ∃ L2, L2 = strs D S (bl b) := ⟨_, rfl⟩
    rw [← hL1, ← hL2] at HZ
    rw [← hL1] at HN1
    rw [← hL2] at HN2
    have HC1 := Lib.hid (fun W => (show Calls Try.prog 11 #[.agg #[.int .i64 (D : Int), .int .i64 (S : Int)], .string a'] W (GivesRR L1 0 W) by rw [hL1]; exact stripes_try D S hD hD8 hS a' (by omega) W))
    have HC2 := Lib.hid (fun W => (show Calls Try.prog 11 #[.agg #[.int .i64 (D : Int), .int .i64 (S : Int)], .string b] W (GivesRR L2 0 W) by rw [hL2]; exact stripes_try D S hD hD8 hS b (by omega) W))
    have HC3 := Lib.hid (fun W => (show Calls Try.prog 11 #[.agg #[.int .i64 (D : Int), .int .i64 (S : Int)], .string (a' ++ b)] W (GivesRR (L1 ++ L2) 0 W) by
      rw [← HZ.out]
      exact stripes_try D S hD hD8 hS (a' ++ b) (by rw [ByteArray.size_append]; omega) W))
    clear hL1 hL2
    refine (HC1.out _).mono ?_
    rintro e w3 ⟨v, vs1, rfl, hown, hrows, hb⟩
    obtain ⟨A1, k1, rfl, hs1, _⟩ := own_form hown
    have HS1 := Lib.hid hs1
    have HR1 := Lib.hid (RV.of hrows)
    have HL3 := Lib.hid (HL2.out.below hb)
    have HB3 := Lib.hid (HB2.out.trans (hb.mono HB2.out.size))
    clear hown hrows hs1 hb c0 c1 HL2 HB2
    have c0 := HL3.out.cell 0
    have c1 := HL3.out.cell 1
    simp only [List.getElem?_toArray, List.getElem?_cons_zero, List.getElem?_cons_succ] at c0 c1
    go_wp2_with fail
    refine (HC2.out _).mono ?_
    rintro e w4 ⟨v, vs2, rfl, hown, hrows, hb⟩
    obtain ⟨A2, k2, rfl, hs2, _⟩ := own_form hown
    have HS2 := Lib.hid hs2
    have HR2 := Lib.hid (RV.of hrows)
    have HS1b := Lib.hid (HS1.out.below hb)
    have HR1b := Lib.hid (HR1.out.below hb)
    have HL4 := Lib.hid (HL3.out.below hb)
    have HB4 := Lib.hid (HB3.out.trans (hb.mono HB3.out.size))
    clear hown hrows hs2 hb c0 c1 HL3 HB3 HS1 HR1
    have c0 := HL4.out.cell 0
    have c1 := HL4.out.cell 1
    simp only [List.getElem?_toArray, List.getElem?_cons_zero, List.getElem?_cons_succ] at c0 c1
    go_wp2_with fail
    refine (HC3.out _).mono ?_
    rintro e w5 ⟨v, vs3, rfl, hown, hrows, hb⟩
    obtain ⟨A3, k3, rfl, hrd⟩ := Rd.of (w' := w5) hown hrows
    have HD := Lib.hid hrd
    have HS1c := Lib.hid (HS1b.out.below hb)
    have HR1c := Lib.hid (HR1b.out.below hb)
    have HS2c := Lib.hid (HS2.out.below hb)
    have HR2c := Lib.hid (HR2.out.below hb)
    have HB5 := Lib.hid (HB4.out.trans (hb.mono HB4.out.size))
    clear hown hrows hrd hb c0 c1 HL4 HB4 HS1b HR1b HS2 HR2
    obtain ⟨i0, hi, hz0, hz1, hz2⟩ := info_parts info_ss
    have hOw := Lib.hid (show (w5.alloc (.cells #[] 40)).ownsRow w5.heap.size 40 1 (.slice (some ⟨w5.heap.size, 0, none⟩) 0 0) 0 [] from Blk.own (size := 1) (n := 0) (Blk.new _ _ _) (Nat.le_refl _) rfl (by unfold maxLen; omega))
    have q1 : 0 + L1.length ≤ maxLen := by have := HN1.out; unfold maxLen; omega
    have q2 : (0 + L1.length) * 24 ≤ 140737488355328 := by have := HN1.out; omega
    have q3 : 0 + L1.length + L2.length ≤ maxLen := by have := HN1.out; have := HN2.out; unfold maxLen; omega
    have q4 : (0 + L1.length + L2.length) * 24 ≤ 140737488355328 := by have := HN1.out; have := HN2.out; omega
    have HO1 := Lib.hid (fun u (hu : u ∈ vs1) => show u.oneCell' = true by
      obtain ⟨k, hk, rfl⟩ := List.mem_iff_getElem.1 hu
      obtain ⟨A', c', h1, _⟩ := HR1c.out.2 k (by rw [← HR1c.out.1]; exact hk)
      rw [List.getElem?_eq_getElem hk] at h1
      injection h1 with h1
      rw [h1]; rfl)
    have HO2 := Lib.hid (fun u (hu : u ∈ vs2) => show u.oneCell' = true by
      obtain ⟨k, hk, rfl⟩ := List.mem_iff_getElem.1 hu
      obtain ⟨A', c', h1, _⟩ := HR2c.out.2 k (by rw [← HR2c.out.1]; exact hk)
      rw [List.getElem?_eq_getElem hk] at h1
      injection h1 with h1
      rw [h1]; rfl)
    have hx := Below.alloc (Below.refl w5.heap.size w5) (Nat.le_refl _) (.cells #[] 40)
    have HX := Lib.hid hx
    clear hx
    go_wp2_with (first
      | (at_builtin; refine wpl_append_slG _ (by rfl) _ _ 25 rfl w5.heap.size 40 i0 (.slice none 0 0) 1 24 Try.underlying25 hi hz0 hz1 hz2 rfl (by decide) (.slice (some ⟨w5.heap.size, 0, none⟩) 0 0) 0 [] rfl hOw.out A1 L1.length k1 vs1 rfl (HS1c.out.below HX.out) HO1.out q1 q2 HX.out.size ?_; intro v6 w6 hown6 hg6 _; have HO6 := Lib.hid hown6; have HG6 := Lib.hid (HX.out.grown hg6 HX.out.size (fun k hk => (Ly.own_cells hOw.out hk).1)); clear hown6 hg6)
      | (at_builtin; refine wpl_append_slG _ (by rfl) _ _ 25 rfl w5.heap.size 40 i0 (.slice none 0 0) 1 24 Try.underlying25 hi hz0 hz1 hz2 rfl (by decide) _ (0 + L1.length) _ rfl HO6.out A2 L2.length k2 vs2 rfl (HS2c.out.below HG6.out) HO2.out q3 q4 HG6.out.size ?_; intro v7 w7 hown7 hg7 _; obtain ⟨A7, k7, hv7, hs7, _⟩ := own_form hown7; subst hv7; have HS7 := Lib.hid hs7; have HG7 := Lib.hid (HG6.out.grown hg7 HG6.out.size (fun k hk => (Ly.own_cells HO6.out hk).1)); clear hown7 hg7 hs7))
    have HRD := Lib.hid (show Rd w7 A7 (L1.length + L2.length) k7 (L1 ++ L2) from ⟨List.length_append.symm, vs1 ++ vs2, by have := HS7.out; simpa using this, ((HR1c.out.below HG7.out).app (HR2c.out.below HG7.out)).2⟩)
    have HD7 := Lib.hid (show Rd w7 A3 (L1.length + L2.length) k3 (L1 ++ L2) from by have := HD.out.below HG7.out; rwa [List.length_append] at this)
    clear q1 q2 q3 q4
    refine (same_yes _ _ _ _ _ _ _ HD7.out HRD.out).mono ?_
    rintro e w8 ⟨rfl, hd⟩
    have HB8 := Lib.hid ((HB5.out.trans (HG7.out.mono HB5.out.size)).trans (hd.below _))
    clear hd
    go_wp2_with fail
    go_ret
    exact ⟨rfl, HB8.out⟩
  · have HC := Lib.hid (fun W => check_no d t hok W)
    clear hok
    go_wp2_with fail
    refine (HC.out _).mono ?_
    rintro e w2 ⟨rfl, hb⟩
    have HB2 := Lib.hid (HB1.out.trans (hb.mono HB1.out.size))
    clear hb c0 c1
    go_wp2_with fail
    go_ret
    exact ⟨rfl, HB2.out⟩

end LayoutConcatenation
end Go.Proofs.Ytogcgeiocndlbaa
