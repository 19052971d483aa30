/- Walk of the iterator over the blocks of a stream. -/
import Derived.Test.YtogcgeiocndlbaaLe
import Derived.Lib.MinMax
namespace Go.Proofs.Ytogcgeiocndlbaa
open Go.RowKit
set_option linter.unusedVariables false
attribute [local go_sem] Oper.semAt_some
namespace Ly

theorem info_str : (Try.prog.info? 9).map (fun i => (i.zero, i.size, i.bytes)) = some (some (.string ⟨#[]⟩), 1, 16) := by kernel_rfl
/-- the data blocks of which the first k are laid -/
def datN (D : Nat) (l : List UInt8) (q k : Nat) : List Value := (List.range D).map fun j => if j < k then Value.string (ofL (blkAt l (q * D + j))) else .string ⟨#[]⟩
theorem datN_zero (D : Nat) (l : List UInt8) (q : Nat) : datN D l q 0 = List.replicate D (.string ⟨#[]⟩) := by
  refine List.ext_getElem (by simp [datN]) fun j h1 h2 => ?_
  simp [datN]
theorem datN_all (D : Nat) (l : List UInt8) (q : Nat) : datN D l q D = (dat D l q).map Value.string := by
  refine List.ext_getElem (by simp [datN, dat]) fun j h1 h2 => ?_
  have hj : j < D := by simpa [datN] using h1
  simp [datN, dat, hj]
theorem datN_len (D : Nat) (l : List UInt8) (q k : Nat) : (datN D l q k).length = D := by simp [datN]
theorem datN_set (D : Nat) (l : List UInt8) (q k : Nat) : (datN D l q k).set k (.string (ofL (blkAt l (q * D + k)))) = datN D l q (k + 1) := by
  refine List.ext_getElem (by simp [datN]) fun j h1 h2 => ?_
  rw [List.getElem_set]
  simp only [datN, List.getElem_map, List.getElem_range]
  by_cases h : k = j
  · subst h; rw [if_pos rfl, if_pos (by omega)]
  · rw [if_neg h]
    by_cases h2 : j < k
    · rw [if_pos h2, if_pos (by omega)]
    · rw [if_neg h2, if_neg (by omega)]
theorem made_strs (n : Nat) : (madeCells (Value.string ⟨#[]⟩).cells (n * 1)).toList = List.replicate n (.string ⟨#[]⟩) := by
  show (madeCells #[Value.string ⟨#[]⟩] (n * 1)).toList = _
  rw [toList_madeCells_one, Nat.mul_one]

theorem rep_len (c : Nat) : (⟨(Lib.repeatL (⟨#[0]⟩ : ByteArray).data.toList c).toArray⟩ : ByteArray).size = c := by
  show (Lib.repeatL [0] c).toArray.size = c
  rw [List.size_toArray, Lib.repeatL_length]
  simp
theorem rep_get (c j : Nat) : (Lib.repeatL [(0 : UInt8)] c).getD j 0 = 0 := by
  have e : Lib.repeatL [(0 : UInt8)] c = List.replicate (c * 1) 0 := Lib.repeatL_replicate 0 1 c
  rw [e, List.getD, List.getElem?_replicate]
  split <;> rfl
/-- the first stripe of what is left, padded -/
theorem pad_get {r : ByteArray} {N c : Nat} {l : List UInt8} {o : Nat} (hr : bl r = l.drop o) (hN : N ≤ r.size) (hNr : N = r.size ∨ c = 0) (j : Nat) (hj : j < N + c) :
    (bl (r.extract 0 N ++ ⟨(Lib.repeatL (⟨#[0]⟩ : ByteArray).data.toList c).toArray⟩)).getD j 0 = l.getD (o + j) 0 := by
  have e : bl (r.extract 0 N ++ ⟨(Lib.repeatL (⟨#[0]⟩ : ByteArray).data.toList c).toArray⟩) = (bl r).take N ++ Lib.repeatL [0] c := by
    unfold bl
    rw [ByteArray.data_append, Array.toList_append, ByteArray.data_extract]
    simp
  have hl : (bl r).length = r.size := by simp [bl]
  rw [e]
  by_cases h : j < N
  · rw [List.getD, List.getElem?_append_left (by rw [List.length_take]; omega), List.getElem?_take, if_pos h, hr, List.getElem?_drop]
    rfl
  · rw [List.getD, List.getElem?_append_right (by rw [List.length_take]; omega)]
    have h3 := rep_get c (j - ((bl r).take N).length)
    rw [List.getD] at h3
    rw [h3]
    have hNN : N = r.size := by omega
    have h4 : l.length ≤ o + r.size := by
      have := congrArg List.length hr
      rw [hl, List.length_drop] at this
      omega
    rw [List.getD, List.getElem?_eq_none (by omega)]
    rfl
theorem pad_size {r : ByteArray} {N c : Nat} (hN : N ≤ r.size) : (r.extract 0 N ++ ⟨(Lib.repeatL (⟨#[0]⟩ : ByteArray).data.toList c).toArray⟩).size = N + c := by
  rw [ByteArray.size_append, rep_len, ByteArray.size_extract]
  omega
theorem cut_ext {p : ByteArray} {l : List UInt8} {D q k : Nat} (hk : k < D) (hp : ∀ j, j < 28 * D → (bl p).getD j 0 = l.getD (28 * D * q + j) 0) (hl : p.size = 28 * D) : p.extract (k * 28) ((k + 1) * 28) = ofL (blkAt l (q * D + k)) := by
  have h := cut_blk (q := q) hk hp (by simp [bl, hl])
  apply bl_inj
  rw [bl_ofL, ← h]
  unfold bl
  rw [ByteArray.data_extract]
  simp only [Array.toList_extract, List.extract_eq_take_drop]
  rw [Nat.mul_comm k 28, show (k + 1) * 28 - 28 * k = 28 by omega]
/-- what the rounds may ask of the row that they are handed -/
def Hd (B D : Nat) (pre : List (Value × List ByteArray)) (x : Value × List ByteArray) (W : World) : Prop := pre.length + 1 ≤ 100000 ∧ ∃ g, x.1 = .slice (some ⟨g, 0, none⟩) D D ∧ B ≤ g ∧ Blk W g 9 (x.2.map Value.string).toArray ∧ x.2.length = D ∧ ∀ b ∈ x.2, b.size = 28

set_option maxRecDepth 100000 in
set_option maxHeartbeats 2000000 in
theorem blocks_it (n D S : Nat) (hD : 1 ≤ D) (hD8 : D ≤ 8) (s : ByteArray) (hs : s.size ≤ 100000) (l Bl Bs B : Nat) (hn : 1 ≤ n)
    (J : List (Value × List ByteArray) → World → Prop)
    (hset : ∀ pre W v, J pre W → Boxed W Bs 9 v → ∀ u, J pre (W.setCell ⟨Bs, 0, none⟩ u))
    (hbel : ∀ pre W W', J pre W → Below W.heap.size W W' → J pre W')
    (hBJ : ∀ pre W, J pre W → B ≤ W.heap.size)
    (hY : ∀ pre x W1, J pre W1 → Hd B D pre x W1 → YieldAt Fence.wide (n - 1) Try.prog l #[x.1] W1 fun e W' => e = .returned (.bool true) ∧ J (pre ++ [x]) W' ∧ W'.heap[Bs]? = W1.heap[Bs]? ∧ W'.heap[Bl]? = W1.heap[Bl]?)
    (W : World) (hBl : Blk W Bl 23 #[.int .i64 (D : Int), .int .i64 (S : Int)]) (hne : Bl ≠ Bs) (hB : Boxed W Bs 9 (.string s)) (h0 : J [] W) :
    CallsIn Fence.wide n Try.prog 35 #[.func (.yield l) #[] #[], .pointer (some ⟨Bl, 0, none⟩), .pointer (some ⟨Bs, 0, none⟩)] W fun e W' => (∃ v, e = .returned v) ∧ ∃ xs, xs.map (·.2) = (List.range (nst D (bl s))).map (dat D (bl s)) ∧ J xs W' := by
  obtain ⟨i0, hi, hz0, hz1, hz2⟩ := info_parts info_str
  refine callsIn_of_wp Try.func35 rfl trivial ?_ rfl
  simp only [Try.ntmps35, List.size_toArray, List.length_cons, List.length_nil, Nat.reduceAdd, Nat.reduceSub, Array.replicate_succ, Array.replicate_zero, List.push_toArray, List.append_toArray, List.nil_append, List.cons_append]
  have c0 := hBl.cell 0
  simp only [List.getElem?_toArray, List.getElem?_cons_zero] at c0
  have HBL := Lib.hid hBl
  have HB := Lib.hid hB
  have H0 := Lib.hid h0
  have HSET := Lib.hid hset
  have HBEL := Lib.hid hbel
  have HBJ := Lib.hid hBJ
  have HY := Lib.hid hY
  have HNE := Lib.hid hne
  clear hBl hB h0 hset hbel hBJ hY hne
  gi_wp2
  clear c0
  gi_loopw [] (fun wr => ∃ (pre : List (Value × List ByteArray)) (q : Nat) (r : ByteArray), Hid (pre.map (·.2) = (List.range q).map (dat D (bl s))) ∧ Hid (bl r = (bl s).drop (28 * D * q)) ∧ Hid (q ≤ nst D (bl s)) ∧ Hid (J pre wr) ∧ Hid (Boxed wr Bs 9 (.string r)) ∧ Hid (Blk wr Bl 23 #[.int .i64 (D : Int), .int .i64 (S : Int)]))
    (fun wr => match wr.cell? ⟨Bs, 0, none⟩ with | some (.string r) => r.size | _ => 0)
  case atStart => exact ⟨[], 0, s, Lib.hid rfl, Lib.hid (by simp), Lib.hid (Nat.zero_le _), H0, HB, HBL⟩
  case round =>
    obtain ⟨pre, q, r, HP, HR, HQ, HJ, HBx, HL⟩ := hrel
    have hcell := HBx.out.cell
    have hfr := HBx.out.frozen
    have c0 := HL.out.cell 0
    simp only [List.getElem?_toArray, List.getElem?_cons_zero] at c0
    have hrs : r.size ≤ 100000 := by
      have h1 := congrArg List.length HR.out
      simp [bl] at h1
      omega
    by_cases hz : r.size = 0
    · have HX := Lib.hid (show ∃ xs : List (Value × List ByteArray), xs.map (·.2) = (List.range (nst D (bl s))).map (dat D (bl s)) ∧ J xs wr from by
        refine ⟨pre, ?_, HJ.out⟩
        have h1 : nst D (bl s) ≤ q := nst_le hD (by
          have h2 := congrArg List.length HR.out
          rw [List.length_drop] at h2
          simp only [bl, Array.length_toList] at h2 ⊢
          have h3 : r.data.size = 0 := hz
          omega)
        rw [show nst D (bl s) = q from Nat.le_antisymm h1 HQ.out]
        exact HP.out)
      have hz' : ¬ 0 < r.size := by omega
      clear hz hrs
      gi_wp2
      go_end0
      exact ⟨⟨_, rfl⟩, HX.out⟩
    · have hz' : 0 < r.size := by omega
      have HQ2 := Lib.hid (show q + 1 ≤ nst D (bl s) from nst_lt hD (by
        have h2 := congrArg List.length HR.out
        rw [List.length_drop] at h2
        simp only [bl, Array.length_toList] at h2 ⊢
        have h3 : 0 < r.data.size := hz'
        omega))
      clear hz
      obtain ⟨N, hmin, hN1, hN2, hN3⟩ : ∃ N : Nat, min ((D : Int) * 28) (r.size : Int) = (N : Int) ∧ N ≤ r.size ∧ N ≤ 28 * D ∧ (N = r.size ∨ N = 28 * D) := by
        by_cases h : 28 * D ≤ r.size
        · exact ⟨28 * D, by omega, by omega, by omega, .inr rfl⟩
        · exact ⟨r.size, by omega, by omega, by omega, .inl rfl⟩
      have hmin2 : min N r.size = N := by omega
      obtain ⟨c, hc⟩ : ∃ c : Nat, (D : Int) * 28 - (N : Int) = (c : Int) := ⟨28 * D - N, by omega⟩
      have hc2 : N + c = 28 * D := by omega
      have HC2 := Lib.hid hc2
      have HPG := Lib.hid (fun j (hj : j < 28 * D) => pad_get (N := N) (c := c) HR.out hN1 (by omega) j (by omega))
      have HPS := Lib.hid (show (r.extract 0 N ++ ⟨(Lib.repeatL (⟨#[0]⟩ : ByteArray).data.toList c).toArray⟩).size = 28 * D by rw [pad_size hN1]; exact hc2)
      have HR2 := Lib.hid (show bl (r.extract N r.size) = (bl s).drop (28 * D * (q + 1)) by
        have e : bl (r.extract N r.size) = (bl r).drop N := by
          unfold bl
          rw [ByteArray.data_extract]
          simp only [Array.toList_extract, List.extract_eq_take_drop]
          rw [List.take_of_length_le]
          rw [List.length_drop, Array.length_toList]
          exact Nat.le_refl _
        rw [e, HR.out, List.drop_drop]
        rcases hN3 with h | h
        · have h2 := congrArg List.length HR.out
          rw [List.length_drop] at h2
          simp only [bl, Array.length_toList] at h2
          have h3 : r.data.size = N := h.symm
          rw [List.drop_eq_nil_of_le (by simp only [bl, Array.length_toList]; omega), List.drop_eq_nil_of_le (by simp only [bl, Array.length_toList]; rw [Nat.mul_add]; omega)]
        · rw [h, Nat.mul_add]; simp)
      have HN2 := Lib.hid hN2
      have HN1 := Lib.hid hN1
      have hrl : (r.extract N r.size).size < r.size := by
        rw [ByteArray.size_extract]
        rcases hN3 with h | h <;> omega
      have HRL := Lib.hid hrl
      have hrp : ∀ W0, Calls Try.prog 23 #[.string ⟨#[0]⟩, .int .i64 (c : Int)] W0 _ := fun W0 => Try.strings_Repeat ⟨#[0]⟩ c W0 (by omega) (by show 1 * c ≤ _; omega)
      obtain ⟨z, hz⟩ : ∃ z : ByteArray, z = ⟨(Lib.repeatL (⟨#[0]⟩ : ByteArray).data.toList c).toArray⟩ := ⟨_, rfl⟩
      have hzc : z.size = c := by rw [hz]; exact rep_len c
      have hzl : z.size ≤ 1000 := by omega
      have hNl : N ≤ 1000 := by omega
      rw [← hz] at HPG HPS
      simp only [← hz] at hrp
      have HRP := Lib.hid hrp
      clear hrp hz hzc
      clear hN3 hc2 hrl
      gi_wp2
      refine ⟨trivial, (callsIn_wide.2 (HRP.out _)).mono ?_⟩
      rintro e w2 ⟨rfl, hb2⟩
      have hJ2 := HBEL.out _ _ _ (HSET.out _ _ _ HJ.out HBx.out (.string (r.extract N r.size))) hb2
      have hL2 := (HL.out.far (p := ⟨Bs, 0, none⟩) HNE.out (.string (r.extract N r.size))).below hb2
      have hB2 : Boxed w2 Bs 9 (.string (r.extract N r.size)) := (hb2.block Bs (by have := Blk.lt (HBx.out.set (.string (r.extract N r.size))); exact this)).trans (HBx.out.set _)
      have HJ2 := Lib.hid hJ2
      have HL2 := Lib.hid hL2
      have HB2 := Lib.hid hB2
      clear hb2 hJ2 hB2 hcell hfr c0
      have c0 := HL2.out.cell 0
      simp only [List.getElem?_toArray, List.getElem?_cons_zero] at c0
      clear hL2
      obtain ⟨p, hp⟩ : ∃ p, p = r.extract 0 N ++ z := ⟨_, rfl⟩
      rw [← hp] at HPG HPS
      have HPP := Lib.hid hp
      clear hp
      have hmk := run_make_blk (P := Try.prog) w2 40 9 i0 (.string ⟨#[]⟩) Try.underlying40 hi hz0 .i64 .i64 D (by rw [hz2]; omega) (by omega)
      rw [hz1] at hmk
      have hblk0 := Blk.new w2 9 (madeCells (Value.string ⟨#[]⟩).cells (D * 1))
      have hmt := made_strs D
      generalize madeCells (Value.string ⟨#[]⟩).cells (D * 1) = mc at *
      have HBK := Lib.hid (show Blk (w2.alloc (.cells mc 9)) w2.heap.size 9 (datN D (bl s) q 0).toArray by
        rw [show (datN D (bl s) q 0).toArray = mc by rw [datN_zero, ← hmt]]; exact hblk0)
      have HMC := Lib.hid (show Below w2.heap.size w2 (w2.alloc (.cells mc 9)) from (Below.refl _ _).alloc (Nat.le_refl _) _)
      clear hmt hblk0
      gi_wp2
      rw [← HPP.out]
      clear hmk
      obtain ⟨w3, hw3⟩ : ∃ w3, w3 = w2.alloc (.cells mc 9) := ⟨_, rfl⟩
      rw [← hw3] at HBK HMC
      rw [← hw3]
      clear hw3
      obtain ⟨g, hg⟩ : ∃ g, g = w2.heap.size := ⟨_, rfl⟩
      have HG := Lib.hid hg
      rw [← hg] at HBK HMC
      rw [← hg]
      clear hg
      gi_loopw [36] (fun i wq => ∃ k : Nat, k ≤ D ∧ i = .int .i64 (k : Int) ∧ Hid (Blk wq g 9 (datN D (bl s) q k).toArray) ∧ Hid (Below g w2 wq)) (fun i _ => D - (intOf i).toNat)
      case atStart => exact ⟨0, by omega, rfl, HBK, HMC⟩
      case round =>
        obtain ⟨k, hk, rfl, HK, HM⟩ := hrel
        by_cases hkD : k < D
        · have HEX := Lib.hid (cut_ext hkD HPG.out HPS.out)
          have hps : (k + 1) * 28 ≤ p.size := by rw [HPS.out]; omega
          have hps2 : p.size ≤ 1000 := by rw [HPS.out]; omega
          have hce := HK.out.cell k
          rw [show (datN D (bl s) q k).toArray[k]? = some (.string ⟨#[]⟩) by simp [datN, hkD]] at hce
          have hfe := HK.out.frozen k
          have hle := HK.out.lt
          gi_wp2
          go_roundw
          case rel => exact ⟨k + 1, by omega, by go_num, Lib.hid (by rw [HEX.out]; have := HK.out.set_ k (.string (ofL (blkAt (bl s) (q * D + k)))); rwa [List.setIfInBounds_toArray, datN_set] at this), Lib.hid (HM.out.setCell (Nat.le_refl _) _)⟩
          case measure => simp [intOf]; omega
        · obtain rfl : k = D := by omega
          have HB3 := Lib.hid (show Boxed wr Bs 9 (.string (r.extract N r.size)) from (HM.out.block Bs (by rw [HG.out]; exact Blk.lt HB2.out)).trans HB2.out)
          have HL3 := Lib.hid (show Blk wr Bl 23 #[.int .i64 (k : Int), .int .i64 (S : Int)] from (HM.out.block Bl (by rw [HG.out]; exact HL2.out.lt)).trans HL2.out)
          obtain ⟨fn, tmps, assign, body, hy, hR⟩ := HY.out pre (.slice (some ⟨g, 0, none⟩) k k, dat k (bl s) q) wr (HBEL.out _ _ _ HJ2.out (by rw [← HG.out]; exact HM.out))
            ⟨by
              have h1 := congrArg List.length HP.out
              rw [List.length_map, List.length_map, List.length_range] at h1
              have h2 := HQ2.out
              have h3 := nst_le hD (l := bl s) (q := (bl s).length) (Nat.le_mul_of_pos_left _ (by omega))
              have h4 : (bl s).length = s.size := by simp [bl]
              omega, g, rfl, by rw [HG.out]; exact HBJ.out _ _ HJ2.out, by have := HK.out; rwa [datN_all] at this, dat_len _ _ _, dat_size _ _ _⟩
          gi_wp2
          refine hR.mono ?_
          rintro e W3 ⟨rfl, hJ3, hk1, hk2⟩
          have HB4 := Lib.hid (show Boxed W3 Bs 9 (.string (r.extract N r.size)) from hk1.trans HB3.out)
          have HL4 := Lib.hid (show Blk W3 Bl 23 #[.int .i64 (k : Int), .int .i64 (S : Int)] from hk2.trans HL3.out)
          have HJ4 := Lib.hid hJ3
          clear hk1 hk2 hJ3
          gi_wp2
          go_roundw
          case rel =>
            refine ⟨_, q + 1, r.extract N r.size, Lib.hid ?_, HR2, HQ2, HJ4, HB4, HL4⟩
            rw [List.map_append, HP.out, List.range_succ, List.map_append]
            rfl
          case measure =>
            rw [HB4.out.cell, HBx.out.cell]
            exact HRL.out

end Ly
end Go.Proofs.Ytogcgeiocndlbaa
