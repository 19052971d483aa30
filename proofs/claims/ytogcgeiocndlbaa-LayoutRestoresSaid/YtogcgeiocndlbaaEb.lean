/- Plain laws of the choice of shares and of the recovery of a stripe. No program in sight. -/
import Derived.Test.YtogcgeiocndlbaaEa
namespace Go.Proofs.Ytogcgeiocndlbaa
open Gf

/-- a string's bytes -/
def bl (s : ByteArray) : List UInt8 := s.data.toList
theorem ofL_bl (s : ByteArray) : ofL (bl s) = s := by simp [ofL, bl]
theorem bl_ofL (l : List UInt8) : bl (ofL l) = l := by simp [ofL, bl]
theorem bl_inj {s t : ByteArray} (h : bl s = bl t) : s = t := by rw [← ofL_bl s, ← ofL_bl t, h]
theorem bl_length (s : ByteArray) : (bl s).length = s.size := by simp [bl]
/-- Go's byte(i) -/
def byt8 (i : Int) : UInt8 := UInt8.ofNat (i % 256).toNat
theorem byt8_nat {j : Nat} (h : j < 256) : byt8 (j : Int) = UInt8.ofNat j := by
  unfold byt8
  rw [show ((j : Int) % 256).toNat = j by omega]
theorem byt8_inj {a b : Int} (ha : 0 ≤ a) (ha' : a < 15) (hb : 0 ≤ b) (hb' : b < 15) (h : byt8 a = byt8 b) : a = b := by
  have := ofNat_inj (by omega) (by omega) h
  omega

/-! a list without repetitions inside another one -/
theorem mem_erase' {a b : UInt8} {l : List UInt8} (h : a ∈ l) (hne : a ≠ b) : a ∈ l.erase b := (List.mem_erase_of_ne hne).2 h
theorem nodup_sub : ∀ {l m : List UInt8}, l.Nodup → (∀ x ∈ l, x ∈ m) → l.length ≤ m.length
  | [], _, _, _ => Nat.zero_le _
  | a :: l, m, hd, hs => by
    rw [List.nodup_cons] at hd
    have ha := hs a (by simp)
    have h1 := nodup_sub (l := l) (m := m.erase a) hd.2 fun x hx => mem_erase' (hs x (by simp [hx])) fun e => hd.1 (e ▸ hx)
    rw [List.length_erase_of_mem ha] at h1
    have := List.length_pos_of_mem ha
    simp only [List.length_cons]
    omega

/-! the choice -/
def chStep (data : Nat) (st : List UInt8 × List ByteArray) (x : Int × ByteArray) : List UInt8 × List ByteArray :=
  if st.1.length < data ∧ byt8 x.1 ∉ st.1 then (st.1 ++ [byt8 x.1], st.2 ++ [x.2]) else st
def chs (data : Nat) (hv : List (Int × ByteArray)) : List UInt8 × List ByteArray := hv.foldl (chStep data) ([], [])
theorem chs_snoc (data : Nat) (hv : List (Int × ByteArray)) (x : Int × ByteArray) : chs data (hv ++ [x]) = chStep data (chs data hv) x := by simp [chs]
structure ChInv (data : Nat) (hv : List (Int × ByteArray)) (st : List UInt8 × List ByteArray) : Prop where
  len : st.1.length = st.2.length
  nd : st.1.Nodup
  from_ : ∀ k, k < st.1.length → ∃ x ∈ hv, byt8 x.1 = st.1.getD k 0 ∧ x.2 = st.2.getD k default
  le : st.1.length ≤ data
  all : st.1.length < data → ∀ x ∈ hv, byt8 x.1 ∈ st.1
theorem chInv_step {data : Nat} {pre : List (Int × ByteArray)} {st : List UInt8 × List ByteArray} (h : ChInv data pre st) (x : Int × ByteArray) : ChInv data (pre ++ [x]) (chStep data st x) := by
  unfold chStep
  by_cases hc : st.1.length < data ∧ byt8 x.1 ∉ st.1
  · rw [if_pos hc]
    refine ⟨by simp [h.len], ?_, fun k hk => ?_, by simp; omega, fun _ y hy => ?_⟩
    · refine List.nodup_append.2 ⟨h.nd, by simp, fun a ha b hb e => ?_⟩
      rw [List.mem_singleton] at hb
      exact hc.2 (hb ▸ e ▸ ha)
    · by_cases hlt : k < st.1.length
      · obtain ⟨y, hy, h1, h2⟩ := h.from_ k hlt
        refine ⟨y, by simp [hy], ?_, ?_⟩
        · rw [h1]; simp [List.getD, List.getElem?_append_left hlt]
        · rw [h2]; simp [List.getD, List.getElem?_append_left (show k < st.2.length by rw [← h.len]; exact hlt)]
      · have hk2 : k = st.1.length := by simp at hk; omega
        subst hk2
        refine ⟨x, by simp, ?_, ?_⟩
        · simp [List.getD]
        · simp [List.getD, h.len]
    · rcases List.mem_append.1 hy with hy | hy
      · exact List.mem_append.2 (.inl (h.all hc.1 y hy))
      · rw [List.mem_singleton] at hy
        subst hy; simp
  · rw [if_neg hc]
    refine ⟨h.len, h.nd, fun k hk => ?_, h.le, fun hl y hy => ?_⟩
    · obtain ⟨y, hy, h1⟩ := h.from_ k hk
      exact ⟨y, by simp [hy], h1⟩
    · rcases List.mem_append.1 hy with hy | hy
      · exact h.all hl y hy
      · rw [List.mem_singleton] at hy
        subst hy
        by_cases hm : byt8 y.1 ∈ st.1
        · exact hm
        · exact absurd ⟨hl, hm⟩ hc
theorem chInv_foldl (data : Nat) : ∀ (hv pre : List (Int × ByteArray)) (st : List UInt8 × List ByteArray), ChInv data pre st → ChInv data (pre ++ hv) (hv.foldl (chStep data) st)
  | [], pre, st, h => by simpa using h
  | x :: hv, pre, st, h => by
    have := chInv_foldl data hv (pre ++ [x]) _ (chInv_step h x)
    simpa using this
theorem chs_inv (data : Nat) (hv : List (Int × ByteArray)) : ChInv data hv (chs data hv) := by
  have := chInv_foldl data hv [] ([], []) ⟨rfl, by simp, fun k hk => absurd hk (by simp), Nat.zero_le _, fun _ x hx => by simp at hx⟩
  rw [List.nil_append] at this
  exact this
/-- how many shares are chosen -/
theorem chs_lt {data : Nat} {hv : List (Int × ByteArray)} {I : List UInt8} (hd : I.Nodup) (h1 : ∀ i ∈ I, ∃ x ∈ hv, byt8 x.1 = i) (h2 : ∀ x ∈ hv, byt8 x.1 ∈ I) : (chs data hv).1.length < data ↔ I.length < data := by
  have h := chs_inv data hv
  constructor
  · intro hl
    refine Nat.lt_of_le_of_lt (nodup_sub hd fun i hi => ?_) hl
    obtain ⟨x, hx, rfl⟩ := h1 i hi
    exact h.all hl x hx
  · intro hl
    refine Nat.lt_of_le_of_lt (nodup_sub h.nd fun i hi => ?_) hl
    obtain ⟨k, hk, rfl⟩ := mem_getD hi
    obtain ⟨x, hx, h3, _⟩ := h.from_ k hk
    rw [← h3]
    exact h2 x hx

/-! what Restore and Block answer -/
def badIdx (x : Int × ByteArray) : Bool := decide (x.1 < 0) || decide (15 ≤ x.1)
def badLen (hv : List (Int × ByteArray)) (x : Int × ByteArray) : Bool := x.2.size != (hv.getD 0 default).2.size
def blkS (c : List UInt8 × List ByteArray) (x : UInt8) : ByteArray := ofL (blk c.1 (c.2.map bl) x)
def off (c : List UInt8 × List ByteArray) (x : Int × ByteArray) : Bool := !decide (blkS c (byt8 x.1) = x.2)
/-- the error number -/
def restE (hv : List (Int × ByteArray)) (data : Int) : Int :=
  if data < 1 ∨ 15 < data then 1
  else if hv.any badIdx then 2
  else if hv.any (badLen hv) then 1
  else if (chs data.toNat hv).1.length < data.toNat then 19
  else if hv.any (off (chs data.toNat hv)) then 20
  else 0
/-- the data blocks -/
def restB (hv : List (Int × ByteArray)) (data : Int) : List ByteArray :=
  if restE hv data = 0 then (List.range data.toNat).map fun i => blkS (chs data.toNat hv) (UInt8.ofNat i) else []
def blockE (hv : List (Int × ByteArray)) (data index : Int) : Int := if index < 0 ∨ 15 ≤ index then 2 else restE hv data
def blockB (hv : List (Int × ByteArray)) (data index : Int) : ByteArray := if blockE hv data index = 0 then blkS (chs data.toNat hv) (byt8 index) else ofL []

/-! stripes -/
/-- shares of a stripe -/
def OnStripe (ds : List (List UInt8)) (hv : List (Int × ByteArray)) : Prop := ∀ x ∈ hv, ∃ j : Nat, j < 15 ∧ x.1 = (j : Int) ∧ bl x.2 = shr ds j
theorem map_getD_bl (bs : List ByteArray) (k : Nat) (h : k < bs.length) : (bs.map bl).getD k [] = bl (bs.getD k default) := by
  simp [List.getD, List.getElem?_eq_getElem h]
theorem any_false {α : Type} {l : List α} {p : α → Bool} (h : ∀ x ∈ l, p x = false) : l.any p = false := by
  rw [List.any_eq_false]; intro x hx; simp [h x hx]
theorem any_true {α : Type} {l : List α} {p : α → Bool} {x : α} (hx : x ∈ l) (h : p x = true) : l.any p = true := List.any_eq_true.2 ⟨x, hx, h⟩
theorem getD_mem0 {hv : List (Int × ByteArray)} (h : hv ≠ []) : hv.getD 0 default ∈ hv := by
  cases hv with
  | nil => exact absurd rfl h
  | cons a l => simp [List.getD]
theorem stripe_blk {ds : List (List UInt8)} {L : Nat} (h : Even ds L) {hv : List (Int × ByteArray)} (ho : OnStripe ds hv) (hn : ¬ (chs ds.length hv).1.length < ds.length) (j : Nat) : blk (chs ds.length hv).1 ((chs ds.length hv).2.map bl) (UInt8.ofNat j) = shr ds j := by
  have hc := chs_inv ds.length hv
  refine rebuild h hc.nd (by have := hc.le; omega) (fun k hk => ?_) j
  rw [map_getD_bl _ _ (by rw [← hc.len]; exact hk)]
  obtain ⟨x, hx, h1, h2⟩ := hc.from_ k hk
  obtain ⟨i, hi, h3, h4⟩ := ho x hx
  rw [← h2, h4, ← h1, h3, byt8_nat (by omega), UInt8.toNat_ofNat', Nat.mod_eq_of_lt (by omega)]
theorem stripe_blkS {ds : List (List UInt8)} {L : Nat} (h : Even ds L) {hv : List (Int × ByteArray)} (ho : OnStripe ds hv) (hn : ¬ (chs ds.length hv).1.length < ds.length) (j : Nat) : blkS (chs ds.length hv) (UInt8.ofNat j) = ofL (shr ds j) := by
  unfold blkS
  rw [stripe_blk h ho hn]
theorem stripe_idx {ds : List (List UInt8)} {hv : List (Int × ByteArray)} (ho : OnStripe ds hv) : hv.any badIdx = false := any_false fun x hx => by
  obtain ⟨j, hj, h1, _⟩ := ho x hx
  unfold badIdx
  rw [h1]
  simp; omega
theorem stripe_len {ds : List (List UInt8)} {L : Nat} (h : Even ds L) {hv : List (Int × ByteArray)} (ho : OnStripe ds hv) : hv.any (badLen hv) = false := any_false fun x hx => by
  have key : ∀ y ∈ hv, y.2.size = L := fun y hy => by
    obtain ⟨j, _, _, h2⟩ := ho y hy
    rw [← bl_length, h2, shr_len h]
  unfold badLen
  rw [key x hx, key _ (getD_mem0 (List.ne_nil_of_mem hx))]
  simp
theorem restE_stripe {ds : List (List UInt8)} {L : Nat} (h : Even ds L) {hv : List (Int × ByteArray)} (ho : OnStripe ds hv) :
    restE hv (ds.length : Int) = if (chs ds.length hv).1.length < ds.length then 19 else 0 := by
  unfold restE
  rw [if_neg (by have := h.pos; have := h.few; omega), stripe_idx ho, stripe_len h ho, Int.toNat_natCast]
  simp only [Bool.false_eq_true, if_false]
  by_cases hl : (chs ds.length hv).1.length < ds.length
  · rw [if_pos hl, if_pos hl]
  · rw [if_neg hl, if_neg hl, any_false, if_neg (by simp)]
    intro x hx
    obtain ⟨j, hj, h1, h2⟩ := ho x hx
    unfold off
    rw [h1, byt8_nat (by omega), stripe_blkS h ho hl, ← h2, ofL_bl, decide_eq_true rfl]
    rfl
theorem restB_stripe {ds : List (List UInt8)} {L : Nat} (h : Even ds L) {hv : List (Int × ByteArray)} (ho : OnStripe ds hv) (hn : ¬ (chs ds.length hv).1.length < ds.length) : restB hv (ds.length : Int) = ds.map ofL := by
  unfold restB
  rw [restE_stripe h ho, if_neg hn, if_pos rfl, Int.toNat_natCast]
  refine List.ext_getElem (by simp) fun j h1 h2 => ?_
  have hj : j < ds.length := by simpa using h1
  simp only [List.getElem_map, List.getElem_range]
  rw [stripe_blkS h ho hn, shr_data h hj]
  simp [List.getD, List.getElem?_eq_getElem hj]

/-- one byte of one share is changed, and there are more shares than data blocks -/
theorem restE_changed {ds : List (List UInt8)} {L : Nat} (h : Even ds L) {hv : List (Int × ByteArray)} (ho : OnStripe ds hv) (hd : (hv.map fun x => byt8 x.1).Nodup) (hm : ds.length < hv.length)
    {k i : Nat} (hk : k < hv.length) (hi : i < L) (s : ByteArray) (hs : s.size = L) (hne : (bl s).getD i 0 ≠ (bl (hv.getD k default).2).getD i 0) : restE (hv.set k ((hv.getD k default).1, s)) (ds.length : Int) = 20 := by
  obtain ⟨hv', hhv'⟩ : ∃ hv', hv' = hv.set k ((hv.getD k default).1, s) := ⟨_, rfl⟩
  rw [← hhv']
  have hgk : hv.getD k default = hv[k] := by simp [List.getD, List.getElem?_eq_getElem hk]
  have hmap : (hv'.map fun x => byt8 x.1) = hv.map fun x => byt8 x.1 := by
    refine List.ext_getElem (by simp [hhv']) fun j h1 h2 => ?_
    subst hhv'
    simp only [List.getElem_map, List.getElem_set]
    split
    · subst k; rw [hgk]
    · rfl
  have hmem : ∀ x ∈ hv', ∃ j : Nat, j < 15 ∧ x.1 = (j : Int) ∧ x.2.size = L := fun x hx => by
    rw [hhv'] at hx
    rcases List.mem_or_eq_of_mem_set hx with hx | rfl
    · obtain ⟨j, hj, h1, h2⟩ := ho x hx
      exact ⟨j, hj, h1, by rw [← bl_length, h2, shr_len h]⟩
    · obtain ⟨j, hj, h1, h2⟩ := ho _ (show hv.getD k default ∈ hv by rw [hgk]; exact List.getElem_mem hk)
      exact ⟨j, hj, h1, hs⟩
  have hlen' : hv'.length = hv.length := by rw [hhv']; simp
  have hcl : ¬ (chs ds.length hv').1.length < ds.length := by
    have := (chs_lt (data := ds.length) (hv := hv') (I := hv'.map fun x => byt8 x.1) (by rw [hmap]; exact hd) (fun i hi => by
      obtain ⟨x, hx, h1⟩ := List.mem_map.1 hi
      exact ⟨x, hx, h1⟩) (fun x hx => List.mem_map.2 ⟨x, hx, rfl⟩)).1
    intro hh
    have := this hh
    rw [List.length_map, hlen'] at this
    omega
  have hc := chs_inv ds.length hv'
  have hxl : (chs ds.length hv').1.length = ds.length := by have := hc.le; omega
  unfold restE
  rw [if_neg (by have := h.pos; have := h.few; omega), Int.toNat_natCast,
    show hv'.any badIdx = false from any_false fun x hx => by
      obtain ⟨j, hj, h1, _⟩ := hmem x hx
      unfold badIdx; rw [h1]; simp; omega,
    show hv'.any (badLen hv') = false from any_false fun x hx => by
      obtain ⟨j, hj, _, h2⟩ := hmem x hx
      obtain ⟨_, _, _, h3⟩ := hmem _ (getD_mem0 (List.ne_nil_of_mem hx))
      unfold badLen; rw [h2, h3]; simp]
  simp only [Bool.false_eq_true, if_false]
  rw [if_neg hcl]
  by_cases hoff : hv'.any (off (chs ds.length hv')) = true
  · rw [if_pos hoff]
  · exfalso
    have hon : ∀ x ∈ hv', blk (chs ds.length hv').1 ((chs ds.length hv').2.map bl) (byt8 x.1) = bl x.2 := fun x hx => by
      have : off (chs ds.length hv') x ≠ true := fun e => hoff (any_true hx e)
      unfold off blkS at this
      have h4 : ofL (blk (chs ds.length hv').1 ((chs ds.length hv').2.map bl) (byt8 x.1)) = x.2 := Classical.not_not.1 fun h => this (by rw [decide_eq_false h]; rfl)
      rw [← h4, bl_ofL]
    generalize hX : (chs ds.length hv').1 = X at *
    generalize hB : (chs ds.length hv').2.map bl = Bs at *
    have hB0 : (Bs.getD 0 []).length = L := by
      have hx0 : hv' ≠ [] := fun e => by rw [e] at hlen'; simp at hlen'; omega
      have h1 := hon _ (getD_mem0 hx0)
      obtain ⟨_, _, _, h3⟩ := hmem _ (getD_mem0 hx0)
      rw [← blk_len X Bs (byt8 (hv'.getD 0 default).1), h1, bl_length, h3]
    have hval : ∀ x ∈ hv', hor (byt8 x.1) (pol X Bs i) = (bl x.2).getD i 0 := fun x hx => by
      rw [pol_blk, ← blk_at (by rw [hB0]; exact hi), hon x hx]
    have hother : ∀ j, j < hv.length → j ≠ k → hor (byt8 (hv.getD j default).1) (pol X Bs i) = hor (byt8 (hv.getD j default).1) (spol ds i) := fun j hj hjk => by
      have hgj : hv.getD j default = hv[j] := by simp [List.getD, List.getElem?_eq_getElem hj]
      have hmj : hv[j] ∈ hv' := by
        rw [hhv']
        refine List.mem_iff_getElem.2 ⟨j, by simpa using hj, ?_⟩
        rw [List.getElem_set, if_neg (Ne.symm hjk)]
      obtain ⟨t, ht, h1, h2⟩ := ho _ (List.getElem_mem hj)
      rw [hgj, hval _ hmj, h2, shr_at h t hi, h1, byt8_nat (by omega)]
    have hpq : pol X Bs i = spol ds i := by
      refine interp_unique (xs := (hv.eraseIdx k).map fun x => byt8 x.1) ?_ (pol_canon _ _ _) (spol_canon _ _) ?_ ?_ fun y hy => ?_
      · exact List.Nodup.sublist (List.Sublist.map _ (List.eraseIdx_sublist _ _)) hd
      · rw [List.length_map, List.length_eraseIdx, if_pos hk]
        have := pol_len X Bs i
        omega
      · rw [List.length_map, List.length_eraseIdx, if_pos hk]
        have := spol_len ds i
        omega
      · obtain ⟨x, hx, rfl⟩ := List.mem_map.1 hy
        obtain ⟨j, hj, hjk, hjx⟩ := List.mem_eraseIdx_iff_getElem.1 hx
        have := hother j hj hjk
        rwa [show hv.getD j default = x by rw [← hjx]; simp [List.getD, List.getElem?_eq_getElem hj]] at this
    have hkm : (hv[k].1, s) ∈ hv' := by
      rw [hhv', hgk]
      exact List.mem_iff_getElem.2 ⟨k, by simpa using hk, by simp⟩
    obtain ⟨t, ht, h1, h2⟩ := ho _ (List.getElem_mem hk)
    have h3 := hval _ hkm
    rw [hpq] at h3
    simp only at h3
    rw [h1, byt8_nat (by omega), ← shr_at h t hi, ← h2] at h3
    rw [hgk] at hne
    exact hne h3.symm

end Go.Proofs.Ytogcgeiocndlbaa
