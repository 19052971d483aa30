/- Reconcile: adoption of another list's records (reconcile.adopt). -/
import Derived.Test.YtnllocghmnhooaaDoorUj
namespace Go.Proofs.YtnllocghmnhooaaDoor
open Go.RowKit
set_option linter.unusedVariables false
set_option linter.unusedSimpArgs false
namespace Rc
open Bk (bl bl_len bl_ofL ofL_bl ofL_size ofL_append)

def RcsPost (w : World) (l : List Rec) (e : Ending) (w' : World) : Prop := ∃ A c, e = .returned (.slice A l.length c) ∧ Rcs w' A c l ∧ Below w.heap.size w w'
theorem Own.rcs {W : World} {B : Nat} {v : Value} {l : List Rec} (h : Own W B v l) : ∃ A c, v = .slice A l.length c ∧ Rcs W A c l := rcs_own h
theorem OwnPost.rcs {w : World} {l : List Rec} {e : Ending} {w' : World} (h : OwnPost w l e w') : RcsPost w l e w' := by
  obtain ⟨v, rfl, h1, h2⟩ := h
  obtain ⟨A, c, rfl, h3⟩ := h1.rcs
  exact ⟨A, c, rfl, h3, h2⟩
/-- state of an adoption: L holds what is adopted, q is still to come -/
structure Ad (T L q : List Rec) (B : Nat) : Prop where
  eq : put L q = T
  srt : Srt L
  val : ∀ x ∈ L, Val x
  qv : ∀ x ∈ q, Val x
  qs : Srt q
  no : ∀ x ∈ q, has L (key x) = false
  len : L.length + q.length ≤ B
theorem Ad.step {T L q : List Rec} {r : Rec} {B : Nat} (h : Ad T L (r :: q) B) : Ad T (ins r L) q B := by
  obtain ⟨h1, h2⟩ := List.pairwise_cons.1 h.qs
  refine ⟨h.eq, ins_srt h.srt (h.no r (by simp)), ins_val (h.qv r (by simp)) h.val, fun x hx => h.qv x (List.mem_cons_of_mem _ hx), h2, fun x hx => ?_, ?_⟩
  · rw [has_ins, h.no x (List.mem_cons_of_mem _ hx), Bool.or_false, beq_eq_false_iff_ne]
    exact fun e => kirr (key x) (by have := h1 x hx; rwa [e] at this)
  · have := h.len
    rw [ins_len]
    simp at this
    omega
theorem Ad.init {l o : List Rec} {B : Nat} (hl : Srt l) (ho : Srt o) (vl : ∀ x ∈ l, Val x) (vo : ∀ x ∈ o, Val x) (h : l.length + o.length ≤ B) : Ad (mrg l o) l (dif o l) B :=
  ⟨rfl, hl, vl, fun x hx => vo x (List.mem_filter.1 hx).1, ho.filter _, fun x hx => by simpa using (List.mem_filter.1 hx).2, by
    have : (dif o l).length ≤ o.length := List.length_filter_le _ _
    omega⟩
theorem Ad.done {T L q : List Rec} {B : Nat} (h : Ad T L q B) (e : q = []) : L = T := by
  rw [← h.eq, e]
  rfl

set_option maxRecDepth 100000 in
set_option maxHeartbeats 2000000 in
theorem adopt_f (l o : List Rec) (hvl : ∀ x ∈ l, Val x) (hvo : ∀ x ∈ o, Val x) (hsl : Srt l) (hso : Srt o) (w : World) (ht : Bk.Tab w) (A B : Option Addr) (ca cb : Nat) (ha : Rcs w A ca l) (hb : Rcs w B cb o) (hlen : l.length + o.length ≤ 100000) :
    Calls Tryd.prog 38 #[.slice A l.length ca, .slice B o.length cb] w (RcsPost w (mrg l o)) := by
  have HD := Lib.hid (diff_f o l hvo hvl w ht B A cb ca hb ha (by omega) (by omega))
  have HA0 := Lib.hid (Ad.init hsl hso hvl hvo hlen)
  have HTB := Lib.hid (fun W (h : Below w.heap.size w W) => ht.bel h)
  have HL0 := Lib.hid (fun W (h : Below w.heap.size w W) => ha.below h)
  have HDV := Lib.hid (show ∀ x ∈ dif o l, Val x from HA0.out.qv)
  have HDL := Lib.hid (show (dif o l).length ≤ 100000 by have := HA0.out.len; omega)
  obtain ⟨d, hd⟩ : ∃ d, d = dif o l := ⟨_, rfl⟩
  rw [← hd] at HD HA0 HDV HDL
  obtain ⟨T, hT⟩ : ∃ T, T = mrg l o := ⟨_, rfl⟩
  rw [← hT] at HA0 ⊢
  have HDR := Lib.hid (fun k (hk : k < d.length) => (List.drop_eq_getElem_cons hk : d.drop k = d[k] :: d.drop (k + 1)))
  have HDE := Lib.hid (show d.drop d.length = [] from List.drop_length)
  have HD0 := Lib.hid (show d.drop 0 = d from List.drop_zero)
  obtain ⟨nl, hnl⟩ : ∃ n, n = l.length := ⟨_, rfl⟩
  have HNL := Lib.hid hnl
  rw [← hnl] at HD ⊢
  clear hd hT hvl hvo hsl hso ht ha hb hlen hnl
  go_enter Tryd.func38, Tryd.ntmps38
  go_wp2_with fail
  refine HD.out.mono ?_
  rintro e w1 ⟨v1, rfl, ho, hb1⟩
  obtain ⟨D, cd, rfl, hdr⟩ := ho.rcs
  have HB1 := Lib.hid hb1
  have HDRc := Lib.hid (fun W (h : Below w1.heap.size w1 W) => hdr.below h)
  have hcd : cd ≤ 9223372036854775807 := hdr.max
  have hlcd := hdr.le
  obtain ⟨n, hn⟩ : ∃ n, n = d.length := ⟨_, rfl⟩
  have HN := Lib.hid hn
  rw [← hn] at hlcd HDL HDE ⊢
  clear hb1 ho hdr HD hn
  go_wp2_with fail
  go_loopw [0, 13] (fun y x W => ∃ (k : Nat) (L : List Rec) (a : Option Addr) (c : Nat), k ≤ n ∧ x = .int .i64 (k : Int) ∧ y = .slice a L.length c ∧ Hid (Rcs W a c L) ∧ Hid (Ad T L (d.drop k) 100000) ∧ Hid (Below w1.heap.size w1 W)) (fun _ x _ => n - (intOf x).toNat)
  case atStart => exact ⟨0, l, A, ca, Nat.zero_le _, rfl, by rw [HNL.out], Lib.hid (HL0.out _ HB1.out), Lib.hid (by rw [HD0.out]; exact HA0.out), Lib.hid (Below.refl _ _)⟩
  case round =>
    obtain ⟨k, L, a, c, hk, rfl, rfl, HR, HA, HB⟩ := hrel
    by_cases hkn : k < n
    · have hkl : k < d.length := by rw [← HN.out]; exact hkn
      obtain ⟨g, o, rfl, hat⟩ := (HDRc.out _ HB.out).mem (by omega)
      obtain ⟨e0, e1, e2⟩ := hat.2 k hkl
      have HDK := Lib.hid (HDR.out k hkl)
      obtain ⟨r, hr⟩ : ∃ r, d[k] = r := ⟨_, rfl⟩
      rw [hr] at e0 e1 e2 HDK
      clear hat hr
      rw [HDK.out] at HA
      have HAD := Lib.hid (fun W (h : Below w.heap.size w W) (hr : Rcs W a c L) => add_f L r HA.out.val (HA.out.qv r (by simp)) HA.out.srt (HA.out.no r (by simp)) W (HTB.out W h) a c hr (by have := HA.out.len; simp at this; omega))
      have HA2 := Lib.hid HA.out.step
      unfold rv at HAD
      go_wp2_with fail
      refine (HAD.out _ ((HB1.out.trans (HB.out.mono HB1.out.size)).alloc (Nat.le_trans HB1.out.size HB.out.size) _) (HR.out.below ((Below.refl _ _).alloc (Nat.le_refl _) _))).mono ?_
      rintro e w2 ⟨v2, rfl, ho2, hb2⟩
      obtain ⟨a2, c2, rfl, hr2⟩ := ho2.rcs
      have HR2 := Lib.hid hr2
      have HB2 := Lib.hid ((HB.out.alloc HB.out.size _).trans (hb2.mono (HB.out.alloc HB.out.size _).size))
      clear ho2 hb2 hr2 e0 e1 e2
      go_wp2_with fail
      go_roundw
      case rel => exact ⟨k + 1, ins r L, a2, c2, by omega, by go_num, rfl, HR2, HA2, HB2⟩
      case measure => simp [intOf]; omega
    · obtain rfl : n = k := by omega
      rw [HDE.out] at HA
      have HAE := Lib.hid (HA.out.done rfl)
      go_wp2_with fail
      go_ret
      refine ⟨a, c, ?_, ?_, HB1.out.trans (HB.out.mono HB1.out.size)⟩
      · rw [← HAE.out]; rfl
      · rw [← HAE.out]; exact HR.out
end Rc
end Go.Proofs.YtnllocghmnhooaaDoor
