/- Reconcile: the lists of two sites that the laws make of their items. -/
import Derived.Test.YtnllocghmnhooaaDoorVb
namespace Go.Proofs.YtnllocghmnhooaaDoor
open Go.RowKit
set_option linter.unusedVariables false
set_option linter.unusedSimpArgs false
namespace Rc
open Bk (bl bl_len bl_ofL ofL_bl ofL_size ofL_append)

structure Itm where
  a : Nat
  s : Nat
  w : Nat
def ir (i : Itm) : Rec := onr (i.a % 4) (i.s % 255 + 1) 97
def ib (i : Itm) : Rec := onr (i.a % 4) (i.s % 255 + 1) 98
theorem ir_val (i : Itm) : Val (ir i) := onr_val (by omega) (by omega) (by omega)
theorem ib_val (i : Itm) : Val (ib i) := onr_val (by omega) (by omega) (by omega)
theorem key_ib (i : Itm) : key (ib i) = key (ir i) := rfl
def stp (p : List Rec × List Rec) (i : Itm) : List Rec × List Rec :=
  if has p.1 (key (ir i)) = true ∨ has p.2 (key (ir i)) = true then p
  else if i.w % 8 = 0 then (ins (ir i) p.1, p.2)
  else if i.w % 8 = 1 then (p.1, ins (ir i) p.2)
  else if i.w % 8 = 3 then (ins (ir i) p.1, ins (ib i) p.2)
  else (ins (ir i) p.1, ins (ir i) p.2)
def lsts (l : List Itm) : List Rec × List Rec := l.foldl stp ([], [])
theorem lsts_snoc {l : List Itm} {k : Nat} (h : k < l.length) : lsts (l.take (k + 1)) = stp (lsts (l.take k)) l[k] := by
  unfold lsts
  rw [List.take_succ_eq_append_getElem h, List.foldl_append]
  rfl
def Us (l : List Itm) : List Rec := l.flatMap fun i => [ir i, ib i]
theorem us_val (l : List Itm) : ∀ z ∈ Us l, Val z := fun z hz => by
  simp only [Us, List.mem_flatMap] at hz
  obtain ⟨i, _, h⟩ := hz
  simp at h
  rcases h with rfl | rfl
  · exact ir_val i
  · exact ib_val i
theorem us_len (l : List Itm) : (Us l).length = 2 * l.length := by
  induction l with
  | nil => rfl
  | cons i l ih =>
    show ([ir i, ib i] ++ Us l).length = _
    rw [List.length_append, ih, List.length_cons]
    simp
    omega
theorem St.ins {U x : List Rec} {r : Rec} (h : St U x) (hr : r ∈ U) (hn : has x (key r) = false) : St U (ins r x) := ⟨ins_srt h.srt hn, fun z hz => by
  rcases ins_mem.1 hz with rfl | hz
  · exact hr
  · exact h.mem z hz⟩
theorem us_mem {l : List Itm} {i : Itm} (h : i ∈ l) : ir i ∈ Us l ∧ ib i ∈ Us l := by
  simp only [Us, List.mem_flatMap]
  exact ⟨⟨i, h, by simp⟩, ⟨i, h, by simp⟩⟩
theorem stp_ok {U : List Rec} {p : List Rec × List Rec} {i : Itm} {k : Nat} (h1 : St U p.1) (h2 : St U p.2) (l1 : p.1.length ≤ k) (l2 : p.2.length ≤ k) (hi : ir i ∈ U) (hj : ib i ∈ U) :
    St U (stp p i).1 ∧ St U (stp p i).2 ∧ (stp p i).1.length ≤ k + 1 ∧ (stp p i).2.length ≤ k + 1 := by
  unfold stp
  by_cases q : has p.1 (key (ir i)) = true ∨ has p.2 (key (ir i)) = true
  · rw [if_pos q]
    exact ⟨h1, h2, by omega, by omega⟩
  · rw [if_neg q]
    have q1 : has p.1 (key (ir i)) = false := by
      cases e : has p.1 (key (ir i)) with
      | false => rfl
      | true => exact absurd (Or.inl e) q
    have q2 : has p.2 (key (ir i)) = false := by
      cases e : has p.2 (key (ir i)) with
      | false => rfl
      | true => exact absurd (Or.inr e) q
    split
    · exact ⟨h1.ins hi q1, h2, by show (Rc.ins _ _).length ≤ _; rw [ins_len]; omega, by show p.2.length ≤ _; omega⟩
    · split
      · exact ⟨h1, h2.ins hi q2, by show p.1.length ≤ _; omega, by show (Rc.ins _ _).length ≤ _; rw [ins_len]; omega⟩
      · split
        · exact ⟨h1.ins hi q1, h2.ins hj q2, by show (Rc.ins _ _).length ≤ _; rw [ins_len]; omega, by show (Rc.ins _ _).length ≤ _; rw [ins_len]; omega⟩
        · exact ⟨h1.ins hi q1, h2.ins hi q2, by show (Rc.ins _ _).length ≤ _; rw [ins_len]; omega, by show (Rc.ins _ _).length ≤ _; rw [ins_len]; omega⟩
theorem lsts_ok (l : List Itm) : ∀ k, k ≤ l.length → St (Us l) (lsts (l.take k)).1 ∧ St (Us l) (lsts (l.take k)).2 ∧ (lsts (l.take k)).1.length ≤ k ∧ (lsts (l.take k)).2.length ≤ k
  | 0, _ => ⟨⟨List.Pairwise.nil, fun z hz => by cases hz⟩, ⟨List.Pairwise.nil, fun z hz => by cases hz⟩, Nat.le_refl _, Nat.le_refl _⟩
  | k + 1, h => by
    obtain ⟨h1, h2, h3, h4⟩ := lsts_ok l k (by omega)
    rw [lsts_snoc (by omega : k < l.length)]
    exact stp_ok h1 h2 h3 h4 (us_mem (List.getElem_mem _)).1 (us_mem (List.getElem_mem _)).2
/-- the slice '.slice A l.length c' holds the items l -/
structure Its (W : World) (A : Option Addr) (c : Nat) (l : List Itm) : Prop where
  le : l.length ≤ c
  max : c ≤ maxLen
  mem : 0 < l.length → ∃ ad, A = some ad ∧ ad.block < W.heap.size ∧ ∀ k, (h : k < l.length) → W.cell? (ad.add (k * 3)) = some (.int .u8 (l[k].a : Int)) ∧ W.cell? ⟨(ad.add (k * 3)).block, (ad.add (k * 3)).off + 1, none⟩ = some (.int .u8 (l[k].s : Int)) ∧ W.cell? ⟨(ad.add (k * 3)).block, (ad.add (k * 3)).off + 2, none⟩ = some (.int .u8 (l[k].w : Int))
theorem Its.below {W W' : World} {A : Option Addr} {c : Nat} {l : List Itm} (h : Its W A c l) (hb : Below W.heap.size W W') : Its W' A c l :=
  ⟨h.le, h.max, fun h0 => by
    obtain ⟨ad, e, hlt, hat⟩ := h.mem h0
    exact ⟨ad, e, Nat.lt_of_lt_of_le hlt hb.size, fun k hk => by
      obtain ⟨h1, h2, h3⟩ := hat k hk
      have hbl : (ad.add (k * 3)).block < W.heap.size := by rw [add_block]; exact hlt
      exact ⟨(hb.cell hbl).trans h1, (hb.cell (p := ⟨(ad.add (k * 3)).block, _, none⟩) hbl).trans h2, (hb.cell (p := ⟨(ad.add (k * 3)).block, _, none⟩) hbl).trans h3⟩⟩⟩
set_option maxRecDepth 100000 in
set_option maxHeartbeats 1000000 in
theorem lists_no (l : List Itm) (w : World) (A : Option Addr) (c : Nat) (hl : ¬ l.length ≤ 60) :
    Calls Tryd.prog 11 #[.slice A l.length c] w fun e w' => e = .returned (.tuple #[.slice none 0 0, .slice none 0 0, .bool false]) ∧ Below w.heap.size w w' := by
  have hlI : (60 : Int) < (l.length : Int) := by omega
  go_enter Tryd.func11, Tryd.ntmps11
  go_wp2_with fail
  go_ret3
  exact ⟨rfl, Below.refl _ _⟩
set_option maxRecDepth 100000 in
set_option maxHeartbeats 4000000 in
theorem lists_f (l : List Itm) (hla : ∀ i ∈ l, i.a < 256 ∧ i.s < 256 ∧ i.w < 256) (w : World) (A : Option Addr) (c : Nat) (h : Its w A c l) (hl : l.length ≤ 60) :
    Calls Tryd.prog 11 #[.slice A l.length c] w fun e w' => ∃ a b, e = .returned (.tuple #[a, b, .bool true]) ∧ RcV w' a (lsts l).1 ∧ RcV w' b (lsts l).2 ∧ Below w.heap.size w w' := by
  have HR := Lib.hid (fun W (hb : Below w.heap.size w W) => h.below hb)
  have HLA := Lib.hid (fun k (hk : k < l.length) => hla l[k] (List.getElem_mem hk))
  have HSN := Lib.hid (fun k (hk : k < l.length) => lsts_snoc hk)
  have HOK := Lib.hid (fun k (hk : k ≤ l.length) => lsts_ok l k hk)
  have HUV := Lib.hid (us_val l)
  have HTE := Lib.hid (show l.take l.length = l from List.take_length)
  have hcm : c ≤ 9223372036854775807 := h.max
  have hlc := h.le
  obtain ⟨n, hn⟩ : ∃ n, n = l.length := ⟨_, rfl⟩
  have HN := Lib.hid hn
  rw [← hn] at hl hlc HOK HTE ⊢
  have hlI : ¬ (60 : Int) < (n : Int) := by omega
  clear hn h hla
  go_enter Tryd.func11, Tryd.ntmps11
  go_wp2_with fail
  go_loopw [5, 6, 15] (fun u v x W => ∃ (k : Nat) (A1 : Option Addr) (c1 : Nat) (A2 : Option Addr) (c2 : Nat), k ≤ n ∧ x = .int .i64 (k : Int) ∧ u = .slice A1 (lsts (l.take k)).1.length c1 ∧ v = .slice A2 (lsts (l.take k)).2.length c2 ∧ Hid (Rcs W A1 c1 (lsts (l.take k)).1) ∧ Hid (Rcs W A2 c2 (lsts (l.take k)).2) ∧ Hid (Below w.heap.size w W)) (fun _ _ x _ => n - (intOf x).toNat)
  case atStart => exact ⟨0, none, 0, none, 0, Nat.zero_le _, rfl, rfl, rfl, Lib.hid (Rcs.nil_ _), Lib.hid (Rcs.nil_ _), Lib.hid (Below.refl _ _)⟩
  case round =>
    obtain ⟨k, A1, c1, A2, c2, hk, rfl, rfl, rfl, HP, HQ, HB⟩ := hrel
    by_cases hkn : k < n
    · have hkl : k < l.length := by rw [← HN.out]; exact hkn
      obtain ⟨ad, rfl, _, hat⟩ := (HR.out _ HB.out).mem (by omega)
      obtain ⟨c0, c1', c2'⟩ := hat k hkl
      obtain ⟨ia, is, iw⟩ := HLA.out k hkl
      have HS1 := Lib.hid (HSN.out k hkl)
      obtain ⟨s1, s2, l1, l2⟩ := HOK.out k hk
      obtain ⟨i, hi⟩ : ∃ i, l[k] = i := ⟨_, rfl⟩
      rw [hi] at c0 c1' c2' ia is iw HS1
      clear hat hi
      obtain ⟨p, hp⟩ : ∃ p, p = lsts (l.take k) := ⟨_, rfl⟩
      rw [← hp] at HS1 s1 s2 l1 l2 HP HQ ⊢
      clear hp
      have v1 := fun x (hx : x ∈ p.1) => HUV.out x (s1.mem x hx)
      have v2 := fun x (hx : x ∈ p.2) => HUV.out x (s2.mem x hx)
      obtain ⟨a4, ha4⟩ : ∃ a, a = i.a % 4 := ⟨_, rfl⟩
      obtain ⟨s5, hs5⟩ : ∃ a, a = i.s % 255 := ⟨_, rfl⟩
      obtain ⟨w8, hw8⟩ : ∃ a, a = i.w % 8 := ⟨_, rfl⟩
      obtain ⟨r, hr⟩ : ∃ r, r = ir i := ⟨_, rfl⟩
      obtain ⟨r2, hr2⟩ : ∃ r, r = ib i := ⟨_, rfl⟩
      have e1 : (i.a : Int).tmod 4 = (a4 : Int) := by rw [Int.tmod_eq_emod_of_nonneg (by omega)]; omega
      have e1' : (i.a : Int) % 4 = (a4 : Int) := by omega
      have e2 : IntKind.u32.wrap (a4 : Int) = (a4 : Int) := by rw [IntKind.wrap_u32]; omega
      have e2' : IntKind.u8.wrap (a4 : Int) = (a4 : Int) := by rw [IntKind.wrap_u8]; omega
      have e3 : IntKind.i64.wrap (i.s : Int) = (i.s : Int) := IntWalk.i64_in _ (by omega)
      have e4 : (i.s : Int).tmod 255 = (s5 : Int) := by rw [Int.tmod_eq_emod_of_nonneg (by omega)]; omega
      have e4' : (i.s : Int) % 255 = (s5 : Int) := by omega
      have e5 : IntKind.i64.wrap (s5 : Int) = (s5 : Int) := IntWalk.i64_in _ (by omega)
      have e6 : IntKind.i64.wrap ((s5 : Int) + 1) = (s5 : Int) + 1 := IntWalk.i64_in _ (by omega)
      have e7 : (i.w : Int).tmod 8 = (w8 : Int) := by rw [Int.tmod_eq_emod_of_nonneg (by omega)]; omega
      have e7' : (i.w : Int) % 8 = (w8 : Int) := by omega
      have e8 : IntKind.u8.wrap (w8 : Int) = (w8 : Int) := by rw [IntKind.wrap_u8]; omega
      have HON := Lib.hid (fun W => (show Calls Tryd.prog 28 #[.int .u32 (a4 : Int), .int .i64 ((s5 : Int) + 1), .int .u8 97] W (fun e w' => e = .returned (rv r) ∧ Below W.heap.size W w') from by rw [hr, ha4, hs5]; exact one_f (i.a % 4) (i.s % 255 + 1) 97 (by omega) W))
      have HON2 := Lib.hid (fun W => (show Calls Tryd.prog 28 #[.int .u32 (r.a : Int), .int .i64 (r.s : Int), .int .u8 98] W (fun e w' => e = .returned (rv r2) ∧ Below W.heap.size W w') from by rw [hr, hr2]; exact one_f (i.a % 4) (i.s % 255 + 1) 98 (by omega) W))
      have hrv : Val r := by rw [hr]; exact ir_val i
      have hr2v : Val r2 := by rw [hr2]; exact ib_val i
      have hkk : key r2 = key r := by rw [hr, hr2]; rfl
      have HH1 := Lib.hid (fun W A c (k : Rcs W A c p.1) => lhas_f p.1 r v1 hrv W A c k (by omega))
      have HH2 := Lib.hid (fun W A c (k : Rcs W A c p.2) => lhas_f p.2 r v2 hrv W A c k (by omega))
      have HA1 := Lib.hid (fun (q : has p.1 (key r) = false) W A c (k : Rcs W A c p.1) => radd_f p.1 r v1 hrv s1.srt q W A c k (by omega))
      have HA2 := Lib.hid (fun (q : has p.2 (key r) = false) W A c (k : Rcs W A c p.2) => radd_f p.2 r v2 hrv s2.srt q W A c k (by omega))
      have HA3 := Lib.hid (fun (q : has p.2 (key r) = false) W A c (k : Rcs W A c p.2) => radd_f p.2 r2 v2 hr2v s2.srt (by rw [hkk]; exact q) W A c k (by omega))
      unfold stp at HS1
      rw [← hr, ← hr2, ← hw8] at HS1
      unfold rv at HON HON2 HH1 HH2 HA1 HA2 HA3
      clear v1 v2 hrv hr2v hkk hr hr2 ha4 hs5 hw8
      obtain ⟨m1, hm1⟩ : ∃ m, m = p.1.length := ⟨_, rfl⟩
      obtain ⟨m2, hm2⟩ : ∃ m, m = p.2.length := ⟨_, rfl⟩
      rw [← hm1] at HH1 HA1 l1 ⊢
      rw [← hm2] at HH2 HA2 HA3 l2 ⊢
      have HM1 := Lib.hid hm1
      have HM2 := Lib.hid hm2
      clear hm1 hm2 s1 s2
      go_wp2_with fail
      refine (HON.out _).mono ?_
      rintro e w3 ⟨rfl, hb⟩
      have HX3 := Lib.hid ((Blk.new wr 53 #[.int .u8 (i.a : Int), .int .u8 (i.s : Int), .int .u8 (i.w : Int)]).below hb)
      have HB3 := Lib.hid ((HB.out.alloc HB.out.size _).trans (hb.mono (HB.out.alloc HB.out.size _).size))
      have HC3 := Lib.hid (((Below.refl wr.heap.size wr).alloc (Nat.le_refl _) _).trans (hb.mono (by rw [asz]; omega)))
      clear hb c0 c1' c2'
      have HP3 := Lib.hid (HP.out.below HC3.out)
      have HQ3 := Lib.hid (HQ.out.below HC3.out)
      have HZ5 := Lib.hid (Blk.new w3 42 (rc r).toArray)
      have HX5 := Lib.hid (HX3.out.alloc (.cells (rc r).toArray 42))
      have HB5 := Lib.hid (HB3.out.alloc HB3.out.size (.cells (rc r).toArray 42))
      have HP5 := Lib.hid (HP3.out.below ((Below.refl _ _).alloc (Nat.le_refl _) (.cells (rc r).toArray 42)))
      have HQ5 := Lib.hid (HQ3.out.below ((Below.refl _ _).alloc (Nat.le_refl _) (.cells (rc r).toArray 42)))
      obtain ⟨gx, hgx⟩ : ∃ g, g = wr.heap.size := ⟨_, rfl⟩
      rw [← hgx] at HX5 ⊢
      clear hgx
      go_wp2_with fail
      refine (HH1.out _ _ _ HP5.out).mono ?_
      rintro e w6 ⟨rfl, hb⟩
      have HZ6 := Lib.hid (HZ5.out.below hb)
      have HX6 := Lib.hid (HX5.out.below hb)
      have HB6 := Lib.hid (HB5.out.trans (hb.mono HB5.out.size))
      have HP6 := Lib.hid (HP5.out.below hb)
      have HQ6 := Lib.hid (HQ5.out.below hb)
      clear hb HX3 HB3 HC3 HP3 HQ3 HZ5 HX5 HB5 HP5 HQ5
      obtain ⟨gz, hgz⟩ : ∃ g, g = w3.heap.size := ⟨_, rfl⟩
      rw [← hgz] at HZ6 ⊢
      clear hgz
      have z0 : w6.cell? ⟨gz, 0, none⟩ = some (.int .u32 (r.a : Int)) := HZ6.out.cell 0
      have z1 : w6.cell? ⟨gz, 1, none⟩ = some (.int .i64 (r.s : Int)) := HZ6.out.cell 1
      have z2 : w6.cell? ⟨gz, 2, none⟩ = some (.string (ofL r.d)) := HZ6.out.cell 2
      by_cases q1 : has p.1 (key r) = true
      · have HS2 := Lib.hid (show lsts (l.take (k + 1)) = p by rw [HS1.out, if_pos (Or.inl q1)])
        simp only [q1]
        clear q1
        go_wp2_with fail
        go_roundw
        case rel => exact ⟨k + 1, A1, c1, A2, c2, by omega, by go_num, by rw [HS2.out, HM1.out], by rw [HS2.out, HM2.out], by rw [HS2.out]; exact HP6, by rw [HS2.out]; exact HQ6, HB6⟩
        case measure => simp [intOf]; omega
      · have q1 : has p.1 (key r) = false := by simpa using q1
        simp only [q1]
        go_wp2_with fail
        refine (HH2.out _ _ _ HQ6.out).mono ?_
        rintro e w7 ⟨rfl, hb⟩
        have HZ7 := Lib.hid (HZ6.out.below hb)
        have HX7 := Lib.hid (HX6.out.below hb)
        have HB7 := Lib.hid (HB6.out.trans (hb.mono HB6.out.size))
        have HP7 := Lib.hid (HP6.out.below hb)
        have HQ7 := Lib.hid (HQ6.out.below hb)
        clear hb HZ6 HX6 HB6 HP6 HQ6 z0 z1 z2
        by_cases q2 : has p.2 (key r) = true
        · have HS2 := Lib.hid (show lsts (l.take (k + 1)) = p by rw [HS1.out, if_pos (Or.inr q2)])
          simp only [q2]
          clear q2
          go_wp2_with fail
          go_roundw
          case rel => exact ⟨k + 1, A1, c1, A2, c2, by omega, by go_num, by rw [HS2.out, HM1.out], by rw [HS2.out, HM2.out], by rw [HS2.out]; exact HP7, by rw [HS2.out]; exact HQ7, HB7⟩
          case measure => simp [intOf]; omega
        · have q2 : has p.2 (key r) = false := by simpa using q2
          simp only [q2]
          rw [if_neg (by rw [q1, q2]; simp)] at HS1
          have HQ1 := Lib.hid q1
          have HQ2 := Lib.hid q2
          clear q1 q2
          have x2 : w7.cell? ⟨gx, 2, none⟩ = some (.int .u8 (i.w : Int)) := HX7.out.cell 2
          have z0 : w7.cell? ⟨gz, 0, none⟩ = some (.int .u32 (r.a : Int)) := HZ7.out.cell 0
          have z1 : w7.cell? ⟨gz, 1, none⟩ = some (.int .i64 (r.s : Int)) := HZ7.out.cell 1
          have z2 : w7.cell? ⟨gz, 2, none⟩ = some (.string (ofL r.d)) := HZ7.out.cell 2
          by_cases h0 : w8 = 0
          · have f0 : ((w8 : Int) == 0) = true := by simp; omega
            have HS2 := Lib.hid (show lsts (l.take (k + 1)) = (ins r p.1, p.2) by rw [HS1.out, if_pos h0])
            clear h0
            go_wp2_with fail
            refine (HA1.out HQ1.out _ _ _ HP7.out).mono ?_
            rintro e wa ⟨vwa, rfl, ho, hb⟩
            obtain ⟨Bwa, dwa, rfl, hrr⟩ := ho.rcs
            have HRwa := Lib.hid hrr
            have HBwa := Lib.hid (HB7.out.trans (hb.mono HB7.out.size))
            have HCwa := Lib.hid hb
            have HZwa := Lib.hid (HZ7.out.below hb)
            clear ho hrr hb z0 z1 z2
            go_wp2_with fail
            go_roundw
            case rel => exact ⟨k + 1, Bwa, dwa, A2, c2, by omega, by go_num, by rw [HS2.out], by rw [HS2.out, HM2.out], by rw [HS2.out]; exact HRwa, by rw [HS2.out]; exact Lib.hid (HQ7.out.below HCwa.out), HBwa⟩
            case measure => simp [intOf]; omega
          · have f0 : ((w8 : Int) == 0) = false := by simp; omega
            rw [if_neg h0] at HS1
            by_cases h1 : w8 = 1
            · have f1 : ((w8 : Int) == 1) = true := by simp; omega
              have HS2 := Lib.hid (show lsts (l.take (k + 1)) = (p.1, ins r p.2) by rw [HS1.out, if_pos h1])
              clear h0 h1
              go_wp2_with fail
              refine (HA2.out HQ2.out _ _ _ HQ7.out).mono ?_
              rintro e wa ⟨vwa, rfl, ho, hb⟩
              obtain ⟨Bwa, dwa, rfl, hrr⟩ := ho.rcs
              have HRwa := Lib.hid hrr
              have HBwa := Lib.hid (HB7.out.trans (hb.mono HB7.out.size))
              have HCwa := Lib.hid hb
              have HZwa := Lib.hid (HZ7.out.below hb)
              clear ho hrr hb z0 z1 z2
              go_wp2_with fail
              go_roundw
              case rel => exact ⟨k + 1, A1, c1, Bwa, dwa, by omega, by go_num, by rw [HS2.out, HM1.out], by rw [HS2.out], by rw [HS2.out]; exact Lib.hid (HP7.out.below HCwa.out), by rw [HS2.out]; exact HRwa, HBwa⟩
              case measure => simp [intOf]; omega
            · have f1 : ((w8 : Int) == 1) = false := by simp; omega
              rw [if_neg h1] at HS1
              by_cases h3 : w8 = 3
              · have f3 : ((w8 : Int) == 3) = true := by simp; omega
                have HS2 := Lib.hid (show lsts (l.take (k + 1)) = (ins r p.1, ins r2 p.2) by rw [HS1.out, if_pos h3])
                clear h0 h1 h3
                go_wp2_with fail
                refine (HA1.out HQ1.out _ _ _ HP7.out).mono ?_
                rintro e wa ⟨vwa, rfl, ho, hb⟩
                obtain ⟨Bwa, dwa, rfl, hrr⟩ := ho.rcs
                have HRwa := Lib.hid hrr
                have HBwa := Lib.hid (HB7.out.trans (hb.mono HB7.out.size))
                have HCwa := Lib.hid hb
                have HZwa := Lib.hid (HZ7.out.below hb)
                clear ho hrr hb z0 z1 z2
                have z0 : wa.cell? ⟨gz, 0, none⟩ = some (.int .u32 (r.a : Int)) := HZwa.out.cell 0
                have z1 : wa.cell? ⟨gz, 1, none⟩ = some (.int .i64 (r.s : Int)) := HZwa.out.cell 1
                have z2 : wa.cell? ⟨gz, 2, none⟩ = some (.string (ofL r.d)) := HZwa.out.cell 2
                go_wp2_with fail
                refine (HON2.out _).mono ?_
                rintro e wb ⟨rfl, hb⟩
                have HBwb := Lib.hid (HBwa.out.trans (hb.mono HBwa.out.size))
                have HCwb := Lib.hid (HCwa.out.trans (hb.mono HCwa.out.size))
                have HRwb := Lib.hid (HRwa.out.below hb)
                have HZwb := Lib.hid (HZwa.out.below hb)
                clear hb z0 z1 z2
                go_wp2_with fail
                refine (HA3.out HQ2.out _ _ _ (HQ7.out.below HCwb.out)).mono ?_
                rintro e wc ⟨vwc, rfl, ho, hb⟩
                obtain ⟨Bwc, dwc, rfl, hrr⟩ := ho.rcs
                have HRwc := Lib.hid hrr
                have HBwc := Lib.hid (HBwb.out.trans (hb.mono HBwb.out.size))
                have HCwc := Lib.hid hb
                have HZwc := Lib.hid (HZwb.out.below hb)
                clear ho hrr hb
                go_wp2_with fail
                go_roundw
                case rel => exact ⟨k + 1, Bwa, dwa, Bwc, dwc, by omega, by go_num, by rw [HS2.out], by rw [HS2.out], by rw [HS2.out]; exact Lib.hid (HRwb.out.below HCwc.out), by rw [HS2.out]; exact HRwc, HBwc⟩
                case measure => simp [intOf]; omega
              · have f3 : ((w8 : Int) == 3) = false := by simp; omega
                have HS2 := Lib.hid (show lsts (l.take (k + 1)) = (ins r p.1, ins r p.2) by rw [HS1.out, if_neg h3])
                clear h0 h1 h3
                go_wp2_with fail
                refine (HA1.out HQ1.out _ _ _ HP7.out).mono ?_
                rintro e wa ⟨vwa, rfl, ho, hb⟩
                obtain ⟨Bwa, dwa, rfl, hrr⟩ := ho.rcs
                have HRwa := Lib.hid hrr
                have HBwa := Lib.hid (HB7.out.trans (hb.mono HB7.out.size))
                have HCwa := Lib.hid hb
                have HZwa := Lib.hid (HZ7.out.below hb)
                clear ho hrr hb z0 z1 z2
                have z0 : wa.cell? ⟨gz, 0, none⟩ = some (.int .u32 (r.a : Int)) := HZwa.out.cell 0
                have z1 : wa.cell? ⟨gz, 1, none⟩ = some (.int .i64 (r.s : Int)) := HZwa.out.cell 1
                have z2 : wa.cell? ⟨gz, 2, none⟩ = some (.string (ofL r.d)) := HZwa.out.cell 2
                go_wp2_with fail
                refine (HA2.out HQ2.out _ _ _ (HQ7.out.below HCwa.out)).mono ?_
                rintro e wc ⟨vwc, rfl, ho, hb⟩
                obtain ⟨Bwc, dwc, rfl, hrr⟩ := ho.rcs
                have HRwc := Lib.hid hrr
                have HBwc := Lib.hid (HBwa.out.trans (hb.mono HBwa.out.size))
                have HCwc := Lib.hid hb
                have HZwc := Lib.hid (HZwa.out.below hb)
                clear ho hrr hb z0 z1 z2
                go_wp2_with fail
                go_roundw
                case rel => exact ⟨k + 1, Bwa, dwa, Bwc, dwc, by omega, by go_num, by rw [HS2.out], by rw [HS2.out], by rw [HS2.out]; exact Lib.hid (HRwa.out.below HCwc.out), by rw [HS2.out]; exact HRwc, HBwc⟩
                case measure => simp [intOf]; omega
    · obtain rfl : n = k := by omega
      rw [HTE.out] at HP HQ ⊢
      go_wp2_with fail
      go_ret3
      exact ⟨_, _, rfl, ⟨A1, c1, rfl, HP.out⟩, ⟨A2, c2, rfl, HQ.out⟩, HB.out⟩
end Rc
end Go.Proofs.YtnllocghmnhooaaDoor
