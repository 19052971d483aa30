/- Reconcile: records in memory; the index of a key (sort.Search with its closure). -/
import Derived.Test.YtnllocghmnhooaaDoorUc
import Derived.Deep.QuietTactic
import Derived.Sort.Walk0
namespace Go.Proofs.YtnllocghmnhooaaDoor
open Go.RowKit
set_option linter.unusedVariables false
set_option linter.unusedSimpArgs false
namespace Rc
open Bk (bl bl_len bl_ofL ofL_bl ofL_size ofL_append)

/-- a record's cells -/
def rc (r : Rec) : List Value := [.int .u32 (r.a : Int), .int .i64 (r.s : Int), .string (ofL r.d)]
def rvs (l : List Rec) : List Value := l.flatMap rc
theorem rvs_app (a b : List Rec) : rvs (a ++ b) = rvs a ++ rvs b := by simp [rvs]
theorem rvs_len (l : List Rec) : (rvs l).length = l.length * 3 := by
  induction l with
  | nil => rfl
  | cons r l ih =>
    have e : rvs (r :: l) = rc r ++ rvs l := rfl
    rw [e, List.length_append, ih, List.length_cons, show (rc r).length = 3 from rfl]; omega
theorem rvs_one (l : List Rec) : ∀ u ∈ rvs l, u.oneCell' = true := by
  intro u hu
  simp only [rvs, List.mem_flatMap, rc] at hu
  obtain ⟨t, _, ht⟩ := hu
  simp at ht
  rcases ht with rfl | rfl | rfl <;> rfl
theorem rvs_take (l : List Rec) (k : Nat) : (rvs l).take (k * 3) = rvs (l.take k) := by
  induction l generalizing k with
  | nil => simp [rvs]
  | cons r l ih =>
    cases k with
    | zero => simp [rvs]
    | succ k =>
      have e : rvs (r :: l) = .int .u32 (r.a : Int) :: .int .i64 (r.s : Int) :: .string (ofL r.d) :: rvs l := rfl
      rw [e, show (k + 1) * 3 = k * 3 + 1 + 1 + 1 by omega, List.take_succ_cons, List.take_succ_cons, List.take_succ_cons, ih]
      rfl
theorem rvs_drop (l : List Rec) (k : Nat) : (rvs l).drop (k * 3) = rvs (l.drop k) := by
  induction l generalizing k with
  | nil => simp [rvs]
  | cons r l ih =>
    cases k with
    | zero => simp [rvs]
    | succ k =>
      have e : rvs (r :: l) = .int .u32 (r.a : Int) :: .int .i64 (r.s : Int) :: .string (ofL r.d) :: rvs l := rfl
      rw [e, show (k + 1) * 3 = k * 3 + 1 + 1 + 1 by omega, List.drop_succ_cons, List.drop_succ_cons, List.drop_succ_cons, ih]
      rfl
theorem rvs_get (l : List Rec) (k : Nat) (h : k < l.length) : (rvs l)[k * 3]? = some (.int .u32 (l[k].a : Int)) ∧ (rvs l)[k * 3 + 1]? = some (.int .i64 (l[k].s : Int)) ∧ (rvs l)[k * 3 + 2]? = some (.string (ofL l[k].d)) := by
  induction l generalizing k with
  | nil => exact absurd h (by simp)
  | cons t l ih =>
    cases k with
    | zero => exact ⟨rfl, rfl, rfl⟩
    | succ k =>
      have h' : k < l.length := by simpa using h
      obtain ⟨h1, h2, h3⟩ := ih k h'
      have e : rvs (t :: l) = .int .u32 (t.a : Int) :: .int .i64 (t.s : Int) :: .string (ofL t.d) :: rvs l := rfl
      rw [e, show (k + 1) * 3 = k * 3 + 3 by omega]
      exact ⟨h1, h2, h3⟩
/-- the records l lie in block g from offset o on -/
def RAt (W : World) (g o : Nat) (l : List Rec) : Prop := g < W.heap.size ∧ ∀ k, (h : k < l.length) → W.cell? ⟨g, o + k * 3, none⟩ = some (.int .u32 (l[k].a : Int)) ∧ W.cell? ⟨g, o + k * 3 + 1, none⟩ = some (.int .i64 (l[k].s : Int)) ∧ W.cell? ⟨g, o + k * 3 + 2, none⟩ = some (.string (ofL l[k].d))
/-- the slice '.slice A l.length c' holds the records l -/
structure Rcs (W : World) (A : Option Addr) (c : Nat) (l : List Rec) : Prop where
  le : l.length ≤ c
  max : c ≤ maxLen
  mem : 0 < l.length → ∃ g o, A = some ⟨g, o, none⟩ ∧ RAt W g o l
  some_ : A = none → c = 0
  at_ : ∀ ad, A = some ad → ∃ g o, ad = ⟨g, o, none⟩
theorem RAt.below {W W' : World} {g o : Nat} {l : List Rec} (h : RAt W g o l) (hb : Below W.heap.size W W') : RAt W' g o l :=
  ⟨Nat.lt_of_lt_of_le h.1 hb.size, fun k hk => by
    obtain ⟨h1, h2, h3⟩ := h.2 k hk
    exact ⟨(hb.cell (p := ⟨g, _, none⟩) h.1).trans h1, (hb.cell (p := ⟨g, _, none⟩) h.1).trans h2, (hb.cell (p := ⟨g, _, none⟩) h.1).trans h3⟩⟩
theorem Rcs.below {W W' : World} {A : Option Addr} {c : Nat} {l : List Rec} (h : Rcs W A c l) (hb : Below W.heap.size W W') : Rcs W' A c l :=
  ⟨h.le, h.max, fun h0 => by
    obtain ⟨g, o, e, k⟩ := h.mem h0
    exact ⟨g, o, e, k.below hb⟩, h.some_, h.at_⟩
theorem Rcs.drewN {W : World} {A : Option Addr} {c : Nat} {l : List Rec} (h : Rcs W A c l) (n : Nat) : Rcs (W.drewN n) A c l := h.below (below_drewN (Below.refl _ _) n)
theorem Rcs.nil_ (W : World) : Rcs W none 0 [] := ⟨Nat.le_refl _, Nat.zero_le _, fun h => absurd h (by simp), fun _ => rfl, fun _ h => by cases h⟩
theorem rcs_own {W : World} {base : Nat} {v : Value} {l : List Rec} (h : W.ownsRow base 42 3 v l.length (rvs l)) : ∃ A c, v = .slice A l.length c ∧ Rcs W A c l := by
  obtain ⟨A, c, rfl, hsl, _⟩ := own_form h
  have hA : (A = none ∧ l.length = 0 ∧ c = 0) ∨ ∃ g, A = some ⟨g, 0, none⟩ := by
    rcases h.2 with ⟨e1, e2⟩ | ⟨g, cap, cur, e, _⟩
    · injection e1 with x y z
      exact Or.inl ⟨x, e2, z⟩
    · injection e with x y z
      exact Or.inr ⟨g, x⟩
  refine ⟨A, c, rfl, hsl.1, hsl.2.1, fun h0 => ?_, fun e => ?_, fun ad e => ?_⟩
  · obtain ⟨g, cap, e, _, hlt⟩ := h.form h0
    injection e with e1 _ _
    subst e1
    obtain ⟨ad, e1, _, hc⟩ := hsl.2.2.2 h0
    injection e1 with e1
    subst e1
    refine ⟨g, 0, rfl, hlt, fun k hk => ?_⟩
    obtain ⟨h1, h2, h3⟩ := rvs_get l k hk
    have c1 := hc _ _ h1
    have c2 := hc _ _ h2
    have c3 := hc _ _ h3
    rw [add_own] at c1 c2 c3
    rw [Nat.zero_add]
    exact ⟨c1, c2, c3⟩
  · rcases hA with ⟨_, _, h⟩ | ⟨g, h⟩
    · exact h
    · rw [h] at e; cases e
  · rcases hA with ⟨h, _, _⟩ | ⟨g, h⟩
    · rw [h] at e; cases e
    · rw [h] at e
      exact ⟨g, 0, (Option.some.inj e).symm⟩
/-- part of a slice -/
theorem Rcs.part {W : World} {g o c : Nat} {l : List Rec} (h : Rcs W (some ⟨g, o, none⟩) c l) {i j : Nat} (hij : i ≤ j) (hj : j ≤ l.length) : Rcs W (if c = i then some ⟨g, o, none⟩ else some ⟨g, o + i * 3, none⟩) (c - i) ((l.drop i).take (j - i)) := by
  have hle := h.le
  refine ⟨by simp; omega, by have := h.max; omega, fun h0 => ?_, fun e => ?_, fun ad e => ?_⟩
  · simp at h0
    obtain ⟨g', o', e, hb, hc⟩ := h.mem (by omega)
    injection e with e
    injection e with e1 e2 _
    subst e1; subst e2
    rw [if_neg (by omega)]
    refine ⟨g, o + i * 3, rfl, hb, fun k hk => ?_⟩
    simp at hk
    have := hc (i + k) (by omega)
    rw [show o + (i + k) * 3 = o + i * 3 + k * 3 by omega] at this
    rw [List.getElem_take, List.getElem_drop]
    exact this
  · split at e <;> cases e
  · split at e
    · exact ⟨g, o, (Option.some.inj e).symm⟩
    · exact ⟨g, o + i * 3, (Option.some.inj e).symm⟩

theorem less_eq (x : Bs) (s : ByteArray) : Op.bytesLess (ofL x).toList s.toList = decide (x < bl s) := by
  rw [bytesLess_eq, Lib.toList_data, Lib.toList_data]
  rfl
set_option maxRecDepth 100000 in
set_option maxHeartbeats 2000000 in
theorem clo_f (l : List Rec) (hv : ∀ r ∈ l, Val r) (s : ByteArray) (W : World) (A : Option Addr) (c g1 g2 : Nat) (i : Nat) (hi : i < l.length) (ht : Bk.Tab W) (hr : Rcs W A c l)
    (h1 : Blk W g1 25 #[.slice A l.length c]) (h2 : Blk W g2 9 #[.string s]) :
    Calls Tryd.prog 58 #[.int .i64 (i : Int), .pointer (some ⟨g1, 0, none⟩), .pointer (some ⟨g2, 0, none⟩)] W fun e w' => e = .returned (.bool (!decide (key l[i] < bl s))) ∧ Below W.heap.size W w' := by
  have HW := Lib.hid (fun V (hV : Bk.Tab V) => key_f l[i] (hv _ (List.getElem_mem hi)) V hV)
  have HL := Lib.hid (less_eq (key l[i]) s)
  obtain ⟨g, o, rfl, hlt, hat⟩ := hr.mem (by omega)
  have HAT := Lib.hid (hat i hi)
  obtain ⟨r, hre⟩ : ∃ r, l[i] = r := ⟨_, rfl⟩
  rw [hre] at HW HL HAT ⊢
  have hiI : (i : Int) < (l.length : Int) := by omega
  have H1 := Lib.hid h1.drew
  have H2 := Lib.hid h2.drew
  have HT := Lib.hid ht
  obtain ⟨n, hn⟩ : ∃ n, n = l.length := ⟨_, rfl⟩
  rw [← hn] at hiI H1
  unfold rv at HW
  obtain ⟨y, hy⟩ : ∃ y, y = ofL (key r) := ⟨_, rfl⟩
  rw [← hy] at HW HL
  have hb := HL.out
  obtain ⟨b, hbb⟩ : ∃ b, b = decide (key r < bl s) := ⟨_, rfl⟩
  rw [← hbb] at hb ⊢
  clear hat hr h1 h2 hv hre hn hy HL hbb ht
  obtain ⟨ra, hra⟩ : ∃ x, x = (r.a : Int) := ⟨_, rfl⟩
  obtain ⟨rs, hrs⟩ : ∃ x, x = (r.s : Int) := ⟨_, rfl⟩
  obtain ⟨rd, hrd⟩ : ∃ x, x = ofL r.d := ⟨_, rfl⟩
  rw [← hra, ← hrs, ← hrd] at HAT HW
  have HLT := Lib.hid hlt
  clear hra hrs hrd hlt
  go_enter Tryd.func58, Tryd.ntmps58
  go_wp2_with fail
  go_region_held3 (fun V => V.cell? ⟨g1, 0, none⟩ = some (.slice (some ⟨g, o, none⟩) n c) ∧ V.cell? ⟨g2, 0, none⟩ = some (.string s) ∧ V.cell? ⟨g, o + i * 3, none⟩ = some (.int .u32 ra) ∧ V.cell? ⟨g, o + i * 3 + 1, none⟩ = some (.int .i64 rs) ∧ V.cell? ⟨g, o + i * 3 + 2, none⟩ = some (.string rd))
    (first | exact ⟨H1.out.cell 0, H2.out.cell 0, HAT.out.1, HAT.out.2.1, HAT.out.2.2⟩ | exact ⟨(H1.out.below HB4.out).cell 0, (H2.out.below HB4.out).cell 0, (HB4.out.cell (p := ⟨g, _, none⟩) HLT.out).trans HAT.out.1, (HB4.out.cell (p := ⟨g, _, none⟩) HLT.out).trans HAT.out.2.1, (HB4.out.cell (p := ⟨g, _, none⟩) HLT.out).trans HAT.out.2.2⟩)
    (first
      | (go_at_call 22; (with_reducible refine (HW.out _ ?_).mono ?_); exact HT.out.bel (below_drewN (Below.refl _ _) 1); rintro e w4 ⟨rfl, hb4⟩; have HB4 := Lib.hid hb4; clear hb4))
  all_goals go_wp2_with fail
  all_goals go_ret
  all_goals exact ⟨rfl, (show Below W.heap.size W W.drew from below_drewN (Below.refl _ _) 1).trans HB4.out⟩

set_option maxRecDepth 100000 in
set_option maxHeartbeats 2000000 in
theorem search_f (l : List Rec) (hv : ∀ r ∈ l, Val r) (hs : Srt l) (s : ByteArray) (W : World) (A : Option Addr) (c g1 g2 : Nat) (ht : Bk.Tab W) (hr : Rcs W A c l) (hl : l.length ≤ 1000000)
    (h1 : Blk W g1 25 #[.slice A l.length c]) (h2 : Blk W g2 9 #[.string s]) :
    Calls Tryd.prog 57 #[.int .i64 (l.length : Int), .func (.func 58) #[] #[.pointer (some ⟨g1, 0, none⟩), .pointer (some ⟨g2, 0, none⟩)]] W fun e w' => e = .returned (.int .i64 (idx l (bl s) : Int)) ∧ Below W.heap.size W w' := by
  have HC := Lib.hid (fun V (hb : Below W.heap.size W V) i (hi : i < l.length) => clo_f l hv s V A c g1 g2 i hi (ht.bel hb) (hr.below hb) (h1.below hb) (h2.below hb))
  have HLO := Lib.hid (fun i (hi : i < l.length) (h : ¬ key l[i] < bl s) => (Nat.le_of_not_lt fun e => h (idx_lo hs e) : idx l (bl s) ≤ i))
  have HHI := Lib.hid (fun i (hi : i < l.length) (h : key l[i] < bl s) => (Nat.lt_of_not_le fun e => idx_hi hs e hi h : i < idx l (bl s)))
  have HIX := Lib.hid (idx_le l (bl s))
  obtain ⟨K, hK⟩ : ∃ K, K = idx l (bl s) := ⟨_, rfl⟩
  rw [← hK] at HLO HHI HIX ⊢
  obtain ⟨n, hn⟩ : ∃ n, n = l.length := ⟨_, rfl⟩
  have HN := Lib.hid hn
  rw [← hn] at hl HIX ⊢
  clear hn hK hv hs ht hr h1 h2
  go_enter Tryd.func57, Tryd.ntmps57
  go_wp2_with fail
  go_loopw [5, 6] (fun x y V => ∃ i j : Nat, i ≤ j ∧ j ≤ n ∧ x = .int .i64 (i : Int) ∧ y = .int .i64 (j : Int) ∧ Hid (i ≤ K ∧ K ≤ j) ∧ Hid (Below W.heap.size W V)) (fun x y _ => (intOf y).toNat - (intOf x).toNat)
  case atStart => exact ⟨0, n, by omega, by omega, rfl, rfl, Lib.hid ⟨by omega, HIX.out⟩, Lib.hid (Below.refl _ _)⟩
  case round =>
    obtain ⟨i, j, hij, hj, rfl, rfl, HK, HB⟩ := hrel
    by_cases hlt : i < j
    · obtain ⟨h, hh⟩ : ∃ h, h = (i + j) / 2 := ⟨_, rfl⟩
      have hh1 : i ≤ h := by omega
      have hh2 : h < j := by omega
      have hltI : (i : Int) < (j : Int) := by omega
      obtain ⟨t, htt⟩ : ∃ t, t = i + j := ⟨_, rfl⟩
      have v1 : (i : Int) + (j : Int) = (t : Int) := by omega
      have v2 : IntKind.i64.wrap (t : Int) = (t : Int) := IntWalk.i64_in _ (by omega)
      have v3 : IntKind.u64.wrap (t : Int) = (t : Int) := by rw [IntKind.wrap_u64]; omega
      have v4 : IntKind.i64.wrap (h : Int) = (h : Int) := IntWalk.i64_in _ (by omega)
      have v5 : (t : Int) / 2 = (h : Int) := by omega
      have hhl : h < l.length := by rw [← HN.out]; omega
      have HCC := Lib.hid (HC.out wr HB.out h hhl)
      have HL1 := Lib.hid (HLO.out h hhl)
      have HL2 := Lib.hid (HHI.out h hhl)
      have hh1I : (0 : Int) ≤ (h : Int) := by omega
      clear hh htt
      by_cases hk : key l[h] < bl s
      · rw [decide_eq_true hk] at HCC
        have HK2 := Lib.hid (show h + 1 ≤ K ∧ K ≤ j from ⟨HL2.out hk, HK.out.2⟩)
        have v6 : IntKind.i64.wrap ((h : Int) + 1) = (h : Int) + 1 := IntWalk.i64_in _ (by omega)
        clear hk
        go_wp2_with fail
        refine HCC.out.mono ?_
        rintro e w' ⟨rfl, hb⟩
        have HB2 := Lib.hid (HB.out.trans (hb.mono HB.out.size))
        clear hb
        go_wp2_with fail
        go_roundw
        case rel => exact ⟨h + 1, j, by omega, hj, by go_num, rfl, HK2, HB2⟩
        case measure => simp [intOf]; omega
      · rw [decide_eq_false hk] at HCC
        have HK2 := Lib.hid (show i ≤ K ∧ K ≤ h from ⟨HK.out.1, HL1.out hk⟩)
        clear hk
        go_wp2_with fail
        refine HCC.out.mono ?_
        rintro e w' ⟨rfl, hb⟩
        have HB2 := Lib.hid (HB.out.trans (hb.mono HB.out.size))
        clear hb
        go_wp2_with fail
        go_roundw
        case rel => exact ⟨i, h, hh1, by omega, rfl, rfl, HK2, HB2⟩
        case measure => simp [intOf]; omega
    · have HE := Lib.hid (show i = K by have := HK.out; omega)
      have hltI : ¬ (i : Int) < (j : Int) := by omega
      go_wp2_with fail
      go_ret
      exact ⟨by rw [← HE.out]; rfl, HB.out⟩
set_option maxRecDepth 100000 in
set_option maxHeartbeats 1000000 in
theorem index_f (l : List Rec) (hv : ∀ r ∈ l, Val r) (hs : Srt l) (s : ByteArray) (W : World) (A : Option Addr) (c : Nat) (ht : Bk.Tab W) (hr : Rcs W A c l) (hl : l.length ≤ 1000000) :
    Calls Tryd.prog 44 #[.slice A l.length c, .string s] W fun e w' => e = .returned (.int .i64 (idx l (bl s) : Int)) ∧ Below W.heap.size W w' := by
  have hb1 : Below W.heap.size W (W.alloc (.cells #[.slice A l.length c] 25)) := (Below.refl _ W).alloc (Nat.le_refl _) _
  have hb2 : Below W.heap.size W ((W.alloc (.cells #[.slice A l.length c] 25)).alloc (.cells #[.string s] 9)) := hb1.alloc (by rw [asz]; omega) _
  have k1 := (Blk.new W 25 #[.slice A l.length c]).alloc (.cells #[.string s] 9)
  have k2 := Blk.new (W.alloc (.cells #[.slice A l.length c] 25)) 9 #[.string s]
  rw [asz] at k2
  have HC := Lib.hid (search_f l hv hs s _ A c W.heap.size (W.heap.size + 1) (ht.bel hb2) (hr.below hb2) hl k1 k2)
  have HB := Lib.hid hb2
  clear hv hs ht hr hb1 hb2 k1 k2
  obtain ⟨K, hK⟩ : ∃ K, K = idx l (bl s) := ⟨_, rfl⟩
  rw [← hK] at HC ⊢
  clear hK
  obtain ⟨n, hn⟩ : ∃ n, n = l.length := ⟨_, rfl⟩
  rw [← hn] at HC HB hl ⊢
  clear hn
  go_enter Tryd.func44, Tryd.ntmps44
  go_wp2_with fail
  refine HC.out.mono ?_
  rintro e w' ⟨rfl, hb⟩
  have HB2 := Lib.hid (HB.out.trans (hb.mono HB.out.size))
  clear hb
  go_wp2_with fail
  go_ret
  exact ⟨rfl, HB2.out⟩
end Rc
end Go.Proofs.YtnllocghmnhooaaDoor
