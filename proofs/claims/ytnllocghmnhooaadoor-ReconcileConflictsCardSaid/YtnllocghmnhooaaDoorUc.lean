/- Reconcile: the keys: strconv.FormatUint, padded, valid, Key of the program; digits, valid, Key of the reference. -/
import Derived.Test.YtnllocghmnhooaaDoorUb
import Derived.Test.YtnllocghmnhooaaDoorBv
import Derived.Test.YtnllocghmnhooaaDoorBg
import Derived.Test.YtnllocghmnhooaaDoorBh
import Derived.Deep.RegionHeld3
namespace Go.Proofs.YtnllocghmnhooaaDoor
open Go.RowKit
set_option linter.unusedVariables false
set_option linter.unusedSimpArgs false
namespace Rc
open Bk (bl bl_len bl_ofL ofL_bl ofL_size ofL_append repeatL_one)

theorem asz (w : World) (o : Obj) : (w.alloc o).heap.size = w.heap.size + 1 := by simp
theorem z24_holds (w : World) (T : TypeId) (nd : Nat) (hs : nd ≤ 24) : Sort.Holds (fun (b : UInt8) => Value.int .u8 (b.toNat : Int)) (w.alloc (.cells Lib.zeros24 T)) w.heap.size 0 (Array.replicate nd (0 : UInt8)) := fun j hj => by
  have hj' : j < nd := by simpa using hj
  refine ⟨?_, World.frozen?_alloc_new _ _ _ _⟩
  rw [World.cell?_alloc_new, Lib.zeros24_at _ (by omega), getElem!_pos _ j hj]
  simp
theorem put_below (w : World) (o : Obj) (dk : Array UInt8) (k : Nat) : Below w.heap.size w ((Sort.putRow (fun (b : UInt8) => Value.int .u8 (b.toNat : Int)) (w.alloc o) w.heap.size 0 dk).drewN k) := by
  rw [Sort.alloc_eq_grow]
  obtain ⟨os', _, e⟩ := Sort.putRow_grow_new (fun (b : UInt8) => Value.int .u8 (b.toNat : Int)) w #[o] w.heap.size 0 dk (Nat.le_refl _)
  rw [e]
  have hb : Below w.heap.size w (Sort.grow w os') := ⟨rfl, rfl, rfl, by simp [Sort.grow], fun j hj => Sort.heap_grow_old w os' hj⟩
  exact below_drewN hb k

set_option maxRecDepth 100000 in
set_option maxHeartbeats 2000000 in
theorem fmtu_f (u : Nat) (hu64 : u < 18446744073709551616) (w : World) (ht : Bk.Tab w) :
    Calls Tryd.prog 69 #[.int .u64 (u : Int), .int .i64 10] w fun e w' => e = .returned (.string ⟨(Lib.decDigits u).toArray⟩) ∧ Below w.heap.size w w' := by
  by_cases hs : u < 100
  · have HC := Lib.hid (fun W => Tryd.internal_strconv_small u hs W)
    go_enter Tryd.func69, Tryd.ntmps69
    go_wp2_with fail
    refine (HC.out _).mono ?_
    rintro e w' ⟨rfl, rfl⟩
    go_wp2_with fail
    go_ret
    exact ⟨rfl, Below.refl _ _⟩
  · have hu1 : 1 ≤ u := by omega
    have hnd20 : Lib.nDigits u ≤ 20 := by have := Lib.numDigits_eq u hu1 hu64; split at this <;> omega
    have hal : Tryd.prog.arrayLen 115 = 24 := by kernel_rfl
    have hsl : ∀ W, (Instr.sliceAt 115 (.pointer (some ⟨w.heap.size, 0, none⟩)) none (some (.int .i64 (Lib.nDigits u : Int))) none).run Tryd.prog W = .ok (.slice (some ⟨w.heap.size, 0, none⟩) (Lib.nDigits u) 24) W := fun W => by
      rw [run_sliceAt_array_h W 115 ⟨w.heap.size, 0, none⟩ (by simp [Program.arrayLen, Program.elem, Tryd.underlying115]) .i64 (Lib.nDigits u : Int) (by omega) (by rw [hal]; omega)]
      go_simp
    have hH0 := z24_holds w 115 (Lib.nDigits u) (by omega)
    have hfmt := Tryd.internal_strconv_formatBase10 w.heap.size 0 24 u (Array.replicate (Lib.nDigits u) 0) (w.alloc (.cells Lib.zeros24 115)) hH0 (by rw [Array.size_replicate]; exact Lib.lt_pow_nDigits u) hu64 (by rw [Array.size_replicate]; omega)
    rw [Array.size_replicate] at hfmt
    have HF := Lib.hid hfmt
    have HH0 := Lib.hid hH0
    have HND := Lib.hid (Tryd.internal_strconv_numDigits u hu1 hu64 (w.alloc (.cells Lib.zeros24 115)) (Lib.tabIs_alloc ht _))
    clear hH0 hal hfmt
    go_enter Tryd.func69, Tryd.ntmps69
    go_wp2_with fail
    refine HND.out.mono ?_
    rintro e w' ⟨rfl, rfl⟩
    go_wp2_with fail
    refine HF.out.mono ?_
    rintro e w' ⟨rfl, k, v', dk, rfl, hF⟩
    have HK := Lib.hid hF
    have hcv : (convert 71 9 (.slice (some ⟨w.heap.size, 0, none⟩) (Lib.nDigits u) 24)).run Tryd.prog ((Sort.putRow (fun (b : UInt8) => Value.int .u8 (b.toNat : Int)) (w.alloc (.cells Lib.zeros24 115)) w.heap.size 0 dk).drewN k) = .ok (.string ⟨(Lib.decDigits u).toArray⟩) ((Sort.putRow (fun (b : UInt8) => Value.int .u8 (b.toNat : Int)) (w.alloc (.cells Lib.zeros24 115)) w.heap.size 0 dk).drewN k) := by
      have h := run_convert_bytes_back (P := Tryd.prog) ((Sort.putRow (fun (b : UInt8) => Value.int .u8 (b.toNat : Int)) (w.alloc (.cells Lib.zeros24 115)) w.heap.size 0 dk).drewN k) 71 9 5 ⟨w.heap.size, 0, none⟩ 24 (Lib.decDigits u) Tryd.underlying71 Tryd.underlying5 Tryd.underlying9 (fun j hj => by
        rw [Lib.row_is_numeral HK.out j hj, Lib.add_plain, World.cell?_drewN]
        exact Sort.cell?_putRow (fun (b : UInt8) => Value.int .u8 (b.toNat : Int)) _ w.heap.size 0 _ dk HH0.out (by rw [HK.out.size, Array.size_replicate]) j (by rw [HK.out.size]; rw [Lib.decDigits_length] at hj; exact hj))
      rw [Lib.decDigits_length] at h
      exact h
    clear hF
    go_wp2_with fail
    go_ret
    exact ⟨rfl, put_below _ _ _ _⟩

set_option maxRecDepth 100000 in
theorem fmt_f (u : Nat) (hu64 : u < 18446744073709551616) (w : World) (ht : Bk.Tab w) :
    Calls Tryd.prog 55 #[.int .u64 (u : Int), .int .i64 10] w fun e w' => e = .returned (.string ⟨(Lib.decDigits u).toArray⟩) ∧ Below w.heap.size w w' := by
  have HC := Lib.hid (fmtu_f u hu64 w ht)
  go_enter Tryd.func55, Tryd.ntmps55
  go_wp2_with fail
  refine HC.out.mono ?_
  rintro e w' ⟨rfl, hb⟩
  go_wp2_with fail
  go_ret
  exact ⟨rfl, hb⟩


theorem dd_big {u : Nat} (h : ¬ u < 10) : Lib.decDigits u = Lib.decDigits (u / 10) ++ Lib.decDigits (u % 10) := by
  rw [Lib.decDigits, dif_neg h, Lib.decDigits_one (Nat.mod_lt _ (by omega))]
/-- decimal digits with zeros in front -/
theorem dgs_zero : ∀ w, dgs w 0 = List.replicate w 48
  | 0 => rfl
  | w + 1 => by
    show dgs w (0 / 10) ++ [48] = _
    rw [show 0 / 10 = 0 from rfl, dgs_zero w, List.replicate_succ']
theorem pad_eq : ∀ (w n : Nat), 1 ≤ w → n < 10 ^ w → (Lib.decDigits n).length ≤ w ∧ List.replicate (w - (Lib.decDigits n).length) 48 ++ Lib.decDigits n = dgs w n
  | 0, n, h, _ => by omega
  | w + 1, n, _, h => by
    by_cases hn : n < 10
    · rw [Lib.decDigits_one hn]
      refine ⟨by simp, ?_⟩
      show _ = dgs w (n / 10) ++ [UInt8.ofNat (48 + n % 10)]
      rw [Nat.div_eq_of_lt hn, dgs_zero, Nat.mod_eq_of_lt hn]
      simp
    · have hw : 1 ≤ w := by
        rcases Nat.eq_zero_or_pos w with e | e
        · subst e; simp at h; omega
        · exact e
      rw [Nat.pow_succ] at h
      obtain ⟨h1, h2⟩ := pad_eq w (n / 10) hw (by omega)
      rw [dd_big hn, Lib.decDigits_one (Nat.mod_lt n (by omega))]
      refine ⟨by simp; omega, ?_⟩
      show _ = dgs w (n / 10) ++ [UInt8.ofNat (48 + n % 10)]
      rw [← h2, List.length_append, List.length_singleton, show w + 1 - ((Lib.decDigits (n / 10)).length + 1) = w - (Lib.decDigits (n / 10)).length by omega, List.append_assoc]
theorem dgs_front : ∀ (i n : Nat), dgs (i + 1) n = UInt8.ofNat (48 + n / 10 ^ i % 10) :: dgs i n
  | 0, n => by simp [dgs]
  | i + 1, n => by
    show dgs (i + 1) (n / 10) ++ [UInt8.ofNat (48 + n % 10)] = _
    rw [dgs_front i (n / 10), Nat.div_div_eq_div_mul, ← Nat.pow_succ']
    rfl

theorem rep48_f (k : Nat) (hk : k ≤ 100) (V : World) : Calls Tryd.prog 56 #[.string ⟨#[48]⟩, .int .i64 (k : Int)] V fun e w' => e = .returned (.string (ofL (List.replicate k 48))) ∧ Below V.heap.size V w' :=
  (Tryd.strings_Repeat _ k V (by omega) (by show 1 * k ≤ _; omega)).mono fun e w' ⟨h1, h2⟩ => ⟨by rw [h1]; congr 2; show (⟨(Lib.repeatL [48] k).toArray⟩ : ByteArray) = _; rw [repeatL_one]; rfl, h2⟩

set_option maxRecDepth 100000 in
set_option maxHeartbeats 1000000 in
theorem padded_f (u k : Nat) (hu : u < 18446744073709551616) (hk1 : 1 ≤ k) (hk2 : k ≤ 100) (hlt : u < 10 ^ k) (w : World) (ht : Bk.Tab w) :
    Calls Tryd.prog 43 #[.int .u64 (u : Int), .int .i64 (k : Int)] w fun e w' => e = .returned (.string (ofL (dgs k u))) ∧ Below w.heap.size w w' := by
  obtain ⟨p1, p2⟩ := pad_eq k u hk1 hlt
  have HF := Lib.hid (fmt_f u hu w ht)
  have hds : (⟨(Lib.decDigits u).toArray⟩ : ByteArray).size = (Lib.decDigits u).length := by show (Lib.decDigits u).toArray.size = _; simp
  obtain ⟨m, hm⟩ : ∃ m, m = (Lib.decDigits u).length := ⟨_, rfl⟩
  rw [← hm] at p1 p2 hds
  have HP := Lib.hid p2
  obtain ⟨q, hq⟩ : ∃ q, q = k - m := ⟨_, rfl⟩
  rw [← hq] at HP
  have HR := Lib.hid (fun V => rep48_f q (by omega) V)
  obtain ⟨y, hy⟩ : ∃ y, y = ofL (List.replicate q 48) := ⟨_, rfl⟩
  rw [← hy] at HR
  have HYZ := Lib.hid hy
  have hys : y.size = q := by rw [hy, ofL_size]; simp
  obtain ⟨z, hz⟩ : ∃ z, z = (⟨(Lib.decDigits u).toArray⟩ : ByteArray) := ⟨_, rfl⟩
  have HZ := Lib.hid hz
  rw [← hz] at HF hds
  have HA' := Lib.hid (show ofL (List.replicate q 48) ++ (⟨(Lib.decDigits u).toArray⟩ : ByteArray) = ofL (List.replicate q 48 ++ Lib.decDigits u) from ofL_append _ _)
  have hsub : (k : Int) - (m : Int) = (q : Int) := by omega
  have hwr : IntKind.i64.wrap (q : Int) = (q : Int) := IntWalk.i64_in _ (by omega)
  have hmax : ¬ (q : Int) < 0 := by omega
  have hq100 : q ≤ 100 := by omega
  have hm100 : m ≤ 100 := by omega
  clear hy hz hm hq p2 hu hlt
  go_enter Tryd.func43, Tryd.ntmps43
  go_wp2_with fail
  refine HF.out.mono ?_
  rintro e w' ⟨rfl, hb⟩
  have HB := Lib.hid hb
  clear hb
  go_wp2_with fail
  refine (HR.out _).mono ?_
  rintro e w1 ⟨rfl, hb1⟩
  have HB1 := Lib.hid (HB.out.trans (hb1.mono HB.out.size))
  clear hb1
  go_wp2_with fail
  go_ret
  exact ⟨by
    show Ending.returned (.string (y ++ z)) = _
    rw [HYZ.out, HZ.out, ← HP.out]
    exact congrArg (fun x => Ending.returned (.string x)) HA'.out, HB1.out⟩

def rv (r : Rec) : Value := .agg #[.int .u32 (r.a : Int), .int .i64 (r.s : Int), .string (ofL r.d)]
set_option maxRecDepth 100000 in
theorem valid_f (r : Rec) (h : Val r) (w : World) : Calls Tryd.prog 42 #[rv r] w fun e w' => e = .returned (.int .i64 0) ∧ Below w.heap.size w w' := by
  obtain ⟨a, s, d⟩ := r
  obtain ⟨h1, h2, h3, h4⟩ := h
  simp only at h1 h2 h3 h4
  unfold rv
  have hd : (ofL d).size = 32 := by rw [ofL_size]; exact h4
  have s1 : ¬ (s : Int) < 1 := by omega
  have s2 : ¬ (s : Int) > 255 := by omega
  have s2' : (s : Int) ≤ 255 := by omega
  obtain ⟨y, hy⟩ : ∃ y, y = ofL d := ⟨_, rfl⟩
  simp only
  rw [← hy] at hd ⊢
  clear hy h4 h2 h3
  go_enter Tryd.func42, Tryd.ntmps42
  go_wp2_with fail
  go_ret
  exact ⟨rfl, (Below.refl _ w).alloc (Nat.le_refl _) _⟩
set_option maxRecDepth 100000 in
theorem rvalid_f (r : Rec) (h : Val r) (w : World) : Calls Tryd.prog 46 #[rv r] w fun e w' => e = .returned (.int .i64 0) ∧ Below w.heap.size w w' := by
  obtain ⟨a, s, d⟩ := r
  obtain ⟨h1, h2, h3, h4⟩ := h
  simp only at h1 h2 h3 h4
  unfold rv
  have hd : (ofL d).size = 32 := by rw [ofL_size]; exact h4
  have s1 : ¬ (s : Int) < 1 := by omega
  have s2 : ¬ (s : Int) > 255 := by omega
  have s2' : (s : Int) ≤ 255 := by omega
  obtain ⟨y, hy⟩ : ∃ y, y = ofL d := ⟨_, rfl⟩
  simp only
  rw [← hy] at hd ⊢
  clear hy h4 h2 h3
  go_enter Tryd.func46, Tryd.ntmps46
  go_wp2_with fail
  go_ret
  exact ⟨rfl, (Below.refl _ w).alloc (Nat.le_refl _) _⟩

theorem conv_one (c : Nat) (hc : c < 256) (W : World) : (convert 71 9 (.slice (some ⟨W.heap.size, 0, none⟩) 1 1)).run Tryd.prog (W.alloc (.cells #[.int .u8 (c : Int)] 5)) = .ok (.string (ofL [UInt8.ofNat c])) (W.alloc (.cells #[.int .u8 (c : Int)] 5)) := by
  have hx : ((UInt8.ofNat c).toNat : Int) = (c : Int) := by rw [UInt8.toNat_ofNat', Nat.mod_eq_of_lt hc]
  have hy : Byt (W.alloc (.cells #[.int .u8 (c : Int)] 5)) (some ⟨W.heap.size, 0, none⟩) 1 1 [UInt8.ofNat c] := by
    have h := Blk.sl (n := 1) (size := 1) (Blk.new W 5 #[.int .u8 (c : Int)]) rfl (by unfold maxLen; omega)
    unfold Byt bv B
    rw [List.map_cons, List.map_nil, hx]
    exact h
  exact run_conv_byt (P := Tryd.prog) hy 71 5 9 Tryd.underlying71 Tryd.underlying5 Tryd.underlying9
set_option maxRecDepth 100000 in
set_option maxHeartbeats 1000000 in
theorem digits_f (n k : Nat) (hn : n < 9223372036854775808) (hk : k ≤ 100) (w : World) :
    Calls Tryd.prog 48 #[.int .i64 (n : Int), .int .i64 (k : Int)] w fun e w' => e = .returned (.string (ofL (dgs k n))) ∧ Below w.heap.size w w' := by
  have HZ := Lib.hid (show (⟨#[]⟩ : ByteArray) = ofL (dgs 0 n) from rfl)
  go_enter Tryd.func48, Tryd.ntmps48
  go_wp2_with fail
  go_loopw [0, 5, 6] (fun x y z W => ∃ (i m : Nat) (s : ByteArray), i ≤ k ∧ m ≤ n ∧ x = .int .i64 (m : Int) ∧ y = .string s ∧ z = .int .i64 (i : Int) ∧ s.size = i ∧ Hid (m = n / 10 ^ i) ∧ Hid (s = ofL (dgs i n)) ∧ Hid (Below w.heap.size w W)) (fun _ _ z _ => k - (intOf z).toNat)
  case atStart => exact ⟨0, n, ⟨#[]⟩, by omega, by omega, rfl, rfl, rfl, rfl, Lib.hid (by simp), HZ, Lib.hid (Below.refl _ _)⟩
  case round =>
    obtain ⟨i, m, s, hi, hm, rfl, rfl, rfl, hs, HM, HS, HB⟩ := hrel
    by_cases hlt : i < k
    · obtain ⟨q, hq⟩ : ∃ q, q = m % 10 := ⟨_, rfl⟩
      obtain ⟨p, hp⟩ : ∃ p, p = m / 10 := ⟨_, rfl⟩
      obtain ⟨c, hc⟩ : ∃ c, c = 48 + q := ⟨_, rfl⟩
      have q1 : (m : Int) % 10 = (q : Int) := by omega
      have q2 : (m : Int).tmod 10 = (q : Int) := by rw [Int.tmod_eq_emod_of_nonneg (by omega)]; exact q1
      have q3 : (m : Int).tdiv 10 = (p : Int) := by rw [Int.tdiv_eq_ediv_of_nonneg (by omega)]; omega
      have q4 : 48 + (q : Int) = (c : Int) := by omega
      have q5 : (m : Int) / 10 = (p : Int) := by omega
      have hcu : IntKind.u8.wrap (c : Int) = (c : Int) := by rw [IntKind.wrap_u8]; omega
      have hci : IntKind.i64.wrap (c : Int) = (c : Int) := IntWalk.i64_in _ (by omega)
      have hcv := conv_one c (by omega) wr
      have HNX := Lib.hid (show ofL [UInt8.ofNat c] ++ s = ofL (dgs (i + 1) n) by
        rw [dgs_front, HS.out, ofL_append, hc, hq, HM.out]; rfl)
      have HMX := Lib.hid (show p = n / 10 ^ (i + 1) by rw [hp, HM.out, Nat.div_div_eq_div_mul, Nat.pow_succ])
      obtain ⟨y, hy⟩ : ∃ y, y = ofL [UInt8.ofNat c] := ⟨_, rfl⟩
      have hys : y.size = 1 := by rw [hy, ofL_size]; rfl
      rw [← hy] at hcv HNX
      have hpm : p ≤ n := by omega
      have HB2 := Lib.hid (HB.out.alloc HB.out.size (.cells #[.int .u8 (c : Int)] 5))
      clear hy hc hq hp
      go_wp2_with fail
      go_roundw
      case rel => exact ⟨i + 1, p, y ++ s, by omega, hpm, rfl, rfl, by go_num, by rw [ByteArray.size_append]; omega, HMX, HNX, HB2⟩
      case measure => simp [intOf]; omega
    · have HK := Lib.hid (show i = k by omega)
      go_wp2_with fail
      go_ret
      exact ⟨by rw [HS.out, HK.out]; rfl, HB.out⟩
theorem key_str (r : Rec) : ofL (dgs 10 r.a) ++ ⟨#[45]⟩ ++ ofL (dgs 3 r.s) = ofL (key r) := by
  have e : (⟨#[45]⟩ : ByteArray) = ofL [45] := rfl
  rw [e, ofL_append, ofL_append]
  unfold key
  rw [List.append_assoc]
  rfl
set_option maxRecDepth 100000 in
set_option maxHeartbeats 2000000 in
theorem key_f (r : Rec) (h : Val r) (w : World) (ht : Bk.Tab w) : Calls Tryd.prog 22 #[rv r] w fun e w' => e = .returned (.string (ofL (key r))) ∧ Below w.heap.size w w' := by
  have HV := Lib.hid (fun W => valid_f r h W)
  unfold rv at HV ⊢
  go_enter Tryd.func22, Tryd.ntmps22
  go_wp2_with fail
  refine (HV.out _).mono ?_
  rintro e w1 ⟨rfl, hb1⟩
  have HB0 := Lib.hid (((Below.refl _ w).alloc (Nat.le_refl _) (.cells #[.int .u32 (r.a : Int), .int .i64 (r.s : Int), .string (ofL r.d)] 42)).trans (hb1.mono (by rw [asz]; omega)))
  have HK := Lib.hid ((Blk.new w 42 #[.int .u32 (r.a : Int), .int .i64 (r.s : Int), .string (ofL r.d)]).below hb1)
  clear hb1
  have ha : r.a < 4294967296 := h.a
  have z1 : (ofL (dgs 10 r.a)).size = 10 := by rw [ofL_size, dgs_len]
  have z2 : (ofL (dgs 3 r.s)).size = 3 := by rw [ofL_size, dgs_len]
  have z3 : (⟨#[45]⟩ : ByteArray).size = 1 := rfl
  have z4 : (ofL (dgs 10 r.a) ++ ⟨#[45]⟩).size = 11 := by rw [ByteArray.size_append, z1, z3]
  have g1 : ¬ 9223372036854775807 < (ofL (dgs 10 r.a)).size + (⟨#[45]⟩ : ByteArray).size := by rw [z1, z3]; omega
  have g2 : ¬ 9223372036854775807 < (ofL (dgs 10 r.a) ++ ⟨#[45]⟩).size + (ofL (dgs 3 r.s)).size := by rw [z4, z2]; omega
  have hs : r.s ≤ 255 := h.s2
  have hau : IntKind.u64.wrap (r.a : Int) = (r.a : Int) := by rw [IntKind.wrap_u64]; omega
  have hsu : IntKind.u64.wrap (r.s : Int) = (r.s : Int) := by rw [IntKind.wrap_u64]; omega
  have HA := Lib.hid (fun V (hV : Bk.Tab V) => (show Calls Tryd.prog 43 #[.int .u64 (r.a : Int), .int .i64 10] V _ from padded_f r.a 10 (by omega) (by omega) (by omega) (by omega) V hV))
  have HS := Lib.hid (fun V (hV : Bk.Tab V) => (show Calls Tryd.prog 43 #[.int .u64 (r.s : Int), .int .i64 3] V _ from padded_f r.s 3 (by omega) (by omega) (by omega) (by omega) V hV))
  go_wp2_with fail
  have HK1 := Lib.hid (Blk.drew HK.out)
  have HB1 := Lib.hid (show Below w.heap.size w w1.drew from below_drewN HB0.out 1)
  have HT1 := Lib.hid (ht.bel HB1.out)
  go_region_held3 (fun V => V.cell? ⟨w.heap.size, 0, none⟩ = some (.int .u32 (r.a : Int)) ∧ V.cell? ⟨w.heap.size, 1, none⟩ = some (.int .i64 (r.s : Int)))
    (first | exact ⟨HK1.out.cell 0, HK1.out.cell 1⟩ | exact ⟨(HK1.out.below HB4.out).cell 0, (HK1.out.below HB4.out).cell 1⟩ | exact ⟨(HK1.out.below HB5.out).cell 0, (HK1.out.below HB5.out).cell 1⟩ | exact ⟨((HK1.out.below HB4.out).below HB5.out).cell 0, ((HK1.out.below HB4.out).below HB5.out).cell 1⟩ | exact ⟨((HK1.out.below HB5.out).below HB4.out).cell 0, ((HK1.out.below HB5.out).below HB4.out).cell 1⟩)
    (first
      | (go_at_call 43; (with_reducible refine (HA.out _ ?_).mono ?_); (first | exact HT1.out | exact HT1.out.bel HB5.out); rintro e w4 ⟨rfl, hb4⟩; have HB4 := Lib.hid hb4; clear hb4)
      | (go_at_call 43; (with_reducible refine (HS.out _ ?_).mono ?_); (first | exact HT1.out | exact HT1.out.bel HB4.out); rintro e w5 ⟨rfl, hb5⟩; have HB5 := Lib.hid hb5; clear hb5))
  all_goals go_wp2_with fail
  all_goals go_ret
  all_goals exact ⟨congrArg (fun x => Ending.returned (.string x)) (key_str r), by
    first
      | exact (HB1.out.trans (HB4.out.mono HB1.out.size)).trans (HB5.out.mono (Nat.le_trans HB1.out.size HB4.out.size))
      | exact (HB1.out.trans (HB5.out.mono HB1.out.size)).trans (HB4.out.mono (Nat.le_trans HB1.out.size HB5.out.size))⟩
set_option maxRecDepth 100000 in
set_option maxHeartbeats 2000000 in
theorem rkey_f (r : Rec) (h : Val r) (w : World) : Calls Tryd.prog 32 #[rv r] w fun e w' => e = .returned (.string (ofL (key r))) ∧ Below w.heap.size w w' := by
  have HV := Lib.hid (fun W => rvalid_f r h W)
  unfold rv at HV ⊢
  go_enter Tryd.func32, Tryd.ntmps32
  go_wp2_with fail
  refine (HV.out _).mono ?_
  rintro e w1 ⟨rfl, hb1⟩
  have HB0 := Lib.hid (((Below.refl _ w).alloc (Nat.le_refl _) (.cells #[.int .u32 (r.a : Int), .int .i64 (r.s : Int), .string (ofL r.d)] 42)).trans (hb1.mono (by rw [asz]; omega)))
  have HK := Lib.hid ((Blk.new w 42 #[.int .u32 (r.a : Int), .int .i64 (r.s : Int), .string (ofL r.d)]).below hb1)
  clear hb1
  have ha : r.a < 4294967296 := h.a
  have z1 : (ofL (dgs 10 r.a)).size = 10 := by rw [ofL_size, dgs_len]
  have z2 : (ofL (dgs 3 r.s)).size = 3 := by rw [ofL_size, dgs_len]
  have z3 : (⟨#[45]⟩ : ByteArray).size = 1 := rfl
  have z4 : (ofL (dgs 10 r.a) ++ ⟨#[45]⟩).size = 11 := by rw [ByteArray.size_append, z1, z3]
  have g1 : ¬ 9223372036854775807 < (ofL (dgs 10 r.a)).size + (⟨#[45]⟩ : ByteArray).size := by rw [z1, z3]; omega
  have g2 : ¬ 9223372036854775807 < (ofL (dgs 10 r.a) ++ ⟨#[45]⟩).size + (ofL (dgs 3 r.s)).size := by rw [z4, z2]; omega
  have hs : r.s ≤ 255 := h.s2
  have hau : IntKind.i64.wrap (r.a : Int) = (r.a : Int) := IntWalk.i64_in _ (by omega)
  have HA := Lib.hid (fun V => (show Calls Tryd.prog 48 #[.int .i64 (r.a : Int), .int .i64 10] V _ from digits_f r.a 10 (by omega) (by omega) V))
  have HS := Lib.hid (fun V => (show Calls Tryd.prog 48 #[.int .i64 (r.s : Int), .int .i64 3] V _ from digits_f r.s 3 (by omega) (by omega) V))
  go_wp2_with fail
  have HK1 := Lib.hid (Blk.drew HK.out)
  have HB1 := Lib.hid (show Below w.heap.size w w1.drew from below_drewN HB0.out 1)
  go_region_held3 (fun V => V.cell? ⟨w.heap.size, 0, none⟩ = some (.int .u32 (r.a : Int)) ∧ V.cell? ⟨w.heap.size, 1, none⟩ = some (.int .i64 (r.s : Int)))
    (first | exact ⟨HK1.out.cell 0, HK1.out.cell 1⟩ | exact ⟨(HK1.out.below HB4.out).cell 0, (HK1.out.below HB4.out).cell 1⟩ | exact ⟨(HK1.out.below HB5.out).cell 0, (HK1.out.below HB5.out).cell 1⟩ | exact ⟨((HK1.out.below HB4.out).below HB5.out).cell 0, ((HK1.out.below HB4.out).below HB5.out).cell 1⟩ | exact ⟨((HK1.out.below HB5.out).below HB4.out).cell 0, ((HK1.out.below HB5.out).below HB4.out).cell 1⟩)
    (first
      | (go_at_call 48; (with_reducible refine (HA.out _).mono ?_); rintro e w4 ⟨rfl, hb4⟩; have HB4 := Lib.hid hb4; clear hb4)
      | (go_at_call 48; (with_reducible refine (HS.out _).mono ?_); rintro e w5 ⟨rfl, hb5⟩; have HB5 := Lib.hid hb5; clear hb5))
  all_goals go_wp2_with fail
  all_goals go_ret
  all_goals exact ⟨congrArg (fun x => Ending.returned (.string x)) (key_str r), by
    first
      | exact (HB1.out.trans (HB4.out.mono HB1.out.size)).trans (HB5.out.mono (Nat.le_trans HB1.out.size HB4.out.size))
      | exact (HB1.out.trans (HB5.out.mono HB1.out.size)).trans (HB4.out.mono (Nat.le_trans HB1.out.size HB5.out.size))⟩
end Rc
end Go.Proofs.YtnllocghmnhooaaDoor
