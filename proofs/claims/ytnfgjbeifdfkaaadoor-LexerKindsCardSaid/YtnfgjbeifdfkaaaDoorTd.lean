/- The library's functions that the lexer calls: contracts in the words of this proof. -/
import Derived.Test.YtnfgjbeifdfkaaaDoorSh
import Derived.Test.YtnfgjbeifdfkaaaDoorBase
import Derived.Test.YtnfgjbeifdfkaaaDoorTc
import Derived.Lib.ItoaMem
import Derived.Lib.ItoaLen
import Derived.Lib.Strings
namespace Go.Proofs.YtnfgjbeifdfkaaaDoor
open Go.RowKit
set_option linter.unusedVariables false
namespace Lx

def bl (s : ByteArray) : List UInt8 := s.data.toList
theorem bl_len (s : ByteArray) : (bl s).length = s.size := by simp [bl]
theorem bl_ofL (l : List UInt8) : bl (ofL l) = l := by simp [ofL, bl]
theorem ofL_bl (s : ByteArray) : ofL (bl s) = s := by simp [ofL, bl]
theorem bl_app (a b : ByteArray) : bl (a ++ b) = bl a ++ bl b := by simp [bl, ByteArray.data_append]
theorem ofL_size (l : List UInt8) : (ofL l).size = l.length := by show l.toArray.size = _; simp
theorem ofL_append (a b : List UInt8) : ofL a ++ ofL b = ofL (a ++ b) := by
  unfold ofL
  exact ByteArray.ext (by simp [ByteArray.data_append])
theorem bl_cut (d : ByteArray) (n m : Nat) : bl (d.extract n m) = ((bl d).drop n).take (m - n) := by
  simp [bl, ByteArray.data_extract]
theorem cut_to (s : ByteArray) (n : Nat) : s.extract 0 n = ofL ((bl s).take n) := by
  rw [← ofL_bl (s.extract 0 n), bl_cut]; simp
theorem cut_from (s : ByteArray) (n : Nat) : s.extract n s.size = ofL ((bl s).drop n) := by
  rw [← ofL_bl (s.extract n s.size), bl_cut, List.take_of_length_le (by rw [List.length_drop, bl_len]; omega)]
theorem toList_bl (s : ByteArray) : s.toList = bl s := Lib.toList_data s
theorem toList_inj {a b : ByteArray} (h : a.toList = b.toList) : a = b := by
  rw [toList_bl, toList_bl] at h
  rw [← ofL_bl a, ← ofL_bl b, h]
theorem tl_ne {a b : ByteArray} (h : a ≠ b) : (a.toList == b.toList) = false := by
  rw [beq_eq_false_iff_ne]
  exact fun e => h (toList_inj e)
theorem tl_eq (a : ByteArray) : (a.toList == a.toList) = true := by simp
theorem get_d (s : ByteArray) {i : Nat} (h : i < s.size) : (bl s).getD i 0 = s[i] := by
  show s.data.toList.getD i 0 = _
  rw [List.getD, List.getElem?_eq_getElem (by simpa using h)]
  rfl
theorem get_0 (s : ByteArray) (h : 0 < s.size) : (bl s).headD 0 = s[0] := by
  rw [← get_d s h]
  cases bl s <;> rfl

/-- what the laid variables hold: the powers of ten; an error -/
def Tab (w : World) : Prop := Lib.TabIs Tryd.prog w "internal/strconv.uint64pow10" .u64 Lib.pow10Tab ∧ ∃ tp p, w.var? Tryd.prog "strconv.ErrRange" = some #[.iface tp p]
theorem Tab.below {w w' : World} {B : Nat} (h : Tab w) (hb : Below B w w') (hB : w.heap.size ≤ B) : Tab w' := by
  have key : ∀ n cs, w.var? Tryd.prog n = some cs → w'.var? Tryd.prog n = some cs := by
    intro n cs h
    unfold World.var? at h ⊢
    cases hg : (Tryd.prog).globalNamed n with
    | none => simp [hg] at h
    | some g =>
      simp only [hg, Option.bind_some] at h ⊢
      have hlt : g < w.heap.size := by
        rcases Nat.lt_or_ge g w.heap.size with h' | h'
        · exact h'
        · rw [Array.getElem?_eq_none h'] at h; simp at h
      rw [hb.block g (by omega)]
      exact h
  obtain ⟨h1, tp, p, h2⟩ := h
  exact ⟨key _ _ h1, tp, p, key _ _ h2⟩
theorem Tab.bel {w w' : World} (h : Tab w) (hb : Below w.heap.size w w') : Tab w' := h.below hb (Nat.le_refl _)
theorem Tab.alloc {w : World} (h : Tab w) (o : Obj) : Tab (w.alloc o) := h.bel ((Below.refl _ w).alloc (Nat.le_refl _) o)
theorem asz (w : World) (o : Obj) : (w.alloc o).heap.size = w.heap.size + 1 := by simp
theorem z24_holds (w : World) (T : TypeId) (nd : Nat) (hs : nd ≤ 24) : Sort.Holds (fun (b : UInt8) => Value.int .u8 (b.toNat : Int)) (w.alloc (.cells Lib.zeros24 T)) w.heap.size 0 (Array.replicate nd (0 : UInt8)) := fun j hj => by
  have hj' : j < nd := by simpa using hj
  refine ⟨?_, World.frozen?_alloc_new _ _ _ _⟩
  rw [World.cell?_alloc_new, Lib.zeros24_at _ (by omega), getElem!_pos _ j hj]
  simp
theorem put_below (w : World) (o : Obj) (dk : Array UInt8) (k : Nat) : Below w.heap.size w ((Sort.putRow (fun (b : UInt8) => Value.int .u8 (b.toNat : Int)) (w.alloc o) w.heap.size 0 dk).drewN k) := by
  rw [Sort.alloc_eq_grow]
  obtain ⟨os', _, e⟩ := Sort.putRow_grow_new (fun (b : UInt8) => Value.int .u8 (b.toNat : Int)) w #[o] w.heap.size 0 dk (Nat.le_refl _)
  rw [e]
  have hb : Below w.heap.size w (Sort.grow w os') := ⟨rfl, rfl, rfl, by simp [Sort.grow], fun j hj => Sort.heap_grow_old w os' hj⟩
  exact below_drewN hb k

set_option maxRecDepth 100000 in
set_option maxHeartbeats 2000000 in
theorem fmtu_f (u : Nat) (hu64 : u < 18446744073709551616) (w : World) (ht : Tab w) :
    Calls Tryd.prog 40 #[.int .u64 (u : Int), .int .i64 10] w fun e w' => e = .returned (.string ⟨(Lib.decDigits u).toArray⟩) ∧ Below w.heap.size w w' := by
  by_cases hs : u < 100
  · have HC := Lib.hid (fun W => Tryd.internal_strconv_small u hs W)
    go_enter Tryd.func40, Tryd.ntmps40
    go_wp2_with fail
    refine (HC.out _).mono ?_
    rintro e w' ⟨rfl, rfl⟩
    go_wp2_with fail
    go_ret
    exact ⟨rfl, Below.refl _ _⟩
  · have hu1 : 1 ≤ u := by omega
    have hnd20 : Lib.nDigits u ≤ 20 := by have := Lib.numDigits_eq u hu1 hu64; split at this <;> omega
    have hal : Tryd.prog.arrayLen 63 = 24 := by kernel_rfl
    have hsl : ∀ W, (Instr.sliceAt 63 (.pointer (some ⟨w.heap.size, 0, none⟩)) none (some (.int .i64 (Lib.nDigits u : Int))) none).run Tryd.prog W = .ok (.slice (some ⟨w.heap.size, 0, none⟩) (Lib.nDigits u) 24) W := fun W => by
      rw [run_sliceAt_array_h W 63 ⟨w.heap.size, 0, none⟩ (by simp [Program.arrayLen, Program.elem, Tryd.underlying63]) .i64 (Lib.nDigits u : Int) (by omega) (by rw [hal]; omega)]
      go_simp
    have hH0 := z24_holds w 63 (Lib.nDigits u) (by omega)
    have hfmt := Tryd.internal_strconv_formatBase10 w.heap.size 0 24 u (Array.replicate (Lib.nDigits u) 0) (w.alloc (.cells Lib.zeros24 63)) hH0 (by rw [Array.size_replicate]; exact Lib.lt_pow_nDigits u) hu64 (by rw [Array.size_replicate]; omega)
    rw [Array.size_replicate] at hfmt
    have HF := Lib.hid hfmt
    have HH0 := Lib.hid hH0
    have HND := Lib.hid (Tryd.internal_strconv_numDigits u hu1 hu64 (w.alloc (.cells Lib.zeros24 63)) (Lib.tabIs_alloc ht.1 _))
    clear hH0 hal hfmt
    go_enter Tryd.func40, Tryd.ntmps40
    go_wp2_with fail
    refine HND.out.mono ?_
    rintro e w' ⟨rfl, rfl⟩
    go_wp2_with fail
    refine HF.out.mono ?_
    rintro e w' ⟨rfl, k, v', dk, rfl, hF⟩
    have HK := Lib.hid hF
    have hcv : (convert 23 9 (.slice (some ⟨w.heap.size, 0, none⟩) (Lib.nDigits u) 24)).run Tryd.prog ((Sort.putRow (fun (b : UInt8) => Value.int .u8 (b.toNat : Int)) (w.alloc (.cells Lib.zeros24 63)) w.heap.size 0 dk).drewN k) = .ok (.string ⟨(Lib.decDigits u).toArray⟩) ((Sort.putRow (fun (b : UInt8) => Value.int .u8 (b.toNat : Int)) (w.alloc (.cells Lib.zeros24 63)) w.heap.size 0 dk).drewN k) := by
      have h := run_convert_bytes_back (P := Tryd.prog) ((Sort.putRow (fun (b : UInt8) => Value.int .u8 (b.toNat : Int)) (w.alloc (.cells Lib.zeros24 63)) w.heap.size 0 dk).drewN k) 23 9 5 ⟨w.heap.size, 0, none⟩ 24 (Lib.decDigits u) Tryd.underlying23 Tryd.underlying5 Tryd.underlying9 (fun j hj => by
        rw [Lib.row_is_numeral HK.out j hj, Lib.add_plain, World.cell?_drewN]
        exact Sort.cell?_putRow (fun (b : UInt8) => Value.int .u8 (b.toNat : Int)) _ w.heap.size 0 _ dk HH0.out (by rw [HK.out.size, Array.size_replicate]) j (by rw [HK.out.size]; rw [Lib.decDigits_length] at hj; exact hj))
      rw [Lib.decDigits_length] at h
      exact h
    clear hF
    go_wp2_with fail
    go_ret
    exact ⟨rfl, put_below _ _ _ _⟩

set_option maxRecDepth 100000 in
theorem fmt_f (u : Nat) (hu64 : u < 18446744073709551616) (w : World) (ht : Tab w) :
    Calls Tryd.prog 33 #[.int .u64 (u : Int), .int .i64 10] w fun e w' => e = .returned (.string ⟨(Lib.decDigits u).toArray⟩) ∧ Below w.heap.size w w' := by
  have HC := Lib.hid (fmtu_f u hu64 w ht)
  go_enter Tryd.func33, Tryd.ntmps33
  go_wp2_with fail
  refine HC.out.mono ?_
  rintro e w' ⟨rfl, hb⟩
  go_wp2_with fail
  go_ret
  exact ⟨rfl, hb⟩

theorem itoa_f (n : Nat) (h1 : n < 9223372036854775808) (w : World) (ht : Tab w) :
    Calls Tryd.prog 36 #[.int .i64 (n : Int)] w fun e w' => e = .returned (.string (ofL (Lib.decDigits n))) ∧ Below w.heap.size w w' :=
  (Tryd.strconv_Itoa n (by omega) (by omega) w ht.1).mono fun e w' ⟨p1, k, os, p2⟩ => ⟨by
    rw [p1, show Lib.itoa (n : Int) = Lib.decDigits n from (if_neg (by omega)).trans (by simp)]; rfl, by
    rw [p2]
    exact ⟨rfl, rfl, rfl, by simp [Sort.grow], fun j hj => Sort.heap_grow_old _ os hj⟩⟩
theorem count_f (s : ByteArray) (w : World) : Calls Tryd.prog 17 #[.string s, .string ⟨#[10]⟩] w fun e w' => e = .returned (.int .i64 (nls (bl s) : Int)) ∧ w' = w := Tryd.strings_Count_one s 10 w
theorem has_f (s p : ByteArray) (w : World) : Calls Tryd.prog 18 #[.string s, .string p] w fun e w' => e = .returned (.bool (pre (bl p) (bl s))) ∧ w' = w :=
  (Tryd.strings_HasPrefix s p w).mono fun e w' ⟨h1, h2⟩ => ⟨by
    rw [h1]
    congr 2
    show (bl p).isPrefixOf (bl s) = _
    unfold pre
    rw [Bool.eq_iff_iff, List.isPrefixOf_iff_prefix, beq_iff_eq, List.prefix_iff_eq_take]
    exact eq_comm, h2⟩
/-- digits as ParseUint reads them -/
theorem parse_val : ∀ (d : Bs) (acc : Nat), (∀ c ∈ d, dgt c = true) → acc ≤ 4294967295 →
    (Lib.parseUintM (2 ^ 32 - 1) acc d = .ok (d.foldl (fun n c => 10 * n + (c.toNat - 48)) acc) ∧ d.foldl (fun n c => 10 * n + (c.toNat - 48)) acc ≤ 4294967295) ∨
    (Lib.parseUintM (2 ^ 32 - 1) acc d = .range ∧ 4294967295 < d.foldl (fun n c => 10 * n + (c.toNat - 48)) acc)
  | [], acc, _, ha => .inl ⟨rfl, ha⟩
  | c :: r, acc, h, ha => by
    have hc := h c (by simp)
    unfold dgt at hc
    have hc : 48 ≤ c.toNat ∧ c.toNat ≤ 57 := of_decide_eq_true hc
    have hmono : ∀ (r : Bs) (m : Nat), m ≤ r.foldl (fun n c => 10 * n + (c.toNat - 48)) m := by
      intro r
      induction r with
      | nil => intro m; exact Nat.le_refl _
      | cons c r ih =>
        intro m
        simp only [List.foldl_cons]
        exact Nat.le_trans (by omega) (ih _)
    unfold Lib.parseUintM
    rw [if_pos hc, if_neg (by omega)]
    simp only [List.foldl_cons]
    rw [Nat.mul_comm acc 10]
    by_cases hm : 2 ^ 32 - 1 < 10 * acc + (c.toNat - 48)
    · rw [if_pos hm]
      refine .inr ⟨rfl, Nat.lt_of_lt_of_le ?_ (hmono r _)⟩
      omega
    · rw [if_neg hm]
      exact parse_val r _ (fun c hc => h c (by simp [hc])) (by omega)
theorem parse_all {d : Bs} (h : ∀ c ∈ d, dgt c = true) (hn : d ≠ []) : (Lib.parseUintB 32 d = .ok (val d) ∧ val d ≤ 4294967295) ∨ (Lib.parseUintB 32 d = .range ∧ 4294967295 < val d) := by
  unfold Lib.parseUintB
  rw [if_neg hn]
  exact parse_val d 0 h (by omega)
theorem parse_ok (s : ByteArray) (hs : s.size ≤ 100000) (h : ∀ c ∈ bl s, dgt c = true) (hn : bl s ≠ []) (hv : val (bl s) ≤ 4294967295) (w : World) :
    Calls Tryd.prog 32 #[.string s, .int .i64 10, .int .i64 32] w fun e w' => e = .returned (.tuple #[.int .u64 (val (bl s) : Int), .nilIface]) ∧ Below w.heap.size w w' :=
  (Tryd.strconv_ParseUint_10_at32_ok s (by omega) (val (bl s)) ((parse_all h hn).elim (fun h => h.1) (fun h => absurd h.2 (by omega))) w).mono fun e w' ⟨h1, h2⟩ => ⟨h1, by
    rcases h2 with rfl | rfl
    · exact Below.refl _ _
    · exact ⟨rfl, rfl, rfl, by rw [Lib.bytesWorld_size]; omega, fun j hj => Lib.bytesWorld_at_old _ _ s j hj⟩⟩
theorem parse_range (s : ByteArray) (hs : s.size ≤ 100000) (h : ∀ c ∈ bl s, dgt c = true) (hn : bl s ≠ []) (hv : 4294967295 < val (bl s)) (w : World) (ht : Tab w) :
    Calls Tryd.prog 32 #[.string s, .int .i64 10, .int .i64 32] w fun e w' => (∃ t N, e = .returned (.tuple #[.int .u64 4294967295, .iface t (.pointer (some ⟨N, 0, none⟩))])) ∧ Below w.heap.size w w' := by
  obtain ⟨_, tp, p, h2⟩ := ht
  exact (Tryd.strconv_ParseUint_10_at32_range_var s (by omega) ((parse_all h hn).elim (fun h => absurd h.2 (by omega)) (fun h => h.1)) tp p w h2).mono fun e w' ⟨N, h1, _, _, h4⟩ => ⟨⟨_, N, h1⟩, h4⟩
end Lx
end Go.Proofs.YtnfgjbeifdfkaaaDoor
