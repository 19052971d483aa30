/- The law MachineEcho of stelelaw17 returns true for every input, and the argument reads behind the call as it read before. No conditions. -/
import Derived.Test.YtfjjdogjihpbnaaMo
import Derived.Test.YtfjjdogjihpbnaaMp
namespace Go.Proofs.Ytfjjdogjihpbnaa
namespace MachineEcho
open Go.RowKit Mc

theorem run_echo {W : World} {g : Nat} (h : Blk W g 35 #[.int .i64 0, .string ecode]) {A : Option Addr} {n c : Nat} {l : List Int} (hi : Sl W 1 A n c (iv l)) (hw : ∀ x ∈ l, W32 x) (hl : l.length ≤ 100) :
    ∃ k : Int, Calls Try.prog 10 #[.slice (some ⟨g, 0, none⟩) 1 1, .int .i64 0, .slice A n c, .int .i64 10000] W (Outs W (ofL (echo l)) 0 k) := by
  obtain ⟨k, hk⟩ := echo_run l hw hl
  have h1 := mrun_f W _ 1 1 [(0, ecode)] (txs_one h) (fun t ht => by
    rw [List.mem_singleton] at ht
    subst ht
    exact ⟨⟨(by decide : IntKind.i64.min ≤ (0 : Int)), (by decide : (0 : Int) ≤ IntKind.i64.max)⟩, (by unfold maxLen; decide : ecode.size ≤ maxLen)⟩) 0 ⟨by decide, by decide⟩ A n c l hi hw ((10000 : Nat) : Int) ⟨by decide, by decide⟩
  rw [hk] at h1
  exact ⟨k, outs_of h1 (by rw [bl_ofL])⟩
theorem tw_app : ∀ (a : List Int) (b : List Int), (∀ x ∈ a, x ≠ 4294967295) → ((a ++ b).takeWhile fun x => x != 4294967295) = a ++ b.takeWhile fun x => x != 4294967295
  | [], _, _ => rfl
  | x :: a, b, h => by
    have hx : (x != 4294967295) = true := by simpa using h x (by simp)
    rw [List.cons_append, List.takeWhile_cons, if_pos hx, tw_app a b (fun y hy => h y (by simp [hy]))]
    rfl
theorem echo_stop {l : List Int} {k : Nat} (h : ∀ x ∈ l.take k, x ≠ 4294967295) (hk : k < l.length) (he : l[k] = 4294967295) : echo l = (l.take k).map byte := by
  have e : l.take k ++ 4294967295 :: l.drop (k + 1) = l := by
    rw [← he, List.getElem_cons_drop, List.take_append_drop]
  unfold echo
  have h1 := tw_app (l.take k) (4294967295 :: l.drop (k + 1)) h
  rw [e] at h1
  rw [h1]
  simp
theorem echo_end {l : List Int} (h : ∀ x ∈ l, x ≠ 4294967295) : echo l = l.map byte := by
  have h1 := tw_app l [] h
  rw [List.append_nil] at h1
  unfold echo
  rw [h1]
  simp

set_option maxRecDepth 100000 in
set_option maxHeartbeats 2000000 in
theorem core (w : World) (A : Option Addr) (n c : Nat) (l : List Int) (h : Sl w 1 A n c (iv l)) (hw : ∀ x ∈ l, W32 x) :
    Calls Try.prog 4 #[.slice A n c] w fun e w' => e = .returned (.bool true) ∧ Below w.heap.size w w' := by
  have hn : n = l.length := by have := h.2.2.1; rw [iv_len] at this; omega
  have hlc : n ≤ c := h.1
  have hcm : c ≤ 9223372036854775807 := h.2.1
  have H := Lib.hid h
  have HW := Lib.hid hw
  have HN := Lib.hid hn
  clear h hw hn
  by_cases hbig : 100 < n
  · go_enter Try.func4, Try.ntmps4
    go_wp2_with fail
    refine (alive_f _).mono ?_
    rintro e w1 ⟨rfl, hb⟩
    go_wp2_with fail
    go_ret
    exact ⟨rfl, hb⟩
  · go_enter Try.func4, Try.ntmps4
    go_wp2_with fail
    refine (alive_f _).mono ?_
    rintro e w1 ⟨rfl, hb⟩
    have HB1 := Lib.hid hb
    have H1 := Lib.hid (show Sl w1 1 A n c (iv l) from H.out.below hb)
    clear hb
    go_wp2_with fail
    go_loopw [3, 15] (fun v i W => ∃ k : Nat, k ≤ n ∧ i = .int .i64 (k : Int) ∧ (∀ x ∈ l.take k, x ≠ 4294967295) ∧ W.ownsRow w1.heap.size 5 1 v k (bv ((l.take k).map byte)) ∧ Below w1.heap.size w1 W) (fun _ i _ => n - (intOf i).toNat)
    case atStart => exact ⟨0, by omega, rfl, by simp, World.ownsRow_nil _ _ _ _, Below.refl _ _⟩
    case round =>
      obtain ⟨k, hk, rfl, hne, hown, hb⟩ := hrel
      have HNE := Lib.hid hne
      have HO := Lib.hid hown
      have HB := Lib.hid hb
      have hbs := hb.size
      have HX := Lib.hid (show Sl wr 1 A n c (iv l) from H1.out.below hb)
      clear hne hown hb
      by_cases hkn : k < n
      · have hkl : k < l.length := by rw [← HN.out]; exact hkn
        obtain ⟨ad, u, rfl, _, hu, hcu⟩ := HX.out.at_ hkn
        obtain ⟨x, hx⟩ : ∃ x, x = l[k] := ⟨_, rfl⟩
        obtain rfl : u = .int .u32 x := by
          unfold iv at hu
          rw [List.getElem?_map, List.getElem?_eq_getElem hkl, ← hx] at hu
          exact (Option.some.inj hu).symm
        have hxw := HW.out x (by rw [hx]; exact List.getElem_mem hkl)
        have hx0 := hxw.1
        have hx1 := hxw.2
        have HXL := Lib.hid hx
        clear hu hx hxw
        by_cases hend : x = 4294967295
        · subst hend
          have HE := Lib.hid (echo_stop HNE.out hkl HXL.out.symm)
          obtain ⟨kk, hrun⟩ := run_echo (W := wr.alloc (.cells #[.int .i64 0, .string ecode] 35)) (Blk.new wr 35 #[.int .i64 0, .string ecode]) (HX.out.alloc _) HW.out (by rw [← HN.out]; omega)
          have HRUN := Lib.hid hrun
          obtain ⟨Ao, co, hve, hy, _⟩ := byt_own HO.out
          subst hve
          have HY := Lib.hid hy
          clear hrun hy
          go_wp2_with fail
          refine HRUN.out.mono ?_
          rintro e w2 ⟨rfl, hb2⟩
          have HYB := Lib.hid ((((HY.out.alloc (.cells #[.int .i64 0, .string ecode] 35)).below hb2).alloc (.cells #[.string (ofL (echo l)), .int .i64 0, .int .i64 kk] 29)))
          have hcv := run_conv_byt (P := Try.prog) HYB.out 32 5 9 Try.underlying32 Try.underlying5 Try.underlying9
          rw [← HE.out] at hcv
          have HB2 := Lib.hid ((HB1.out.trans ((HB.out.trans (((Below.refl wr.heap.size wr).alloc (Nat.le_refl _) (.cells #[.int .i64 0, .string ecode] 35)).trans (hb2.mono (by simp)) |>.mono hbs)).mono HB1.out.size)).alloc (Nat.le_trans HB1.out.size (Nat.le_trans hbs (Nat.le_trans (by simp) hb2.size))) (.cells #[.string (ofL (echo l)), .int .i64 0, .int .i64 kk] 29))
          clear hb2
          go_wp2_with fail
          go_ret
          exact ⟨rfl, HB2.out⟩
        · have hend2 : (x == 4294967295) = false := by simp [hend]
          obtain ⟨b, hb⟩ : ∃ b, b = byte x := ⟨_, rfl⟩
          have hwr : x % 256 = (b.toNat : Int) := by rw [hb]; unfold byte; rw [UInt8.toNat_ofNat']; omega
          have HTK := Lib.hid (show (l.take (k + 1)).map byte = (l.take k).map byte ++ [b] by rw [List.take_succ_eq_append_getElem hkl, List.map_append, ← HXL.out, hb]; rfl)
          have HNE2 := Lib.hid (show ∀ y ∈ l.take (k + 1), y ≠ 4294967295 from fun y hy => by
            rw [List.take_succ_eq_append_getElem hkl, List.mem_append] at hy
            rcases hy with hy | hy
            · exact HNE.out y hy
            · rw [List.mem_singleton, ← HXL.out] at hy; subst hy; exact hend)
          clear hb hend
          go_wp2_with (at_builtin; refine wpl_push ty_u8m rfl _ _ rfl w1.heap.size u3 k (bv ((l.take k).map byte)) rfl (own_alloc HO.out _) _ (B b) rfl (Blk.new _ _ _) rfl (Nat.le_trans hbs (by simp)) (by unfold maxLen; omega) (by omega) ?_; intro v' w8 hown8 hgrow _)
          go_roundw
          case rel => exact ⟨k + 1, by omega, by go_num, HNE2.out, by rw [HTK.out, bv_append]; exact hown8, push_below HB.out hbs HO.out hgrow⟩
          case measure => simp [intOf]; omega
      · have hkl : l.length ≤ k := by rw [← HN.out]; omega
        rw [List.take_of_length_le hkl] at HNE HO
        have HE := Lib.hid (echo_end HNE.out)
        obtain ⟨kk, hrun⟩ := run_echo (W := wr.alloc (.cells #[.int .i64 0, .string ecode] 35)) (Blk.new wr 35 #[.int .i64 0, .string ecode]) (HX.out.alloc _) HW.out (by rw [← HN.out]; omega)
        have HRUN := Lib.hid hrun
        obtain ⟨Ao, co, hve, hy, _⟩ := byt_own HO.out
        subst hve
        have HY := Lib.hid hy
        clear hrun hy
        go_wp2_with fail
        refine HRUN.out.mono ?_
        rintro e w2 ⟨rfl, hb2⟩
        have HYB := Lib.hid ((((HY.out.alloc (.cells #[.int .i64 0, .string ecode] 35)).below hb2).alloc (.cells #[.string (ofL (echo l)), .int .i64 0, .int .i64 kk] 29)))
        have hcv := run_conv_byt (P := Try.prog) HYB.out 32 5 9 Try.underlying32 Try.underlying5 Try.underlying9
        rw [← HE.out] at hcv
        have HB2 := Lib.hid ((HB1.out.trans ((HB.out.trans (((Below.refl wr.heap.size wr).alloc (Nat.le_refl _) (.cells #[.int .i64 0, .string ecode] 35)).trans (hb2.mono (by simp)) |>.mono hbs)).mono HB1.out.size)).alloc (Nat.le_trans HB1.out.size (Nat.le_trans hbs (Nat.le_trans (by simp) hb2.size))) (.cells #[.string (ofL (echo l)), .int .i64 0, .int .i64 kk] 29))
        clear hb2
        go_wp2_with fail
        go_ret
        exact ⟨rfl, HB2.out⟩

end MachineEcho
end Go.Proofs.Ytfjjdogjihpbnaa
