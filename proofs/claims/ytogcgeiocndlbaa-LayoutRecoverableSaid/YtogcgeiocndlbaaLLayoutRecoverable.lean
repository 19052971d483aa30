/- The law LayoutRecoverable of stelelaw16 returns true for every input, and each argument reads behind the call as it read before. No conditions. -/
import Derived.Test.YtogcgeiocndlbaaLn
namespace Go.Proofs.Ytogcgeiocndlbaa
namespace LayoutRecoverable
open Go.RowKit Ly

/-- the list backwards and forwards, in turn -/
def tw (zs : List Int) (k : Nat) : List Int := (List.range k).flatMap fun i => [zs.getD (zs.length - 1 - i) 0, zs.getD i 0]
theorem tw_succ (zs : List Int) (k : Nat) : tw zs (k + 1) = tw zs k ++ [zs.getD (zs.length - 1 - k) 0, zs.getD k 0] := by simp [tw, List.range_succ]
theorem tw_len (zs : List Int) : ∀ k, (tw zs k).length = k + k
  | 0 => rfl
  | k + 1 => by
    rw [tw_succ, List.length_append, tw_len zs k]
    simp only [List.length_cons, List.length_nil]
    omega
theorem tw_mem {zs : List Int} {x : Int} : x ∈ tw zs zs.length ↔ x ∈ zs := by
  unfold tw
  rw [List.mem_flatMap]
  constructor
  · rintro ⟨i, hi, hx⟩
    have hi' := List.mem_range.1 hi
    simp only [List.mem_cons, List.not_mem_nil, or_false] at hx
    rcases hx with rfl | rfl
    · rw [List.getD, List.getElem?_eq_getElem (by omega)]
      exact List.getElem_mem _
    · rw [List.getD, List.getElem?_eq_getElem hi']
      exact List.getElem_mem _
  · intro hx
    obtain ⟨i, hi, rfl⟩ := List.mem_iff_getElem.1 hx
    exact ⟨i, List.mem_range.2 hi, by simp [List.getD, List.getElem?_eq_getElem hi]⟩
theorem rec_tw (d t : Int) (zs : List Int) : recB d t (tw zs zs.length) = recB d t zs := by
  unfold recB
  congr 3
  funext
  apply congrArg
  exact cntK_congr _ fun k _ => by
    unfold hasI
    rw [Bool.eq_iff_iff, List.any_eq_true, List.any_eq_true]
    exact ⟨fun ⟨x, h1, h2⟩ => ⟨x, tw_mem.1 h1, h2⟩, fun ⟨x, h1, h2⟩ => ⟨x, tw_mem.2 h1, h2⟩⟩

theorem info_int : (Try.prog.info? 3).map (fun i => (i.zero, i.size, i.bytes)) = some (some (.int .i64 0), 1, 8) := by kernel_rfl

theorem step_app2 {P : Program} {t e : TypeId} {z : Value} {bytes : Nat} (T : OneTy P t e z bytes) {w : World} {ops : Array Oper} {o : Oper} {a : Act} {K : Act → World → Prop} {Q : Exit → Act → World → Prop} {E : Prop} (hgd : o.guard = none) (s x : Operand)
    (ho : o.op = .call { callee := .builtin .append, args := #[s, x], argTypes := #[t, t] })
    (base : Nat) (v : Value) (n : Nat) (xs : List Value) (hs : a.eval s = v) (hown : w.ownsRow base e 1 v n xs)
    (g m : Nat) (ys : List Value) (hx : a.eval x = .slice (some ⟨g, 0, none⟩) m m) (hl : ys.length = m) (hm : m ≤ maxLen) (hblk : Blk w g e ys.toArray) (hy : ∀ y ∈ ys, y.oneCell' = true) (hbase : base ≤ w.heap.size) (h63 : n + m ≤ maxLen) (hbytes : (n + m) * bytes ≤ 140737488355328)
    (h : ∀ v' w', w'.ownsRow base e 1 v' (n + m) (xs ++ ys) → w.grownBy w' v.ownBlock → (v'.ownBlock = v.ownBlock ∨ v'.ownBlock = some w.heap.size) → K (a.put o.dst v') w') :
    if Region.wanted o (yielded ops a.tmps) = true then Oper.wp P o a w K Q else E := by
  have hw : Region.wanted o (yielded ops a.tmps) = true := by simp [Region.wanted, hgd]
  rw [if_pos hw]
  obtain ⟨i, hi, hz, h1, hb⟩ := T.hi
  have hsl : Sl w 1 (some ⟨g, 0, none⟩) m m ys := by
    have := Blk.sl (size := 1) (n := m) hblk (by simp [hl]) hm
    simpa using this
  obtain ⟨v', w', hrun, h2, h3, h4⟩ := run_append_sl (P := P) w base t o.type e i z 1 bytes T.ht hi hz h1 hb T.hz (by omega) v n xs hown (some ⟨g, 0, none⟩) m m ys hsl hy h63 hbytes hbase
  unfold Oper.wp execOp
  simp only [ho, resolve, invoke, builtin, Sem.run_bind, Sem.run_pure, Result.andThen_ok, List.map_toArray, List.map_cons, List.map_nil, hs, hx, hrun]
  exact h v' w' h2 h3 h4

theorem ty_i64 : OneTy Try.prog 41 3 (.int .i64 0) 8 := ⟨Try.underlying41, info_parts info_int, rfl⟩
theorem push_grown {w1 wr w2 : World} {e : TypeId} {v : Value} {n : Nat} {xs : List Value} {o : Obj} (hb : Below w1.heap.size w1 wr) (hO : wr.ownsRow w1.heap.size e 1 v n xs) (hg : (wr.drew.alloc o).grownBy w2 v.ownBlock) : Below w1.heap.size w1 w2 :=
  (hb.drew.alloc (by simpa using hb.size) o).grown hg (Nat.le_trans hb.size (by simp)) (fun g h => (hO.lt g h).1)

set_option maxRecDepth 100000 in
set_option maxHeartbeats 4000000 in
theorem core (w : World) (d t : Int) (A : Option Addr) (n c : Nat) (zs : List Int) (hV : Lst (Value.int .i64) w A n c zs) (hwf : ∀ z ∈ zs, (Lit.int .i64 z).wf = true) :
    Calls Try.prog 8 #[.agg #[.int .i64 d, .int .i64 t], .slice A n c] w fun e w' => e = .returned (.bool true) ∧ Below w.heap.size w w' := by
  have hnl := hV.len
  have HV := Lib.hid hV
  have hnc : n ≤ c := hV.1
  have hcm : c ≤ 9223372036854775807 := hV.2.1
  have HN := Lib.hid hnl
  have HWF := Lib.hid hwf
  clear hV hnl hwf
  go_enter Try.func8, Try.ntmps8
  go_wp2_with fail
  refine (alive_f _).mono ?_
  rintro e w1 ⟨rfl, hb⟩
  have HL := Lib.hid ((Blk.new w 23 #[.int .i64 d, .int .i64 t]).below hb)
  have HS := Lib.hid ((Sl.alloc HV.out (.cells #[.int .i64 d, .int .i64 t] 23)).below hb)
  have HB := Lib.hid (((Below.refl _ w).alloc (Nat.le_refl _) (.cells #[.int .i64 d, .int .i64 t] 23)).trans (hb.mono (by simp)))
  clear hb HV
  by_cases hbig : 200 < n
  · go_wp2_with fail
    go_ret
    exact ⟨rfl, HB.out⟩
  · obtain ⟨rb, hrb⟩ : ∃ rb, rb = recB d t zs := ⟨_, rfl⟩
    have HR := Lib.hid hrb
    clear hrb
    go_wp2_with fail
    go_loopw [5, 6] (fun v iv wr => ∃ k : Nat, k ≤ n ∧ iv = .int .i64 (k : Int) ∧ wr.ownsRow w1.heap.size 3 1 v (k + k) ((tw zs k).map (Value.int .i64)) ∧ Below w1.heap.size w1 wr)
      (fun _ iv _ => n - (intOf iv).toNat)
    case atStart => exact ⟨0, Nat.zero_le _, rfl, World.ownsRow_nil _ _ _ _, Below.refl _ _⟩
    case round =>
      obtain ⟨k, hk, rfl, hown, hb⟩ := hrel
      have HO := Lib.hid hown
      have HBr := Lib.hid hb
      clear hown hb
      by_cases hkn : k < n
      · have hkl : k < zs.length := by rw [← HN.out]; exact hkn
        have hkr : zs.length - 1 - k < zs.length := by omega
        obtain ⟨z, hz⟩ : ∃ z, z = zs[k] := ⟨_, rfl⟩
        obtain ⟨y, hy⟩ : ∃ y, y = zs[zs.length - 1 - k] := ⟨_, rfl⟩
        obtain ⟨av, rfl, _, hcz⟩ := Lst.at_ (f := Value.int .i64) (HS.out.below HBr.out) hkl
        obtain ⟨_, e1, _, hcy⟩ := Lst.at_ (f := Value.int .i64) (HS.out.below HBr.out) hkr
        injection e1 with e1
        subst e1
        have HTW := Lib.hid (show tw zs (k + 1) = tw zs k ++ [y, z] by
          rw [tw_succ, hy, hz]
          simp [List.getD, List.getElem?_eq_getElem hkl, List.getElem?_eq_getElem hkr])
        obtain ⟨r, hr⟩ : ∃ r, r = zs.length - 1 - k := ⟨_, rfl⟩
        have HSr := Lib.hid (Sl.below HS.out HBr.out)
        have HNE := Lib.hid (show ∀ ad, (some av : Option Addr) = some ad → u5.ownBlock ≠ some ad.block from fun ad e h => by
          injection e with e
          subst e
          obtain ⟨_, e2, h3, _⟩ := Lst.at_ (f := Value.int .i64) HS.out hkl
          injection e2 with e2
          subst e2
          have := (HO.out.lt _ h).1
          omega)
        have HKK := Lib.hid (fun (W : World) (hW : Lst (Value.int .i64) W (some av) n c zs) => show W.cell? (av.add r) = some (.int .i64 y) ∧ W.cell? (av.add k) = some (.int .i64 z) by
          obtain ⟨_, e1, _, h0⟩ := hW.at_ hkl
          injection e1 with e1
          subst e1
          obtain ⟨_, e1, _, h1⟩ := hW.at_ hkr
          injection e1 with e1
          subst e1
          rw [hz, hy, hr]
          exact ⟨h1, h0⟩)
        rw [← hz] at hcz
        rw [← hy, ← hr] at hcy
        have hrn : (r : Int) = (n : Int) - 1 - (k : Int) := by have := HN.out; omega
        have hr0 : r < n := by have := HN.out; omega
        clear hz hy hr hkl hkr
        have q1 : k + k + 2 ≤ maxLen := by unfold maxLen; omega
        have q2 : (k + k + 2) * 8 ≤ 140737488355328 := by omega
        have hw1 : IntKind.i64.wrap ((n : Int) - 1) = (n : Int) - 1 := IntWalk.i64_in _ (by omega)
        have hw2 : IntKind.i64.wrap ((n : Int) - 1 - (k : Int)) = (r : Int) := by rw [hrn]; exact IntWalk.i64_in _ (by omega)
        have hw3 : (r : Int) < (n : Int) := by omega
        clear hrn
        go_wp2_with fail
        go_region_held3 (fun w' => w'.cell? (av.add r) = some (.int .i64 y) ∧ w'.cell? (av.add k) = some (.int .i64 z))
          (first | go_keep | exact HKK.out _ (Sl.grown (Sl.alloc (w := wr.drew) HSr.out _) hg2 (fun ad g e1 e2 e3 => HNE.out ad e1 (e3 ▸ e2))))
          ((refine step_app2 ty_i64 (by rfl) _ _ (by rfl) w1.heap.size u5 (k + k) ((tw zs k).map (Value.int .i64)) (by rfl) (own_alloc (show wr.drew.ownsRow _ _ _ _ _ _ from HO.out) _) _ 2 [.int .i64 y, .int .i64 z] (by rfl) rfl (by unfold maxLen; omega) (Blk.new _ _ _) (by simp [Value.oneCell']) (Nat.le_trans HBr.out.size (Below.alloc (Below.refl _ wr.drew) (Nat.le_refl _) _).size) q1 q2 ?_; intro v2 w2 hown2 hg2 _))
        clear hw1 hw2 hw3 q1 q2
        have HG := Lib.hid (push_grown HBr.out HO.out hg2)
        have HO2 := Lib.hid (show w2.ownsRow w1.heap.size 3 1 v2 (k + 1 + (k + 1)) ((tw zs (k + 1)).map (Value.int .i64)) from by
          rw [HTW.out, List.map_append, show k + 1 + (k + 1) = k + k + 2 by omega]
          exact hown2)
        clear hown2 hg2
        go_wp2_with fail
        go_roundw
        case rel => exact ⟨k + 1, by omega, by go_num, HO2.out, HG.out⟩
        case measure => simp [intOf]; omega
      · have HK := Lib.hid (show k = zs.length by rw [← HN.out]; omega)
        obtain ⟨A2, c2, rfl, hs2, _⟩ := own_form HO.out
        have HT := Lib.hid (show Lst (Value.int .i64) wr A2 (k + k) c2 (tw zs zs.length) from by rw [← HK.out]; exact hs2)
        clear hs2
        have HWT := Lib.hid (show ∀ z ∈ tw zs zs.length, (Lit.int .i64 z).wf = true from fun z hz => HWF.out z (tw_mem.1 hz))
        have HLr := Lib.hid (HL.out.below HBr.out)
        have HSr := Lib.hid (Sl.below HS.out HBr.out)
        have HB2 := Lib.hid (HB.out.trans (HBr.out.mono HB.out.size))
        have c0 := HLr.out.cell 0
        have c1 := HLr.out.cell 1
        simp only [List.getElem?_toArray, List.getElem?_cons_zero, List.getElem?_cons_succ] at c0 c1
        go_wp2_with fail
        refine (rrecov_f d t zs HWF.out A n c (by omega) _ HSr.out).mono ?_
        rintro e w3 ⟨rfl, hb⟩
        have HL3 := Lib.hid (HLr.out.below hb)
        have HS3 := Lib.hid (Sl.below HSr.out hb)
        have HT3 := Lib.hid (Sl.below HT.out hb)
        have HB3 := Lib.hid (HB2.out.trans (hb.mono HB2.out.size))
        clear hb c0 c1
        have c0 := HL3.out.cell 0
        have c1 := HL3.out.cell 1
        simp only [List.getElem?_toArray, List.getElem?_cons_zero, List.getElem?_cons_succ] at c0 c1
        rw [← HR.out]
        go_wp2_with fail
        refine (recov_f d t zs HWF.out A n c (by omega) _ HS3.out).mono ?_
        rintro e w4 ⟨rfl, hb⟩
        have HL4 := Lib.hid (HL3.out.below hb)
        have HT4 := Lib.hid (Sl.below HT3.out hb)
        have HB4 := Lib.hid (HB3.out.trans (hb.mono HB3.out.size))
        clear hb c0 c1
        have c0 := HL4.out.cell 0
        have c1 := HL4.out.cell 1
        simp only [List.getElem?_toArray, List.getElem?_cons_zero, List.getElem?_cons_succ] at c0 c1
        rw [← HR.out]
        go_wp2_with fail
        refine (recov_f d t (tw zs zs.length) HWT.out A2 (k + k) c2 (by omega) _ HT4.out).mono ?_
        rintro e w5 ⟨rfl, hb⟩
        have HB5 := Lib.hid (HB4.out.trans (hb.mono HB4.out.size))
        clear hb
        rw [rec_tw, ← HR.out]
        go_wp2_with fail
        go_ret
        exact ⟨rfl, HB5.out⟩

end LayoutRecoverable
end Go.Proofs.Ytogcgeiocndlbaa
