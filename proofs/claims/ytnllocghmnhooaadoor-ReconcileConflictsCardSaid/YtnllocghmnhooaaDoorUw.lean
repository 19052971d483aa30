/- Reconcile: the reference's Sync. -/
import Derived.Test.YtnllocghmnhooaaDoorUv
import Derived.Test.YtnllocghmnhooaaDoorUt
namespace Go.Proofs.YtnllocghmnhooaaDoor
open Go.RowKit
set_option linter.unusedVariables false
set_option linter.unusedSimpArgs false
namespace Rc
open Bk (bl bl_len bl_ofL ofL_bl ofL_size ofL_append)

/-- append of two records as an equation on the operation's run -/
theorem app22_run {w W : World} (v : Value) (l : List Rec) (r z : Rec) (hown : Own W w.heap.size v l) (hl : l.length ≤ 1000000) (hb : Below w.heap.size w W) :
    ∃ v' w', (Builtin.append_ #[25, 25] 25 #[v, .slice (some ⟨W.heap.size, 0, none⟩) 2 2]).run Tryd.prog (W.alloc (.cells #[.int .u32 (r.a : Int), .int .i64 (r.s : Int), .string (ofL r.d), .int .u32 (z.a : Int), .int .i64 (z.s : Int), .string (ofL z.d)] 42)) = .ok v' w' ∧ Own w' w.heap.size v' (l ++ [r, z]) ∧ Below w.heap.size w w' := by
  obtain ⟨i0, hi, hz0, hz1, hz2⟩ := info_parts'
  have HO := Own.alloc hown (.cells (rvs [r, z]).toArray 42)
  have HB := hb.alloc hb.size (.cells (rvs [r, z]).toArray 42)
  obtain ⟨v', w', h0, h1, h2, _⟩ := run_append_sl (P := Tryd.prog) (W.alloc (.cells (rvs [r, z]).toArray 42)) w.heap.size 25 25 42 i0 (.agg #[.int .u32 0, .int .i64 0, .string ⟨#[]⟩]) 3 32 Tryd.underlying25 hi hz0 hz1 hz2 rfl (by decide) v l.length (rvs l) HO (some ⟨W.heap.size, 0, none⟩) 2 2 (rvs [r, z]) (Blk.sl (n := 2) (size := 3) (Blk.new W 42 (rvs [r, z]).toArray) rfl (by unfold maxLen; omega)) (rvs_one _) (by unfold maxLen; omega) (by omega) HB.size
  exact ⟨v', w', h0, by unfold Own; rw [rvs_app, List.length_append]; exact h1, HB.grown h2 HB.size (fun j e => (HO.lt j e).1)⟩
theorem cell_grown {W W' : World} {row : Option Nat} (h : W.grownBy W' row) (g i : Nat) (hlt : g < W.heap.size) (hne : some g ≠ row) : W'.cell? ⟨g, i, none⟩ = W.cell? ⟨g, i, none⟩ := by
  unfold World.cell?
  simp only [h.block g hlt hne]
theorem step_app22 {ops : Array Oper} {o : Oper} {a : Act} {K : Act → World → Prop} {Q : Exit → Act → World → Prop} {E : Prop} {w W : World} (hgd : o.guard = none) (s x : Operand)
    (ho : o.op = .call { callee := .builtin .append, args := #[s, x], argTypes := #[25, 25] })
    (v : Value) (l : List Rec) (r z : Rec) (hs : a.eval s = v) (hown : Own W w.heap.size v l) (hx : a.eval x = .slice (some ⟨W.heap.size, 0, none⟩) 2 2) (hl : l.length ≤ 1000000) (hb : Below w.heap.size w W)
    (h : ∀ v' w', Own w' w.heap.size v' (l ++ [r, z]) → Below w.heap.size w w' → (∀ g i, g < W.heap.size → v.ownBlock ≠ some g → w'.cell? ⟨g, i, none⟩ = W.cell? ⟨g, i, none⟩) → K (a.put o.dst v') w') :
    if Region.wanted o (yielded ops a.tmps) = true then Oper.wp Tryd.prog o a (W.alloc (.cells #[.int .u32 (r.a : Int), .int .i64 (r.s : Int), .string (ofL r.d), .int .u32 (z.a : Int), .int .i64 (z.s : Int), .string (ofL z.d)] 42)) K Q else E := by
  have hw : Region.wanted o (yielded ops a.tmps) = true := by simp [Region.wanted, hgd]
  rw [if_pos hw]
  obtain ⟨i0, hi, hz0, hz1, hz2⟩ := info_parts'
  have HO := Own.alloc hown (.cells (rvs [r, z]).toArray 42)
  have HB := hb.alloc hb.size (.cells (rvs [r, z]).toArray 42)
  obtain ⟨v', w', hrun, h1, h2, _⟩ := run_append_sl (P := Tryd.prog) (W.alloc (.cells #[.int .u32 (r.a : Int), .int .i64 (r.s : Int), .string (ofL r.d), .int .u32 (z.a : Int), .int .i64 (z.s : Int), .string (ofL z.d)] 42)) w.heap.size 25 o.type 42 i0 (.agg #[.int .u32 0, .int .i64 0, .string ⟨#[]⟩]) 3 32 Tryd.underlying25 hi hz0 hz1 hz2 rfl (by decide) v l.length (rvs l) HO (some ⟨W.heap.size, 0, none⟩) 2 2 (rvs [r, z]) (Blk.sl (n := 2) (size := 3) (Blk.new W 42 (rvs [r, z]).toArray) rfl (by unfold maxLen; omega)) (rvs_one _) (by unfold maxLen; omega) (by omega) HB.size
  unfold Oper.wp execOp
  simp only [ho, resolve, invoke, builtin, Sem.run_bind, Sem.run_pure, Result.andThen_ok, List.map_toArray, List.map_cons, List.map_nil, hs, hx, hrun]
  exact h v' w' (by unfold Own; rw [rvs_app, List.length_append]; exact h1) (HB.grown h2 HB.size (fun j e => (HO.lt j e).1)) fun g i hg hne => by
    rw [cell_grown h2 g i (by rw [asz]; omega) (fun e => hne e.symm)]
    exact (Below.alloc (Below.refl W.heap.size W) (Nat.le_refl _) _).cell (p := ⟨g, i, none⟩) hg
theorem s6_kept {V V' : World} {g gz o0 : Nat} {a0 a1 a2 b0 b1 b2 : Value} (h : V.cell? ⟨g, o0, none⟩ = some a0 ∧ V.cell? ⟨g, o0 + 1, none⟩ = some a1 ∧ V.cell? ⟨g, o0 + 2, none⟩ = some a2 ∧ V.cell? ⟨gz, 0, none⟩ = some b0 ∧ V.cell? ⟨gz, 1, none⟩ = some b1 ∧ V.cell? ⟨gz, 2, none⟩ = some b2)
    (h1 : ∀ i, V'.cell? ⟨g, i, none⟩ = V.cell? ⟨g, i, none⟩) (h2 : ∀ i, V'.cell? ⟨gz, i, none⟩ = V.cell? ⟨gz, i, none⟩) :
    V'.cell? ⟨g, o0, none⟩ = some a0 ∧ V'.cell? ⟨g, o0 + 1, none⟩ = some a1 ∧ V'.cell? ⟨g, o0 + 2, none⟩ = some a2 ∧ V'.cell? ⟨gz, 0, none⟩ = some b0 ∧ V'.cell? ⟨gz, 1, none⟩ = some b1 ∧ V'.cell? ⟨gz, 2, none⟩ = some b2 :=
  ⟨(h1 _).trans h.1, (h1 _).trans h.2.1, (h1 _).trans h.2.2.1, (h2 _).trans h.2.2.2.1, (h2 _).trans h.2.2.2.2.1, (h2 _).trans h.2.2.2.2.2⟩
theorem s6_alloc {V : World} {g gz o0 : Nat} {a0 a1 a2 b0 b1 b2 : Value} (h : V.cell? ⟨g, o0, none⟩ = some a0 ∧ V.cell? ⟨g, o0 + 1, none⟩ = some a1 ∧ V.cell? ⟨g, o0 + 2, none⟩ = some a2 ∧ V.cell? ⟨gz, 0, none⟩ = some b0 ∧ V.cell? ⟨gz, 1, none⟩ = some b1 ∧ V.cell? ⟨gz, 2, none⟩ = some b2)
    (hg : g < V.heap.size) (hz : gz < V.heap.size) (o : Obj) :
    (V.alloc o).cell? ⟨g, o0, none⟩ = some a0 ∧ (V.alloc o).cell? ⟨g, o0 + 1, none⟩ = some a1 ∧ (V.alloc o).cell? ⟨g, o0 + 2, none⟩ = some a2 ∧ (V.alloc o).cell? ⟨gz, 0, none⟩ = some b0 ∧ (V.alloc o).cell? ⟨gz, 1, none⟩ = some b1 ∧ (V.alloc o).cell? ⟨gz, 2, none⟩ = some b2 :=
  s6_kept h (fun i => (Below.alloc (Below.refl V.heap.size V) (Nat.le_refl _) o).cell (p := ⟨g, i, none⟩) hg) (fun i => (Below.alloc (Below.refl V.heap.size V) (Nat.le_refl _) o).cell (p := ⟨gz, i, none⟩) hz)
theorem results_tmp4 {fn : Func} {t u v x : Tmp} (h : fn.results = #[.tmp t, .tmp u, .tmp v, .tmp x]) (tmps : Array Value) (P : Program) (w : World) :
    (results fn tmps).run P w = .ok (.tuple #[tmps.getD t undef, tmps.getD u undef, tmps.getD v undef, tmps.getD x undef]) w := by
  simp [results, h]
def SyncP (w : World) (X Y C : List Rec) (n : Nat) (e : Ending) (w' : World) : Prop :=
  ∃ x y c, e = .returned (.tuple #[x, y, c, .int .i64 (n : Int)]) ∧ RcV w' x X ∧ RcV w' y Y ∧ RcV w' c C ∧ Below w.heap.size w w'

set_option maxRecDepth 100000 in
set_option maxHeartbeats 4000000 in
theorem rsync_f {U : List Rec} (hU : ∀ z ∈ U, Val z) (hUl : U.length ≤ 2000) (a b : List Rec) (hx : St U a) (hy : St U b) (w : World) (A B : Option Addr) (ca cb : Nat) (ha : Rcs w A ca a) (hb : Rcs w B cb b) (hc : (dlg Hd 100 b a (sm Hd a [] [])).2.2 ≤ 1000000) :
    Calls Tryd.prog 19 #[.slice A a.length ca, .slice B b.length cb] w (SyncP w (dlg Hd 100 b a (sm Hd a [] [])).2.1 (dlg Hd 100 b a (sm Hd a [] [])).1 (conf a b) (dlg Hd 100 b a (sm Hd a [] [])).2.2) := by
  have hal := hx.len
  have hbl := hy.len
  have hva : ∀ z ∈ a, Val z := fun z hz => hU z (hx.mem z hz)
  have hvb : ∀ z ∈ b, Val z := fun z hz => hU z (hy.mem z hz)
  have HSU := Lib.hid (fun W (h : Below w.heap.size w W) => rsum_f a hva [] [] W A ca (ha.below h) (by omega))
  have HDL := Lib.hid (fun W (h : Below w.heap.size w W) => rdialogue_f hU hUl 100 (by omega) b a hy hx (sm Hd a [] []) W B A cb ca (hb.below h) (ha.below h) hc)
  have HR := Lib.hid (fun W (h : Below w.heap.size w W) => ha.below h)
  have HK := Lib.hid (fun k (hk : k < a.length) W => rkey_f a[k] (hva _ (List.getElem_mem hk)) W)
  have HLK := Lib.hid (fun k W (h : Below w.heap.size w W) => rlookup_f b hvb k W B cb (hb.below h) (by omega))
  unfold rv at HLK
  have HF := Lib.hid (fun k (hk : k < a.length) => conf_snoc b hk)
  have HFL := Lib.hid (fun k => conf_take a b k)
  have HFE := Lib.hid (show conf a b = conf (a.take a.length) b by rw [List.take_length])
  have hca : ca ≤ 9223372036854775807 := ha.max
  have hlca := ha.le
  obtain ⟨D, hD⟩ : ∃ D, D = dlg Hd 100 b a (sm Hd a [] []) := ⟨_, rfl⟩
  rw [← hD] at HDL ⊢
  obtain ⟨sg, hsg⟩ : ∃ g, g = sm Hd a [] [] := ⟨_, rfl⟩
  rw [← hsg] at HDL HSU
  have HRG := Lib.hid (show rgv sg = .agg #[.string (ofL sg.f), .string (ofL sg.t), .int .i64 sg.n, .string (ofL sg.d)] from rfl)
  rw [HRG.out] at HDL HSU
  obtain ⟨n, hn⟩ : ∃ n, n = a.length := ⟨_, rfl⟩
  obtain ⟨m, hm⟩ : ∃ m, m = b.length := ⟨_, rfl⟩
  have HN := Lib.hid hn
  have hn9 : n ≤ 2000 := by omega
  rw [← hn] at hlca HFL HFE HSU HDL ⊢
  rw [← hm] at HLK HDL ⊢
  clear hn hm hva hvb ha hb hx hy hal hbl hc hD hsg
  have hnil : (⟨#[]⟩ : ByteArray) = ofL [] := rfl
  go_enter Tryd.func19, Tryd.ntmps19
  clear hnil
  go_wp2_with fail
  go_loopw [8, 9] (fun y x W => ∃ k : Nat, k ≤ n ∧ x = .int .i64 (k : Int) ∧ Hid (Own W w.heap.size y (conf (a.take k) b)) ∧ Hid (Below w.heap.size w W)) (fun _ x _ => n - (intOf x).toNat)
  case atStart => exact ⟨0, Nat.zero_le _, rfl, Lib.hid (own_zero _ (Nat.le_refl _)), Lib.hid ((Below.refl _ _).alloc (Nat.le_refl _) _)⟩
  case round =>
    obtain ⟨k, hk, rfl, HO, HB⟩ := hrel
    by_cases hkn : k < n
    · have hkl : k < a.length := by rw [← HN.out]; exact hkn
      obtain ⟨g, o, rfl, hat⟩ := (HR.out _ (Below.refl _ _)).mem (by omega)
      have HGW := Lib.hid hat.1
      have hat := RAt.below hat HB.out
      obtain ⟨c0, c1, c2⟩ := hat.2 k hkl
      have HKX := Lib.hid (HK.out k hkl)
      have HF1 := Lib.hid (HF.out k hkl)
      obtain ⟨r, hr⟩ : ∃ r, a[k] = r := ⟨_, rfl⟩
      rw [hr] at c0 c1 c2 HKX HF1
      have hgl := hat.1
      clear hat hr
      have HL1 := Lib.hid (HFL.out k)
      have HG := Lib.hid hgl
      have HNG := Lib.hid (show u8.ownBlock ≠ some g from fun e => absurd (HO.out.lt _ e).1 (by have := HGW.out; omega))
      have HC0 := Lib.hid (And.intro c0 (And.intro c1 c2))
      unfold rv at HKX
      have hkI : (k : Int) < (n : Int) := by omega
      have hk0 : (0 : Int) ≤ (k : Int) := by omega
      obtain ⟨z, hz⟩ : ∃ z, z = lkv b (key r) := ⟨_, rfl⟩
      have HZE := Lib.hid hz
      unfold cfl at HF1
      rw [← hz] at HF1
      clear hz
      go_wp2_with fail
      refine (HKX.out _).mono ?_
      rintro e w3 ⟨rfl, hb3⟩
      have HB3 := Lib.hid (HB.out.trans (hb3.mono HB.out.size))
      have HC3 := Lib.hid hb3
      clear hb3 c0 c1 c2
      go_wp2_with fail
      refine (HLK.out (key r) _ HB3.out).mono ?_
      rintro e w4 ⟨rfl, hb4⟩
      have HB4 := Lib.hid (HB3.out.trans (hb4.mono HB3.out.size))
      have HC4 := Lib.hid (HC3.out.trans (hb4.mono HC3.out.size))
      clear hb4 HB3 HC3
      rw [← HZE.out]
      obtain ⟨W5, hW5⟩ : ∃ W, W = w4.alloc (.cells #[.int .u32 (z.a : Int), .int .i64 (z.s : Int), .string (ofL z.d)] 42) := ⟨_, rfl⟩
      obtain ⟨gz, hgz⟩ : ∃ g, g = w4.heap.size := ⟨_, rfl⟩
      have HB5 := Lib.hid (show Below w.heap.size w W5 by rw [hW5]; exact HB4.out.alloc HB4.out.size _)
      have HC5 := Lib.hid (show Below wr.heap.size wr W5 by rw [hW5]; exact HC4.out.alloc HC4.out.size _)
      have HZ5 := Lib.hid (show Blk W5 gz 42 (rc z).toArray by rw [hW5, hgz]; exact Blk.new w4 _ _)
      have HO5 := Lib.hid (Own.below HO.out HC5.out)
      have HNZ := Lib.hid (show u8.ownBlock ≠ some gz from fun e => by have h1 := (HO.out.lt _ e).2; have h2 := HC4.out.size; omega)
      have HW5 := Lib.hid hW5
      have HGZ := Lib.hid hgz
      clear hW5 hgz
      have c0 := (HC5.out.cell (p := ⟨g, _, none⟩) HG.out).trans HC0.out.1
      have c1 := (HC5.out.cell (p := ⟨g, _, none⟩) HG.out).trans HC0.out.2.1
      have c2 := (HC5.out.cell (p := ⟨g, _, none⟩) HG.out).trans HC0.out.2.2
      have z0 : W5.cell? ⟨gz, 0, none⟩ = some (.int .u32 (z.a : Int)) := HZ5.out.cell 0
      have z1 : W5.cell? ⟨gz, 1, none⟩ = some (.int .i64 (z.s : Int)) := HZ5.out.cell 1
      have z2 : W5.cell? ⟨gz, 2, none⟩ = some (.string (ofL z.d)) := HZ5.out.cell 2
      have C0 : W5.drew.cell? ⟨g, o + k * 3, none⟩ = _ := (HC5.out.cell (p := ⟨g, _, none⟩) HG.out).trans HC0.out.1
      have C1 : W5.drew.cell? ⟨g, o + k * 3 + 1, none⟩ = _ := (HC5.out.cell (p := ⟨g, _, none⟩) HG.out).trans HC0.out.2.1
      have C2 : W5.drew.cell? ⟨g, o + k * 3 + 2, none⟩ = _ := (HC5.out.cell (p := ⟨g, _, none⟩) HG.out).trans HC0.out.2.2
      have Z0 : W5.drew.cell? ⟨gz, 0, none⟩ = some (.int .u32 (z.a : Int)) := HZ5.out.drew.cell 0
      have Z1 : W5.drew.cell? ⟨gz, 1, none⟩ = some (.int .i64 (z.s : Int)) := HZ5.out.drew.cell 1
      have Z2 : W5.drew.cell? ⟨gz, 2, none⟩ = some (.string (ofL z.d)) := HZ5.out.drew.cell 2
      by_cases q1 : has b (key r) = true
      · rw [if_pos q1] at HF1
        by_cases q2 : z.d = r.d
        · have f1 : ((ofL z.d).toList != (ofL r.d).toList) = false := by rw [q2]; simp
          have f2 : ((ofL z.d).toList == (ofL r.d).toList) = true := by rw [q2]; simp
          have f3 : (ofL z.d).toList = (ofL r.d).toList := by rw [q2]
          rw [if_pos q2, List.append_nil] at HF1
          clear q2
          go_wp2_with fail
          rw [← HW5.out, ← HGZ.out]
          go_quiet (fail)
          have HB7 := Lib.hid (show Below w.heap.size w (W5.drewN nq) from below_drewN HB5.out nq)
          have HO7 := Lib.hid (show Own (W5.drewN nq) w.heap.size u8 (conf (a.take k) b) from Own.below HO5.out (below_drewN (Below.refl _ _) nq))
          have K0 : (W5.drewN nq).drew.cell? ⟨g, o + k * 3, none⟩ = some (.int .u32 (r.a : Int)) := C0
          have K1 : (W5.drewN nq).drew.cell? ⟨g, o + k * 3 + 1, none⟩ = some (.int .i64 (r.s : Int)) := C1
          have K2 : (W5.drewN nq).drew.cell? ⟨g, o + k * 3 + 2, none⟩ = some (.string (ofL r.d)) := C2
          have L0 : (W5.drewN nq).drew.cell? ⟨gz, 0, none⟩ = some (.int .u32 (z.a : Int)) := Z0
          have L1 : (W5.drewN nq).drew.cell? ⟨gz, 1, none⟩ = some (.int .i64 (z.s : Int)) := Z1
          have L2 : (W5.drewN nq).drew.cell? ⟨gz, 2, none⟩ = some (.string (ofL z.d)) := Z2
          have HG7 : g < (W5.drewN nq).drew.heap.size ∧ u8.ownBlock ≠ some g := ⟨Nat.lt_of_lt_of_le HG.out HC5.out.size, HNG.out⟩
          have HZ7 : gz < (W5.drewN nq).drew.heap.size ∧ u8.ownBlock ≠ some gz := ⟨HZ5.out.lt, HNZ.out⟩
          obtain ⟨w7, hw7⟩ : ∃ q, q = W5.drewN nq := ⟨_, rfl⟩
          rw [← hw7] at HG7 HZ7 HB7 HO7 K0 K1 K2 L0 L1 L2 ⊢
          clear hw7 C0 C1 C2 Z0 Z1 Z2 c0 c1 c2 z0 z1 z2
          go_wp2_with fail
          go_roundw
          case rel => exact ⟨k + 1, by omega, by go_num, by rw [HF1.out]; exact HO7, HB7⟩
          case measure => simp [intOf]; omega
        · have f1 : ((ofL z.d).toList == (ofL r.d).toList) = false := tl_neq q2
          have f2 : ¬ (ofL z.d).toList = (ofL r.d).toList := tl_neq' q2
          rw [if_neg q2] at HF1
          clear q2
          go_wp2_with fail
          rw [← HW5.out, ← HGZ.out]
          go_quiet (fail)
          have HB7 := Lib.hid (show Below w.heap.size w (W5.drewN nq) from below_drewN HB5.out nq)
          have HO7 := Lib.hid (show Own (W5.drewN nq) w.heap.size u8 (conf (a.take k) b) from Own.below HO5.out (below_drewN (Below.refl _ _) nq))
          have K0 : (W5.drewN nq).drew.cell? ⟨g, o + k * 3, none⟩ = some (.int .u32 (r.a : Int)) := C0
          have K1 : (W5.drewN nq).drew.cell? ⟨g, o + k * 3 + 1, none⟩ = some (.int .i64 (r.s : Int)) := C1
          have K2 : (W5.drewN nq).drew.cell? ⟨g, o + k * 3 + 2, none⟩ = some (.string (ofL r.d)) := C2
          have L0 : (W5.drewN nq).drew.cell? ⟨gz, 0, none⟩ = some (.int .u32 (z.a : Int)) := Z0
          have L1 : (W5.drewN nq).drew.cell? ⟨gz, 1, none⟩ = some (.int .i64 (z.s : Int)) := Z1
          have L2 : (W5.drewN nq).drew.cell? ⟨gz, 2, none⟩ = some (.string (ofL z.d)) := Z2
          have HG7 : g < (W5.drewN nq).drew.heap.size ∧ u8.ownBlock ≠ some g := ⟨Nat.lt_of_lt_of_le HG.out HC5.out.size, HNG.out⟩
          have HZ7 : gz < (W5.drewN nq).drew.heap.size ∧ u8.ownBlock ≠ some gz := ⟨HZ5.out.lt, HNZ.out⟩
          obtain ⟨w7, hw7⟩ : ∃ q, q = W5.drewN nq := ⟨_, rfl⟩
          rw [← hw7] at HG7 HZ7 HB7 HO7 K0 K1 K2 L0 L1 L2 ⊢
          clear hw7 C0 C1 C2 Z0 Z1 Z2 c0 c1 c2 z0 z1 z2
          have HOd := Lib.hid (show Own w7.drew w.heap.size u8 (conf (a.take k) b) from Own.below HO7.out (below_drewN (Below.refl _ _) 1))
          have HBd := Lib.hid (show Below w.heap.size w w7.drew from below_drewN HB7.out 1)
          have HS0 := Lib.hid (show w7.drew.cell? ⟨g, o + k * 3, none⟩ = some (.int .u32 (r.a : Int)) ∧ w7.drew.cell? ⟨g, o + k * 3 + 1, none⟩ = some (.int .i64 (r.s : Int)) ∧ w7.drew.cell? ⟨g, o + k * 3 + 2, none⟩ = some (.string (ofL r.d)) ∧ w7.drew.cell? ⟨gz, 0, none⟩ = some (.int .u32 (z.a : Int)) ∧ w7.drew.cell? ⟨gz, 1, none⟩ = some (.int .i64 (z.s : Int)) ∧ w7.drew.cell? ⟨gz, 2, none⟩ = some (.string (ofL z.d)) from ⟨K0, K1, K2, L0, L1, L2⟩)
          have HLG := Lib.hid HG7
          have HLZ := Lib.hid HZ7
          clear K0 K1 K2 L0 L1 L2
          go_wp2_with fail
          go_region_held3 (fun V => V.cell? ⟨g, o + k * 3, none⟩ = some (.int .u32 (r.a : Int)) ∧ V.cell? ⟨g, o + k * 3 + 1, none⟩ = some (.int .i64 (r.s : Int)) ∧ V.cell? ⟨g, o + k * 3 + 2, none⟩ = some (.string (ofL r.d)) ∧ V.cell? ⟨gz, 0, none⟩ = some (.int .u32 (z.a : Int)) ∧ V.cell? ⟨gz, 1, none⟩ = some (.int .i64 (z.s : Int)) ∧ V.cell? ⟨gz, 2, none⟩ = some (.string (ofL z.d)))
            (first | exact HS0.out | exact s6_alloc HS0.out HLG.out.1 HLZ.out.1 _ | exact s6_kept HS0.out (hk8.out g · HLG.out.1 HLG.out.2) (hk8.out gz · HLZ.out.1 HLZ.out.2))
            ((refine step_app22 (by rfl) _ _ (by rfl) u8 (conf (a.take k) b) r z (by rfl) HOd.out (by rfl) (by have := HL1.out; omega) HBd.out ?_; intro v8 w8 hown8 hb8 hk; have HO8 := Lib.hid hown8; have HB8 := Lib.hid hb8; have hk8 := Lib.hid hk; clear hown8 hb8 hk))
          go_wp2_with fail
          go_roundw
          case rel => exact ⟨k + 1, by omega, by go_num, by rw [HF1.out]; exact HO8, HB8⟩
          case measure => simp [intOf]; omega
      · rw [if_neg q1, List.append_nil] at HF1
        have q1 : has b (key r) = false := by simpa using q1
        go_wp2_with fail
        rw [← HW5.out, ← HGZ.out]
        go_quiet (fail)
        have HB7 := Lib.hid (show Below w.heap.size w (W5.drewN nq) from below_drewN HB5.out nq)
        have HO7 := Lib.hid (show Own (W5.drewN nq) w.heap.size u8 (conf (a.take k) b) from Own.below HO5.out (below_drewN (Below.refl _ _) nq))
        have K0 : (W5.drewN nq).drew.cell? ⟨g, o + k * 3, none⟩ = some (.int .u32 (r.a : Int)) := C0
        have K1 : (W5.drewN nq).drew.cell? ⟨g, o + k * 3 + 1, none⟩ = some (.int .i64 (r.s : Int)) := C1
        have K2 : (W5.drewN nq).drew.cell? ⟨g, o + k * 3 + 2, none⟩ = some (.string (ofL r.d)) := C2
        have L0 : (W5.drewN nq).drew.cell? ⟨gz, 0, none⟩ = some (.int .u32 (z.a : Int)) := Z0
        have L1 : (W5.drewN nq).drew.cell? ⟨gz, 1, none⟩ = some (.int .i64 (z.s : Int)) := Z1
        have L2 : (W5.drewN nq).drew.cell? ⟨gz, 2, none⟩ = some (.string (ofL z.d)) := Z2
        have HG7 : g < (W5.drewN nq).drew.heap.size ∧ u8.ownBlock ≠ some g := ⟨Nat.lt_of_lt_of_le HG.out HC5.out.size, HNG.out⟩
        have HZ7 : gz < (W5.drewN nq).drew.heap.size ∧ u8.ownBlock ≠ some gz := ⟨HZ5.out.lt, HNZ.out⟩
        obtain ⟨w7, hw7⟩ : ∃ q, q = W5.drewN nq := ⟨_, rfl⟩
        rw [← hw7] at HG7 HZ7 HB7 HO7 K0 K1 K2 L0 L1 L2 ⊢
        clear hw7 C0 C1 C2 Z0 Z1 Z2 c0 c1 c2 z0 z1 z2
        go_wp2_with fail
        go_roundw
        case rel => exact ⟨k + 1, by omega, by go_num, by rw [HF1.out]; exact HO7, HB7⟩
        case measure => simp [intOf]; omega
    · obtain rfl : n = k := by omega
      have HRW := Lib.hid (HR.out _ HB.out)
      go_wp2_with fail
      refine (HSU.out _ HB.out).mono ?_
      rintro e w2 ⟨rfl, hb2⟩
      have HO2 := Lib.hid (Own.below HO.out hb2)
      have HB2 := Lib.hid (HB.out.trans (hb2.mono HB.out.size))
      clear hb2
      go_wp2_with fail
      refine (HDL.out _ HB2.out).mono ?_
      rintro e w3 ⟨Y, X, rfl, hY, hX, hb3⟩
      have HO3 := Lib.hid (Own.below HO2.out hb3)
      have HX3 := Lib.hid hX
      have HY3 := Lib.hid hY
      have HB3 := Lib.hid (HB2.out.trans (hb3.mono HB2.out.size))
      clear hb3 hX hY
      go_wp2_with fail
      try simp only [Exit.inBlock, Exit.then]
      refine bodyPost_ret (results_tmp4 rfl _ _ _) rfl ?_
      exact ⟨_, _, _, rfl, HX3.out, HY3.out, by rw [HFE.out]; exact HO3.out.rcs, HB3.out⟩
end Rc
end Go.Proofs.YtnllocghmnhooaaDoor
