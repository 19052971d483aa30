/- Reconcile: Sync. -/
import Derived.Test.YtnllocghmnhooaaDoorUx
import Derived.Test.YtnllocghmnhooaaDoorUw
import Derived.Laws.EntriesVeiled
namespace Go.Proofs.YtnllocghmnhooaaDoor
open Go.RowKit
set_option linter.unusedVariables false
set_option linter.unusedSimpArgs false
namespace Rc
open Bk (bl bl_len bl_ofL ofL_bl ofL_size ofL_append)

set_option maxRecDepth 100000 in
set_option maxHeartbeats 4000000 in
theorem sync_f {U : List Rec} (hU : ∀ z ∈ U, Val z) (hUl : U.length ≤ 2000) (a b : List Rec) (hx : St U a) (hy : St U b) (w : World) (ht : Bk.Tab w) (A B : Option Addr) (ca cb : Nat) (ha : Rcs w A ca a) (hb : Rcs w B cb b) (hc : (dlg Hd 200 b a (sm Hd a [] [])).2.2 ≤ 1000000) :
    Calls Tryd.prog 18 #[.slice A a.length ca, .slice B b.length cb] w (SyncP w (dlg Hd 200 b a (sm Hd a [] [])).2.1 (dlg Hd 200 b a (sm Hd a [] [])).1 (conf a b) (dlg Hd 200 b a (sm Hd a [] [])).2.2) := by
  have hal := hx.len
  have hbl := hy.len
  have hva : ∀ z ∈ a, Val z := fun z hz => hU z (hx.mem z hz)
  have hvb : ∀ z ∈ b, Val z := fun z hz => hU z (hy.mem z hz)
  have HSU := Lib.hid (fun W (h : Below w.heap.size w W) => (show Calls Tryd.prog 34 #[.slice A a.length ca, .string ⟨#[]⟩, .string ⟨#[]⟩] W (fun e w' => e = .returned (rgv (sm Hd a [] [])) ∧ Below W.heap.size W w') from sum_f a hva hx.srt [] [] W (ht.bel h) A ca (ha.below h) (by omega)))
  have HCA := Lib.hid (fun W (h : Below w.heap.size w W) => clone_f a W A ca (ha.below h) (by omega))
  have HCB := Lib.hid (fun W (h : Below w.heap.size w W) => clone_f b W B cb (hb.below h) (by omega))
  have HCO := Lib.hid (fun W (h : Below w.heap.size w W) => contra_f a b hva hvb hy.srt W (ht.bel h) A B ca cb (ha.below h) (hb.below h) (by omega) (by omega))
  have HDL := Lib.hid (fun bm bs bf (h1 : w.heap.size ≤ bm) (h2 : w.heap.size ≤ bs) (h3 : bm ≠ bs) (h4 : bf ≠ bm) (h5 : bf ≠ bs) W B' cb' A' ca' (hS : SS w W bm bs bf 0 0 b a B' cb' A' ca') => (show Calls Tryd.prog 37 #[.int .i64 0, rgv (sm Hd a [] []), .int .i64 0, .pointer (some ⟨bm, 0, none⟩), .pointer (some ⟨bs, 0, none⟩), .pointer (some ⟨bf, 0, none⟩)] W (S1P w W bm bs bf 0 0 (dlg Hd 200 b a (sm Hd a [] []))) from sync1_f hU hUl w ht bm bs bf h1 h2 h3 h4 h5 200 0 (Or.inl rfl) 0 (by omega) b a hy hx (sm Hd a [] []) W 0 B' cb' A' ca' hS (by omega)))
  obtain ⟨D, hD⟩ : ∃ D, D = dlg Hd 200 b a (sm Hd a [] []) := ⟨_, rfl⟩
  rw [← hD] at HDL hc ⊢
  obtain ⟨sg, hsg⟩ : ∃ g, g = sm Hd a [] [] := ⟨_, rfl⟩
  rw [← hsg] at HDL HSU
  unfold rgv at HDL HSU
  obtain ⟨n, hn⟩ : ∃ n, n = a.length := ⟨_, rfl⟩
  obtain ⟨m, hm⟩ : ∃ m, m = b.length := ⟨_, rfl⟩
  have HN := Lib.hid hn
  have HM := Lib.hid hm
  rw [← hn] at HSU HCA HCO ⊢
  rw [← hm] at HCB HCO ⊢
  clear hn hm hva hvb ha hb hx hy hal hbl hD hsg ht
  go_enter Tryd.func18, Tryd.ntmps18
  go_wp2_with fail
  refine (HCA.out _ (Below.refl _ _)).mono ?_
  rintro e w1 ⟨v1, rfl, ho1, hb1⟩
  obtain ⟨A1, c1, rfl, hr1⟩ := ho1.rcs
  have HR1 := Lib.hid hr1
  have HB1 := Lib.hid hb1
  clear ho1 hr1 hb1
  go_wp2_with fail
  refine (HCB.out _ HB1.out).mono ?_
  rintro e w2 ⟨v2, rfl, ho2, hb2⟩
  obtain ⟨A2, c2, rfl, hr2⟩ := ho2.rcs
  have HR2 := Lib.hid hr2
  have HR1b := Lib.hid (HR1.out.below hb2)
  have HB2 := Lib.hid (HB1.out.trans (hb2.mono HB1.out.size))
  clear ho2 hr2 hb2
  have k1 := Blk.new w2 59 #[.slice A1 a.length c1, .slice A2 b.length c2]
  have k2 := Blk.new (w2.alloc (.cells #[.slice A1 a.length c1, .slice A2 b.length c2] 59)) 3 #[.int .i64 0]
  have k3 := Blk.new ((w2.alloc (.cells #[.slice A1 a.length c1, .slice A2 b.length c2] 59)).alloc (.cells #[.int .i64 0] 3)) 60 #[fnv (w2.heap.size + 1) w2.heap.size (w2.heap.size + 1 + 1)]
  have kn := Blk.new ((w2.alloc (.cells #[.slice A1 a.length c1, .slice A2 b.length c2] 59)).alloc (.cells #[.int .i64 0] 3)) 60 #[.nilFunc]
  rw [asz] at k2
  rw [asz, asz] at k3 kn
  have kb : Below w.heap.size w (((w2.alloc (.cells #[.slice A1 a.length c1, .slice A2 b.length c2] 59)).alloc (.cells #[.int .i64 0] 3)).alloc (.cells #[fnv (w2.heap.size + 1) w2.heap.size (w2.heap.size + 1 + 1)] 60)) := ((HB2.out.alloc HB2.out.size _).alloc (HB2.out.alloc HB2.out.size _).size _).alloc ((HB2.out.alloc HB2.out.size _).alloc (HB2.out.alloc HB2.out.size _).size _).size _
  have kr : Below w2.heap.size w2 (((w2.alloc (.cells #[.slice A1 a.length c1, .slice A2 b.length c2] 59)).alloc (.cells #[.int .i64 0] 3)).alloc (.cells #[fnv (w2.heap.size + 1) w2.heap.size (w2.heap.size + 1 + 1)] 60)) := (((Below.refl _ w2).alloc (Nat.le_refl _) _).alloc (by rw [asz]; omega) _).alloc (by rw [asz, asz]; omega) _
  have c0 : (((w2.alloc (.cells #[.slice A1 a.length c1, .slice A2 b.length c2] 59)).alloc (.cells #[.int .i64 0] 3)).alloc (.cells #[.nilFunc] 60)).cell? ⟨w2.heap.size + 1 + 1, 0, none⟩ = some .nilFunc := kn.cell 0
  have f0 : (((w2.alloc (.cells #[.slice A1 a.length c1, .slice A2 b.length c2] 59)).alloc (.cells #[.int .i64 0] 3)).alloc (.cells #[.nilFunc] 60)).frozen? ⟨w2.heap.size + 1 + 1, 0, none⟩ = false := kn.frozen 0
  have HSS := Lib.hid (show SS w (((w2.alloc (.cells #[.slice A1 a.length c1, .slice A2 b.length c2] 59)).alloc (.cells #[.int .i64 0] 3)).alloc (.cells #[fnv (w2.heap.size + 1) w2.heap.size (w2.heap.size + 1 + 1)] 60)) (w2.heap.size + 1) w2.heap.size (w2.heap.size + 1 + 1) 0 0 b a A2 c2 A1 c1 from ⟨kb, k2.alloc _, (k1.alloc _).alloc _, k3, HR2.out.below kr, HR1b.out.below kr⟩)
  have hs1 : w.heap.size ≤ w2.heap.size := HB2.out.size
  clear k1 k2 k3 kn kb kr
  go_wp2_with fail
  obtain ⟨W3, hW3⟩ : ∃ V, V = (((w2.alloc (.cells #[.slice A1 a.length c1, .slice A2 b.length c2] 59)).alloc (.cells #[.int .i64 0] 3)).alloc (.cells #[.func (.func 37) #[] #[.pointer (some ⟨w2.heap.size + 1, 0, none⟩), .pointer (some ⟨w2.heap.size, 0, none⟩), .pointer (some ⟨w2.heap.size + 1 + 1, 0, none⟩)]] 60)) := ⟨_, rfl⟩
  have HS3 := Lib.hid (show SS w W3.drew (w2.heap.size + 1) w2.heap.size (w2.heap.size + 1 + 1) 0 0 b a A2 c2 A1 c1 by rw [hW3]; exact HSS.out.below (below_drewN (Below.refl _ _) 1))
  rw [← hW3]
  clear hW3 HSS c0 f0
  obtain ⟨bs, hbs⟩ : ∃ g, g = w2.heap.size := ⟨_, rfl⟩
  rw [← hbs] at HS3 hs1 ⊢
  clear hbs
  have HDL2 := Lib.hid (HDL.out (bs + 1) bs (bs + 1 + 1) (by omega) hs1 (by omega) (by omega) (by omega))
  clear hs1
  go_region_held3 (fun V => V.cell? ⟨bs + 1 + 1, 0, none⟩ = some (.func (.func 37) #[] #[.pointer (some ⟨bs + 1, 0, none⟩), .pointer (some ⟨bs, 0, none⟩), .pointer (some ⟨bs + 1 + 1, 0, none⟩)]))
    (first | exact HS3.out.f.cell 0 | exact HS4.out.f.cell 0 | exact HS5.out.f.cell 0)
    (first
      | (go_at_call 34; (with_reducible refine (HSU.out _ HS3.out.b).mono ?_); rintro e w4 ⟨rfl, hb4⟩; have HS4 := Lib.hid (HS3.out.below hb4); clear hb4)
      | (go_at_call 37; (with_reducible refine (HDL2.out _ _ _ _ _ HS4.out).mono ?_); rintro e w5 ⟨rfl, _, A5, ca5, B5, cb5, hs5⟩; have HS5 := Lib.hid hs5; clear hs5))
  have HS6 := Lib.hid (show SS w w5.drew (bs + 1) bs (bs + 1 + 1) 0 (0 + D.2.2) D.1 D.2.1 A5 ca5 B5 cb5 from HS5.out.below (below_drewN (Below.refl _ _) 1))
  clear HS3 HS4 HDL2
  go_wp2_with fail
  go_region_held3 (fun V => V.cell? ⟨bs, 0, none⟩ = some (.slice B5 D.2.1.length cb5) ∧ V.cell? ⟨bs, 1, none⟩ = some (.slice A5 D.1.length ca5) ∧ V.cell? ⟨bs + 1, 0, none⟩ = some (.int .i64 ((0 + D.2.2 : Nat) : Int)))
    (first | exact ⟨HS6.out.s.cell 0, HS6.out.s.cell 1, HS6.out.m.cell 0⟩ | exact ⟨HS7.out.s.cell 0, HS7.out.s.cell 1, HS7.out.m.cell 0⟩)
    (first
      | (go_at_call 39; (with_reducible refine (HCO.out _ HS6.out.b).mono ?_); rintro e w7 ⟨v7, rfl, ho7, hb7⟩; have HO7 := Lib.hid ho7; have HS7 := Lib.hid (HS6.out.below hb7); clear hb7 ho7))
  go_wp2_with fail
  try simp only [Exit.inBlock, Exit.then]
  refine bodyPost_ret (results_tmp4 rfl _ _ _) rfl ?_
  exact ⟨_, _, _, rfl, ⟨B5, cb5, rfl, HS7.out.y⟩, ⟨A5, ca5, rfl, HS7.out.x⟩, HO7.out.rcs, HS7.out.b⟩
end Rc
end Go.Proofs.YtnllocghmnhooaaDoor
