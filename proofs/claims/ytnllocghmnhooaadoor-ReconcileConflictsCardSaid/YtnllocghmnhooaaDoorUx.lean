/- Reconcile: the dialogue of Sync (its closure, which calls itself by a captured variable). -/
import Derived.Test.YtnllocghmnhooaaDoorUo
import Derived.Test.YtnllocghmnhooaaDoorUv
import Derived.Test.YtnllocghmnhooaaDoorOx
namespace Go.Proofs.YtnllocghmnhooaaDoor
open Go.RowKit
set_option linter.unusedVariables false
set_option linter.unusedSimpArgs false
namespace Rc
open Bk (bl bl_len bl_ofL ofL_bl ofL_size ofL_append)

/-- from W to W' no block but bm and bs has turned -/
structure Kp (bm bs : Nat) (W W' : World) : Prop where
  size : W.heap.size ≤ W'.heap.size
  keep : ∀ g, g < W.heap.size → g ≠ bm → g ≠ bs → W'.heap[g]? = W.heap[g]?
theorem Kp.refl (bm bs : Nat) (W : World) : Kp bm bs W W := ⟨Nat.le_refl _, fun _ _ _ _ => rfl⟩
theorem Kp.trans {bm bs : Nat} {W W' W2 : World} (h : Kp bm bs W W') (k : Kp bm bs W' W2) : Kp bm bs W W2 :=
  ⟨Nat.le_trans h.size k.size, fun g hg h1 h2 => (k.keep g (Nat.lt_of_lt_of_le hg h.size) h1 h2).trans (h.keep g hg h1 h2)⟩
theorem Kp.of {bm bs : Nat} {W W' : World} (h : Below W.heap.size W W') : Kp bm bs W W' := ⟨h.size, fun g hg _ _ => h.block g hg⟩
theorem Kp.setm (bm bs : Nat) (W : World) (i : Nat) (v : Value) : Kp bm bs W (W.setCell ⟨bm, i, none⟩ v) := ⟨by simp [World.setCell], fun g _ h _ => Below.heap_setCell _ _ _ _ h⟩
theorem Kp.sets (bm bs : Nat) (W : World) (i : Nat) (v : Value) : Kp bm bs W (W.setCell ⟨bs, i, none⟩ v) := ⟨by simp [World.setCell], fun g _ _ h => Below.heap_setCell _ _ _ _ h⟩
theorem Blk.kp {bm bs : Nat} {W W' : World} {g : Nat} {t : TypeId} {cs : Array Value} (h : Blk W g t cs) (k : Kp bm bs W W') (h1 : g ≠ bm) (h2 : g ≠ bs) : Blk W' g t cs := (k.keep g h.lt h1 h2).trans h
theorem Kp.cell {bm bs : Nat} {W W' : World} (k : Kp bm bs W W') {g : Nat} (i : Nat) (hg : g < W.heap.size) (h1 : g ≠ bm) (h2 : g ≠ bs) : W'.cell? ⟨g, i, none⟩ = W.cell? ⟨g, i, none⟩ := by
  unfold World.cell?
  simp only [k.keep g hg h1 h2]
def arr (σ : Nat) (vx vy : Value) : Array Value := if σ = 0 then #[vy, vx] else #[vx, vy]
theorem arr_at (σ : Nat) (a b : Option Addr) (n m p q i : Nat) (v : Value) (h : (arr σ (.slice a n p) (.slice b m q))[i]? = some v) : (∃ x y z, v = .slice x y z) := by
  unfold arr at h
  split at h
  · match i with
    | 0 => exact ⟨_, _, _, (Option.some.inj h).symm⟩
    | 1 => exact ⟨_, _, _, (Option.some.inj h).symm⟩
    | k + 2 => simp at h
  · match i with
    | 0 => exact ⟨_, _, _, (Option.some.inj h).symm⟩
    | 1 => exact ⟨_, _, _, (Option.some.inj h).symm⟩
    | k + 2 => simp at h
theorem Rcs.kp {bm bs : Nat} {W W' : World} {A : Option Addr} {c : Nat} {l : List Rec} (h : Rcs W A c l) (k : Kp bm bs W W') {n : Int} (hm : Blk W bm 3 #[.int .i64 n]) {σ : Nat} {a b : Option Addr} {n1 m1 p q : Nat} (hs : Blk W bs 59 (arr σ (.slice a n1 p) (.slice b m1 q))) : Rcs W' A c l := by
  refine ⟨h.le, h.max, fun h0 => ?_, h.some_, h.at_⟩
  obtain ⟨g, o, e, hlt, hat⟩ := h.mem h0
  obtain ⟨c0, _, _⟩ := hat 0 h0
  have h1 : g ≠ bm := fun e1 => by
    subst e1
    rw [hm.cell] at c0
    match o + 0 * 3, c0 with
    | 0, c0 => simp at c0
    | j + 1, c0 => simp at c0
  have h2 : g ≠ bs := fun e1 => by
    subst e1
    rw [hs.cell] at c0
    obtain ⟨x, y, z, e⟩ := arr_at _ _ _ _ _ _ _ _ _ c0
    cases e
  refine ⟨g, o, e, Nat.lt_of_lt_of_le hlt k.size, fun i hi => ?_⟩
  obtain ⟨d0, d1, d2⟩ := hat i hi
  exact ⟨(k.cell _ hlt h1 h2).trans d0, (k.cell _ hlt h1 h2).trans d1, (k.cell _ hlt h1 h2).trans d2⟩
theorem Rgs.kp {bm bs : Nat} {W W' : World} {A : Option Addr} {c : Nat} {l : List Rng} (h : Rgs W A c l) (k : Kp bm bs W W') {n : Int} (hm : Blk W bm 3 #[.int .i64 n]) {σ : Nat} {a b : Option Addr} {n1 m1 p q : Nat} (hs : Blk W bs 59 (arr σ (.slice a n1 p) (.slice b m1 q))) : Rgs W' A c l := by
  refine ⟨h.le, h.max, fun h0 => ?_⟩
  obtain ⟨g, o, e, hlt, hat⟩ := h.mem h0
  obtain ⟨c0, _, _⟩ := hat 0 h0
  have h1 : g ≠ bm := fun e1 => by
    subst e1
    rw [hm.cell] at c0
    match o + 0 * 4, c0 with
    | 0, c0 => simp at c0
    | j + 1, c0 => simp at c0
  have h2 : g ≠ bs := fun e1 => by
    subst e1
    rw [hs.cell] at c0
    obtain ⟨x, y, z, e⟩ := arr_at _ _ _ _ _ _ _ _ _ c0
    cases e
  refine ⟨g, o, e, Nat.lt_of_lt_of_le hlt k.size, fun i hi => ?_⟩
  obtain ⟨d0, d1, d2, d3⟩ := hat i hi
  exact ⟨(k.cell _ hlt h1 h2).trans d0, (k.cell _ hlt h1 h2).trans d1, (k.cell _ hlt h1 h2).trans d2, (k.cell _ hlt h1 h2).trans d3⟩
def fnv (bm bs bf : Nat) : Value := .func (.func 37) #[] #[.pointer (some ⟨bm, 0, none⟩), .pointer (some ⟨bs, 0, none⟩), .pointer (some ⟨bf, 0, none⟩)]
/-- the captured variables: messages, sites (x is the receiver's list, y the sender's), dialogue -/
structure SS (w0 W : World) (bm bs bf σ n0 : Nat) (x y : List Rec) (A : Option Addr) (ca : Nat) (B : Option Addr) (cb : Nat) : Prop where
  b : Below w0.heap.size w0 W
  m : Blk W bm 3 #[.int .i64 (n0 : Int)]
  s : Blk W bs 59 (arr σ (.slice A x.length ca) (.slice B y.length cb))
  f : Blk W bf 60 #[fnv bm bs bf]
  x : Rcs W A ca x
  y : Rcs W B cb y
section
variable {w0 W W' : World} {bm bs bf σ n0 : Nat} {x y : List Rec} {A B : Option Addr} {ca cb : Nat}
theorem SS.below (h : SS w0 W bm bs bf σ n0 x y A ca B cb) (k : Below W.heap.size W W') : SS w0 W' bm bs bf σ n0 x y A ca B cb :=
  ⟨h.b.trans (k.mono h.b.size), h.m.below k, h.s.below k, h.f.below k, h.x.below k, h.y.below k⟩
theorem SS.alloc (h : SS w0 W bm bs bf σ n0 x y A ca B cb) (o : Obj) : SS w0 (W.alloc o) bm bs bf σ n0 x y A ca B cb := h.below ((Below.refl _ _).alloc (Nat.le_refl _) _)
theorem SS.tick (h : SS w0 W bm bs bf σ n0 x y A ca B cb) (h1 : w0.heap.size ≤ bm) (h2 : bm ≠ bs) (h3 : bf ≠ bm) (n : Nat) : SS w0 (W.setCell ⟨bm, 0, none⟩ (.int .i64 (n : Int))) bm bs bf σ n x y A ca B cb :=
  ⟨h.b.setCell (p := ⟨bm, 0, none⟩) h1 _, h.m.set_ 0 _, h.s.far (p := ⟨bm, 0, none⟩) (fun e => h2 e.symm) _, h.f.far (p := ⟨bm, 0, none⟩) h3 _, h.x.kp (Kp.setm bm bs W 0 _) h.m h.s, h.y.kp (Kp.setm bm bs W 0 _) h.m h.s⟩
theorem SS.puts {A' B' : Option Addr} {ca' cb' : Nat} {x' y' : List Rec} (h : SS w0 W bm bs bf σ n0 x y A ca B cb) (hσ : σ = 0 ∨ σ = 1) (h2 : w0.heap.size ≤ bs) (h3 : bm ≠ bs) (h5 : bf ≠ bs) (hx : Rcs W A' ca' x') (hy : Rcs W B' cb' y') :
    SS w0 ((W.setCell ⟨bs, σ, none⟩ (.slice B' y'.length cb')).setCell ⟨bs, 1 - σ, none⟩ (.slice A' x'.length ca')) bm bs bf σ n0 x' y' A' ca' B' cb' ∧ Kp bm bs W ((W.setCell ⟨bs, σ, none⟩ (.slice B' y'.length cb')).setCell ⟨bs, 1 - σ, none⟩ (.slice A' x'.length ca')) := by
  have k := (Kp.sets bm bs W σ (.slice B' y'.length cb')).trans (Kp.sets bm bs _ (1 - σ) (.slice A' x'.length ca'))
  refine ⟨⟨(h.b.setCell (p := ⟨bs, σ, none⟩) h2 _).setCell (p := ⟨bs, 1 - σ, none⟩) h2 _, (h.m.far (p := ⟨bs, σ, none⟩) h3 _).far (p := ⟨bs, 1 - σ, none⟩) h3 _, ?_, (h.f.far (p := ⟨bs, σ, none⟩) h5 _).far (p := ⟨bs, 1 - σ, none⟩) h5 _, hx.kp k h.m h.s, hy.kp k h.m h.s⟩, k⟩
  have h1 := (h.s.set_ σ (.slice B' y'.length cb')).set_ (1 - σ) (.slice A' x'.length ca')
  rcases hσ with rfl | rfl <;> exact h1
theorem SS.swap {σ' : Nat} (h : SS w0 W bm bs bf σ n0 x y A ca B cb) (e : (σ = 0 ∧ σ' = 1) ∨ (σ = 1 ∧ σ' = 0)) : SS w0 W bm bs bf σ' n0 y x B cb A ca := by
  refine ⟨h.b, h.m, ?_, h.f, h.y, h.x⟩
  have := h.s
  rcases e with ⟨rfl, rfl⟩ | ⟨rfl, rfl⟩ <;> exact this
end
def S1P (w0 W : World) (bm bs bf σ n0 : Nat) (D : List Rec × List Rec × Nat) (e : Ending) (w' : World) : Prop :=
  e = .returned (.tuple #[]) ∧ Kp bm bs W w' ∧ ∃ A ca B cb, SS w0 w' bm bs bf σ (n0 + D.2.2) D.1 D.2.1 A ca B cb

set_option maxRecDepth 100000 in
set_option maxHeartbeats 4000000 in
theorem sync1_f {U : List Rec} (hU : ∀ z ∈ U, Val z) (hUl : U.length ≤ 2000) (w0 : World) (ht : Bk.Tab w0) (bm bs bf : Nat) (h1 : w0.heap.size ≤ bm) (h2 : w0.heap.size ≤ bs) (h3 : bm ≠ bs) (h4 : bf ≠ bm) (h5 : bf ≠ bs) :
    ∀ (fuel : Nat) (σ : Nat) (hσ : σ = 0 ∨ σ = 1) (dp : Nat) (hdp : dp + fuel = 200) (x y : List Rec) (hx : St U x) (hy : St U y) (r : Rng) (W : World) (n0 : Nat) (A : Option Addr) (ca : Nat) (B : Option Addr) (cb : Nat) (hS : SS w0 W bm bs bf σ n0 x y A ca B cb) (hc : n0 + (dlg Hd fuel x y r).2.2 ≤ 1000000),
    Calls Tryd.prog 37 #[.int .i64 (σ : Int), rgv r, .int .i64 (dp : Int), .pointer (some ⟨bm, 0, none⟩), .pointer (some ⟨bs, 0, none⟩), .pointer (some ⟨bf, 0, none⟩)] W (S1P w0 W bm bs bf σ n0 (dlg Hd fuel x y r)) := by
  have HBM := Lib.hid h1
  have HBS := Lib.hid h2
  have HMS := Lib.hid h3
  have HFM := Lib.hid h4
  have HFS := Lib.hid h5
  clear h1 h2 h3 h4 h5
  intro fuel
  induction fuel with
  | zero =>
    intro σ hσ dp hdp x y hx hy r W n0 A ca B cb hS hc
    rcases hσ with rfl | rfl
    · show Calls Tryd.prog _ #[.int .i64 0, rgv r, _, _, _, _] W _
      have hsA := hS.s
      have HSS := Lib.hid hS
      have hxl := hx.len
      have hyl := hy.len
      have HU := Lib.hid hU
      have HAN := Lib.hid (fun W (h : Below w0.heap.size w0 W) A ca (k : Rcs W A ca x) => answer_f x (fun z hz => hU z (hx.mem z hz)) hx.srt r W (ht.below h (Nat.le_refl _)) A ca k (by omega))
      have HAG := Lib.hid (fun (q : agr Hd x r = true) => (dlg_agr q : dlg Hd 0 x y r = (x, y, 1)))
      have HZR := Lib.hid (fun (q : 0 = 0) => (show dlg Hd 0 x y r = (x, y, 1) by rw [q]; rfl))
      obtain ⟨D, hD⟩ : ∃ D, D = dlg Hd 0 x y r := ⟨_, rfl⟩
      rw [← hD] at HAG HZR hc  ⊢
      obtain ⟨rf, hrf⟩ : ∃ x, x = r.f := ⟨_, rfl⟩
      obtain ⟨rt, hrt⟩ : ∃ x, x = r.t := ⟨_, rfl⟩
      have HRF := Lib.hid hrf
      have HRT := Lib.hid hrt
      show Calls Tryd.prog 37 #[.int .i64 0, .agg #[.string (ofL r.f), .string (ofL r.t), .int .i64 r.n, .string (ofL r.d)], .int .i64 (dp : Int), .pointer (some ⟨bm, 0, none⟩), .pointer (some ⟨bs, 0, none⟩), .pointer (some ⟨bf, 0, none⟩)] W _
      rw [← hrf, ← hrt]
      unfold rgv at HAN
      rw [← hrf, ← hrt] at HAN
      clear hrf hrt hD hsA hxl hyl
      have v1 : IntKind.i64.wrap ((n0 : Int) + 1) = ((n0 + 1 : Nat) : Int) := by rw [IntWalk.i64_in _ (by omega)]; omega
      have c0 : W.cell? ⟨bm, 0, none⟩ = some (.int .i64 (n0 : Int)) := HSS.out.m.cell 0
      have d0 := HSS.out.m.frozen 0
      have HX := Lib.hid (Blk.new W 24 #[.string (ofL rf), .string (ofL rt), .int .i64 r.n, .string (ofL r.d)])
      have HS1 := Lib.hid (HSS.out.alloc (.cells #[.string (ofL rf), .string (ofL rt), .int .i64 r.n, .string (ofL r.d)] 24))
      have e0 := HS1.out.m.cell 0
      have f0 := HS1.out.m.frozen 0
      have hbmx : W.heap.size ≠ bm := fun e => absurd HSS.out.m.lt (by omega)
      have hbsx : W.heap.size ≠ bs := fun e => absurd HSS.out.s.lt (by omega)
      simp only [List.getElem?_toArray, List.getElem?_cons_zero] at e0
      go_enter Tryd.func37, Tryd.ntmps37
      go_wp2_with fail
      have HS2 := Lib.hid (HS1.out.tick HBM.out HMS.out HFM.out (n0 + 1))
      have HX2 := Lib.hid (HX.out.far (p := ⟨bm, 0, none⟩) hbmx (.int .i64 ((n0 + 1 : Nat) : Int)))
      have HK2 := Lib.hid ((Kp.of (bm := bm) (bs := bs) ((Below.refl _ W).alloc (Nat.le_refl _) (.cells #[.string (ofL rf), .string (ofL rt), .int .i64 r.n, .string (ofL r.d)] 24))).trans (Kp.setm bm bs _ 0 (.int .i64 ((n0 + 1 : Nat) : Int))))
      obtain ⟨W2, hW2⟩ : ∃ V, V = (W.alloc (.cells #[.string (ofL rf), .string (ofL rt), .int .i64 r.n, .string (ofL r.d)] 24)).setCell ⟨bm, 0, none⟩ (.int .i64 ((n0 : Int) + 1)) := ⟨_, rfl⟩
      obtain ⟨bx, hbx⟩ : ∃ b, b = W.heap.size := ⟨_, rfl⟩
      have HS3 := Lib.hid (show SS w0 W2.drew bm bs bf 0 (n0 + 1) x y A ca B cb by rw [hW2]; exact HS2.out.below (below_drewN (Below.refl _ _) 1))
      have HX3 := Lib.hid (show Blk W2.drew bx 24 (rgc r).toArray by unfold rgc; rw [← HRF.out, ← HRT.out, hW2, hbx]; exact HX2.out)
      have HK3 := Lib.hid (show Kp bm bs W W2.drew by rw [hW2]; exact HK2.out.trans (Kp.of (below_drewN (Below.refl _ _) 1)))
      have hbx1 : bx ≠ bm := by rw [hbx]; exact hbmx
      have hbx2 : bx ≠ bs := by rw [hbx]; exact hbsx
      have HRG := Lib.hid (show rgc r = [.string (ofL rf), .string (ofL rt), .int .i64 r.n, .string (ofL r.d)] by unfold rgc; rw [← HRF.out, ← HRT.out])
      rw [HRG.out] at HX3
      rw [← hW2, ← hbx]
      clear hbmx hbsx hW2 hbx HX2 HS2 HK2 HS1 HX c0 d0 e0 f0 v1
      go_region_held3 (fun V => V.cell? ⟨bs, 0, none⟩ = some (.slice B y.length cb) ∧ V.cell? ⟨bs, 1, none⟩ = some (.slice A x.length ca) ∧ V.cell? ⟨bx, 0, none⟩ = some (.string (ofL rf)) ∧ V.cell? ⟨bx, 1, none⟩ = some (.string (ofL rt)) ∧ V.cell? ⟨bx, 2, none⟩ = some (.int .i64 r.n) ∧ V.cell? ⟨bx, 3, none⟩ = some (.string (ofL r.d)))
        (first | exact ⟨HS3.out.s.cell 0, HS3.out.s.cell 1, HX3.out.cell 0, HX3.out.cell 1, HX3.out.cell 2, HX3.out.cell 3⟩ | exact ⟨HS4.out.s.cell 0, HS4.out.s.cell 1, HX4.out.cell 0, HX4.out.cell 1, HX4.out.cell 2, HX4.out.cell 3⟩)
        (first
          | (go_at_call 14; (with_reducible refine (HAN.out _ HS3.out.b A ca HS3.out.x).mono ?_); rintro e w4 ⟨P, R, rfl, hP, hR, hb4⟩; have HP := Lib.hid hP; have HR := Lib.hid hR; have HS4 := Lib.hid (HS3.out.below hb4); have HX4 := Lib.hid (HX3.out.below hb4); have HK4 := Lib.hid (HK3.out.trans (Kp.of hb4)); clear hb4 hP hR))
      obtain ⟨ag, hag⟩ : ∃ q, q = agr Hd x r := ⟨_, rfl⟩
      rw [← hag]
      have HGA := Lib.hid hag
      clear hag HS3 HX3 HK3
      cases ag with
      | true =>
        have HE := Lib.hid (HAG.out HGA.out.symm)
        go_wp2_with fail
        go_end0
        exact ⟨rfl, HK4.out, A, ca, B, cb, by rw [HE.out]; exact HS4.out⟩
      | false =>
        have HE := Lib.hid (HZR.out (by trivial))
        have v2 : ((dp : Int) == 200) = true := by simp; omega
        have v3 : (dp : Int) = 200 := by omega
        go_wp2_with fail
        go_end0
        exact ⟨rfl, HK4.out, A, ca, B, cb, by rw [HE.out]; exact HS4.out⟩
    · show Calls Tryd.prog _ #[.int .i64 1, rgv r, _, _, _, _] W _
      have hsA := hS.s
      have HSS := Lib.hid hS
      have hxl := hx.len
      have hyl := hy.len
      have HU := Lib.hid hU
      have HAN := Lib.hid (fun W (h : Below w0.heap.size w0 W) A ca (k : Rcs W A ca x) => answer_f x (fun z hz => hU z (hx.mem z hz)) hx.srt r W (ht.below h (Nat.le_refl _)) A ca k (by omega))
      have HAG := Lib.hid (fun (q : agr Hd x r = true) => (dlg_agr q : dlg Hd 0 x y r = (x, y, 1)))
      have HZR := Lib.hid (fun (q : 0 = 0) => (show dlg Hd 0 x y r = (x, y, 1) by rw [q]; rfl))
      obtain ⟨D, hD⟩ : ∃ D, D = dlg Hd 0 x y r := ⟨_, rfl⟩
      rw [← hD] at HAG HZR hc  ⊢
      obtain ⟨rf, hrf⟩ : ∃ x, x = r.f := ⟨_, rfl⟩
      obtain ⟨rt, hrt⟩ : ∃ x, x = r.t := ⟨_, rfl⟩
      have HRF := Lib.hid hrf
      have HRT := Lib.hid hrt
      show Calls Tryd.prog 37 #[.int .i64 1, .agg #[.string (ofL r.f), .string (ofL r.t), .int .i64 r.n, .string (ofL r.d)], .int .i64 (dp : Int), .pointer (some ⟨bm, 0, none⟩), .pointer (some ⟨bs, 0, none⟩), .pointer (some ⟨bf, 0, none⟩)] W _
      rw [← hrf, ← hrt]
      unfold rgv at HAN
      rw [← hrf, ← hrt] at HAN
      clear hrf hrt hD hsA hxl hyl
      have v1 : IntKind.i64.wrap ((n0 : Int) + 1) = ((n0 + 1 : Nat) : Int) := by rw [IntWalk.i64_in _ (by omega)]; omega
      have c0 : W.cell? ⟨bm, 0, none⟩ = some (.int .i64 (n0 : Int)) := HSS.out.m.cell 0
      have d0 := HSS.out.m.frozen 0
      have HX := Lib.hid (Blk.new W 24 #[.string (ofL rf), .string (ofL rt), .int .i64 r.n, .string (ofL r.d)])
      have HS1 := Lib.hid (HSS.out.alloc (.cells #[.string (ofL rf), .string (ofL rt), .int .i64 r.n, .string (ofL r.d)] 24))
      have e0 := HS1.out.m.cell 0
      have f0 := HS1.out.m.frozen 0
      have hbmx : W.heap.size ≠ bm := fun e => absurd HSS.out.m.lt (by omega)
      have hbsx : W.heap.size ≠ bs := fun e => absurd HSS.out.s.lt (by omega)
      simp only [List.getElem?_toArray, List.getElem?_cons_zero] at e0
      go_enter Tryd.func37, Tryd.ntmps37
      go_wp2_with fail
      have HS2 := Lib.hid (HS1.out.tick HBM.out HMS.out HFM.out (n0 + 1))
      have HX2 := Lib.hid (HX.out.far (p := ⟨bm, 0, none⟩) hbmx (.int .i64 ((n0 + 1 : Nat) : Int)))
      have HK2 := Lib.hid ((Kp.of (bm := bm) (bs := bs) ((Below.refl _ W).alloc (Nat.le_refl _) (.cells #[.string (ofL rf), .string (ofL rt), .int .i64 r.n, .string (ofL r.d)] 24))).trans (Kp.setm bm bs _ 0 (.int .i64 ((n0 + 1 : Nat) : Int))))
      obtain ⟨W2, hW2⟩ : ∃ V, V = (W.alloc (.cells #[.string (ofL rf), .string (ofL rt), .int .i64 r.n, .string (ofL r.d)] 24)).setCell ⟨bm, 0, none⟩ (.int .i64 ((n0 : Int) + 1)) := ⟨_, rfl⟩
      obtain ⟨bx, hbx⟩ : ∃ b, b = W.heap.size := ⟨_, rfl⟩
      have HS3 := Lib.hid (show SS w0 W2.drew bm bs bf 1 (n0 + 1) x y A ca B cb by rw [hW2]; exact HS2.out.below (below_drewN (Below.refl _ _) 1))
      have HX3 := Lib.hid (show Blk W2.drew bx 24 (rgc r).toArray by unfold rgc; rw [← HRF.out, ← HRT.out, hW2, hbx]; exact HX2.out)
      have HK3 := Lib.hid (show Kp bm bs W W2.drew by rw [hW2]; exact HK2.out.trans (Kp.of (below_drewN (Below.refl _ _) 1)))
      have hbx1 : bx ≠ bm := by rw [hbx]; exact hbmx
      have hbx2 : bx ≠ bs := by rw [hbx]; exact hbsx
      have HRG := Lib.hid (show rgc r = [.string (ofL rf), .string (ofL rt), .int .i64 r.n, .string (ofL r.d)] by unfold rgc; rw [← HRF.out, ← HRT.out])
      rw [HRG.out] at HX3
      rw [← hW2, ← hbx]
      clear hbmx hbsx hW2 hbx HX2 HS2 HK2 HS1 HX c0 d0 e0 f0 v1
      go_region_held3 (fun V => V.cell? ⟨bs, 0, none⟩ = some (.slice A x.length ca) ∧ V.cell? ⟨bs, 1, none⟩ = some (.slice B y.length cb) ∧ V.cell? ⟨bx, 0, none⟩ = some (.string (ofL rf)) ∧ V.cell? ⟨bx, 1, none⟩ = some (.string (ofL rt)) ∧ V.cell? ⟨bx, 2, none⟩ = some (.int .i64 r.n) ∧ V.cell? ⟨bx, 3, none⟩ = some (.string (ofL r.d)))
        (first | exact ⟨HS3.out.s.cell 0, HS3.out.s.cell 1, HX3.out.cell 0, HX3.out.cell 1, HX3.out.cell 2, HX3.out.cell 3⟩ | exact ⟨HS4.out.s.cell 0, HS4.out.s.cell 1, HX4.out.cell 0, HX4.out.cell 1, HX4.out.cell 2, HX4.out.cell 3⟩)
        (first
          | (go_at_call 14; (with_reducible refine (HAN.out _ HS3.out.b A ca HS3.out.x).mono ?_); rintro e w4 ⟨P, R, rfl, hP, hR, hb4⟩; have HP := Lib.hid hP; have HR := Lib.hid hR; have HS4 := Lib.hid (HS3.out.below hb4); have HX4 := Lib.hid (HX3.out.below hb4); have HK4 := Lib.hid (HK3.out.trans (Kp.of hb4)); clear hb4 hP hR))
      obtain ⟨ag, hag⟩ : ∃ q, q = agr Hd x r := ⟨_, rfl⟩
      rw [← hag]
      have HGA := Lib.hid hag
      clear hag HS3 HX3 HK3
      cases ag with
      | true =>
        have HE := Lib.hid (HAG.out HGA.out.symm)
        go_wp2_with fail
        go_end0
        exact ⟨rfl, HK4.out, A, ca, B, cb, by rw [HE.out]; exact HS4.out⟩
      | false =>
        have HE := Lib.hid (HZR.out (by trivial))
        have v2 : ((dp : Int) == 200) = true := by simp; omega
        have v3 : (dp : Int) = 200 := by omega
        go_wp2_with fail
        go_end0
        exact ⟨rfl, HK4.out, A, ca, B, cb, by rw [HE.out]; exact HS4.out⟩
  | succ fuel ih =>
    intro σ hσ dp hdp x y hx hy r W n0 A ca B cb hS hc
    rcases hσ with rfl | rfl
    · show Calls Tryd.prog _ #[.int .i64 0, rgv r, _, _, _, _] W _
      have hsA := hS.s
      have HSS := Lib.hid hS
      have hxl := hx.len
      have hyl := hy.len
      have HU := Lib.hid hU
      have HAN := Lib.hid (fun W (h : Below w0.heap.size w0 W) A ca (k : Rcs W A ca x) => answer_f x (fun z hz => hU z (hx.mem z hz)) hx.srt r W (ht.below h (Nat.le_refl _)) A ca k (by omega))
      have HAG := Lib.hid (fun (q : agr Hd x r = true) => (dlg_agr q : dlg Hd (fuel + 1) x y r = (x, y, 1)))
      have HZR := Lib.hid (fun (q : fuel + 1 = 0) => (show dlg Hd (fuel + 1) x y r = (x, y, 1) by rw [q]; rfl))
      have HFW := Lib.hid (fun (q : agr Hd x r = false) (h : (inn x r.f r.t).length ≤ 4) => (dlg_few q h : dlg Hd (fuel + 1) x y r = _))
      have HTW := Lib.hid (fun (q : agr Hd x r = false) (h : ¬ (inn x r.f r.t).length ≤ 4) => (dlg_two q h : dlg Hd (fuel + 1) x y r = _))
      have HPF := Lib.hid (fun (q : agr Hd x r = false) (h : (inn x r.f r.t).length ≤ 4) => (And.intro (prts_few q h) (recs_few q h)))
      have HPT := Lib.hid (fun (q : agr Hd x r = false) (h : ¬ (inn x r.f r.t).length ≤ 4) => (show (prts x r).length = 2 by rw [prts_two q h]; rfl))
      have hxi := hx.inn r.f r.t
      have hyi := hy.inn r.f r.t
      have HIN := Lib.hid (fun V (h : Below w0.heap.size w0 V) B cb (k : Rcs V B cb y) => within_f y (fun z hz => hU z (hy.mem z hz)) (ofL r.f) (ofL r.t) V (ht.below h (Nat.le_refl _)) B cb k (by omega))
      rw [bl_ofL, bl_ofL] at HIN
      have HM1 := Lib.hid (fun V (h : Below w0.heap.size w0 V) A ca (ka : Rcs V A ca x) O co (k : Rcs V O co (inn y r.f r.t)) => adopt_f x (inn y r.f r.t) (fun z hz => hU z (hx.mem z hz)) (fun z hz => hU z (hyi.mem z hz)) hx.srt hyi.srt V (ht.below h (Nat.le_refl _)) A O ca co ka k (by have := hyi.len; omega))
      have HM2 := Lib.hid (fun V (h : Below w0.heap.size w0 V) B cb (kb : Rcs V B cb y) O co (k : Rcs V O co (inn x r.f r.t)) => adopt_f y (inn x r.f r.t) (fun z hz => hU z (hy.mem z hz)) (fun z hz => hU z (hxi.mem z hz)) hy.srt hxi.srt V (ht.below h (Nat.le_refl _)) B O cb co kb k (by have := hxi.len; omega))
      have HIH := Lib.hid (fun i V n A ca B cb (k : SS w0 V bm bs bf 0 n (sq fuel x y r i).1 (sq fuel x y r i).2.1 A ca B cb) hcc => (show Calls Tryd.prog 37 #[.int .i64 1, rgv ((prts x r).getD i ⟨[], [], 0, []⟩), .int .i64 ((dp : Int) + 1), .pointer (some ⟨bm, 0, none⟩), .pointer (some ⟨bs, 0, none⟩), .pointer (some ⟨bf, 0, none⟩)] V (S1P w0 V bm bs bf 1 n (dlg Hd fuel (sq fuel x y r i).2.1 (sq fuel x y r i).1 ((prts x r).getD i ⟨[], [], 0, []⟩))) from ih 1 (by simp) (dp + 1) (by omega) (sq fuel x y r i).2.1 (sq fuel x y r i).1 (sq_st hx hy i).2 (sq_st hx hy i).1 ((prts x r).getD i ⟨[], [], 0, []⟩) V n B cb A ca (k.swap (by simp)) hcc))
      have HS0 := Lib.hid (show sq fuel x y r 0 = (x, y, 1) from rfl)
      have HS1 := Lib.hid (fun i => (show (dlg Hd fuel (sq fuel x y r i).2.1 (sq fuel x y r i).1 ((prts x r).getD i ⟨[], [], 0, []⟩)).1 = (sq fuel x y r (i + 1)).2.1 from rfl))
      have HS2 := Lib.hid (fun i => (show (dlg Hd fuel (sq fuel x y r i).2.1 (sq fuel x y r i).1 ((prts x r).getD i ⟨[], [], 0, []⟩)).2.1 = (sq fuel x y r (i + 1)).1 from rfl))
      have HS3 := Lib.hid (fun i => (show (sq fuel x y r i).2.2 + (dlg Hd fuel (sq fuel x y r i).2.1 (sq fuel x y r i).1 ((prts x r).getD i ⟨[], [], 0, []⟩)).2.2 = (sq fuel x y r (i + 1)).2.2 from rfl))
      have HSM := Lib.hid (fun i => sq_mono fuel x y r i)
      obtain ⟨D, hD⟩ : ∃ D, D = dlg Hd (fuel + 1) x y r := ⟨_, rfl⟩
      rw [← hD] at HAG HZR hc HFW HTW ⊢
      obtain ⟨rf, hrf⟩ : ∃ x, x = r.f := ⟨_, rfl⟩
      obtain ⟨rt, hrt⟩ : ∃ x, x = r.t := ⟨_, rfl⟩
      have HRF := Lib.hid hrf
      have HRT := Lib.hid hrt
      show Calls Tryd.prog 37 #[.int .i64 0, .agg #[.string (ofL r.f), .string (ofL r.t), .int .i64 r.n, .string (ofL r.d)], .int .i64 (dp : Int), .pointer (some ⟨bm, 0, none⟩), .pointer (some ⟨bs, 0, none⟩), .pointer (some ⟨bf, 0, none⟩)] W _
      rw [← hrf, ← hrt]
      obtain ⟨xi, hxi'⟩ : ∃ l, l = inn x r.f r.t := ⟨_, rfl⟩
      obtain ⟨yi, hyi'⟩ : ∃ l, l = inn y r.f r.t := ⟨_, rfl⟩
      rw [← hxi'] at HFW HTW HPF HPT HM2
      rw [← hyi'] at HFW HIN HM1
      rw [← hrf, ← hrt] at HIN
      unfold rgv at HAN
      rw [← hrf, ← hrt] at HAN
      clear hrf hrt hD hsA hxl hyl hxi hyi hxi' hyi' ih
      have v1 : IntKind.i64.wrap ((n0 : Int) + 1) = ((n0 + 1 : Nat) : Int) := by rw [IntWalk.i64_in _ (by omega)]; omega
      have c0 : W.cell? ⟨bm, 0, none⟩ = some (.int .i64 (n0 : Int)) := HSS.out.m.cell 0
      have d0 := HSS.out.m.frozen 0
      have HX := Lib.hid (Blk.new W 24 #[.string (ofL rf), .string (ofL rt), .int .i64 r.n, .string (ofL r.d)])
      have HS1 := Lib.hid (HSS.out.alloc (.cells #[.string (ofL rf), .string (ofL rt), .int .i64 r.n, .string (ofL r.d)] 24))
      have e0 := HS1.out.m.cell 0
      have f0 := HS1.out.m.frozen 0
      have hbmx : W.heap.size ≠ bm := fun e => absurd HSS.out.m.lt (by omega)
      have hbsx : W.heap.size ≠ bs := fun e => absurd HSS.out.s.lt (by omega)
      simp only [List.getElem?_toArray, List.getElem?_cons_zero] at e0
      go_enter Tryd.func37, Tryd.ntmps37
      go_wp2_with fail
      have HS2 := Lib.hid (HS1.out.tick HBM.out HMS.out HFM.out (n0 + 1))
      have HX2 := Lib.hid (HX.out.far (p := ⟨bm, 0, none⟩) hbmx (.int .i64 ((n0 + 1 : Nat) : Int)))
      have HK2 := Lib.hid ((Kp.of (bm := bm) (bs := bs) ((Below.refl _ W).alloc (Nat.le_refl _) (.cells #[.string (ofL rf), .string (ofL rt), .int .i64 r.n, .string (ofL r.d)] 24))).trans (Kp.setm bm bs _ 0 (.int .i64 ((n0 + 1 : Nat) : Int))))
      obtain ⟨W2, hW2⟩ : ∃ V, V = (W.alloc (.cells #[.string (ofL rf), .string (ofL rt), .int .i64 r.n, .string (ofL r.d)] 24)).setCell ⟨bm, 0, none⟩ (.int .i64 ((n0 : Int) + 1)) := ⟨_, rfl⟩
      obtain ⟨bx, hbx⟩ : ∃ b, b = W.heap.size := ⟨_, rfl⟩
      have HS3 := Lib.hid (show SS w0 W2.drew bm bs bf 0 (n0 + 1) x y A ca B cb by rw [hW2]; exact HS2.out.below (below_drewN (Below.refl _ _) 1))
      have HX3 := Lib.hid (show Blk W2.drew bx 24 (rgc r).toArray by unfold rgc; rw [← HRF.out, ← HRT.out, hW2, hbx]; exact HX2.out)
      have HK3 := Lib.hid (show Kp bm bs W W2.drew by rw [hW2]; exact HK2.out.trans (Kp.of (below_drewN (Below.refl _ _) 1)))
      have hbx1 : bx ≠ bm := by rw [hbx]; exact hbmx
      have hbx2 : bx ≠ bs := by rw [hbx]; exact hbsx
      have HRG := Lib.hid (show rgc r = [.string (ofL rf), .string (ofL rt), .int .i64 r.n, .string (ofL r.d)] by unfold rgc; rw [← HRF.out, ← HRT.out])
      rw [HRG.out] at HX3
      rw [← hW2, ← hbx]
      clear hbmx hbsx hW2 hbx HX2 HS2 HK2 HS1 HX c0 d0 e0 f0 v1
      go_region_held3 (fun V => V.cell? ⟨bs, 0, none⟩ = some (.slice B y.length cb) ∧ V.cell? ⟨bs, 1, none⟩ = some (.slice A x.length ca) ∧ V.cell? ⟨bx, 0, none⟩ = some (.string (ofL rf)) ∧ V.cell? ⟨bx, 1, none⟩ = some (.string (ofL rt)) ∧ V.cell? ⟨bx, 2, none⟩ = some (.int .i64 r.n) ∧ V.cell? ⟨bx, 3, none⟩ = some (.string (ofL r.d)))
        (first | exact ⟨HS3.out.s.cell 0, HS3.out.s.cell 1, HX3.out.cell 0, HX3.out.cell 1, HX3.out.cell 2, HX3.out.cell 3⟩ | exact ⟨HS4.out.s.cell 0, HS4.out.s.cell 1, HX4.out.cell 0, HX4.out.cell 1, HX4.out.cell 2, HX4.out.cell 3⟩)
        (first
          | (go_at_call 14; (with_reducible refine (HAN.out _ HS3.out.b A ca HS3.out.x).mono ?_); rintro e w4 ⟨P, R, rfl, hP, hR, hb4⟩; have HP := Lib.hid hP; have HR := Lib.hid hR; have HS4 := Lib.hid (HS3.out.below hb4); have HX4 := Lib.hid (HX3.out.below hb4); have HK4 := Lib.hid (HK3.out.trans (Kp.of hb4)); clear hb4 hP hR))
      obtain ⟨ag, hag⟩ : ∃ q, q = agr Hd x r := ⟨_, rfl⟩
      rw [← hag]
      have HGA := Lib.hid hag
      clear hag HS3 HX3 HK3
      cases ag with
      | true =>
        have HE := Lib.hid (HAG.out HGA.out.symm)
        go_wp2_with fail
        go_end0
        exact ⟨rfl, HK4.out, A, ca, B, cb, by rw [HE.out]; exact HS4.out⟩
      | false =>
        have v2 : ((dp : Int) == 200) = false := by simp; omega
        have v3 : ¬ (dp : Int) = 200 := by omega
        have v5 : IntKind.i64.wrap ((dp : Int) + 1) = (dp : Int) + 1 := by rw [IntWalk.i64_in _ (by omega)]
        by_cases h4 : xi.length ≤ 4
        · have HE := Lib.hid (HFW.out HGA.out.symm h4)
          obtain ⟨k1, k2⟩ := HPF.out HGA.out.symm h4
          rw [k1] at HP
          rw [k2] at HR
          obtain ⟨AP, cp, rfl, _⟩ := HP.out
          obtain ⟨AR, cr, rfl, hRR⟩ := HR.out
          have HRR := Lib.hid hRR
          clear k1 k2 HP HR hRR
          have v4 : IntKind.i64.wrap ((n0 : Int) + 1 + 2) = (n0 : Int) + 3 := by rw [IntWalk.i64_in _ (by omega)]; omega
          have c0 : w4.cell? ⟨bm, 0, none⟩ = some (.int .i64 ((n0 : Int) + 1)) := HS4.out.m.cell 0
          have d0 := HS4.out.m.frozen 0
          go_wp2_with fail
          have HS5 := Lib.hid (HS4.out.tick HBM.out HMS.out HFM.out (n0 + 3))
          have HX5 := Lib.hid (HX4.out.far (p := ⟨bm, 0, none⟩) hbx1 (.int .i64 ((n0 + 3 : Nat) : Int)))
          have HK5 := Lib.hid (HK4.out.trans (Kp.setm bm bs w4 0 (.int .i64 ((n0 + 3 : Nat) : Int))))
          have HR5 := Lib.hid (HRR.out.kp (Kp.setm bm bs w4 0 (.int .i64 ((n0 + 3 : Nat) : Int))) HS4.out.m HS4.out.s)
          obtain ⟨W5, hW5⟩ : ∃ V, V = w4.setCell ⟨bm, 0, none⟩ (.int .i64 ((n0 : Int) + 3)) := ⟨_, rfl⟩
          have HS6 := Lib.hid (show SS w0 W5.drew bm bs bf 0 (n0 + 3) x y A ca B cb by rw [hW5]; exact HS5.out.below (below_drewN (Below.refl _ _) 1))
          have HX6 := Lib.hid (show Blk W5.drew bx 24 _ by rw [hW5]; exact HX5.out)
          have HK6 := Lib.hid (show Kp bm bs W W5.drew by rw [hW5]; exact HK5.out.trans (Kp.of (below_drewN (Below.refl _ _) 1)))
          have HR6 := Lib.hid (show Rcs W5.drew AR cr xi by rw [hW5]; exact HR5.out.drewN 1)
          rw [← hW5]
          clear hW5 HS5 HX5 HK5 HR5 HRR HS4 HX4 HK4 c0 d0 v4
          go_region_held3 (fun V => V.cell? ⟨bs, 0, none⟩ = some (.slice B y.length cb) ∧ V.cell? ⟨bs, 1, none⟩ = some (.slice A x.length ca) ∧ V.cell? ⟨bx, 0, none⟩ = some (.string (ofL rf)) ∧ V.cell? ⟨bx, 1, none⟩ = some (.string (ofL rt)))
            (first | exact ⟨HS6.out.s.cell 0, HS6.out.s.cell 1, HX6.out.cell 0, HX6.out.cell 1⟩ | exact ⟨HS7.out.s.cell 0, HS7.out.s.cell 1, HX7.out.cell 0, HX7.out.cell 1⟩)
            (first
              | (go_at_call 35; (with_reducible refine (HIN.out _ HS6.out.b B cb HS6.out.y).mono ?_); rintro e w7 ho; obtain ⟨O, co, rfl, hO, hb7⟩ := ho.rcs; have HO7 := Lib.hid hO; have HS7 := Lib.hid (HS6.out.below hb7); have HX7 := Lib.hid (HX6.out.below hb7); have HK7 := Lib.hid (HK6.out.trans (Kp.of hb7)); have HR7 := Lib.hid (HR6.out.below hb7); clear hb7 hO ho))
          clear HS6 HX6 HK6 HR6
          go_wp2_with fail
          refine wp_region_X (fun V => V.cell? ⟨bs, 0, none⟩ = some (.slice B y.length cb) ∧ V.cell? ⟨bs, 1, none⟩ = some (.slice A x.length ca)) 13 (by kernel_rfl) ?_
          have HS9 := Lib.hid (HS7.out.below (below_drewN (Below.refl _ _) 1))
          have HK9 := Lib.hid (HK7.out.trans (Kp.of (below_drewN (Below.refl _ _) 1)))
          have HR9 := Lib.hid (HR7.out.drewN 1)
          have HO9 := Lib.hid (HO7.out.drewN 1)
          have hS9 : w7.drew.cell? ⟨bs, 0, none⟩ = some (.slice B y.length cb) ∧ w7.drew.cell? ⟨bs, 1, none⟩ = some (.slice A x.length ca) := ⟨HS9.out.s.cell 0, HS9.out.s.cell 1⟩
          change Hid (SS w0 w7.drew bm bs bf 0 (n0 + 3) x y A ca B cb) at HS9
          change Hid (Kp bm bs W w7.drew) at HK9
          change Hid (Rcs w7.drew AR cr xi) at HR9
          change Hid (Rcs w7.drew O co yi) at HO9
          generalize w7.drew = V0 at HS9 HK9 HR9 HO9 hS9 ⊢
          refine wpAnyX_pure (i := 0) (v := ?_) rfl (by kernel_rfl) (by kernel_rfl) (by kernel_rfl) (by kernel_rfl) (by kernel_rfl) (fun _ _ _ h => h) (Or.inl ⟨by rfl, ?_⟩) (fun _ => by exact hS9) ?_
          rotate_left
          · intro w hSw; (try dsimp only at hSw); go_simp; (try with_reducible rfl)
          try simp only [List.getElem_toArray, List.getElem_cons_zero, List.getElem_cons_succ, Act.put, List.setIfInBounds_toArray, List.set_cons_zero, List.set_cons_succ]
          refine wpAnyX_pure (i := 1) (v := ?_) rfl (by kernel_rfl) (by kernel_rfl) (by kernel_rfl) (by kernel_rfl) (by kernel_rfl) (fun _ _ _ h => h) (Or.inl ⟨by rfl, ?_⟩) (fun _ => by exact hS9) ?_
          rotate_left
          · intro w hSw; (try dsimp only at hSw); go_simp; (try with_reducible rfl)
          try simp only [List.getElem_toArray, List.getElem_cons_zero, List.getElem_cons_succ, Act.put, List.setIfInBounds_toArray, List.set_cons_zero, List.set_cons_succ]
          refine wpAnyX_pure (i := 2) (v := ?_) rfl (by kernel_rfl) (by kernel_rfl) (by kernel_rfl) (by kernel_rfl) (by kernel_rfl) (fun _ _ _ h => h) (Or.inl ⟨by rfl, ?_⟩) (fun _ => by exact hS9) ?_
          rotate_left
          · intro w hSw; (try dsimp only at hSw); go_simp; (try with_reducible rfl)
          try simp only [List.getElem_toArray, List.getElem_cons_zero, List.getElem_cons_succ, Act.put, List.setIfInBounds_toArray, List.set_cons_zero, List.set_cons_succ]
          refine wpAnyX_pure (i := 3) (v := ?_) rfl (by kernel_rfl) (by kernel_rfl) (by kernel_rfl) (by kernel_rfl) (by kernel_rfl) (fun _ _ _ h => h) (Or.inl ⟨by rfl, ?_⟩) (fun _ => by exact hS9) ?_
          rotate_left
          · intro w hSw; (try dsimp only at hSw); go_simp; (try with_reducible rfl)
          try simp only [List.getElem_toArray, List.getElem_cons_zero, List.getElem_cons_succ, Act.put, List.setIfInBounds_toArray, List.set_cons_zero, List.set_cons_succ]
          refine wpAnyX_take (i := 4) (v := ?_) rfl (by kernel_rfl) (by kernel_rfl) (by kernel_rfl) (by kernel_rfl) (by kernel_rfl) (fun _ _ _ h => h) (Or.inl ⟨by rfl, ?_⟩) (by exact hS9) ?_
          rotate_left
          · intro w hSw; (try dsimp only at hSw); go_simp; (try with_reducible rfl)
          try simp only [List.getElem_toArray, List.getElem_cons_zero, List.getElem_cons_succ, Act.put, List.setIfInBounds_toArray, List.set_cons_zero, List.set_cons_succ]
          refine wpAnyX_pure (i := 5) (v := ?_) rfl (by kernel_rfl) (by kernel_rfl) (by kernel_rfl) (by kernel_rfl) (by kernel_rfl) (fun _ _ _ h => h) (Or.inl ⟨by rfl, ?_⟩) (fun _ => by exact hS9) ?_
          rotate_left
          · intro w hSw; (try dsimp only at hSw); go_simp; (try with_reducible rfl)
          try simp only [List.getElem_toArray, List.getElem_cons_zero, List.getElem_cons_succ, Act.put, List.setIfInBounds_toArray, List.set_cons_zero, List.set_cons_succ]
          refine wpAnyX_pure (i := 7) (v := ?_) rfl (by kernel_rfl) (by kernel_rfl) (by kernel_rfl) (by kernel_rfl) (by kernel_rfl) (fun _ _ _ h => h) (Or.inl ⟨by rfl, ?_⟩) (fun _ => by exact hS9) ?_
          rotate_left
          · intro w hSw; (try dsimp only at hSw); go_simp; (try with_reducible rfl)
          try simp only [List.getElem_toArray, List.getElem_cons_zero, List.getElem_cons_succ, Act.put, List.setIfInBounds_toArray, List.set_cons_zero, List.set_cons_succ]
          refine wpAnyX_pure (i := 8) (v := ?_) rfl (by kernel_rfl) (by kernel_rfl) (by kernel_rfl) (by kernel_rfl) (by kernel_rfl) (fun _ _ _ h => h) (Or.inl ⟨by rfl, ?_⟩) (fun _ => by exact hS9) ?_
          rotate_left
          · intro w hSw; (try dsimp only at hSw); go_simp; (try with_reducible rfl)
          try simp only [List.getElem_toArray, List.getElem_cons_zero, List.getElem_cons_succ, Act.put, List.setIfInBounds_toArray, List.set_cons_zero, List.set_cons_succ]
          refine wpAnyX_take (i := 9) (v := ?_) rfl (by kernel_rfl) (by kernel_rfl) (by kernel_rfl) (by kernel_rfl) (by kernel_rfl) (fun _ _ _ h => h) (Or.inl ⟨by rfl, ?_⟩) (by exact hS9) ?_
          rotate_left
          · intro w hSw; (try dsimp only at hSw); go_simp; (try with_reducible rfl)
          try simp only [List.getElem_toArray, List.getElem_cons_zero, List.getElem_cons_succ, Act.put, List.setIfInBounds_toArray, List.set_cons_zero, List.set_cons_succ]
          refine wpAnyX_pure (i := 10) (v := ?_) rfl (by kernel_rfl) (by kernel_rfl) (by kernel_rfl) (by kernel_rfl) (by kernel_rfl) (fun _ _ _ h => h) (Or.inl ⟨by rfl, ?_⟩) (fun _ => by exact hS9) ?_
          rotate_left
          · intro w hSw; (try dsimp only at hSw); go_simp; (try with_reducible rfl)
          try simp only [List.getElem_toArray, List.getElem_cons_zero, List.getElem_cons_succ, Act.put, List.setIfInBounds_toArray, List.set_cons_zero, List.set_cons_succ]
          refine wpAnyX_one (i := 6) (by kernel_rfl) rfl (fun K hK => ?_)
          go_simp
          refine (HM2.out _ HS9.out.b B cb HS9.out.y AR cr HR9.out).mono ?_
          rintro e w8 ⟨Y, cy, rfl, hY, hb8⟩
          have HY8 := Lib.hid hY
          have HS8 := Lib.hid (HS9.out.below hb8)
          have HK8 := Lib.hid (HK9.out.trans (Kp.of hb8))
          have HO8 := Lib.hid (HO9.out.below hb8)
          have hS8 : w8.cell? ⟨bs, 0, none⟩ = some (.slice B y.length cb) ∧ w8.cell? ⟨bs, 1, none⟩ = some (.slice A x.length ca) := ⟨HS8.out.s.cell 0, HS8.out.s.cell 1⟩
          clear hY hb8 HS9 HK9 HR9 HO9 hS9
          refine hK.out _ _ (fun _ => by exact hS8) ?_
          clear hK K
          try simp only [List.getElem_toArray, List.getElem_cons_zero, List.getElem_cons_succ, Act.put, List.setIfInBounds_toArray, List.set_cons_zero, List.set_cons_succ]
          refine wpAnyX_pure (i := 12) (v := ?_) rfl (by kernel_rfl) (by kernel_rfl) (by kernel_rfl) (by kernel_rfl) (by kernel_rfl) (fun _ _ _ h => h) (Or.inl ⟨by rfl, ?_⟩) (fun _ => by exact hS8) ?_
          rotate_left
          · intro w hSw; (try dsimp only at hSw); go_simp; (try with_reducible rfl)
          try simp only [List.getElem_toArray, List.getElem_cons_zero, List.getElem_cons_succ, Act.put, List.setIfInBounds_toArray, List.set_cons_zero, List.set_cons_succ]
          refine wpAnyX_one (i := 11) (by kernel_rfl) rfl (fun K hK => ?_)
          go_simp
          refine (HM1.out _ HS8.out.b A ca HS8.out.x O co HO8.out).mono ?_
          rintro e w9 ⟨X, cx, rfl, hX, hb9⟩
          have HX9 := Lib.hid hX
          have HY9 := Lib.hid (HY8.out.below hb9)
          have HS9 := Lib.hid (HS8.out.below hb9)
          have HK9 := Lib.hid (HK8.out.trans (Kp.of hb9))
          have hS9 : w9.cell? ⟨bs, 0, none⟩ = some (.slice B y.length cb) ∧ w9.cell? ⟨bs, 1, none⟩ = some (.slice A x.length ca) := ⟨HS9.out.s.cell 0, HS9.out.s.cell 1⟩
          clear hX hb9 HS8 HK8 HO8 hS8 HY8
          refine hK.out _ _ (fun _ => by exact hS9) ?_
          clear hK K
          try simp only [List.getElem_toArray, List.getElem_cons_zero, List.getElem_cons_succ, Act.put, List.setIfInBounds_toArray, List.set_cons_zero, List.set_cons_succ]
          have g0 := hS9.1
          have g1 := hS9.2
          have g2 := HS9.out.s.frozen 0
          have g3 := HS9.out.s.frozen 1
          refine wpAnyX_one (i := 13) (by kernel_rfl) rfl (fun K hK => ?_)
          go_simp
          refine hK.out _ _ (fun h => absurd h (by decide)) ?_
          clear hK K
          try simp only [List.getElem_toArray, List.getElem_cons_zero, List.getElem_cons_succ, Act.put, List.setIfInBounds_toArray, List.set_cons_zero, List.set_cons_succ]
          refine wpAnyX_pure (i := 14) (v := ?_) rfl (by kernel_rfl) (by kernel_rfl) (by kernel_rfl) (by kernel_rfl) (by kernel_rfl) (fun _ _ _ h => h) (Or.inl ⟨by rfl, ?_⟩) (fun h => absurd h (by decide)) ?_
          rotate_left
          · intro w hSw; (try dsimp only at hSw); go_simp; (try with_reducible rfl)
          try simp only [List.getElem_toArray, List.getElem_cons_zero, List.getElem_cons_succ, Act.put, List.setIfInBounds_toArray, List.set_cons_zero, List.set_cons_succ]
          refine wpAnyX_one (i := 15) (by kernel_rfl) rfl (fun K hK => ?_)
          go_simp
          refine hK.out _ _ (fun h => absurd h (by decide)) ?_
          clear hK K
          try simp only [List.getElem_toArray, List.getElem_cons_zero, List.getElem_cons_succ, Act.put, List.setIfInBounds_toArray, List.set_cons_zero, List.set_cons_succ]
          refine wpAnyX_done (by kernel_rfl) ?_ _
          have HF := Lib.hid (HS9.out.puts (by simp) HBS.out HMS.out HFS.out HX9.out HY9.out)
          go_wp2_with fail
          go_end0
          exact ⟨rfl, HK9.out.trans HF.out.2, X, cx, Y, cy, by rw [HE.out]; exact HF.out.1⟩
        · have HE := Lib.hid (HTW.out HGA.out.symm h4)
          have HL2 := Lib.hid (HPT.out HGA.out.symm h4)
          obtain ⟨AP, cp, rfl, hPP⟩ := HP.out
          have hcp := hPP.le
          have hcpm : cp ≤ 9223372036854775807 := hPP.max
          have HPP := Lib.hid (fun V (k : Kp bm bs w4 V) => hPP.kp k HS4.out.m HS4.out.s)
          have HPG := Lib.hid (fun i (hi : i < (prts x r).length) => (show (prts x r).getD i ⟨[], [], 0, []⟩ = (prts x r)[i] by simp [hi]))
          obtain ⟨AR, cr, rfl, _⟩ := HR.out
          obtain ⟨ps, hps⟩ : ∃ ps, ps = prts x r := ⟨_, rfl⟩
          rw [← hps] at HL2 HPP HPG hcp HIH HS1 HS2 HS3 ⊢
          rw [HL2.out] at hcp ⊢
          obtain ⟨S, hSS⟩ : ∃ S, S = sq fuel x y r := ⟨_, rfl⟩
          rw [← hSS] at HIH HS0 HS1 HS2 HS3 HSM HE
          clear hps hSS hPP HP HR
          have HCC := Lib.hid hc
          go_wp2_with fail
          go_loopw [65] (fun z V => ∃ (i : Nat) (A : Option Addr) (ca : Nat) (B : Option Addr) (cb : Nat), i ≤ 2 ∧ z = .int .i64 (i : Int) ∧ Hid (SS w0 V bm bs bf 0 (n0 + (S i).2.2) (S i).1 (S i).2.1 A ca B cb) ∧ Hid (Kp bm bs w4 V)) (fun z _ => 2 - (intOf z).toNat)
          case atStart => exact ⟨0, A, ca, B, cb, by omega, rfl, Lib.hid (by rw [HS0.out]; exact HS4.out), Lib.hid (Kp.refl _ _ _)⟩
          case round =>
            obtain ⟨i, A, ca, B, cb, hi, rfl, HSI, HKI⟩ := hrel
            by_cases hi2 : i < 2
            · have hip : i < ps.length := by rw [HL2.out]; exact hi2
              obtain ⟨g, o, rfl, hgl, hat⟩ := (HPP.out _ HKI.out).mem (by rw [HL2.out]; omega)
              obtain ⟨d0, d1, d2, d3⟩ := hat i hip
              have HG := Lib.hid (HPG.out i hip)
              have hsz : n0 + (S i).2.2 + (dlg Hd fuel (S i).2.1 (S i).1 (ps.getD i ⟨[], [], 0, []⟩)).2.2 ≤ 1000000 := by
                have h1 := HS3.out i
                have h2 := HCC.out
                rw [HE.out] at h2
                have h3 : (S 1).2.2 ≤ (S 2).2.2 := HSM.out 1
                have h4 : i = 0 ∨ i = 1 := by omega
                rcases h4 with rfl | rfl
                · have h1 : _ = (S 1).2.2 := h1
                  omega
                · have h1 : _ = (S 2).2.2 := h1
                  omega
              have HII := Lib.hid (fun V A ca B cb (k : SS w0 V bm bs bf 0 (n0 + (S i).2.2) (S i).1 (S i).2.1 A ca B cb) => HIH.out i V (n0 + (S i).2.2) A ca B cb k hsz)
              have HT1 := Lib.hid (HS1.out i)
              have HT2 := Lib.hid (HS2.out i)
              have HT3 := Lib.hid (HS3.out i)
              obtain ⟨E, hE⟩ : ∃ E, E = dlg Hd fuel (S i).2.1 (S i).1 (ps.getD i ⟨[], [], 0, []⟩) := ⟨_, rfl⟩
              rw [← hE] at HII HT1 HT2 HT3 hsz
              clear hE
              rw [HG.out] at HII
              obtain ⟨pt, hpt⟩ : ∃ p, ps[i] = p := ⟨_, rfl⟩
              rw [hpt] at d0 d1 d2 d3 HII
              clear hat HG hpt hgl
              unfold rgv at HII
              have hpI : (i : Int) < 2 := by omega
              have hp0 : (0 : Int) ≤ (i : Int) := by omega
              have HSA := Lib.hid (HSI.out.alloc (.cells #[.string (ofL pt.f), .string (ofL pt.t), .int .i64 pt.n, .string (ofL pt.d)] 24))
              have HKA := Lib.hid (HKI.out.trans (Kp.of (bm := bm) (bs := bs) ((Below.refl _ wr).alloc (Nat.le_refl _) (.cells #[.string (ofL pt.f), .string (ofL pt.t), .int .i64 pt.n, .string (ofL pt.d)] 24))))
              have k0 : (wr.alloc (.cells #[.string (ofL pt.f), .string (ofL pt.t), .int .i64 pt.n, .string (ofL pt.d)] 24)).cell? ⟨bf, 0, none⟩ = some (.func (.func 37) #[] #[.pointer (some ⟨bm, 0, none⟩), .pointer (some ⟨bs, 0, none⟩), .pointer (some ⟨bf, 0, none⟩)]) := HSA.out.f.cell 0
              go_wp2_with fail
              refine (HII.out _ A ca B cb HSA.out).mono ?_
              rintro e w5 ⟨rfl, hk5, A5, ca5, B5, cb5, hs5⟩
              have HS5 := Lib.hid (show SS w0 w5 bm bs bf 0 (n0 + (S (i + 1)).2.2) (S (i + 1)).1 (S (i + 1)).2.1 B5 cb5 A5 ca5 by
                have h := hs5.swap (σ' := 0) (by simp)
                rw [HT1.out, HT2.out, Nat.add_assoc, HT3.out] at h
                exact h)
              have HK5 := Lib.hid (HKA.out.trans hk5)
              clear hs5 hk5 k0 d0 d1 d2 d3
              go_wp2_with fail
              go_roundw
              case rel => exact ⟨i + 1, B5, cb5, A5, ca5, by omega, by go_num, HS5, HK5⟩
              case measure => simp [intOf]; omega
            · obtain rfl : i = 2 := by omega
              go_wp2_with fail
              go_end0
              exact ⟨rfl, HK4.out.trans HKI.out, A, ca, B, cb, by rw [HE.out]; exact HSI.out⟩
    · show Calls Tryd.prog _ #[.int .i64 1, rgv r, _, _, _, _] W _
      have hsA := hS.s
      have HSS := Lib.hid hS
      have hxl := hx.len
      have hyl := hy.len
      have HU := Lib.hid hU
      have HAN := Lib.hid (fun W (h : Below w0.heap.size w0 W) A ca (k : Rcs W A ca x) => answer_f x (fun z hz => hU z (hx.mem z hz)) hx.srt r W (ht.below h (Nat.le_refl _)) A ca k (by omega))
      have HAG := Lib.hid (fun (q : agr Hd x r = true) => (dlg_agr q : dlg Hd (fuel + 1) x y r = (x, y, 1)))
      have HZR := Lib.hid (fun (q : fuel + 1 = 0) => (show dlg Hd (fuel + 1) x y r = (x, y, 1) by rw [q]; rfl))
      have HFW := Lib.hid (fun (q : agr Hd x r = false) (h : (inn x r.f r.t).length ≤ 4) => (dlg_few q h : dlg Hd (fuel + 1) x y r = _))
      have HTW := Lib.hid (fun (q : agr Hd x r = false) (h : ¬ (inn x r.f r.t).length ≤ 4) => (dlg_two q h : dlg Hd (fuel + 1) x y r = _))
      have HPF := Lib.hid (fun (q : agr Hd x r = false) (h : (inn x r.f r.t).length ≤ 4) => (And.intro (prts_few q h) (recs_few q h)))
      have HPT := Lib.hid (fun (q : agr Hd x r = false) (h : ¬ (inn x r.f r.t).length ≤ 4) => (show (prts x r).length = 2 by rw [prts_two q h]; rfl))
      have hxi := hx.inn r.f r.t
      have hyi := hy.inn r.f r.t
      have HIN := Lib.hid (fun V (h : Below w0.heap.size w0 V) B cb (k : Rcs V B cb y) => within_f y (fun z hz => hU z (hy.mem z hz)) (ofL r.f) (ofL r.t) V (ht.below h (Nat.le_refl _)) B cb k (by omega))
      rw [bl_ofL, bl_ofL] at HIN
      have HM1 := Lib.hid (fun V (h : Below w0.heap.size w0 V) A ca (ka : Rcs V A ca x) O co (k : Rcs V O co (inn y r.f r.t)) => adopt_f x (inn y r.f r.t) (fun z hz => hU z (hx.mem z hz)) (fun z hz => hU z (hyi.mem z hz)) hx.srt hyi.srt V (ht.below h (Nat.le_refl _)) A O ca co ka k (by have := hyi.len; omega))
      have HM2 := Lib.hid (fun V (h : Below w0.heap.size w0 V) B cb (kb : Rcs V B cb y) O co (k : Rcs V O co (inn x r.f r.t)) => adopt_f y (inn x r.f r.t) (fun z hz => hU z (hy.mem z hz)) (fun z hz => hU z (hxi.mem z hz)) hy.srt hxi.srt V (ht.below h (Nat.le_refl _)) B O cb co kb k (by have := hxi.len; omega))
      have HIH := Lib.hid (fun i V n A ca B cb (k : SS w0 V bm bs bf 1 n (sq fuel x y r i).1 (sq fuel x y r i).2.1 A ca B cb) hcc => (show Calls Tryd.prog 37 #[.int .i64 0, rgv ((prts x r).getD i ⟨[], [], 0, []⟩), .int .i64 ((dp : Int) + 1), .pointer (some ⟨bm, 0, none⟩), .pointer (some ⟨bs, 0, none⟩), .pointer (some ⟨bf, 0, none⟩)] V (S1P w0 V bm bs bf 0 n (dlg Hd fuel (sq fuel x y r i).2.1 (sq fuel x y r i).1 ((prts x r).getD i ⟨[], [], 0, []⟩))) from ih 0 (by simp) (dp + 1) (by omega) (sq fuel x y r i).2.1 (sq fuel x y r i).1 (sq_st hx hy i).2 (sq_st hx hy i).1 ((prts x r).getD i ⟨[], [], 0, []⟩) V n B cb A ca (k.swap (by simp)) hcc))
      have HS0 := Lib.hid (show sq fuel x y r 0 = (x, y, 1) from rfl)
      have HS1 := Lib.hid (fun i => (show (dlg Hd fuel (sq fuel x y r i).2.1 (sq fuel x y r i).1 ((prts x r).getD i ⟨[], [], 0, []⟩)).1 = (sq fuel x y r (i + 1)).2.1 from rfl))
      have HS2 := Lib.hid (fun i => (show (dlg Hd fuel (sq fuel x y r i).2.1 (sq fuel x y r i).1 ((prts x r).getD i ⟨[], [], 0, []⟩)).2.1 = (sq fuel x y r (i + 1)).1 from rfl))
      have HS3 := Lib.hid (fun i => (show (sq fuel x y r i).2.2 + (dlg Hd fuel (sq fuel x y r i).2.1 (sq fuel x y r i).1 ((prts x r).getD i ⟨[], [], 0, []⟩)).2.2 = (sq fuel x y r (i + 1)).2.2 from rfl))
      have HSM := Lib.hid (fun i => sq_mono fuel x y r i)
      obtain ⟨D, hD⟩ : ∃ D, D = dlg Hd (fuel + 1) x y r := ⟨_, rfl⟩
      rw [← hD] at HAG HZR hc HFW HTW ⊢
      obtain ⟨rf, hrf⟩ : ∃ x, x = r.f := ⟨_, rfl⟩
      obtain ⟨rt, hrt⟩ : ∃ x, x = r.t := ⟨_, rfl⟩
      have HRF := Lib.hid hrf
      have HRT := Lib.hid hrt
      show Calls Tryd.prog 37 #[.int .i64 1, .agg #[.string (ofL r.f), .string (ofL r.t), .int .i64 r.n, .string (ofL r.d)], .int .i64 (dp : Int), .pointer (some ⟨bm, 0, none⟩), .pointer (some ⟨bs, 0, none⟩), .pointer (some ⟨bf, 0, none⟩)] W _
      rw [← hrf, ← hrt]
      obtain ⟨xi, hxi'⟩ : ∃ l, l = inn x r.f r.t := ⟨_, rfl⟩
      obtain ⟨yi, hyi'⟩ : ∃ l, l = inn y r.f r.t := ⟨_, rfl⟩
      rw [← hxi'] at HFW HTW HPF HPT HM2
      rw [← hyi'] at HFW HIN HM1
      rw [← hrf, ← hrt] at HIN
      unfold rgv at HAN
      rw [← hrf, ← hrt] at HAN
      clear hrf hrt hD hsA hxl hyl hxi hyi hxi' hyi' ih
      have v1 : IntKind.i64.wrap ((n0 : Int) + 1) = ((n0 + 1 : Nat) : Int) := by rw [IntWalk.i64_in _ (by omega)]; omega
      have c0 : W.cell? ⟨bm, 0, none⟩ = some (.int .i64 (n0 : Int)) := HSS.out.m.cell 0
      have d0 := HSS.out.m.frozen 0
      have HX := Lib.hid (Blk.new W 24 #[.string (ofL rf), .string (ofL rt), .int .i64 r.n, .string (ofL r.d)])
      have HS1 := Lib.hid (HSS.out.alloc (.cells #[.string (ofL rf), .string (ofL rt), .int .i64 r.n, .string (ofL r.d)] 24))
      have e0 := HS1.out.m.cell 0
      have f0 := HS1.out.m.frozen 0
      have hbmx : W.heap.size ≠ bm := fun e => absurd HSS.out.m.lt (by omega)
      have hbsx : W.heap.size ≠ bs := fun e => absurd HSS.out.s.lt (by omega)
      simp only [List.getElem?_toArray, List.getElem?_cons_zero] at e0
      go_enter Tryd.func37, Tryd.ntmps37
      go_wp2_with fail
      have HS2 := Lib.hid (HS1.out.tick HBM.out HMS.out HFM.out (n0 + 1))
      have HX2 := Lib.hid (HX.out.far (p := ⟨bm, 0, none⟩) hbmx (.int .i64 ((n0 + 1 : Nat) : Int)))
      have HK2 := Lib.hid ((Kp.of (bm := bm) (bs := bs) ((Below.refl _ W).alloc (Nat.le_refl _) (.cells #[.string (ofL rf), .string (ofL rt), .int .i64 r.n, .string (ofL r.d)] 24))).trans (Kp.setm bm bs _ 0 (.int .i64 ((n0 + 1 : Nat) : Int))))
      obtain ⟨W2, hW2⟩ : ∃ V, V = (W.alloc (.cells #[.string (ofL rf), .string (ofL rt), .int .i64 r.n, .string (ofL r.d)] 24)).setCell ⟨bm, 0, none⟩ (.int .i64 ((n0 : Int) + 1)) := ⟨_, rfl⟩
      obtain ⟨bx, hbx⟩ : ∃ b, b = W.heap.size := ⟨_, rfl⟩
      have HS3 := Lib.hid (show SS w0 W2.drew bm bs bf 1 (n0 + 1) x y A ca B cb by rw [hW2]; exact HS2.out.below (below_drewN (Below.refl _ _) 1))
      have HX3 := Lib.hid (show Blk W2.drew bx 24 (rgc r).toArray by unfold rgc; rw [← HRF.out, ← HRT.out, hW2, hbx]; exact HX2.out)
      have HK3 := Lib.hid (show Kp bm bs W W2.drew by rw [hW2]; exact HK2.out.trans (Kp.of (below_drewN (Below.refl _ _) 1)))
      have hbx1 : bx ≠ bm := by rw [hbx]; exact hbmx
      have hbx2 : bx ≠ bs := by rw [hbx]; exact hbsx
      have HRG := Lib.hid (show rgc r = [.string (ofL rf), .string (ofL rt), .int .i64 r.n, .string (ofL r.d)] by unfold rgc; rw [← HRF.out, ← HRT.out])
      rw [HRG.out] at HX3
      rw [← hW2, ← hbx]
      clear hbmx hbsx hW2 hbx HX2 HS2 HK2 HS1 HX c0 d0 e0 f0 v1
      go_region_held3 (fun V => V.cell? ⟨bs, 0, none⟩ = some (.slice A x.length ca) ∧ V.cell? ⟨bs, 1, none⟩ = some (.slice B y.length cb) ∧ V.cell? ⟨bx, 0, none⟩ = some (.string (ofL rf)) ∧ V.cell? ⟨bx, 1, none⟩ = some (.string (ofL rt)) ∧ V.cell? ⟨bx, 2, none⟩ = some (.int .i64 r.n) ∧ V.cell? ⟨bx, 3, none⟩ = some (.string (ofL r.d)))
        (first | exact ⟨HS3.out.s.cell 0, HS3.out.s.cell 1, HX3.out.cell 0, HX3.out.cell 1, HX3.out.cell 2, HX3.out.cell 3⟩ | exact ⟨HS4.out.s.cell 0, HS4.out.s.cell 1, HX4.out.cell 0, HX4.out.cell 1, HX4.out.cell 2, HX4.out.cell 3⟩)
        (first
          | (go_at_call 14; (with_reducible refine (HAN.out _ HS3.out.b A ca HS3.out.x).mono ?_); rintro e w4 ⟨P, R, rfl, hP, hR, hb4⟩; have HP := Lib.hid hP; have HR := Lib.hid hR; have HS4 := Lib.hid (HS3.out.below hb4); have HX4 := Lib.hid (HX3.out.below hb4); have HK4 := Lib.hid (HK3.out.trans (Kp.of hb4)); clear hb4 hP hR))
      obtain ⟨ag, hag⟩ : ∃ q, q = agr Hd x r := ⟨_, rfl⟩
      rw [← hag]
      have HGA := Lib.hid hag
      clear hag HS3 HX3 HK3
      cases ag with
      | true =>
        have HE := Lib.hid (HAG.out HGA.out.symm)
        go_wp2_with fail
        go_end0
        exact ⟨rfl, HK4.out, A, ca, B, cb, by rw [HE.out]; exact HS4.out⟩
      | false =>
        have v2 : ((dp : Int) == 200) = false := by simp; omega
        have v3 : ¬ (dp : Int) = 200 := by omega
        have v5 : IntKind.i64.wrap ((dp : Int) + 1) = (dp : Int) + 1 := by rw [IntWalk.i64_in _ (by omega)]
        by_cases h4 : xi.length ≤ 4
        · have HE := Lib.hid (HFW.out HGA.out.symm h4)
          obtain ⟨k1, k2⟩ := HPF.out HGA.out.symm h4
          rw [k1] at HP
          rw [k2] at HR
          obtain ⟨AP, cp, rfl, _⟩ := HP.out
          obtain ⟨AR, cr, rfl, hRR⟩ := HR.out
          have HRR := Lib.hid hRR
          clear k1 k2 HP HR hRR
          have v4 : IntKind.i64.wrap ((n0 : Int) + 1 + 2) = (n0 : Int) + 3 := by rw [IntWalk.i64_in _ (by omega)]; omega
          have c0 : w4.cell? ⟨bm, 0, none⟩ = some (.int .i64 ((n0 : Int) + 1)) := HS4.out.m.cell 0
          have d0 := HS4.out.m.frozen 0
          go_wp2_with fail
          have HS5 := Lib.hid (HS4.out.tick HBM.out HMS.out HFM.out (n0 + 3))
          have HX5 := Lib.hid (HX4.out.far (p := ⟨bm, 0, none⟩) hbx1 (.int .i64 ((n0 + 3 : Nat) : Int)))
          have HK5 := Lib.hid (HK4.out.trans (Kp.setm bm bs w4 0 (.int .i64 ((n0 + 3 : Nat) : Int))))
          have HR5 := Lib.hid (HRR.out.kp (Kp.setm bm bs w4 0 (.int .i64 ((n0 + 3 : Nat) : Int))) HS4.out.m HS4.out.s)
          obtain ⟨W5, hW5⟩ : ∃ V, V = w4.setCell ⟨bm, 0, none⟩ (.int .i64 ((n0 : Int) + 3)) := ⟨_, rfl⟩
          have HS6 := Lib.hid (show SS w0 W5.drew bm bs bf 1 (n0 + 3) x y A ca B cb by rw [hW5]; exact HS5.out.below (below_drewN (Below.refl _ _) 1))
          have HX6 := Lib.hid (show Blk W5.drew bx 24 _ by rw [hW5]; exact HX5.out)
          have HK6 := Lib.hid (show Kp bm bs W W5.drew by rw [hW5]; exact HK5.out.trans (Kp.of (below_drewN (Below.refl _ _) 1)))
          have HR6 := Lib.hid (show Rcs W5.drew AR cr xi by rw [hW5]; exact HR5.out.drewN 1)
          rw [← hW5]
          clear hW5 HS5 HX5 HK5 HR5 HRR HS4 HX4 HK4 c0 d0 v4
          go_region_held3 (fun V => V.cell? ⟨bs, 0, none⟩ = some (.slice A x.length ca) ∧ V.cell? ⟨bs, 1, none⟩ = some (.slice B y.length cb) ∧ V.cell? ⟨bx, 0, none⟩ = some (.string (ofL rf)) ∧ V.cell? ⟨bx, 1, none⟩ = some (.string (ofL rt)))
            (first | exact ⟨HS6.out.s.cell 0, HS6.out.s.cell 1, HX6.out.cell 0, HX6.out.cell 1⟩ | exact ⟨HS7.out.s.cell 0, HS7.out.s.cell 1, HX7.out.cell 0, HX7.out.cell 1⟩)
            (first
              | (go_at_call 35; (with_reducible refine (HIN.out _ HS6.out.b B cb HS6.out.y).mono ?_); rintro e w7 ho; obtain ⟨O, co, rfl, hO, hb7⟩ := ho.rcs; have HO7 := Lib.hid hO; have HS7 := Lib.hid (HS6.out.below hb7); have HX7 := Lib.hid (HX6.out.below hb7); have HK7 := Lib.hid (HK6.out.trans (Kp.of hb7)); have HR7 := Lib.hid (HR6.out.below hb7); clear hb7 hO ho))
          clear HS6 HX6 HK6 HR6
          go_wp2_with fail
          refine wp_region_X (fun V => V.cell? ⟨bs, 0, none⟩ = some (.slice A x.length ca) ∧ V.cell? ⟨bs, 1, none⟩ = some (.slice B y.length cb)) 13 (by kernel_rfl) ?_
          have HS9 := Lib.hid (HS7.out.below (below_drewN (Below.refl _ _) 1))
          have HK9 := Lib.hid (HK7.out.trans (Kp.of (below_drewN (Below.refl _ _) 1)))
          have HR9 := Lib.hid (HR7.out.drewN 1)
          have HO9 := Lib.hid (HO7.out.drewN 1)
          have hS9 : w7.drew.cell? ⟨bs, 0, none⟩ = some (.slice A x.length ca) ∧ w7.drew.cell? ⟨bs, 1, none⟩ = some (.slice B y.length cb) := ⟨HS9.out.s.cell 0, HS9.out.s.cell 1⟩
          change Hid (SS w0 w7.drew bm bs bf 1 (n0 + 3) x y A ca B cb) at HS9
          change Hid (Kp bm bs W w7.drew) at HK9
          change Hid (Rcs w7.drew AR cr xi) at HR9
          change Hid (Rcs w7.drew O co yi) at HO9
          generalize w7.drew = V0 at HS9 HK9 HR9 HO9 hS9 ⊢
          refine wpAnyX_pure (i := 0) (v := ?_) rfl (by kernel_rfl) (by kernel_rfl) (by kernel_rfl) (by kernel_rfl) (by kernel_rfl) (fun _ _ _ h => h) (Or.inl ⟨by rfl, ?_⟩) (fun _ => by exact hS9) ?_
          rotate_left
          · intro w hSw; (try dsimp only at hSw); go_simp; (try with_reducible rfl)
          try simp only [List.getElem_toArray, List.getElem_cons_zero, List.getElem_cons_succ, Act.put, List.setIfInBounds_toArray, List.set_cons_zero, List.set_cons_succ]
          refine wpAnyX_pure (i := 1) (v := ?_) rfl (by kernel_rfl) (by kernel_rfl) (by kernel_rfl) (by kernel_rfl) (by kernel_rfl) (fun _ _ _ h => h) (Or.inl ⟨by rfl, ?_⟩) (fun _ => by exact hS9) ?_
          rotate_left
          · intro w hSw; (try dsimp only at hSw); go_simp; (try with_reducible rfl)
          try simp only [List.getElem_toArray, List.getElem_cons_zero, List.getElem_cons_succ, Act.put, List.setIfInBounds_toArray, List.set_cons_zero, List.set_cons_succ]
          refine wpAnyX_pure (i := 2) (v := ?_) rfl (by kernel_rfl) (by kernel_rfl) (by kernel_rfl) (by kernel_rfl) (by kernel_rfl) (fun _ _ _ h => h) (Or.inl ⟨by rfl, ?_⟩) (fun _ => by exact hS9) ?_
          rotate_left
          · intro w hSw; (try dsimp only at hSw); go_simp; (try with_reducible rfl)
          try simp only [List.getElem_toArray, List.getElem_cons_zero, List.getElem_cons_succ, Act.put, List.setIfInBounds_toArray, List.set_cons_zero, List.set_cons_succ]
          refine wpAnyX_pure (i := 3) (v := ?_) rfl (by kernel_rfl) (by kernel_rfl) (by kernel_rfl) (by kernel_rfl) (by kernel_rfl) (fun _ _ _ h => h) (Or.inl ⟨by rfl, ?_⟩) (fun _ => by exact hS9) ?_
          rotate_left
          · intro w hSw; (try dsimp only at hSw); go_simp; (try with_reducible rfl)
          try simp only [List.getElem_toArray, List.getElem_cons_zero, List.getElem_cons_succ, Act.put, List.setIfInBounds_toArray, List.set_cons_zero, List.set_cons_succ]
          refine wpAnyX_take (i := 4) (v := ?_) rfl (by kernel_rfl) (by kernel_rfl) (by kernel_rfl) (by kernel_rfl) (by kernel_rfl) (fun _ _ _ h => h) (Or.inl ⟨by rfl, ?_⟩) (by exact hS9) ?_
          rotate_left
          · intro w hSw; (try dsimp only at hSw); go_simp; (try with_reducible rfl)
          try simp only [List.getElem_toArray, List.getElem_cons_zero, List.getElem_cons_succ, Act.put, List.setIfInBounds_toArray, List.set_cons_zero, List.set_cons_succ]
          refine wpAnyX_pure (i := 5) (v := ?_) rfl (by kernel_rfl) (by kernel_rfl) (by kernel_rfl) (by kernel_rfl) (by kernel_rfl) (fun _ _ _ h => h) (Or.inl ⟨by rfl, ?_⟩) (fun _ => by exact hS9) ?_
          rotate_left
          · intro w hSw; (try dsimp only at hSw); go_simp; (try with_reducible rfl)
          try simp only [List.getElem_toArray, List.getElem_cons_zero, List.getElem_cons_succ, Act.put, List.setIfInBounds_toArray, List.set_cons_zero, List.set_cons_succ]
          refine wpAnyX_pure (i := 7) (v := ?_) rfl (by kernel_rfl) (by kernel_rfl) (by kernel_rfl) (by kernel_rfl) (by kernel_rfl) (fun _ _ _ h => h) (Or.inl ⟨by rfl, ?_⟩) (fun _ => by exact hS9) ?_
          rotate_left
          · intro w hSw; (try dsimp only at hSw); go_simp; (try with_reducible rfl)
          try simp only [List.getElem_toArray, List.getElem_cons_zero, List.getElem_cons_succ, Act.put, List.setIfInBounds_toArray, List.set_cons_zero, List.set_cons_succ]
          refine wpAnyX_pure (i := 8) (v := ?_) rfl (by kernel_rfl) (by kernel_rfl) (by kernel_rfl) (by kernel_rfl) (by kernel_rfl) (fun _ _ _ h => h) (Or.inl ⟨by rfl, ?_⟩) (fun _ => by exact hS9) ?_
          rotate_left
          · intro w hSw; (try dsimp only at hSw); go_simp; (try with_reducible rfl)
          try simp only [List.getElem_toArray, List.getElem_cons_zero, List.getElem_cons_succ, Act.put, List.setIfInBounds_toArray, List.set_cons_zero, List.set_cons_succ]
          refine wpAnyX_take (i := 9) (v := ?_) rfl (by kernel_rfl) (by kernel_rfl) (by kernel_rfl) (by kernel_rfl) (by kernel_rfl) (fun _ _ _ h => h) (Or.inl ⟨by rfl, ?_⟩) (by exact hS9) ?_
          rotate_left
          · intro w hSw; (try dsimp only at hSw); go_simp; (try with_reducible rfl)
          try simp only [List.getElem_toArray, List.getElem_cons_zero, List.getElem_cons_succ, Act.put, List.setIfInBounds_toArray, List.set_cons_zero, List.set_cons_succ]
          refine wpAnyX_pure (i := 10) (v := ?_) rfl (by kernel_rfl) (by kernel_rfl) (by kernel_rfl) (by kernel_rfl) (by kernel_rfl) (fun _ _ _ h => h) (Or.inl ⟨by rfl, ?_⟩) (fun _ => by exact hS9) ?_
          rotate_left
          · intro w hSw; (try dsimp only at hSw); go_simp; (try with_reducible rfl)
          try simp only [List.getElem_toArray, List.getElem_cons_zero, List.getElem_cons_succ, Act.put, List.setIfInBounds_toArray, List.set_cons_zero, List.set_cons_succ]
          refine wpAnyX_one (i := 6) (by kernel_rfl) rfl (fun K hK => ?_)
          go_simp
          refine (HM2.out _ HS9.out.b B cb HS9.out.y AR cr HR9.out).mono ?_
          rintro e w8 ⟨Y, cy, rfl, hY, hb8⟩
          have HY8 := Lib.hid hY
          have HS8 := Lib.hid (HS9.out.below hb8)
          have HK8 := Lib.hid (HK9.out.trans (Kp.of hb8))
          have HO8 := Lib.hid (HO9.out.below hb8)
          have hS8 : w8.cell? ⟨bs, 0, none⟩ = some (.slice A x.length ca) ∧ w8.cell? ⟨bs, 1, none⟩ = some (.slice B y.length cb) := ⟨HS8.out.s.cell 0, HS8.out.s.cell 1⟩
          clear hY hb8 HS9 HK9 HR9 HO9 hS9
          refine hK.out _ _ (fun _ => by exact hS8) ?_
          clear hK K
          try simp only [List.getElem_toArray, List.getElem_cons_zero, List.getElem_cons_succ, Act.put, List.setIfInBounds_toArray, List.set_cons_zero, List.set_cons_succ]
          refine wpAnyX_pure (i := 12) (v := ?_) rfl (by kernel_rfl) (by kernel_rfl) (by kernel_rfl) (by kernel_rfl) (by kernel_rfl) (fun _ _ _ h => h) (Or.inl ⟨by rfl, ?_⟩) (fun _ => by exact hS8) ?_
          rotate_left
          · intro w hSw; (try dsimp only at hSw); go_simp; (try with_reducible rfl)
          try simp only [List.getElem_toArray, List.getElem_cons_zero, List.getElem_cons_succ, Act.put, List.setIfInBounds_toArray, List.set_cons_zero, List.set_cons_succ]
          refine wpAnyX_one (i := 11) (by kernel_rfl) rfl (fun K hK => ?_)
          go_simp
          refine (HM1.out _ HS8.out.b A ca HS8.out.x O co HO8.out).mono ?_
          rintro e w9 ⟨X, cx, rfl, hX, hb9⟩
          have HX9 := Lib.hid hX
          have HY9 := Lib.hid (HY8.out.below hb9)
          have HS9 := Lib.hid (HS8.out.below hb9)
          have HK9 := Lib.hid (HK8.out.trans (Kp.of hb9))
          have hS9 : w9.cell? ⟨bs, 0, none⟩ = some (.slice A x.length ca) ∧ w9.cell? ⟨bs, 1, none⟩ = some (.slice B y.length cb) := ⟨HS9.out.s.cell 0, HS9.out.s.cell 1⟩
          clear hX hb9 HS8 HK8 HO8 hS8 HY8
          refine hK.out _ _ (fun _ => by exact hS9) ?_
          clear hK K
          try simp only [List.getElem_toArray, List.getElem_cons_zero, List.getElem_cons_succ, Act.put, List.setIfInBounds_toArray, List.set_cons_zero, List.set_cons_succ]
          have g0 := hS9.1
          have g1 := hS9.2
          have g2 := HS9.out.s.frozen 0
          have g3 := HS9.out.s.frozen 1
          refine wpAnyX_one (i := 13) (by kernel_rfl) rfl (fun K hK => ?_)
          go_simp
          refine hK.out _ _ (fun h => absurd h (by decide)) ?_
          clear hK K
          try simp only [List.getElem_toArray, List.getElem_cons_zero, List.getElem_cons_succ, Act.put, List.setIfInBounds_toArray, List.set_cons_zero, List.set_cons_succ]
          refine wpAnyX_pure (i := 14) (v := ?_) rfl (by kernel_rfl) (by kernel_rfl) (by kernel_rfl) (by kernel_rfl) (by kernel_rfl) (fun _ _ _ h => h) (Or.inl ⟨by rfl, ?_⟩) (fun h => absurd h (by decide)) ?_
          rotate_left
          · intro w hSw; (try dsimp only at hSw); go_simp; (try with_reducible rfl)
          try simp only [List.getElem_toArray, List.getElem_cons_zero, List.getElem_cons_succ, Act.put, List.setIfInBounds_toArray, List.set_cons_zero, List.set_cons_succ]
          refine wpAnyX_one (i := 15) (by kernel_rfl) rfl (fun K hK => ?_)
          go_simp
          refine hK.out _ _ (fun h => absurd h (by decide)) ?_
          clear hK K
          try simp only [List.getElem_toArray, List.getElem_cons_zero, List.getElem_cons_succ, Act.put, List.setIfInBounds_toArray, List.set_cons_zero, List.set_cons_succ]
          refine wpAnyX_done (by kernel_rfl) ?_ _
          have HF := Lib.hid (HS9.out.puts (by simp) HBS.out HMS.out HFS.out HX9.out HY9.out)
          go_wp2_with fail
          go_end0
          exact ⟨rfl, HK9.out.trans HF.out.2, X, cx, Y, cy, by rw [HE.out]; exact HF.out.1⟩
        · have HE := Lib.hid (HTW.out HGA.out.symm h4)
          have HL2 := Lib.hid (HPT.out HGA.out.symm h4)
          obtain ⟨AP, cp, rfl, hPP⟩ := HP.out
          have hcp := hPP.le
          have hcpm : cp ≤ 9223372036854775807 := hPP.max
          have HPP := Lib.hid (fun V (k : Kp bm bs w4 V) => hPP.kp k HS4.out.m HS4.out.s)
          have HPG := Lib.hid (fun i (hi : i < (prts x r).length) => (show (prts x r).getD i ⟨[], [], 0, []⟩ = (prts x r)[i] by simp [hi]))
          obtain ⟨AR, cr, rfl, _⟩ := HR.out
          obtain ⟨ps, hps⟩ : ∃ ps, ps = prts x r := ⟨_, rfl⟩
          rw [← hps] at HL2 HPP HPG hcp HIH HS1 HS2 HS3 ⊢
          rw [HL2.out] at hcp ⊢
          obtain ⟨S, hSS⟩ : ∃ S, S = sq fuel x y r := ⟨_, rfl⟩
          rw [← hSS] at HIH HS0 HS1 HS2 HS3 HSM HE
          clear hps hSS hPP HP HR
          have HCC := Lib.hid hc
          go_wp2_with fail
          go_loopw [65] (fun z V => ∃ (i : Nat) (A : Option Addr) (ca : Nat) (B : Option Addr) (cb : Nat), i ≤ 2 ∧ z = .int .i64 (i : Int) ∧ Hid (SS w0 V bm bs bf 1 (n0 + (S i).2.2) (S i).1 (S i).2.1 A ca B cb) ∧ Hid (Kp bm bs w4 V)) (fun z _ => 2 - (intOf z).toNat)
          case atStart => exact ⟨0, A, ca, B, cb, by omega, rfl, Lib.hid (by rw [HS0.out]; exact HS4.out), Lib.hid (Kp.refl _ _ _)⟩
          case round =>
            obtain ⟨i, A, ca, B, cb, hi, rfl, HSI, HKI⟩ := hrel
            by_cases hi2 : i < 2
            · have hip : i < ps.length := by rw [HL2.out]; exact hi2
              obtain ⟨g, o, rfl, hgl, hat⟩ := (HPP.out _ HKI.out).mem (by rw [HL2.out]; omega)
              obtain ⟨d0, d1, d2, d3⟩ := hat i hip
              have HG := Lib.hid (HPG.out i hip)
              have hsz : n0 + (S i).2.2 + (dlg Hd fuel (S i).2.1 (S i).1 (ps.getD i ⟨[], [], 0, []⟩)).2.2 ≤ 1000000 := by
                have h1 := HS3.out i
                have h2 := HCC.out
                rw [HE.out] at h2
                have h3 : (S 1).2.2 ≤ (S 2).2.2 := HSM.out 1
                have h4 : i = 0 ∨ i = 1 := by omega
                rcases h4 with rfl | rfl
                · have h1 : _ = (S 1).2.2 := h1
                  omega
                · have h1 : _ = (S 2).2.2 := h1
                  omega
              have HII := Lib.hid (fun V A ca B cb (k : SS w0 V bm bs bf 1 (n0 + (S i).2.2) (S i).1 (S i).2.1 A ca B cb) => HIH.out i V (n0 + (S i).2.2) A ca B cb k hsz)
              have HT1 := Lib.hid (HS1.out i)
              have HT2 := Lib.hid (HS2.out i)
              have HT3 := Lib.hid (HS3.out i)
              obtain ⟨E, hE⟩ : ∃ E, E = dlg Hd fuel (S i).2.1 (S i).1 (ps.getD i ⟨[], [], 0, []⟩) := ⟨_, rfl⟩
              rw [← hE] at HII HT1 HT2 HT3 hsz
              clear hE
              rw [HG.out] at HII
              obtain ⟨pt, hpt⟩ : ∃ p, ps[i] = p := ⟨_, rfl⟩
              rw [hpt] at d0 d1 d2 d3 HII
              clear hat HG hpt hgl
              unfold rgv at HII
              have hpI : (i : Int) < 2 := by omega
              have hp0 : (0 : Int) ≤ (i : Int) := by omega
              have HSA := Lib.hid (HSI.out.alloc (.cells #[.string (ofL pt.f), .string (ofL pt.t), .int .i64 pt.n, .string (ofL pt.d)] 24))
              have HKA := Lib.hid (HKI.out.trans (Kp.of (bm := bm) (bs := bs) ((Below.refl _ wr).alloc (Nat.le_refl _) (.cells #[.string (ofL pt.f), .string (ofL pt.t), .int .i64 pt.n, .string (ofL pt.d)] 24))))
              have k0 : (wr.alloc (.cells #[.string (ofL pt.f), .string (ofL pt.t), .int .i64 pt.n, .string (ofL pt.d)] 24)).cell? ⟨bf, 0, none⟩ = some (.func (.func 37) #[] #[.pointer (some ⟨bm, 0, none⟩), .pointer (some ⟨bs, 0, none⟩), .pointer (some ⟨bf, 0, none⟩)]) := HSA.out.f.cell 0
              go_wp2_with fail
              refine (HII.out _ A ca B cb HSA.out).mono ?_
              rintro e w5 ⟨rfl, hk5, A5, ca5, B5, cb5, hs5⟩
              have HS5 := Lib.hid (show SS w0 w5 bm bs bf 1 (n0 + (S (i + 1)).2.2) (S (i + 1)).1 (S (i + 1)).2.1 B5 cb5 A5 ca5 by
                have h := hs5.swap (σ' := 1) (by simp)
                rw [HT1.out, HT2.out, Nat.add_assoc, HT3.out] at h
                exact h)
              have HK5 := Lib.hid (HKA.out.trans hk5)
              clear hs5 hk5 k0 d0 d1 d2 d3
              go_wp2_with fail
              go_roundw
              case rel => exact ⟨i + 1, B5, cb5, A5, ca5, by omega, by go_num, HS5, HK5⟩
              case measure => simp [intOf]; omega
            · obtain rfl : i = 2 := by omega
              go_wp2_with fail
              go_end0
              exact ⟨rfl, HK4.out.trans HKI.out, A, ca, B, cb, by rw [HE.out]; exact HSI.out⟩
end Rc
end Go.Proofs.YtnllocghmnhooaaDoor
