/- Reconcile: catalog.Summary. -/
import Derived.Test.YtnllocghmnhooaaDoorUl
import Derived.Test.YtnllocghmnhooaaDoorBh
import Derived.Laws.ResultCell
namespace Go.Proofs.YtnllocghmnhooaaDoor
open Go.RowKit
set_option linter.unusedVariables false
set_option linter.unusedSimpArgs false
namespace Rc
open Bk (bl bl_len bl_ofL ofL_bl ofL_size ofL_append nstr nstrs)

/-- the text of which a summary holds the digest -/
def dmp (l : List Rec) : Bs := l.flatMap fun r => nstrs [key r, r.d]
def Hd (l : List Rec) : Bs := Bk.blake (dmp l)
theorem dmp_snoc (l : List Rec) (r : Rec) : dmp (l ++ [r]) = dmp l ++ nstrs [key r, r.d] := by simp [dmp]
theorem dmp_take {l : List Rec} {k : Nat} (h : k < l.length) : dmp (l.take (k + 1)) = dmp (l.take k) ++ nstrs [key l[k], l[k].d] := by rw [List.take_succ_eq_append_getElem h, dmp_snoc]
theorem ns2_len {r : Rec} (h : Val r) : (nstrs [key r, r.d]).length ≤ 92 := by
  have h1 := Bk.nstr_len (key r) (by rw [key_len]; omega)
  have h2 := Bk.nstr_len r.d (by rw [h.d]; omega)
  rw [key_len] at h1
  rw [h.d] at h2
  show (nstr (key r) ++ (nstr r.d ++ [])).length ≤ 92
  rw [List.length_append, List.length_append]
  simp
  omega
theorem dmp_len : ∀ (l : List Rec), (∀ x ∈ l, Val x) → (dmp l).length ≤ 92 * l.length
  | [], _ => by simp [dmp]
  | r :: l, h => by
    have h1 := ns2_len (h r (by simp))
    have h2 := dmp_len l (fun x hx => h x (List.mem_cons_of_mem _ hx))
    show (nstrs [key r, r.d] ++ dmp l).length ≤ _
    rw [List.length_append, List.length_cons]
    omega
def rgv (r : Rng) : Value := .agg #[.string (ofL r.f), .string (ofL r.t), .int .i64 r.n, .string (ofL r.d)]
theorem Kept.blk {V V' : World} {b g : Nat} {cs : Array Value} (h : Bk.Kept b V V') (k : Blk V g 42 cs) (hne : b < g) : Blk V' g 42 cs :=
  h g _ k (by simp; omega) (fun c fz e => by injection e with _ e _; simp at e)
theorem ns_f (V : World) (x : Rec) (hx : Val x) (hV : Bk.Tab V) :
    Calls Tryd.prog 51 #[.slice (some ⟨V.heap.size, 0, none⟩) 2 2] (V.alloc (.cells #[.string (ofL (key x)), .string (ofL x.d)] 9)) fun e w' => e = .returned (.string (ofL (nstrs [key x, x.d]))) ∧ Below (V.alloc (.cells #[.string (ofL (key x)), .string (ofL x.d)] 9)).heap.size (V.alloc (.cells #[.string (ofL (key x)), .string (ofL x.d)] 9)) w' := by
  have hst : Bk.Stl (V.alloc (.cells #[.string (ofL (key x)), .string (ofL x.d)] 9)) (some ⟨V.heap.size, 0, none⟩) 2 2 [ofL (key x), ofL x.d] :=
    Blk.sl (n := 2) (size := 1) (Blk.new V 9 #[.string (ofL (key x)), .string (ofL x.d)]) rfl (by unfold maxLen; omega)
  have e : Bk.bls [ofL (key x), ofL x.d] = [key x, x.d] := by simp [Bk.bls, bl_ofL]
  have h := Bk.strs_f _ (Bk.Tab.alloc hV _) _ 2 2 _ hst (fun s hs => by
    simp only [List.mem_cons, List.not_mem_nil, or_false] at hs
    rcases hs with rfl | rfl
    · rw [ofL_size, key_len]; omega
    · rw [ofL_size, hx.d]; omega) (by unfold Bk.tot; rw [e]; have := ns2_len hx; omega)
  rw [e] at h
  exact h
theorem res_one {P : Program} {fn : Func} {p : Tmp} {ty : TypeId} (h : fn.results = #[.cell p ty]) (tmps : Array Value) (W : World) {g : Nat} {v : Value} (hp : tmps.getD p undef = .pointer (some ⟨g, 0, none⟩))
    (hld : (loadVar ty ⟨g, 0, none⟩).run P W = .ok v W) : (results fn tmps).run P W = .ok v W := by
  have e : (results fn tmps).run P W = ((asAddr (tmps.getD p undef)).run P W).andThen fun a w₁ => (loadVar ty a).run P w₁ := by
    simp only [results, h]
    simp [Sem.run_bind, Result.andThen]
  rw [e, hp]
  show (loadVar ty ⟨g, 0, none⟩).run P W = _
  rw [hld]
theorem blk_rg {W : World} {g : Nat} {cs : Array Value} (h : Blk W g 24 cs) (hs : cs.size = 4) (a b c d : Value) :
    Blk ((((W.setCell ⟨g, 0, none⟩ a).setCell ⟨g, 1, none⟩ b).setCell ⟨g, 2, none⟩ c).setCell ⟨g, 3, none⟩ d) g 24 #[a, b, c, d] := by
  have h1 := (((h.set_ 0 a).set_ 1 b).set_ 2 c).set_ 3 d
  obtain ⟨l⟩ := cs
  match l, hs with
  | [x, y, z, u], _ => exact h1
theorem bel_rg {w W : World} {g : Nat} (h : Below w.heap.size w W) (hg : w.heap.size ≤ g) (a b c d : Value) : Below w.heap.size w ((((W.setCell ⟨g, 0, none⟩ a).setCell ⟨g, 1, none⟩ b).setCell ⟨g, 2, none⟩ c).setCell ⟨g, 3, none⟩ d) :=
  (((h.setCell (p := ⟨g, 0, none⟩) hg a).setCell (p := ⟨g, 1, none⟩) hg b).setCell (p := ⟨g, 2, none⟩) hg c).setCell (p := ⟨g, 3, none⟩) hg d
theorem rg_ret {fn : Func} (h : fn.results = #[.cell 6 24]) {Q : Ending → World → Prop} (tmps : Array Value) (W : World) {g : Nat} {v0 v1 v2 v3 : Value} (hb : Blk W g 24 #[v0, v1, v2, v3])
    (hp : tmps.getD 6 undef = .pointer (some ⟨g, 0, none⟩)) (hQ : Q (.returned (.agg #[v0, v1, v2, v3])) W) : bodyPost Tryd.prog fn Q .ret ⟨tmps, []⟩ W := by
  have hld := run_loadVar_row (P := Tryd.prog) W g 24 24 #[v0, v1, v2, v3] (0, 0) _ hb Tryd.underlying24 rfl (by kernel_rfl)
  exact bodyPost_ret (v := .agg #[v0, v1, v2, v3]) (res_one h tmps W hp hld) rfl hQ

set_option maxRecDepth 100000 in
set_option maxHeartbeats 4000000 in
theorem sum_f (l : List Rec) (hv : ∀ x ∈ l, Val x) (hs : Srt l) (f t : Bs) (w : World) (ht : Bk.Tab w) (A : Option Addr) (c : Nat) (h : Rcs w A c l) (hl : l.length ≤ 5000) :
    Calls Tryd.prog 34 #[.slice A l.length c, .string (ofL f), .string (ofL t)] w fun e w' => e = .returned (rgv (sm Hd l f t)) ∧ Below w.heap.size w w' := by
  have HR := Lib.hid (fun W (hb : Below w.heap.size w W) => h.below hb)
  have HTB := Lib.hid (fun W (hb : Below w.heap.size w W) => ht.bel hb)
  have HIF := Lib.hid (fun W (hb : Below w.heap.size w W) => index_f l hv hs (ofL f) W A c (ht.bel hb) (h.below hb) (by omega))
  have HIT := Lib.hid (fun W (hb : Below w.heap.size w W) => index_f l hv hs (ofL t) W A c (ht.bel hb) (h.below hb) (by omega))
  rw [bl_ofL] at HIF HIT
  have hif := idx_le l f
  have hit := idx_le l t
  have hcm : c ≤ 9223372036854775807 := h.max
  have hlc := h.le
  have HSL := Lib.hid (show t ≠ [] → (l.drop (idx l f)).take (max (idx l f) (idx l t) - idx l f) = inn l f t from fun k => inn_slice hs f k)
  have HOP := Lib.hid (show t = [] → l.drop (idx l f) = inn l f t from fun e => by rw [e]; exact inn_open hs f)
  obtain ⟨i, hi⟩ : ∃ i, i = idx l f := ⟨_, rfl⟩
  obtain ⟨j, hj⟩ : ∃ j, j = idx l t := ⟨_, rfl⟩
  rw [← hi] at HIF hif HSL HOP
  rw [← hj] at HIT hit HSL
  obtain ⟨n, hn⟩ : ∃ n, n = l.length := ⟨_, rfl⟩
  have HN := Lib.hid hn
  rw [← hn] at hl hlc hif hit HIF HIT ⊢
  obtain ⟨L, hL⟩ : ∃ L, L = inn l f t := ⟨_, rfl⟩
  have HVM := Lib.hid (show ∀ x ∈ L, Val x from fun x hx => hv x (inn_mem.1 (by rw [← hL]; exact hx)).1)
  have HVL := Lib.hid (fun k (hk : k < L.length) => (HVM.out _ (List.getElem_mem hk) : Val L[k]))
  have HK := Lib.hid (fun k (hk : k < L.length) W (hb : Below w.heap.size w W) => key_f L[k] (HVL.out k hk) W (ht.bel hb))
  have HDT := Lib.hid (fun k (hk : k < L.length) => dmp_take hk)
  have HTL := Lib.hid (fun k (hk : k < L.length) => (List.take_succ_eq_append_getElem hk : L.take (k + 1) = L.take k ++ [L[k]]))
  have HLL := Lib.hid (show L.length ≤ 5000 by rw [hL]; exact Nat.le_trans (inn_len l f t) (by omega))
  have HDL := Lib.hid (fun k => (show (dmp (L.take k)).length ≤ 1000000 by
    have h1 := dmp_len (L.take k) (fun x hx => HVM.out x (List.mem_of_mem_take hx))
    have h2 : (L.take k).length ≤ L.length := by rw [List.length_take]; omega
    have h3 := HLL.out
    omega))
  have HSMD := Lib.hid (show sm Hd l f t = ⟨f, t, (L.length : Int), Hd L⟩ by rw [hL]; rfl)
  rw [← hL] at HSL HOP
  have HST := Lib.hid (fun V x (hx : Val x) (hV : Bk.Tab V) => ns_f V x hx hV)
  have HNS := Lib.hid (fun x (hx : Val x) => (show (ofL (nstrs [key x, x.d])).size ≤ 100000000 by rw [ofL_size]; have := ns2_len hx; omega))
  have HSM := Lib.hid (fun V g hg => Bk.sum_one V g (ofL (dmp L)) hg (by rw [ofL_size]; have := HDL.out L.length; rw [List.take_length] at this; exact this))
  rw [bl_ofL] at HSM
  rw [HSMD.out]
  clear hi hj hn ht h hs hv hL
  go_enter Tryd.func34, Tryd.ntmps34
  go_wp2_with fail
  have HZ := Lib.hid (Blk.new w 24 #[.string ⟨#[]⟩, .string ⟨#[]⟩, .int .i64 0, .string ⟨#[]⟩])
  have HZB := Lib.hid ((Below.refl _ w).alloc (Nat.le_refl _) (.cells #[.string ⟨#[]⟩, .string ⟨#[]⟩, .int .i64 0, .string ⟨#[]⟩] 24))
  refine (HIF.out _ HZB.out).mono ?_
  rintro e w1 ⟨rfl, hb⟩
  have HZ1 := Lib.hid (HZ.out.below hb)
  have HB1 := Lib.hid (HZB.out.trans (hb.mono HZB.out.size))
  clear hb HZ HZB
  by_cases htn : t = []
  · have htl : (ofL t).toList = [] := tnil_yes (by rw [bl_ofL]; exact htn)
    have htl2 : (ofL t).toList.isEmpty = true := by rw [htl]; rfl
    have HL := Lib.hid (show (l.drop i).take (n - i) = L by
      rw [List.take_of_length_le (by rw [List.length_drop, ← HN.out]; exact Nat.le_refl _)]
      exact HOP.out htn)
    have HTN := Lib.hid htn
    clear htn
    obtain ⟨w2, hw2⟩ : ∃ q, q = w1 := ⟨w1, rfl⟩
    subst hw2
    have HZ2 := HZ1
    have HB2 := HB1
    cases A with
    | none =>
      have hc0 : c = 0 := (HR.out _ HB2.out).some_ rfl
      have hn0 : n = 0 := by omega
      have hi0 : i = 0 := by omega
      have hj0 : j = 0 := by omega
      have HLN := Lib.hid (show L = [] by
        apply List.eq_nil_of_length_eq_zero
        rw [← HL.out, List.length_take, List.length_drop, ← HN.out]
        omega)
      subst hc0
      subst hn0
      subst hi0
      subst hj0
      go_wp2_with fail
      go_loopw [29] (fun x W => x = .int .i64 0 ∧ Hid (Bk.Bld W w2.heap.size w2.heap.size (dmp L)) ∧ Hid (Below w2.heap.size w2 W)) (fun x _ => 0)
      case atStart => exact ⟨rfl, Lib.hid (by rw [HLN.out]; exact Bk.Bld.new w2 (Nat.le_refl _)), Lib.hid ((Below.refl _ _).alloc (Nat.le_refl _) _)⟩
      case round =>
        obtain ⟨rfl, HBD, HB⟩ := hrel
        go_wp2_with fail
        refine (Bk.bstring HBD.out HB.out.size).mono ?_
        rintro e w4 ⟨rfl, _, hbb, _⟩
        have HB4 := Lib.hid (HB.out.trans hbb)
        clear hbb
        go_wp2_with fail
        refine (HSM.out _ _ (Blk.new w4 9 #[.string (ofL (dmp L))])).mono ?_
        rintro e w5 ⟨rfl, hb5⟩
        have hb5' := (HB4.out.alloc HB4.out.size (.cells #[.string (ofL (dmp L))] 9))
        have HB5 := Lib.hid (hb5'.trans (hb5.mono hb5'.size))
        have HZ5 := Lib.hid (HZ2.out.below HB5.out)
        clear hb5 hb5'
        have c0 := HZ5.out.cell 0
        have c1 := HZ5.out.cell 1
        have c2 := HZ5.out.cell 2
        have c3 := HZ5.out.cell 3
        have d0 := HZ5.out.frozen 0
        have d1 := HZ5.out.frozen 1
        have d2 := HZ5.out.frozen 2
        have d3 := HZ5.out.frozen 3
        simp only [List.getElem?_toArray, List.getElem?_cons_zero, List.getElem?_cons_succ] at c0 c1 c2 c3
        go_wp2_with fail
        exact rg_ret rfl _ _ (blk_rg HZ5.out rfl _ _ _ _) rfl ⟨by rw [HLN.out]; rfl, bel_rg (HB2.out.trans (HB5.out.mono HB2.out.size)) (Nat.le_refl _) _ _ _ _⟩
    | some ad =>
      obtain ⟨g, o, rfl⟩ := (HR.out _ HB2.out).at_ ad rfl
      have hmx : i ≤ n := hif
      have hmn : n ≤ n := Nat.le_refl _
      have HPT := Lib.hid ((HR.out _ HB2.out).part hmx (by rw [← HN.out]; exact hmn))
      rw [HL.out] at HPT
      by_cases hci : c = i
      · have hcn : c = n := by omega
        have hin : i = n := by omega
        have HLN := Lib.hid (show L = [] by
          apply List.eq_nil_of_length_eq_zero
          rw [← HL.out, List.length_take, List.length_drop, ← HN.out]
          omega)
        clear hci HPT
        subst hcn
        subst hin
        have hM : i = i := by omega
        go_wp2_with fail
        go_loopw [29] (fun x W => x = .int .i64 0 ∧ Hid (Bk.Bld W w2.heap.size w2.heap.size (dmp L)) ∧ Hid (Below w2.heap.size w2 W)) (fun x _ => 0)
        case atStart => exact ⟨rfl, Lib.hid (by rw [HLN.out]; exact Bk.Bld.new w2 (Nat.le_refl _)), Lib.hid ((Below.refl _ _).alloc (Nat.le_refl _) _)⟩
        case round =>
          obtain ⟨rfl, HBD, HB⟩ := hrel
          go_wp2_with fail
          refine (Bk.bstring HBD.out HB.out.size).mono ?_
          rintro e w4 ⟨rfl, _, hbb, _⟩
          have HB4 := Lib.hid (HB.out.trans hbb)
          clear hbb
          go_wp2_with fail
          refine (HSM.out _ _ (Blk.new w4 9 #[.string (ofL (dmp L))])).mono ?_
          rintro e w5 ⟨rfl, hb5⟩
          have hb5' := (HB4.out.alloc HB4.out.size (.cells #[.string (ofL (dmp L))] 9))
          have HB5 := Lib.hid (hb5'.trans (hb5.mono hb5'.size))
          have HZ5 := Lib.hid (HZ2.out.below HB5.out)
          clear hb5 hb5'
          have c0 := HZ5.out.cell 0
          have c1 := HZ5.out.cell 1
          have c2 := HZ5.out.cell 2
          have c3 := HZ5.out.cell 3
          have d0 := HZ5.out.frozen 0
          have d1 := HZ5.out.frozen 1
          have d2 := HZ5.out.frozen 2
          have d3 := HZ5.out.frozen 3
          simp only [List.getElem?_toArray, List.getElem?_cons_zero, List.getElem?_cons_succ] at c0 c1 c2 c3
          go_wp2_with fail
          exact rg_ret rfl _ _ (blk_rg HZ5.out rfl _ _ _ _) rfl ⟨by rw [HLN.out]; rfl, bel_rg (HB2.out.trans (HB5.out.mono HB2.out.size)) (Nat.le_refl _) _ _ _ _⟩
      · rw [if_neg hci] at HPT
        go_wp2_with fail
        obtain ⟨q, hq⟩ : ∃ q, q = n - i := ⟨_, rfl⟩
        rw [← hq]
        obtain ⟨o2, ho2⟩ : ∃ x, x = o + i * 3 := ⟨_, rfl⟩
        rw [← ho2] at HPT ⊢
        have HQ := Lib.hid (show q = L.length by rw [← HL.out, List.length_take, List.length_drop, ← HN.out]; omega)
        have HQS := Lib.hid (show i + q = n by omega)
        have hq5 : q ≤ 5000 := by omega
        clear hq ho2
        have HLR := Lib.hid (fun W (k : Below w2.heap.size w2 W) => HPT.out.below k)
        go_loopw [29] (fun x W => ∃ k : Nat, k ≤ q ∧ x = .int .i64 (k : Int) ∧ Hid (Bk.Bld W w2.heap.size w2.heap.size (dmp (L.take k))) ∧ Hid (Below w2.heap.size w2 W)) (fun x _ => q - (intOf x).toNat)
        case atStart => exact ⟨0, Nat.zero_le _, rfl, Lib.hid (Bk.Bld.new w2 (Nat.le_refl _)), Lib.hid ((Below.refl _ _).alloc (Nat.le_refl _) _)⟩
        case round =>
          obtain ⟨k, hk, rfl, HBD, HB⟩ := hrel
          by_cases hkn : k < q
          · have hkl : k < L.length := by rw [← HQ.out]; exact hkn
            obtain ⟨gl, ol, he, hat⟩ := (HLR.out _ HB.out).mem (by omega)
            injection he with he
            injection he with he1 he2 he3
            subst he1
            subst he2
            clear he3
            obtain ⟨c0, c1, c2⟩ := hat.2 k hkl
            have HKX := Lib.hid (HK.out k hkl)
            have HVX := Lib.hid (HVL.out k hkl)
            have HDX := Lib.hid (HDT.out k hkl)
            have HTK := Lib.hid (HTL.out k hkl)
            obtain ⟨x, hr⟩ : ∃ r, L[k] = r := ⟨_, rfl⟩
            rw [hr] at c0 c1 c2 HKX HVX HDX HTK
            clear hat hr
            unfold rv at HKX
            have hBw : Below w.heap.size w wr := HB2.out.trans (HB.out.mono HB2.out.size)
            have HXa := Lib.hid (Blk.new wr 42 (rc x).toArray)
            have HBDa := Lib.hid (Bk.Bld.alloc HBD.out (.cells (rc x).toArray 42))
            have HBa := Lib.hid (HB.out.alloc HB.out.size (.cells (rc x).toArray 42))
            have HWa := Lib.hid (hBw.alloc hBw.size (.cells (rc x).toArray 42))
            clear hBw
            have hsep : w2.heap.size < wr.heap.size := HBD.out.lt
            obtain ⟨W1, hW1⟩ : ∃ V, V = wr.alloc (.cells #[.int .u32 (x.a : Int), .int .i64 (x.s : Int), .string (ofL x.d)] 42) := ⟨_, rfl⟩
            have HW1 := Lib.hid hW1
            obtain ⟨gx, hgx⟩ : ∃ g, g = wr.heap.size := ⟨_, rfl⟩
            have HGX := Lib.hid hgx
            have HXd := Lib.hid (show Blk W1.drew gx 42 (rc x).toArray by rw [HW1.out, HGX.out]; exact HXa.out)
            have HBDd := Lib.hid (show Bk.Bld W1.drew w2.heap.size w2.heap.size (dmp (L.take k)) by rw [HW1.out]; exact HBDa.out)
            have HBd := Lib.hid (show Below w2.heap.size w2 W1.drew by rw [HW1.out]; exact below_drewN HBa.out 1)
            have HWd := Lib.hid (show Below w.heap.size w W1.drew by rw [HW1.out]; exact below_drewN HWa.out 1)
            rw [← hgx] at hsep
            go_wp2_with fail
            rw [← hW1, ← hgx]
            clear hW1 hgx HXa HBDa HBa HWa HGX HW1 c0 c1 c2
            go_region_held3 (fun V => V.cell? ⟨gx, 0, none⟩ = some (.int .u32 (x.a : Int)) ∧ V.cell? ⟨gx, 1, none⟩ = some (.int .i64 (x.s : Int)) ∧ V.cell? ⟨gx, 2, none⟩ = some (.string (ofL x.d)))
              (first | exact ⟨(HXd.out).cell 0, (HXd.out).cell 1, (HXd.out).cell 2⟩ | exact ⟨(HXd.out.below HB4.out).cell 0, (HXd.out.below HB4.out).cell 1, (HXd.out.below HB4.out).cell 2⟩ | exact ⟨((HXd.out.below HB4.out).alloc _).cell 0, ((HXd.out.below HB4.out).alloc _).cell 1, ((HXd.out.below HB4.out).alloc _).cell 2⟩ | exact ⟨(((HXd.out.below HB4.out).alloc _).below HB5.out).cell 0, (((HXd.out.below HB4.out).alloc _).below HB5.out).cell 1, (((HXd.out.below HB4.out).alloc _).below HB5.out).cell 2⟩ | exact ⟨(HX6.out).cell 0, (HX6.out).cell 1, (HX6.out).cell 2⟩)
              (first
                | (go_at_call 22; (with_reducible refine (HKX.out _ HWd.out).mono ?_); rintro e w4 ⟨rfl, hb4⟩; have HB4 := Lib.hid hb4; clear hb4)
                | (go_at_call 51; (with_reducible refine (HST.out _ x HVX.out (HTB.out _ (HWd.out.trans (HB4.out.mono HWd.out.size)))).mono ?_); rintro e w5 ⟨rfl, hb5⟩; have HB5 := Lib.hid hb5; clear hb5; have HBD5 := Lib.hid (Bk.Bld.below (Bk.Bld.alloc (Bk.Bld.below HBDd.out HB4.out) _) HB5.out))
                | (go_at_call 50; (with_reducible refine (Bk.wstr HBD5.out ?_ ?_ _ ?_).mono ?_); exact Nat.le_trans (HDL.out k) (by omega); exact Nat.le_trans (HBd.out.trans (HB4.out.mono HBd.out.size)).size (Nat.le_trans (by rw [asz]; omega) HB5.out.size); exact HNS.out x HVX.out; rintro e w6 ⟨rfl, hbd6, hbb6, hk6⟩; have HBD6 := Lib.hid hbd6; have HB6 := Lib.hid hbb6; have HX6 := Lib.hid (Kept.blk hk6 (((HXd.out.below HB4.out).alloc _).below HB5.out) (by omega)); clear hbd6 hbb6 hk6))
            have HBD7 := Lib.hid (show Bk.Bld w6 w2.heap.size w2.heap.size (dmp (L.take (k + 1))) by
              have := HBD6.out
              rw [bl_ofL, ← HDX.out] at this
              exact this)
            have hA4 := HBd.out.trans (HB4.out.mono HBd.out.size)
            have hA5 := (hA4.alloc hA4.size (.cells #[.string (ofL (key x)), .string (ofL x.d)] 9))
            have HB7 := Lib.hid ((hA5.trans (HB5.out.mono hA5.size)).trans HB6.out)
            clear hA4 hA5
            go_wp2_with fail
            go_roundw
            case rel => exact ⟨k + 1, by omega, by go_num, HBD7, HB7⟩
            case measure => simp [intOf]; omega
          · have hk' : q = k := by omega
            subst hk'
            have HLT := Lib.hid (show L.take q = L by rw [HQ.out]; exact List.take_length)
            rw [HLT.out] at HBD
            have v1 : IntKind.i64.wrap (((n : Nat) : Int) - (i : Int)) = (q : Int) := by rw [← HQS.out]; rw [IntWalk.i64_in _ (by omega)]; omega
            go_wp2_with fail
            refine (Bk.bstring HBD.out HB.out.size).mono ?_
            rintro e w4 ⟨rfl, _, hbb, _⟩
            have HB4 := Lib.hid (HB.out.trans hbb)
            clear hbb
            go_wp2_with fail
            refine (HSM.out _ _ (Blk.new w4 9 #[.string (ofL (dmp L))])).mono ?_
            rintro e w5 ⟨rfl, hb5⟩
            have hb5' := (HB4.out.alloc HB4.out.size (.cells #[.string (ofL (dmp L))] 9))
            have HB5 := Lib.hid (hb5'.trans (hb5.mono hb5'.size))
            have HZ5 := Lib.hid (HZ2.out.below HB5.out)
            clear hb5 hb5'
            have c0 := HZ5.out.cell 0
            have c1 := HZ5.out.cell 1
            have c2 := HZ5.out.cell 2
            have c3 := HZ5.out.cell 3
            have d0 := HZ5.out.frozen 0
            have d1 := HZ5.out.frozen 1
            have d2 := HZ5.out.frozen 2
            have d3 := HZ5.out.frozen 3
            simp only [List.getElem?_toArray, List.getElem?_cons_zero, List.getElem?_cons_succ] at c0 c1 c2 c3
            go_wp2_with fail
            exact rg_ret rfl _ _ (blk_rg HZ5.out rfl _ _ _ _) rfl ⟨by rw [HQ.out]; rfl, bel_rg (HB2.out.trans (HB5.out.mono HB2.out.size)) (Nat.le_refl _) _ _ _ _⟩
  · have htl : ¬ (ofL t).toList = [] := tnil_no (by rw [bl_ofL]; exact htn)
    have htl2 : (ofL t).toList.isEmpty = false := by cases e : (ofL t).toList with | nil => exact absurd e htl | cons _ _ => rfl
    have HL := Lib.hid (HSL.out htn)
    go_wp2_with fail
    refine (HIT.out _ HB1.out).mono ?_
    rintro e w2 ⟨rfl, hb⟩
    have HZ2 := Lib.hid (HZ1.out.below hb)
    have HB2 := Lib.hid (HB1.out.trans (hb.mono HB1.out.size))
    clear hb
    cases A with
    | none =>
      have hc0 : c = 0 := (HR.out _ HB2.out).some_ rfl
      have hn0 : n = 0 := by omega
      have hi0 : i = 0 := by omega
      have hj0 : j = 0 := by omega
      have HLN := Lib.hid (show L = [] by
        apply List.eq_nil_of_length_eq_zero
        rw [← HL.out, List.length_take, List.length_drop, ← HN.out]
        omega)
      subst hc0
      subst hn0
      subst hi0
      subst hj0
      go_wp2_with fail
      go_loopw [29] (fun x W => x = .int .i64 0 ∧ Hid (Bk.Bld W w2.heap.size w2.heap.size (dmp L)) ∧ Hid (Below w2.heap.size w2 W)) (fun x _ => 0)
      case atStart => exact ⟨rfl, Lib.hid (by rw [HLN.out]; exact Bk.Bld.new w2 (Nat.le_refl _)), Lib.hid ((Below.refl _ _).alloc (Nat.le_refl _) _)⟩
      case round =>
        obtain ⟨rfl, HBD, HB⟩ := hrel
        go_wp2_with fail
        refine (Bk.bstring HBD.out HB.out.size).mono ?_
        rintro e w4 ⟨rfl, _, hbb, _⟩
        have HB4 := Lib.hid (HB.out.trans hbb)
        clear hbb
        go_wp2_with fail
        refine (HSM.out _ _ (Blk.new w4 9 #[.string (ofL (dmp L))])).mono ?_
        rintro e w5 ⟨rfl, hb5⟩
        have hb5' := (HB4.out.alloc HB4.out.size (.cells #[.string (ofL (dmp L))] 9))
        have HB5 := Lib.hid (hb5'.trans (hb5.mono hb5'.size))
        have HZ5 := Lib.hid (HZ2.out.below HB5.out)
        clear hb5 hb5'
        have c0 := HZ5.out.cell 0
        have c1 := HZ5.out.cell 1
        have c2 := HZ5.out.cell 2
        have c3 := HZ5.out.cell 3
        have d0 := HZ5.out.frozen 0
        have d1 := HZ5.out.frozen 1
        have d2 := HZ5.out.frozen 2
        have d3 := HZ5.out.frozen 3
        simp only [List.getElem?_toArray, List.getElem?_cons_zero, List.getElem?_cons_succ] at c0 c1 c2 c3
        go_wp2_with fail
        exact rg_ret rfl _ _ (blk_rg HZ5.out rfl _ _ _ _) rfl ⟨by rw [HLN.out]; rfl, bel_rg (HB2.out.trans (HB5.out.mono HB2.out.size)) (Nat.le_refl _) _ _ _ _⟩
    | some ad =>
      obtain ⟨g, o, rfl⟩ := (HR.out _ HB2.out).at_ ad rfl
      have hmx : i ≤ max i j := Nat.le_max_left _ _
      have hmn : max i j ≤ n := Nat.max_le.2 ⟨hif, hit⟩
      have hmI : (max (i : Int) (j : Int)) = ((max i j : Nat) : Int) := by omega
      have HPT := Lib.hid ((HR.out _ HB2.out).part hmx (by rw [← HN.out]; exact hmn))
      rw [HL.out] at HPT
      by_cases hci : c = i
      · have hcn : c = n := by omega
        have hin : i = n := by omega
        have HLN := Lib.hid (show L = [] by
          apply List.eq_nil_of_length_eq_zero
          rw [← HL.out, List.length_take, List.length_drop, ← HN.out]
          omega)
        clear hci HPT
        subst hcn
        subst hin
        have hM : max i j = i := by omega
        go_wp2_with fail
        go_loopw [29] (fun x W => x = .int .i64 0 ∧ Hid (Bk.Bld W w2.heap.size w2.heap.size (dmp L)) ∧ Hid (Below w2.heap.size w2 W)) (fun x _ => 0)
        case atStart => exact ⟨rfl, Lib.hid (by rw [HLN.out]; exact Bk.Bld.new w2 (Nat.le_refl _)), Lib.hid ((Below.refl _ _).alloc (Nat.le_refl _) _)⟩
        case round =>
          obtain ⟨rfl, HBD, HB⟩ := hrel
          go_wp2_with fail
          refine (Bk.bstring HBD.out HB.out.size).mono ?_
          rintro e w4 ⟨rfl, _, hbb, _⟩
          have HB4 := Lib.hid (HB.out.trans hbb)
          clear hbb
          go_wp2_with fail
          refine (HSM.out _ _ (Blk.new w4 9 #[.string (ofL (dmp L))])).mono ?_
          rintro e w5 ⟨rfl, hb5⟩
          have hb5' := (HB4.out.alloc HB4.out.size (.cells #[.string (ofL (dmp L))] 9))
          have HB5 := Lib.hid (hb5'.trans (hb5.mono hb5'.size))
          have HZ5 := Lib.hid (HZ2.out.below HB5.out)
          clear hb5 hb5'
          have c0 := HZ5.out.cell 0
          have c1 := HZ5.out.cell 1
          have c2 := HZ5.out.cell 2
          have c3 := HZ5.out.cell 3
          have d0 := HZ5.out.frozen 0
          have d1 := HZ5.out.frozen 1
          have d2 := HZ5.out.frozen 2
          have d3 := HZ5.out.frozen 3
          simp only [List.getElem?_toArray, List.getElem?_cons_zero, List.getElem?_cons_succ] at c0 c1 c2 c3
          go_wp2_with fail
          exact rg_ret rfl _ _ (blk_rg HZ5.out rfl _ _ _ _) rfl ⟨by rw [HLN.out]; rfl, bel_rg (HB2.out.trans (HB5.out.mono HB2.out.size)) (Nat.le_refl _) _ _ _ _⟩
      · rw [if_neg hci] at HPT
        go_wp2_with fail
        obtain ⟨q, hq⟩ : ∃ q, q = max i j - i := ⟨_, rfl⟩
        rw [← hq]
        obtain ⟨o2, ho2⟩ : ∃ x, x = o + i * 3 := ⟨_, rfl⟩
        rw [← ho2] at HPT ⊢
        have HQ := Lib.hid (show q = L.length by rw [← HL.out, List.length_take, List.length_drop, ← HN.out]; omega)
        have HQS := Lib.hid (show i + q = max i j by omega)
        have hq5 : q ≤ 5000 := by omega
        clear hq ho2
        have HLR := Lib.hid (fun W (k : Below w2.heap.size w2 W) => HPT.out.below k)
        go_loopw [29] (fun x W => ∃ k : Nat, k ≤ q ∧ x = .int .i64 (k : Int) ∧ Hid (Bk.Bld W w2.heap.size w2.heap.size (dmp (L.take k))) ∧ Hid (Below w2.heap.size w2 W)) (fun x _ => q - (intOf x).toNat)
        case atStart => exact ⟨0, Nat.zero_le _, rfl, Lib.hid (Bk.Bld.new w2 (Nat.le_refl _)), Lib.hid ((Below.refl _ _).alloc (Nat.le_refl _) _)⟩
        case round =>
          obtain ⟨k, hk, rfl, HBD, HB⟩ := hrel
          by_cases hkn : k < q
          · have hkl : k < L.length := by rw [← HQ.out]; exact hkn
            obtain ⟨gl, ol, he, hat⟩ := (HLR.out _ HB.out).mem (by omega)
            injection he with he
            injection he with he1 he2 he3
            subst he1
            subst he2
            clear he3
            obtain ⟨c0, c1, c2⟩ := hat.2 k hkl
            have HKX := Lib.hid (HK.out k hkl)
            have HVX := Lib.hid (HVL.out k hkl)
            have HDX := Lib.hid (HDT.out k hkl)
            have HTK := Lib.hid (HTL.out k hkl)
            obtain ⟨x, hr⟩ : ∃ r, L[k] = r := ⟨_, rfl⟩
            rw [hr] at c0 c1 c2 HKX HVX HDX HTK
            clear hat hr
            unfold rv at HKX
            have hBw : Below w.heap.size w wr := HB2.out.trans (HB.out.mono HB2.out.size)
            have HXa := Lib.hid (Blk.new wr 42 (rc x).toArray)
            have HBDa := Lib.hid (Bk.Bld.alloc HBD.out (.cells (rc x).toArray 42))
            have HBa := Lib.hid (HB.out.alloc HB.out.size (.cells (rc x).toArray 42))
            have HWa := Lib.hid (hBw.alloc hBw.size (.cells (rc x).toArray 42))
            clear hBw
            have hsep : w2.heap.size < wr.heap.size := HBD.out.lt
            obtain ⟨W1, hW1⟩ : ∃ V, V = wr.alloc (.cells #[.int .u32 (x.a : Int), .int .i64 (x.s : Int), .string (ofL x.d)] 42) := ⟨_, rfl⟩
            have HW1 := Lib.hid hW1
            obtain ⟨gx, hgx⟩ : ∃ g, g = wr.heap.size := ⟨_, rfl⟩
            have HGX := Lib.hid hgx
            have HXd := Lib.hid (show Blk W1.drew gx 42 (rc x).toArray by rw [HW1.out, HGX.out]; exact HXa.out)
            have HBDd := Lib.hid (show Bk.Bld W1.drew w2.heap.size w2.heap.size (dmp (L.take k)) by rw [HW1.out]; exact HBDa.out)
            have HBd := Lib.hid (show Below w2.heap.size w2 W1.drew by rw [HW1.out]; exact below_drewN HBa.out 1)
            have HWd := Lib.hid (show Below w.heap.size w W1.drew by rw [HW1.out]; exact below_drewN HWa.out 1)
            rw [← hgx] at hsep
            go_wp2_with fail
            rw [← hW1, ← hgx]
            clear hW1 hgx HXa HBDa HBa HWa HGX HW1 c0 c1 c2
            go_region_held3 (fun V => V.cell? ⟨gx, 0, none⟩ = some (.int .u32 (x.a : Int)) ∧ V.cell? ⟨gx, 1, none⟩ = some (.int .i64 (x.s : Int)) ∧ V.cell? ⟨gx, 2, none⟩ = some (.string (ofL x.d)))
              (first | exact ⟨(HXd.out).cell 0, (HXd.out).cell 1, (HXd.out).cell 2⟩ | exact ⟨(HXd.out.below HB4.out).cell 0, (HXd.out.below HB4.out).cell 1, (HXd.out.below HB4.out).cell 2⟩ | exact ⟨((HXd.out.below HB4.out).alloc _).cell 0, ((HXd.out.below HB4.out).alloc _).cell 1, ((HXd.out.below HB4.out).alloc _).cell 2⟩ | exact ⟨(((HXd.out.below HB4.out).alloc _).below HB5.out).cell 0, (((HXd.out.below HB4.out).alloc _).below HB5.out).cell 1, (((HXd.out.below HB4.out).alloc _).below HB5.out).cell 2⟩ | exact ⟨(HX6.out).cell 0, (HX6.out).cell 1, (HX6.out).cell 2⟩)
              (first
                | (go_at_call 22; (with_reducible refine (HKX.out _ HWd.out).mono ?_); rintro e w4 ⟨rfl, hb4⟩; have HB4 := Lib.hid hb4; clear hb4)
                | (go_at_call 51; (with_reducible refine (HST.out _ x HVX.out (HTB.out _ (HWd.out.trans (HB4.out.mono HWd.out.size)))).mono ?_); rintro e w5 ⟨rfl, hb5⟩; have HB5 := Lib.hid hb5; clear hb5; have HBD5 := Lib.hid (Bk.Bld.below (Bk.Bld.alloc (Bk.Bld.below HBDd.out HB4.out) _) HB5.out))
                | (go_at_call 50; (with_reducible refine (Bk.wstr HBD5.out ?_ ?_ _ ?_).mono ?_); exact Nat.le_trans (HDL.out k) (by omega); exact Nat.le_trans (HBd.out.trans (HB4.out.mono HBd.out.size)).size (Nat.le_trans (by rw [asz]; omega) HB5.out.size); exact HNS.out x HVX.out; rintro e w6 ⟨rfl, hbd6, hbb6, hk6⟩; have HBD6 := Lib.hid hbd6; have HB6 := Lib.hid hbb6; have HX6 := Lib.hid (Kept.blk hk6 (((HXd.out.below HB4.out).alloc _).below HB5.out) (by omega)); clear hbd6 hbb6 hk6))
            have HBD7 := Lib.hid (show Bk.Bld w6 w2.heap.size w2.heap.size (dmp (L.take (k + 1))) by
              have := HBD6.out
              rw [bl_ofL, ← HDX.out] at this
              exact this)
            have hA4 := HBd.out.trans (HB4.out.mono HBd.out.size)
            have hA5 := (hA4.alloc hA4.size (.cells #[.string (ofL (key x)), .string (ofL x.d)] 9))
            have HB7 := Lib.hid ((hA5.trans (HB5.out.mono hA5.size)).trans HB6.out)
            clear hA4 hA5
            go_wp2_with fail
            go_roundw
            case rel => exact ⟨k + 1, by omega, by go_num, HBD7, HB7⟩
            case measure => simp [intOf]; omega
          · have hk' : q = k := by omega
            subst hk'
            have HLT := Lib.hid (show L.take q = L by rw [HQ.out]; exact List.take_length)
            rw [HLT.out] at HBD
            have v1 : IntKind.i64.wrap (((max i j : Nat) : Int) - (i : Int)) = (q : Int) := by rw [← HQS.out]; rw [IntWalk.i64_in _ (by omega)]; omega
            go_wp2_with fail
            refine (Bk.bstring HBD.out HB.out.size).mono ?_
            rintro e w4 ⟨rfl, _, hbb, _⟩
            have HB4 := Lib.hid (HB.out.trans hbb)
            clear hbb
            go_wp2_with fail
            refine (HSM.out _ _ (Blk.new w4 9 #[.string (ofL (dmp L))])).mono ?_
            rintro e w5 ⟨rfl, hb5⟩
            have hb5' := (HB4.out.alloc HB4.out.size (.cells #[.string (ofL (dmp L))] 9))
            have HB5 := Lib.hid (hb5'.trans (hb5.mono hb5'.size))
            have HZ5 := Lib.hid (HZ2.out.below HB5.out)
            clear hb5 hb5'
            have c0 := HZ5.out.cell 0
            have c1 := HZ5.out.cell 1
            have c2 := HZ5.out.cell 2
            have c3 := HZ5.out.cell 3
            have d0 := HZ5.out.frozen 0
            have d1 := HZ5.out.frozen 1
            have d2 := HZ5.out.frozen 2
            have d3 := HZ5.out.frozen 3
            simp only [List.getElem?_toArray, List.getElem?_cons_zero, List.getElem?_cons_succ] at c0 c1 c2 c3
            go_wp2_with fail
            exact rg_ret rfl _ _ (blk_rg HZ5.out rfl _ _ _ _) rfl ⟨by rw [HQ.out]; rfl, bel_rg (HB2.out.trans (HB5.out.mono HB2.out.size)) (Nat.le_refl _) _ _ _ _⟩
end Rc
end Go.Proofs.YtnllocghmnhooaaDoor
