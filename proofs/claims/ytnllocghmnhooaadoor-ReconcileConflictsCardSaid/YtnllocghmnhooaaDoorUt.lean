/- Reconcile: contradictory records (reconcile.contradictions). -/
import Derived.Test.YtnllocghmnhooaaDoorUj
import Derived.Test.YtnllocghmnhooaaDoorUr
import Derived.RegionTactic
namespace Go.Proofs.YtnllocghmnhooaaDoor
open Go.RowKit
set_option linter.unusedVariables false
set_option linter.unusedSimpArgs false
namespace Rc
open Bk (bl bl_len bl_ofL ofL_bl ofL_size ofL_append)

/-- the contradictory records of one record and of a list -/
def cfl (b : List Rec) (r : Rec) : List Rec := if has b (key r) then (if (lkv b (key r)).d = r.d then [] else [r, lkv b (key r)]) else []
def conf (a b : List Rec) : List Rec := a.flatMap (cfl b)
theorem conf_snoc {a : List Rec} (b : List Rec) {k : Nat} (h : k < a.length) : conf (a.take (k + 1)) b = conf (a.take k) b ++ cfl b a[k] := by
  unfold conf
  rw [List.take_succ_eq_append_getElem h, List.flatMap_append]
  simp
theorem cfl_len (b : List Rec) (r : Rec) : (cfl b r).length ≤ 2 := by
  unfold cfl
  split
  · split <;> simp
  · simp
theorem conf_len (b : List Rec) : ∀ (a : List Rec), (conf a b).length ≤ 2 * a.length
  | [] => by simp [conf]
  | r :: a => by
    have h1 := cfl_len b r
    have h2 := conf_len b a
    show (cfl b r ++ conf a b).length ≤ _
    rw [List.length_append, List.length_cons]
    omega
theorem conf_take (a b : List Rec) (k : Nat) : (conf (a.take k) b).length ≤ 2 * a.length := by
  have := conf_len b (a.take k)
  have h : (a.take k).length ≤ a.length := by rw [List.length_take]; omega
  omega

/-- how a record reads as a map's element -/
def dat (r : Rec) : DataW Unit := .agg [.lit (.int .u32 (r.a : Int)), .lit (.int .i64 (r.s : Int)), .lit (.string r.d)]
def recR (v : Value) : Option (DataW Unit × List MemPlace) :=
  match v with
  | .agg ⟨[.int .u32 a, .int .i64 s, .string d]⟩ => some (.agg [.lit (.int .u32 a), .lit (.int .i64 s), .lit (.string d.data.toList)], [])
  | _ => none
theorem recR_rv (r : Rec) : recR (rv r) = some (dat r, []) := by
  show some ((DataW.agg [.lit (.int .u32 (r.a : Int)), .lit (.int .i64 (r.s : Int)), .lit (.string (bl (ofL r.d)))] : DataW Unit), ([] : List MemPlace)) = _
  rw [bl_ofL]
  rfl
theorem recR_inv {v : Value} {r : Rec} {ps : List MemPlace} (h : recR v = some (dat r, ps)) : v = rv r := by
  unfold recR at h
  split at h
  · simp only [Option.some.injEq, Prod.mk.injEq, dat, DataW.agg.injEq, List.cons.injEq, DataW.lit.injEq, Lit.int.injEq, Lit.string.injEq, true_and, and_true] at h
    obtain ⟨⟨h1, h2, h3⟩, _⟩ := h
    subst h1
    subst h2
    unfold rv
    rw [← h3]
    rfl
  · cases h
/-- block b is a map of at most n entries that reads as the records of l by their keys -/
def KR (W : World) (b n : Nat) (l : List Rec) : Prop := ∃ D : DataW Unit, W.ownsMap Tryd.prog 9 recR b n D ∧ ∀ k : Bs, D.atKey (.string k) (dat ⟨0, 0, []⟩) = dat (lkv l k) ∧ Go.Maps.has D (.string k) = has l k
theorem KR.new (W : World) : KR (W.alloc (.map #[] 0)) W.heap.size 0 [] := ⟨_, World.ownsMap_made _ _ _ _, fun _ => ⟨rfl, rfl⟩⟩
theorem KR.below {W W' : World} {b n : Nat} {l : List Rec} (h : KR W b n l) (hb : Below W.heap.size W W') : KR W' b n l := by
  obtain ⟨D, h1, h2⟩ := h
  exact ⟨D, h1.kept (row := none) ⟨hb.os, hb.tape, hb.output, hb.size, fun k hk _ => hb.block k hk⟩ (by simp), h2⟩
theorem KR.alloc {W : World} {b n : Nat} {l : List Rec} (h : KR W b n l) (o : Obj) : KR (W.alloc o) b n l := by
  obtain ⟨D, h1, h2⟩ := h
  exact ⟨D, h1.alloc o, h2⟩
theorem lkv_snoc {l : List Rec} {r : Rec} (h : has l (key r) = false) (k : Bs) : lkv (l ++ [r]) k = (if k = key r then r else lkv l k) ∧ has (l ++ [r]) k = (if k = key r then true else has l k) := by
  by_cases e : k = key r
  · subst e
    rw [if_pos rfl, if_pos rfl]
    refine ⟨?_, has_iff.2 ⟨r, by simp, rfl⟩⟩
    have h1 : l.find? (fun x => key x == key r) = none := by
      rw [List.find?_eq_none]
      intro x hx
      simpa using has_not.1 h x hx
    unfold lkv lk
    rw [List.find?_append, h1]
    simp
  · rw [if_neg e, if_neg e]
    constructor
    · unfold lkv lk
      rw [List.find?_append, List.find?_cons_of_neg (by simpa using fun h => e h.symm)]
      simp
    · unfold has
      rw [List.any_append]
      simp
      exact fun h => absurd h.symm e
theorem zero_r (w : World) : (zeroValue 42).run Tryd.prog w = .ok (rv ⟨0, 0, []⟩) w := by kernel_rfl
theorem KR.lt {W : World} {b n : Nat} {l : List Rec} (h : KR W b n l) : b < W.heap.size := by
  obtain ⟨D, h1, _⟩ := h
  exact h1.lt
theorem KR.put {w : World} {b n : Nat} {l : List Rec} (h : KR w b n l) (hn : n ≤ 1000000) (r : Rec) (hno : has l (key r) = false) :
    ∃ w', (Instr.mapUpdate 83 (.map (some b)) (.string (ofL (key r))) (.agg #[.int .u32 (r.a : Int), .int .i64 (r.s : Int), .string (ofL r.d)])).run Tryd.prog w = .ok () w' ∧ KR w' b (n + 1) (l ++ [r]) ∧ w.grownBy w' (some b) := by
  obtain ⟨D, h1, h2⟩ := h
  obtain ⟨w', k0, k1, k2⟩ := h1.update (t := 83) (Go.Maps.string_keyed Tryd.underlying9) Tryd.underlying83 (by unfold maxLen; omega) (key_lit (k := key r) (by rw [key_len]; omega)) (recR_rv r)
  refine ⟨w', k0, ⟨_, k1, fun k => ?_⟩, k2⟩
  obtain ⟨e1, e2⟩ := lkv_snoc hno k
  rw [e1, e2]
  by_cases e : k = key r
  · subst e
    rw [Go.Maps.atKey_put_same h1.isMap (isKey _), Go.Maps.has_put_same h1.isMap (isKey _), if_pos rfl, if_pos rfl]
    exact ⟨rfl, rfl⟩
  · rw [Go.Maps.atKey_put_other (by simpa using e), Go.Maps.has_put_other (by simpa using e), if_neg e, if_neg e]
    exact h2 k
theorem wpl_rget {ops : Array Oper} {rest : List Oper} {o : Oper} {a : Act} {Q : Exit → Act → World → Prop} {w : World} (hg : o.guard = none) (m x : Operand) (hop : o.op = Op.lookup 83 m x true)
    (b n : Nat) (l : List Rec) (k : Bs) (hm : a.eval m = .map (some b)) (h : KR w b n l) (hx : a.eval x = .string (ofL k)) (hk : k.length ≤ 1000) (z : Rec) (hz : z = lkv l k) (q : Bool) (hq : has l k = q)
    (hK : wpList Tryd.prog ops Q rest (a.put o.dst (.tuple #[.agg #[.int .u32 (z.a : Int), .int .i64 (z.s : Int), .string (ofL z.d)], .bool q])) w) :
    wpList Tryd.prog ops Q (o :: rest) a w := by
  subst hz
  subst hq
  obtain ⟨D, h1, h2⟩ := h
  refine wpList_lookup_own_ok w hg m x _ hop 9 42 (Go.Maps.string_keyed Tryd.underlying9) Tryd.underlying83 recR (zero_r w) (dat ⟨0, 0, []⟩) [] (recR_rv _) b n D hm h1 _ _ hx (key_lit hk) fun v ps hv => ?_
  rw [(h2 k).1] at hv
  obtain rfl := recR_inv hv
  rw [(h2 k).2]
  exact hK
/-- append of two records -/
theorem wpl_app22 {ops : Array Oper} {rest : List Oper} {o : Oper} {a : Act} {Q : Exit → Act → World → Prop} {w W : World} (hgd : o.guard = none) (s x : Operand)
    (ho : o.op = .call { callee := .builtin .append, args := #[s, x], argTypes := #[25, 25] })
    (v : Value) (l : List Rec) (r z : Rec) (hs : a.eval s = v) (hown : Own W w.heap.size v l) (m : Nat) (hx : a.eval x = .slice (some ⟨m, 0, none⟩) 2 2) (hm : m = W.heap.size) (hl : l.length ≤ 1000000) (hb : Below w.heap.size w W)
    (h : ∀ v' w', Own w' w.heap.size v' (l ++ [r, z]) → Below w.heap.size w w' → wpList Tryd.prog ops Q rest (a.put o.dst v') w') :
    wpList Tryd.prog ops Q (o :: rest) a (W.alloc (.cells #[.int .u32 (r.a : Int), .int .i64 (r.s : Int), .string (ofL r.d), .int .u32 (z.a : Int), .int .i64 (z.s : Int), .string (ofL z.d)] 42)) := by
  subst hm
  obtain ⟨i0, hi, hz0, hz1, hz2⟩ := info_parts'
  have HO := Lib.hid (Own.alloc hown (.cells (rvs [r, z]).toArray 42))
  have HB := hb.alloc hb.size (.cells (rvs [r, z]).toArray 42)
  exact wpl_append_sl _ hgd s x _ ho w.heap.size 42 i0 (.agg #[.int .u32 0, .int .i64 0, .string ⟨#[]⟩]) 3 32 Tryd.underlying25 hi hz0 hz1 hz2 rfl (by decide) v l.length (rvs l) hs HO.out (some ⟨W.heap.size, 0, none⟩) 2 2 (rvs [r, z]) hx (Blk.sl (n := 2) (size := 3) (Blk.new W 42 (rvs [r, z]).toArray) rfl (by unfold maxLen; omega)) (rvs_one _) (by unfold maxLen; omega) (by omega) HB.size
    (fun v' w' h1 h2 _ => h v' w' (by unfold Own; rw [rvs_app, List.length_append]; exact h1) (HB.grown h2 HB.size (fun j e => (HO.out.lt j e).1)))

set_option maxRecDepth 100000 in
set_option maxHeartbeats 4000000 in
theorem contra_f (a b : List Rec) (hva : ∀ x ∈ a, Val x) (hvb : ∀ x ∈ b, Val x) (hsb : Srt b) (w : World) (ht : Bk.Tab w) (A B : Option Addr) (ca cb : Nat) (ha : Rcs w A ca a) (hb : Rcs w B cb b) (hla : a.length ≤ 100000) (hlb : b.length ≤ 100000) :
    Calls Tryd.prog 39 #[.slice A a.length ca, .slice B b.length cb] w (OwnPost w (conf a b)) := by
  have HRA := Lib.hid (fun W (h : Below w.heap.size w W) => ha.below h)
  have HRB := Lib.hid (fun W (h : Below w.heap.size w W) => hb.below h)
  have HKA := Lib.hid (fun k (hk : k < a.length) W (h : Below w.heap.size w W) => key_f a[k] (hva _ (List.getElem_mem hk)) W (ht.bel h))
  have HKB := Lib.hid (fun k (hk : k < b.length) W (h : Below w.heap.size w W) => key_f b[k] (hvb _ (List.getElem_mem hk)) W (ht.bel h))
  have HNO := Lib.hid (fun k (hk : k < b.length) => (show has (b.take k) (key b[k]) = false from has_not.2 fun x hx e => by
    obtain ⟨i, hi, rfl⟩ := List.getElem_of_mem hx
    rw [List.getElem_take] at e
    have hik : i < k := by rw [List.length_take] at hi; omega
    have := List.pairwise_iff_getElem.1 hsb i k (by omega) hk hik
    rw [e] at this
    exact kirr _ this))
  have HF := Lib.hid (fun k (hk : k < a.length) => conf_snoc b hk)
  have HFL := Lib.hid (fun k => conf_take a b k)
  have HFE := Lib.hid (show conf a b = conf (a.take a.length) b by rw [List.take_length])
  have HT := Lib.hid (fun k (hk : k < b.length) => has_take_snoc hk)
  have HTE := Lib.hid (show b.take b.length = b from List.take_length)
  have hca : ca ≤ 9223372036854775807 := ha.max
  have hcb : cb ≤ 9223372036854775807 := hb.max
  have hlca := ha.le
  have hlcb := hb.le
  obtain ⟨n, hn⟩ : ∃ n, n = a.length := ⟨_, rfl⟩
  obtain ⟨m, hm⟩ : ∃ m, m = b.length := ⟨_, rfl⟩
  have HN := Lib.hid hn
  have HM0 := Lib.hid hm
  rw [← hn] at hla hlca HFL HFE ⊢
  rw [← hm] at hlb hlcb HTE ⊢
  clear hn hm hva hvb hsb ht ha hb
  have hmm := @run_makeMap Tryd.prog
  go_enter Tryd.func39, Tryd.ntmps39
  go_wp2_with fail
  go_loopw [16] (fun x W => ∃ k : Nat, k ≤ m ∧ x = .int .i64 (k : Int) ∧ Hid (KR W w.heap.size k (b.take k)) ∧ Hid (Below w.heap.size w W)) (fun x _ => m - (intOf x).toNat)
  case atStart => exact ⟨0, Nat.zero_le _, rfl, Lib.hid (KR.new _), Lib.hid ((Below.refl _ _).alloc (Nat.le_refl _) _)⟩
  case round =>
    obtain ⟨k, hk, rfl, HM, HB⟩ := hrel
    by_cases hkn : k < m
    · have hkl : k < b.length := by rw [← HM0.out]; exact hkn
      obtain ⟨g, o, rfl, hat⟩ := (HRB.out _ HB.out).mem (by omega)
      obtain ⟨c0, c1, c2⟩ := hat.2 k hkl
      have HKX := Lib.hid (HKB.out k hkl)
      have HTK := Lib.hid (HT.out k hkl)
      have HNX := Lib.hid (HNO.out k hkl)
      obtain ⟨x, hr⟩ : ∃ r, b[k] = r := ⟨_, rfl⟩
      rw [hr] at c0 c1 c2 HKX HTK HNX
      clear hat hr
      unfold rv at HKX
      have HXa := Lib.hid (Blk.new wr 42 (rc x).toArray)
      have HBa := Lib.hid (HB.out.alloc HB.out.size (.cells (rc x).toArray 42))
      have HMa := Lib.hid (KR.alloc HM.out (.cells (rc x).toArray 42))
      obtain ⟨W1, hW1⟩ : ∃ V, V = wr.alloc (.cells #[.int .u32 (x.a : Int), .int .i64 (x.s : Int), .string (ofL x.d)] 42) := ⟨_, rfl⟩
      have HW1 := Lib.hid hW1
      have hgl : w.heap.size < wr.heap.size := HM.out.lt
      obtain ⟨gx, hgx⟩ : ∃ g, g = wr.heap.size := ⟨_, rfl⟩
      rw [← hgx] at hgl
      have HGX := Lib.hid hgx
      have HXd := Lib.hid (show Blk W1.drew gx 42 (rc x).toArray by rw [HW1.out, HGX.out]; exact HXa.out)
      have HBd := Lib.hid (show Below w.heap.size w W1.drew by rw [HW1.out]; exact below_drewN HBa.out 1)
      have HMd := Lib.hid (show KR W1.drew w.heap.size k (b.take k) by rw [HW1.out]; exact KR.below HMa.out (below_drewN (Below.refl _ _) 1))
      go_wp2_with fail
      rw [← hW1, ← hgx]
      clear hW1 hgx HXa HBa HMa HGX HW1 c0 c1 c2
      go_region_held3 (fun V => V.cell? ⟨gx, 0, none⟩ = some (.int .u32 (x.a : Int)) ∧ V.cell? ⟨gx, 1, none⟩ = some (.int .i64 (x.s : Int)) ∧ V.cell? ⟨gx, 2, none⟩ = some (.string (ofL x.d)))
        (first | exact ⟨(HXd.out).cell 0, (HXd.out).cell 1, (HXd.out).cell 2⟩ | exact ⟨(HX4.out).cell 0, (HX4.out).cell 1, (HX4.out).cell 2⟩ | exact ⟨(HX5.out).cell 0, (HX5.out).cell 1, (HX5.out).cell 2⟩)
        (first
          | (go_at_call 22; (with_reducible refine (HKX.out _ HBd.out).mono ?_); rintro e w4 ⟨rfl, hb4⟩; have HX4 := Lib.hid (HXd.out.below hb4); have HB4 := Lib.hid (HBd.out.trans (hb4.mono HBd.out.size)); obtain ⟨w5, hrun, hm5, hg5⟩ := KR.put (KR.below HMd.out hb4) (by omega) x HNX.out; have HM5 := Lib.hid hm5; have HX5 := Lib.hid (Blk.grown HX4.out hg5 (by simp; omega)); have HB5 := Lib.hid (HB4.out.grown hg5 HB4.out.size (fun j hj => by cases hj; exact Nat.le_refl _)); clear hb4 hm5 hg5))
      go_wp2_with fail
      go_roundw
      case rel => exact ⟨k + 1, by omega, by go_num, by rw [HTK.out]; exact HM5, HB5⟩
      case measure => simp [intOf]; omega
    · obtain rfl : m = k := by omega
      rw [HTE.out] at HM
      obtain ⟨w1, hw1⟩ : ∃ w1, w1 = wr := ⟨wr, rfl⟩
      subst hw1
      have HB0 := Lib.hid HB.out
      have HM1 := Lib.hid (fun W (h : Below w1.heap.size w1 W) => HM.out.below h)
      clear HM HB hkn hk
      go_wp2_with fail
      go_loopw [8, 27] (fun y x W => ∃ k : Nat, k ≤ n ∧ x = .int .i64 (k : Int) ∧ Hid (Own W w1.heap.size y (conf (a.take k) b)) ∧ Hid (Below w1.heap.size w1 W)) (fun _ x _ => n - (intOf x).toNat)
      case atStart => exact ⟨0, Nat.zero_le _, rfl, Lib.hid (own_nil _ _), Lib.hid (Below.refl _ _)⟩
      case round =>
        obtain ⟨k, hk, rfl, HO, HB⟩ := hrel
        by_cases hkn : k < n
        · have hkl : k < a.length := by rw [← HN.out]; exact hkn
          have HM := Lib.hid (HM1.out _ (Below.refl _ _))
          obtain ⟨g, o, rfl, hat⟩ := (HRA.out _ (HB0.out.trans (HB.out.mono HB0.out.size))).mem (by omega)
          obtain ⟨c0, c1, c2⟩ := hat.2 k hkl
          have HK1 := Lib.hid (HKA.out k hkl)
          have HF1 := Lib.hid (HF.out k hkl)
          obtain ⟨r, hr⟩ : ∃ r, a[k] = r := ⟨_, rfl⟩
          rw [hr] at c0 c1 c2 HK1 HF1
          clear hat hr
          unfold rv at HK1
          have HL1 := Lib.hid (HFL.out k)
          obtain ⟨z, hz⟩ : ∃ z, z = lkv b (key r) := ⟨_, rfl⟩
          have HZ := Lib.hid hz
          unfold cfl at HF1
          rw [← hz] at HF1
          clear hz
          by_cases q1 : has b (key r) = true
          · have HQ1 := Lib.hid q1
            rw [if_pos q1] at HF1
            clear q1
            by_cases q2 : z.d = r.d
            · have f1 : ((ofL z.d).toList != (ofL r.d).toList) = false := by rw [q2]; simp
              have f2 : ((ofL z.d).toList == (ofL r.d).toList) = true := by rw [q2]; simp
              have f3 : (ofL z.d).toList = (ofL r.d).toList := by rw [q2]
              rw [if_pos q2, List.append_nil] at HF1
              clear q2
              go_wp2_with fail
              refine (HK1.out _ ((HB0.out.trans (HB.out.mono HB0.out.size)).alloc (Nat.le_trans HB0.out.size HB.out.size) _)).mono ?_
              rintro e w2 ⟨rfl, hb⟩
              have HC2 := Lib.hid (((Blk.new wr 42 (rc r).toArray).below hb).alloc (.cells #[.int .u32 (z.a : Int), .int .i64 (z.s : Int), .string (ofL z.d)] 42))
              have HB2 := Lib.hid ((HB.out.alloc HB.out.size _).trans (hb.mono (HB.out.alloc HB.out.size _).size))
              have HO2 := Lib.hid (Own.below (Own.alloc HO.out _) hb)
              have HM2 := Lib.hid (HM.out.below HB2.out)
              have HO3 := Lib.hid (Own.alloc HO2.out (.cells #[.int .u32 (z.a : Int), .int .i64 (z.s : Int), .string (ofL z.d)] 42))
              have HB3 := Lib.hid (HB2.out.alloc HB2.out.size (.cells #[.int .u32 (z.a : Int), .int .i64 (z.s : Int), .string (ofL z.d)] 42))
              clear hb c0 c1 c2
              have c0 := HC2.out.cell 0
              have c1 := HC2.out.cell 1
              have c2 := HC2.out.cell 2
              simp only [rc, List.getElem?_toArray, List.getElem?_cons_zero, List.getElem?_cons_succ] at c0 c1 c2
              go_wp2_with (at_lookup; refine wpl_rget rfl _ _ rfl w.heap.size m b (key r) rfl HM2.out rfl (by rw [key_len]; omega) z HZ.out true HQ1.out ?_)
              go_roundw
              case rel => exact ⟨k + 1, by omega, by go_num, by rw [HF1.out]; exact HO3, HB3⟩
              case measure => simp [intOf]; omega
            · have f1 : ((ofL z.d).toList == (ofL r.d).toList) = false := tl_neq q2
              have f2 : ¬ (ofL z.d).toList = (ofL r.d).toList := tl_neq' q2
              rw [if_neg q2] at HF1
              clear q2
              go_wp2_with fail
              refine (HK1.out _ ((HB0.out.trans (HB.out.mono HB0.out.size)).alloc (Nat.le_trans HB0.out.size HB.out.size) _)).mono ?_
              rintro e w2 ⟨rfl, hb⟩
              have HC2 := Lib.hid (((Blk.new wr 42 (rc r).toArray).below hb).alloc (.cells #[.int .u32 (z.a : Int), .int .i64 (z.s : Int), .string (ofL z.d)] 42))
              have HB2 := Lib.hid ((HB.out.alloc HB.out.size _).trans (hb.mono (HB.out.alloc HB.out.size _).size))
              have HO2 := Lib.hid (Own.below (Own.alloc HO.out _) hb)
              have HM2 := Lib.hid (HM.out.below HB2.out)
              have HO3 := Lib.hid (Own.alloc HO2.out (.cells #[.int .u32 (z.a : Int), .int .i64 (z.s : Int), .string (ofL z.d)] 42))
              have HB3 := Lib.hid (HB2.out.alloc HB2.out.size (.cells #[.int .u32 (z.a : Int), .int .i64 (z.s : Int), .string (ofL z.d)] 42))
              clear hb c0 c1 c2
              have c0 := HC2.out.cell 0
              have c1 := HC2.out.cell 1
              have c2 := HC2.out.cell 2
              simp only [rc, List.getElem?_toArray, List.getElem?_cons_zero, List.getElem?_cons_succ] at c0 c1 c2
              go_wp2_with (first | (at_lookup; refine wpl_rget rfl _ _ rfl w.heap.size m b (key r) rfl HM2.out rfl (by rw [key_len]; omega) z HZ.out true HQ1.out ?_) | (at_builtin; refine wpl_app22 rfl _ _ rfl _ (conf (a.take k) b) r z rfl HO3.out _ rfl (by rw [asz]) (by have := HL1.out; omega) HB3.out ?_; intro v' w8 hown hb8))
              have HO9 := Lib.hid hown
              have HB9 := Lib.hid hb8
              clear hown hb8
              go_wp2_with fail
              go_roundw
              case rel => exact ⟨k + 1, by omega, by go_num, by rw [HF1.out]; exact HO9, HB9⟩
              case measure => simp [intOf]; omega
          · have HQ1 := Lib.hid (show has b (key r) = false by simpa using q1)
            rw [if_neg q1, List.append_nil] at HF1
            clear q1
            go_wp2_with fail
            refine (HK1.out _ ((HB0.out.trans (HB.out.mono HB0.out.size)).alloc (Nat.le_trans HB0.out.size HB.out.size) _)).mono ?_
            rintro e w2 ⟨rfl, hb⟩
            have HC2 := Lib.hid (((Blk.new wr 42 (rc r).toArray).below hb).alloc (.cells #[.int .u32 (z.a : Int), .int .i64 (z.s : Int), .string (ofL z.d)] 42))
            have HB2 := Lib.hid ((HB.out.alloc HB.out.size _).trans (hb.mono (HB.out.alloc HB.out.size _).size))
            have HO2 := Lib.hid (Own.below (Own.alloc HO.out _) hb)
            have HM2 := Lib.hid (HM.out.below HB2.out)
            have HO3 := Lib.hid (Own.alloc HO2.out (.cells #[.int .u32 (z.a : Int), .int .i64 (z.s : Int), .string (ofL z.d)] 42))
            have HB3 := Lib.hid (HB2.out.alloc HB2.out.size (.cells #[.int .u32 (z.a : Int), .int .i64 (z.s : Int), .string (ofL z.d)] 42))
            clear hb c0 c1 c2
            have c0 := HC2.out.cell 0
            have c1 := HC2.out.cell 1
            have c2 := HC2.out.cell 2
            simp only [rc, List.getElem?_toArray, List.getElem?_cons_zero, List.getElem?_cons_succ] at c0 c1 c2
            go_wp2_with (at_lookup; refine wpl_rget rfl _ _ rfl w.heap.size m b (key r) rfl HM2.out rfl (by rw [key_len]; omega) z HZ.out false HQ1.out ?_)
            go_roundw
            case rel => exact ⟨k + 1, by omega, by go_num, by rw [HF1.out]; exact HO3, HB3⟩
            case measure => simp [intOf]; omega
        · obtain rfl : n = k := by omega
          go_wp2_with fail
          go_ret
          exact ⟨_, rfl, by rw [HFE.out]; exact own_mono HO.out HB0.out.size, HB0.out.trans (HB.out.mono HB0.out.size)⟩
end Rc
end Go.Proofs.YtnllocghmnhooaaDoor
