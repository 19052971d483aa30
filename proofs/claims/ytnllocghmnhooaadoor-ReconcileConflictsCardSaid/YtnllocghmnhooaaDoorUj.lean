/- Reconcile: records whose keys another list does not have (reconcile.Difference). -/
import Derived.Test.YtnllocghmnhooaaDoorUh
import Derived.Maps.Own
import Derived.Maps.OwnSet
import Derived.Maps.OwnOps
namespace Go.Proofs.YtnllocghmnhooaaDoor
open Go.RowKit
set_option linter.unusedVariables false
set_option linter.unusedSimpArgs false
namespace Rc
open Bk (bl bl_len bl_ofL ofL_bl ofL_size ofL_append)

theorem plain_bool_inv {P : Program} {e : TypeId} (he : P.underlying e = some .bool) {v : Value} {x : Bool} {ps : List MemPlace} (h : plainElem (H := Unit) P e v = some (.lit (.bool x), ps)) : v = .bool x := by
  unfold plainElem at h
  rw [he] at h
  cases v <;> simp_all
/-- block b is a map of at most n entries whose keys are the keys of l -/
def KB (W : World) (b n : Nat) (l : List Rec) : Prop := ∃ D : DataW Unit, W.ownsMap Tryd.prog 9 (plainElem Tryd.prog 4) b n D ∧ ∀ k : Bs, D.atKey (.string k) (.lit (.bool false)) = .lit (.bool (has l k))
theorem KB.new (W : World) : KB (W.alloc (.map #[] 0)) W.heap.size 0 [] := ⟨_, World.ownsMap_made _ _ _ _, fun _ => rfl⟩
theorem KB.below {W W' : World} {b n : Nat} {l : List Rec} (h : KB W b n l) (hb : Below W.heap.size W W') : KB W' b n l := by
  obtain ⟨D, h1, h2⟩ := h
  exact ⟨D, h1.kept (row := none) ⟨hb.os, hb.tape, hb.output, hb.size, fun k hk _ => hb.block k hk⟩ (by simp), h2⟩
theorem KB.alloc {W : World} {b n : Nat} {l : List Rec} (h : KB W b n l) (o : Obj) : KB (W.alloc o) b n l := by
  obtain ⟨D, h1, h2⟩ := h
  exact ⟨D, h1.alloc o, h2⟩
theorem KB.lt {W : World} {b n : Nat} {l : List Rec} (h : KB W b n l) : b < W.heap.size := by
  obtain ⟨D, h1, h2⟩ := h
  exact h1.lt
theorem key_lit {k : Bs} (h : k.length ≤ 1000) : keyOf Tryd.prog 9 (.string (ofL k)) = some (.string k) := by
  have := Go.WideMaps.keyOf_string_mk (P := Tryd.prog) Tryd.underlying9 (s := ofL k) (by rw [ofL_size]; unfold maxLen; omega)
  rw [this]
  show some (Lit.string (bl (ofL k))) = _
  rw [bl_ofL]
theorem zero_b (w : World) : (zeroValue 4).run Tryd.prog w = .ok (.bool false) w := by kernel_rfl
theorem isKey (k : Bs) : Go.WideAt.IsKeyLit (.string k) := trivial
theorem wpl_kput {ops : Array Oper} {rest : List Oper} {o : Oper} {a : Act} {Q : Exit → Act → World → Prop} {w : World} (hg : o.guard = none) (m x v : Operand) (hop : o.op = Op.mapUpdate 65 m x v)
    (b n : Nat) (l : List Rec) (r : Rec) (hm : a.eval m = .map (some b)) (h : KB w b n l) (hn : n ≤ 1000000) (hx : a.eval x = .string (ofL (key r))) (hv : a.eval v = .bool true)
    (hK : ∀ w', KB w' b (n + 1) (l ++ [r]) → w.grownBy w' (some b) → wpList Tryd.prog ops Q rest (a.put o.dst undef) w') :
    wpList Tryd.prog ops Q (o :: rest) a w := by
  obtain ⟨D, h1, h2⟩ := h
  refine wpList_mapUpdate_own w hg m x v _ hop 9 4 (Go.Maps.string_keyed Tryd.underlying9) Tryd.underlying65 _ b n D hm h1 (by unfold maxLen; omega) _ _ _ hx hv (key_lit (by rw [key_len]; omega)) _ [] (plainElem_bool Tryd.underlying4 true) fun w' k1 k2 => hK w' ⟨_, k1, fun k => ?_⟩ k2
  by_cases e : k = key r
  · subst e
    rw [Go.Maps.atKey_put_same h1.isMap (isKey _)]
    have : has (l ++ [r]) (key r) = true := has_iff.2 ⟨r, by simp, rfl⟩
    rw [this]
  · rw [Go.Maps.atKey_put_other (by simpa using e), h2]
    have : has (l ++ [r]) k = has l k := by
      unfold has
      rw [List.any_append]
      simp
      exact fun h => absurd h.symm e
    rw [this]
theorem wpl_kget {ops : Array Oper} {rest : List Oper} {o : Oper} {a : Act} {Q : Exit → Act → World → Prop} {w : World} (hg : o.guard = none) (m x : Operand) (hop : o.op = Op.lookup 65 m x false)
    (b n : Nat) (l : List Rec) (k : Bs) (hm : a.eval m = .map (some b)) (h : KB w b n l) (hx : a.eval x = .string (ofL k)) (hk : k.length ≤ 1000)
    (hK : wpList Tryd.prog ops Q rest (a.put o.dst (.bool (has l k))) w) :
    wpList Tryd.prog ops Q (o :: rest) a w := by
  obtain ⟨D, h1, h2⟩ := h
  refine wpList_plain hg fun K' hK' => ?_
  obtain ⟨v, ps, hrun, hat⟩ := h1.lookup (t := 65) (Go.Maps.string_keyed Tryd.underlying9) Tryd.underlying65 (zero_b w) (plainElem_bool Tryd.underlying4 false) (key_lit hk)
  rw [h2] at hat
  obtain rfl := plain_bool_inv Tryd.underlying4 hat
  unfold Oper.wp
  simp [execOp, hop, hm, hx, hrun, Result.andThen]
  exact hK' _ _ hK
theorem has_take_snoc {l : List Rec} {k : Nat} (h : k < l.length) : l.take (k + 1) = l.take k ++ [l[k]] := List.take_succ_eq_append_getElem h

def dif (a b : List Rec) : List Rec := a.filter fun r => !has b (key r)
set_option maxRecDepth 100000 in
set_option maxHeartbeats 2000000 in
theorem diff_f (a b : List Rec) (hva : ∀ x ∈ a, Val x) (hvb : ∀ x ∈ b, Val x) (w : World) (ht : Bk.Tab w) (A B : Option Addr) (ca cb : Nat) (ha : Rcs w A ca a) (hb : Rcs w B cb b) (hla : a.length ≤ 100000) (hlb : b.length ≤ 100000) :
    Calls Tryd.prog 20 #[.slice A a.length ca, .slice B b.length cb] w (OwnPost w (dif a b)) := by
  have HRA := Lib.hid (fun W (h : Below w.heap.size w W) => ha.below h)
  have HRB := Lib.hid (fun W (h : Below w.heap.size w W) => hb.below h)
  have HKA := Lib.hid (fun k (hk : k < a.length) W (h : Below w.heap.size w W) => key_f a[k] (hva _ (List.getElem_mem hk)) W (ht.bel h))
  have HKB := Lib.hid (fun k (hk : k < b.length) W (h : Below w.heap.size w W) => key_f b[k] (hvb _ (List.getElem_mem hk)) W (ht.bel h))
  unfold dif
  obtain ⟨p, hp⟩ : ∃ p : Rec → Bool, p = fun x => !has b (key x) := ⟨_, rfl⟩
  have HP := Lib.hid (fun x => congrFun hp x)
  rw [← hp]
  have HF := Lib.hid (fun k (hk : k < a.length) => flt_snoc hk p)
  have HFL := Lib.hid (fun k => flt_len a k p)
  have HFE := Lib.hid (show a.filter p = (a.take a.length).filter p by rw [List.take_length])
  have HT := Lib.hid (fun k (hk : k < b.length) => has_take_snoc hk)
  have HTE := Lib.hid (show b.take b.length = b from List.take_length)
  have hca : ca ≤ 9223372036854775807 := ha.max
  have hcb : cb ≤ 9223372036854775807 := hb.max
  have hlca := ha.le
  have hlcb := hb.le
  obtain ⟨n, hn⟩ : ∃ n, n = a.length := ⟨_, rfl⟩
  obtain ⟨m, hm⟩ : ∃ m, m = b.length := ⟨_, rfl⟩
  have HN := Lib.hid hn
  have HM0 := Lib.hid hm
  rw [← hn] at hla hlca HFL HFE ⊢
  rw [← hm] at hlb hlcb HTE ⊢
  clear hp hn hm hva hvb ht ha hb
  have hmm := @run_makeMap Tryd.prog
  go_enter Tryd.func20, Tryd.ntmps20
  go_wp2_with fail
  go_loopw [14] (fun x W => ∃ k : Nat, k ≤ m ∧ x = .int .i64 (k : Int) ∧ Hid (KB W w.heap.size k (b.take k)) ∧ Hid (Below w.heap.size w W)) (fun x _ => m - (intOf x).toNat)
  case atStart => exact ⟨0, Nat.zero_le _, rfl, Lib.hid (KB.new _), Lib.hid ((Below.refl _ _).alloc (Nat.le_refl _) _)⟩
  case round =>
    obtain ⟨k, hk, rfl, HM, HB⟩ := hrel
    by_cases hkn : k < m
    · have hkl : k < b.length := by rw [← HM0.out]; exact hkn
      obtain ⟨g, o, rfl, hat⟩ := (HRB.out _ HB.out).mem (by omega)
      obtain ⟨c0, c1, c2⟩ := hat.2 k hkl
      have HK1 := Lib.hid (HKB.out k hkl)
      have HTK := Lib.hid (HT.out k hkl)
      obtain ⟨r, hr⟩ : ∃ r, b[k] = r := ⟨_, rfl⟩
      rw [hr] at c0 c1 c2 HK1 HTK
      clear hat hr
      unfold rv at HK1
      go_wp2_with fail
      refine (HK1.out _ (HB.out.alloc HB.out.size _)).mono ?_
      rintro e w2 ⟨rfl, hb⟩
      have HB2 := Lib.hid ((HB.out.alloc HB.out.size _).trans (hb.mono (HB.out.alloc HB.out.size _).size))
      have HM2 := Lib.hid (KB.below (KB.alloc HM.out _) hb)
      clear hb c0 c1 c2
      go_wp2_with (at_mapUpdate; refine wpl_kput rfl _ _ _ rfl w.heap.size k _ r rfl HM2.out (by omega) rfl rfl ?_; intro w3 hm3 hg3)
      have HM3 := Lib.hid hm3
      have HB3 := Lib.hid (HB2.out.grown hg3 HB2.out.size (fun j hj => by cases hj; exact Nat.le_refl _))
      clear hm3 hg3
      go_wp2_with fail
      go_roundw
      case rel => exact ⟨k + 1, by omega, by go_num, by rw [HTK.out]; exact HM3, HB3⟩
      case measure => simp [intOf]; omega
    · obtain rfl : m = k := by omega
      rw [HTE.out] at HM
      obtain ⟨w1, hw1⟩ : ∃ w1, w1 = wr := ⟨wr, rfl⟩
      subst hw1
      have HB0 := Lib.hid HB.out
      have HM1 := Lib.hid (fun W (h : Below w1.heap.size w1 W) => HM.out.below h)
      clear HM HB hkn hk
      go_wp2_with fail
      go_loopw [8, 24] (fun y x W => ∃ k : Nat, k ≤ n ∧ x = .int .i64 (k : Int) ∧ Hid (Own W w1.heap.size y ((a.take k).filter p)) ∧ Hid (Below w1.heap.size w1 W)) (fun _ x _ => n - (intOf x).toNat)
      case atStart => exact ⟨0, Nat.zero_le _, rfl, Lib.hid (own_nil _ _), Lib.hid (Below.refl _ _)⟩
      case round =>
        obtain ⟨k, hk, rfl, HO, HB⟩ := hrel
        by_cases hkn : k < n
        · have hkl : k < a.length := by rw [← HN.out]; exact hkn
          have HM := Lib.hid (HM1.out _ (Below.refl _ _))
          obtain ⟨g, o, rfl, hat⟩ := (HRA.out _ (HB0.out.trans (HB.out.mono HB0.out.size))).mem (by omega)
          obtain ⟨c0, c1, c2⟩ := hat.2 k hkl
          have HK1 := Lib.hid (HKA.out k hkl)
          have HF1 := Lib.hid (HF.out k hkl)
          obtain ⟨r, hr⟩ : ∃ r, a[k] = r := ⟨_, rfl⟩
          rw [hr] at c0 c1 c2 HK1 HF1
          clear hat hr
          unfold rv at HK1
          have HL1 := Lib.hid (HFL.out k)
          have hp1 := HP.out r
          by_cases q1 : has b (key r) = true
          · have hpf : p r = false := by rw [hp1, q1]; rfl
            clear hp1
            rw [hpf, if_neg (by simp), List.append_nil] at HF1
            clear hpf
            go_wp2_with fail
            refine (HK1.out _ ((HB0.out.trans (HB.out.mono HB0.out.size)).alloc (Nat.le_trans HB0.out.size HB.out.size) _)).mono ?_
            rintro e w2 ⟨rfl, hb⟩
            have HC2 := Lib.hid ((Blk.new wr 42 (rc r).toArray).below hb)
            have HB2 := Lib.hid ((HB.out.alloc HB.out.size _).trans (hb.mono (HB.out.alloc HB.out.size _).size))
            have HO2 := Lib.hid (Own.below (Own.alloc HO.out _) hb)
            have HM2 := Lib.hid (HM.out.below HB2.out)
            clear hb c0 c1 c2
            have c0 : w2.cell? ⟨wr.heap.size, 0, none⟩ = some (.int .u32 (r.a : Int)) := HC2.out.cell 0
            have c1 : w2.cell? ⟨wr.heap.size, 1, none⟩ = some (.int .i64 (r.s : Int)) := HC2.out.cell 1
            have c2 : w2.cell? ⟨wr.heap.size, 2, none⟩ = some (.string (ofL r.d)) := HC2.out.cell 2
            go_wp2_with (at_lookup; refine wpl_kget rfl _ _ rfl w.heap.size m b (key r) rfl HM2.out rfl (by rw [key_len]; omega) ?_)
            go_roundw
            case rel => exact ⟨k + 1, by omega, by go_num, by rw [HF1.out]; exact HO2, HB2⟩
            case measure => simp [intOf]; omega
          · have q1 : has b (key r) = false := by simpa using q1
            have hpf : p r = true := by rw [hp1, q1]; rfl
            clear hp1
            rw [hpf, if_pos rfl] at HF1
            clear hpf
            go_wp2_with fail
            refine (HK1.out _ ((HB0.out.trans (HB.out.mono HB0.out.size)).alloc (Nat.le_trans HB0.out.size HB.out.size) _)).mono ?_
            rintro e w2 ⟨rfl, hb⟩
            have HC2 := Lib.hid ((Blk.new wr 42 (rc r).toArray).below hb)
            have HB2 := Lib.hid ((HB.out.alloc HB.out.size _).trans (hb.mono (HB.out.alloc HB.out.size _).size))
            have HO2 := Lib.hid (Own.below (Own.alloc HO.out _) hb)
            have HM2 := Lib.hid (HM.out.below HB2.out)
            clear hb c0 c1 c2
            have c0 : w2.cell? ⟨wr.heap.size, 0, none⟩ = some (.int .u32 (r.a : Int)) := HC2.out.cell 0
            have c1 : w2.cell? ⟨wr.heap.size, 1, none⟩ = some (.int .i64 (r.s : Int)) := HC2.out.cell 1
            have c2 : w2.cell? ⟨wr.heap.size, 2, none⟩ = some (.string (ofL r.d)) := HC2.out.cell 2
            go_wp2_with (first | (at_lookup; refine wpl_kget rfl _ _ rfl w.heap.size m b (key r) rfl HM2.out rfl (by rw [key_len]; omega) ?_) | (at_builtin; refine wpl_app rfl _ _ rfl _ ((a.take k).filter p) r rfl HO2.out rfl (by have := HL1.out; omega) HB2.out ?_; intro v' w8 hown hb8))
            have HO9 := Lib.hid hown
            have HB9 := Lib.hid hb8
            clear hown hb8
            go_wp2_with fail
            go_roundw
            case rel => exact ⟨k + 1, by omega, by go_num, by rw [HF1.out]; exact HO9, HB9⟩
            case measure => simp [intOf]; omega
        · have hk' : k = n := by omega
          subst hk'
          go_wp2_with fail
          go_ret
          exact ⟨_, rfl, by rw [HFE.out]; exact own_mono HO.out HB0.out.size, HB0.out.trans (HB.out.mono HB0.out.size)⟩
end Rc
end Go.Proofs.YtnllocghmnhooaaDoor
