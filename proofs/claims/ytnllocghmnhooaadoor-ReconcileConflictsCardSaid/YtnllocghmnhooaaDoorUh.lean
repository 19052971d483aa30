/- Reconcile: lists grown by append; records of a range (reconcile.within). -/
import Derived.Test.YtnllocghmnhooaaDoorUg
namespace Go.Proofs.YtnllocghmnhooaaDoor
open Go.RowKit
set_option linter.unusedVariables false
set_option linter.unusedSimpArgs false
namespace Rc
open Bk (bl bl_len bl_ofL ofL_bl ofL_size ofL_append)

def OwnPost (w : World) (l : List Rec) (e : Ending) (w' : World) : Prop := ∃ v, e = .returned v ∧ Own w' w.heap.size v l ∧ Below w.heap.size w w'
theorem own_nil (W : World) (B : Nat) : Own W B (.slice none 0 0) [] := ⟨rfl, Or.inl ⟨rfl, rfl⟩⟩
theorem own_zero (W : World) {B : Nat} (hB : B ≤ W.heap.size) : Own (W.alloc (.cells #[] 42)) B (.slice (some ⟨W.heap.size, 0, none⟩) 0 0) [] := Blk.own (n := 0) (size := 3) (Blk.new W 42 #[]) hB rfl (by unfold maxLen; omega)
theorem Own.below {W W' : World} {B : Nat} {v : Value} {l : List Rec} (h : Own W B v l) (hb : Below W.heap.size W W') : Own W' B v l := own_below h hb
/-- append of one record whose cells the last new block holds -/
theorem wpl_app {ops : Array Oper} {rest : List Oper} {o : Oper} {a : Act} {Q : Exit → Act → World → Prop} {w W : World} (hgd : o.guard = none) (s x : Operand)
    (ho : o.op = .call { callee := .builtin .append, args := #[s, x], argTypes := #[25, 25] })
    (v : Value) (l : List Rec) (r : Rec) (hs : a.eval s = v) (hown : Own W w.heap.size v l) (hx : a.eval x = .slice (some ⟨W.heap.size, 0, none⟩) 1 1) (hl : l.length ≤ 1000000) (hb : Below w.heap.size w W)
    (h : ∀ v' w', Own w' w.heap.size v' (l ++ [r]) → Below w.heap.size w w' → wpList Tryd.prog ops Q rest (a.put o.dst v') w') :
    wpList Tryd.prog ops Q (o :: rest) a (W.alloc (.cells #[.int .u32 (r.a : Int), .int .i64 (r.s : Int), .string (ofL r.d)] 42)) := by
  obtain ⟨i0, hi, hz0, hz1, hz2⟩ := info_parts'
  have HO := Lib.hid (Own.alloc hown (.cells (rc r).toArray 42))
  have HB := hb.alloc hb.size (.cells (rc r).toArray 42)
  exact wpl_append_sl _ hgd s x _ ho w.heap.size 42 i0 (.agg #[.int .u32 0, .int .i64 0, .string ⟨#[]⟩]) 3 32 Tryd.underlying25 hi hz0 hz1 hz2 rfl (by decide) v l.length (rvs l) hs HO.out (some ⟨W.heap.size, 0, none⟩) 1 1 (rvs [r]) hx (one_sl r (Blk.new W 42 (rc r).toArray)) (rvs_one _) (by unfold maxLen; omega) (by omega) HB.size
    (fun v' w' h1 h2 _ => h v' w' (by unfold Own; rw [rvs_app, List.length_append]; exact h1) (HB.grown h2 HB.size (fun j e => (HO.out.lt j e).1)))
theorem flt_snoc {l : List Rec} {k : Nat} (h : k < l.length) (p : Rec → Bool) : (l.take (k + 1)).filter p = (l.take k).filter p ++ if p l[k] then [l[k]] else [] := by
  rw [List.take_succ_eq_append_getElem h, List.filter_append]
  cases e : p l[k] <;> simp [e]
theorem flt_len (l : List Rec) (k : Nat) (p : Rec → Bool) : ((l.take k).filter p).length ≤ l.length := Nat.le_trans (List.length_filter_le _ _) (by rw [List.length_take]; omega)
theorem tnil (t : ByteArray) : (t.toList == (⟨#[]⟩ : ByteArray).toList) = (bl t == []) := by
  rw [Lib.toList_data, Lib.toList_data]
  rfl

theorem tnil_yes {t : ByteArray} (h : bl t = []) : t.toList = [] := by rw [Lib.toList_data]; exact h
theorem tnil_no {t : ByteArray} (h : bl t ≠ []) : ¬ t.toList = [] := by rw [Lib.toList_data]; exact h

set_option maxRecDepth 100000 in
set_option maxHeartbeats 2000000 in
theorem within_f (l : List Rec) (hv : ∀ x ∈ l, Val x) (f t : ByteArray) (w : World) (ht : Bk.Tab w) (A : Option Addr) (c : Nat) (h : Rcs w A c l) (hl : l.length ≤ 100000) :
    Calls Tryd.prog 35 #[.slice A l.length c, .string f, .string t] w (OwnPost w (inn l (bl f) (bl t))) := by
  have HR := Lib.hid (fun W (hb : Below w.heap.size w W) => h.below hb)
  have HK := Lib.hid (fun k (hk : k < l.length) W (hb : Below w.heap.size w W) => key_f l[k] (hv _ (List.getElem_mem hk)) W (ht.bel hb))
  unfold inn
  obtain ⟨p, hp⟩ : ∃ p : Rec → Bool, p = fun x => inR (bl f) (bl t) (key x) := ⟨_, rfl⟩
  have HP := Lib.hid (fun x => congrFun hp x)
  rw [← hp]
  have HF := Lib.hid (fun k (hk : k < l.length) => flt_snoc hk p)
  have HFL := Lib.hid (fun k => flt_len l k p)
  have HFE := Lib.hid (show l.filter p = (l.take l.length).filter p by rw [List.take_length])
  have HHI := Lib.hid (fun (r : Rec) => less_eq (key r) f)
  have HHT := Lib.hid (fun (r : Rec) => less_eq (key r) t)
  have HTN := Lib.hid (tnil t)
  have hcm : c ≤ 9223372036854775807 := h.max
  have hlc := h.le
  obtain ⟨n, hn⟩ : ∃ n, n = l.length := ⟨_, rfl⟩
  have HN := Lib.hid hn
  rw [← hn] at hl hlc HFL HFE ⊢
  clear hp hn hv ht h
  go_enter Tryd.func35, Tryd.ntmps35
  go_wp2_with fail
  go_loopw [7, 13] (fun y x W => ∃ k : Nat, k ≤ n ∧ x = .int .i64 (k : Int) ∧ Hid (Own W w.heap.size y ((l.take k).filter p)) ∧ Hid (Below w.heap.size w W)) (fun _ x _ => n - (intOf x).toNat)
  case atStart => exact ⟨0, Nat.zero_le _, rfl, Lib.hid (own_nil _ _), Lib.hid (Below.refl _ _)⟩
  case round =>
    obtain ⟨k, hk, rfl, HO, HB⟩ := hrel
    by_cases hkn : k < n
    · have hkl : k < l.length := by rw [← HN.out]; exact hkn
      obtain ⟨g, o, rfl, hat⟩ := (HR.out _ HB.out).mem (by omega)
      obtain ⟨c0, c1, c2⟩ := hat.2 k hkl
      have HK1 := Lib.hid (HK.out k hkl)
      have HF1 := Lib.hid (HF.out k hkl)
      obtain ⟨r, hr⟩ : ∃ r, l[k] = r := ⟨_, rfl⟩
      rw [hr] at c0 c1 c2 HK1 HF1
      clear hat hr
      have HL1 := Lib.hid (HFL.out k)
      have hp1 := HP.out r
      have hb1 := HHI.out r
      have hb2 := HHT.out r
      have hb3 := HTN.out
      unfold rv at HK1
      by_cases q1 : key r < bl f
      · rw [decide_eq_true q1] at hb1
        have hpf : p r = false := by rw [hp1]; simp [inR, q1]
        clear hp1 q1 hb2 hb3
        rw [hpf, if_neg (by simp), List.append_nil] at HF1
        clear hpf
        go_wp2_with fail
        refine (HK1.out _ (HB.out.alloc HB.out.size _)).mono ?_
        rintro e w2 ⟨rfl, hb⟩
        have HC2 := Lib.hid ((Blk.new wr 42 (rc r).toArray).below hb)
        have HB2 := Lib.hid ((HB.out.alloc HB.out.size _).trans (hb.mono (HB.out.alloc HB.out.size _).size))
        have HO2 := Lib.hid (Own.below (Own.alloc HO.out _) hb)
        clear hb c0 c1 c2
        have c0 : w2.cell? ⟨wr.heap.size, 0, none⟩ = some (.int .u32 (r.a : Int)) := HC2.out.cell 0
        have c1 : w2.cell? ⟨wr.heap.size, 1, none⟩ = some (.int .i64 (r.s : Int)) := HC2.out.cell 1
        have c2 : w2.cell? ⟨wr.heap.size, 2, none⟩ = some (.string (ofL r.d)) := HC2.out.cell 2
        go_wp2_with fail
        go_roundw
        case rel => exact ⟨k + 1, by omega, by go_num, by rw [HF1.out]; exact HO2, HB2⟩
        case measure => simp [intOf]; omega
      · rw [decide_eq_false q1] at hb1
        by_cases q2 : bl t = []
        · have hb4 : (bl t == []) = true := by rw [q2]; rfl
          clear hb3
          have hb3 : t.toList = [] := tnil_yes q2
          have hb5 : t.toList.isEmpty = true := by rw [hb3]; rfl
          have hpf : p r = true := by rw [hp1]; simp [inR, q1, q2]
          clear hp1 q1 hb2 q2 hb4
          rw [hpf, if_pos rfl] at HF1
          clear hpf
          go_wp2_with fail
          refine (HK1.out _ (HB.out.alloc HB.out.size _)).mono ?_
          rintro e w2 ⟨rfl, hb⟩
          have HC2 := Lib.hid ((Blk.new wr 42 (rc r).toArray).below hb)
          have HB2 := Lib.hid ((HB.out.alloc HB.out.size _).trans (hb.mono (HB.out.alloc HB.out.size _).size))
          have HO2 := Lib.hid (Own.below (Own.alloc HO.out _) hb)
          clear hb c0 c1 c2
          have c0 : w2.cell? ⟨wr.heap.size, 0, none⟩ = some (.int .u32 (r.a : Int)) := HC2.out.cell 0
          have c1 : w2.cell? ⟨wr.heap.size, 1, none⟩ = some (.int .i64 (r.s : Int)) := HC2.out.cell 1
          have c2 : w2.cell? ⟨wr.heap.size, 2, none⟩ = some (.string (ofL r.d)) := HC2.out.cell 2
          go_wp2_with (at_builtin; refine wpl_app rfl _ _ rfl _ ((l.take k).filter p) r rfl HO2.out rfl (by have := HL1.out; omega) HB2.out ?_; intro v' w8 hown hb8)
          have HO9 := Lib.hid hown
          have HB9 := Lib.hid hb8
          clear hown hb8
          go_wp2_with fail
          go_roundw
          case rel => exact ⟨k + 1, by omega, by go_num, by rw [HF1.out]; exact HO9, HB9⟩
          case measure => simp [intOf]; omega
        · have hb4 : (bl t == []) = false := by rw [beq_eq_false_iff_ne]; exact q2
          clear hb3
          have hb3 : ¬ t.toList = [] := tnil_no q2
          have hb5 : t.toList.isEmpty = false := by cases e : t.toList with | nil => exact absurd e hb3 | cons _ _ => rfl
          by_cases q3 : key r < bl t
          · rw [decide_eq_true q3] at hb2
            have hpf : p r = true := by rw [hp1]; simp [inR, q1, q3]
            clear hp1 q1 q2 q3 hb4
            rw [hpf, if_pos rfl] at HF1
            clear hpf
            go_wp2_with fail
            refine (HK1.out _ (HB.out.alloc HB.out.size _)).mono ?_
            rintro e w2 ⟨rfl, hb⟩
            have HC2 := Lib.hid ((Blk.new wr 42 (rc r).toArray).below hb)
            have HB2 := Lib.hid ((HB.out.alloc HB.out.size _).trans (hb.mono (HB.out.alloc HB.out.size _).size))
            have HO2 := Lib.hid (Own.below (Own.alloc HO.out _) hb)
            clear hb c0 c1 c2
            have c0 : w2.cell? ⟨wr.heap.size, 0, none⟩ = some (.int .u32 (r.a : Int)) := HC2.out.cell 0
            have c1 : w2.cell? ⟨wr.heap.size, 1, none⟩ = some (.int .i64 (r.s : Int)) := HC2.out.cell 1
            have c2 : w2.cell? ⟨wr.heap.size, 2, none⟩ = some (.string (ofL r.d)) := HC2.out.cell 2
            go_wp2_with (at_builtin; refine wpl_app rfl _ _ rfl _ ((l.take k).filter p) r rfl HO2.out rfl (by have := HL1.out; omega) HB2.out ?_; intro v' w8 hown hb8)
            have HO9 := Lib.hid hown
            have HB9 := Lib.hid hb8
            clear hown hb8
            go_wp2_with fail
            go_roundw
            case rel => exact ⟨k + 1, by omega, by go_num, by rw [HF1.out]; exact HO9, HB9⟩
            case measure => simp [intOf]; omega
          · rw [decide_eq_false q3] at hb2
            have hpf : p r = false := by rw [hp1]; simp [inR, q1, q2, q3]
            clear hp1 q1 q2 q3 hb4
            rw [hpf, if_neg (by simp), List.append_nil] at HF1
            clear hpf
            go_wp2_with fail
            refine (HK1.out _ (HB.out.alloc HB.out.size _)).mono ?_
            rintro e w2 ⟨rfl, hb⟩
            have HC2 := Lib.hid ((Blk.new wr 42 (rc r).toArray).below hb)
            have HB2 := Lib.hid ((HB.out.alloc HB.out.size _).trans (hb.mono (HB.out.alloc HB.out.size _).size))
            have HO2 := Lib.hid (Own.below (Own.alloc HO.out _) hb)
            clear hb c0 c1 c2
            have c0 : w2.cell? ⟨wr.heap.size, 0, none⟩ = some (.int .u32 (r.a : Int)) := HC2.out.cell 0
            have c1 : w2.cell? ⟨wr.heap.size, 1, none⟩ = some (.int .i64 (r.s : Int)) := HC2.out.cell 1
            have c2 : w2.cell? ⟨wr.heap.size, 2, none⟩ = some (.string (ofL r.d)) := HC2.out.cell 2
            go_wp2_with fail
            go_roundw
            case rel => exact ⟨k + 1, by omega, by go_num, by rw [HF1.out]; exact HO2, HB2⟩
            case measure => simp [intOf]; omega
    · have hk' : k = n := by omega
      subst hk'
      go_wp2_with fail
      go_ret
      exact ⟨_, rfl, by rw [HFE.out]; exact HO.out, HB.out⟩
end Rc
end Go.Proofs.YtnllocghmnhooaaDoor
