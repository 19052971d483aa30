/- The law WotsDeterministic of stelelaw29 returns true for every input in a world that holds the table of the powers of ten. -/
import Derived.Test.YtlfpppffjedngaaDoorCj
namespace Go.Proofs.YtlfpppffjedngaaDoor
namespace WotsDeterministic
open Go.RowKit Bk

set_option maxRecDepth 100000 in
set_option maxHeartbeats 2000000 in
theorem core (w : World) (ht : Tab w) (a b : ByteArray) (ha : a.size ≤ 140737488355328) (hb : b.size ≤ 140737488355328) (m n : Nat) (hm : m < 256) (hn : n < 256) :
    Calls Tryd.prog 8 #[.string a, .string b, .agg #[.int .u8 (m : Int), .int .u8 (n : Int)]] w fun e w' => e = .returned (.bool true) ∧ Below w.heap.size w w' := by
  have HT := Lib.hid ht
  clear ht
  go_enter Tryd.func8, Tryd.ntmps8
  go_wp2_with fail
  have HK0 := Lib.hid (Blk.new w 39 #[.int .u8 (m : Int), .int .u8 (n : Int)])
  have HB0 := Lib.hid ((Below.refl w.heap.size w).alloc (Nat.le_refl _) (.cells #[.int .u8 (m : Int), .int .u8 (n : Int)] 39))
  have HT0 := Lib.hid (HT.out.alloc (.cells #[.int .u8 (m : Int), .int .u8 (n : Int)] 39))
  obtain ⟨w0, hw0⟩ : ∃ w0, w0 = w.alloc (.cells #[.int .u8 (m : Int), .int .u8 (n : Int)] 39) := ⟨_, rfl⟩
  rw [← hw0] at HK0 HB0 HT0 ⊢
  clear hw0
  refine (alive_f w0 HT0.out).mono ?_
  rintro e w1 ⟨rfl, hb1⟩
  have HB1 := Lib.hid (HB0.out.trans (hb1.mono HB0.out.size))
  have HK1 := Lib.hid (HK0.out.below hb1)
  clear hb1
  by_cases hl : 200 < a.size + b.size
  · go_wp2_with fail
    go_ret
    exact ⟨rfl, HB1.out⟩
  have HP := Lib.hid (fun V (hV : Tab V) => pub_f V hV a (by omega) (m : Int) (by omega) (by omega))
  have HQ := Lib.hid (fun V (hV : Tab V) => pub_f V hV b (by omega) (n : Int) (by omega) (by omega))
  have HRP := Lib.hid (fun V => rpub_f V a (by omega) (m : Int) (by omega) (by omega))
  have HRQ := Lib.hid (fun V => rpub_f V b (by omega) (n : Int) (by omega) (by omega))
  have HPQ := Lib.hid (show a = b → m = n → ofL (pubK (bl a) (m : Int)) = ofL (pubK (bl b) (n : Int)) from fun h1 h2 => by rw [h1, h2])
  obtain ⟨p, hp⟩ : ∃ p, p = ofL (pubK (bl a) (m : Int)) := ⟨_, rfl⟩
  obtain ⟨q, hq⟩ : ∃ q, q = ofL (pubK (bl b) (n : Int)) := ⟨_, rfl⟩
  rw [← hp] at HP HRP HPQ
  rw [← hq] at HQ HRQ HPQ
  clear hp hq
  have e0 := HK1.out.cell 0
  have e1 := HK1.out.cell 1
  simp only [List.getElem?_toArray, List.getElem?_cons_zero, List.getElem?_cons_succ] at e0 e1
  have hpp := tl_eq p
  have hqq := tl_eq q
  have haa := tl_eq a
  go_wp2_with fail
  go_quiet (fail)
  have HB2 := Lib.hid (below_drewN HB1.out nq)
  clear HB1 e0 e1
  generalize w1.drewN nq = w2 at *
  go_wp2_with fail
  refine (HP.out w2 (HT.out.bel HB2.out)).mono ?_
  rintro e w3 ⟨rfl, hb3⟩
  have HB3 := Lib.hid (HB2.out.trans (hb3.mono HB2.out.size))
  clear hb3
  go_wp2_with fail
  refine (HQ.out w3 (HT.out.bel HB3.out)).mono ?_
  rintro e w4 ⟨rfl, hb4⟩
  have HB4 := Lib.hid (HB3.out.trans (hb4.mono HB3.out.size))
  clear hb4
  by_cases hab : a = b
  · by_cases hmn : m = n
    · have HE := Lib.hid (HPQ.out hab hmn)
      rw [← HE.out]
      subst hab
      subst hmn
      have hmm : ((m : Int) == (m : Int)) = true := by simp
      go_wp2_with fail
      refine (HP.out w4 (HT.out.bel HB4.out)).mono ?_
      rintro e w5 ⟨rfl, hb5⟩
      have HB5 := Lib.hid (HB4.out.trans (hb5.mono HB4.out.size))
      clear hb5
      go_wp2_with fail
      go_ret
      exact ⟨rfl, HB5.out⟩
    · have hmm : ((m : Int) == (n : Int)) = false := by
        rw [beq_eq_false_iff_ne]
        omega
      subst hab
      clear hmn
      by_cases hpq : p = q
      · rw [hpq] at HRP ⊢
        have hnn : (q.toList != q.toList) = false := by simp
        clear hpq
        go_wp2_with fail
        refine (HRP.out w4).mono ?_
        rintro e w5 ⟨rfl, hb5⟩
        have HB5 := Lib.hid (HB4.out.trans (hb5.mono HB4.out.size))
        clear hb5
        go_wp2_with fail
        refine (HRQ.out w5).mono ?_
        rintro e w6 ⟨rfl, hb6⟩
        have HB6 := Lib.hid (HB5.out.trans (hb6.mono HB5.out.size))
        clear hb6
        go_wp2_with fail
        go_ret
        exact ⟨rfl, HB6.out⟩
      · have hn1 := tl_ne hpq
        have hn2 : (p.toList != q.toList) = true := by rw [bne, hn1]; rfl
        clear hpq
        go_wp2_with fail
        go_ret
        exact ⟨rfl, HB4.out⟩
  · have hab' := tl_ne hab
    clear hab
    by_cases hpq : p = q
    · rw [hpq] at HRP ⊢
      have hnn : (q.toList != q.toList) = false := by simp
      clear hpq
      go_wp2_with fail
      refine (HRP.out w4).mono ?_
      rintro e w5 ⟨rfl, hb5⟩
      have HB5 := Lib.hid (HB4.out.trans (hb5.mono HB4.out.size))
      clear hb5
      go_wp2_with fail
      refine (HRQ.out w5).mono ?_
      rintro e w6 ⟨rfl, hb6⟩
      have HB6 := Lib.hid (HB5.out.trans (hb6.mono HB5.out.size))
      clear hb6
      go_wp2_with fail
      go_ret
      exact ⟨rfl, HB6.out⟩
    · have hn1 := tl_ne hpq
      have hn2 : (p.toList != q.toList) = true := by rw [bne, hn1]; rfl
      clear hpq
      go_wp2_with fail
      go_ret
      exact ⟨rfl, HB4.out⟩

end WotsDeterministic
end Go.Proofs.YtlfpppffjedngaaDoor
