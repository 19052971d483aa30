/- The law LayoutStripes of stelelaw16 returns true for every input, and each argument reads behind the call as it read before. No conditions. -/
import Derived.Test.YtogcgeiocndlbaaLj
namespace Go.Proofs.Ytogcgeiocndlbaa
namespace LayoutStripes
open Go.RowKit Ly

set_option maxRecDepth 100000 in
set_option maxHeartbeats 2000000 in
theorem core (w : World) (d t : Int) (s : ByteArray) (hs : s.size ≤ maxLen) :
    Calls Try.prog 3 #[.agg #[.int .i64 d, .int .i64 t], .string s] w fun e w' => e = .returned (.bool true) ∧ Below w.heap.size w w' := by
  have hs1 : s.size ≤ 9223372036854775807 := by unfold maxLen at hs; omega
  clear hs
  go_enter Try.func3, Try.ntmps3
  go_wp2_with fail
  refine (alive_f _).mono ?_
  rintro e w1 ⟨rfl, hb⟩
  have HL := Lib.hid ((Blk.new w 23 #[.int .i64 d, .int .i64 t]).below hb)
  have HB1 := Lib.hid (((Below.refl w.heap.size w).alloc (Nat.le_refl _) (.cells #[.int .i64 d, .int .i64 t] 23)).trans (hb.mono (by simp)))
  clear hb
  by_cases hbig : 600 < s.size
  · go_wp2_with fail
    go_ret
    exact ⟨rfl, HB1.out⟩
  have c0 := HL.out.cell 0
  have c1 := HL.out.cell 1
  simp only [List.getElem?_toArray, List.getElem?_cons_zero, List.getElem?_cons_succ] at c0 c1
  go_wp2_with fail
  refine (stripes_f d t s (by omega) _).mono ?_
  rintro e w2 ⟨v, vs, rfl, hown, hrows, hb2⟩
  obtain ⟨A, c, rfl, hrd⟩ := Rd.of (w' := w2) hown hrows
  have HR := Lib.hid hrd
  have HL2 := Lib.hid (HL.out.below hb2)
  have HB2 := Lib.hid (HB1.out.trans (hb2.mono HB1.out.size))
  clear hown hrows hb2 hrd c0 c1
  have c0 := HL2.out.cell 0
  have c1 := HL2.out.cell 1
  simp only [List.getElem?_toArray, List.getElem?_cons_zero, List.getElem?_cons_succ] at c0 c1
  go_wp2_with fail
  refine (rstripes_f d t s (by omega) _).mono ?_
  rintro e w3 ⟨v, vs, rfl, hown, hrows, hb3⟩
  obtain ⟨A', c', rfl, hrd'⟩ := Rd.of (w' := w3) hown hrows
  have HR' := Lib.hid hrd'
  have HR3 := Lib.hid (HR.out.below hb3)
  have HB3 := Lib.hid (HB2.out.trans (hb3.mono HB2.out.size))
  clear hown hrows hb3 hrd' c0 c1
  go_wp2_with fail
  refine (same_yes _ _ _ _ _ _ _ HR3.out HR'.out).mono ?_
  rintro e w4 ⟨rfl, hd⟩
  have HB4 := Lib.hid (HB3.out.trans (hd.below _))
  go_wp2_with fail
  go_ret
  exact ⟨rfl, HB4.out⟩

end LayoutStripes
end Go.Proofs.Ytogcgeiocndlbaa
