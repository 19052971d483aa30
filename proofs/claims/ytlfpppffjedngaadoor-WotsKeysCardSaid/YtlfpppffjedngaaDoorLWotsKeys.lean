/- The law WotsKeys of stelelaw29 returns true for every input in a world that holds the table of the powers of ten. -/
import Derived.Test.YtlfpppffjedngaaDoorBo
import Derived.Test.YtlfpppffjedngaaDoorCi
namespace Go.Proofs.YtlfpppffjedngaaDoor
namespace WotsKeys
open Go.RowKit Bk

set_option maxRecDepth 100000 in
set_option maxHeartbeats 1000000 in
theorem core (w : World) (ht : Tab w) (seed msg : ByteArray) (hs : seed.size ≤ 140737488355328) (hm : msg.size ≤ 140737488355328) (key : Int) (hk0 : -9223372036854775808 ≤ key) (hk1 : key ≤ 9223372036854775807) :
    Calls Tryd.prog 3 #[.string seed, .string msg, .int .i64 key] w fun e w' => e = .returned (.bool true) ∧ Below w.heap.size w w' := by
  have HT := Lib.hid ht
  clear ht
  go_enter Tryd.func3, Tryd.ntmps3
  go_wp2_with fail
  refine (alive_f w HT.out).mono ?_
  rintro e w1 ⟨rfl, hb1⟩
  have HB1 := Lib.hid hb1
  clear hb1
  by_cases hl : 500 < seed.size + msg.size
  · go_wp2_with fail
    go_ret
    exact ⟨rfl, HB1.out⟩
  have HS := Lib.hid (fun V (hV : Tab V) => sign_f V hV seed (by omega) key hk0 hk1 msg (by omega))
  have HRS := Lib.hid (fun V => rsign_f V seed (by omega) key hk0 hk1 msg (by omega))
  have HP := Lib.hid (fun V (hV : Tab V) => pub_f V hV seed (by omega) key hk0 hk1)
  have HRP := Lib.hid (fun V => rpub_f V seed (by omega) key hk0 hk1)
  obtain ⟨s, hs1⟩ : ∃ s, s = ofL (sigK (bl seed) key (bl msg)) := ⟨_, rfl⟩
  obtain ⟨p, hp⟩ : ∃ p, p = ofL (pubK (bl seed) key) := ⟨_, rfl⟩
  rw [← hs1] at HS HRS
  rw [← hp] at HP HRP
  have hpp : (p.toList == p.toList) = true := by simp
  have hss : (s.toList == s.toList) = true := by simp
  clear hs1 hp
  go_wp2_with fail
  refine (HP.out w1 (HT.out.bel HB1.out)).mono ?_
  rintro e w2 ⟨rfl, hb2⟩
  have HB2 := Lib.hid (HB1.out.trans (hb2.mono HB1.out.size))
  clear hb2 HB1
  go_wp2_with fail
  refine (HRP.out w2).mono ?_
  rintro e w3 ⟨rfl, hb3⟩
  have HB3 := Lib.hid (HB2.out.trans (hb3.mono HB2.out.size))
  clear hb3 HB2
  go_wp2_with fail
  refine (HS.out w3 (HT.out.bel HB3.out)).mono ?_
  rintro e w4 ⟨rfl, hb4⟩
  have HB4 := Lib.hid (HB3.out.trans (hb4.mono HB3.out.size))
  clear hb4 HB3
  go_wp2_with fail
  refine (HRS.out w4).mono ?_
  rintro e w5 ⟨rfl, hb5⟩
  have HB5 := Lib.hid (HB4.out.trans (hb5.mono HB4.out.size))
  clear hb5 HB4
  go_wp2_with fail
  go_ret
  exact ⟨rfl, HB5.out⟩

end WotsKeys
end Go.Proofs.YtlfpppffjedngaaDoor
