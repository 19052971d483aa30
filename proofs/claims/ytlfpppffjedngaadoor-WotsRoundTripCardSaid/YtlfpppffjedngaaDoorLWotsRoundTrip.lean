/- The law WotsRoundTrip of stelelaw29 returns true for every input in a world that holds the table of the powers of ten. -/
import Derived.Test.YtlfpppffjedngaaDoorBo
namespace Go.Proofs.YtlfpppffjedngaaDoor
namespace WotsRoundTrip
open Go.RowKit Bk

set_option maxRecDepth 100000 in
set_option maxHeartbeats 1000000 in
theorem core (w : World) (ht : Tab w) (seed msg : ByteArray) (hs : seed.size ≤ 140737488355328) (hm : msg.size ≤ 140737488355328) (key : Nat) (hk : key < 65536) :
    Calls Tryd.prog 5 #[.string seed, .string msg, .int .u16 (key : Int)] w fun e w' => e = .returned (.bool true) ∧ Below w.heap.size w w' := by
  have HT := Lib.hid ht
  clear ht
  go_enter Tryd.func5, Tryd.ntmps5
  go_wp2_with fail
  refine (alive_f w HT.out).mono ?_
  rintro e w1 ⟨rfl, hb1⟩
  have HB1 := Lib.hid hb1
  clear hb1
  by_cases hl : 500 < seed.size + msg.size
  · go_wp2_with fail
    go_ret
    exact ⟨rfl, HB1.out⟩
  have HS := Lib.hid (fun V (hV : Tab V) => sign_f V hV seed (by omega) (key : Int) (by omega) (by omega) msg (by omega))
  obtain ⟨s, hs1⟩ : ∃ s, s = ofL (sigK (bl seed) (key : Int) (bl msg)) := ⟨_, rfl⟩
  obtain ⟨p, hp⟩ : ∃ p, p = ofL (pubK (bl seed) (key : Int)) := ⟨_, rfl⟩
  have hsz : s.size = 560 := by rw [hs1, ofL_size, sigK_len (by omega)]
  rw [← hs1] at HS
  have HR := Lib.hid (fun V (hV : Tab V) => rec_f V hV msg (by omega) s (by omega))
  rw [show ofL (recP (bl msg) (bl s)) = p by rw [hs1, bl_ofL, rec_sig (by omega), hp], show recE (bl s) = 0 by rw [hs1, bl_ofL, recE_sig (by omega)]] at HR
  have HP := Lib.hid (fun V (hV : Tab V) => pub_f V hV seed (by omega) (key : Int) (by omega) (by omega))
  rw [← hp] at HP
  have hpp : (p.toList == p.toList) = true := by simp
  clear hs1 hp
  go_wp2_with fail
  refine (HS.out w1 (HT.out.bel HB1.out)).mono ?_
  rintro e w2 ⟨rfl, hb2⟩
  have HB2 := Lib.hid (HB1.out.trans (hb2.mono HB1.out.size))
  clear hb2 HB1
  go_wp2_with fail
  refine (HR.out w2 (HT.out.bel HB2.out)).mono ?_
  rintro e w3 ⟨rfl, hb3⟩
  have HB3 := Lib.hid (HB2.out.trans (hb3.mono HB2.out.size))
  clear hb3 HB2
  go_wp2_with fail
  refine (HP.out w3 (HT.out.bel HB3.out)).mono ?_
  rintro e w4 ⟨rfl, hb4⟩
  have HB4 := Lib.hid (HB3.out.trans (hb4.mono HB3.out.size))
  clear hb4 HB3
  go_wp2_with fail
  go_ret
  exact ⟨rfl, HB4.out⟩

end WotsRoundTrip
end Go.Proofs.YtlfpppffjedngaaDoor
