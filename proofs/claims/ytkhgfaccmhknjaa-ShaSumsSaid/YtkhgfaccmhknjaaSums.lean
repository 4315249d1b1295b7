/- The contract of ShaSums: at whatever bytes, of a length within a slice's own bound. -/
import Derived.Test.YtkhgfaccmhknjaaSumRef
import Derived.Test.YtkhgfaccmhknjaaLive
import Derived.Test.YtkhgfaccmhknjaaEqHash
namespace Go.Proofs.Ytkhgfaccmhknjaa
open Go.RowKit

set_option maxRecDepth 100000 in
set_option maxHeartbeats 1000000 in
theorem sums_any (w : World) (v : Value) (l : List UInt8) (hv : RdB w v l) (hl : l.length ≤ 140737488355200) :
    Calls Try.prog 3 #[v] w fun e w' => e = .returned (.bool true) ∧ Below w.heap.size w w' := by
  have HV := Lib.hid hv
  clear hv
  go_enter Try.func3, Try.ntmps3
  go_wp2_with fail
  refine (copy_any w v l HV.out (by omega)).mono ?_
  rintro e w1 ⟨r, rfl, hown, hb1⟩
  have HR := Lib.hid (RdV_of_owns hown); have HB1 := Lib.hid hb1
  clear hown hb1
  go_wp2_with fail
  refine (live_any w1).mono ?_
  rintro e w2 ⟨rfl, hb2⟩
  have HB2 := Lib.hid (HB1.out.trans (hb2.mono HB1.out.size))
  have R2 := Lib.hid (RdV.below HR.out hb2)
  clear hb2 HB1 HR
  go_wp2_with fail
  refine (sum_any w2 r l R2.out (by omega)).mono ?_
  rintro e w3 ⟨rfl, hb3⟩
  have HB3 := Lib.hid (HB2.out.trans (hb3.mono HB2.out.size))
  have R3 := Lib.hid (RdV.below R2.out hb3)
  clear hb3 HB2 R2
  go_wp2_with fail
  refine (sumref_any w3 v l (RdV.below HV.out HB3.out) (by omega)).mono ?_
  rintro e w4 ⟨rfl, hb4⟩
  have HB4 := Lib.hid (HB3.out.trans (hb4.mono HB3.out.size))
  have R4 := Lib.hid (RdV.below R3.out hb4)
  have V4 := Lib.hid (RdV.below HV.out HB4.out)
  clear hb4 HB3 R3 HV
  have hdl := sha_len l
  generalize sha l = d at *
  have eqd : ∀ w, (Op.equalIn 10000 26 (.agg (aB d)) (.agg (aB d))).run Try.prog w = .ok true w := fun w => by rw [run_equalIn_hash w _ _ hdl hdl]; simp
  clear hdl
  go_wp2_with fail
  refine (crc_any w4 r l R4.out (by omega)).mono ?_
  rintro e w' ⟨rfl, rfl⟩
  go_wp2_with fail
  refine (crcRef_any w4 v l V4.out (by omega)).mono ?_
  rintro e w' ⟨rfl, rfl⟩
  go_wp2_with fail
  refine (same_any w4 r v l l R4.out V4.out (by omega) (by omega)).mono ?_
  rintro e w' ⟨rfl, n, rfl⟩
  rw [show decide (l = l) = true from decide_eq_true rfl]
  go_wp2
  go_ret
  exact ⟨rfl, ⟨HB4.out.os, HB4.out.tape, HB4.out.output, HB4.out.size, HB4.out.block⟩⟩
end Go.Proofs.Ytkhgfaccmhknjaa
