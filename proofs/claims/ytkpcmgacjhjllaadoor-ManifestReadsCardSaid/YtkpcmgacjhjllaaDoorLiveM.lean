/- The contract of the manifest laws' live. -/
import Derived.Test.YtkpcmgacjhjllaaDoorEncode
namespace Go.Proofs.YtkpcmgacjhjllaaDoor
open Go.RowKit

def linuxB : ByteArray := ⟨#[108, 105, 110, 117, 120]⟩
def armB : ByteArray := ⟨#[97, 114, 109]⟩
theorem live_right : rightOf linuxB.data.toList armB.data.toList ([] : List (List UInt8)).length = 0 := by decide +kernel
theorem live_enc : encOf linuxB armB [] = [68, 77, 1, 5, 108, 105, 110, 117, 120, 3, 97, 114, 109, 0] := by decide +kernel

set_option maxRecDepth 100000 in
set_option maxHeartbeats 1000000 in
theorem live_any (w : World) :
    Calls Tryd.prog 10 #[] w fun e w' => e = .returned (.bool true) ∧ Below w.heap.size w w' := by
  go_enter Tryd.func10, Tryd.ntmps10
  go_wp2_with fail
  refine (encode_any w linuxB armB (.slice none 0 0) [] (RdHs.nil w)).mono ?_
  rintro e w1 ⟨hb, h⟩
  rcases h with ⟨_, r, rfl, hown⟩ | ⟨h, _⟩
  · rw [live_enc] at hown
    have HB := Lib.hid hb
    have ht := run_text (RdV_of_owns hown)
    clear hb hown
    go_wp2
    go_ret
    exact ⟨rfl, HB.out⟩
  · exact absurd live_right h
end Go.Proofs.YtkpcmgacjhjllaaDoor
