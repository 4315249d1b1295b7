/- The contract of bytes.Clone; what is read of a header. -/
import Derived.Test.YtikhdbdbdldbaaaDoorRead
import Derived.Lib.SliceRun
namespace Go.Proofs.YtikhdbdbdldbaaaDoor
open Go.RowKit

theorem readL_some {h : List UInt8} {e : EntD} {n : Nat} (hr : readL h = some (e, n)) : e.data = [] ∧ n ≤ 70656 ∧ (n = 0 ∨ e.kind = 1) ∧ rightL e = 0 := by
  unfold readL at hr
  split at hr; · cases hr
  split at hr; · cases hr
  split at hr; · cases hr
  unfold read1 at hr
  split at hr; · cases hr
  split at hr; · cases hr
  unfold read2 at hr
  split at hr; · cases hr
  unfold read3 at hr
  split at hr; · cases hr
  split at hr; · cases hr
  rename_i hn
  unfold read4 at hr
  split at hr; · cases hr
  split at hr; · cases hr
  unfold read5 at hr
  split at hr; · cases hr
  unfold read6 at hr
  split at hr; · cases hr
  unfold read7 at hr
  simp only at hr
  split at hr
  · rename_i h7
    simp only [Option.some.injEq, Prod.mk.injEq] at hr
    obtain ⟨rfl, rfl⟩ := hr
    exact ⟨rfl, by omega, h7.2, h7.1⟩
  · cases hr
set_option maxRecDepth 100000 in
set_option maxHeartbeats 1000000 in
theorem clone_any (w : World) (a : Addr) (n c : Nat) (l : List UInt8) (hv : RdB w (.slice (some a) n c) l) (hl : l.length ≤ 140737488355328) (hne : l ≠ []) :
    Calls Tryd.prog 47 #[.slice (some a) n c] w fun e w' => ∃ r, e = .returned r ∧ OwnB w' w.heap.size r l ∧ Below w.heap.size w w' ∧ (∃ a' n' c', r = .slice a' n' c') := by
  have HV := Lib.hid (RdV.below hv ((Below.refl w.heap.size w).alloc (Nat.le_refl _) (.cells #[] 5)))
  have HO := Lib.hid (show OwnB (w.alloc (.cells #[] 5)) w.heap.size (.slice (some ⟨w.heap.size, 0, none⟩) 0 0) [] from own_new w w.heap.size (Nat.le_refl _) [] #[] rfl 0 rfl (by decide))
  have HB := Lib.hid ((Below.refl w.heap.size w).alloc (Nat.le_refl _) (.cells #[] 5))
  have q22 : ∀ (w : World) (a : Option Addr) (n c n' c' : Nat), (binOp .eql 23 (.slice a n c) (.slice none n' c')).run Tryd.prog w = .ok (.bool a.isNone) w := fun w a n c n' c' => Lib.run_eql_slice_nil w _ _ a n c n' c' Tryd.underlying23
  clear hv
  go_enter Tryd.func47, Tryd.ntmps47
  go_wp2_with (refine wpList_out rfl (.tmp 5) (.tmp 6) rfl w.heap.size (.slice (some ⟨w.heap.size, 0, none⟩) 0 0) [] rfl (.inl HO.out) (.slice (some a) n c) l rfl HV.out hne (by simpa using hl) HB.out.size ?_; intro v' w' hown hb _; (have HO2 := Lib.hid hown); (have HB2 := Lib.hid (HB.out.trans hb)); clear hown hb)
  refine bodyPost_ret (v := v') (by simp [results, Tryd.results47, go_sem]) rfl ⟨v', rfl, ?_, HB2.out, ?_⟩
  · have := HO2.out; simpa using this
  · rcases HO2.out.2 with ⟨rfl, _⟩ | ⟨g, cap, cur, rfl, _⟩
    · exact ⟨_, _, _, rfl⟩
    · exact ⟨_, _, _, rfl⟩
end Go.Proofs.YtikhdbdbdldbaaaDoor
