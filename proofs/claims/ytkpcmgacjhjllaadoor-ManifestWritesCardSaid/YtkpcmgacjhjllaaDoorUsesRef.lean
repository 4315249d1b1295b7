/- The contract of the reference's Uses, at whatever manifest and digest. -/
import Derived.Test.YtkpcmgacjhjllaaDoorUses
namespace Go.Proofs.YtkpcmgacjhjllaaDoor
open Go.RowKit

set_option maxRecDepth 100000 in
set_option maxHeartbeats 2000000 in
theorem usesref_any (w : World) (o a : ByteArray) (lv : Value) (hs : List (List UInt8)) (h : List UInt8) (hh : h.length = 32) (hr : RdHs w lv hs) :
    Calls Tryd.prog 22 #[mV o a lv, .agg (h.map vB).toArray] w fun e w' => e = .returned (.int .i64 (hs.count h : Nat)) ∧ Below w.heap.size w w' := by
  obtain ⟨la, c, rfl⟩ := hr.slice
  have hle := hr.le
  have HR := Lib.hid hr; have HH := Lib.hid hh
  have M := Lib.hid (hbox_new w o a (.slice la hs.length c) h)
  clear hr hh
  unfold mV
  go_enter Tryd.func22, Tryd.ntmps22
  go_wp2_with fail
  revert M
  generalize (w.alloc (.cells #[.string o, .string a, .slice la hs.length c] 24)).alloc (.cells (h.map vB).toArray 33) = w1
  intro M
  go_loopw [6, 5] (fun i n wr => ∃ k : Nat, k ≤ hs.length ∧ i = .int .i64 k ∧ n = .int .i64 ((hs.take k).count h : Nat) ∧ HBox w wr o a (.slice la hs.length c) h) (fun i _ _ => hs.length - (intOf i).toNat)
  case atStart => exact ⟨0, by omega, rfl, by simp, M.out⟩
  case round =>
    obtain ⟨k, hk, rfl, rfl, M'⟩ := hrel
    have HM := Lib.hid M'
    clear M' M
    have c2 := HM.out.c2
    by_cases hlk : k < hs.length
    · have hlkz : (k : Int) < hs.length := by omega
      have hx : hs[k]? = some hs[k] := List.getElem?_eq_getElem hlk
      obtain ⟨b, off, rfl, _, hnc, hrg, hxl⟩ := (HR.out.below HM.out.below).at k _ hx
      have hct := count_succ hlk h
      have hcl : (hs.take k).count h ≤ k := Nat.le_trans List.count_le_length (by rw [List.length_take]; omega)
      generalize (hs.take k).count h = n at *
      have HXL := Lib.hid hxl; have HRG := Lib.hid hrg
      have eqx : ∀ w, (Op.equalIn 10000 33 (.agg (hs[k].map vB).toArray) (.agg (h.map vB).toArray)).run Tryd.prog w = .ok (decide (hs[k] = h)) w := fun w => run_equalIn_hsh w _ _ hxl HH.out
      generalize hs[k] = x at *
      clear hx hxl hrg
      have hrh : wr.rangeAt (w.heap.size + 1) 0 (h.map vB) := row_range HM.out.rowh
      have HRH := Lib.hid hrh
      clear hrh
      by_cases e : x = h
      · have eq' : ∀ w, (Op.equalIn 10000 33 (.agg (x.map vB).toArray) (.agg (h.map vB).toArray)).run Tryd.prog w = .ok true w := fun w => by rw [eqx w, decide_eq_true e]
        rw [if_pos e] at hct
        have HCT := Lib.hid hct
        clear eqx e hct
        go_wp2
        refine wp_region_quiet_lit (by kernel_rfl) (by kernel_rfl) ?_
        iterate 4 quiet_step (fail)
        refine wpQuiet_loadAt _ _ b (off + k * 32) _ (load_hash_drew HRG.out HXL.out) (by kernel_rfl) rfl rfl ?_
        refine wpQuiet_loadAt _ _ (w.heap.size + 1) 0 _ (load_hash_drew HRH.out HH.out) (by kernel_rfl) rfl rfl ?_
        repeat (quiet_step (fail))
        refine wpQuiet_nil ?_
        intro w' hw'
        obtain ⟨nq, rfl⟩ := hw'
        have M1 := Lib.hid (HM.out.drew nq)
        clear HM c2 HRG HXL eq' HRH
        go_wp2
        exact ⟨⟨k + 1, by omega, by go_num, by rw [HCT.out]; go_num, M1.out⟩, by simp [intOf]; omega⟩
      · have eq' : ∀ w, (Op.equalIn 10000 33 (.agg (x.map vB).toArray) (.agg (h.map vB).toArray)).run Tryd.prog w = .ok false w := fun w => by rw [eqx w, decide_eq_false e]
        rw [if_neg e, Nat.add_zero] at hct
        have HCT := Lib.hid hct
        clear eqx e hct
        go_wp2
        refine wp_region_quiet_lit (by kernel_rfl) (by kernel_rfl) ?_
        iterate 4 quiet_step (fail)
        refine wpQuiet_loadAt _ _ b (off + k * 32) _ (load_hash_drew HRG.out HXL.out) (by kernel_rfl) rfl rfl ?_
        refine wpQuiet_loadAt _ _ (w.heap.size + 1) 0 _ (load_hash_drew HRH.out HH.out) (by kernel_rfl) rfl rfl ?_
        repeat (quiet_step (fail))
        refine wpQuiet_nil ?_
        intro w' hw'
        obtain ⟨nq, rfl⟩ := hw'
        have M1 := Lib.hid (HM.out.drew nq)
        clear HM c2 HRG HXL eq' HRH
        go_wp2
        exact ⟨⟨k + 1, by omega, by go_num, by rw [HCT.out, Nat.add_zero], M1.out⟩, by simp [intOf]; omega⟩
    · obtain rfl : k = hs.length := by omega
      rw [List.take_length]
      go_wp2
      go_ret
      exact ⟨rfl, HM.out.below⟩
end Go.Proofs.YtkpcmgacjhjllaaDoor
