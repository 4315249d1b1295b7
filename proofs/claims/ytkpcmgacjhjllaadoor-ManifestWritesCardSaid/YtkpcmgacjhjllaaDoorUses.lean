/- The contract of manifest.Uses, at whatever manifest and digest. -/
import Derived.Test.YtkpcmgacjhjllaaDoorRight
import Derived.Test.YtkpcmgacjhjllaaDoorEqH
namespace Go.Proofs.YtkpcmgacjhjllaaDoor
open Go.RowKit

/-- A manifest's box and a digest's behind what was there before. -/
structure HBox (w w1 : World) (o a : ByteArray) (v : Value) (h : List UInt8) : Prop where
  below : Below w.heap.size w w1
  row : w1.heap[w.heap.size]? = some (.cells #[.string o, .string a, v] 24 (0, 0))
  rowh : w1.heap[w.heap.size + 1]? = some (.cells (h.map vB).toArray 33 (0, 0))
section
variable {w w1 w2 : World} {o a : ByteArray} {v : Value} {h : List UInt8}
theorem HBox.lt (M : HBox w w1 o a v h) : w.heap.size + 1 < w1.heap.size := (Array.getElem?_eq_some_iff.1 M.rowh).1
theorem HBox.c2 (M : HBox w w1 o a v h) : w1.cell? ⟨w.heap.size, 2, none⟩ = some v := (cell_of_row w1 _ 2 _ _ _ M.row).trans rfl
theorem HBox.keep (M : HBox w w1 o a v h) (hb : Below w1.heap.size w1 w2) : HBox w w2 o a v h :=
  ⟨M.below.trans (hb.mono (by have := M.lt; omega)), (hb.block _ (by have := M.lt; omega)).trans M.row, (hb.block _ M.lt).trans M.rowh⟩
theorem HBox.drew (M : HBox w w1 o a v h) (n : Nat) : HBox w (w1.drewN n) o a v h := ⟨⟨M.below.os, M.below.tape, M.below.output, M.below.size, M.below.block⟩, M.row, M.rowh⟩
end
theorem hbox_new (w : World) (o a : ByteArray) (v : Value) (h : List UInt8) :
    HBox w ((w.alloc (.cells #[.string o, .string a, v] 24)).alloc (.cells (h.map vB).toArray 33)) o a v h := by
  have e : (w.alloc (.cells #[.string o, .string a, v] 24)).heap.size = w.heap.size + 1 := by simp
  have h2 := heap_alloc_new (w.alloc (.cells #[.string o, .string a, v] 24)) (.cells (h.map vB).toArray 33)
  rw [e] at h2
  refine ⟨((Below.refl _ _).alloc (Nat.le_refl _) _).alloc (by simp) _, ?_, h2⟩
  rw [heap_alloc_old _ _ (by rw [e]; omega)]
  exact heap_alloc_new w _
theorem count_succ {hs : List (List UInt8)} {k : Nat} (hk : k < hs.length) (h : List UInt8) : (hs.take (k + 1)).count h = (hs.take k).count h + if hs[k] = h then 1 else 0 := by
  rw [List.take_succ_eq_append_getElem hk, List.count_append, List.count_singleton]
  simp

set_option maxRecDepth 100000 in
set_option maxHeartbeats 2000000 in
theorem uses_any (w : World) (o a : ByteArray) (lv : Value) (hs : List (List UInt8)) (h : List UInt8) (hh : h.length = 32) (hr : RdHs w lv hs) :
    Calls Tryd.prog 13 #[mV o a lv, .agg (h.map vB).toArray] w fun e w' => e = .returned (.int .i64 (hs.count h : Nat)) ∧ Below w.heap.size w w' := by
  obtain ⟨la, c, rfl⟩ := hr.slice
  have hle := hr.le
  have HR := Lib.hid hr; have HH := Lib.hid hh
  have M := Lib.hid (hbox_new w o a (.slice la hs.length c) h)
  clear hr hh
  unfold mV
  go_enter Tryd.func13, Tryd.ntmps13
  go_wp2_with fail
  revert M
  generalize (w.alloc (.cells #[.string o, .string a, .slice la hs.length c] 24)).alloc (.cells (h.map vB).toArray 33) = w1
  intro M
  go_loopw [11, 5, 7] (fun i n _ wr => ∃ k : Nat, k ≤ hs.length ∧ i = .int .i64 k ∧ n = .int .i64 ((hs.take k).count h : Nat) ∧ HBox w wr o a (.slice la hs.length c) h) (fun i _ _ _ => hs.length - (intOf i).toNat)
  case atStart => exact ⟨0, by omega, rfl, by simp, M.out⟩
  case round =>
    obtain ⟨k, hk, rfl, rfl, M'⟩ := hrel
    have HM := Lib.hid M'
    clear M' M
    by_cases hlk : k < hs.length
    · have hlkz : (k : Int) < hs.length := by omega
      have hx : hs[k]? = some hs[k] := List.getElem?_eq_getElem hlk
      obtain ⟨b, off, rfl, _, hnc, hrg, hxl⟩ := (HR.out.below HM.out.below).at k _ hx
      have hct := count_succ hlk h
      have hcl : (hs.take k).count h ≤ k := Nat.le_trans List.count_le_length (by rw [List.length_take]; omega)
      generalize (hs.take k).count h = n at *
      have HXL := Lib.hid hxl; have HRG := Lib.hid hrg
      have eqx : ∀ w, (Op.equalIn 10000 33 (.agg (hs[k].map vB).toArray) (.agg (h.map vB).toArray)).run Tryd.prog w = .ok (decide (hs[k] = h)) w := fun w => run_equalIn_hsh w _ _ hxl HH.out
      generalize hs[k] = x at *
      clear hx hxl hrg
      have BX := box_hash wr x HXL.out
      have BR := box_row wr x
      rw [← zeros32] at BX BR
      obtain ⟨wx, hwx⟩ : ∃ wx, wx = (wr.alloc (.cells #[Value.int IntKind.u8 0, Value.int IntKind.u8 0, Value.int IntKind.u8 0, Value.int IntKind.u8 0, Value.int IntKind.u8 0, Value.int IntKind.u8 0, Value.int IntKind.u8 0, Value.int IntKind.u8 0, Value.int IntKind.u8 0, Value.int IntKind.u8 0, Value.int IntKind.u8 0, Value.int IntKind.u8 0, Value.int IntKind.u8 0, Value.int IntKind.u8 0, Value.int IntKind.u8 0, Value.int IntKind.u8 0, Value.int IntKind.u8 0, Value.int IntKind.u8 0, Value.int IntKind.u8 0, Value.int IntKind.u8 0, Value.int IntKind.u8 0, Value.int IntKind.u8 0, Value.int IntKind.u8 0, Value.int IntKind.u8 0, Value.int IntKind.u8 0, Value.int IntKind.u8 0, Value.int IntKind.u8 0, Value.int IntKind.u8 0, Value.int IntKind.u8 0, Value.int IntKind.u8 0, Value.int IntKind.u8 0, Value.int IntKind.u8 0] 33)).setRow wr.heap.size (x.map vB).toArray := ⟨_, rfl⟩
      have HWX := Lib.hid hwx
      rw [← hwx] at BX BR
      clear hwx
      have X1 := Lib.hid BR
      have M1 := Lib.hid (HM.out.keep BX.2)
      clear BX BR HM
      by_cases e : x = h
      · have eq' : ∀ w, (Op.equalIn 10000 33 (.agg (x.map vB).toArray) (.agg (h.map vB).toArray)).run Tryd.prog w = .ok true w := fun w => by rw [eqx w, decide_eq_true e]
        rw [if_pos e] at hct
        have HCT := Lib.hid hct
        clear eqx e hct
        go_wp2_with (first
          | refine wpList_load_mid rfl 33 _ rfl b (off + k * 32) rfl (x.map vB) _ HRG.out Tryd.underlying33 rfl (by rw [hash_size]; simp [HXL.out]) ?_
          | (refine wpList_store_row rfl _ _ _ rfl wr.heap.size (x.map vB).toArray rfl rfl 33 ((List.replicate 32 0).map vB).toArray (heap_alloc_new wr _) (by rw [hash_size]; simp [HXL.out]) (by simp [HXL.out]) (hashA_one x) ?_; rw [← HWX.out])
          | refine wpList_load_row rfl _ _ rfl wr.heap.size rfl 33 (x.map vB).toArray (0, 0) _ X1.out Tryd.underlying33 rfl (by rw [hash_size]; simp [HXL.out]) ?_
          | refine wpList_load_row rfl _ _ rfl (w.heap.size + 1) rfl 33 (h.map vB).toArray (0, 0) _ M1.out.rowh Tryd.underlying33 rfl (by rw [hash_size]; simp [HH.out]) ?_)
        go_roundw
        case rel => first | exact ⟨k + 1, by omega, by go_num, by rw [HCT.out]; go_num, M1.out⟩ | ((repeat apply Exists.intro); exact ⟨⟨k + 1, by omega, by go_num, by rw [HCT.out]; go_num, M1.out⟩, rfl⟩)
        case measure => simp [intOf]; omega
      · have eq' : ∀ w, (Op.equalIn 10000 33 (.agg (x.map vB).toArray) (.agg (h.map vB).toArray)).run Tryd.prog w = .ok false w := fun w => by rw [eqx w, decide_eq_false e]
        rw [if_neg e, Nat.add_zero] at hct
        have HCT := Lib.hid hct
        clear eqx e hct
        go_wp2_with (first
          | refine wpList_load_mid rfl 33 _ rfl b (off + k * 32) rfl (x.map vB) _ HRG.out Tryd.underlying33 rfl (by rw [hash_size]; simp [HXL.out]) ?_
          | (refine wpList_store_row rfl _ _ _ rfl wr.heap.size (x.map vB).toArray rfl rfl 33 ((List.replicate 32 0).map vB).toArray (heap_alloc_new wr _) (by rw [hash_size]; simp [HXL.out]) (by simp [HXL.out]) (hashA_one x) ?_; rw [← HWX.out])
          | refine wpList_load_row rfl _ _ rfl wr.heap.size rfl 33 (x.map vB).toArray (0, 0) _ X1.out Tryd.underlying33 rfl (by rw [hash_size]; simp [HXL.out]) ?_
          | refine wpList_load_row rfl _ _ rfl (w.heap.size + 1) rfl 33 (h.map vB).toArray (0, 0) _ M1.out.rowh Tryd.underlying33 rfl (by rw [hash_size]; simp [HH.out]) ?_)
        go_roundw
        case rel => first | exact ⟨k + 1, by omega, by go_num, by rw [HCT.out]; go_num, M1.out⟩ | ((repeat apply Exists.intro); exact ⟨⟨k + 1, by omega, by go_num, by rw [HCT.out]; go_num, M1.out⟩, rfl⟩)
        case measure => simp [intOf]; omega
    · obtain rfl : k = hs.length := by omega
      rw [List.take_length]
      go_wp2
      go_ret
      exact ⟨rfl, HM.out.below⟩
end Go.Proofs.YtkpcmgacjhjllaaDoor
