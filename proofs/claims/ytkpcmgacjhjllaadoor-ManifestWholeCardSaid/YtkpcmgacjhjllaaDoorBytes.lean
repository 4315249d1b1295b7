/- The contract of the reference's Bytes, at whatever digest. -/
import Derived.Test.YtkpcmgacjhjllaaDoorOwn
namespace Go.Proofs.YtkpcmgacjhjllaaDoor
open Go.RowKit

theorem rd_byte (w : World) (b : UInt8) : RdB (w.alloc (.cells #[.int .u8 (n8 b)] 5)) (.slice (some ⟨w.heap.size, 0, none⟩) 1 1) [b] := rd_new w [b] _ _ _ rfl 1 rfl

set_option maxRecDepth 100000 in
set_option maxHeartbeats 2000000 in
theorem bytesOf_any (w : World) (x : List UInt8) (hx : x.length = 32) :
    Calls Tryd.prog 33 #[.agg (x.map vB).toArray] w fun e w' => ∃ r, e = .returned r ∧ RdB w' r x ∧ Below w.heap.size w w' := by
  have h1 := heap_alloc_new w (.cells (x.map vB).toArray 33)
  have hb1 : Below w.heap.size w (w.alloc (.cells (x.map vB).toArray 33)) := (Below.refl _ _).alloc (Nat.le_refl _) _
  have B1 := Lib.hid hb1; have R1 := Lib.hid h1; have HX := Lib.hid hx
  clear h1 hb1 hx
  go_enter Tryd.func33, Tryd.ntmps33
  go_wp2_with fail
  revert B1 R1
  generalize w.alloc (.cells (x.map vB).toArray 33) = w1
  intro B1 R1
  have hlt1 : w.heap.size + 1 ≤ w1.heap.size := (Array.getElem?_eq_some_iff.1 R1.out).1
  go_loopw [4, 3] (fun i v wr => ∃ k : Nat, k ≤ 32 ∧ i = .int .i64 k ∧ OwnB wr (w.heap.size + 1) v (x.take k) ∧ wr.heap[w.heap.size]? = some (.cells (x.map vB).toArray 33 (0, 0)) ∧ Below w.heap.size w wr) (fun i _ _ => 32 - (intOf i).toNat)
  case atStart => exact ⟨0, by omega, rfl, by unfold OwnB; simpa using World.ownsRow_nil _ _ _ _, R1.out, B1.out⟩
  case round =>
    obtain ⟨k, hk, rfl, O, R, B⟩ := hrel
    have HO := Lib.hid O; have HR := Lib.hid R; have HB := Lib.hid B
    clear O R B B1 R1
    by_cases hlk : k < 32
    · have hlkz : (k : Int) < 32 := by omega
      have hkx : k < x.length := by have := HX.out; omega
      have hc : wr.cell? ⟨w.heap.size, k, none⟩ = some (.int .u8 (n8 x[k])) := by
        rw [cell_of_row wr _ k _ _ _ HR.out]
        simp [hkx, vB]
      have htk : x.take (k + 1) = x.take k ++ [x[k]] := List.take_succ_eq_append_getElem hkx
      have HTK := Lib.hid htk
      have hlen : (x.take k).length ≤ 32 := by rw [List.length_take]; omega
      have hlt : w.heap.size + 1 ≤ wr.heap.size := (Array.getElem?_eq_some_iff.1 HR.out).1
      generalize x.take k = p at *
      generalize x[k] = b at *
      clear htk
      have Q1 := Lib.hid (rd_byte wr b)
      have hal : Below wr.heap.size wr (wr.alloc (.cells #[.int .u8 (n8 b)] 5)) := (Below.refl _ _).alloc (Nat.le_refl _) _
      have O1 := Lib.hid (own_below HO.out hal)
      have R1 : Hid ((wr.alloc (.cells #[.int .u8 (n8 b)] 5)).heap[w.heap.size]? = some (.cells (x.map vB).toArray 33 (0, 0))) := (hal.block _ (by omega)).trans HR.out
      have B1 := Lib.hid (HB.out.trans (hal.mono HB.out.size))
      have hB1 : w.heap.size + 1 ≤ (wr.alloc (.cells #[.int .u8 (n8 b)] 5)).heap.size := by simp; omega
      clear HO HR HB hal
      go_wp2_with (refine wpList_out rfl _ _ rfl (w.heap.size + 1) u3 p rfl (.inl O1.out) _ [b] rfl Q1.out (by simp) (by simp; omega) hB1 ?_)
      intro v5 w5 hown hb hxp
      have O5 : Hid (OwnB w5 (w.heap.size + 1) v5 (x.take (k + 1))) := by
        show OwnB _ _ _ _
        rw [HTK.out]; exact hown
      have R5 := Lib.hid (hxp _ _ _ _ (by decide) R1.out)
      have B5 := Lib.hid (B1.out.trans (hb.mono (by omega)))
      clear hown hb hxp O1 Q1 R1 B1 hB1 HTK
      go_wp2
      exact ⟨⟨k + 1, by omega, by go_num, O5.out, R5.out, B5.out⟩, by simp [intOf]; omega⟩
    · obtain rfl : k = 32 := by omega
      have hR : RdB wr u3 x := by
        have h := RdV_of_owns HO.out
        rw [List.take_of_length_le (by have := HX.out; omega)] at h
        exact h
      have HRD := Lib.hid hR
      clear hR
      go_wp2
      go_ret
      exact ⟨_, rfl, HRD.out, HB.out⟩

set_option maxRecDepth 100000 in
set_option maxHeartbeats 1000000 in
theorem bytes_any (w : World) (x : List UInt8) (hx : x.length = 32) :
    Calls Tryd.prog 27 #[.agg (x.map vB).toArray] w fun e w' => ∃ r, e = .returned r ∧ RdB w' r x ∧ Below w.heap.size w w' := by
  have h1 := heap_alloc_new w (.cells (x.map vB).toArray 33)
  have hb1 : Below w.heap.size w (w.alloc (.cells (x.map vB).toArray 33)) := (Below.refl _ _).alloc (Nat.le_refl _) _
  have B1 := Lib.hid hb1; have R1 := Lib.hid h1; have HX := Lib.hid hx
  clear h1 hb1 hx
  go_enter Tryd.func27, Tryd.ntmps27
  go_wp2_with (refine wpList_load_row rfl _ _ rfl w.heap.size rfl 33 (x.map vB).toArray (0, 0) _ R1.out Tryd.underlying33 rfl (by rw [hash_size]; simp [HX.out]) ?_)
  refine (bytesOf_any _ x HX.out).mono ?_
  rintro e w2 ⟨r, rfl, hr, hb⟩
  have HRD := Lib.hid hr
  have HB := Lib.hid (B1.out.trans (hb.mono (by simp)))
  clear hr hb B1 R1
  go_wp2
  go_ret
  exact ⟨_, rfl, HRD.out, HB.out⟩
end Go.Proofs.YtkpcmgacjhjllaaDoor
