/- The contract of ManifestWrites: at whatever manifest, digest and text. -/
import Derived.Test.YtkpcmgacjhjllaaDoorLiveM
import Derived.Test.YtkpcmgacjhjllaaDoorClass
import Derived.Test.YtkpcmgacjhjllaaDoorEncRef
import Derived.Test.YtkpcmgacjhjllaaDoorUsesRef
import Derived.Test.YtkpcmgacjhjllaaDoorDigest
import Derived.Test.YtkpcmgacjhjllaaDoorSumRef
namespace Go.Proofs.YtkpcmgacjhjllaaDoor
open Go.RowKit

/-- The bytes, none where there is an error. -/
def encL (o a : ByteArray) (hs : List (List UInt8)) : List UInt8 := if rightOf o.data.toList a.data.toList hs.length = 0 then encOf o a hs else []
theorem encL_le (o a : ByteArray) (hs : List (List UInt8)) (hl : ∀ (i : Nat) x, hs[i]? = some x → x.length = 32) : (encL o a hs).length ≤ 1000 := by
  unfold encL
  split
  · exact encOf_le (by assumption) hl
  · simp
theorem encode_one (w : World) (o a : ByteArray) (lv : Value) (hs : List (List UInt8)) (hr : RdHs w lv hs) :
    Calls Tryd.prog 9 #[mV o a lv] w fun e w' => ∃ r, e = .returned (.tuple #[r, .int .i64 (rightOf o.data.toList a.data.toList hs.length)]) ∧ RdB w' r (encL o a hs) ∧ Below w.heap.size w w' := by
  refine (encode_any w o a lv hs hr).mono ?_
  rintro e w' ⟨hb, ⟨h0, r, rfl, ho⟩ | ⟨h0, rfl⟩⟩
  · exact ⟨r, by rw [h0], by unfold encL; rw [if_pos h0]; exact RdV_of_owns ho, hb⟩
  · exact ⟨_, rfl, by unfold encL; rw [if_neg h0]; exact .inl ⟨rfl, rfl⟩, hb⟩
theorem encref_one (w : World) (o a : ByteArray) (ho : o.size ≤ 9223372036854775807) (ha : a.size ≤ 9223372036854775807) (lv : Value) (hs : List (List UInt8)) (hr : RdHs w lv hs) :
    Calls Tryd.prog 17 #[mV o a lv] w fun e w' => ∃ r, e = .returned (.tuple #[r, .int .i64 (rightOf o.data.toList a.data.toList hs.length)]) ∧ RdB w' r (encL o a hs) ∧ Below w.heap.size w w' := by
  refine (encref_any w o a ho ha lv hs hr).mono ?_
  rintro e w' ⟨hb, ⟨h0, r, rfl, ho⟩ | ⟨h0, rfl⟩⟩
  · exact ⟨r, by rw [h0], by unfold encL; rw [if_pos h0]; exact RdV_of_owns ho, hb⟩
  · exact ⟨_, rfl, by unfold encL; rw [if_neg h0]; exact .inl ⟨rfl, rfl⟩, hb⟩

/-- Ahead of the last statement. -/
structure WrW (w W : World) (o a : ByteArray) (lv : Value) (h d : List UInt8) (b1 b2 : Nat) : Prop where
  box : HBox w W o a lv h
  d1 : W.heap[b1]? = some (.cells (d.map vB).toArray 33 (0, 0))
  d2 : W.heap[b2]? = some (.cells (d.map vB).toArray 33 (0, 0))

set_option maxRecDepth 100000 in
set_option maxHeartbeats 4000000 in
theorem writes_any (w : World) (o a : ByteArray) (ho : o.size ≤ 9223372036854775807) (ha : a.size ≤ 9223372036854775807) (lv : Value) (hs : List (List UInt8)) (h : List UInt8) (hh : h.length = 32) (s : ByteArray) (hss : s.size ≤ 9223372036854775807) (hr : RdHs w lv hs) :
    Calls Tryd.prog 8 #[mV o a lv, .agg (h.map vB).toArray, .string s] w fun e w' => e = .returned (.bool true) ∧ Below w.heap.size w w' := by
  obtain ⟨la, lc, rfl⟩ := hr.slice
  have HR := Lib.hid hr; have HH := Lib.hid hh
  have M := Lib.hid (hbox_new w o a (.slice la hs.length lc) h)
  have hel := encL_le o a hs hr.len
  have HEL := Lib.hid hel
  clear hr hh hel
  unfold mV
  go_enter Tryd.func8, Tryd.ntmps8
  go_wp2_with fail
  revert M
  generalize (w.alloc (.cells #[.string o, .string a, .slice la hs.length lc] 24)).alloc (.cells (h.map vB).toArray 33) = w1
  intro M
  refine (encode_one w1 o a _ hs (HR.out.below M.out.below)).mono ?_
  rintro e w2 ⟨r, rfl, hrr, hb2⟩
  have M2 := Lib.hid (M.out.keep hb2)
  have R2 := Lib.hid hrr
  clear M hb2 hrr
  obtain ⟨ro, hro⟩ : ∃ ro, ro = rightOf o.data.toList a.data.toList hs.length := ⟨_, rfl⟩
  have HRO := Lib.hid hro
  rw [← hro]
  clear hro
  go_wp2_with (refine wpList_load_row rfl _ _ rfl w.heap.size rfl 24 #[.string o, .string a, .slice la hs.length lc] (0, 0) _ M2.out.row Tryd.underlying24 rfl (by kernel_rfl) ?_)
  refine (encref_one w2 o a ho ha _ hs (HR.out.below M2.out.below)).mono ?_
  rintro e w3 ⟨r', rfl, hrr, hb3⟩
  rw [← HRO.out]
  have M3 := Lib.hid (M2.out.keep hb3)
  have R3 := Lib.hid (RdV.below R2.out hb3)
  have S3 := Lib.hid hrr
  clear M2 hb3 hrr R2
  go_wp2_with (refine wpList_load_row rfl _ _ rfl w.heap.size rfl 24 #[.string o, .string a, .slice la hs.length lc] (0, 0) _ M3.out.row Tryd.underlying24 rfl (by kernel_rfl) ?_)
  refine (digest_any w3 o a _ hs (HR.out.below M3.out.below)).mono ?_
  rintro e w4 ⟨rfl, hb4⟩
  rw [← HRO.out]
  have M4 := Lib.hid (M3.out.keep hb4)
  have R4 := Lib.hid (RdV.below R3.out hb4)
  have S4 := Lib.hid (RdV.below S3.out hb4)
  have hdl := digOf_len o a hs
  have hdd : rightOf o.data.toList a.data.toList hs.length = 0 → digOf o a hs = sha (encL o a hs) := fun h0 => by unfold digOf encL; rw [if_pos h0, if_pos h0]
  have hdn : rightOf o.data.toList a.data.toList hs.length ≠ 0 → digOf o a hs = noHash := fun h0 => by unfold digOf; rw [if_neg h0]
  rw [← HRO.out] at hdd hdn
  have HDL := Lib.hid hdl; have HDD := Lib.hid hdd; have HDN := Lib.hid hdn
  clear M3 hb4 R3 S3 hdl hdd hdn
  generalize digOf o a hs = d at *
  have BX := box_hash w4 d HDL.out
  have BR := box_row w4 d
  rw [← zeros32] at BX BR
  obtain ⟨wx, hwx⟩ : ∃ wx, wx = (w4.alloc (.cells #[Value.int IntKind.u8 0, Value.int IntKind.u8 0, Value.int IntKind.u8 0, Value.int IntKind.u8 0, Value.int IntKind.u8 0, Value.int IntKind.u8 0, Value.int IntKind.u8 0, Value.int IntKind.u8 0, Value.int IntKind.u8 0, Value.int IntKind.u8 0, Value.int IntKind.u8 0, Value.int IntKind.u8 0, Value.int IntKind.u8 0, Value.int IntKind.u8 0, Value.int IntKind.u8 0, Value.int IntKind.u8 0, Value.int IntKind.u8 0, Value.int IntKind.u8 0, Value.int IntKind.u8 0, Value.int IntKind.u8 0, Value.int IntKind.u8 0, Value.int IntKind.u8 0, Value.int IntKind.u8 0, Value.int IntKind.u8 0, Value.int IntKind.u8 0, Value.int IntKind.u8 0, Value.int IntKind.u8 0, Value.int IntKind.u8 0, Value.int IntKind.u8 0, Value.int IntKind.u8 0, Value.int IntKind.u8 0, Value.int IntKind.u8 0] 33)).setRow w4.heap.size (d.map vB).toArray := ⟨_, rfl⟩
  have HWX := Lib.hid hwx
  rw [← hwx] at BX BR
  clear hwx
  have BY := box_hash wx noHash rfl
  have BS := box_row wx noHash
  rw [show noHash = List.replicate 32 (0 : UInt8) from rfl, ← zeros32] at BY BS
  obtain ⟨wy, hwy⟩ : ∃ wy, wy = (wx.alloc (.cells #[Value.int IntKind.u8 0, Value.int IntKind.u8 0, Value.int IntKind.u8 0, Value.int IntKind.u8 0, Value.int IntKind.u8 0, Value.int IntKind.u8 0, Value.int IntKind.u8 0, Value.int IntKind.u8 0, Value.int IntKind.u8 0, Value.int IntKind.u8 0, Value.int IntKind.u8 0, Value.int IntKind.u8 0, Value.int IntKind.u8 0, Value.int IntKind.u8 0, Value.int IntKind.u8 0, Value.int IntKind.u8 0, Value.int IntKind.u8 0, Value.int IntKind.u8 0, Value.int IntKind.u8 0, Value.int IntKind.u8 0, Value.int IntKind.u8 0, Value.int IntKind.u8 0, Value.int IntKind.u8 0, Value.int IntKind.u8 0, Value.int IntKind.u8 0, Value.int IntKind.u8 0, Value.int IntKind.u8 0, Value.int IntKind.u8 0, Value.int IntKind.u8 0, Value.int IntKind.u8 0, Value.int IntKind.u8 0, Value.int IntKind.u8 0] 33)).setRow wx.heap.size #[Value.int IntKind.u8 0, Value.int IntKind.u8 0, Value.int IntKind.u8 0, Value.int IntKind.u8 0, Value.int IntKind.u8 0, Value.int IntKind.u8 0, Value.int IntKind.u8 0, Value.int IntKind.u8 0, Value.int IntKind.u8 0, Value.int IntKind.u8 0, Value.int IntKind.u8 0, Value.int IntKind.u8 0, Value.int IntKind.u8 0, Value.int IntKind.u8 0, Value.int IntKind.u8 0, Value.int IntKind.u8 0, Value.int IntKind.u8 0, Value.int IntKind.u8 0, Value.int IntKind.u8 0, Value.int IntKind.u8 0, Value.int IntKind.u8 0, Value.int IntKind.u8 0, Value.int IntKind.u8 0, Value.int IntKind.u8 0, Value.int IntKind.u8 0, Value.int IntKind.u8 0, Value.int IntKind.u8 0, Value.int IntKind.u8 0, Value.int IntKind.u8 0, Value.int IntKind.u8 0, Value.int IntKind.u8 0, Value.int IntKind.u8 0] := ⟨_, rfl⟩
  have HWY := Lib.hid hwy
  rw [← hwy] at BY BS
  clear hwy
  have hltx : w4.heap.size < wx.heap.size := (Array.getElem?_eq_some_iff.1 BR).1
  have B5 := Lib.hid (BX.2.trans (BY.2.mono (Nat.le_of_lt hltx)))
  have D1 := Lib.hid ((BY.2.block _ hltx).trans BR)
  rw [zeros32] at BS
  have D2 := Lib.hid BS
  clear BX BY BR BS
  by_cases h0 : ro = 0
  · have hz : (ro == 0) = true := by simp [h0]
    have hd := HDD.out h0
    have HD := Lib.hid hd
    clear hd h0 HDD HDN
    go_wp2_with (first
      | (refine wpList_store_row rfl _ _ _ rfl w4.heap.size (d.map vB).toArray rfl rfl 33 _ (heap_alloc_new w4 _) (by rw [hash_size]; simp [HDL.out]) (by simp [HDL.out]) (hashA_one d) ?_; rw [← HWX.out])
      | (refine wpList_store_row rfl _ _ _ rfl wx.heap.size _ rfl rfl 33 _ (heap_alloc_new wx _) (by kernel_rfl) rfl (by kernel_rfl) ?_; rw [← HWY.out]))
    refine (sumref_any wy r' (encL o a hs) (RdV.below S4.out B5.out) (by have := HEL.out; omega)).mono ?_
    rintro e w6 ⟨rfl, hb6⟩
    rw [← HD.out]
    have hltw : wx.heap.size < wy.heap.size := (Array.getElem?_eq_some_iff.1 D2.out).1
    have E1 := Lib.hid ((hb6.block _ (Nat.lt_trans hltx hltw)).trans D1.out)
    have E2 := Lib.hid ((hb6.block _ hltw).trans D2.out)
    have B6 := Lib.hid (B5.out.trans (hb6.mono (by omega)))
    clear hb6 D1 D2 B5 HD
    go_wp2_with (refine wpList_store_row rfl _ _ _ rfl wx.heap.size (aB d) rfl rfl 33 _ E2.out (by rw [hash_size]; simp [aB, HDL.out]) (by simp [aB, HDL.out]) (aB_one d) ?_)
    have B7 := Lib.hid (below_setRow B6.out (Nat.le_of_lt hltx) (aB d))
    have MW : Hid (WrW w (w6.setRow wx.heap.size (aB d)) o a (.slice la hs.length lc) h d w4.heap.size wx.heap.size) :=
      ⟨M4.out.keep B7.out, by rw [setRow_other _ _ _ _ (by omega)]; exact E1.out, setRow_heap _ _ _ _ _ _ E2.out⟩
    have RW := Lib.hid (RdV.below R4.out B7.out)
    have SW := Lib.hid (RdV.below S4.out B7.out)
    clear B6 B7 E1 E2 M4 R4 S4
    generalize w6.setRow wx.heap.size (aB d) = W at *
    have hsm : (encL o a hs).length ≤ 140737488355328 := by have := HEL.out; omega
    have hne := cl_some W
    have up : ∀ wx, Below W.heap.size W wx → Below w.heap.size w wx := fun wx hb => MW.out.box.below.trans (hb.mono MW.out.box.below.size)
    have C1 : Hid (∀ q : ClT W, _) := cl_call (W := W) (f := 10) (args := #[]) (E := .returned (.bool true)) (fun w _ => live_any w)
    have C2 : Hid (∀ q : ClT W, _) := cl_call (W := W) (f := 11) (args := #[r, r']) (E := .returned (.bool true)) (fun w hb => by
      refine (same_any w r r' _ _ (RdV.below RW.out hb) (RdV.below SW.out hb) hsm hsm).mono ?_
      rintro e w' ⟨he, n, hn⟩
      exact ⟨by rw [he, decide_eq_true rfl], by rw [hn]; exact below_drewN w n⟩)
    have C3 : Hid (∀ q : ClT W, _) := cl_call (W := W) (f := 20) (args := #[mV o a (.slice la hs.length lc)]) (E := .returned (.int .i64 ro)) (fun wx hb => by rw [HRO.out]; exact right_any wx o a la hs.length lc)
    have C4 : Hid (∀ q : ClT W, _) := cl_call (W := W) (f := 21) (args := #[mV o a (.slice la hs.length lc)]) (E := .returned (.int .i64 ro)) (fun wx hb => by rw [HRO.out]; exact rightref_any wx o a ho ha la hs.length lc)
    have C5 : Hid (∀ q : ClT W, _) := cl_call (W := W) (f := 13) (args := #[mV o a (.slice la hs.length lc), .agg (h.map vB).toArray]) (E := .returned (.int .i64 (hs.count h : Nat))) (fun wx hb => uses_any wx o a _ hs h HH.out (HR.out.below (up wx hb)))
    have C6 : Hid (∀ q : ClT W, _) := cl_call (W := W) (f := 22) (args := #[mV o a (.slice la hs.length lc), .agg (h.map vB).toArray]) (E := .returned (.int .i64 (hs.count h : Nat))) (fun wx hb => usesref_any wx o a _ hs h HH.out (HR.out.below (up wx hb)))
    have C7 : Hid (∀ q : ClT W, _) := cl_call (W := W) (f := 23) (args := #[.string s]) (E := .returned (.bool (isWord s.data.toList))) (fun wx hb => isword_any s wx)
    have C8 : Hid (∀ q : ClT W, _) := cl_call (W := W) (f := 24) (args := #[.string s]) (E := .returned (.bool (isWord s.data.toList))) (fun wx hb => (iswordref_any s hss wx).mono fun e w' hx => ⟨hx.1, by rw [← hx.2]; exact Below.refl _ _⟩)
    have l3 := Lib.hid (cl_load (W := W) (cs := [.string o, .string a, .slice la hs.length lc]) MW.out.box.row Tryd.underlying24 rfl (by kernel_rfl))
    have l4 := Lib.hid (cl_load (W := W) (cs := h.map vB) MW.out.box.rowh Tryd.underlying33 rfl (by rw [hash_size]; simp [HH.out]))
    have l11 := Lib.hid (cl_load (W := W) (cs := d.map vB) MW.out.d1 Tryd.underlying33 rfl (by rw [hash_size]; simp [HDL.out]))
    have l13 := Lib.hid (cl_load (W := W) (cs := d.map vB) MW.out.d2 Tryd.underlying33 rfl (by rw [hash_size]; simp [HDL.out]))
    have eqd : ∀ w, (Op.equalIn 10000 33 (.agg (d.map vB).toArray) (.agg (d.map vB).toArray)).run Tryd.prog w = .ok true w := fun w => by rw [run_equalIn_hsh w _ _ HDL.out HDL.out]; simp
    have HB3 := Lib.hid MW.out.box.below
    clear up hsm HRO MW RW SW
    generalize hs.count h = cnt at *
    generalize isWord s.data.toList = iw at *
    go_wp2
    refine wp_region_class (fun q : ClT W => q.w) (by kernel_rfl) (by kernel_rfl) (cl_start W) ?_
    quiet_step (exact C1.out _)
    iterate 3 quiet_step (fail)
    quiet_step (exact C2.out _)
    iterate 7 quiet_step (fail)
    refine wpQuiet_loadAt _ _ w.heap.size 0 _ l3.out (by kernel_rfl) rfl rfl ?_
    quiet_step (exact C3.out _)
    refine wpQuiet_loadAt _ _ w.heap.size 0 _ l3.out (by kernel_rfl) rfl rfl ?_
    quiet_step (exact C4.out _)
    iterate 3 quiet_step (fail)
    refine wpQuiet_loadAt _ _ w4.heap.size 0 _ l11.out (by kernel_rfl) rfl rfl ?_
    refine wpQuiet_loadAt _ _ wx.heap.size 0 _ l13.out (by kernel_rfl) rfl rfl ?_
    iterate 8 quiet_step (fail)
    refine wpQuiet_loadAt _ _ w.heap.size 0 _ l3.out (by kernel_rfl) rfl rfl ?_
    refine wpQuiet_loadAt _ _ (w.heap.size + 1) 0 _ l4.out (by kernel_rfl) rfl rfl ?_
    quiet_step (exact C5.out _)
    refine wpQuiet_loadAt _ _ w.heap.size 0 _ l3.out (by kernel_rfl) rfl rfl ?_
    refine wpQuiet_loadAt _ _ (w.heap.size + 1) 0 _ l4.out (by kernel_rfl) rfl rfl ?_
    quiet_step (exact C6.out _)
    iterate 4 quiet_step (fail)
    quiet_step (exact C7.out _)
    quiet_step (fail)
    quiet_step (exact C8.out _)
    repeat (quiet_step (fail))
    refine wpQuiet_nil ?_
    intro w' hw'
    obtain ⟨q, rfl⟩ := hw'
    have HB := Lib.hid (HB3.out.trans (q.2.mono HB3.out.size))
    go_wp2
    go_ret
    exact ⟨rfl, HB.out⟩
  · have hz : (ro == 0) = false := by simpa using h0
    have hd := HDN.out h0
    have MW : Hid (WrW w wy o a (.slice la hs.length lc) h d w4.heap.size wx.heap.size) := ⟨M4.out.keep B5.out, D1.out, by rw [hd]; exact D2.out⟩
    have RW := Lib.hid (RdV.below R4.out B5.out)
    have SW := Lib.hid (RdV.below S4.out B5.out)
    clear hd h0 HDD HDN B5 D1 D2 M4 R4 S4
    go_wp2_with (first
      | (refine wpList_store_row rfl _ _ _ rfl w4.heap.size (d.map vB).toArray rfl rfl 33 _ (heap_alloc_new w4 _) (by rw [hash_size]; simp [HDL.out]) (by simp [HDL.out]) (hashA_one d) ?_; rw [← HWX.out])
      | (refine wpList_store_row rfl _ _ _ rfl wx.heap.size _ rfl rfl 33 _ (heap_alloc_new wx _) (by kernel_rfl) rfl (by kernel_rfl) ?_; rw [← HWY.out]))
    clear HWX HWY
    generalize wy = W at *
    have hsm : (encL o a hs).length ≤ 140737488355328 := by have := HEL.out; omega
    have hne := cl_some W
    have up : ∀ wx, Below W.heap.size W wx → Below w.heap.size w wx := fun wx hb => MW.out.box.below.trans (hb.mono MW.out.box.below.size)
    have C1 : Hid (∀ q : ClT W, _) := cl_call (W := W) (f := 10) (args := #[]) (E := .returned (.bool true)) (fun w _ => live_any w)
    have C2 : Hid (∀ q : ClT W, _) := cl_call (W := W) (f := 11) (args := #[r, r']) (E := .returned (.bool true)) (fun w hb => by
      refine (same_any w r r' _ _ (RdV.below RW.out hb) (RdV.below SW.out hb) hsm hsm).mono ?_
      rintro e w' ⟨he, n, hn⟩
      exact ⟨by rw [he, decide_eq_true rfl], by rw [hn]; exact below_drewN w n⟩)
    have C3 : Hid (∀ q : ClT W, _) := cl_call (W := W) (f := 20) (args := #[mV o a (.slice la hs.length lc)]) (E := .returned (.int .i64 ro)) (fun wx hb => by rw [HRO.out]; exact right_any wx o a la hs.length lc)
    have C4 : Hid (∀ q : ClT W, _) := cl_call (W := W) (f := 21) (args := #[mV o a (.slice la hs.length lc)]) (E := .returned (.int .i64 ro)) (fun wx hb => by rw [HRO.out]; exact rightref_any wx o a ho ha la hs.length lc)
    have C5 : Hid (∀ q : ClT W, _) := cl_call (W := W) (f := 13) (args := #[mV o a (.slice la hs.length lc), .agg (h.map vB).toArray]) (E := .returned (.int .i64 (hs.count h : Nat))) (fun wx hb => uses_any wx o a _ hs h HH.out (HR.out.below (up wx hb)))
    have C6 : Hid (∀ q : ClT W, _) := cl_call (W := W) (f := 22) (args := #[mV o a (.slice la hs.length lc), .agg (h.map vB).toArray]) (E := .returned (.int .i64 (hs.count h : Nat))) (fun wx hb => usesref_any wx o a _ hs h HH.out (HR.out.below (up wx hb)))
    have C7 : Hid (∀ q : ClT W, _) := cl_call (W := W) (f := 23) (args := #[.string s]) (E := .returned (.bool (isWord s.data.toList))) (fun wx hb => isword_any s wx)
    have C8 : Hid (∀ q : ClT W, _) := cl_call (W := W) (f := 24) (args := #[.string s]) (E := .returned (.bool (isWord s.data.toList))) (fun wx hb => (iswordref_any s hss wx).mono fun e w' hx => ⟨hx.1, by rw [← hx.2]; exact Below.refl _ _⟩)
    have l3 := Lib.hid (cl_load (W := W) (cs := [.string o, .string a, .slice la hs.length lc]) MW.out.box.row Tryd.underlying24 rfl (by kernel_rfl))
    have l4 := Lib.hid (cl_load (W := W) (cs := h.map vB) MW.out.box.rowh Tryd.underlying33 rfl (by rw [hash_size]; simp [HH.out]))
    have l11 := Lib.hid (cl_load (W := W) (cs := d.map vB) MW.out.d1 Tryd.underlying33 rfl (by rw [hash_size]; simp [HDL.out]))
    have l13 := Lib.hid (cl_load (W := W) (cs := d.map vB) MW.out.d2 Tryd.underlying33 rfl (by rw [hash_size]; simp [HDL.out]))
    have eqd : ∀ w, (Op.equalIn 10000 33 (.agg (d.map vB).toArray) (.agg (d.map vB).toArray)).run Tryd.prog w = .ok true w := fun w => by rw [run_equalIn_hsh w _ _ HDL.out HDL.out]; simp
    have HB3 := Lib.hid MW.out.box.below
    clear up hsm HRO MW RW SW
    generalize hs.count h = cnt at *
    generalize isWord s.data.toList = iw at *
    go_wp2
    refine wp_region_class (fun q : ClT W => q.w) (by kernel_rfl) (by kernel_rfl) (cl_start W) ?_
    quiet_step (exact C1.out _)
    iterate 3 quiet_step (fail)
    quiet_step (exact C2.out _)
    iterate 7 quiet_step (fail)
    refine wpQuiet_loadAt _ _ w.heap.size 0 _ l3.out (by kernel_rfl) rfl rfl ?_
    quiet_step (exact C3.out _)
    refine wpQuiet_loadAt _ _ w.heap.size 0 _ l3.out (by kernel_rfl) rfl rfl ?_
    quiet_step (exact C4.out _)
    iterate 3 quiet_step (fail)
    refine wpQuiet_loadAt _ _ w4.heap.size 0 _ l11.out (by kernel_rfl) rfl rfl ?_
    refine wpQuiet_loadAt _ _ wx.heap.size 0 _ l13.out (by kernel_rfl) rfl rfl ?_
    iterate 8 quiet_step (fail)
    refine wpQuiet_loadAt _ _ w.heap.size 0 _ l3.out (by kernel_rfl) rfl rfl ?_
    refine wpQuiet_loadAt _ _ (w.heap.size + 1) 0 _ l4.out (by kernel_rfl) rfl rfl ?_
    quiet_step (exact C5.out _)
    refine wpQuiet_loadAt _ _ w.heap.size 0 _ l3.out (by kernel_rfl) rfl rfl ?_
    refine wpQuiet_loadAt _ _ (w.heap.size + 1) 0 _ l4.out (by kernel_rfl) rfl rfl ?_
    quiet_step (exact C6.out _)
    iterate 4 quiet_step (fail)
    quiet_step (exact C7.out _)
    quiet_step (fail)
    quiet_step (exact C8.out _)
    repeat (quiet_step (fail))
    refine wpQuiet_nil ?_
    intro w' hw'
    obtain ⟨q, rfl⟩ := hw'
    have HB := Lib.hid (HB3.out.trans (q.2.mono HB3.out.size))
    go_wp2
    go_ret
    exact ⟨rfl, HB.out⟩
end Go.Proofs.YtkpcmgacjhjllaaDoor
