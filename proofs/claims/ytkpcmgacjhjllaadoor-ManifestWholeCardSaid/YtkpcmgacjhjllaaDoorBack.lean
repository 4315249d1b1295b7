/- The contract of ManifestBack: at whatever manifest and bytes, their length within a slice's own bound. -/
import Derived.Test.YtkpcmgacjhjllaaDoorLiveM
import Derived.Test.YtkpcmgacjhjllaaDoorSameM
import Derived.Test.YtkpcmgacjhjllaaDoorDecode
namespace Go.Proofs.YtkpcmgacjhjllaaDoor
open Go.RowKit

theorem man_box (w : World) (y0 y1 y2 : Value) :
    ((w.alloc (.cells #[.string ⟨#[]⟩, .string ⟨#[]⟩, .slice none 0 0] 24)).setRow w.heap.size #[y0, y1, y2]).heap[w.heap.size]? = some (.cells #[y0, y1, y2] 24 (0, 0)) ∧
    Below w.heap.size w ((w.alloc (.cells #[.string ⟨#[]⟩, .string ⟨#[]⟩, .slice none 0 0] 24)).setRow w.heap.size #[y0, y1, y2]) :=
  ⟨setRow_heap _ _ _ _ _ _ (heap_alloc_new w _), below_setRow ((Below.refl _ _).alloc (Nat.le_refl _) _) (Nat.le_refl _) _⟩
theorem ba_eta (o : ByteArray) : (⟨o.data.toList.toArray⟩ : ByteArray) = o := by cases o; simp

set_option maxRecDepth 100000 in
set_option maxHeartbeats 4000000 in
theorem back_any (w : World) (o a : ByteArray) (lv : Value) (hs : List (List UInt8)) (bv : Value) (l : List UInt8) (hr : RdHs w lv hs) (hv : RdB w bv l) (hl : l.length ≤ 140737488355200) :
    Calls Tryd.prog 6 #[mV o a lv, bv] w fun e w' => e = .returned (.bool true) ∧ Below w.heap.size w w' := by
  obtain ⟨la, lc, rfl⟩ := hr.slice
  have HR := Lib.hid hr; have HV := Lib.hid hv
  have M := Lib.hid (mbox_new w o a (.slice la hs.length lc))
  have hde := fun h1 => dec_enc (o := o) (a := a) (hs := hs) h1 hr.len
  have hle := fun h1 => encOf_le (o := o) (a := a) (hs := hs) h1 hr.len
  have HDE := Lib.hid hde; have HLE := Lib.hid hle
  clear hr hv hde hle
  unfold mV
  go_enter Tryd.func6, Tryd.ntmps6
  go_wp2_with fail
  revert M
  generalize w.alloc (.cells #[.string o, .string a, .slice la hs.length lc] 24) = w1
  intro M
  refine (encode_any w1 o a (.slice la hs.length lc) hs (HR.out.below M.out.below)).mono ?_
  rintro e w2 ⟨hb2, hp⟩
  have M2 := Lib.hid (M.out.keep hb2)
  clear M hb2
  rcases hp with ⟨h0, r, rfl, hown⟩ | ⟨h0, rfl⟩
  · have R2 := Lib.hid (RdV_of_owns hown)
    have hde := HDE.out h0
    have hle := HLE.out h0
    clear hown h0
    go_wp2_with fail
    refine (decode_any w2 r (encOf o a hs) R2.out (by omega)).mono ?_
    rintro e w3 ⟨hb3, hp⟩
    obtain ⟨lv3, rfl, hrd3⟩ : ∃ lv3, e = .returned (.tuple #[mV o a lv3, .int .i64 0]) ∧ RdHs w3 lv3 hs := by
      rcases hp with ⟨hn, _⟩ | ⟨o', a', hs', lv', hd, he, hrd⟩
      · rw [hde] at hn; cases hn
      · rw [hde] at hd
        simp only [Option.some.injEq, Prod.mk.injEq] at hd
        obtain ⟨rfl, rfl, rfl⟩ := hd
        exact ⟨lv', by rw [he, ba_eta, ba_eta], hrd⟩
    obtain ⟨l3, c3, rfl⟩ := hrd3.slice
    have M3 := Lib.hid (M2.out.keep hb3)
    have N3 := Lib.hid hrd3
    clear hp hb3 hrd3 hde R2 M2 hle
    unfold mV
    have BX := man_box w3 (.string o) (.string a) (.slice l3 hs.length c3)
    obtain ⟨wx, hwx⟩ : ∃ wx, wx = (w3.alloc (.cells #[.string ⟨#[]⟩, .string ⟨#[]⟩, .slice none 0 0] 24)).setRow w3.heap.size #[.string o, .string a, .slice l3 hs.length c3] := ⟨_, rfl⟩
    have HWX := Lib.hid hwx
    rw [← hwx] at BX
    clear hwx
    have BR := Lib.hid BX.1
    have M4 := Lib.hid (M3.out.keep BX.2)
    have N4 := Lib.hid (N3.out.below BX.2)
    have e0 : wx.cell? ⟨w3.heap.size, 0, none⟩ = some (.string o) := (cell_of_row wx _ 0 _ _ _ BR.out).trans rfl
    have e1 : wx.cell? ⟨w3.heap.size, 1, none⟩ = some (.string a) := (cell_of_row wx _ 1 _ _ _ BR.out).trans rfl
    have e2 : wx.cell? ⟨w3.heap.size, 2, none⟩ = some (.slice l3 hs.length c3) := (cell_of_row wx _ 2 _ _ _ BR.out).trans rfl
    have f0 := M4.out.c0; have f1 := M4.out.c1; have f2 := M4.out.c2
    clear BX M3 N3
    go_wp2_with (first
      | (refine wpList_store_row rfl _ _ _ rfl w3.heap.size #[.string o, .string a, .slice l3 hs.length c3] rfl rfl 24 #[.string ⟨#[]⟩, .string ⟨#[]⟩, .slice none 0 0] (heap_alloc_new w3 _) (by kernel_rfl) rfl (by kernel_rfl) ?_; rw [← HWX.out])
      | refine wpList_load_row rfl _ _ rfl w3.heap.size rfl 24 #[.string o, .string a, .slice l3 hs.length c3] (0, 0) _ BR.out Tryd.underlying24 rfl (by kernel_rfl) ?_
      | refine wpList_load_row rfl _ _ rfl w.heap.size rfl 24 #[.string o, .string a, .slice la hs.length lc] (0, 0) _ M4.out.row Tryd.underlying24 rfl (by kernel_rfl) ?_)
    refine (sameM_any wx o a (.slice l3 hs.length c3) hs o a (.slice la hs.length lc) hs N4.out (HR.out.below M4.out.below)).mono ?_
    rintro e w4 ⟨rfl, hb4⟩
    rw [show SameM o a hs o a hs = true from decide_eq_true ⟨rfl, rfl, rfl⟩]
    have HB := Lib.hid (M4.out.keep hb4).below
    clear hb4 BR M4 N4 HWX HDE HLE e0 e1 e2 f0 f1 f2
    have hl2 : l.length ≤ 140737488355328 := by omega
    go_wp2_with fail
    refine (decode_any w4 bv l (RdV.below HV.out HB.out) hl2).mono ?_
    rintro e w5 ⟨hb5, hp⟩
    have HB5 := Lib.hid (HB.out.trans (hb5.mono HB.out.size))
    clear hb5 HB
    rcases hp with ⟨hn, rfl⟩ | ⟨o2, a2, hs2, lv2, hd, rfl, hrd⟩
    · clear hn
      unfold mV
      have B6 := Lib.hid (HB5.out.trans ((man_box w5 (.string ⟨#[]⟩) (.string ⟨#[]⟩) (.slice none 0 0)).2.mono HB5.out.size))
      go_wp2_with (refine wpList_store_row rfl _ _ _ rfl w5.heap.size #[.string ⟨#[]⟩, .string ⟨#[]⟩, .slice none 0 0] rfl rfl 24 #[.string ⟨#[]⟩, .string ⟨#[]⟩, .slice none 0 0] (heap_alloc_new w5 _) (by kernel_rfl) rfl (by kernel_rfl) ?_)
      refine (live_any _).mono ?_
      rintro e w7 ⟨rfl, hb7⟩
      have B7 := Lib.hid (B6.out.trans (hb7.mono B6.out.size))
      clear hb7 B6
      go_wp2
      go_ret
      exact ⟨rfl, B7.out⟩
    · obtain ⟨h0, h32, henc⟩ := enc_dec hd
      obtain ⟨l2, c2, rfl⟩ := hrd.slice
      have BX := man_box w5 (.string ⟨o2.toArray⟩) (.string ⟨a2.toArray⟩) (.slice l2 hs2.length c2)
      have BR := Lib.hid BX.1
      have B6 := Lib.hid (HB5.out.trans (BX.2.mono HB5.out.size))
      have RD6 := Lib.hid (hrd.below BX.2)
      have HE := Lib.hid henc; have H0 := Lib.hid h0
      clear BX hrd henc h0 h32 hd
      unfold mV
      go_wp2_with (first
        | refine wpList_store_row rfl _ _ _ rfl w5.heap.size #[.string ⟨o2.toArray⟩, .string ⟨a2.toArray⟩, .slice l2 hs2.length c2] rfl rfl 24 #[.string ⟨#[]⟩, .string ⟨#[]⟩, .slice none 0 0] (heap_alloc_new w5 _) (by kernel_rfl) rfl (by kernel_rfl) ?_
        | refine wpList_load_row rfl _ _ rfl w5.heap.size rfl 24 #[.string ⟨o2.toArray⟩, .string ⟨a2.toArray⟩, .slice l2 hs2.length c2] (0, 0) _ BR.out Tryd.underlying24 rfl (by kernel_rfl) ?_)
      refine (encode_any _ ⟨o2.toArray⟩ ⟨a2.toArray⟩ (.slice l2 hs2.length c2) hs2 RD6.out).mono ?_
      rintro e w7 ⟨hb7, hp⟩
      have B7 := Lib.hid (B6.out.trans (hb7.mono B6.out.size))
      clear hb7 B6 RD6
      rcases hp with ⟨_, r2, rfl, hown⟩ | ⟨hx, _⟩
      · rw [HE.out] at hown
        have S7 := Lib.hid (RdV_of_owns hown)
        clear hown
        go_wp2_with fail
        refine (live_any _).mono ?_
        rintro e w8 ⟨rfl, hb8⟩
        have S8 := Lib.hid (RdV.below S7.out hb8)
        have B8 := Lib.hid (B7.out.trans (hb8.mono B7.out.size))
        clear hb8 B7 S7
        go_wp2_with fail
        refine (same_any w8 bv r2 l l (RdV.below HV.out B8.out) S8.out hl2 hl2).mono ?_
        rintro e w' ⟨rfl, n, rfl⟩
        rw [show decide (l = l) = true from decide_eq_true rfl]
        go_wp2
        go_ret
        exact ⟨rfl, ⟨B8.out.os, B8.out.tape, B8.out.output, B8.out.size, B8.out.block⟩⟩
      · exact absurd H0.out hx
  · have hne : (rightOf o.data.toList a.data.toList hs.length == 0) = false := by simpa using h0
    have HB := Lib.hid M2.out.below
    clear h0 M2 HDE HLE
    have hl2 : l.length ≤ 140737488355328 := by omega
    go_wp2_with fail
    refine (decode_any w2 bv l (RdV.below HV.out HB.out) hl2).mono ?_
    rintro e w5 ⟨hb5, hp⟩
    have HB5 := Lib.hid (HB.out.trans (hb5.mono HB.out.size))
    clear hb5 HB
    rcases hp with ⟨hn, rfl⟩ | ⟨o2, a2, hs2, lv2, hd, rfl, hrd⟩
    · clear hn
      unfold mV
      have B6 := Lib.hid (HB5.out.trans ((man_box w5 (.string ⟨#[]⟩) (.string ⟨#[]⟩) (.slice none 0 0)).2.mono HB5.out.size))
      go_wp2_with (refine wpList_store_row rfl _ _ _ rfl w5.heap.size #[.string ⟨#[]⟩, .string ⟨#[]⟩, .slice none 0 0] rfl rfl 24 #[.string ⟨#[]⟩, .string ⟨#[]⟩, .slice none 0 0] (heap_alloc_new w5 _) (by kernel_rfl) rfl (by kernel_rfl) ?_)
      refine (live_any _).mono ?_
      rintro e w7 ⟨rfl, hb7⟩
      have B7 := Lib.hid (B6.out.trans (hb7.mono B6.out.size))
      clear hb7 B6
      go_wp2
      go_ret
      exact ⟨rfl, B7.out⟩
    · obtain ⟨h0, h32, henc⟩ := enc_dec hd
      obtain ⟨l2, c2, rfl⟩ := hrd.slice
      have BX := man_box w5 (.string ⟨o2.toArray⟩) (.string ⟨a2.toArray⟩) (.slice l2 hs2.length c2)
      have BR := Lib.hid BX.1
      have B6 := Lib.hid (HB5.out.trans (BX.2.mono HB5.out.size))
      have RD6 := Lib.hid (hrd.below BX.2)
      have HE := Lib.hid henc; have H0 := Lib.hid h0
      clear BX hrd henc h0 h32 hd
      unfold mV
      go_wp2_with (first
        | refine wpList_store_row rfl _ _ _ rfl w5.heap.size #[.string ⟨o2.toArray⟩, .string ⟨a2.toArray⟩, .slice l2 hs2.length c2] rfl rfl 24 #[.string ⟨#[]⟩, .string ⟨#[]⟩, .slice none 0 0] (heap_alloc_new w5 _) (by kernel_rfl) rfl (by kernel_rfl) ?_
        | refine wpList_load_row rfl _ _ rfl w5.heap.size rfl 24 #[.string ⟨o2.toArray⟩, .string ⟨a2.toArray⟩, .slice l2 hs2.length c2] (0, 0) _ BR.out Tryd.underlying24 rfl (by kernel_rfl) ?_)
      refine (encode_any _ ⟨o2.toArray⟩ ⟨a2.toArray⟩ (.slice l2 hs2.length c2) hs2 RD6.out).mono ?_
      rintro e w7 ⟨hb7, hp⟩
      have B7 := Lib.hid (B6.out.trans (hb7.mono B6.out.size))
      clear hb7 B6 RD6
      rcases hp with ⟨_, r2, rfl, hown⟩ | ⟨hx, _⟩
      · rw [HE.out] at hown
        have S7 := Lib.hid (RdV_of_owns hown)
        clear hown
        go_wp2_with fail
        refine (live_any _).mono ?_
        rintro e w8 ⟨rfl, hb8⟩
        have S8 := Lib.hid (RdV.below S7.out hb8)
        have B8 := Lib.hid (B7.out.trans (hb8.mono B7.out.size))
        clear hb8 B7 S7
        go_wp2_with fail
        refine (same_any w8 bv r2 l l (RdV.below HV.out B8.out) S8.out hl2 hl2).mono ?_
        rintro e w' ⟨rfl, n, rfl⟩
        rw [show decide (l = l) = true from decide_eq_true rfl]
        go_wp2
        go_ret
        exact ⟨rfl, ⟨B8.out.os, B8.out.tape, B8.out.output, B8.out.size, B8.out.block⟩⟩
      · exact absurd H0.out hx
end Go.Proofs.YtkpcmgacjhjllaaDoor
