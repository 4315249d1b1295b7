/- The contract of ManifestReads: at whatever bytes. -/
import Derived.Test.YtkpcmgacjhjllaaDoorLiveM
import Derived.Test.YtkpcmgacjhjllaaDoorSameM
import Derived.Test.YtkpcmgacjhjllaaDoorDecOwn
namespace Go.Proofs.YtkpcmgacjhjllaaDoor
open Go.RowKit

/-- Both Decodes tell the same. -/
theorem dec_uni (l : List UInt8) : ∃ (o a : List UInt8) (hs : List (List UInt8)) (k : Int), ∀ (w' : World) (B : Nat) (e : Ending),
    ((decOf l = none ∧ e = .returned (.tuple #[mV ⟨#[]⟩ ⟨#[]⟩ (.slice none 0 0), .int .i64 3])) ∨ ∃ o a hs lv, decOf l = some (o, a, hs) ∧ e = .returned (.tuple #[mV ⟨o.toArray⟩ ⟨a.toArray⟩ lv, .int .i64 0]) ∧ OwnH w' B lv hs) →
    ∃ lv, e = .returned (.tuple #[mV ⟨o.toArray⟩ ⟨a.toArray⟩ lv, .int .i64 k]) ∧ OwnH w' B lv hs := by
  cases h : decOf l with
  | none =>
    refine ⟨[], [], [], 3, fun w' B e hp => ?_⟩
    rcases hp with ⟨_, rfl⟩ | ⟨_, _, _, _, hd, _⟩
    · exact ⟨_, rfl, OwnH.nil w' B⟩
    · cases hd
  | some x =>
    obtain ⟨o, a, hs⟩ := x
    refine ⟨o, a, hs, 0, fun w' B e hp => ?_⟩
    rcases hp with ⟨hd, _⟩ | ⟨o', a', hs', lv, hd, rfl, hown⟩
    · cases hd
    · simp only [Option.some.injEq, Prod.mk.injEq] at hd
      obtain ⟨rfl, rfl, rfl⟩ := hd
      exact ⟨lv, rfl, hown⟩
/-- While the copy is written over: both manifests are as they were. -/
structure RdsW (w wr : World) (r : Value) (n g b4 b6 B4 B6 : Nat) (o a : ByteArray) (v4 v6 : Value) (hs : List (List UInt8)) : Prop where
  below : Below w.heap.size w wr
  box4 : wr.heap[b4]? = some (.cells #[.string o, .string a, v4] 24 (0, 0))
  box6 : wr.heap[b6]? = some (.cells #[.string o, .string a, v6] 24 (0, 0))
  h4 : OwnH wr B4 v4 hs
  h6 : OwnH wr B6 v6 hs
  own : ∃ ad c, r = .slice ad n c ∧ (n = 0 ∨ ∃ cs, ad = some ⟨g, 0, none⟩ ∧ wr.heap[g]? = some (.cells cs 5 (0, 0)) ∧ n ≤ cs.size)
  apart : 0 < n → g ≠ b4 ∧ g ≠ b6 ∧ g < B4 ∧ g < B6 ∧ w.heap.size ≤ g
theorem RdsW.slice {w wr : World} {r : Value} {n g b4 b6 B4 B6 : Nat} {o a : ByteArray} {v4 v6 : Value} {hs : List (List UInt8)} (M : RdsW w wr r n g b4 b6 B4 B6 o a v4 v6 hs) : ∃ ad c, r = .slice ad n c := by
  obtain ⟨ad, c, h, _⟩ := M.own
  exact ⟨ad, c, h⟩
theorem RdsW.set {w wr : World} {ad : Option Addr} {c : Nat} {n g b4 b6 B4 B6 : Nat} {o a : ByteArray} {v4 v6 : Value} {hs : List (List UInt8)} (M : RdsW w wr (.slice ad n c) n g b4 b6 B4 B6 o a v4 v6 hs) {i : Nat} (hi : i < n) :
    ad = some ⟨g, 0, none⟩ ∧ (∃ x, wr.cell? ⟨g, i, none⟩ = some x) ∧ wr.frozen? ⟨g, i, none⟩ = false ∧ ∀ y, RdsW w (wr.setCell ⟨g, i, none⟩ y) (.slice ad n c) n g b4 b6 B4 B6 o a v4 v6 hs := by
  obtain ⟨ad', c', hr, h0 | ⟨cs, hs', hrow, hn⟩⟩ := M.own
  · omega
  · cases hr
    obtain ⟨a1, a2, a3, a4, a5⟩ := M.apart (by omega)
    have hk := fun (B : Nat) (v : Value) (hB : g < B) (h : OwnH wr B v hs) (y : Value) => (⟨World.ownsRow.kept h.1 (grown_setCell wr g i y) (.inr (fun e => by have := (World.ownsRow.lt h.1 _ e).1; omega)), h.2⟩ : OwnH (wr.setCell ⟨g, i, none⟩ y) B v hs)
    refine ⟨hs', ⟨cs[i]'(by omega), ?_⟩, frozen_of_row wr _ _ _ _ hrow, fun y => ⟨M.below.setCell a5 y, ?_, ?_, hk _ _ a3 M.h4 y, hk _ _ a4 M.h6 y, ⟨ad, c, rfl, .inr ⟨_, hs', heap_setCell_same _ _ _ _ _ _ hrow, by simpa using hn⟩⟩, M.apart⟩⟩
    · rw [cell_of_row wr g i _ _ _ hrow, Array.getElem?_eq_getElem]
    · rw [heap_setCell_other _ _ _ _ (fun e => a1 e.symm)]; exact M.box4
    · rw [heap_setCell_other _ _ _ _ (fun e => a2 e.symm)]; exact M.box6

set_option maxRecDepth 100000 in
set_option maxHeartbeats 4000000 in
theorem reads_any (w : World) (bv : Value) (l : List UInt8) (hv : RdB w bv l) (hl : l.length ≤ 140737488355200) :
    Calls Tryd.prog 5 #[bv] w fun e w' => e = .returned (.bool true) ∧ Below w.heap.size w w' := by
  have HV := Lib.hid hv
  have hl2 : l.length ≤ 140737488355328 := by omega
  obtain ⟨o, a, hs, k, huni⟩ := dec_uni l
  have HU := Lib.hid huni
  clear hv huni
  go_enter Tryd.func5, Tryd.ntmps5
  go_wp2_with fail
  refine (copy_any w bv l HV.out hl2).mono ?_
  rintro e w2 ⟨r, rfl, hown, hb2⟩
  have O2 := Lib.hid hown; have B2 := Lib.hid hb2
  have hrd2 := RdV_of_owns hown
  clear hown hb2
  go_wp2_with fail
  refine (decode_own w2 r l hrd2 hl2).mono ?_
  rintro e w3 ⟨hb3, hp⟩
  obtain ⟨v4, rfl, h4⟩ := HU.out _ _ _ hp
  have H4 := Lib.hid h4; have B3 := Lib.hid hb3
  obtain ⟨la, ca, rfl⟩ := h4.rd.slice
  clear hp h4 hb3 hrd2
  unfold mV
  go_wp2_with fail
  have hbx : Below w3.heap.size w3 (w3.alloc (.cells #[.string ⟨o.toArray⟩, .string ⟨a.toArray⟩, .slice la hs.length ca] 24)) := (Below.refl _ _).alloc (Nat.le_refl _) _
  have X4 := Lib.hid (heap_alloc_new w3 (.cells #[.string ⟨o.toArray⟩, .string ⟨a.toArray⟩, .slice la hs.length ca] 24))
  have BX := Lib.hid hbx
  clear hbx
  have HSZ : Hid ((w3.alloc (.cells #[.string ⟨o.toArray⟩, .string ⟨a.toArray⟩, .slice la hs.length ca] 24)).heap.size = w3.heap.size + 1) := by show _ = _; simp
  revert X4 BX HSZ
  generalize w3.alloc (.cells #[.string ⟨o.toArray⟩, .string ⟨a.toArray⟩, .slice la hs.length ca] 24) = wx
  intro X4 BX HSZ
  have BW : Hid (Below w.heap.size w wx) := (B2.out.trans (B3.out.mono B2.out.size)).trans (BX.out.mono (by have := B2.out.size; have := B3.out.size; omega))
  refine (decref_any wx bv l (RdV.below HV.out BW.out) hl2).mono ?_
  rintro e w5 ⟨hb5, hp⟩
  obtain ⟨v6, rfl, h6⟩ := HU.out _ _ _ hp
  have H6 := Lib.hid h6; have B5 := Lib.hid hb5
  obtain ⟨lb, cb, rfl⟩ := h6.rd.slice
  clear hp h6 hb5
  unfold mV
  go_wp2_with fail
  have hbx : Below w5.heap.size w5 (w5.alloc (.cells #[.string ⟨o.toArray⟩, .string ⟨a.toArray⟩, .slice lb hs.length cb] 24)) := (Below.refl _ _).alloc (Nat.le_refl _) _
  have X6 := heap_alloc_new w5 (.cells #[.string ⟨o.toArray⟩, .string ⟨a.toArray⟩, .slice lb hs.length cb] 24)
  have R0 : Hid (∃ g, RdsW w (w5.alloc (.cells #[.string ⟨o.toArray⟩, .string ⟨a.toArray⟩, .slice lb hs.length cb] 24)) r l.length g w3.heap.size w5.heap.size (w2.heap.size + 2) (wx.heap.size + 2) ⟨o.toArray⟩ ⟨a.toArray⟩ (.slice la hs.length ca) (.slice lb hs.length cb) hs) := by
    show ∃ g, _
    have s2 := B2.out.size; have s3 := B3.out.size; have s5 := B5.out.size; have sx := HSZ.out
    have hbw : Below w.heap.size w (w5.alloc (.cells #[.string ⟨o.toArray⟩, .string ⟨a.toArray⟩, .slice lb hs.length cb] 24)) := (BW.out.trans (B5.out.mono BW.out.size)).trans (hbx.mono (by omega))
    have q4 := (B5.out.trans (hbx.mono s5))
    have p4 := (q4.block _ (by omega)).trans X4.out
    have p5 := (H4.out.below BX.out).below q4
    have p6 := H6.out.below hbx
    have ho := own_below O2.out (B3.out.trans ((BX.out.mono s3).trans (q4.mono (by omega))))
    rcases O2.out.2 with ⟨hr, h0⟩ | ⟨g, cap, cur, hr, hB, hg, hn, hm, hs', htk⟩
    · exact ⟨0, hbw, p4, X6, p5, p6, ⟨_, _, by rw [hr, h0], .inl h0⟩, fun h => by omega⟩
    · have hgl : g < w2.heap.size := (Array.getElem?_eq_some_iff.1 hg).1
      refine ⟨g, hbw, p4, X6, p5, p6, ⟨_, _, hr, .inr ⟨cur, rfl, ?_, by omega⟩⟩, fun _ => ⟨by omega, by omega, by omega, by omega, hB⟩⟩
      rw [q4.block _ (by omega), BX.out.block _ (by omega), B3.out.block _ hgl]; exact hg
  revert R0
  generalize w5.alloc (.cells #[.string ⟨o.toArray⟩, .string ⟨a.toArray⟩, .slice lb hs.length cb] 24) = wy
  intro R0
  clear hbx X6 O2 B2 H4 B3 X4 BX HSZ BW H6 B5 HU HV
  obtain ⟨g, hR0⟩ := R0.out
  obtain ⟨ad, c, rfl⟩ := hR0.slice
  have R1 := Lib.hid hR0
  clear R0 hR0
  go_wp2
  go_loopw [8] (fun i wr => ∃ j : Nat, j ≤ l.length ∧ i = .int .i64 j ∧ Hid (RdsW w wr (.slice ad l.length c) l.length g w3.heap.size w5.heap.size (w2.heap.size + 2) (wx.heap.size + 2) ⟨o.toArray⟩ ⟨a.toArray⟩ (.slice la hs.length ca) (.slice lb hs.length cb) hs)) (fun i _ => l.length - (intOf i).toNat)
  case atStart => exact ⟨0, by omega, rfl, R1⟩
  case round =>
    obtain ⟨j, hj, rfl, M⟩ := hrel
    clear R1
    by_cases hlj : j < l.length
    · have hljz : (j : Int) < l.length := by omega
      obtain ⟨rfl, ⟨x, hx⟩, hfz, hset⟩ := M.out.set hlj
      have M2 := Lib.hid (hset (.int .u8 7))
      clear M hset
      go_wp2
      exact ⟨⟨j + 1, by omega, by go_num, M2⟩, by simp [intOf]; omega⟩
    · obtain rfl : j = l.length := by omega
      clear hlj hj
      go_wp2_with fail
      refine (live_any _).mono ?_
      rintro e w8 ⟨rfl, hb8⟩
      have s1 := (Array.getElem?_eq_some_iff.1 M.out.box4).1
      have s2 := (Array.getElem?_eq_some_iff.1 M.out.box6).1
      have R4 := Lib.hid ((hb8.block _ s1).trans M.out.box4)
      have R6 := Lib.hid ((hb8.block _ s2).trans M.out.box6)
      have D4 := Lib.hid ((M.out.h4.below hb8).rd)
      have D6 := Lib.hid ((M.out.h6.below hb8).rd)
      have B8 := Lib.hid (M.out.below.trans (hb8.mono M.out.below.size))
      have e0 : w8.cell? ⟨w3.heap.size, 0, none⟩ = some (.string ⟨o.toArray⟩) := (cell_of_row w8 _ 0 _ _ _ R4.out).trans rfl
      have e1 : w8.cell? ⟨w3.heap.size, 1, none⟩ = some (.string ⟨a.toArray⟩) := (cell_of_row w8 _ 1 _ _ _ R4.out).trans rfl
      have e2 : w8.cell? ⟨w3.heap.size, 2, none⟩ = some (.slice la hs.length ca) := (cell_of_row w8 _ 2 _ _ _ R4.out).trans rfl
      have f0 : w8.cell? ⟨w5.heap.size, 0, none⟩ = some (.string ⟨o.toArray⟩) := (cell_of_row w8 _ 0 _ _ _ R6.out).trans rfl
      have f1 : w8.cell? ⟨w5.heap.size, 1, none⟩ = some (.string ⟨a.toArray⟩) := (cell_of_row w8 _ 1 _ _ _ R6.out).trans rfl
      have f2 : w8.cell? ⟨w5.heap.size, 2, none⟩ = some (.slice lb hs.length cb) := (cell_of_row w8 _ 2 _ _ _ R6.out).trans rfl
      clear M hb8 s1 s2
      go_wp2_with (first
        | refine wpList_load_row rfl _ _ rfl w3.heap.size rfl 24 #[.string ⟨o.toArray⟩, .string ⟨a.toArray⟩, .slice la hs.length ca] (0, 0) _ R4.out Tryd.underlying24 rfl (by kernel_rfl) ?_
        | refine wpList_load_row rfl _ _ rfl w5.heap.size rfl 24 #[.string ⟨o.toArray⟩, .string ⟨a.toArray⟩, .slice lb hs.length cb] (0, 0) _ R6.out Tryd.underlying24 rfl (by kernel_rfl) ?_)
      refine (sameM_any w8 ⟨o.toArray⟩ ⟨a.toArray⟩ (.slice la hs.length ca) hs ⟨o.toArray⟩ ⟨a.toArray⟩ (.slice lb hs.length cb) hs D4.out D6.out).mono ?_
      rintro e w9 ⟨rfl, hb9⟩
      rw [show SameM ⟨o.toArray⟩ ⟨a.toArray⟩ hs ⟨o.toArray⟩ ⟨a.toArray⟩ hs = true from decide_eq_true ⟨rfl, rfl, rfl⟩]
      have B9 := Lib.hid (B8.out.trans (hb9.mono B8.out.size))
      clear hb9 R4 R6 D4 D6 B8 e0 e1 e2 f0 f1 f2
      go_wp2
      go_ret
      exact ⟨rfl, B9.out⟩
end Go.Proofs.YtkpcmgacjhjllaaDoor
