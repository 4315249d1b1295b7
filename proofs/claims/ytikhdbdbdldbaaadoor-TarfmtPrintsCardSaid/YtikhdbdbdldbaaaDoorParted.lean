/- Contracts of tarfmt.parted and plain. -/
import Derived.Test.YtikhdbdbdldbaaaDoorSpan
import Derived.Test.YtikhdbdbdldbaaaDoorTarLast
import Derived.Test.YtikhdbdbdldbaaaDoorShelf
namespace Go.Proofs.YtikhdbdbdldbaaaDoor
open Go.RowKit

/-- A string of these bytes. -/
def bs (l : List UInt8) : ByteArray := ⟨l.toArray⟩
theorem bs_size (l : List UInt8) : (bs l).size = l.length := by simp [bs, ByteArray.size]
theorem bs_list (l : List UInt8) : (bs l).data.toList = l := by simp [bs]
theorem bs_eta (s : ByteArray) : bs s.data.toList = s := by cases s; simp [bs]
theorem bs_inj {a b : List UInt8} (h : bs a = bs b) : a = b := by rw [← bs_list a, h, bs_list]
theorem bs_ext {s : ByteArray} {l : List UInt8} (h : s.data.toList = l) : s = bs l := by rw [← h, bs_eta]
theorem bs_extract (l : List UInt8) (a b : Nat) : (bs l).extract a b = bs ((l.take b).drop a) := by
  apply bs_ext
  rw [ByteArray.data_extract]
  simp [bs, List.extract_eq_take_drop, List.drop_take]
def partedV (l : List UInt8) : Value := match partedL l with
  | none => .tuple #[.string (bs []), .string (bs []), .bool false]
  | some p => .tuple #[.string (bs p.1), .string (bs p.2), .bool true]
set_option maxRecDepth 100000 in
set_option maxHeartbeats 1000000 in
theorem parted_any (w : World) (l : List UInt8) (hl : l.length ≤ 9223372036854775807) :
    Calls Tryd.prog 24 #[.string (bs l)] w fun e w' => e = .returned (partedV l) ∧ Below w.heap.size w w' := by
  have rA := run_spanAt
  have rN := run_spanN
  have hsz := bs_size l
  have b0 : (l.length : Int) ≤ 9223372036854775807 := by omega
  by_cases h1 : l.length ≤ 100
  · have i1 : (l.length : Int) ≤ 100 := by omega
    have HP := Lib.hid (show partedV l = .tuple #[.string (bs []), .string (bs l), .bool true] by unfold partedV partedL; rw [if_pos h1])
    rw [HP.out]
    go_enter Tryd.func24, Tryd.ntmps24
    go_wp2_with fail
    refine (name_any _).mono ?_
    rintro e w2 ⟨rfl, hb2⟩
    go_wp2_with fail
    exact bodyPost_ret (v := .tuple #[.string (bs []), .string (bs l), .bool true]) (by simp [results, Tryd.results24, go_sem, bs]) rfl ⟨rfl, hb2⟩
  · have i1 : ¬ (l.length : Int) ≤ 100 := by omega
    obtain ⟨m, hm⟩ : ∃ m, m = min (l.length - 1) 156 := ⟨_, rfl⟩
    have hmi : min ((l.length : Int) - 1) 156 = (m : Int) := by omega
    have hml : (m : Int) ≤ (l.length : Int) := by omega
    have hex : (bs l).extract 0 m = bs (l.take m) := by rw [bs_extract]; rfl
    have hcall := Tryd.strings_LastIndexByte (bs (l.take m)) 47 (by rw [bs_size]; simp; omega)
    rw [parted_lib, bs_list] at hcall
    have HP := Lib.hid (show partedL l = match lastSl (l.take m) with
      | none => none
      | some i => if i < 1 ∨ 100 < l.length - i - 1 then none else some (l.take i, l.drop (i + 1)) by rw [hm]; unfold partedL; rw [if_neg h1]; rfl)
    have HM := Lib.hid hm; have HC := Lib.hid hcall
    clear hm hcall h1
    go_enter Tryd.func24, Tryd.ntmps24
    go_wp2_with fail
    refine (name_any _).mono ?_
    rintro e w2 ⟨rfl, hb2⟩
    go_wp2_with fail
    refine (prefix_any _).mono ?_
    rintro e w3 ⟨rfl, hb3⟩
    have HB3 := Lib.hid (hb2.trans (hb3.mono hb2.size))
    clear hb2 hb3
    go_wp2_with fail
    refine (HC.out w3).mono ?_
    rintro e w4 ⟨rfl, rfl⟩
    cases hs : lastSl (l.take m) with
    | none =>
      rw [hs] at HP
      have HP2 := Lib.hid (show partedV l = .tuple #[.string (bs []), .string (bs []), .bool false] by unfold partedV; rw [HP.out])
      clear HC HP hs
      go_wp2_with fail
      exact bodyPost_ret (v := partedV l) (by rw [HP2.out]; simp [results, Tryd.results24, go_sem, bs]) rfl ⟨rfl, HB3.out⟩
    | some i =>
      rw [hs] at HP
      have hil := lastSl_lt hs
      simp only [List.length_take] at hil
      have hil2 : i < l.length := by omega
      by_cases hi1 : i < 1
      · have HP2 := Lib.hid (show partedV l = .tuple #[.string (bs []), .string (bs []), .bool false] by unfold partedV; rw [HP.out]; simp [hi1])
        have i2 : (i : Int) < 1 := by omega
        clear HC HP hs
        go_wp2_with fail
        exact bodyPost_ret (v := partedV l) (by rw [HP2.out]; simp [results, Tryd.results24, go_sem, bs]) rfl ⟨rfl, HB3.out⟩
      · have i2 : ¬ (i : Int) < 1 := by omega
        have i0 : (0 : Int) ≤ (i : Int) := by omega
        have i3 : (i : Int) < (l.length : Int) := by omega
        have i5 : (i : Int) + 1 ≤ (l.length : Int) := by omega
        by_cases hi2 : 100 < l.length - i - 1
        · have HP2 := Lib.hid (show partedV l = .tuple #[.string (bs []), .string (bs []), .bool false] by unfold partedV; rw [HP.out]; simp [hi2])
          have i4 : (100 : Int) < (l.length : Int) - (i : Int) - 1 := by omega
          clear HC HP hs hi1 hi2
          go_wp2_with fail
          refine (name_any _).mono ?_
          rintro e w5 ⟨rfl, hb5⟩
          have HB5 := Lib.hid (HB3.out.trans (hb5.mono HB3.out.size))
          clear hb5
          go_wp2_with fail
          exact bodyPost_ret (v := partedV l) (by rw [HP2.out]; simp [results, Tryd.results24, go_sem, bs]) rfl ⟨rfl, HB5.out⟩
        · have HP2 := Lib.hid (show partedV l = .tuple #[.string (bs (l.take i)), .string (bs (l.drop (i + 1))), .bool true] by unfold partedV; rw [HP.out]; simp [hi1, hi2])
          have i4 : ¬ (100 : Int) < (l.length : Int) - (i : Int) - 1 := by omega
          have hx1 : (bs l).extract 0 i = bs (l.take i) := by rw [bs_extract]; rfl
          have hx2 : (bs l).extract (i + 1) l.length = bs (l.drop (i + 1)) := by rw [bs_extract, List.take_of_length_le (Nat.le_refl _)]
          clear HC HP hs hi1 hi2
          go_wp2_with fail
          refine (name_any _).mono ?_
          rintro e w5 ⟨rfl, hb5⟩
          have HB5 := Lib.hid (HB3.out.trans (hb5.mono HB3.out.size))
          clear hb5
          go_wp2_with fail
          go_quiet (fail)
          have HB6 := Lib.hid (show Below w.heap.size w (w5.drewN nq) from ⟨HB5.out.os, HB5.out.tape, HB5.out.output, HB5.out.size, HB5.out.block⟩)
          clear HB5
          revert HB6
          generalize w5.drewN nq = w6
          intro HB5
          go_wp2_with fail
          exact bodyPost_ret (v := partedV l) (by rw [HP2.out]; simp [results, Tryd.results24, go_sem]) rfl ⟨rfl, HB5.out⟩
theorem indexB (l : List UInt8) (c : UInt8) : (Lib.indexByte l c < 0) ↔ ∀ x ∈ l, x ≠ c := by
  induction l with
  | nil => simp [Lib.indexByte]
  | cons y l ih =>
    unfold Lib.indexByte
    have := Lib.indexByte_ge l c
    by_cases h : y = c
    · subst h; simp
    · by_cases h2 : Lib.indexByte l c = -1
      · simp [h, h2] at ih ⊢; exact ih
      · simp [h, h2] at ih ⊢
        have h3 : ¬ Lib.indexByte l c < 0 := by omega
        have h4 : ¬ ∀ x ∈ l, x ≠ c := fun q => h3 (ih.2 q)
        constructor
        · intro q; omega
        · intro q; exact absurd q h4
set_option maxRecDepth 100000 in
set_option maxHeartbeats 1000000 in
theorem plain_any (w : World) (l : List UInt8) (m : Nat) (hm : m ≤ 1000000) :
    Calls Tryd.prog 25 #[.string (bs l), .int .i64 (m : Int)] w fun e w' => e = .returned (.bool (plainL l m)) ∧ Below w.heap.size w w' := by
  have hsz := bs_size l
  have b0 : (m : Int) ≤ 1000000 := by omega
  by_cases h0 : l = []
  · have hE : (bs l).toList.isEmpty = true := by subst h0; rw [ByteArray.toList_eq]; rfl
    have HP := Lib.hid (show plainL l m = false by simp [plainL, h0])
    rw [HP.out]
    clear HP h0
    go_enter Tryd.func25, Tryd.ntmps25
    go_wp2_with fail
    go_ret
    exact ⟨ret_eq (by simp), Below.refl _ _⟩
  · have hE : (bs l).toList.isEmpty = false := by
      cases l with
      | nil => exact absurd rfl h0
      | cons x l => rw [show (bs (x :: l)).toList = x :: l from by rw [ByteArray.toList_eq]; exact bs_list _]; rfl
    by_cases h1 : l.length ≤ m
    · have i1 : (l.length : Int) ≤ (m : Int) := by omega
      have HC := Lib.hid (Tryd.strings_IndexByte (bs l) 0)
      rw [bs_list] at HC
      have HP := Lib.hid (show plainL l m = decide (Lib.indexByte l 0 < 0) by
        unfold plainL
        have := indexB l 0
        by_cases h2 : Lib.indexByte l 0 < 0
        · simp only [h2, decide_true, decide_eq_true_eq]; exact ⟨h0, h1, this.1 h2⟩
        · simp only [h2, decide_false, decide_eq_false_iff_not]; exact fun q => h2 (this.2 q.2.2))
      rw [HP.out]
      clear HP h0
      go_enter Tryd.func25, Tryd.ntmps25
      go_wp2_with fail
      refine (HC.out w).mono ?_
      rintro e w2 ⟨rfl, rfl⟩
      rw [show (0 : Int).toNat.toUInt8 = 0 from rfl]
      clear HC
      go_wp2_with fail
      go_ret
      exact ⟨ret_eq (by simp), Below.refl _ _⟩
    · have i1 : ¬ (l.length : Int) ≤ (m : Int) := by omega
      have HP := Lib.hid (show plainL l m = false by simp [plainL]; omega)
      rw [HP.out]
      clear HP h0
      go_enter Tryd.func25, Tryd.ntmps25
      go_wp2_with fail
      go_ret
      exact ⟨ret_eq (by simp), Below.refl _ _⟩
end Go.Proofs.YtikhdbdbdldbaaaDoor
