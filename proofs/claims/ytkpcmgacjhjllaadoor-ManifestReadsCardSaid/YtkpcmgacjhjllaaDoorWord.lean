/- Contracts of manifest.IsWord and of the reference's IsWord, at whatever text. -/
import Derived.Test.YtkpcmgacjhjllaaDoorBase
import Derived.Test.YtkpcmgacjhjllaaDoorTail
import Derived.Test.YtkpcmgacjhjllaaDoorShelf
import Derived.Shelf.Strings.SlTrimAscii
import Derived.Lib.Strings
namespace Go.Proofs.YtkpcmgacjhjllaaDoor
open Go.RowKit

/-- The letters of a word. -/
def wordCs : List UInt8 := [97, 98, 99, 100, 101, 102, 103, 104, 105, 106, 107, 108, 109, 110, 111, 112, 113, 114, 115, 116, 117, 118, 119, 120, 121, 122, 48, 49, 50, 51, 52, 53, 54, 55, 56, 57, 45]
def wordB (c : UInt8) : Bool := wordCs.contains c
def isWord (l : List UInt8) : Bool := l.all wordB && decide (1 ≤ l.length) && decide (l.length ≤ 24)
theorem dropWhile_nil {p : UInt8 → Bool} : ∀ {l : List UInt8}, l.dropWhile p = [] ↔ l.all p = true
  | [] => by simp
  | x :: l => by
    cases h : p x with
    | true => simp [List.dropWhile, h, dropWhile_nil (l := l)]
    | false => simp [List.dropWhile, h]
theorem dropWhile_all {p : UInt8 → Bool} {l : List UInt8} (h : (l.dropWhile p).all p = true) : l.all p = true := by
  have := dropWhile_nil.2 h
  induction l with
  | nil => rfl
  | cons x l ih =>
    cases hx : p x with
    | true =>
      simp only [List.dropWhile, hx] at h this
      simp [hx, ih h this]
    | false =>
      simp only [List.dropWhile, hx] at h
      simp [hx] at h
theorem trimS_nil (l cs : List UInt8) : Lib.trimS l cs = [] ↔ l.all (cs.contains ·) = true := by
  unfold Lib.trimS Lib.trimLeftS Lib.trimRightS
  rw [dropWhile_nil, List.all_reverse]
  constructor
  · intro h
    have := dropWhile_all h
    rwa [List.all_reverse] at this
  · intro h
    have h2 : l.reverse.all (cs.contains ·) = true := by rw [List.all_reverse]; exact h
    rw [dropWhile_nil.2 h2]
    rfl

theorem zero116 : (Tryd.prog.info? (Tryd.lays160_ren.t 116)).map (fun i => (i.zero, i.size)) = some (some (.agg (Array.replicate 256 (.bool false))), 256) := by kernel_rfl
theorem trim_any (s : ByteArray) (w : World) (hs : s.size ≤ 9223372036854775807) :
    Calls Tryd.prog 31 #[.string s, .string ⟨wordCs.toArray⟩] w fun e w' => e = .returned (.string ⟨(Lib.trimS s.data.toList wordCs).toArray⟩) ∧ Below w.heap.size w w' :=
  Any.strings_Trim_laid Tryd.lays160 zero116 s ⟨wordCs.toArray⟩ w hs (by decide) (ascii_of_all (by decide))

theorem ba_size (s : ByteArray) : s.size = s.data.toList.length := rfl
theorem ba_empty {s : ByteArray} (h : s.data.toList.length ≠ 0) : s.toList.isEmpty = false := by
  rw [Lib.toList_data]
  cases hl : s.data.toList with
  | nil => rw [hl] at h; exact absurd rfl h
  | cons x l => rfl

set_option maxRecDepth 100000 in
set_option maxHeartbeats 1000000 in
theorem isword_any (s : ByteArray) (w : World) :
    Calls Tryd.prog 23 #[.string s] w fun e w' => e = .returned (.bool (isWord s.data.toList)) ∧ Below w.heap.size w w' := by
  by_cases h0 : s.data.toList.length = 0
  · have hs : s = ⟨#[]⟩ := by
      cases s with | mk d => cases d with | mk l => simp at h0; subst h0; rfl
    subst hs
    clear h0
    go_enter Tryd.func23, Tryd.ntmps23
    go_wp2_with fail
    go_ret
    exact ⟨rfl, Below.refl _ _⟩
  · have he := ba_empty h0
    by_cases h24 : s.size ≤ 24
    · have hz : (s.size : Int) ≤ 24 := by omega
      have hl : s.data.toList.length ≤ 24 := h24
      have hw : isWord s.data.toList = s.data.toList.all wordB := by
        unfold isWord
        rw [decide_eq_true (show 1 ≤ s.data.toList.length by omega), decide_eq_true hl]
        simp
      have HW := Lib.hid hw
      clear hw h0 hl
      go_enter Tryd.func23, Tryd.ntmps23
      go_wp2_with fail
      refine (trim_any s w (by omega)).mono ?_
      rintro e w1 ⟨rfl, hb⟩
      have HB := Lib.hid hb
      clear hb
      have ht : Lib.trimS s.data.toList wordCs = [] ↔ s.data.toList.all wordB = true := trimS_nil s.data.toList wordCs
      cases ha : s.data.toList.all wordB with
      | true =>
        rw [ht.2 ha]
        have HA := Lib.hid ha
        clear ht ha he hz
        go_wp2
        go_ret
        exact ⟨by rw [HW.out, HA.out]; rfl, HB.out⟩
      | false =>
        have hne : (Lib.trimS s.data.toList wordCs).length ≠ 0 := by
          intro h
          rw [ht.1 (List.eq_nil_of_length_eq_zero h)] at ha
          cases ha
        have hemp : (Lib.trimS s.data.toList wordCs).isEmpty = false := by
          cases h : Lib.trimS s.data.toList wordCs with
          | nil => rw [h] at hne; exact absurd rfl hne
          | cons x y => rfl
        have HA := Lib.hid ha
        clear ht ha he hz hne
        go_wp2
        go_ret
        exact ⟨by rw [HW.out, HA.out]; rfl, HB.out⟩
    · have hz : ¬ (s.size : Int) ≤ 24 := by omega
      have hw : isWord s.data.toList = false := by
        unfold isWord
        rw [decide_eq_false (show ¬ s.data.toList.length ≤ 24 from h24)]
        simp
      have HW := Lib.hid hw
      clear hw h0
      go_enter Tryd.func23, Tryd.ntmps23
      go_wp2_with fail
      go_ret
      exact ⟨by rw [HW.out]; rfl, Below.refl _ _⟩
end Go.Proofs.YtkpcmgacjhjllaaDoor
