/- Contracts of manifest.Right and of the reference's Right, at whatever manifest. -/
import Derived.Test.YtkpcmgacjhjllaaDoorWordRef
namespace Go.Proofs.YtkpcmgacjhjllaaDoor
open Go.RowKit

/-- A manifest by value. -/
def mV (o a : ByteArray) (v : Value) : Value := .agg #[.string o, .string a, v]
def rightOf (o a : List UInt8) (n : Nat) : Int := if isWord o && isWord a then (if n ≤ 8 then 0 else 6) else 8

/-- A manifest's box behind what was there before. -/
structure MBox (w w1 : World) (o a : ByteArray) (v : Value) : Prop where
  below : Below w.heap.size w w1
  row : w1.heap[w.heap.size]? = some (.cells #[.string o, .string a, v] 24 (0, 0))
section
variable {w w1 w2 : World} {o a : ByteArray} {v : Value}
theorem MBox.lt (M : MBox w w1 o a v) : w.heap.size < w1.heap.size := (Array.getElem?_eq_some_iff.1 M.row).1
theorem MBox.c0 (M : MBox w w1 o a v) : w1.cell? ⟨w.heap.size, 0, none⟩ = some (.string o) := (cell_of_row w1 _ 0 _ _ _ M.row).trans rfl
theorem MBox.c1 (M : MBox w w1 o a v) : w1.cell? ⟨w.heap.size, 1, none⟩ = some (.string a) := (cell_of_row w1 _ 1 _ _ _ M.row).trans rfl
theorem MBox.c2 (M : MBox w w1 o a v) : w1.cell? ⟨w.heap.size, 2, none⟩ = some v := (cell_of_row w1 _ 2 _ _ _ M.row).trans rfl
theorem MBox.keepAt (M : MBox w w1 o a v) {B : Nat} (hB : w.heap.size < B) (hb : Below B w1 w2) : MBox w w2 o a v :=
  ⟨M.below.trans (hb.mono (by omega)), (hb.block _ hB).trans M.row⟩
theorem MBox.keep (M : MBox w w1 o a v) (hb : Below w1.heap.size w1 w2) : MBox w w2 o a v := M.keepAt M.lt hb
theorem MBox.drew (M : MBox w w1 o a v) (n : Nat) : MBox w (w1.drewN n) o a v := ⟨⟨M.below.os, M.below.tape, M.below.output, M.below.size, M.below.block⟩, M.row⟩
end
theorem mbox_new (w : World) (o a : ByteArray) (v : Value) : MBox w (w.alloc (.cells #[.string o, .string a, v] 24)) o a v :=
  ⟨(Below.refl _ _).alloc (Nat.le_refl _) _, heap_alloc_new w _⟩

set_option maxRecDepth 100000 in
set_option maxHeartbeats 1000000 in
theorem right_any (w : World) (o a : ByteArray) (la : Option Addr) (n c : Nat) :
    Calls Tryd.prog 20 #[mV o a (.slice la n c)] w fun e w' => e = .returned (.int .i64 (rightOf o.data.toList a.data.toList n)) ∧ Below w.heap.size w w' := by
  unfold mV
  go_enter Tryd.func20, Tryd.ntmps20
  go_wp2_with fail
  have M := Lib.hid (mbox_new w o a (.slice la n c))
  revert M
  generalize w.alloc (.cells #[.string o, .string a, .slice la n c] 24) = w1
  intro M
  refine (isword_any o w1).mono ?_
  rintro e w2 ⟨rfl, hb⟩
  have M2 := Lib.hid (M.out.keep hb)
  clear M hb
  cases h1 : isWord o.data.toList with
  | false =>
    have hr : rightOf o.data.toList a.data.toList n = 8 := by unfold rightOf; rw [h1]; rfl
    have HR := Lib.hid hr
    clear hr h1
    go_wp2
    go_ret
    exact ⟨by rw [HR.out]; rfl, M2.out.below⟩
  | true =>
    have k1 := M2.out.c1
    have k2 := M2.out.c2
    have H1 := Lib.hid h1
    clear h1
    go_wp2_with fail
    refine (isword_any a _).mono ?_
    rintro e w3 ⟨rfl, hb⟩
    have M3 := Lib.hid (M2.out.keep hb)
    clear M2 hb k1 k2
    have k2 := M3.out.c2
    cases h2 : isWord a.data.toList with
    | false =>
      have hr : rightOf o.data.toList a.data.toList n = 8 := by unfold rightOf; rw [h2, Bool.and_false]; rfl
      have HR := Lib.hid hr
      clear hr h2
      go_wp2
      go_ret
      exact ⟨by rw [HR.out]; rfl, M3.out.below⟩
    | true =>
      by_cases h8 : n ≤ 8
      · have hr : rightOf o.data.toList a.data.toList n = 0 := by unfold rightOf; rw [H1.out, h2]; simp [h8]
        have HR := Lib.hid hr
        have hz : ¬ (8 : Int) < n := by omega
        clear hr h2
        go_wp2
        go_ret
        exact ⟨by rw [HR.out]; rfl, M3.out.below⟩
      · have hr : rightOf o.data.toList a.data.toList n = 6 := by unfold rightOf; rw [H1.out, h2]; simp [h8]
        have HR := Lib.hid hr
        have hz : (8 : Int) < n := by omega
        clear hr h2
        go_wp2
        go_ret
        exact ⟨by rw [HR.out]; rfl, M3.out.below⟩

set_option maxRecDepth 100000 in
set_option maxHeartbeats 1000000 in
theorem rightref_any (w : World) (o a : ByteArray) (ho : o.size ≤ 9223372036854775807) (ha : a.size ≤ 9223372036854775807) (la : Option Addr) (n c : Nat) :
    Calls Tryd.prog 21 #[mV o a (.slice la n c)] w fun e w' => e = .returned (.int .i64 (rightOf o.data.toList a.data.toList n)) ∧ Below w.heap.size w w' := by
  unfold mV
  go_enter Tryd.func21, Tryd.ntmps21
  go_wp2_with fail
  have M := Lib.hid (mbox_new w o a (.slice la n c))
  revert M
  generalize w.alloc (.cells #[.string o, .string a, .slice la n c] 24) = w1
  intro M
  refine (iswordref_any o ho w1).mono ?_
  rintro e w2 ⟨rfl, rfl⟩
  have M2 := M
  clear M
  cases h1 : isWord o.data.toList with
  | false =>
    have hr : rightOf o.data.toList a.data.toList n = 8 := by unfold rightOf; rw [h1]; rfl
    have HR := Lib.hid hr
    clear hr h1
    go_wp2
    go_ret
    exact ⟨by rw [HR.out]; rfl, M2.out.below⟩
  | true =>
    have k1 := M2.out.c1
    have k2 := M2.out.c2
    have H1 := Lib.hid h1
    clear h1
    go_wp2_with fail
    refine (iswordref_any a ha _).mono ?_
    rintro e w3 ⟨rfl, rfl⟩
    have M3 := M2
    clear M2 k1 k2
    have k2 := M3.out.c2
    cases h2 : isWord a.data.toList with
    | false =>
      have hr : rightOf o.data.toList a.data.toList n = 8 := by unfold rightOf; rw [h2, Bool.and_false]; rfl
      have HR := Lib.hid hr
      clear hr h2
      go_wp2
      go_ret
      exact ⟨by rw [HR.out]; rfl, M3.out.below⟩
    | true =>
      by_cases h8 : n ≤ 8
      · have hr : rightOf o.data.toList a.data.toList n = 0 := by unfold rightOf; rw [H1.out, h2]; simp [h8]
        have HR := Lib.hid hr
        have hz : ¬ (8 : Int) < n := by omega
        clear hr h2
        go_wp2
        go_ret
        exact ⟨by rw [HR.out]; rfl, M3.out.below⟩
      · have hr : rightOf o.data.toList a.data.toList n = 6 := by unfold rightOf; rw [H1.out, h2]; simp [h8]
        have HR := Lib.hid hr
        have hz : (8 : Int) < n := by omega
        clear hr h2
        go_wp2
        go_ret
        exact ⟨by rw [HR.out]; rfl, M3.out.below⟩
end Go.Proofs.YtkpcmgacjhjllaaDoor
