/- Contracts of tarfmt.filled, types, Sum. -/
import Derived.Test.YtikhdbdbdldbaaaDoorSpan
import Derived.Test.YtikhdbdbdldbaaaDoorTarLaw
namespace Go.Proofs.YtikhdbdbdldbaaaDoor
open Go.RowKit

theorem run_kinds (k : Int) (w : World) (hk : 1 ≤ k) (hk4 : k ≤ 4) : (Instr.index 74 (.agg #[.int .u8 0, .int .u8 48, .int .u8 53, .int .u8 50, .int .u8 49]) (.int .i64 k)).run Tryd.prog w = .ok (vB (kindB k)) w := by
  have h : k = 1 ∨ k = 2 ∨ k = 3 ∨ k = 4 := by omega
  rcases h with rfl | rfl | rfl | rfl <;>
  · simp [Instr.index, run_underlying Tryd.underlying74, asIntOf, go_sem]
    rfl
theorem filled_any (w : World) (n : Nat) (hn : n ≤ 1000000) :
    Calls Tryd.prog 21 #[.int .i64 (n : Int)] w fun e w' => e = .returned (.int .i64 ((filledL n : Nat) : Int)) ∧ Below w.heap.size w w' := by
  have b0 : (n : Int) ≤ 1000000 := by omega
  go_enter Tryd.func21, Tryd.ntmps21
  go_wp2_with fail
  go_ret
  refine ⟨ret_eq ?_, Below.refl _ _⟩
  unfold filledL
  simp
  omega
set_option maxRecDepth 100000 in
theorem types_any (w : World) (k : Int) (hk : 1 ≤ k) (hk4 : k ≤ 4) :
    Calls Tryd.prog 39 #[.int .i64 k] w fun e w' => e = .returned (vB (kindB k)) ∧ Below w.heap.size w w' := by
  have hr := run_kinds k w hk hk4
  go_enter Tryd.func39, Tryd.ntmps39
  go_wp2_with fail
  go_ret
  exact ⟨ret_eq (by simp), Below.refl _ _⟩
def sumB (i : Nat) (x : UInt8) : Nat := if 148 ≤ i ∧ i < 156 then 32 else x.toNat
def sumTo : Nat → List UInt8 → Nat
  | _, [] => 0
  | i, x :: l => sumB i x + sumTo (i + 1) l
theorem sumTo_app (i : Nat) (a b : List UInt8) : sumTo i (a ++ b) = sumTo i a + sumTo (i + a.length) b := by
  induction a generalizing i with
  | nil => simp [sumTo]
  | cons x a ih => simp only [List.cons_append, sumTo, ih, List.length_cons]; rw [show i + 1 + a.length = i + (a.length + 1) by omega]; omega
theorem sumTo_out (i : Nat) (l : List UInt8) (h : i + l.length ≤ 148 ∨ 156 ≤ i) : sumTo i l = (l.map (·.toNat)).sum := by
  induction l generalizing i with
  | nil => rfl
  | cons x l ih =>
    simp only [sumTo, List.map_cons, List.sum_cons, sumB, List.length_cons] at *
    rw [if_neg (by omega), ih (i + 1) (by omega)]
theorem sumTo_in (i : Nat) (l : List UInt8) (h : 148 ≤ i ∧ i + l.length ≤ 156) : sumTo i l = 32 * l.length := by
  induction l generalizing i with
  | nil => rfl
  | cons x l ih =>
    simp only [sumTo, sumB, List.length_cons] at *
    rw [if_pos (by omega), ih (i + 1) (by omega)]; omega
theorem sumTo_512 (h : List UInt8) (hl : h.length = 512) : sumTo 0 h = sumH h := by
  have e : h = h.take 148 ++ ((h.drop 148).take 8 ++ h.drop 156) := by
    rw [show h.drop 156 = (h.drop 148).drop 8 by simp, List.take_append_drop, List.take_append_drop]
  unfold sumH
  rw [if_pos hl]
  conv => lhs; rw [e]
  rw [sumTo_app, sumTo_app, sumTo_out 0 _ (by simp; omega), sumTo_in _ _ (by simp; omega), sumTo_out _ _ (by simp; omega)]
  simp
  omega
theorem sumTo_take (h : List UInt8) (i : Nat) (hi : i < h.length) : sumTo 0 (h.take (i + 1)) = sumTo 0 (h.take i) + sumB i h[i] := by
  rw [List.take_succ_eq_append_getElem hi, sumTo_app]
  simp [sumTo, Nat.min_eq_left (Nat.le_of_lt hi)]
theorem sumTo_le (i : Nat) (l : List UInt8) : sumTo i l ≤ 255 * l.length := by
  induction l generalizing i with
  | nil => simp [sumTo]
  | cons x l ih =>
    have := ih (i + 1)
    have hx : sumB i x ≤ 255 := by unfold sumB; split; · omega
                                   · have := x.toNat_lt; omega
    simp only [sumTo, List.length_cons]; omega
set_option maxRecDepth 100000 in
set_option maxHeartbeats 1000000 in
theorem tarSum_any (w : World) (v : Value) (h : List UInt8) (hr : RdV w v (h.map vB)) (hlen : h.length ≤ 9223372036854775807) :
    Calls Tryd.prog 16 #[v] w fun e w' => e = .returned (.int .i64 (sumH h : Nat)) ∧ Below w.heap.size w w' := by
  obtain ⟨a, cap, rfl, hle⟩ : ∃ a cap, v = .slice a h.length cap ∧ h.length ≤ cap := by
    rcases hr with ⟨rfl, hx⟩ | ⟨a, cap, rfl, hle, hc⟩
    · simp at hx; subst hx; exact ⟨none, 0, rfl, by simp⟩
    · refine ⟨some a, cap, by simp, by simpa using hle⟩
  have HR := Lib.hid hr
  clear hr
  have b0 : (h.length : Int) ≤ 9223372036854775807 := by omega
  by_cases h5 : h.length = 512
  · have hz : sumH h = sumTo 0 h := (sumTo_512 h h5).symm
    rw [hz]
    have HZ := Lib.hid h5
    have hle2 : 512 ≤ cap := by omega
    have HR := Lib.hid (show RdV w (.slice a 512 cap) (h.map vB) by have := HR.out; rwa [h5] at this)
    rw [h5]
    clear hle h5 hz b0 hlen
    have rA := run_spanAt
    have rN := run_spanN
    go_enter Tryd.func16, Tryd.ntmps16
    go_wp2_with fail
    go_loopw [3, 11] (fun n i wr => ∃ j : Nat, j ≤ 512 ∧ n = .int .i64 ((sumTo 0 (h.take j) : Nat) : Int) ∧ i = .int .i64 (j : Int) ∧ Below w.heap.size w wr) (fun _ i _ => (512 - intOf i).toNat)
    case atStart => exact ⟨0, by omega, by simp [sumTo], by simp, Below.refl _ _⟩
    case round =>
      obtain ⟨j, hj, rfl, rfl, hB⟩ := hrel
      have HB := Lib.hid hB
      clear hB
      by_cases hlt : j < 512
      · have h5' := HZ.out
        have hj2 : j < h.length := by omega
        obtain ⟨b, off, rfl, hcell⟩ : ∃ b off, a = some ⟨b, off, none⟩ ∧ wr.cell? ⟨b, off + j, none⟩ = some (vB h[j]) := by
          obtain ⟨a', cap', e, hc⟩ := (HR.out.below HB.out).open
          simp only [Value.slice.injEq] at e
          rw [e.1]
          exact hc j _ (by simp [hj2])
        have hx := (h[j]).toNat_lt
        have hs := sumTo_take h j hj2
        have hsl := sumTo_le 0 (h.take j)
        simp only [List.length_take] at hsl
        have hsl2 : sumTo 0 (h.take j) ≤ 130560 := by omega
        have HS := Lib.hid hs
        unfold vB n8 at hcell
        generalize h[j] = x at *
        generalize sumTo 0 (h.take j) = q at *
        have i0 : (j : Int) < 512 := by omega
        have q0 : (q : Int) ≤ 130560 := by omega
        clear hs hsl hsl2 hlt h5' hj2
        by_cases hin : 148 ≤ j
        · by_cases hin2 : j < 156
          · have i1 : (148 : Int) ≤ (j : Int) := by omega
            have i2 : (j : Int) < 156 := by omega
            have HF := Lib.hid (show sumB j x = 32 by unfold sumB; rw [if_pos ⟨hin, hin2⟩])
            clear hin hin2 hx
            go_wp2_with fail
            refine (sum_any _).mono ?_
            rintro e w2 ⟨rfl, hb2⟩
            go_wp2_with fail
            refine (sum_any _).mono ?_
            rintro e w3 ⟨rfl, hb3⟩
            go_wp2_with fail
            refine (sum_any _).mono ?_
            rintro e w4 ⟨rfl, hb4⟩
            have HB4 := Lib.hid (((HB.out.trans (hb2.mono HB.out.size)).trans (hb3.mono (Nat.le_trans HB.out.size hb2.size))).trans (hb4.mono (Nat.le_trans (Nat.le_trans HB.out.size hb2.size) hb3.size)))
            clear hb2 hb3 hb4
            go_wp2_with fail
            exact ⟨⟨j + 1, by omega, by rw [HS.out, HF.out]; simp, by simp, HB4.out⟩, by simp [intOf]; omega⟩
          · have i1 : (148 : Int) ≤ (j : Int) := by omega
            have i2 : ¬ (j : Int) < 156 := by omega
            have HF := Lib.hid (show sumB j x = x.toNat by unfold sumB; rw [if_neg (by omega)])
            clear hin hin2
            go_wp2_with fail
            refine (sum_any _).mono ?_
            rintro e w2 ⟨rfl, hb2⟩
            go_wp2_with fail
            refine (sum_any _).mono ?_
            rintro e w3 ⟨rfl, hb3⟩
            go_wp2_with fail
            refine (sum_any _).mono ?_
            rintro e w4 ⟨rfl, hb4⟩
            have HB4 := Lib.hid (((HB.out.trans (hb2.mono HB.out.size)).trans (hb3.mono (Nat.le_trans HB.out.size hb2.size))).trans (hb4.mono (Nat.le_trans (Nat.le_trans HB.out.size hb2.size) hb3.size)))
            clear hb2 hb3 hb4
            go_wp2_with fail
            exact ⟨⟨j + 1, by omega, by rw [HS.out, HF.out]; simp, by simp, HB4.out⟩, by simp [intOf]; omega⟩
        · have i1 : ¬ (148 : Int) ≤ (j : Int) := by omega
          have HF := Lib.hid (show sumB j x = x.toNat by unfold sumB; rw [if_neg (by omega)])
          clear hin
          go_wp2_with fail
          refine (sum_any _).mono ?_
          rintro e w2 ⟨rfl, hb2⟩
          have HB4 := Lib.hid (HB.out.trans (hb2.mono HB.out.size))
          clear hb2
          go_wp2_with fail
          exact ⟨⟨j + 1, by omega, by rw [HS.out, HF.out]; simp, by simp, HB4.out⟩, by simp [intOf]; omega⟩
      · have hj5 : j = 512 := by omega
        have H2 := HZ.out
        subst hj5
        rw [show h.take 512 = h from List.take_of_length_le (by omega)]
        go_wp2_with fail
        go_ret
        exact ⟨ret_eq (by simp), HB.out⟩
  · have hz : sumH h = 0 := by unfold sumH; rw [if_neg h5]
    rw [hz]
    have hN : ¬ (h.length : Int) = 512 := by omega
    go_enter Tryd.func16, Tryd.ntmps16
    go_wp2_with fail
    go_ret
    exact ⟨ret_eq (by simp), Below.refl _ _⟩
end Go.Proofs.YtikhdbdbdldbaaaDoor
