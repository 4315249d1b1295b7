/- The contract of tarfmt.put: a number's digits, written into a field of a row. -/
import Derived.Test.YtikhdbdbdldbaaaDoorSpan
import Derived.Test.YtikhdbdbdldbaaaDoorTarLaw
import Derived.Laws.CopyOwn
namespace Go.Proofs.YtikhdbdbdldbaaaDoor
open Go.RowKit

/-- A block that is a row of bytes. -/
def HRow (w : World) (b : Nat) (L : List UInt8) : Prop := w.heap[b]? = some (.cells (L.map vB).toArray 5 (0, 0))
theorem HRow.cell {w : World} {b : Nat} {L : List UInt8} (h : HRow w b L) (i : Nat) (hi : i < L.length) : w.cell? ⟨b, i, none⟩ = some (vB L[i]) := by
  rw [cell_of_row w b i _ _ _ h, List.getElem?_toArray, List.getElem?_map, List.getElem?_eq_getElem hi]; rfl
theorem HRow.free {w : World} {b : Nat} {L : List UInt8} (h : HRow w b L) (i : Nat) : w.frozen? ⟨b, i, none⟩ = false := frozen_of_row w b i _ _ h
theorem HRow.set {w : World} {b : Nat} {L : List UInt8} (h : HRow w b L) (i : Nat) (x : UInt8) : HRow (w.setCell ⟨b, i, none⟩ (vB x)) b (L.set i x) := by
  unfold HRow at *
  rw [heap_setCell_same _ _ _ _ _ _ h]
  congr 2
  refine Array.ext' ?_
  simp
theorem splice_set {L : List UInt8} {o : Nat} {D : List UInt8} (x : UInt8) (ho : o + 1 + D.length ≤ L.length) : (splice L (o + 1) D).set o x = splice L o (x :: D) := by
  unfold splice
  have h1 : o < L.length := by omega
  rw [List.take_succ_eq_append_getElem h1, List.append_assoc, List.set_append_right _ _ (by simp; omega)]
  simp only [List.length_take, Nat.min_eq_left (Nat.le_of_lt h1), Nat.sub_self, List.set_cons_zero, List.length_cons, List.cons_append]
  rw [show o + (D.length + 1) = o + 1 + D.length by omega, List.nil_append]
theorem digs_cons (m : Nat) : ∀ v, digs v (m + 1) = UInt8.ofNat (48 + v / 8 ^ m % 8) :: digs v m := by
  induction m with
  | zero => intro v; simp [digs]
  | succ m ih =>
    intro v
    show digs (v / 8) (m + 1) ++ _ = _
    rw [ih (v / 8)]
    have e : v / 8 / 8 ^ m = v / 8 ^ (m + 1) := by rw [Nat.div_div_eq_div_mul, Nat.pow_succ, Nat.mul_comm]
    rw [e]
    rfl
theorem and7 (v : Nat) (h : v ≤ 1000000) : bits BinOp.and IntKind.i64 (v : Int) 7 = ((v % 8 : Nat) : Int) := by
  unfold bits
  simp
  have e1 : v % 2 ^ IntKind.i64.bits = v := Nat.mod_eq_of_lt (by simp [IntKind.bits]; omega)
  have e2 : 7 % 2 ^ IntKind.i64.bits = 2 ^ 3 - 1 := rfl
  rw [e1, e2, Nat.and_two_pow_sub_one_eq_mod, IntKind.wrap_i64]
  omega
theorem vB_dig (q : Nat) : vB (UInt8.ofNat (48 + q % 8)) = .int .u8 (48 + (q : Int) % 8) := by
  unfold vB n8
  congr 1
  rw [UInt8.toNat_ofNat']
  omega
set_option maxRecDepth 100000 in
set_option maxHeartbeats 1000000 in
theorem put_any (w : World) (b o n v : Nat) (L : List UInt8) (hL : HRow w b L) (hn : 2 ≤ n) (hn2 : n ≤ 512) (ho : o + n ≤ L.length) (hv : v ≤ 1000000) :
    Calls Tryd.prog 35 #[.slice (some ⟨b, o, none⟩) n n, .int .i64 (v : Int)] w fun e w' => e = .returned (.tuple #[]) ∧ HRow w' b (splice L o (digs v (n - 1))) ∧ Fr [b] w w' := by
  have HL := Lib.hid hL
  have b0 : (2 : Int) ≤ (n : Int) := by omega
  have b1 : (n : Int) ≤ 512 := by omega
  clear hL
  go_enter Tryd.func35, Tryd.ntmps35
  go_wp2_with fail
  go_loopw [4, 1] (fun i q wr => ∃ j : Nat, j ≤ n - 1 ∧ i = .int .i64 ((n : Int) - 2 - (j : Int)) ∧ q = .int .i64 ((v / 8 ^ j : Nat) : Int) ∧ HRow wr b (splice L (o + (n - 1 - j)) (digs v j)) ∧ Fr [b] w wr) (fun i _ _ => (intOf i + 1).toNat)
  case atStart => exact ⟨0, by omega, by simp, by simp, by rw [show o + (n - 1 - 0) = o + (n - 1) by omega]; simpa [digs, splice] using HL.out, Fr.refl _ _⟩
  case round =>
    obtain ⟨j, hj, rfl, rfl, hR, hF⟩ := hrel
    have HR := Lib.hid hR; have HF := Lib.hid hF
    clear hR hF
    by_cases hlt : j < n - 1
    · obtain ⟨i, hi⟩ : ∃ i : Nat, (n : Int) - 2 - (j : Int) = (i : Int) := ⟨n - 2 - j, by omega⟩
      have hi2 : i = n - 2 - j := by omega
      have i0 : (0 : Int) ≤ (i : Int) := by omega
      have i1 : (i : Int) < (n : Int) := by omega
      have hq : v / 8 ^ j ≤ 1000000 := Nat.le_trans (Nat.div_le_self _ _) hv
      have hand := and7 (v / 8 ^ j) hq
      have hsp : (splice L (o + (n - 1 - j)) (digs v j)).length = L.length := length_splice _ _ _ (by rw [digs_len]; omega)
      obtain ⟨old, hcell⟩ : ∃ old, wr.cell? ⟨b, o + i, none⟩ = some old := ⟨_, HR.out.cell (o + i) (by rw [hsp]; omega)⟩
      have hfree := HR.out.free (o + i)
      have hsh := fun q : Nat => shift_shr .i64 .u64 (q : Int) 3 (by omega) (by simp [IntKind.bits])
      have hN := HR.out.set (o + i) (UInt8.ofNat (48 + v / 8 ^ j % 8))
      have e1 : o + (n - 1 - j) = (o + i) + 1 := by omega
      rw [e1, splice_set _ (by rw [digs_len]; omega), ← digs_cons, vB_dig] at hN
      have HN := Lib.hid (show HRow (wr.setCell ⟨b, o + i, none⟩ (.int .u8 (48 + ((v / 8 ^ j : Nat) : Int) % 8))) b (splice L (o + (n - 1 - (j + 1))) (digs v (j + 1))) by rw [show o + (n - 1 - (j + 1)) = o + i by omega]; exact hN)
      have HFN := Lib.hid (HF.out.trans ((Fr.refl [b] wr).setCell (p := ⟨b, o + i, none⟩) (.inl (by simp)) (.int .u8 (48 + ((v / 8 ^ j : Nat) : Int) % 8))))
      have HD := Lib.hid (show v / 8 ^ j / 8 = v / 8 ^ (j + 1) by rw [Nat.div_div_eq_div_mul, Nat.pow_succ])
      rw [hi]
      have HI := Lib.hid hi; have HI2 := Lib.hid hi2
      generalize v / 8 ^ j = q at *
      clear hi hi2 hsp e1 hN
      go_wp2_with fail
      exact ⟨⟨j + 1, by omega, by have := HI.out; rw [show (i : Int) - 1 = (n : Int) - 2 - ((j + 1 : Nat) : Int) by omega], by rw [← HD.out]; rfl, HN.out, HFN.out⟩, by simp [intOf]⟩
    · have hjn : j = n - 1 := by omega
      have hneg : (n : Int) - 2 - (j : Int) = -1 := by omega
      have HR2 := Lib.hid (show HRow wr b (splice L o (digs v (n - 1))) by have := HR.out; rw [hjn] at this; simpa using this)
      rw [hneg]
      clear hjn hneg
      go_wp2_with fail
      go_end0
      exact ⟨rfl, HR2.out, HF.out⟩
end Go.Proofs.YtikhdbdbdldbaaaDoor
