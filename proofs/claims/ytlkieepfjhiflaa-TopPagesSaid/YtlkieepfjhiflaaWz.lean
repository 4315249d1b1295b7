/- The contracts of wal's zeros and two, and what they reckon with. -/
import Derived.Test.YtlkieepfjhiflaaFr
import Derived.Test.YtlkieepfjhiflaaCopy
import Derived.BigQuiet
namespace Go.Proofs.Ytlkieepfjhiflaa
open Go.RowKit

def allZ (l : List UInt8) : Bool := l.all (· == 0)
set_option maxRecDepth 100000 in
set_option maxHeartbeats 2000000 in
theorem isZ_any (w : World) (x : UInt8) : Calls Try.prog 66 #[vB x] w fun e w' => e = .returned (.bool (x != 0)) ∧ w' = w := by
  unfold vB n8
  have hx : (x != 0) = decide (x.toNat ≠ 0) := by
    by_cases h : x = 0
    · subst h; rfl
    · have : x.toNat ≠ 0 := fun q => h (UInt8.toNat_inj.1 (by rw [q]; rfl))
      simp [h, this]
  rw [hx]
  generalize x.toNat = q
  clear hx
  go_enter Try.func66, Try.ntmps66
  go_wp2_with fail
  go_ret
  exact ⟨ret_eq (by by_cases h : q = 0 <;> simp [h]), rfl⟩
/-- Where the first byte that is not 0 stands; -1. -/
def firstNZ : List UInt8 → Int
  | [] => -1
  | x :: l => if x = 0 then (if firstNZ l < 0 then -1 else firstNZ l + 1) else 0
theorem firstNZ_ge (l : List UInt8) : -1 ≤ firstNZ l := by
  induction l with
  | nil => simp [firstNZ]
  | cons x l ih =>
    unfold firstNZ
    split
    · split <;> omega
    · decide
theorem firstNZ_neg (l : List UInt8) : firstNZ l < 0 ↔ allZ l = true := by
  induction l with
  | nil => simp [firstNZ, allZ]
  | cons x l ih =>
    have h1 := firstNZ_ge l
    unfold firstNZ
    simp only [allZ, List.all_cons, Bool.and_eq_true, beq_iff_eq] at ih ⊢
    by_cases h : x = 0
    · rw [if_pos h]
      by_cases h2 : firstNZ l < 0
      · rw [if_pos h2]; simp [h, ih.1 h2]
      · rw [if_neg h2]
        constructor
        · intro q; omega
        · intro q; exact absurd (ih.2 q.2) h2
    · rw [if_neg h]; simp [h]
theorem firstNZ_at {l : List UInt8} {j : Nat} (hj : j < l.length) (h0 : allZ (l.take j) = true) (hx : l[j] ≠ 0) : firstNZ l = (j : Int) := by
  induction l generalizing j with
  | nil => simp at hj
  | cons y l ih =>
    cases j with
    | zero => unfold firstNZ; rw [if_neg (by simpa using hx)]; rfl
    | succ j =>
      simp only [List.take_succ_cons, allZ, List.all_cons, Bool.and_eq_true, beq_iff_eq] at h0
      have h2 := ih (by simpa using hj) h0.2 (by simpa using hx)
      unfold firstNZ
      rw [if_pos h0.1, h2, if_neg (by omega)]; simp
set_option maxRecDepth 100000 in
set_option maxHeartbeats 2000000 in
theorem indexNZ_any (w : World) (v : Value) (l : List UInt8) (hr : RdB w v l) (hl : l.length ≤ 9223372036854775807) :
    Calls Try.prog 80 #[v, .func (.func 66) #[] #[]] w fun e w' => e = .returned (.int .i64 (firstNZ l)) ∧ Below w.heap.size w w' := by
  obtain ⟨a, c, rfl, hc⟩ := RdB.open hr
  have HR := Lib.hid hr
  clear hr
  have b0 : (l.length : Int) ≤ 9223372036854775807 := by omega
  go_enter Try.func80, Try.ntmps80
  go_wp2_with fail
  go_loopw [8] (fun i wr => ∃ j : Nat, j ≤ l.length ∧ i = .int .i64 (j : Int) ∧ allZ (l.take j) = true ∧ Below w.heap.size w wr) (fun i _ => ((l.length : Int) - intOf i).toNat)
  case atStart => exact ⟨0, by omega, by simp, by simp [allZ], Below.refl _ _⟩
  case round =>
    obtain ⟨j, hj, rfl, hz, hB⟩ := hrel
    have HB := Lib.hid hB; have HZ := Lib.hid hz
    clear hB hz
    by_cases hlt : j < l.length
    · obtain ⟨b, off, rfl, hcell⟩ : ∃ b off, a = some ⟨b, off, none⟩ ∧ wr.cell? ⟨b, off + j, none⟩ = some (vB l[j]) := by
        obtain ⟨a', cap', e, hc⟩ := (RdV.below HR.out HB.out).open
        simp only [Value.slice.injEq] at e
        rw [e.1]
        exact hc j _ (by simp [hlt])
      have i0 : (j : Int) < (l.length : Int) := by omega
      have HC := Lib.hid (fun W => isZ_any W l[j])
      have HN := Lib.hid (show l[j] ≠ 0 → firstNZ l = (j : Int) from fun h => firstNZ_at hlt HZ.out h)
      have HZ2 := Lib.hid (show l[j] = 0 → allZ (l.take (j + 1)) = true by
        intro h; rw [List.take_succ_eq_append_getElem hlt]; have := HZ.out; simp only [allZ, List.all_append, List.all_cons, List.all_nil, h] at this ⊢; simp [this])
      unfold vB n8 at hcell HC
      generalize l[j] = x at *
      go_wp2_with fail
      refine (HC.out _).mono ?_
      rintro e w2 ⟨rfl, rfl⟩
      clear HC
      by_cases hx : x = 0
      · have hb : (x != 0) = false := by simp [hx]
        rw [hb]
        have HZ3 := Lib.hid (HZ2.out hx)
        clear hb HN HZ2
        go_wp2_with fail
        exact ⟨⟨j + 1, by omega, by simp, HZ3.out, HB.out⟩, by simp [intOf]; omega⟩
      · have hb : (x != 0) = true := by simp [hx]
        rw [hb]
        have HN2 := Lib.hid (HN.out hx)
        clear hb HN HZ2
        go_wp2_with fail
        exact bodyPost_ret (v := .int .i64 (j : Int)) (by simp [results, Try.results80, go_sem]) rfl ⟨by rw [HN2.out], HB.out⟩
    · obtain rfl : j = l.length := by omega
      have hn : firstNZ l = -1 := by
        have h1 := firstNZ_ge l
        have h2 := (firstNZ_neg l).2 (by have := HZ.out; rwa [List.take_length] at this)
        omega
      have HNN := Lib.hid hn
      clear hn
      go_wp2_with fail
      exact bodyPost_ret (v := .int .i64 (-1)) (by simp [results, Try.results80, go_sem]) rfl ⟨by rw [HNN.out], HB.out⟩
set_option maxRecDepth 100000 in
set_option maxHeartbeats 2000000 in
theorem zeros_any (w : World) (v : Value) (l : List UInt8) (hr : RdB w v l) (hl : l.length ≤ 9223372036854775807) :
    Calls Try.prog 56 #[v] w fun e w' => e = .returned (.bool (allZ l)) ∧ Below w.heap.size w w' := by
  have HC := Lib.hid (show Calls Try.prog 65 #[v, .func (.func 66) #[] #[]] w fun e w' => e = .returned (.bool (!allZ l)) ∧ Below w.heap.size w w' by
    have HI := Lib.hid (indexNZ_any w v l hr hl)
    have h1 := firstNZ_ge l
    have h2 := firstNZ_neg l
    have h3 : (!allZ l) = decide (0 ≤ firstNZ l) := by
      by_cases h : firstNZ l < 0
      · rw [h2.1 h]; simp; omega
      · have : allZ l = false := by
          cases hz : allZ l with
          | false => rfl
          | true => exact absurd (h2.2 hz) h
        rw [this]; simp; omega
    rw [h3]
    clear hr h2 h3
    generalize firstNZ l = q at *
    go_enter Try.func65, Try.ntmps65
    go_wp2_with fail
    refine HI.out.mono ?_
    rintro e w2 ⟨rfl, hb⟩
    have HB := Lib.hid hb
    clear hb
    go_wp2_with fail
    go_ret
    exact ⟨ret_eq (by simp), HB.out⟩)
  clear hr
  generalize allZ l = q at *
  go_enter Try.func56, Try.ntmps56
  go_wp2_with fail
  refine HC.out.mono ?_
  rintro e w2 ⟨rfl, hb⟩
  have HB := Lib.hid hb
  clear hb
  go_wp2_with fail
  go_ret
  exact ⟨ret_eq (by simp), HB.out⟩
theorem or_two (p q : Nat) (hp : p < 256) (hq : q < 256) : bits BinOp.or IntKind.i64 ((p : Int) * 256) (q : Int) = ((p * 256 + q : Nat) : Int) := by
  have h : p * 256 + q = (p * 256) ||| q := by
    have := Nat.shiftLeft_add_eq_or_of_lt (i := 8) (b := q) (by omega) p
    rw [Nat.shiftLeft_eq] at this
    exact this
  have e : (BitVec.ofInt IntKind.i64.bits ((p * 256 : Nat) : Int) ||| BitVec.ofInt IntKind.i64.bits (q : Int)).toNat = p * 256 + q := by
    rw [BitVec.ofInt_natCast, BitVec.ofInt_natCast, BitVec.toNat_or, BitVec.toNat_ofNat, BitVec.toNat_ofNat, show IntKind.i64.bits = 64 from rfl, Nat.mod_eq_of_lt (by omega), Nat.mod_eq_of_lt (by omega), h]
  unfold bits
  simp only
  rw [show ((p : Int) * 256) = ((p * 256 : Nat) : Int) by simp, e, IntKind.wrap_i64]
  omega
set_option maxRecDepth 100000 in
set_option maxHeartbeats 2000000 in
theorem two_any (w : World) (v : Value) (l : List UInt8) (n : Nat) (hr : RdB w v l) (h0 : l[0]? = some (UInt8.ofNat (n / 256))) (h1 : l[1]? = some (UInt8.ofNat n)) (hn : n < 65536) :
    Calls Try.prog 57 #[v] w fun e w' => e = .returned (.int .i64 (n : Int)) ∧ Fr [] w w' := by
  obtain ⟨a, cap, rfl, hc⟩ := RdB.open hr
  obtain ⟨l0, e0⟩ := List.getElem?_eq_some_iff.1 h0
  obtain ⟨l1, e1⟩ := List.getElem?_eq_some_iff.1 h1
  obtain ⟨b, off, rfl, c0⟩ := hc 0 l0
  obtain ⟨b', off', hx, c1⟩ := hc 1 l1
  simp only [Option.some.injEq, Addr.mk.injEq] at hx
  obtain ⟨rfl, rfl, _⟩ := hx
  rw [e0] at c0
  rw [e1] at c1
  have q0 : n8 (UInt8.ofNat (n / 256)) = ((n / 256 : Nat) : Int) := by unfold n8; rw [UInt8.toNat_ofNat']; omega
  have q1 : n8 (UInt8.ofNat n) = ((n % 256 : Nat) : Int) := by unfold n8; rw [UInt8.toNat_ofNat']
  rw [q0] at c0
  rw [q1] at c1
  obtain ⟨p, hp⟩ : ∃ p, p = n / 256 := ⟨_, rfl⟩
  obtain ⟨q, hq⟩ : ∃ q, q = n % 256 := ⟨_, rfl⟩
  rw [← hp] at c0
  rw [← hq] at c1
  have i0 : (1 : Int) < (l.length : Int) := by omega
  have i1 : (0 : Int) < (l.length : Int) := by omega
  have p0 : (p : Int) < 256 := by omega
  have p1 : (q : Int) < 256 := by omega
  have HN := Lib.hid (show n = p * 256 + q by omega)
  rw [Nat.add_zero] at c0
  clear hc h0 h1 e0 e1 q0 q1 hp hq hr l0 l1
  go_enter Try.func57, Try.ntmps57
  go_wp2_with fail
  refine wp_region_quiet_lit (by kernel_rfl) (by kernel_rfl) ?_
  have hor := or_two p q (by omega) (by omega)
  iterate 10 (go_big_quiet_step (fail))
  rw [show (p : Int) * 256 + (q : Int) = (n : Int) by have := HN.out; omega]
  go_big_quiet_step (fail)
  refine wpQuiet_nil ?_
  intro w' hw'
  obtain ⟨nq, rfl⟩ := hw'
  clear hor c0 c1
  go_wp2_with fail
  go_ret
  exact ⟨rfl, Fr.drewN w nq⟩
end Go.Proofs.Ytlkieepfjhiflaa
