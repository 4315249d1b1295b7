/- Contracts of tarfmt.number and sumOf. -/
import Derived.Test.YtikhdbdbdldbaaaDoorParLaw
import Derived.Test.YtikhdbdbdldbaaaDoorEnts
import Derived.BigQuiet
namespace Go.Proofs.YtikhdbdbdldbaaaDoor
open Go.RowKit

theorem octN_take {f : List UInt8} {j : Nat} (hj : j < f.length) {N : Nat} (h : octN (f.take j) 0 = some N) : octN (f.take (j + 1)) 0 = if f[j].toNat < 48 ∨ 55 < f[j].toNat then none else some (N * 8 + (f[j].toNat - 48)) := by
  rw [List.take_succ_eq_append_getElem hj, octN_snoc, h]
theorem numL_none {f : List UInt8} {k j : Nat} (hk : f.length = k + 1) (hj : j < k) (h : octN (f.take (j + 1)) 0 = none) : numL f = none := by
  have h2 : octN ((f.take k).take (j + 1)) 0 = none := by rw [List.take_take, Nat.min_eq_left (by omega)]; exact h
  unfold numL
  rw [hk, Nat.add_sub_cancel, octN_none h2]
theorem numL_end {f : List UInt8} {k N : Nat} (hk : f.length = k + 1) (h : octN (f.take k) 0 = some N) : numL f = if f.getD k 0 = 0 ∨ f.getD k 0 = 32 then some N else none := by
  unfold numL
  rw [hk, Nat.add_sub_cancel, h]
theorem or_dig (N d : Nat) (hN : N < 8589934592) (hd : d < 8) : bits BinOp.or IntKind.i64 ((N : Int) * 8) (d : Int) = ((N * 8 + d : Nat) : Int) := by
  unfold bits
  have e1 : ((N : Int) * 8) = ((N * 8 : Nat) : Int) := by simp
  rw [e1]
  simp
  have e2 : N * 8 % 2 ^ IntKind.i64.bits = N * 8 := Nat.mod_eq_of_lt (by simp [IntKind.bits]; omega)
  have e3 : d % 2 ^ IntKind.i64.bits = d := Nat.mod_eq_of_lt (by simp [IntKind.bits]; omega)
  have e4 : N * 8 ||| d = N * 8 + d := by
    have := Nat.two_pow_add_eq_or_of_lt (i := 3) (b := d) (by omega) N
    rw [show N * 8 = 2 ^ 3 * N by omega]; exact this.symm
  first
    | rw [e2, e3, e4, IntKind.wrap_i64]; omega
    | (have e5 : (N : Int) * 8 % 2 ^ IntKind.i64.bits = ((N * 8 : Nat) : Int) := by simp [IntKind.bits]; omega
       have e6 : ((N : Int) * 8).toNat = N * 8 := by omega
       rw [e5]; simp; rw [e6, e3, e4, IntKind.wrap_i64]; omega)
set_option maxRecDepth 100000 in
set_option maxHeartbeats 2000000 in
theorem number_any (w : World) (v : Value) (f : List UInt8) (hr : RdB w v f) (k : Nat) (hk : f.length = k + 1) (hk1 : k ≤ 11) :
    Calls Tryd.prog 52 #[v] w fun e w' => ∃ n : Nat, e = .returned (.tuple #[.int .i64 (n : Int), .bool (numL f).isSome]) ∧ (∀ m, numL f = some m → n = m) ∧ n ≤ 8589934592 ∧ Below w.heap.size w w' := by
  obtain ⟨a, c, rfl, hc⟩ := rd_slice hr
  have hr0 := hr
  rw [hk] at hc hr ⊢
  have HR := Lib.hid hr; have HK := Lib.hid hk
  clear hr hk hr0
  have b0 : (k : Int) ≤ 11 := by omega
  have b1 : (0 : Int) ≤ (k : Int) := by omega
  have b2 : (k : Int) + 1 ≤ (c : Int) := by omega
  go_enter Tryd.func52, Tryd.ntmps52
  go_wp2_with fail
  go_loopw [2, 14] (fun n i wr => ∃ (j N : Nat), j ≤ k ∧ n = .int .i64 (N : Int) ∧ i = .int .i64 (j : Int) ∧ octN (f.take j) 0 = some N ∧ Below w.heap.size w wr) (fun _ i _ => ((k : Int) - intOf i).toNat)
  case atStart => exact ⟨0, 0, by omega, by simp, by simp, by simp [octN], Below.refl _ _⟩
  case round =>
    obtain ⟨j, N, hj, rfl, rfl, hN, hB⟩ := hrel
    have HB := Lib.hid hB; have HN := Lib.hid hN
    have hNb : N < 8 ^ 11 := by
      have h1 := octN_lt _ _ _ hN
      have h2 : (f.take j).length ≤ 11 := by simp; omega
      have h3 : (8 : Nat) ^ (f.take j).length ≤ 8 ^ 11 := Nat.pow_le_pow_right (by omega) h2
      omega
    have n0 : (N : Int) < 8589934592 := by omega
    clear hB hN hNb
    by_cases hlt : j < k
    · have hjl : j < f.length := by have := HK.out; omega
      obtain ⟨b, off, rfl, hcell⟩ : ∃ b off, a = some ⟨b, off, none⟩ ∧ wr.cell? ⟨b, off + j, none⟩ = some (vB f[j]) := by
        obtain ⟨a', cap', e, hc⟩ := (RdV.below HR.out HB.out).open
        simp only [Value.slice.injEq] at e
        rw [e.1]
        exact hc j _ (by simp [hjl])
      have HT := Lib.hid (octN_take hjl HN.out)
      have i0 : (j : Int) < (k : Int) := by omega
      unfold vB n8 at hcell
      have hq := (f[j]).toNat_lt
      generalize f[j].toNat = q at *
      have hq : q < 256 := hq
      by_cases h1 : q < 48
      · have HT2 := Lib.hid (HT.out.trans (if_pos (.inl h1)))
        have i1 : (q : Int) < 48 := by omega
        have HE := Lib.hid (numL_none HK.out hlt HT2.out)
        go_wp2_with fail
        exact bodyPost_ret (v := .tuple #[.int .i64 0, .bool false]) (by simp [results, Tryd.results52, go_sem]) rfl ⟨0, by rw [HE.out]; rfl, (by intro m hm; rw [HE.out] at hm; cases hm), by omega, HB.out⟩
      · by_cases h2 : 55 < q
        · have HT2 := Lib.hid (HT.out.trans (if_pos (.inr h2)))
          have i1 : ¬ (q : Int) < 48 := by omega
          have i2 : (55 : Int) < (q : Int) := by omega
          have HE := Lib.hid (numL_none HK.out hlt HT2.out)
          go_wp2_with fail
          exact bodyPost_ret (v := .tuple #[.int .i64 0, .bool false]) (by simp [results, Tryd.results52, go_sem]) rfl ⟨0, by rw [HE.out]; rfl, (by intro m hm; rw [HE.out] at hm; cases hm), by omega, HB.out⟩
        · have HT2 := Lib.hid (HT.out.trans (if_neg (by omega)))
          have i1 : ¬ (q : Int) < 48 := by omega
          have i2 : ¬ (55 : Int) < (q : Int) := by omega
          have hsh := shift_shl .i64 .u64 (N : Int) 3 (by omega) (by simp [IntKind.bits])
          have HOR := Lib.hid (or_dig N (q - 48) (by omega) (by omega))
          go_wp2_with fail
          exact ⟨⟨j + 1, N * 8 + (q - 48), by omega, by rw [← HOR.out]; congr 2; omega, by simp, HT2.out, HB.out⟩, by simp [intOf]; omega⟩
    · obtain rfl : j = k := by omega
      have hjl : j < f.length := by have := HK.out; omega
      obtain ⟨b, off, rfl, hcell⟩ : ∃ b off, a = some ⟨b, off, none⟩ ∧ wr.cell? ⟨b, off + j, none⟩ = some (vB f[j]) := by
        obtain ⟨a', cap', e, hc⟩ := (RdV.below HR.out HB.out).open
        simp only [Value.slice.injEq] at e
        rw [e.1]
        exact hc j _ (by simp [hjl])
      have HE := Lib.hid (numL_end HK.out HN.out)
      have hx : f.getD j 0 = f[j] := by simp [List.getD, hjl]
      rw [hx] at HE
      unfold vB n8 at hcell
      generalize hfx : f[j] = x at *
      have hx0 : x = 0 ↔ x.toNat = 0 := ⟨fun h => by rw [h]; rfl, fun h => UInt8.toNat_inj.1 (by rw [h]; rfl)⟩
      have hx32 : x = 32 ↔ x.toNat = 32 := ⟨fun h => by rw [h]; rfl, fun h => UInt8.toNat_inj.1 (by rw [h]; rfl)⟩
      have HE := Lib.hid (show numL f = if x.toNat = 0 ∨ x.toNat = 32 then some N else none by have h := HE.out; simp only [hx0, hx32] at h; exact h)
      have hq := x.toNat_lt
      generalize x.toNat = q at *
      have hq : q < 256 := hq
      clear hx hx0 hx32 hfx
      have HBQ := Lib.hid (fun nq => HB.out.trans (below_drewN wr nq |>.mono HB.out.size))
      by_cases h1 : q = 0
      · have HE2 := Lib.hid (HE.out.trans (if_pos (.inl h1)))
        subst h1
        go_wp2_with fail
        go_quiet (fail)
        go_wp2_with fail
        exact bodyPost_ret (v := .tuple #[.int .i64 (N : Int), .bool true]) (by simp [results, Tryd.results52, go_sem]) rfl ⟨N, by rw [HE2.out]; rfl, (by intro m hm; rw [HE2.out] at hm; cases hm; rfl), by omega, HBQ.out nq⟩
      · have i1 : ((q : Int) == 0) = false := by simp; omega
        by_cases h2 : q = 32
        · have HE2 := Lib.hid (HE.out.trans (if_pos (.inr h2)))
          subst h2
          go_wp2_with fail
          go_quiet (fail)
          go_wp2_with fail
          exact bodyPost_ret (v := .tuple #[.int .i64 (N : Int), .bool true]) (by simp [results, Tryd.results52, go_sem]) rfl ⟨N, by rw [HE2.out]; rfl, (by intro m hm; rw [HE2.out] at hm; cases hm; rfl), by omega, HBQ.out nq⟩
        · have HE2 := Lib.hid (HE.out.trans (if_neg (by omega)))
          have i2 : ((q : Int) == 32) = false := by simp; omega
          have h1' : ¬ (q : Int) = 0 := by omega
          have h2' : ¬ (q : Int) = 32 := by omega
          go_wp2_with fail
          go_quiet (fail)
          go_wp2_with fail
          exact bodyPost_ret (v := .tuple #[.int .i64 (N : Int), .bool false]) (by simp [results, Tryd.results52, go_sem]) rfl ⟨N, by rw [HE2.out]; rfl, (by intro m hm; rw [HE2.out] at hm; cases hm), by omega, HBQ.out nq⟩
end Go.Proofs.YtikhdbdbdldbaaaDoor
