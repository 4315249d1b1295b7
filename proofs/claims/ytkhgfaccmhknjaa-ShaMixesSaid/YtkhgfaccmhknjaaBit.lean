/- The law ShaBit. -/
import Derived.Test.YtkhgfaccmhknjaaLive
import Derived.Test.YtkhgfaccmhknjaaCrcLaw
namespace Go.Proofs.Ytkhgfaccmhknjaa
open Go.RowKit

theorem u16_wrap64 (n : Nat) (h : n ≤ 65535) : IntKind.i64.wrap (n : Int) = n := by
  rw [IntKind.wrap_i64]; omega

theorem n8_xor (x y : UInt8) : bits BinOp.xor .u8 (n8 x) (n8 y) = n8 (x ^^^ y) := by
  have h := (x ^^^ y).toNat_lt
  have ha : ∀ x : UInt8, BitVec.ofInt IntKind.u8.bits (n8 x) = x.toBitVec := by
    intro x
    apply BitVec.eq_of_toNat_eq
    have h := x.toNat_lt
    show (BitVec.ofInt 8 (x.toNat : Int)).toNat = _
    simp [BitVec.ofInt_natCast]; rfl
  have e : Op.intBits .xor .u8 (n8 x) (n8 y) = pure (.int .u8 (n8 (x ^^^ y))) := by
    simp only [Op.intBits, ha]
    show (pure (.int .u8 (IntKind.u8.wrap ((x.toBitVec ^^^ y.toBitVec).toNat : Int))) : Sem Value) = _
    have e2 : (x.toBitVec ^^^ y.toBitVec).toNat = (x ^^^ y).toNat := rfl
    rw [e2, IntKind.wrap_u8]
    congr 2
    unfold n8; omega
  rw [intBits_xor] at e; injection e with e; injection e
theorem one_shl (j : Nat) (h : j < 8) : Op.shift .shl .u8 1 .i64 j = pure (.int .u8 (n8 (1 <<< UInt8.ofNat j))) := by
  match j, h with
  | 0, _ => rfl | 1, _ => rfl | 2, _ => rfl | 3, _ => rfl | 4, _ => rfl | 5, _ => rfl | 6, _ => rfl | 7, _ => rfl
theorem one_shl_ne (j : Nat) (h : j < 8) : (1 : UInt8) <<< UInt8.ofNat j ≠ 0 := by
  match j, h with
  | 0, _ => decide | 1, _ => decide | 2, _ => decide | 3, _ => decide | 4, _ => decide | 5, _ => decide | 6, _ => decide | 7, _ => decide
theorem xor_ne {x y : UInt8} (h : y ≠ 0) : x ^^^ y ≠ x := by
  intro e
  have h2 : x ^^^ (x ^^^ y) = x ^^^ x := by rw [e]
  rw [← UInt8.xor_assoc, UInt8.xor_self, UInt8.zero_xor] at h2
  exact h h2
/-- A copy of one's own: where it lies, and what it is behind a store. -/
theorem owned_set {w : World} {B : Nat} {r : Value} {l : List UInt8} (hown : w.ownsRow B 5 1 r l.length (l.map vB)) {i : Nat} (hi : i < l.length) :
    ∃ g cap, r = .slice (some ⟨g, 0, none⟩) l.length cap ∧ B ≤ g ∧ w.cell? ⟨g, i, none⟩ = some (.int .u8 (n8 l[i])) ∧ w.frozen? ⟨g, i, none⟩ = false ∧
      ∀ nq y, RdB ((w.drewN nq).setCell ⟨g, i, none⟩ (.int .u8 (n8 y))) r (l.set i y) := by
  have hrd := RdV_of_owns hown
  obtain ⟨hl, h⟩ := hown
  rcases h with ⟨rfl, h⟩ | ⟨g, cap, cur, rfl, hb, hg, hn, hm, hs, htake⟩
  · exact absurd h (by omega)
  · have hc : ∀ j (h : j < l.length), cur[j]? = some (vB l[j]) := by
      intro j hj
      have h2 : (l.map vB)[j]? = some (vB l[j]) := by simp [hj]
      rw [← htake, List.getElem?_take] at h2
      split at h2
      · simpa using h2
      · cases h2
    refine ⟨g, cap, rfl, hb, (cell_of_row w g i cur 5 (0, 0) hg).trans (hc i hi), by simp [World.frozen?, hg], fun nq y => ?_⟩
    have hg2 := heap_setCell_same (w.drewN nq) g i cur 5 (.int .u8 (n8 y)) hg
    refine .inr ⟨⟨g, 0, none⟩, cap, by simp, by simp; omega, fun j u hj => ⟨g, 0, rfl, ?_⟩⟩
    rw [cell_of_row _ g (0 + j) _ 5 (0, 0) hg2, Nat.zero_add]
    by_cases hji : j = i
    · subst hji
      have : u = .int .u8 (n8 y) := by simpa [hi, vB] using hj.symm
      subst this
      rw [Array.getElem?_setIfInBounds_self_of_lt (Array.getElem?_eq_some_iff.1 (hc j hi)).1]
    · have hjl : j < l.length := by
        have := (List.getElem?_eq_some_iff.1 hj).1
        simpa using this
      rw [Array.getElem?_setIfInBounds_ne (Ne.symm hji), hc j hjl]
      rw [List.getElem?_map, List.getElem?_set_ne (Ne.symm hji)] at hj
      simpa [hjl] using hj

set_option maxRecDepth 100000 in
set_option maxHeartbeats 1000000 in
theorem bit_any (w : World) (v : Value) (l : List UInt8) (n : Nat) (hn : n ≤ 65535) (hv : RdB w v l) (hl : l.length ≤ 140737488355200) :
    Calls Try.prog 5 #[v, .int .u16 n] w fun e w' => e = .returned (.bool true) ∧ Below w.heap.size w w' := by
  obtain ⟨a, cap, rfl, hc⟩ := hv.open
  by_cases h0 : l.length = 0
  · have hq : ((l.length : Int) == 0) = true := by simp [h0]
    clear h0 hc hv
    go_enter Try.func5, Try.ntmps5
    go_wp2_with fail
    refine (live_any _).mono ?_
    rintro e w1 ⟨rfl, hb1⟩
    have HB1 := Lib.hid hb1
    clear hb1
    go_wp2
    go_ret
    exact ⟨rfl, HB1.out⟩
  · have hq : ((l.length : Int) == 0) = false := by simpa using h0
    have hpos : 0 < l.length := by omega
    have hwr := u16_wrap64 n hn
    have hw8 : IntKind.i64.wrap (8 * (l.length : Int)) = 8 * l.length := IntWalk.i64_in _ (by omega)
    have HV := Lib.hid hv
    clear h0 hc hv
    go_enter Try.func5, Try.ntmps5
    go_wp2_with fail
    refine (copy_any w _ l HV.out (by omega)).mono ?_
    rintro e w1 ⟨r, rfl, hown, hb1⟩
    have HO := Lib.hid hown; have HB1 := Lib.hid hb1
    clear hown hb1
    go_wp2_with fail
    obtain ⟨k, hk⟩ : ∃ k, k = n % (8 * l.length) := ⟨_, rfl⟩
    have hki : (n : Int) % (8 * l.length) = k := by rw [hk]; simp
    rw [hki]
    have hklt : k < 8 * l.length := by rw [hk]; exact Nat.mod_lt _ (by omega)
    have hk16 : k ≤ 65535 := by rw [hk]; exact Nat.le_trans (Nat.mod_le _ _) hn
    clear hk hki hwr hw8
    have hi : k / 8 < l.length := by omega
    obtain ⟨g, rc, rfl, hgB, hcell, hfz, hset⟩ := owned_set HO.out hi
    have wk1 : IntKind.i64.wrap ((k / 8 : Nat) : Int) = (k / 8 : Nat) := IntWalk.i64_in _ (by omega)
    have wk2 : IntKind.i64.wrap ((k % 8 : Nat) : Int) = (k % 8 : Nat) := IntWalk.i64_in _ (by omega)
    have e1 : (k : Int) / 8 = (k / 8 : Nat) := by omega
    have e2 : (k : Int).tmod 8 = (k % 8 : Nat) := by rw [Int.tmod_eq_emod_of_nonneg (by omega)]; omega
    have esh := one_shl (k % 8) (by omega)
    have ene := one_shl_ne (k % 8) (by omega)
    have exr := fun x => n8_xor x (1 <<< UInt8.ofNat (k % 8))
    generalize k / 8 = i at *
    generalize k % 8 = j at *
    generalize (1 : UInt8) <<< UInt8.ofNat j = m at *
    have HS := Lib.hid hset; have HNE := Lib.hid (crc_set_ne hi (xor_ne (x := l[i]) ene))
    have HF := Lib.hid hfz
    generalize l[i] = x at *
    clear hset ene hklt hk16 hfz
    refine wp_region_qtail_lit 10 (by kernel_rfl) (by kernel_rfl) ?_
    simp only [List.take_succ_cons, List.take_zero, List.drop_succ_cons, List.drop_zero]
    repeat (quiet_step (fail))
    refine wpQuiet_nil ?_
    intro w' hw'
    obtain ⟨nq, rfl⟩ := hw'
    have hfz2 : (w1.drewN nq).frozen? ⟨g, i, none⟩ = false := HF.out
    go_wp2_with fail
    have hrd := HS.out nq (x ^^^ m)
    have hb2 : Below w.heap.size w ((w1.drewN nq).setCell ⟨g, i, none⟩ (.int .u8 (n8 (x ^^^ m)))) := by
      have h1 : Below w.heap.size w (w1.drewN nq) := ⟨HB1.out.os, HB1.out.tape, HB1.out.output, HB1.out.size, HB1.out.block⟩
      exact h1.setCell hgB _
    have HR2 := Lib.hid hrd; have HB2 := Lib.hid hb2
    clear hrd hb2 HS HO HB1 hfz2 HF hcell exr esh e2 wk2 e1 wk1 hq
    revert HR2 HB2
    generalize (w1.drewN nq).setCell ⟨g, i, none⟩ (.int .u8 (n8 (x ^^^ m))) = w2
    intro HR2 HB2
    refine (live_any _).mono ?_
    rintro e w3 ⟨rfl, hb3⟩
    have HB3 := Lib.hid (HB2.out.trans (hb3.mono HB2.out.size))
    have HR3 := Lib.hid (RdV.below HR2.out hb3)
    clear hb3 HB2 HR2
    go_wp2_with fail
    refine (crc_any w3 _ (l.set i (x ^^^ m)) HR3.out (by simp; omega)).mono ?_
    rintro e w' ⟨rfl, rfl⟩
    go_wp2_with fail
    refine (crc_any w3 _ l (RdV.below HV.out HB3.out) (by omega)).mono ?_
    rintro e w' ⟨rfl, rfl⟩
    have hq : (n32 (crc (l.set i (x ^^^ m))) != n32 (crc l)) = true := by rw [n32_bne]; simpa using HNE.out
    have hq2 : (crc (l.set i (x ^^^ m)) != crc l) = true := by simpa using HNE.out
    clear HNE HR3 HV
    go_wp2
    go_ret
    exact ⟨rfl, HB3.out⟩
end Go.Proofs.Ytkhgfaccmhknjaa
