/- The law TarfmtSums. -/
import Derived.Test.YtikhdbdbdldbaaaDoorLive
namespace Go.Proofs.YtikhdbdbdldbaaaDoor
open Go.RowKit

/-- A copy of one's own: where it lies, and what it is behind a store. -/
theorem owned_set {w : World} {B : Nat} {r : Value} {l : List UInt8} (hown : w.ownsRow B 5 1 r l.length (l.map vB)) {i : Nat} (hi : i < l.length) :
    ∃ g cap, r = .slice (some ⟨g, 0, none⟩) l.length cap ∧ B ≤ g ∧ w.cell? ⟨g, i, none⟩ = some (.int .u8 (n8 l[i])) ∧ w.frozen? ⟨g, i, none⟩ = false ∧
      ∀ nq y, RdB ((w.drewN nq).setCell ⟨g, i, none⟩ (.int .u8 (n8 y))) r (l.set i y) := by
  have hrd := RdV_of_owns hown
  obtain ⟨hl, h⟩ := hown
  rcases h with ⟨rfl, h⟩ | ⟨g, cap, cur, rfl, hb, hg, hn, hm, hs, htake⟩
  · exact absurd h (by omega)
  · have hc : ∀ j (h : j < l.length), cur[j]? = some (vB l[j]) := by
      intro j hj
      have h2 : (l.map vB)[j]? = some (vB l[j]) := by simp [hj]
      rw [← htake, List.getElem?_take] at h2
      split at h2
      · simpa using h2
      · cases h2
    refine ⟨g, cap, rfl, hb, (cell_of_row w g i cur 5 (0, 0) hg).trans (hc i hi), by simp [World.frozen?, hg], fun nq y => ?_⟩
    have hg2 := heap_setCell_same (w.drewN nq) g i cur 5 (.int .u8 (n8 y)) hg
    refine .inr ⟨⟨g, 0, none⟩, cap, by simp, by simp; omega, fun j u hj => ⟨g, 0, rfl, ?_⟩⟩
    rw [cell_of_row _ g (0 + j) _ 5 (0, 0) hg2, Nat.zero_add]
    by_cases hji : j = i
    · subst hji
      have : u = .int .u8 (n8 y) := by simpa [hi, vB] using hj.symm
      subst this
      rw [Array.getElem?_setIfInBounds_self_of_lt (Array.getElem?_eq_some_iff.1 (hc j hi)).1]
    · have hjl : j < l.length := by
        have := (List.getElem?_eq_some_iff.1 hj).1
        simpa using this
      rw [Array.getElem?_setIfInBounds_ne (Ne.symm hji), hc j hjl]
      rw [List.getElem?_map, List.getElem?_set_ne (Ne.symm hji)] at hj
      simpa [hjl] using hj

theorem sumTo_set (l : List UInt8) (x : UInt8) : ∀ (i j : Nat) (hj : j < l.length), sumTo i (l.set j x) + sumB (i + j) l[j] = sumTo i l + sumB (i + j) x := by
  induction l with
  | nil => intro i j hj; simp at hj
  | cons y l ih =>
    intro i j hj
    cases j with
    | zero => simp [sumTo]; omega
    | succ j =>
      have h := ih (i + 1) j (by simpa using hj)
      simp only [List.set_cons_succ, sumTo, List.getElem_cons_succ]
      rw [show i + (j + 1) = i + 1 + j by omega]
      omega
set_option maxRecDepth 100000 in
set_option maxHeartbeats 4000000 in
theorem tsums_any (w : World) (v : Value) (h : List UInt8) (n : Nat) (x : UInt8) (hv : RdB w v h) (hl : h.length ≤ 140737488351232) (hn : n ≤ 65535) :
    Calls Tryd.prog 9 #[v, .int .u16 (n : Int), vB x] w fun e w' => e = .returned (.bool true) ∧ Below w.heap.size w w' := by
  obtain ⟨a, c, rfl, hc⟩ := rd_slice hv
  have HV := Lib.hid hv
  clear hv
  unfold vB n8
  have hx := x.toNat_lt
  obtain ⟨q, hq⟩ : ∃ q, q = x.toNat := ⟨_, rfl⟩
  rw [← hq]
  have HQ := Lib.hid hq
  rw [← hq] at hx
  have hx : q < 256 := hx
  clear hq
  by_cases h5 : h.length = 512
  case neg =>
    have hz : sumH h = 0 := by unfold sumH; rw [if_neg h5]
    have HZ := Lib.hid hz
    have i0 : ((h.length : Int) != 512) = true := by simp; omega
    have i1 : ¬ (h.length : Int) = 512 := by omega
    clear hz
    go_enter Tryd.func9, Tryd.ntmps9
    go_wp2_with fail
    refine (live_any _).mono ?_
    rintro r w1 ⟨rfl, hb⟩
    have HB := Lib.hid hb
    clear hb
    go_wp2_with fail
    refine (tarSum_any w1 _ h (RdV.below HV.out HB.out) (by omega)).mono ?_
    rintro r w2 ⟨rfl, hb⟩
    have HB2 := Lib.hid (HB.out.trans (hb.mono HB.out.size))
    rw [HZ.out]
    clear hb HB
    go_wp2_with fail
    exact bodyPost_ret (v := .bool true) (by simp [results, Tryd.results9, go_sem]) rfl ⟨rfl, HB2.out⟩
  case pos =>
    have HL := Lib.hid h5
    have HV := Lib.hid (show RdB w (.slice a 512 c) h by have := HV.out; rwa [h5] at this)
    rw [h5] at hc ⊢
    obtain ⟨b, o, rfl⟩ : ∃ b o, a = some ⟨b, o, none⟩ := by
      obtain ⟨a', cap', e, hcl⟩ := HV.out.open
      simp only [Value.slice.injEq] at e
      obtain ⟨b, o, h1, _⟩ := hcl 0 (by omega)
      exact ⟨b, o, e.1.trans h1⟩
    obtain ⟨k, hk⟩ : ∃ k, k = n % 512 := ⟨_, rfl⟩
    have tm : (n : Int).tmod 512 = (k : Int) := by rw [Int.tmod_eq_emod_of_nonneg (by omega), hk]; rfl
    have hkl : k < 512 := by omega
    have n0 : (n : Int) ≤ 65535 := by omega
    have k0 : (k : Int) < 512 := by omega
    have HKL := Lib.hid hkl
    clear h5 hk hl
    go_enter Tryd.func9, Tryd.ntmps9
    go_wp2_with fail
    refine (copy_any w _ h HV.out (by rw [HL.out]; omega)).mono ?_
    rintro r w1 ⟨r', rfl, hown, hb⟩
    obtain ⟨g, cap, rfl, hgb, hcell, hfree, hset⟩ := owned_set hown (i := k) (by rw [HL.out]; exact hkl)
    have HB := Lib.hid hb
    have HS := Lib.hid (hset 0 x)
    unfold n8 at hcell HS
    rw [← HQ.out] at HS
    have HBS := Lib.hid (HB.out.setCell (p := ⟨g, k, none⟩) hgb (.int .u8 (q : Int)))
    have HSU := Lib.hid (sumTo_set h x 0 k (by rw [HL.out]; exact hkl))
    rw [HL.out] at HS ⊢
    clear hown hb hset hgb HB
    go_wp2_with fail
    have HS1 := Lib.hid (show RdB (w1.setCell ⟨g, k, none⟩ (.int .u8 (q : Int))) (.slice (some ⟨g, 0, none⟩) 512 cap) (h.set k x) from HS.out)
    revert HS1 HBS
    generalize w1.setCell ⟨g, k, none⟩ (.int .u8 (q : Int)) = w2
    intro HBS HS1
    clear HS hcell hfree
    refine (tarSum_any w2 _ h (RdV.below HV.out HBS.out) (by rw [HL.out]; omega)).mono ?_
    rintro r w3 ⟨rfl, hb⟩
    have HB3 := Lib.hid (HBS.out.trans (hb.mono HBS.out.size))
    have HS3 := Lib.hid (RdV.below HS1.out hb)
    clear hb HBS HS1
    go_wp2_with fail
    refine (tarSum_any w3 _ (h.set k x) HS3.out (by rw [List.length_set, HL.out]; omega)).mono ?_
    rintro r w4 ⟨rfl, hb⟩
    have HB4 := Lib.hid (HB3.out.trans (hb.mono HB3.out.size))
    have hsu := HSU.out
    rw [sumTo_512 _ HL.out, sumTo_512 _ (by rw [List.length_set]; exact HL.out), Nat.zero_add] at hsu
    have ha : sumH h ≤ 130560 := by rw [← sumTo_512 h HL.out]; have := sumTo_le 0 h; rw [HL.out] at this; omega
    have hbb : sumH (h.set k x) ≤ 130560 := by rw [← sumTo_512 _ (by rw [List.length_set]; exact HL.out)]; have := sumTo_le 0 (h.set k x); rw [List.length_set, HL.out] at this; omega
    have hkh : k < h.length := by rw [HL.out]; exact hkl
    have hc4 := rd_at (RdV.below HV.out HB4.out) k (by rw [HL.out]; exact hkl) (show h.getD k 0 = h[k] by simp [List.getD, show k < h.length by rw [HL.out]; exact hkl])
    unfold vB n8 at hc4
    have hpl := (h[k]'(by rw [HL.out]; exact hkl)).toNat_lt
    unfold sumB at hsu
    rw [← HQ.out] at hsu
    clear hb HB3 HS3 HSU
    generalize sumH h = sa at *
    generalize sumH (h.set k x) = sb at *
    generalize h[k].toNat = p at *
    have hpl : p < 256 := hpl
    have a0 : (sa : Int) ≤ 130560 := by omega
    have a1 : (sb : Int) ≤ 130560 := by omega
    by_cases hin : 148 ≤ k ∧ k < 156
    case pos =>
      rw [if_pos hin, if_pos hin] at hsu
      obtain rfl : sb = sa := by omega
      have i0 : (148 : Int) ≤ (k : Int) := by omega
      have i1 : (k : Int) < 156 := by omega
      clear hsu
      go_wp2_with fail
      refine (live_any _).mono ?_
      rintro r w5 ⟨rfl, hb⟩
      have HB5 := Lib.hid (HB4.out.trans (hb.mono HB4.out.size))
      clear hb
      go_wp2_with fail
      exact bodyPost_ret (v := .bool true) (by simp [results, Tryd.results9, go_sem]) rfl ⟨rfl, HB5.out⟩
    case neg =>
      rw [if_neg hin, if_neg hin] at hsu
      have hd : (sb : Int) - (sa : Int) = (q : Int) - (p : Int) := by omega
      by_cases h148 : 148 ≤ k
      case pos =>
        have i0 : (148 : Int) ≤ (k : Int) := by omega
        have i1 : ¬ (k : Int) < 156 := by omega
        go_wp2_with fail
        refine (live_any _).mono ?_
        rintro r w5 ⟨rfl, hb⟩
        have HB5 := Lib.hid (HB4.out.trans (hb.mono HB4.out.size))
        have hc5 := (hb.cell (block_lt_of_cell hc4)).trans hc4
        clear hb
        go_wp2_with fail
        exact bodyPost_ret (v := .bool true) (by simp [results, Tryd.results9, go_sem]) rfl ⟨rfl, HB5.out⟩
      case neg =>
        have i0 : ¬ (148 : Int) ≤ (k : Int) := by omega
        go_wp2_with fail
        refine (live_any _).mono ?_
        rintro r w5 ⟨rfl, hb⟩
        have HB5 := Lib.hid (HB4.out.trans (hb.mono HB4.out.size))
        have hc5 := (hb.cell (block_lt_of_cell hc4)).trans hc4
        clear hb
        go_wp2_with fail
        exact bodyPost_ret (v := .bool true) (by simp [results, Tryd.results9, go_sem]) rfl ⟨rfl, HB5.out⟩
end Go.Proofs.YtikhdbdbdldbaaaDoor
