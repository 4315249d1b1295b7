/- The contract of tarfmt.sumOf. -/
import Derived.Test.YtikhdbdbdldbaaaDoorNum
namespace Go.Proofs.YtikhdbdbdldbaaaDoor
open Go.RowKit

theorem u8_eq (x y : UInt8) (n : Nat) (hn : y.toNat = n) : x = y ↔ x.toNat = n := ⟨fun h => by rw [h, hn], fun h => UInt8.toNat_inj.1 (by rw [h, hn])⟩
theorem rd_pre {w : World} {a : Option Addr} {n c : Nat} {f : List UInt8} (h : RdB w (.slice a n c) f) (m : Nat) (hm : m ≤ n) (hm0 : 0 < m) : RdB w (.slice a m c) (f.take m) := by
  rcases h with ⟨h1, h0⟩ | ⟨ad, cap, h1, hle, hc⟩
  · cases h1; omega
  · simp only [Value.slice.injEq, List.length_map] at h1
    obtain ⟨rfl, hn, rfl⟩ := h1
    simp only [List.length_map] at hle
    refine .inr ⟨ad, c, by simp; omega, by simp; omega, ?_⟩
    intro j u hj
    rw [List.map_take, List.getElem?_take] at hj
    split at hj
    · exact hc j u hj
    · cases hj
set_option maxRecDepth 100000 in
set_option maxHeartbeats 2000000 in
theorem sumOf_any (w : World) (v : Value) (f : List UInt8) (hr : RdB w v f) (hk : f.length = 8) :
    Calls Tryd.prog 55 #[v] w fun e w' => ∃ n : Nat, e = .returned (.tuple #[.int .i64 (n : Int), .bool (sumL f).isSome]) ∧ (∀ m, sumL f = some m → n = m) ∧ n ≤ 8589934592 ∧ Below w.heap.size w w' := by
  obtain ⟨a, c, rfl, hc⟩ := rd_slice hr
  rw [hk] at hc hr ⊢
  obtain ⟨b, off, rfl, hcell⟩ : ∃ b off, a = some ⟨b, off, none⟩ ∧ ∀ j (hj : j < f.length), w.cell? ⟨b, off + j, none⟩ = some (vB f[j]) := by
    rcases hr with ⟨h1, h0⟩ | ⟨⟨b, off, p⟩, cap, h1, hle, hc⟩
    · simp at h0; rw [h0] at hk; cases hk
    · simp only [Value.slice.injEq, List.length_map] at h1
      obtain ⟨rfl, hn, rfl⟩ := h1
      obtain ⟨b', off', e, _⟩ := hc 0 (vB (f[0]'(by omega))) (by simp [hk])
      cases e
      exact ⟨b, off, rfl, fun j hj => by obtain ⟨b', off', e, h2⟩ := hc j (vB f[j]) (by simp [hj]); cases e; exact h2⟩
  have h6 := hcell 6 (by omega)
  have h7 := hcell 7 (by omega)
  have b2 : (8 : Int) ≤ (c : Int) := by omega
  have HN7 := Lib.hid (number_any w _ (f.take 7) (rd_pre hr 7 (by omega) (by omega)) 6 (by simp; omega) (by omega))
  have HN8 := Lib.hid (number_any w _ f hr 7 (by omega) (by omega))
  have hS : sumL f = if f[6].toNat = 0 ∧ f[7].toNat = 32 then numL (f.take 7) else numL f := by
    unfold sumL
    have e6 : f.getD 6 0 = f[6] := by simp [List.getD, show 6 < f.length by omega]
    have e7 : f.getD 7 0 = f[7] := by simp [List.getD, show 7 < f.length by omega]
    rw [e6, e7]
    simp only [u8_eq f[6] 0 0 rfl, u8_eq f[7] 32 32 rfl]
  clear hcell hr
  unfold vB n8 at h6 h7
  generalize f[6].toNat = q at *
  generalize f[7].toNat = p at *
  by_cases h0 : q = 0
  · subst h0
    by_cases h32 : p = 32
    · subst h32
      rw [if_pos ⟨rfl, rfl⟩] at hS
      have HS := Lib.hid hS
      clear hS HN8
      go_enter Tryd.func55, Tryd.ntmps55
      go_wp2_with fail
      refine HN7.out.mono ?_
      rintro e w2 ⟨n, rfl, hn, hnb, hb⟩
      rw [← HS.out] at hn ⊢
      have HB := Lib.hid hb; have HN := Lib.hid hn
      clear hb hn HS HN7
      generalize hz : sumL f = z at *
      have HZ := Lib.hid hz
      clear hz
      go_wp2_with fail
      exact bodyPost_ret (v := .tuple #[.int .i64 (n : Int), .bool z.isSome]) (by simp [results, Tryd.results55, go_sem]) rfl ⟨n, by rw [HZ.out], by rw [HZ.out]; exact HN.out, hnb, HB.out⟩
    · have h2 : ((p : Int) == 32) = false := by simp; omega
      have h3 : ¬ (p : Int) = 32 := by omega
      rw [if_neg (by omega)] at hS
      have HS := Lib.hid hS
      clear hS HN7
      go_enter Tryd.func55, Tryd.ntmps55
      go_wp2_with fail
      refine HN8.out.mono ?_
      rintro e w2 ⟨n, rfl, hn, hnb, hb⟩
      rw [← HS.out] at hn ⊢
      have HB := Lib.hid hb; have HN := Lib.hid hn
      clear hb hn HS HN8
      generalize hz : sumL f = z at *
      have HZ := Lib.hid hz
      clear hz
      go_wp2_with fail
      exact bodyPost_ret (v := .tuple #[.int .i64 (n : Int), .bool z.isSome]) (by simp [results, Tryd.results55, go_sem]) rfl ⟨n, by rw [HZ.out], by rw [HZ.out]; exact HN.out, hnb, HB.out⟩
  · have h2 : ((q : Int) == 0) = false := by simp; omega
    have h3 : ¬ (q : Int) = 0 := by omega
    rw [if_neg (by omega)] at hS
    have HS := Lib.hid hS
    clear hS HN7
    go_enter Tryd.func55, Tryd.ntmps55
    go_wp2_with fail
    refine HN8.out.mono ?_
    rintro e w2 ⟨n, rfl, hn, hnb, hb⟩
    rw [← HS.out] at hn ⊢
    have HB := Lib.hid hb; have HN := Lib.hid hn
    clear hb hn HS HN8
    generalize hz : sumL f = z at *
    have HZ := Lib.hid hz
    clear hz
    go_wp2_with fail
    exact bodyPost_ret (v := .tuple #[.int .i64 (n : Int), .bool z.isSome]) (by simp [results, Tryd.results55, go_sem]) rfl ⟨n, by rw [HZ.out], by rw [HZ.out]; exact HN.out, hnb, HB.out⟩
end Go.Proofs.YtikhdbdbdldbaaaDoor
