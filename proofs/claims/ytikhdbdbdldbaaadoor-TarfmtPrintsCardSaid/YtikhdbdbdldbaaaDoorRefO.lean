/- The reference's octal and put. -/
import Derived.Test.YtikhdbdbdldbaaaDoorHeader
import Derived.Test.YtikhdbdbdldbaaaDoorRefS
namespace Go.Proofs.YtikhdbdbdldbaaaDoor
open Go.RowKit

theorem splice_snoc (L D : List UInt8) (o : Nat) (x : UInt8) (h : o + D.length < L.length) : (splice L o D).set (o + D.length) x = splice L o (D ++ [x]) := by
  unfold splice
  rw [List.set_append_right _ _ (by simp; omega)]
  simp only [List.length_take, Nat.min_eq_left (show o ≤ L.length by omega), show o + D.length - o = D.length by omega]
  rw [List.set_append_right _ _ (by omega), Nat.sub_self]
  have h2 : o + D.length < L.length := h
  rw [List.drop_eq_getElem_cons h2, List.set_cons_zero]
  simp
  omega
set_option maxRecDepth 100000 in
set_option maxHeartbeats 1000000 in
theorem refput_any (w : World) (g at_ : Nat) (s L : List UInt8) (hL : HRow w g L) (hl : L.length = 512) (hs : at_ + s.length ≤ 512) :
    Calls Tryd.prog 40 #[.slice (some ⟨g, 0, none⟩) 512 512, .int .i64 (at_ : Int), .string (bs s)] w fun e w' => e = .returned (.tuple #[]) ∧ HRow w' g (splice L at_ s) ∧ Fr [g] w w' := by
  have hsz := bs_size s
  have HL := Lib.hid hL; have HLL := Lib.hid hl
  have b0 : (at_ : Int) + (s.length : Int) ≤ 512 := by omega
  have b1 : (0 : Int) ≤ (at_ : Int) := by omega
  clear hL hl
  go_enter Tryd.func40, Tryd.ntmps40
  go_wp2_with fail
  go_loopw [6] (fun i wr => ∃ j : Nat, j ≤ s.length ∧ i = .int .i64 (j : Int) ∧ HRow wr g (splice L at_ (s.take j)) ∧ Fr [g] w wr) (fun i _ => ((s.length : Int) - intOf i).toNat)
  case atStart => exact ⟨0, by omega, by simp, by simpa [splice] using HL.out, Fr.refl _ _⟩
  case round =>
    obtain ⟨j, hj, rfl, hR, hF⟩ := hrel
    have HR := Lib.hid hR; have HF := Lib.hid hF
    clear hR hF
    by_cases hlt : j < s.length
    · have i1 := fun w => run_ch s j hlt w (j : Int) rfl
      have i0 : (j : Int) < (s.length : Int) := by omega
      have i2 : (at_ : Int) + (j : Int) < 512 := by omega
      have htl : (s.take j).length = j := by rw [List.length_take]; omega
      have hsp : (splice L at_ (s.take j)).length = 512 := by rw [length_splice _ _ _ (by rw [htl, HLL.out]; omega), HLL.out]
      obtain ⟨old, hcell⟩ : ∃ old, wr.cell? ⟨g, at_ + j, none⟩ = some old := ⟨_, HR.out.cell (at_ + j) (by rw [hsp]; omega)⟩
      have hfree := HR.out.free (at_ + j)
      have hN := HR.out.set (at_ + j) s[j]
      have e1 := splice_snoc L (s.take j) at_ s[j] (by rw [htl, HLL.out]; omega)
      rw [htl] at e1
      rw [e1, ← List.take_succ_eq_append_getElem hlt] at hN
      have hx := (s[j]).toNat_lt
      unfold vB n8 at hN
      unfold n8 at i1
      generalize s[j] = x at *
      obtain ⟨p, hp⟩ : ∃ p, p = x.toNat := ⟨_, rfl⟩
      rw [← hp] at i1 hx hN
      have hx : p < 256 := hx
      have HN := Lib.hid hN
      have HFN := Lib.hid (HF.out.trans ((Fr.refl [g] wr).setCell (p := ⟨g, at_ + j, none⟩) (.inl (by simp)) (.int .u8 (p : Int))))
      clear hN hp htl hsp e1
      go_wp2_with fail
      exact ⟨⟨j + 1, by omega, by simp, HN.out, HFN.out⟩, by simp [intOf]; omega⟩
    · obtain rfl : j = s.length := by omega
      have HR2 := Lib.hid (show HRow wr g (splice L at_ s) by have := HR.out; rwa [List.take_length] at this)
      clear HR
      go_wp2_with fail
      go_end0
      exact ⟨rfl, HR2.out, HF.out⟩
theorem madeZ (k : Nat) : (madeCells #[Value.int .u8 0] k).toList = (zer k).map vB := by
  have h8 : ∀ n, (madeCells #[Value.int .u8 0] n).toList = List.replicate n (Value.int .u8 0) := by
    intro n
    rw [List.eq_replicate_iff]
    refine ⟨by simp [madeCells], fun b hb => ?_⟩
    simp [madeCells] at hb
    obtain ⟨x, _, rfl⟩ := hb
    simp [Nat.mod_one]
  rw [h8, zer, List.map_replicate]
  rfl
set_option maxRecDepth 100000 in
set_option maxHeartbeats 1000000 in
theorem octal_any (w : World) (v k : Nat) (hk : 2 ≤ k) (hk2 : k ≤ 512) (hv : v ≤ 1000000) :
    Calls Tryd.prog 41 #[.int .i64 (v : Int), .int .i64 (k : Int)] w fun e w' => ∃ g, e = .returned (.slice (some ⟨g, 0, none⟩) k k) ∧ w.heap.size ≤ g ∧ HRow w' g (octF v k) ∧ Below w.heap.size w w' := by
  obtain ⟨i0, hi, hz0, hz1, hz2⟩ := info_parts info_byte
  have b0 : (2 : Int) ≤ (k : Int) := by omega
  have b1 : (k : Int) ≤ 512 := by omega
  go_enter Tryd.func41, Tryd.ntmps41
  go_wp2_with (refine wpList_make_full _ rfl _ _ 23 rfl w.heap.size 5 i0 (.int .u8 0) 1 Tryd.underlying23 hi hz0 hz1 _ _ (k : Int) (k : Int) k rfl rfl rfl rfl ?b2 ?b3 ?b4 ?_)
  case b2 => rw [hz2]; omega
  case b3 => simp only [maxLen]; omega
  case b4 => simp
  intro w1 hown hgr
  have HS := Lib.hid (hrow_of_make (xs := zer k) (by rw [← madeZ]; exact hown) (by omega)).1
  have HB1 := Lib.hid (show Below w.heap.size w w1 from below_grown hgr (Nat.le_refl _) (fun k hk => by cases hk))
  clear hown hgr hi hz0 hz1 hz2
  have HG := Lib.hid (Nat.le_refl w.heap.size)
  generalize hg : w.heap.size = g at HS HB1 HG ⊢
  have HGG := Lib.hid hg
  clear hg
  go_wp2_with fail
  go_loopw [0, 6] (fun q i wr => ∃ j : Nat, j ≤ k - 1 ∧ i = .int .i64 ((k : Int) - 2 - (j : Int)) ∧ q = .int .i64 ((v / 8 ^ j : Nat) : Int) ∧ HRow wr g (splice (zer k) (k - 1 - j) (digs v j)) ∧ Fr [g] w1 wr) (fun _ i _ => (intOf i + 1).toNat)
  case atStart => exact ⟨0, by omega, by simp, by simp, by simpa [digs, splice] using HS.out, Fr.refl _ _⟩
  case round =>
    obtain ⟨j, hj, rfl, rfl, hR, hF⟩ := hrel
    have HR := Lib.hid hR; have HF := Lib.hid hF
    clear hR hF
    by_cases hlt : j < k - 1
    · obtain ⟨i, hi⟩ : ∃ i : Nat, (k : Int) - 2 - (j : Int) = (i : Int) := ⟨k - 2 - j, by omega⟩
      have hi2 : i = k - 2 - j := by omega
      have i0 : (0 : Int) ≤ (i : Int) := by omega
      have i1 : (i : Int) < (k : Int) := by omega
      have hq : v / 8 ^ j ≤ 1000000 := Nat.le_trans (Nat.div_le_self _ _) hv
      have hsp : (splice (zer k) (k - 1 - j) (digs v j)).length = k := by rw [length_splice _ _ _ (by rw [digs_len, zer_len]; omega), zer_len]
      obtain ⟨old, hcell⟩ : ∃ old, wr.cell? ⟨g, i, none⟩ = some old := ⟨_, HR.out.cell i (by rw [hsp]; omega)⟩
      have hfree := HR.out.free i
      have hN := HR.out.set i (UInt8.ofNat (48 + v / 8 ^ j % 8))
      have e1 : k - 1 - j = i + 1 := by omega
      rw [e1, splice_set _ (by rw [digs_len, zer_len]; omega), ← digs_cons, vB_dig] at hN
      have HN := Lib.hid (show HRow (wr.setCell ⟨g, i, none⟩ (.int .u8 (48 + ((v / 8 ^ j : Nat) : Int) % 8))) g (splice (zer k) (k - 1 - (j + 1)) (digs v (j + 1))) by rw [show k - 1 - (j + 1) = i by omega]; exact hN)
      have HFN := Lib.hid (HF.out.trans ((Fr.refl [g] wr).setCell (p := ⟨g, i, none⟩) (.inl (by simp)) (.int .u8 (48 + ((v / 8 ^ j : Nat) : Int) % 8))))
      have HD := Lib.hid (show v / 8 ^ j / 8 = v / 8 ^ (j + 1) by rw [Nat.div_div_eq_div_mul, Nat.pow_succ])
      rw [hi]
      have HI := Lib.hid hi; have HI2 := Lib.hid hi2
      generalize v / 8 ^ j = q at *
      have tq : (q : Int).tmod 8 = (q : Int) % 8 := Int.tmod_eq_emod_of_nonneg (by omega)
      have tq2 : (q : Int).tdiv 8 = (q : Int) / 8 := Int.tdiv_eq_ediv_of_nonneg (by omega)
      have q0 : (q : Int) ≤ 1000000 := by omega
      clear hi hi2 hsp e1 hN
      go_wp2_with fail
      exact ⟨⟨j + 1, by omega, by have := HI.out; rw [show (i : Int) - 1 = (k : Int) - 2 - ((j + 1 : Nat) : Int) by omega], by rw [← HD.out]; rfl, HN.out, HFN.out⟩, by simp [intOf]⟩
    · have hjn : j = k - 1 := by omega
      have hneg : (k : Int) - 2 - (j : Int) = -1 := by omega
      have HR2 := Lib.hid (show HRow wr g (octF v k) by
        have := HR.out
        rw [hjn, Nat.sub_self] at this
        rw [show octF v k = splice (zer k) 0 (digs v (k - 1)) by
          rw [← fld_oct v k (by omega)]; unfold splice; simp]
        exact this)
      rw [hneg]
      clear hjn hneg
      go_wp2_with fail
      go_ret
      exact ⟨g, ret_eq (by simp), Nat.le_of_eq HGG.out, HR2.out, by
        have h2 := HF.out.below (B := g) (by have := HB1.out.size; rw [HGG.out] at this; exact this) (by simp)
        rw [HGG.out]
        exact HB1.out.trans h2⟩
end Go.Proofs.YtikhdbdbdldbaaaDoor
