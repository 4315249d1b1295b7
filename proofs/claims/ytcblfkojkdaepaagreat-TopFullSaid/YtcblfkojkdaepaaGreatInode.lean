/- An inode's number is taken; a page is taken. -/
import Derived.Test.YtcblfkojkdaepaaGreatFits
namespace Go.Proofs.YtcblfkojkdaepaaGreat
open Go.RowKit Go.ChangeMaps
section
variable {K : Kx} {A S : List Nat} {w : World} {N dm mb : Nat} {pg cur : Nat → List UInt8}
theorem MpAt.stpB {K : Kx} {A A' S Bx : List Nat} {w w' : World} {N dm mb : Nat} {pg cur cur' : Nat → List UInt8} (h : MpAt w K mb) (x : CX K A w N S pg cur dm) (hB : mb ∉ Bx) (s : StpB K A' N pg Bx S w w' cur') : MpAt w' K mb := h.fr s.1 (fun hm => (List.mem_append.1 hm).elim hB (h.off x))
set_option maxRecDepth 100000 in
set_option maxHeartbeats 2000000 in
theorem inode_any [KAny K] (x : CX K A w N S pg cur dm) (m : MpAt w K mb) (i0 : Nat) (hi : i0 ≤ 16) (hc : cur 1 = bmL i0) :
    Calls Tryz.prog 33 #[.pointer (some ⟨mb, 0, none⟩)] w fun e w' => (i0 < 16 ∧ e = .returned (.tuple #[.int .i64 (i0 : Int), .int .i64 0]) ∧ Stp K A N pg S w w' (updF cur 1 (bmL (i0 + 1)))) ∨ (i0 = 16 ∧ e = .returned (.tuple #[.int .i64 0, .int .i64 7]) ∧ Stp K A N pg S w w' cur) := by
  have HRD := Lib.hid (aread_any x m 1 (.inl rfl))
  have HX := Lib.hid x; have HM := Lib.hid m; have HC := Lib.hid hc
  clear x m hc
  go_enter Tryz.func33, Tryz.ntmps33
  go_wp2_with fail
  refine HRD.out.mono ?_
  rintro e w2 ⟨q, cap, rfl, hq, ho, hs⟩
  rw [HC.out] at ho
  have HFI := Lib.hid (first_any w2 (.slice (some ⟨q, 0, none⟩) 512 cap) i0 16 (RdV_of_owns ho) hi (by omega))
  have HS := Lib.hid ((hs.anti (A' := A) (fun k hk => List.mem_cons_of_mem _ hk)).toB [])
  clear ho hs hq HRD
  rw [show ((bcnt 1 : Nat) : Int) = 16 from rfl]
  go_wp2_with fail
  refine HFI.out.mono ?_
  rintro e w3 ⟨rfl, hb3⟩
  have HS3 := Lib.hid (HS.out.fr0 (Fr.of_below (S := []) hb3))
  clear HFI HS hb3
  by_cases hlt : i0 < 16
  · rw [if_pos (by exact_mod_cast hlt)]
    have j0 : ¬ (i0 : Int) < 0 := by omega
    have A4 := (Fr.refl [] w3).alloc (.cells #[.int .i64 1] 3)
    have R4 := heap_alloc_new w3 (.cells #[.int .i64 1] 3)
    have s4 := HS3.out.fr0 A4
    obtain ⟨S4, dm4, x4, _, hn4⟩ := s4.open
    have m4 := HM.out.stpB HX.out (by simp) s4
    have HFT := Lib.hid (fits_any x4 m4 (.slice (some ⟨w3.heap.size, 0, none⟩) 1 1) [1] (.inr ⟨⟨w3.heap.size, 0, none⟩, 1, by simp, by simp, fun j u hj => ⟨w3.heap.size, 0, rfl, by rw [cell_of_row _ _ (0 + j) _ _ _ R4, Nat.zero_add]; simpa using hj⟩⟩) (by simp))
    have HS4 := Lib.hid s4
    clear A4 R4 s4 x4 hn4 m4
    go_wp2_with fail
    refine HFT.out.mono ?_
    rintro e w5 ⟨rfl, hf5⟩
    have s5 := HS4.out.fr0 hf5
    obtain ⟨S5, dm5, x5, _, hn5⟩ := s5.open
    have m5 := HM.out.stpB HX.out (by simp) s5
    have HTN := Lib.hid (turn_any x5 m5 1 (.inl rfl) i0 (by omega) HC.out)
    have HN5 := Lib.hid (fun (w' : World) (c' : Nat → List UInt8) (h : Stp K A N pg S5 w5 w' c') => (hn5 h).close (Fr.refl [] w) (by simp))
    clear hf5 s5 x5 hn5 m5 HFT HS4 HS3
    go_wp2_with fail
    refine HTN.out.mono ?_
    rintro e w6 ⟨rfl, hs6⟩
    have HF := Lib.hid (HN5.out _ _ hs6)
    clear hs6 HN5 HTN
    go_wp2_with fail
    go_ret2
    exact .inl ⟨hlt, rfl, HF.out⟩
  · rw [if_neg (by exact_mod_cast hlt)]
    have HF := Lib.hid (HS3.out.close (Fr.refl [] w) (by simp))
    go_wp2_with fail
    go_ret2
    exact .inr ⟨by omega, rfl, HF.out⟩
theorem zrow_rd {w : World} {b : Nat} (h : w.heap[b]? = some (.cells zRow 5 (0, 0))) : RdB w (.slice (some ⟨b, 0, none⟩) 512 512) zBytes := by
  have h2 : RowB w b zBytes := h
  have h3 := h2.rd 512 512 (by rw [zBytes_len]; omega) (by omega)
  rwa [List.take_of_length_le (by rw [zBytes_len]; omega)] at h3
set_option maxRecDepth 100000 in
set_option maxHeartbeats 4000000 in
theorem page_any [KAny K] (x : CX K A w N S pg cur dm) (m : MpAt w K mb) (p0 : Nat) (hp5 : 5 ≤ p0) (hp : p0 ≤ 59) (hc : cur 2 = bmL p0) :
    Calls Tryz.prog 83 #[.pointer (some ⟨mb, 0, none⟩)] w fun e w' => (p0 < 59 ∧ e = .returned (.tuple #[.int .i64 (p0 : Int), .int .i64 0]) ∧ Stp K A N pg S w w' (updF (updF cur 2 (bmL (p0 + 1))) p0 zBytes)) ∨ (p0 = 59 ∧ e = .returned (.tuple #[.int .i64 0, .int .i64 7]) ∧ Stp K A N pg S w w' cur) := by
  have HRD := Lib.hid (aread_any x m 2 (.inr rfl))
  have HX := Lib.hid x; have HM := Lib.hid m; have HC := Lib.hid hc
  have hmk := run_makeSec
  clear x m hc
  go_enter Tryz.func83, Tryz.ntmps83
  go_wp2_with fail
  refine HRD.out.mono ?_
  rintro e w2 ⟨q, cap, rfl, hq, ho, hs⟩
  rw [HC.out] at ho
  have HFI := Lib.hid (first_any w2 (.slice (some ⟨q, 0, none⟩) 512 cap) p0 59 (RdV_of_owns ho) hp (by omega))
  have HS := Lib.hid ((hs.anti (A' := A) (fun k hk => List.mem_cons_of_mem _ hk)).toB [])
  clear ho hs hq HRD
  rw [show ((bcnt 2 : Nat) : Int) = 59 from rfl]
  go_wp2_with fail
  refine HFI.out.mono ?_
  rintro e w3 ⟨rfl, hb3⟩
  have HS3 := Lib.hid (HS.out.fr0 (Fr.of_below (S := []) hb3))
  clear HFI HS hb3
  by_cases hlt : p0 < 59
  · rw [if_pos (by exact_mod_cast hlt)]
    have j0 : ¬ (p0 : Int) < 0 := by omega
    have A4 := (Fr.refl [] w3).alloc (.cells #[.int .i64 2, .int .i64 (p0 : Int)] 3)
    have R4 := heap_alloc_new w3 (.cells #[.int .i64 2, .int .i64 (p0 : Int)] 3)
    have s4 := HS3.out.fr0 A4
    obtain ⟨S4, dm4, x4, _, hn4⟩ := s4.open
    have m4 := HM.out.stpB HX.out (by simp) s4
    have HFT := Lib.hid (fits_any x4 m4 (.slice (some ⟨w3.heap.size, 0, none⟩) 2 2) [2, p0] (.inr ⟨⟨w3.heap.size, 0, none⟩, 2, by simp, by simp, fun j u hj => ⟨w3.heap.size, 0, rfl, by rw [cell_of_row _ _ (0 + j) _ _ _ R4, Nat.zero_add]; simpa using hj⟩⟩) (by simp))
    have HS4 := Lib.hid s4
    clear A4 R4 s4 x4 hn4 m4
    go_wp2_with fail
    refine HFT.out.mono ?_
    rintro e w5 ⟨rfl, hf5⟩
    have s5 := HS4.out.fr0 hf5
    obtain ⟨S5, dm5, x5, _, hn5⟩ := s5.open
    have m5 := HM.out.stpB HX.out (by simp) s5
    have HTN := Lib.hid (turn_any x5 m5 2 (.inr rfl) p0 (by omega) HC.out)
    have HN5 := Lib.hid (fun (w' : World) (c' : Nat → List UInt8) (h : Stp K A N pg S5 w5 w' c') => hn5 h)
    clear hf5 s5 x5 hn5 m5 HFT HS4 HS3
    go_wp2_with fail
    refine HTN.out.mono ?_
    rintro e w6 ⟨rfl, hs6⟩
    have s6 := HN5.out _ _ hs6
    obtain ⟨S6, dm6, x6, _, hn6⟩ := s6.open
    have m6 := HM.out.stpB HX.out (by simp) s6
    have c06 := m6.c0
    have c0d := cell_dr c06
    have c0a := (m6.fr ((Fr.refl [] w6).alloc (.cells zRow 5)) (by simp)).c0
    have c0b := cell_dr c0a
    have hmw : mb ≠ w6.heap.size := by have h1 : mb < w6.heap.size := (Array.getElem?_eq_some_iff.1 m6).1; omega
    have HWR := Lib.hid (fun (wx : World) (hx : Fr [] (w6.alloc (.cells zRow 5)) wx) => show Calls Tryz.prog 27 #[.pointer (some ⟨K.c, 0, none⟩), .int .i64 (p0 : Int), .slice (some ⟨w6.heap.size, 0, none⟩) 512 512] wx fun e w' => e = .returned (.int .i64 0) ∧ Stp K A N pg S w w' (updF (updF cur 2 (bmL (p0 + 1))) p0 zBytes) from by
      have hfx := ((Fr.refl [] w6).alloc (.cells zRow 5)).trans hx
      refine (wrx_any (x6.fr0 hfx) p0 hlt (.slice (some ⟨w6.heap.size, 0, none⟩) 512 512) zBytes (zrow_rd (hx.heap (by simp) (heap_alloc_new w6 _))) zBytes_len).mono ?_
      rintro e w' ⟨he, hst⟩
      exact ⟨he, (hn6 (Stp.trans (hfx.mono (by simp)) (fun k hk => .inl hk) hst)).close (Fr.refl [] w) (by simp)⟩)
    clear hs6 s6 x6 hn6 m6 HN5 HTN
    go_wp2_with fail
    have HW1 := Lib.hid (HWR.out _ (Fr.refl _ _)); have HW2 := Lib.hid (HWR.out _ (Fr.drew _))
    clear HWR
    go_region_with (first
      | (refine HW1.out.mono ?_; rintro r w7 ⟨rfl, hst⟩; (have HF := Lib.hid hst); clear hst)
      | (refine HW2.out.mono ?_; rintro r w7 ⟨rfl, hst⟩; (have HF := Lib.hid hst); clear hst))
    all_goals (
      clear HW1 HW2 hmk c06 c0d c0a c0b
      go_wp2_with fail
      go_ret2
      exact .inl ⟨hlt, rfl, HF.out⟩)
  · rw [if_neg (by exact_mod_cast hlt)]
    have HF := Lib.hid (HS3.out.close (Fr.refl [] w) (by simp))
    go_wp2_with fail
    go_ret2
    exact .inr ⟨by omega, rfl, HF.out⟩
end
end Go.Proofs.YtcblfkojkdaepaaGreat
