/- An inode is loaded. -/
import Derived.Test.YtcblfkojkdaepaaGreatTake
namespace Go.Proofs.YtcblfkojkdaepaaGreat
open Go.RowKit Go.ChangeMaps
/-- A struct of numbers in memory. -/
def opR (l : List Int) : Array Value := (l.map (Value.int .i64)).toArray
theorem opR_at (l : List Int) (j : Nat) (v : Int) (h : l[j]? = some v) : (opR l)[j]? = some (.int .i64 v) := by
  unfold opR
  rw [List.getElem?_toArray, List.getElem?_map, h]; rfl
theorem opR_zero : Tryz.zeroCells93 = opR (List.replicate 144 0) := by kernel_rfl
/-- An opened inode in a box. -/
def OpB (w : World) (b : Nat) (l : List Int) : Prop := w.heap[b]? = some (.cells (opR l) 93 (0, 0)) ∧ l.length = 144
theorem OpB.cell {w : World} {b : Nat} {l : List Int} (h : OpB w b l) (j : Nat) (v : Int) (hj : l[j]? = some v) : w.cell? ⟨b, j, none⟩ = some (.int .i64 v) := by
  rw [cell_of_row w b j _ _ _ h.1]; exact opR_at l j v hj
theorem OpB.free {w : World} {b : Nat} {l : List Int} (h : OpB w b l) (j : Nat) : w.frozen? ⟨b, j, none⟩ = false := frozen_of_row w b j _ _ h.1
theorem OpB.set {w : World} {b : Nat} {l : List Int} (h : OpB w b l) (j : Nat) (v : Int) : OpB (w.setCell ⟨b, j, none⟩ (.int .i64 v)) b (l.set j v) := by
  refine ⟨?_, by rw [List.length_set]; exact h.2⟩
  rw [heap_setCell_same w b j _ _ _ h.1]
  congr 2
  unfold opR
  rw [List.setIfInBounds_toArray, List.map_set]
theorem op_frow (w : World) (g : Nat) (cs : Array Value) {b : Nat} (h : b = g) : Fr [b] w (w.setRow g cs) := by
  subst h
  exact ⟨rfl, rfl, rfl, by simp [World.setRow], fun k _ hn => setRow_other w b k cs (by simpa using hn)⟩
theorem OpB.row {w : World} {b : Nat} {l : List Int} (h : OpB w b l) (l' : List Int) (hl : l'.length = 144) : OpB (w.setRow b (opR l')) b l' := ⟨setRow_heap _ _ _ _ _ _ h.1, hl⟩
theorem opR_size (l : List Int) : (opR l).size = l.length := by simp [opR]
theorem open_info : (Tryz.prog.info? 93).map (·.size) = some 144 := by kernel_rfl
theorem opR_one (l : List Int) : (opR l).all (·.oneCell') = true := by
  rw [Array.all_eq_true_iff_forall_mem]
  intro v hv
  simp only [opR, List.mem_toArray, List.mem_map] at hv
  obtain ⟨x, _, rfl⟩ := hv
  rfl
theorem results_open_tmp {fn : Func} {p u : Tmp} (h : fn.results = #[.cell p 93, .tmp u]) (tmps : Array Value) (w : World) (g : Nat) (l : List Int) (x : Value)
    (hp : tmps.getD p undef = .pointer (some ⟨g, 0, none⟩)) (hg : OpB w g l) (hx : tmps.getD u undef = x) :
    (results fn tmps).run Tryz.prog w = .ok (.tuple #[.agg (opR l), x]) w := by
  rw [results_cell_tmp h, hp, hx]
  simp [asAddr, run_loadVar_row w g 93 93 (opR l) (0, 0) _ hg.1 Tryz.underlying93 rfl (by rw [open_info, opR_size, hg.2])]
theorem OpB.fr {w w' : World} {b : Nat} {l : List Int} {U : List Nat} (h : OpB w b l) (hf : Fr U w w') (hU : b ∉ U) : OpB w' b l := ⟨hf.heap hU h.1, h.2⟩
theorem OpB.bok {A : List Nat} {w : World} {b : Nat} {l : List Int} (h : OpB w b l) : Bok A w b := Bok.of h.1 (fun e => absurd e (by decide)) (by decide) (fun e => absurd e (by decide))
/-- The bytes of a file that has just been made. -/
def encI : List UInt8 := [1, 1, 164, 0, 1, 0, 0, 0, 0] ++ List.replicate 55 0
def opN (i : Nat) : List Int := [1, 420, 1, 0] ++ List.replicate 11 0 ++ [(i : Int)] ++ List.replicate 128 0
theorem opN_eq (i : Nat) : (((((List.replicate 144 (0 : Int)).set 15 (i : Int)).set 0 1).set 1 420).set 2 1).set 3 0 = opN i := by rfl
theorem opN_pg (i k : Nat) (hk : k < 11) : (opN i)[4 + k]? = some 0 := by
  unfold opN
  rw [List.append_assoc, List.append_assoc, List.getElem?_append_right (by simp), List.getElem?_append_left (by simp; omega), List.getElem?_replicate, if_pos (by simp; omega)]
theorem opN_put (i k : Nat) (hk : k < 11) : (opN i).set (4 + k) 0 = opN i := by
  obtain ⟨h, e⟩ := List.getElem?_eq_some_iff.1 (opN_pg i k hk)
  rw [← e, List.set_getElem_self]
theorem enc_a : ∀ t, t < 2 → encI[1 + t]? = [(1 : UInt8), 164][t]? := by decide
theorem enc_b : ∀ t, t < 2 → encI[3 + t]? = [(0 : UInt8), 1][t]? := by decide
theorem enc_c : ∀ t, t < 4 → encI[5 + t]? = [(0 : UInt8), 0, 0, 0][t]? := by decide
theorem enc_p : ∀ k, k < 11 → ∀ t, t < 4 → encI[9 + 4 * k + t]? = [(0 : UInt8), 0, 0, 0][t]? := by decide
section
variable {K : Kx} {A S : List Nat} {w : World} {N dm mb sb : Nat} {pg cur : Nat → List UInt8}
set_option maxRecDepth 100000 in
set_option maxHeartbeats 4000000 in
theorem load_any (x : CX K A w N S pg cur dm) (m : MpAt w K mb) (so : SoAt w sb mb) (i0 i : Nat) (hi : 0 < i) (hii : i < i0) (hi16 : i0 ≤ 16) (hc : cur 1 = bmL i0) (henc : ∀ t, t < 64 → (cur (3 + i / 8))[i % 8 * 64 + t]? = encI[t]?) :
    Calls Tryz.prog 35 #[.pointer (some ⟨sb, 0, none⟩), .int .i64 (i : Int)] w fun e w' => e = .returned (.tuple #[.agg (opR (opN i)), .int .i64 0]) ∧ Stp K A N pg S w w' cur := by
  have A1 := (Fr.refl [] w).alloc (.cells Tryz.zeroCells93 93)
  have O1 : OpB (w.alloc (.cells Tryz.zeroCells93 93)) w.heap.size (List.replicate 144 0) := ⟨by rw [heap_alloc_new, opR_zero], by simp⟩
  have x1 := x.fr0 A1
  have m1 := m.fr A1 (by simp)
  have so1 := so.fr A1 (by simp)
  have c0 := so1.c0
  have HTB := Lib.hid (table_any (w.alloc (.cells Tryz.zeroCells93 93)) m1 i (by omega))
  have HUS := Lib.hid (used_any x1 m1 i0 i hii hi16 hc)
  have HX := Lib.hid x; have HX1 := Lib.hid x1; have HM1 := Lib.hid m1; have HSO1 := Lib.hid so1; have HO1 := Lib.hid O1; have HA1 := Lib.hid A1
  have HENC := Lib.hid henc
  have HBX := Lib.hid (show w.heap.size < (w.alloc (.cells Tryz.zeroCells93 93)).heap.size by simp)
  have HC := Lib.hid hc
  have i1 : (0 : Int) < (i : Int) := by omega
  have i2 : (i : Int) < 16 := by omega
  clear x m so x1 m1 so1 O1 A1 henc hc
  go_enter Tryz.func35, Tryz.ntmps35
  go_wp2_with fail
  generalize w.alloc (.cells Tryz.zeroCells93 93) = w1 at *
  obtain ⟨bx, hbx⟩ : ∃ b, b = w.heap.size := ⟨_, rfl⟩
  rw [← hbx] at HO1 HBX ⊢
  have HE := Lib.hid hbx
  clear hbx
  refine HTB.out.mono ?_
  rintro e w1' ⟨rfl, rfl⟩
  obtain ⟨pgn, hpgn⟩ : ∃ p, p = 3 + i / 8 := ⟨_, rfl⟩
  obtain ⟨at0, hat0⟩ : ∃ p, p = i % 8 * 64 := ⟨_, rfl⟩
  rw [← hpgn, ← hat0] at HENC ⊢
  have HPN := Lib.hid (show pgn < 59 by omega)
  have a0 : (at0 : Int) ≤ 448 := by omega
  clear hpgn hat0
  go_wp2_with fail
  refine HUS.out.mono ?_
  rintro e w2 ⟨rfl, hs⟩
  have hbS : bx ∉ S := fun hm => by have := HX.out.lt bx hm; have := HE.out; omega
  have s2 := hs.toB [bx]
  obtain ⟨S2, dm2, x2, hn2, hnx2⟩ := s2.open
  have HBS := Lib.hid hbS
  have HZ2 := Lib.hid hs.size
  have m2 := HM1.out.stp HX1.out hs
  have so2 := HSO1.out.fr hs.1 (HSO1.out.off HX1.out)
  have O2 := HO1.out.fr hs.1 hbS
  have c02 := so2.c0
  have HCA := Lib.hid (acache_any w2 m2)
  have HRD := Lib.hid (rdx_any x2 pgn HPN.out)
  have HNX := Lib.hid (fun (A' : List Nat) (w' : World) (c' : Nat → List UInt8) (h : Stp K A' N pg S2 w2 w' c') => hnx2 h)
  have HN2 := Lib.hid (hn2 bx HBX.out hbS); have HO2 := Lib.hid O2
  have HM2 := Lib.hid m2
  clear hs hbS s2 x2 hn2 hnx2 m2 so2 O2 HTB HUS c0
  go_wp2_with fail
  refine HCA.out.mono ?_
  rintro e w2' ⟨rfl, rfl⟩
  go_wp2_with fail
  refine HRD.out.mono ?_
  rintro e w3 ⟨q, cap, rfl, hq, ho, hs3⟩
  have HP3 := Lib.hid (show PgO w3 _ q cap (cur pgn) from ho)
  have HS3 := Lib.hid (HNX.out _ _ _ hs3)
  have HQB := Lib.hid (show bx ≠ q by have := HBX.out; have := HZ2.out; omega)
  have hqb : bx ≠ q := by have := HBX.out; have := HZ2.out; omega
  have O3 := HO2.out.fr hs3.1 HN2.out
  have hcap := HP3.out.cap
  have hcapI : (512 : Int) ≤ (cap : Int) := by omega
  have k15 := O3.cell 15 0 (by simp)
  have f15 := O3.free 15
  have HO3 := Lib.hid O3
  clear hq ho hs3 HRD HNX HCA hqb O3 c02
  have F4 := (Fr.refl [bx] w3).setCell (p := ⟨bx, 15, none⟩) (.inl (by simp)) (.int .i64 (i : Int))
  have HO4 := Lib.hid (HO3.out.set 15 (i : Int))
  have HS4 := Lib.hid (HS3.out.turn (List.mem_singleton.2 rfl) F4 HBX.out HBS.out (by have := HX.out.plt; have := HE.out; omega) HO3.out.bok)
  have HP4 := Lib.hid (HP3.out.kept F4 (by simpa using fun e => HQB.out e.symm))
  clear F4
  go_wp2_with fail
  generalize w3.setCell ⟨bx, 15, none⟩ (.int .i64 (i : Int)) = w4 at *
  have hb0 := HP4.out.cell at0 1 (by have := HENC.out 0 (by omega); rwa [Nat.add_zero] at this)
  have HG1 := Lib.hid (fun q' => get_any (w4.drewN q') (HP4.out.kept (Fr.drewN (S := []) w4 q') (by simp)) (at0 + 1) 2 (cap - at0 - 1) (by omega) (by omega) [1, 164] rfl (fun t ht => by rw [Nat.add_assoc, HENC.out (1 + t) (by omega)]; exact enc_a t ht) (by decide))
  have HG2 := Lib.hid (fun q' => get_any (w4.drewN q') (HP4.out.kept (Fr.drewN (S := []) w4 q') (by simp)) (at0 + 3) 2 (cap - at0 - 3) (by omega) (by omega) [0, 1] rfl (fun t ht => by rw [Nat.add_assoc, HENC.out (3 + t) (by omega)]; exact enc_b t ht) (by decide))
  have HG3 := Lib.hid (fun q' => get_any (w4.drewN q') (HP4.out.kept (Fr.drewN (S := []) w4 q') (by simp)) (at0 + 5) 4 (cap - at0 - 5) (by omega) (by omega) [0, 0, 0, 0] rfl (fun t ht => by rw [Nat.add_assoc, HENC.out (5 + t) (by omega)]; exact enc_c t ht) (by decide))
  have hb0' : w4.cell? ⟨q, at0, none⟩ = some (.int .u8 1) := hb0
  have e1 : ((beV [1, 164] : Nat) : Int) = 420 := by decide
  have e2 : ((beV [0, 1] : Nat) : Int) = 1 := by decide
  have e3 : ((beV [0, 0, 0, 0] : Nat) : Int) = 0 := by decide
  rw [e1] at HG1
  rw [e2] at HG2
  rw [e3] at HG3
  rw [Nat.add_sub_cancel_left]
  clear hb0 e1 e2 e3
  refine wp_region_qtail_lit 15 (by kernel_rfl) (by kernel_rfl) ?_
  simp only [List.take_succ_cons, List.take_zero, List.drop_succ_cons, List.drop_zero]
  iterate 6 go_big_quiet_step (fail)
  go_big_quiet_step (exact Calls.quiet_of_same (HG1.out _))
  iterate 2 go_big_quiet_step (fail)
  go_big_quiet_step (exact Calls.quiet_of_same (HG2.out _))
  iterate 2 go_big_quiet_step (fail)
  go_big_quiet_step (exact Calls.quiet_of_same (HG3.out _))
  repeat go_big_quiet_step (fail)
  refine wpQuiet_nil ?_
  intro w' hw'
  obtain ⟨nq, rfl⟩ := hw'
  have F5 := Fr.drewN (S := []) w4 nq
  have O5 := HO4.out.fr F5 (by simp)
  have HP5 := Lib.hid (HP4.out.kept F5 (by simp))
  have HS5 := Lib.hid (HS4.out.fr0 F5)
  have hbx1 := HBX.out
  have hbp := HX.out.plt
  have hbe := HE.out
  have HBP := Lib.hid (show bx ≠ K.p by omega)
  clear HG1 HG2 HG3 hb0' HS4 HP4 HO4 F5 HO3 HP3 HS3 hbx1 hbp hbe k15 f15
  generalize w4.drewN nq = w5 at *
  have g0 := O5.cell 0 0 (by simp)
  have g1 := (O5.set 0 1).cell 1 0 (by simp)
  have g2 := ((O5.set 0 1).set 1 420).cell 2 0 (by simp)
  have g3 := (((O5.set 0 1).set 1 420).set 2 1).cell 3 0 (by simp)
  have f0 := O5.free 0
  have f1 := (O5.set 0 1).free 1
  have f2 := ((O5.set 0 1).set 1 420).free 2
  have f3 := (((O5.set 0 1).set 1 420).set 2 1).free 3
  have O6 := (((O5.set 0 1).set 1 420).set 2 1).set 3 0
  rw [opN_eq] at O6
  have F6 := ((((Fr.refl [bx] w5).setCell (p := ⟨bx, 0, none⟩) (.inl (by simp)) (.int .i64 1)).setCell (p := ⟨bx, 1, none⟩) (.inl (by simp)) (.int .i64 420)).setCell (p := ⟨bx, 2, none⟩) (.inl (by simp)) (.int .i64 1)).setCell (p := ⟨bx, 3, none⟩) (.inl (by simp)) (.int .i64 0)
  have HS6 := Lib.hid (HS5.out.turn (List.mem_singleton.2 rfl) F6 HBX.out HBS.out HBP.out O5.bok)
  have HP6 := Lib.hid (HP5.out.kept F6 (by simpa using fun e => HQB.out e.symm))
  have HO6 := Lib.hid O6
  clear O5 O6 F6 HS5 HP5
  go_wp2_with fail
  clear g0 g1 g2 g3 f0 f1 f2 f3
  generalize (((w5.setCell ⟨bx, 0, none⟩ (.int .i64 1)).setCell ⟨bx, 1, none⟩ (.int .i64 420)).setCell ⟨bx, 2, none⟩ (.int .i64 1)).setCell ⟨bx, 3, none⟩ (.int .i64 0) = w6 at *
  go_loopw [81] (fun iv wr => ∃ k : Nat, k ≤ 11 ∧ iv = .int .i64 (k : Int) ∧ PgO wr w2'.heap.size q cap (cur pgn) ∧ OpB wr bx (opN i) ∧ StpB K (q :: A) N pg [bx] S w1' wr cur) (fun iv _ => ((11 : Int) - intOf iv).toNat)
  case atStart => exact ⟨0, by omega, rfl, HP6.out, HO6.out, HS6.out⟩
  case round =>
    obtain ⟨k, hk, rfl, hP, hO, hS⟩ := hrel
    clear HP6 HO6 HS6
    by_cases hlt : k < 11
    · have k11 : (k : Int) < 11 := by omega
      have HP := Lib.hid hP; have HO := Lib.hid hO; have HS := Lib.hid hS
      have hG := get_any wr hP (at0 + (9 + 4 * k)) 4 (cap - at0 - (9 + 4 * k)) (by omega) (by omega) [0, 0, 0, 0] rfl (fun t ht => by rw [Nat.add_assoc, HENC.out (9 + 4 * k + t) (by omega)]; exact enc_p k hlt t ht) (by decide)
      rw [show ((beV [0, 0, 0, 0] : Nat) : Int) = 0 by decide] at hG
      have HG := Lib.hid hG
      have gk := hO.cell _ _ (opN_pg i k hlt)
      have fk := hO.free (4 + k)
      have hO2 := hO.set (4 + k) 0
      rw [opN_put i k hlt] at hO2
      have HO2' := Lib.hid hO2
      have F7 := (Fr.refl [bx] wr).setCell (p := ⟨bx, 4 + k, none⟩) (.inl (by simp)) (.int .i64 0)
      have HS7 := Lib.hid (hS.turn (List.mem_singleton.2 rfl) F7 HBX.out HBS.out HBP.out hO.bok)
      have HP7 := Lib.hid (hP.kept F7 (by simpa using fun e => HQB.out e.symm))
      clear hP hO hS hG hO2 F7
      go_wp2_with fail
      rw [show 13 + 4 * k - (9 + 4 * k) = 4 by omega]
      refine HG.out.mono ?_
      rintro e wr2 ⟨rfl, rfl⟩
      clear HG
      go_wp2_with fail
      exact ⟨⟨k + 1, by omega, by simp, HP7.out, HO2'.out, HS7.out⟩, by simp [intOf]; omega⟩
    · obtain rfl : k = 11 := by omega
      have g0 := hO.cell 0 1 rfl
      have g14 := hO.cell 14 0 rfl
      have HO := Lib.hid hO; have HS := Lib.hid hS
      clear hP hO hS
      go_wp2_with (first
        | refine wpList_load_row rfl _ _ rfl bx rfl 93 (opR (opN i)) (0, 0) _ HO.out.1 Tryz.underlying93 rfl (by rw [open_info, opR_size, HO.out.2]) ?_
        | refine wpList_store_row rfl _ _ _ rfl bx (opR (opN i)) rfl rfl 93 (opR (opN i)) HO.out.1 (by rw [open_info, opR_size, HO.out.2]) rfl (opR_one _) ?_)
      have HO8 := HO.out.row (opN i) HO.out.2
      have hfin := (HS.out.turn (List.mem_singleton.2 rfl) (op_frow wr bx (opR (opN i)) rfl) HBX.out HBS.out HBP.out HO.out.bok).close HA1.out (fun b hb => by simp at hb; subst hb; have := HE.out; omega)
      exact bodyPost_ret (results_open_tmp rfl _ _ bx (opN i) (.int .i64 0) rfl HO8 rfl) rfl ⟨rfl, hfin.anti (fun k hk => List.mem_cons_of_mem _ hk)⟩
end
end Go.Proofs.YtcblfkojkdaepaaGreat
