/- An inode is saved. -/
import Derived.Test.YtcblfkojkdaepaaGreatLoad
import Derived.Lib.SliceRun
import Derived.Deep.MidRow
namespace Go.Proofs.YtcblfkojkdaepaaGreat
open Go.RowKit Go.ChangeMaps
theorem PgO.sets' {B q cap : Nat} : ∀ (bs : List UInt8) (o : Nat) (w : World) (L : List UInt8), PgO w B q cap L → o + bs.length ≤ 512 → PgO (w.setCells q o (bs.map vB)) B q cap (spl L o bs) ∧ Fr [q] w (w.setCells q o (bs.map vB))
  | [], o, w, L, h, _ => ⟨by rw [spl_nil]; exact h, Fr.refl _ _⟩
  | x :: bs, o, w, L, h, hl => by
    have hL := h.len
    simp only [List.length_cons] at hl
    obtain ⟨h1, h2⟩ := PgO.sets' bs (o + 1) _ _ (h.set o x) (by omega)
    have e : spl (L.set o x) (o + 1) bs = spl L o (x :: bs) := by
      unfold spl
      rw [List.take_set, List.take_succ_eq_append_getElem (by omega), List.set_append_right _ _ (by simp; omega), List.drop_set_of_lt (by omega), show o + 1 + bs.length = o + (x :: bs).length by simp; omega]
      simp [show o ≤ L.length by omega]
    rw [e] at h1
    exact ⟨h1, ((Fr.refl [q] w).setCell (p := ⟨q, o, none⟩) (.inl (by simp)) (vB x)).trans h2⟩
theorem PgO.turnA {K : Kx} {A Bx S : List Nat} {w1 wi w' : World} {N B q cap : Nat} {L : List UInt8} {pg cur : Nat → List UInt8} (hP : PgO wi B q cap L) (s : StpB K (q :: A) N pg Bx S w1 wi cur) (hB : w1.heap.size ≤ q) (hf : Fr [q] wi w') : StpB K (q :: A) N pg Bx S w1 w' cur := by
  obtain ⟨cs, e, _⟩ := own_kind hP
  obtain ⟨Si, dmi, x, _⟩ := s.open
  exact s.turnA hB hf (fun Si dmi x => x.ne e (by decide) (by decide) (fun e => absurd e (by decide)) (by decide)) (x.nep e (by decide)) (Bok.of e (fun e => absurd e (by decide)) (by decide) (fun _ => .inl (List.mem_cons_self ..)))
/-- Bytes put into bytes that were put. -/
theorem spl_spl {L E bs : List UInt8} {a o : Nat} (hE : o + bs.length ≤ E.length) (hL : a + E.length ≤ L.length) : spl (spl L a E) (a + o) bs = spl L a (spl E o bs) := by
  apply List.ext_getElem?
  intro t
  have l1 : (spl E o bs).length = E.length := spl_len hE
  have l2 : (spl L a E).length = L.length := spl_len hL
  by_cases h1 : t < a
  · rw [spl_out (by omega) t (.inl (by omega)), spl_out hL t (.inl h1), spl_out (by omega) t (.inl h1)]
  · obtain ⟨s, rfl⟩ : ∃ s, t = a + s := ⟨t - a, by omega⟩
    by_cases h2 : s < E.length
    · rw [spl_in (L := L) (by omega) s (by omega)]
      by_cases h3 : s < o ∨ o + bs.length ≤ s
      · rw [spl_out (by omega) _ (by omega), spl_in hL s h2, spl_out hE s h3]
      · obtain ⟨r, rfl⟩ : ∃ r, s = o + r := ⟨s - o, by omega⟩
        rw [← Nat.add_assoc, spl_in (by omega) r (by omega), spl_in hE r (by omega)]
    · rw [spl_out (by omega) _ (.inr (by omega)), spl_out hL _ (.inr (by omega)), spl_out (by omega) _ (.inr (by omega))]
theorem put_in {w : World} {B q cap at0 : Nat} {L E : List UInt8} (hP : PgO w B q cap (spl L at0 E)) (hL : L.length = 512) (ha : at0 + E.length ≤ 512) (off n c v : Nat) (hn : off + n ≤ E.length) (hn4 : n ≤ 4) (hv : v < 4294967296) :
    Calls Tryz.prog 66 #[.slice (some ⟨q, at0 + off, none⟩) n c, .int .i64 (v : Int)] w fun e w' => e = .returned (.tuple #[]) ∧ PgO w' B q cap (spl L at0 (spl E off (beB n v))) ∧ Fr [q] w w' := by
  refine (put_any w hP (at0 + off) n c v (by omega) hn4 hv).mono ?_
  rintro e w' ⟨rfl, h1, h2⟩
  rw [spl_spl (by rw [beB_len]; omega) (by omega)] at h1
  exact ⟨rfl, h1, h2⟩
theorem CX.new {K : Kx} {A S : List Nat} {w w' : World} {N dm q : Nat} {pg cur : Nat → List UInt8} (h : CX K A w N S pg cur dm) (hf : Fr [] w w') (hq : w.heap.size ≤ q) (hq2 : q < w'.heap.size) : CX K (q :: A) w' N S pg cur dm := by
  obtain ⟨cm, rv, row, ops, df, cf, h, hN, rfl, hpd⟩ := h
  have h2 := h.fr2 hf (by simp)
  have hto : ∀ v l, Dat A w v l → Dat (q :: A) w v l := fun v l hd => RdN.to hd fun k hk => by
    simp only [List.mem_cons] at hk
    rcases hk with rfl | hk
    · exact .inr hq
    · exact .inl hk
  refine ⟨cm, rv, row, ops, df, cf, ⟨h2.box, h2.log, h2.disk, h2.play, h2.wait, emp_kept (h.emp.mono hto) (fun n hn => (h.len5 n hn).2) hf (by simp), h2.dirty, h2.clean, fun n v e => ?_, fun n v e => ?_, h2.nd, h2.rown, h2.rlen, h2.apart, h2.len5, h2.size, fun k hk => ?_⟩, hN, rfl, hpd⟩
  · obtain ⟨h1, h2⟩ := h.dd n v e
    exact ⟨h1, dat_kept (hto _ _ h2) (Nat.le_of_eq (h.len5 n h1).1.symm) hf (by simp)⟩
  · obtain ⟨h0, h1, h2⟩ := h.cc n v e
    exact ⟨h0, h1, dat_kept (hto _ _ h2) (Nat.le_of_eq (h.len5 n h0).2.symm) hf (by simp)⟩
  · simp only [List.mem_cons] at hk
    rcases hk with rfl | hk
    · exact hq2
    · exact h2.avoid k hk
theorem PgO.new (w : World) : PgO (w.alloc (.cells zRow 5)) w.heap.size w.heap.size 512 zBytes := by
  have hz : zRow.size = 512 := by unfold zRow; simp [zBytes_len]
  refine ⟨by rw [List.length_map, zBytes_len], .inr ⟨_, 512, zRow, rfl, Nat.le_refl _, heap_alloc_new _ _, Nat.le_refl _, by decide, by rw [hz], ?_⟩⟩
  rw [List.take_of_length_le (by rw [Array.length_toList, hz]; omega)]
  rfl
theorem run_index_ints (w : World) (t : TypeId) (n : Nat) (hu : Tryz.prog.underlying t = some (.array n 3)) (cs : List Value) (k : Nat) (v : Value) (hk : k < n) (h : cs[k]? = some v) :
    (Instr.index t (.agg cs.toArray) (.int .i64 (k : Int))).run Tryz.prog w = .ok v w := by
  have h1 : (0 : Int) ≤ (k : Int) ∧ (k : Int) < (n : Int) := by omega
  have ha : (isAgg 3).run Tryz.prog w = .ok false w := by kernel_rfl
  have hs : (sizeOf 3).run Tryz.prog w = .ok 1 w := by kernel_rfl
  have h2 : cs.toArray[k]? = some v := by simpa using h
  simp [Instr.index, run_underlying hu, asIntOf, h1, hs, part, Sem.run_bind, h]
  exact fun hh => absurd hh (by omega)
theorem nat_list (l : List Int) (n : Nat) (hl : l.length = n) (hv : ∀ (j : Nat) (v : Int), l[j]? = some v → 0 ≤ v ∧ v < 4294967296) : ∃ f : Nat → Nat, ∀ j, j < n → l[j]? = some (f j : Int) ∧ f j < 4294967296 := by
  refine ⟨fun j => (l.getD j 0).toNat, fun j hj => ?_⟩
  have e : l[j]? = some (l[j]'(by omega)) := List.getElem?_eq_getElem _
  have h := hv j _ e
  have e2 : l.getD j 0 = l[j]'(by omega) := by rw [List.getD_eq_getElem?_getD, e]; rfl
  simp only [e2]
  exact ⟨by rw [e]; congr 1; omega, by omega⟩
theorem encI_put (k : Nat) (hk : k < 11) : spl encI (9 + 4 * k) (beB 4 0) = encI := by
  revert k; decide +kernel
theorem encI_start : spl (spl (spl (spl (List.replicate 64 0) 0 [1]) 1 (beB 2 420)) 3 (beB 2 1)) 5 (beB 4 0) = encI := by decide +kernel
section
variable {K : Kx} {A S : List Nat} {w : World} {N dm mb sb : Nat} {pg cur : Nat → List UInt8}
set_option maxRecDepth 100000 in
set_option maxHeartbeats 4000000 in
theorem save_any [KAny K] (x : CX K A w N S pg cur dm) (m : MpAt w K mb) (so : SoAt w sb mb) (i : Nat) (hi16 : i < 16) (l : List Int) (hl : l.length = 144) (h15 : l[15]? = some (i : Int)) (h0 : l[0]? = some 1) (hv : ∀ (j : Nat) (v : Int), l[j]? = some v → 0 ≤ v ∧ v < 4294967296) (n : Nat) (h14 : l[14]? = some (n : Int)) (hn : n = 0 ∨ 5 ≤ n ∧ n < 59) :
    Calls Tryz.prog 34 #[.pointer (some ⟨sb, 0, none⟩), .agg (opR l)] w fun e w' => e = .returned (.tuple #[]) ∧ ∃ cur', Stp K A N pg S w w' cur' ∧ cur' 1 = cur 1 ∧ cur' 2 = cur 2 ∧ (l = opN i → ∀ t, t < 64 → (cur' (3 + i / 8))[i % 8 * 64 + t]? = encI[t]?) := by
  have A1 := (Fr.refl [] w).alloc (.cells (opR l) 93)
  have O1 : OpB (w.alloc (.cells (opR l) 93)) w.heap.size l := ⟨heap_alloc_new w _, hl⟩
  have x1 := x.fr0 A1
  have m1 := m.fr A1 (by simp)
  have so1 := so.fr A1 (by simp)
  have c0 := so1.c0
  have HTB := Lib.hid (fun q' => table_any ((w.alloc (.cells (opR l) 93)).drewN q') (m1.fr (Fr.drewN (S := []) _ q') (by simp)) i (by omega))
  have c15 := O1.cell 15 _ h15
  have HX := Lib.hid x; have HX1 := Lib.hid x1; have HM1 := Lib.hid m1; have HSO1 := Lib.hid so1; have HO1 := Lib.hid O1; have HA1 := Lib.hid A1
  have H0 := Lib.hid h0; have H14 := Lib.hid h14; have HV := Lib.hid hv; have HN := Lib.hid hn
  clear x m so x1 m1 so1 O1 A1 h0 h14 h15 hv hn
  go_enter Tryz.func34, Tryz.ntmps34
  go_wp2_with fail
  have HBX := Lib.hid (show w.heap.size < (w.alloc (.cells (opR l) 93)).heap.size by simp)
  generalize w.alloc (.cells (opR l) 93) = w1 at *
  obtain ⟨bx, hbx⟩ : ∃ b, b = w.heap.size := ⟨_, rfl⟩
  rw [← hbx] at HO1 HBX c15 ⊢
  have HE := Lib.hid hbx
  clear hbx
  obtain ⟨pgn, hpgn⟩ : ∃ p, p = 3 + i / 8 := ⟨_, rfl⟩
  obtain ⟨at0, hat0⟩ : ∃ p, p = i % 8 * 64 := ⟨_, rfl⟩
  rw [← hpgn, ← hat0] at HTB
  have HEQ := Lib.hid (And.intro hpgn hat0)
  have HPN := Lib.hid (show pgn < 59 ∧ 3 ≤ pgn by omega)
  have a0 : (at0 : Int) ≤ 448 := by omega
  clear hpgn hat0
  refine wp_region_quiet_lit (by kernel_rfl) (by kernel_rfl) ?_
  iterate 6 go_big_quiet_step (fail)
  go_big_quiet_step (exact Calls.quiet_of_same (HTB.out _))
  repeat (go_big_quiet_step (fail))
  refine wpQuiet_nil ?_
  intro _ hw'
  obtain ⟨nq, rfl⟩ := hw'
  have F2 := Fr.drewN (S := []) w1 nq
  have x2 := HX1.out.fr0 F2
  have HA2 := Lib.hid (HA1.out.trans F2)
  have HM2 := Lib.hid (HM1.out.fr F2 (by simp))
  have HSO2 := Lib.hid (HSO1.out.fr F2 (by simp))
  have HO2 := Lib.hid (HO1.out.fr F2 (by simp))
  have HBX2 := Lib.hid (show bx < (w1.drewN nq).heap.size from HBX.out)
  clear HTB c15 c0 HX1 HM1 HSO1 HO1 HA1 HBX F2
  have HX2 := Lib.hid x2
  clear x2
  generalize w1.drewN nq = w2 at *
  clear w1
  have c02 := HSO2.out.c0
  have HCA := Lib.hid (acache_any w2 HM2.out)
  have HRD := Lib.hid (rdx_any HX2.out pgn HPN.out.1)
  go_wp2_with fail
  refine HCA.out.mono ?_
  rintro e w2' ⟨rfl, rfl⟩
  go_wp2_with fail
  refine HRD.out.mono ?_
  rintro e w3 ⟨q, cap, rfl, hq, ho, hs3⟩
  have hbS : bx ∉ S := fun hm => by have := HX.out.lt bx hm; have := HE.out; omega
  have HP3 := Lib.hid (show PgO w3 _ q cap (cur pgn) from ho)
  have HS3 := Lib.hid (hs3.toB [])
  have HO3 := Lib.hid (HO2.out.fr hs3.1 hbS)
  have HQ := Lib.hid hq
  have hcap := HP3.out.cap
  have hcapI : (512 : Int) ≤ (cap : Int) := by omega
  obtain ⟨HP4, F4⟩ := PgO.sets' (List.replicate 64 0) at0 w3 _ HP3.out (by simp; omega)
  rw [List.map_replicate] at HP4 F4
  have hcl : ∀ ty, (Builtin.clear_ #[46] ty #[.slice (some ⟨q, at0, none⟩) 64 (cap - at0)]).run Tryz.prog w3 = .ok (.tuple #[]) (w3.setCells q at0 (List.replicate 64 (vB 0))) := fun ty => by
    obtain ⟨cs, e, hn, _⟩ := own_kind HP3.out
    exact Lib.run_clear_slice w3 _ _ ty _ Tryz.underlying46 (by intro w; rfl) rfl rfl q at0 _ _ (by omega) (fun j hj => by
      obtain ⟨x, hx⟩ : ∃ x, (cur pgn)[at0 + j]? = some x := ⟨_, List.getElem?_eq_getElem (by rw [HP3.out.len]; omega)⟩
      rw [HP3.out.cell _ _ hx]; rfl) (fun j hj => HP3.out.free _)
  obtain ⟨w4, hw4⟩ : ∃ w4, w4 = w3.setCells q at0 (List.replicate 64 (vB 0)) := ⟨_, rfl⟩
  rw [← hw4] at HP4 F4
  simp only [← hw4] at hcl
  clear hw4
  have HS4 := Lib.hid (HP3.out.turnA HS3.out HQ.out F4)
  obtain ⟨ns, hns⟩ := nat_list l 144 hl HV.out
  have HNS := Lib.hid hns
  clear hns
  have hqb : bx ≠ q := by have := HBX2.out; have := HQ.out; omega
  have HO4 := Lib.hid (HO3.out.fr F4 (by simpa using hqb))
  have HP4' := Lib.hid HP4
  have HQB := Lib.hid hqb
  have hcp : (cur pgn).length = 512 := HP3.out.len
  have c40 := HO4.out.cell 0 1 H0.out
  have k4 : w4.cell? ⟨q, at0, none⟩ = some (.int .u8 0) := HP4.cell at0 0 (by have := spl_in (L := cur pgn) (off := at0) (bs := List.replicate 64 0) (by simp; omega) 0 (by simp); rwa [Nat.add_zero] at this)
  have f4 := HP4.free at0
  have hP5 := HP4.set at0 1
  have F5 := (Fr.refl [q] w4).setCell (p := ⟨q, at0, none⟩) (.inl (by simp)) (vB 1)
  have e5 : (spl (cur pgn) at0 (List.replicate 64 0)).set at0 1 = spl (cur pgn) at0 (spl (List.replicate 64 0) 0 [1]) := by
    have h1 := spl_set (L := spl (cur pgn) at0 (List.replicate 64 0)) (off := at0) (bs := []) (x := 1) (by rw [spl_len (by simp; omega)]; simp; omega)
    rw [spl_nil] at h1
    have h2 := spl_spl (L := cur pgn) (E := List.replicate 64 0) (bs := [1]) (a := at0) (o := 0) (by simp) (by simp; omega)
    exact h1.trans h2
  rw [e5] at hP5
  have HS5 := Lib.hid (HP4.turnA HS4.out HQ.out F5)
  have HO5 := Lib.hid (HO4.out.fr F5 (by simpa using hqb))
  have HP5 := Lib.hid hP5
  obtain ⟨E0, hE0⟩ : ∃ E, E = spl (List.replicate 64 0) 0 [1] := ⟨_, rfl⟩
  have HE0 := Lib.hid hE0
  rw [← hE0] at HP5
  clear hE0 e5 hP5 F5
  clear hq ho hs3 HRD HCA hbS c02 HP4 F4 hqb HP4' HP3 HS3 HO3 HS4
  go_wp2_with fail
  rw [Nat.add_sub_cancel_left]
  clear hcl k4 f4 c40 HO4
  change Code.wp _ _ _ _ (w4.setCell ⟨q, at0, none⟩ (vB 1))
  generalize w4.setCell ⟨q, at0, none⟩ (vB 1) = w5 at *
  clear w4 w3
  have hE1 : E0.length = 64 := by rw [HE0.out]; rfl
  have g1 := HO5.out.cell 1 _ (HNS.out 1 (by omega)).1
  have HPT := Lib.hid (fun q' => put_in (HP5.out.kept (Fr.drewN (S := []) w5 q') (by simp)) hcp (by omega) 1 2 (cap - at0 - 1) (ns 1) (by omega) (by omega) (HNS.out 1 (by omega)).2)
  refine wp_region_qtail_lit 5 (by kernel_rfl) (by kernel_rfl) ?_
  simp only [List.take_succ_cons, List.take_zero, List.drop_succ_cons, List.drop_zero]
  repeat (go_big_quiet_step (fail))
  refine wpQuiet_nil ?_
  intro w' hw'
  obtain ⟨nq, rfl⟩ := hw'
  have F6 := Fr.drewN (S := []) w5 nq
  have HS6 := Lib.hid (HS5.out.fr0 F6)
  have HO6 := Lib.hid (HO5.out.fr F6 (by simp))
  have HPA := Lib.hid (HPT.out nq)
  have hP6 := HP5.out.kept F6 (by simp)
  have HP6 := Lib.hid hP6
  clear HPT F6 HS5 HO5 HP5 g1 hP6
  generalize w5.drewN nq = w6 at *
  go_wp2_with fail
  refine HPA.out.mono ?_
  rintro e w7 ⟨rfl, hp, F6⟩
  have HS7 := Lib.hid (HP6.out.turnA HS6.out HQ.out F6)
  have HO7 := Lib.hid (HO6.out.fr F6 (by simpa using HQB.out))
  obtain ⟨E1, hqE1⟩ : ∃ E, E = spl E0 1 (beB 2 (ns 1)) := ⟨_, rfl⟩
  have HE1 := Lib.hid hqE1
  rw [← hqE1] at hp
  have HP7 := Lib.hid hp
  have hE : E1.length = 64 := by rw [hqE1, spl_len (by rw [beB_len]; omega)]; exact hE1
  clear hp F6 HPA HP6 HS6 HO6 hqE1
  clear hE1
  have hE1 := hE
  clear hE
  go_wp2_with fail
  have g1 := HO7.out.cell 2 _ (HNS.out 2 (by omega)).1
  have HPT := Lib.hid (fun q' => put_in (HP7.out.kept (Fr.drewN (S := []) w7 q') (by simp)) hcp (by omega) 3 2 (cap - at0 - 3) (ns 2) (by omega) (by omega) (HNS.out 2 (by omega)).2)
  refine wp_region_qtail_lit 5 (by kernel_rfl) (by kernel_rfl) ?_
  simp only [List.take_succ_cons, List.take_zero, List.drop_succ_cons, List.drop_zero]
  repeat (go_big_quiet_step (fail))
  refine wpQuiet_nil ?_
  intro w' hw'
  obtain ⟨nq, rfl⟩ := hw'
  have F6 := Fr.drewN (S := []) w7 nq
  have HS8 := Lib.hid (HS7.out.fr0 F6)
  have HO8 := Lib.hid (HO7.out.fr F6 (by simp))
  have HPA := Lib.hid (HPT.out nq)
  have hP6 := HP7.out.kept F6 (by simp)
  have HP8 := Lib.hid hP6
  clear HPT F6 HS7 HO7 HP7 g1 hP6
  generalize w7.drewN nq = w8 at *
  go_wp2_with fail
  refine HPA.out.mono ?_
  rintro e w9 ⟨rfl, hp, F6⟩
  have HS9 := Lib.hid (HP8.out.turnA HS8.out HQ.out F6)
  have HO9 := Lib.hid (HO8.out.fr F6 (by simpa using HQB.out))
  obtain ⟨E2, hqE2⟩ : ∃ E, E = spl E1 3 (beB 2 (ns 2)) := ⟨_, rfl⟩
  have HE2 := Lib.hid hqE2
  rw [← hqE2] at hp
  have HP9 := Lib.hid hp
  have hE : E2.length = 64 := by rw [hqE2, spl_len (by rw [beB_len]; omega)]; exact hE1
  clear hp F6 HPA HP8 HS8 HO8 hqE2
  clear hE1
  have hE1 := hE
  clear hE
  go_wp2_with fail
  have g1 := HO9.out.cell 3 _ (HNS.out 3 (by omega)).1
  have HPT := Lib.hid (fun q' => put_in (HP9.out.kept (Fr.drewN (S := []) w9 q') (by simp)) hcp (by omega) 5 4 (cap - at0 - 5) (ns 3) (by omega) (by omega) (HNS.out 3 (by omega)).2)
  refine wp_region_qtail_lit 5 (by kernel_rfl) (by kernel_rfl) ?_
  simp only [List.take_succ_cons, List.take_zero, List.drop_succ_cons, List.drop_zero]
  repeat (go_big_quiet_step (fail))
  refine wpQuiet_nil ?_
  intro w' hw'
  obtain ⟨nq, rfl⟩ := hw'
  have F6 := Fr.drewN (S := []) w9 nq
  have HS10 := Lib.hid (HS9.out.fr0 F6)
  have HO10 := Lib.hid (HO9.out.fr F6 (by simp))
  have HPA := Lib.hid (HPT.out nq)
  have hP6 := HP9.out.kept F6 (by simp)
  have HP10 := Lib.hid hP6
  clear HPT F6 HS9 HO9 HP9 g1 hP6
  generalize w9.drewN nq = w10 at *
  go_wp2_with fail
  refine HPA.out.mono ?_
  rintro e w11 ⟨rfl, hp, F6⟩
  have HS11 := Lib.hid (HP10.out.turnA HS10.out HQ.out F6)
  have HO11 := Lib.hid (HO10.out.fr F6 (by simpa using HQB.out))
  obtain ⟨E3, hqE3⟩ : ∃ E, E = spl E2 5 (beB 4 (ns 3)) := ⟨_, rfl⟩
  have HE3 := Lib.hid hqE3
  rw [← hqE3] at hp
  have HP11 := Lib.hid hp
  have hE : E3.length = 64 := by rw [hqE3, spl_len (by rw [beB_len]; omega)]; exact hE1
  clear hp F6 HPA HP10 HS10 HO10 hqE3
  clear hE1
  have hE1 := hE
  clear hE
  have HEN : Hid (l = opN i → E3 = encI) := by
    refine Lib.hid fun he => ?_
    subst he
    have a1 := (HNS.out 1 (by omega)).1; have a2 := (HNS.out 2 (by omega)).1; have a3 := (HNS.out 3 (by omega)).1
    have b1 : ns 1 = 420 := by have : some (420 : Int) = some (ns 1 : Int) := a1; simp at this; omega
    have b2 : ns 2 = 1 := by have : some (1 : Int) = some (ns 2 : Int) := a2; simp at this; omega
    have b3 : ns 3 = 0 := by have : some (0 : Int) = some (ns 3 : Int) := a3; simp at this; omega
    rw [HE3.out, HE2.out, HE1.out, HE0.out, b1, b2, b3, encI_start]
  obtain ⟨pl, hpl⟩ : ∃ pl, pl = (l.drop 4).take 11 := ⟨_, rfl⟩
  have hpk : ∀ k, k < 11 → pl[k]? = some (ns (4 + k) : Int) := fun k hk => by rw [hpl, List.getElem?_take_of_lt hk, List.getElem?_drop]; exact (HNS.out (4 + k) (by omega)).1
  have hpn : pl.length = 11 := by rw [hpl]; simp; omega
  have hrg : w11.rangeAt bx 4 (pl.map (Value.int .i64)) := fun j v hv => by
    have hj : j < 11 := by have := (List.getElem?_eq_some_iff.1 hv).1; simpa [hpn] using this
    rw [List.getElem?_map, hpk j hj] at hv
    simp only [Option.map_some, Option.some.injEq] at hv
    rw [← hv]
    exact HO11.out.cell _ _ (HNS.out (4 + j) (by omega)).1
  have HRG := Lib.hid hrg; have HPK := Lib.hid hpk; have HPL := Lib.hid hpn
  clear hpl hpk hpn hrg
  go_wp2_with (refine wpList_load_mid rfl _ _ rfl bx 4 rfl (pl.map (Value.int .i64)) _ HRG.out Tryz.underlying88 rfl (by rw [List.length_map, HPL.out]; kernel_rfl) ?_)
  go_loopw [70] (fun iv wr => ∃ (k : Nat) (E : List UInt8), k ≤ 11 ∧ iv = .int .i64 (k : Int) ∧ E.length = 64 ∧ (l = opN i → E = encI) ∧ PgO wr w2'.heap.size q cap (spl (cur pgn) at0 E) ∧ OpB wr bx l ∧ StpB K (q :: A) N pg [] S w2' wr cur) (fun iv _ => ((11 : Int) - intOf iv).toNat)
  case atStart => exact ⟨0, E3, by omega, rfl, hE1, HEN.out, HP11.out, HO11.out, HS11.out⟩
  case round =>
    obtain ⟨k, E, hk, rfl, hE, hEN, hP, hO, hS⟩ := hrel
    clear HEN HP11 HO11 HS11 HE3 HE2 HE1 HE0 hE1 HRG
    have HP := Lib.hid hP; have HO := Lib.hid hO; have HS := Lib.hid hS; have HEN := Lib.hid hEN
    clear hP hO hS hEN
    by_cases hlt : k < 11
    · have k11 : (k : Int) < 11 := by omega
      have hPT := put_in HP.out hcp (by omega) (9 + 4 * k) 4 (cap - at0 - (9 + 4 * k)) (ns (4 + k)) (by omega) (by omega) (HNS.out (4 + k) (by omega)).2
      have HPT := Lib.hid hPT
      have hix := run_index_ints wr 88 11 Tryz.underlying88 (pl.map (Value.int .i64)) k (.int .i64 (ns (4 + k) : Int)) hlt (by rw [List.getElem?_map, HPK.out k hlt]; rfl)
      clear hPT
      go_wp2_with fail
      rw [show 13 + 4 * k - (9 + 4 * k) = 4 by omega]
      refine HPT.out.mono ?_
      rintro e wr2 ⟨rfl, hp, hf⟩
      have HS2 := Lib.hid (HP.out.turnA HS.out HQ.out hf)
      have HO2 := Lib.hid (HO.out.fr hf (by simpa using HQB.out))
      have HP2 := Lib.hid hp
      have hel : (spl E (9 + 4 * k) (beB 4 (ns (4 + k)))).length = 64 := by rw [spl_len (by rw [beB_len]; omega)]; exact hE
      have hen : l = opN i → spl E (9 + 4 * k) (beB 4 (ns (4 + k))) = encI := fun he => by
        have h1 := (HNS.out (4 + k) (by omega)).1
        rw [he, opN_pg i k hlt] at h1
        have h2 : ns (4 + k) = 0 := by simp at h1; omega
        rw [HEN.out he, h2, encI_put k hlt]
      have HEN2 := Lib.hid hen
      clear hp hf hen HPT hix HEN HP HO HS
      go_wp2_with fail
      exact ⟨⟨k + 1, _, by omega, by simp, hel, HEN2.out, HP2.out, HO2.out, HS2.out⟩, by simp [intOf]; omega⟩
    · obtain rfl : k = 11 := by omega
      obtain ⟨S4, dm4, x4, hn4, hnx4⟩ := HS.out.open
      have m4 := HM2.out.stpB HX2.out (by simp) HS.out
      have so4 := HSO2.out.stpB HX2.out (by simp) HS.out
      have HIW := Lib.hid (iwrite_any x4 m4 so4 pgn HPN.out.1 _ _ HP.out.rd HP.out.len)
      have HNX := Lib.hid (fun (A' : List Nat) (w' : World) (c' : Nat → List UInt8) (h : Stp K A' N pg S4 wr w' c') => hnx4 h)
      have HN4 := Lib.hid (hn4 bx HBX2.out (fun hm => by have := HX.out.lt bx hm; have := HE.out; omega))
      have hFIN : l = opN i → ∀ t, t < 64 → (updF cur pgn (spl (cur pgn) at0 E) (3 + i / 8))[i % 8 * 64 + t]? = encI[t]? := fun he t ht => by
        rw [← HEQ.out.1, ← HEQ.out.2]
        unfold updF
        rw [if_pos rfl, HEN.out he, spl_in (by rw [show encI.length = 64 from rfl]; omega) t (by rw [show encI.length = 64 from rfl]; exact ht)]
      have HFIN := Lib.hid hFIN
      clear x4 hn4 hnx4 m4 so4 HEN hFIN
      go_wp2_with fail
      refine HIW.out.mono ?_
      rintro e w12 ⟨rfl, hs⟩
      have HS12 := Lib.hid (HNX.out _ _ _ hs)
      have O12 := HO.out.fr hs.1 HN4.out
      have g14 := O12.cell 14 _ H14.out
      clear HIW HNX HN4 hs HP HO HS
      have hc1 : updF cur pgn (spl (cur pgn) at0 E) 1 = cur 1 := by unfold updF; rw [if_neg (by have := HPN.out.2; omega)]
      have hc2 : updF cur pgn (spl (cur pgn) at0 E) 2 = cur 2 := by unfold updF; rw [if_neg (by have := HPN.out.2; omega)]
      have HC12 := Lib.hid (And.intro hc1 hc2)
      clear hc1 hc2
      generalize updF cur pgn (spl (cur pgn) at0 E) = cur2 at *
      by_cases hn0 : n = 0
      · subst hn0
        clear O12
        go_wp2_with fail
        go_end0
        exact ⟨rfl, cur2, (HS12.out.anti (fun k hk => List.mem_cons_of_mem _ hk)).close HA2.out (by simp), HC12.out.1, HC12.out.2, HFIN.out⟩
      · have hnI : ¬ (n : Int) = 0 := by omega
        have HO12 := Lib.hid O12
        clear O12
        have hmk := run_makeSec w12
        have A13 := (Fr.refl [] w12).alloc (.cells zRow 5)
        have HP13 := Lib.hid (PgO.new w12)
        have HO13 := Lib.hid (HO12.out.fr A13 (by simp))
        have HS13 : Hid (StpB K (w12.heap.size :: A) N pg [] S w2' (w12.alloc (.cells zRow 5)) cur2) := by
          obtain ⟨S5, dm5, x5, _, hnx5⟩ := HS12.out.open
          exact Lib.hid (hnx5 ⟨A13.mono (by simp), S5, dm5, fun _ hk => .inl hk, (x5.anti (A' := A) (fun k hk => List.mem_cons_of_mem _ hk)).new A13 (Nat.le_refl _) (by simp)⟩)
        have HQ2 := Lib.hid (show bx < w12.heap.size from (Array.getElem?_eq_some_iff.1 HO12.out.1).1)
        have HS12S := Lib.hid HS12.out.size
        obtain ⟨pl2, hpl⟩ : ∃ pl, pl = (l.drop 16).take 128 := ⟨_, rfl⟩
        have hpk : ∀ k, k < 128 → pl2[k]? = some (ns (16 + k) : Int) := fun k hk => by rw [hpl, List.getElem?_take_of_lt hk, List.getElem?_drop]; exact (HNS.out (16 + k) (by omega)).1
        have hpn : pl2.length = 128 := by rw [hpl]; simp; omega
        have hrg : (w12.alloc (.cells zRow 5)).rangeAt bx 16 (pl2.map (Value.int .i64)) := fun j v hv => by
          have hj : j < 128 := by have := (List.getElem?_eq_some_iff.1 hv).1; simpa [hpn] using this
          rw [List.getElem?_map, hpk j hj] at hv
          simp only [Option.map_some, Option.some.injEq] at hv
          rw [← hv]
          exact HO13.out.cell _ _ (HNS.out (16 + j) (by omega)).1
        have HRG := Lib.hid hrg; have HPK2 := Lib.hid hpk; have HPL2 := Lib.hid hpn
        clear hpl hpk hpn hrg A13 HO12 HS12 HPK HPL
        go_wp2_with (refine wpList_load_mid rfl _ _ rfl bx 16 rfl (pl2.map (Value.int .i64)) _ HRG.out Tryz.underlying91 rfl (by rw [List.length_map, HPL2.out]; kernel_rfl) ?_)
        clear hmk HRG
        obtain ⟨q2, hq2⟩ : ∃ b, b = w12.heap.size := ⟨_, rfl⟩
        rw [← hq2] at HP13 HS13 HQ2 HS12S ⊢
        clear hq2
        generalize w12.alloc (.cells zRow 5) = w13 at *
        go_loopw [98] (fun iv wr => ∃ (k : Nat) (L : List UInt8), k ≤ 128 ∧ iv = .int .i64 (k : Int) ∧ PgO wr q2 q2 512 L ∧ OpB wr bx l ∧ StpB K (q2 :: A) N pg [] S w2' wr cur2) (fun iv _ => ((128 : Int) - intOf iv).toNat)
        case atStart => exact ⟨0, _, by omega, rfl, HP13.out, HO13.out, HS13.out⟩
        case round =>
          obtain ⟨k, L, hk, rfl, hP, hO, hS⟩ := hrel
          clear HP13 HO13 HS13
          have HP := Lib.hid hP; have HO := Lib.hid hO; have HS := Lib.hid hS
          clear hP hO hS
          have HN0 := Lib.hid hn0
          have HLE := Lib.hid hl
          clear hn0 hnI hcap hcapI a0 hcp hE g14 hl
          by_cases hlt : k < 128
          · have k11 : (k : Int) < 128 := by omega
            have hPT := put_any _ HP.out (4 * k) 4 (512 - 4 * k) (ns (16 + k)) (by omega) (by omega) (HNS.out (16 + k) (by omega)).2
            have HPT := Lib.hid hPT
            have hix := run_index_ints wr 91 128 Tryz.underlying91 (pl2.map (Value.int .i64)) k (.int .i64 (ns (16 + k) : Int)) hlt (by rw [List.getElem?_map, HPK2.out k hlt]; rfl)
            clear hPT
            go_wp2_with fail
            refine HPT.out.mono ?_
            rintro e wr2 ⟨rfl, hp, hf⟩
            have HS2 := Lib.hid (HP.out.turnA HS.out HS12S.out hf)
            have HO2 := Lib.hid (HO.out.fr hf (by have := HQ2.out; simp; omega))
            have HP2 := Lib.hid hp
            clear hp hf HPT hix HP HO HS
            go_wp2_with fail
            exact ⟨⟨k + 1, _, by omega, by simp, HP2.out, HO2.out, HS2.out⟩, by simp [intOf]; omega⟩
          · obtain rfl : k = 128 := by omega
            obtain ⟨S4, dm4, x4, _, hnx4⟩ := HS.out.open
            have m4 := HM2.out.stpB HX2.out (by simp) HS.out
            have so4 := HSO2.out.stpB HX2.out (by simp) HS.out
            have HIW := Lib.hid (iwrite_any x4 m4 so4 n (by have := HN.out; omega) _ _ HP.out.rd HP.out.len)
            have HNX := Lib.hid (fun (A' : List Nat) (w' : World) (c' : Nat → List UInt8) (h : Stp K A' N pg S4 wr w' c') => hnx4 h)
            clear x4 hnx4 m4 so4
            go_wp2_with fail
            refine HIW.out.mono ?_
            rintro e w14 ⟨rfl, hs⟩
            have HS14 := Lib.hid (HNX.out _ _ _ hs)
            clear HIW HNX hs
            go_wp2_with fail
            go_end0
            refine ⟨rfl, _, (HS14.out.anti (fun k hk => List.mem_cons_of_mem _ hk)).close HA2.out (by simp), ?_, ?_, fun he => ?_⟩
            · unfold updF; rw [if_neg (by have := HN.out; omega)]; exact HC12.out.1
            · unfold updF; rw [if_neg (by have := HN.out; omega)]; exact HC12.out.2
            · have h1 := H14.out
              rw [he, opN_pg i 10 (by omega)] at h1
              have := HN0.out
              simp at h1
              omega
end
end Go.Proofs.YtcblfkojkdaepaaGreat
