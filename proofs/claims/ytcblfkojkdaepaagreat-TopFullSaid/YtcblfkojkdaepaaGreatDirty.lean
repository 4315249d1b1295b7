/- Reading a page of bits. -/
import Derived.Test.YtcblfkojkdaepaaGreatStpB
namespace Go.Proofs.YtcblfkojkdaepaaGreat
open Go.RowKit Go.ChangeMaps
theorem two_set {w : World} {b : Nat} {u0 u1 : Value} {t : TypeId} (h : w.heap[b]? = some (.cells #[u0, u1] t (0, 0))) (v0 v1 : Value) : ((w.setCell ⟨b, 0, none⟩ v0).setCell ⟨b, 1, none⟩ v1).heap[b]? = some (.cells #[v0, v1] t (0, 0)) ∧ Fr [b] w ((w.setCell ⟨b, 0, none⟩ v0).setCell ⟨b, 1, none⟩ v1) := by
  have h1 := heap_setCell_same w b 0 _ _ v0 h
  have h2 := heap_setCell_same _ b 1 _ _ v1 h1
  refine ⟨by simpa using h2, ((Fr.refl [b] w).setCell (p := ⟨b, 0, none⟩) (.inl (by simp)) v0).setCell (p := ⟨b, 1, none⟩) (.inl (by simp)) v1⟩
section
variable {K : Kx} {A S : List Nat} {w : World} {N dm mb : Nat} {pg cur : Nat → List UInt8}
theorem logx_any (x : CX K A w N S pg cur dm) : Calls Tryz.prog 20 #[.pointer (some ⟨K.c, 0, none⟩)] w fun e w' => e = .returned (.pointer (some ⟨K.p, 0, none⟩)) ∧ w' = w := by
  obtain ⟨rv, h⟩ := x.box
  exact clog_any w h
theorem pagesx_any (x : CX K A w N S pg cur dm) : Calls Tryz.prog 21 #[.pointer (some ⟨K.p, 0, none⟩)] w fun e w' => e = .returned (.int .i64 59) ∧ ∃ q, w' = w.drewN q := by
  obtain ⟨cm, rv, row, ops, df, cf, h, hN, rfl, hpd⟩ := x
  exact pages_any w h.log h.nilD h.size.1 h.size.2.1
/-- How many bits count. -/
def bcnt (page : Nat) : Nat := if page = 2 then 59 else 16
set_option maxRecDepth 100000 in
set_option maxHeartbeats 1000000 in
theorem aread_any (x : CX K A w N S pg cur dm) (m : MpAt w K mb) (page : Nat) (hp : page = 1 ∨ page = 2) :
    Calls Tryz.prog 59 #[.pointer (some ⟨mb, 0, none⟩), .int .i64 (page : Int)] w fun e w' => ∃ q cap, e = .returned (.agg #[.slice (some ⟨q, 0, none⟩) 512 cap, .int .i64 (bcnt page : Int)]) ∧ w.heap.size ≤ q ∧ w'.ownsRow w.heap.size 5 1 (.slice (some ⟨q, 0, none⟩) 512 cap) 512 ((cur page).map vB) ∧ Stp K (q :: A) N pg S w w' cur := by
  have A1 := (Fr.refl [] w).alloc (.cells #[.slice none 0 0, .int .i64 0] 127)
  have R1 := heap_alloc_new w (.cells #[.slice none 0 0, .int .i64 0] 127)
  have x1 := x.fr0 A1
  have m1 := m.fr A1 (by simp)
  have c0 := m1.c0
  have HRD := Lib.hid (rdx_any x1 page (by omega))
  have HX1 := Lib.hid x1; have HM1 := Lib.hid m1; have HA1 := Lib.hid A1; have HR1 := Lib.hid R1; have HX := Lib.hid x
  have HBX := Lib.hid (show w.heap.size < (w.alloc (.cells #[.slice none 0 0, .int .i64 0] 127)).heap.size by simp)
  clear x m A1 R1 x1 m1
  go_enter Tryz.func59, Tryz.ntmps59
  go_wp2_with fail
  generalize w.alloc (.cells #[.slice none 0 0, .int .i64 0] 127) = w1 at *
  obtain ⟨bx, hbx⟩ : ∃ b, b = w.heap.size := ⟨_, rfl⟩
  rw [← hbx] at HR1 HBX ⊢
  have HE := Lib.hid hbx
  clear hbx
  refine HRD.out.mono ?_
  rintro e w2 ⟨q, cap, rfl, hq, ho, hs⟩
  have hbS : bx ∉ S := fun hm => by have := HX.out.lt bx hm; have := HE.out; omega
  have R2 := hs.1.heap hbS HR1.out
  have m2 := HM1.out.stp HX1.out hs
  have c20 := m2.c0
  have c21 := m2.c1
  have f20 : w2.frozen? ⟨bx, 0, none⟩ = false := frozen_of_row w2 bx 0 _ _ R2
  have f21 : w2.frozen? ⟨bx, 1, none⟩ = false := frozen_of_row w2 bx 1 _ _ R2
  have k20 : w2.cell? ⟨bx, 0, none⟩ = some (.slice none 0 0) := (cell_of_row _ _ 0 _ _ _ R2).trans rfl
  have k21 : w2.cell? ⟨bx, 1, none⟩ = some (.int .i64 0) := (cell_of_row _ _ 1 _ _ _ R2).trans rfl
  obtain ⟨_, S2, dm2, _, x2⟩ := id hs
  have HLG := Lib.hid (logx_any x2)
  have HPG := Lib.hid (pagesx_any x2)
  have HS := Lib.hid hs; have HO := Lib.hid ho; have HQ := Lib.hid hq; have HR2 := Lib.hid R2
  clear x2 hs ho hq R2 m2 HRD hbS c0
  rcases hp with rfl | rfl
  · go_wp2_with fail
    obtain ⟨hR, hF⟩ := two_set HR2.out (.slice (some ⟨q, 0, none⟩) 512 cap) (.int .i64 16)
    have hbS : bx ∉ S := fun hm => by have := HX.out.lt bx hm; have := HE.out; omega
    have hfin := ((HS.out.toB [bx]).turn (List.mem_singleton.2 rfl) hF HBX.out hbS (by have := HX.out.plt; have := HE.out; omega) (Bok.of HR2.out (fun e => absurd e (by decide)) (by decide) (fun e => absurd e (by decide)))).close HA1.out (fun b hb => by simp at hb; subst hb; have := HE.out; omega)
    have hqb : q ≠ bx := by have := HQ.out; have := HBX.out; omega
    refine bodyPost_ret (v := .agg #[.slice (some ⟨q, 0, none⟩) 512 cap, .int .i64 16]) (results_cell_row rfl _ _ bx 127 #[.slice (some ⟨q, 0, none⟩) 512 cap, .int .i64 16] (0, 0) _ rfl hR Tryz.underlying127 rfl (by kernel_rfl)) rfl ?_
    exact ⟨q, cap, rfl, Nat.le_trans HA1.out.size HQ.out, own_mono (own_keep HO.out hF (fun k hk => .inl (by simp at hk; have := HBX.out; omega))) HA1.out.size, hfin⟩
  · go_wp2_with fail
    refine HLG.out.mono ?_
    rintro e w3 ⟨rfl, rfl⟩
    go_wp2_with fail
    refine HPG.out.mono ?_
    rintro e w4 ⟨rfl, nq, rfl⟩
    have hN2 : (w3.drewN nq).heap[bx]? = _ := HR2.out
    clear f20 f21 k20 k21 c20 c21
    have f20 : (w3.drewN nq).frozen? ⟨bx, 0, none⟩ = false := frozen_of_row _ bx 0 _ _ hN2
    have f21 : (w3.drewN nq).frozen? ⟨bx, 1, none⟩ = false := frozen_of_row _ bx 1 _ _ hN2
    have k20 : (w3.drewN nq).cell? ⟨bx, 0, none⟩ = some (.slice none 0 0) := (cell_of_row _ _ 0 _ _ _ hN2).trans rfl
    have k21 : (w3.drewN nq).cell? ⟨bx, 1, none⟩ = some (.int .i64 0) := (cell_of_row _ _ 1 _ _ _ hN2).trans rfl
    have HR4 := Lib.hid hN2
    have HS4 := Lib.hid ((HS.out.toB [bx]).fr0 (Fr.drewN (S := []) w3 nq))
    have HO4 := Lib.hid (own_keep (S := []) HO.out (Fr.drewN w3 nq) (by simp))
    clear hN2 HLG HPG
    go_wp2_with fail
    obtain ⟨hR, hF⟩ := two_set HR4.out (.slice (some ⟨q, 0, none⟩) 512 cap) (.int .i64 59)
    have hbS : bx ∉ S := fun hm => by have := HX.out.lt bx hm; have := HE.out; omega
    have hfin := (HS4.out.turn (List.mem_singleton.2 rfl) hF HBX.out hbS (by have := HX.out.plt; have := HE.out; omega) (Bok.of HR4.out (fun e => absurd e (by decide)) (by decide) (fun e => absurd e (by decide)))).close HA1.out (fun b hb => by simp at hb; subst hb; have := HE.out; omega)
    have hqb : q ≠ bx := by have := HQ.out; have := HBX.out; omega
    refine bodyPost_ret (v := .agg #[.slice (some ⟨q, 0, none⟩) 512 cap, .int .i64 59]) (results_cell_row rfl _ _ bx 127 #[.slice (some ⟨q, 0, none⟩) 512 cap, .int .i64 59] (0, 0) _ rfl hR Tryz.underlying127 rfl (by kernel_rfl)) rfl ?_
    exact ⟨q, cap, rfl, Nat.le_trans HA1.out.size HQ.out, own_mono (own_keep HO4.out hF (fun k hk => .inl (by simp at hk; have := HBX.out; omega))) HA1.out.size, hfin⟩
end
end Go.Proofs.YtcblfkojkdaepaaGreat
/- A bit is turned, and its page written. -/
namespace Go.Proofs.YtcblfkojkdaepaaGreat
open Go.RowKit Go.ChangeMaps
section
variable {K : Kx} {A S : List Nat} {w : World} {N dm mb : Nat} {pg cur : Nat → List UInt8}
set_option maxRecDepth 100000 in
set_option maxHeartbeats 2000000 in
theorem turn_any [KAny K] (x : CX K A w N S pg cur dm) (m : MpAt w K mb) (page : Nat) (hp : page = 1 ∨ page = 2) (n : Nat) (hn : n < 59) (hc : cur page = bmL n) :
    Calls Tryz.prog 64 #[.pointer (some ⟨mb, 0, none⟩), .int .i64 (page : Int), .int .i64 (n : Int)] w fun e w' => e = .returned (.tuple #[]) ∧ Stp K A N pg S w w' (updF cur page (bmL (n + 1))) := by
  have HRD := Lib.hid (aread_any x m page hp)
  obtain ⟨bc, hbc⟩ : ∃ b : Int, b = (bcnt page : Int) := ⟨_, rfl⟩
  rw [← hbc] at HRD
  clear hbc
  have HX := Lib.hid x; have HM := Lib.hid m; have HC := Lib.hid hc
  have p0 : (page : Int) ≤ 2 := by omega
  have n0 : (n : Int) < 59 := by omega
  clear x m hc
  go_enter Tryz.func64, Tryz.ntmps64
  go_wp2_with fail
  refine HRD.out.mono ?_
  rintro e w2 ⟨q, cap, rfl, hq, ho, hs⟩
  have A3 := (Fr.refl [] w2).alloc (.cells #[.slice (some ⟨q, 0, none⟩) 512 cap, .int .i64 bc] 127)
  have R3 := heap_alloc_new w2 (.cells #[.slice (some ⟨q, 0, none⟩) 512 cap, .int .i64 bc] 127)
  have o3 := own_keep ho A3 (by simp)
  rw [HC.out] at o3
  have s3 := (hs.toB []).fr0 A3
  have m3 := (HM.out.stp HX.out hs).fr A3 (by simp)
  have HO := Lib.hid o3; have HS := Lib.hid s3; have HM3 := Lib.hid m3; have HR3 := Lib.hid R3; have HQ := Lib.hid hq
  have HSZ := Lib.hid hs.size
  have hqlt : q < w2.heap.size := by
    obtain ⟨cs, e, _⟩ := own_kind ho
    exact (Array.getElem?_eq_some_iff.1 e).1
  have HQL := Lib.hid hqlt
  have hcl := own_cell o3 (n / 8) (bmB n (n / 8)) (bmL_at n (n / 8) (by omega))
  have hfz := o3.frozenAt (n / 8)
  have hbx0 : (w2.alloc (.cells #[.slice (some ⟨q, 0, none⟩) 512 cap, .int .i64 bc] 127)).cell? ⟨w2.heap.size, 0, none⟩ = some (.slice (some ⟨q, 0, none⟩) 512 cap) := (cell_of_row _ _ 0 _ _ _ R3).trans rfl
  have c0 := m3.c0
  have hcap : (512 : Int) ≤ (cap : Int) := by
    obtain ⟨cs, e, h, _⟩ := own_kind ho
    omega
  clear A3 R3 o3 s3 m3 ho hs hq HRD hqlt
  obtain ⟨x0, hx0⟩ : ∃ v, v = n8 (bmB n (n / 8)) := ⟨_, rfl⟩
  have hv : vB (bmB n (n / 8)) = .int .u8 x0 := by rw [hx0]; rfl
  rw [hv] at hcl
  have HX0 := Lib.hid hx0
  clear hv hx0
  go_wp2_with fail
  generalize w2.alloc (.cells #[.slice (some ⟨q, 0, none⟩) 512 cap, .int .i64 bc] 127) = w3 at *
  generalize w2.heap.size = bx at *
  refine wp_region_qtail_lit 11 (by kernel_rfl) (by kernel_rfl) ?_
  simp only [List.take_succ_cons, List.take_zero, List.drop_succ_cons, List.drop_zero]
  repeat (go_big_quiet_step (fail))
  refine wpQuiet_nil ?_
  intro w' hw'
  obtain ⟨nq, rfl⟩ := hw'
  go_wp2_with fail
  have hxo := turn_m ⟨n, by omega⟩
  simp only at hxo
  rw [← HX0.out] at hxo
  obtain ⟨y0, hy0⟩ : ∃ v, v = n8 (bmB (n + 1) (n / 8)) := ⟨_, rfl⟩
  rw [← hy0] at hxo
  have hyv : vB (bmB (n + 1) (n / 8)) = .int .u8 y0 := by rw [hy0]; rfl
  rw [hxo]
  have FN := Fr.drewN (S := []) w3 nq
  obtain ⟨o4, _⟩ := (own_keep (S := []) HO.out FN (by simp)).stored (n / 8) (vB (bmB (n + 1) (n / 8)))
  rw [← List.map_set, bmL_turn, hyv] at o4
  have F4 := (Fr.refl [q] (w3.drewN nq)).setCell (p := ⟨q, n / 8, none⟩) (.inl (by simp)) (.int .u8 y0)
  obtain ⟨qcs, qk, _⟩ := own_kind (own_keep (S := []) HO.out FN (by simp))
  have s4 := (HS.out.fr0 FN).turnA HQ.out F4 (fun Si dmi xi => xi.ne qk (by decide) (by decide) (fun e => absurd e (by decide)) (by decide)) (by
    obtain ⟨Si, dmi, xi, _⟩ := (HS.out.fr0 FN).open
    exact xi.nep qk (by decide)) (Bok.of qk (fun e => absurd e (by decide)) (by decide) (fun _ => .inl (by simp)))
  have hmq : mb ≠ q := ne_ty (show (w3.drewN nq).heap[mb]? = _ from HM3.out) qk (by decide)
  have m4 := (HM3.out.fr FN (by simp)).fr F4 (by simpa using hmq)
  have hbq : bx ≠ q := by have := HQL.out; omega
  have R4 := F4.heap (b := bx) (by simpa using hbq) (show (w3.drewN nq).heap[bx]? = _ from HR3.out)
  have c04 := m4.c0
  have hbx4 : ((w3.drewN nq).setCell ⟨q, n / 8, none⟩ (.int .u8 y0)).cell? ⟨bx, 0, none⟩ = some (.slice (some ⟨q, 0, none⟩) 512 cap) := (cell_of_row _ _ 0 _ _ _ R4).trans rfl
  have HO4 := Lib.hid o4; have HS4 := Lib.hid s4
  clear o4 s4 m4 R4 F4 qk FN hfz hcl hbx0 c0 hxo hyv hy0 HX0 hmq hbq HO HS HR3 HM3
  generalize (w3.drewN nq).setCell ⟨q, n / 8, none⟩ (.int .u8 y0) = w4 at *
  refine wp_region_qtail_lit 7 (by kernel_rfl) (by kernel_rfl) ?_
  simp only [List.take_succ_cons, List.take_zero, List.drop_succ_cons, List.drop_zero]
  repeat (go_big_quiet_step (fail))
  refine wpQuiet_nil ?_
  intro w' hw'
  obtain ⟨nq2, rfl⟩ := hw'
  have FN := Fr.drewN (S := []) w4 nq2
  obtain ⟨Si, dmi, xi, _, hnext⟩ := (HS4.out.fr0 FN).open
  have o5 := own_keep (S := []) HO4.out FN (by simp)
  have HWR := Lib.hid (wrx_any (xi.anti (A' := A) (fun k hk => List.mem_cons_of_mem _ hk)) page (by omega) (.slice (some ⟨q, 0, none⟩) 512 cap) (bmL (n + 1)) (RdV_of_owns o5) (bmL_len _))
  have HNX := Lib.hid (fun (w' : World) (c' : Nat → List UInt8) (h : Stp K A N pg Si (w4.drewN nq2) w' c') => (hnext h).close (Fr.refl [] w) (by simp))
  clear xi hnext o5 FN c04 hbx4
  go_wp2_with fail
  refine HWR.out.mono ?_
  rintro e w6 ⟨rfl, hs6⟩
  have HF := Lib.hid (HNX.out _ _ hs6)
  clear hs6 HWR HNX
  go_wp2_with fail
  go_end0
  exact ⟨rfl, HF.out⟩
end
end Go.Proofs.YtcblfkojkdaepaaGreat
/- The pages that were written: their numbers. -/
namespace Go.Proofs.YtcblfkojkdaepaaGreat
open Go.RowKit Go.ChangeMaps
section
variable {K : Kx} {A S : List Nat} {w : World} {N dm mb : Nat} {pg cur : Nat → List UInt8}
set_option maxRecDepth 100000 in
set_option maxHeartbeats 1000000 in
theorem dirtyx_any (x : CX K A w N S pg cur dm) :
    Calls Tryz.prog 14 #[.pointer (some ⟨K.c, 0, none⟩)] w fun e w' => ∃ (v : Value) (ns : List Nat), e = .returned v ∧ ns.length = dm ∧ w'.ownsRow w.heap.size 3 1 v ns.length (ns.map fun (n : Nat) => Value.int .i64 (n : Int)) ∧ Below w.heap.size w w' := by
  obtain ⟨rv, hbx⟩ := x.box
  obtain ⟨df, ⟨T, cl, hb, hborn, hbn, hkn, hgt, hTl⟩, hd⟩ := x.dirt
  have hk59 : ∀ e ∈ T, e.k < 59 := fun e he => hd e.k e.sl (by rw [← hgt]; exact gt_mem hkn he)
  obtain ⟨D0, hown, hsz, hperm⟩ := pg_owns hb hborn hbn hkn (fun e he => by have := hk59 e he; omega) (by have := x.le59; omega)
  obtain ⟨ns, hns, hr⟩ := rising_of _ hkn
  have HSO := Lib.hid (sorted_any w K.db T.length D0 _ hown hsz)
  have HKY := Lib.hid (keys_any (some K.db) w)
  have hpm : (intKeys D0).Perm (ns.map fun (n : Nat) => (n : Int)) := hperm.trans (by
    have h1 : (T.map fun e => (e.k : Int)) = (T.map (·.k)).map fun (n : Nat) => (n : Int) := by rw [List.map_map]; rfl
    rw [h1]
    exact hns.symm.map _)
  have HPM := Lib.hid hpm; have HR := Lib.hid hr
  have hnl : ns.length = dm := by have := hns.length_eq; simp at this; omega
  have k2 : w.cell? ⟨K.c, 2, none⟩ = some (.map (some K.db)) := (cell_of_row _ _ 2 _ _ _ hbx).trans rfl
  have HNL := Lib.hid hnl
  clear x hbx hb hborn hbn hkn hgt hTl hd hk59 hown hsz hperm hns hr hpm hnl
  go_enter Tryz.func14, Tryz.ntmps14
  go_wp2_with fail
  refine HKY.out.mono ?_
  rintro r w4 ⟨rfl, rfl⟩
  go_wp2_with fail
  refine HSO.out.mono ?_
  rintro r w5 ⟨v, ss, rfl, hss, hrow, hb5⟩
  have hsort := sorted_is (hss.trans HPM.out) HR.out
  have hlen : ss.length = ns.length := by rw [(hss.trans HPM.out).length_eq, List.length_map]
  rw [hsort, hlen, List.map_map] at hrow
  have HRW := Lib.hid hrow
  have HB := Lib.hid (show Below w.heap.size w w5 from ((Below.refl w.heap.size w).alloc (Nat.le_refl _) _).trans (hb5.mono (by simp)))
  clear hss hrow hb5 hsort hlen HSO HKY
  go_wp2_with fail
  go_ret
  exact ⟨_, ns, rfl, HNL.out, own_mono HRW.out (by simp), HB.out⟩
end
end Go.Proofs.YtcblfkojkdaepaaGreat
