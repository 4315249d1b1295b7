/- The law TarfmtJoins, at entries that one row can hold. -/
import Derived.Test.YtikhdbdbdldbaaaDoorJoinE
import Derived.Test.YtikhdbdbdldbaaaDoorTCuts
namespace Go.Proofs.YtikhdbdbdldbaaaDoor
open Go.RowKit

theorem joins_law {ea eb : List EntD} (ha : (printL ea).2 = 0) (hb : (printL eb).2 = 0) (hc : (printL (ea ++ eb)).2 = 0) :
    (printL (ea ++ eb)).1 = (printL ea).1.take ((printL ea).1.length - 1024) ++ (printL eb).1 := by
  obtain ⟨_, _, h1, _⟩ := print_ok ha
  obtain ⟨_, _, h2, _⟩ := print_ok hb
  obtain ⟨_, _, h3, _⟩ := print_ok hc
  rw [h1, h2, h3, List.length_append, zer_len, Nat.add_sub_cancel, List.take_left']
  · simp [bodsL]
  · rfl
set_option maxRecDepth 100000 in
set_option maxHeartbeats 4000000 in
theorem tjoins_any (w : World) (v1 v2 : Value) (ea eb : List EntD) (h1 : RdEs w v1 ea) (h2 : RdEs w v2 eb) (z1 : ∀ e ∈ ea, e.name.length ≤ 9223372036854775807) (z2 : ∀ e ∈ eb, e.name.length ≤ 9223372036854775807)
    (q1 : v1 = .slice none 0 0 ∨ ∃ ad n c, v1 = .slice (some ad) n c) (q2 : v2 = .slice none 0 0 ∨ ∃ ad n c, v2 = .slice (some ad) n c) (l1 : ea.length ≤ 1048576) (l2 : eb.length ≤ 1048576) :
    Calls Tryd.prog 8 #[v1, v2] w fun e w' => e = .returned (.bool true) ∧ Below w.heap.size w w' := by
  obtain ⟨i0, hi, hz0, hz1, hz2⟩ := info_parts info_u8
  have HI8 := Lib.hid hi
  clear hi
  obtain ⟨ya, ma, da, xa⟩ := rdx_of h1 q1
  obtain ⟨yb, mb, db, xb⟩ := rdx_of h2 q2
  have hya : ya.length = ea.length := by rw [← ma, List.length_map]
  have hyb : yb.length = eb.length := by rw [← mb, List.length_map]
  have oa := Lib.hid (esC_one ya (fun x hx => by obtain ⟨a, c, e, _⟩ := rd_slice (da x hx); exact ⟨a, _, c, e⟩))
  have ob := Lib.hid (esC_one yb (fun x hx => by obtain ⟨a, c, e, _⟩ := rd_slice (db x hx); exact ⟨a, _, c, e⟩))
  have XA := Lib.hid xa; have XB := Lib.hid xb; have H1 := Lib.hid h1; have H2 := Lib.hid h2; have DA := Lib.hid da; have DB := Lib.hid db
  have MAB := Lib.hid (show (ya ++ yb).map (·.1.e) = ea ++ eb by rw [List.map_append, ma, mb])
  have Z1 := Lib.hid z1; have Z2 := Lib.hid z2
  clear xa xb h1 h2 da db z1 z2 ma mb q1 q2
  go_enter Tryd.func8, Tryd.ntmps8
  go_wp2_with (refine wpList_appX rfl _ _ rfl w.heap.size (.slice none 0 0) 0 [] rfl (World.ownsRow_nil _ _ _ _) v1 ya rfl XA.out oa.out (by omega) (Nat.le_refl _) ?_)
  intro va wa own1 gr1
  have BA := Lib.hid (below_grown gr1 (Nat.le_refl _) (fun k hk => by cases hk))
  have OWN1 := Lib.hid own1
  clear own1 gr1
  have XB2 := Lib.hid (rdx_below XB.out BA.out)
  have hb2 : (ea.length + yb.length) * 72 ≤ 140737488355328 := by omega
  go_wp2_with (refine wpList_appX rfl (.tmp 14) (.tmp 15) rfl w.heap.size va ea.length (esC ya) rfl OWN1.out v2 yb rfl XB2.out ob.out hb2 BA.out.size ?_)
  intro vb wb own2 gr2
  have BB := Lib.hid (BA.out.trans (below_grown gr2 BA.out.size (fun k hk => (OWN1.out.lt k hk).1)))
  have own2 : wb.ownsRow w.heap.size 31 5 vb (ya ++ yb).length (esC (ya ++ yb)) := by
    rw [List.length_append, esC_app, hya]
    simpa [hyb] using own2
  have HALL := Lib.hid (rdEs_rd own2 (fun x hx => by
    rcases List.mem_append.1 hx with h | h
    · exact RdV.below (DA.out x h) BB.out
    · exact RdV.below (DB.out x h) BB.out))
  rw [MAB.out] at HALL
  clear own2 gr2 OWN1 XA XB oa ob DA DB MAB BA hya hyb
  go_wp2_with fail
  obtain ⟨fa, hfa⟩ : ∃ fa, fa = (printL ea).2 := ⟨_, rfl⟩
  obtain ⟨fb, hfb⟩ : ∃ fb, fb = (printL eb).2 := ⟨_, rfl⟩
  obtain ⟨fc, hfc⟩ : ∃ fc, fc = (printL (ea ++ eb)).2 := ⟨_, rfl⟩
  have FA := Lib.hid hfa; have FB := Lib.hid hfb; have FC := Lib.hid hfc
  have hsz3 : ∀ e ∈ ea ++ eb, e.name.length ≤ 9223372036854775807 := fun e he => (List.mem_append.1 he).elim (Z1.out e) (Z2.out e)
  have Z3 := Lib.hid hsz3
  clear hfa hfb hfc XB2 hb2 hsz3
  refine (print_any _ v1 ea (H1.out.below BB.out) Z1.out).mono ?_
  rintro r w1 ⟨rv1, rfl, hans1, hb⟩
  have B1 := Lib.hid (BB.out.trans (hb.mono BB.out.size))
  have HALL1 := Lib.hid (HALL.out.below hb)
  have A1 := Lib.hid hans1
  rw [← FA.out]
  clear hans1 hb BB HALL
  go_wp2_with fail
  refine (print_any _ v2 eb (H2.out.below B1.out) Z2.out).mono ?_
  rintro r w2 ⟨rv2, rfl, hans2, hb⟩
  have B2 := Lib.hid (B1.out.trans (hb.mono B1.out.size))
  have HALL2 := Lib.hid (HALL1.out.below hb)
  have A2 := Lib.hid hans2
  have LW := Lib.hid hb
  rw [← FB.out]
  clear hans2 hb B1 HALL1
  go_wp2_with fail
  refine (print_any _ vb (ea ++ eb) HALL2.out Z3.out).mono ?_
  rintro r w3 ⟨rv3, rfl, hans3, hb⟩
  have B3 := Lib.hid (B2.out.trans (hb.mono B2.out.size))
  have A3 := Lib.hid hans3
  have LW2 := Lib.hid hb
  rw [← FC.out]
  clear hans3 hb B2 HALL2
  by_cases ha : fa = 0
  case neg =>
    have i1 : (fa != 0) = true := by simp [ha]
    go_wp2_with fail
    refine (live_any _).mono ?_
    rintro r w4 ⟨rfl, hb⟩
    have B4 := Lib.hid (B3.out.trans (hb.mono B3.out.size))
    clear hb B3
    go_wp2_with fail
    exact bodyPost_ret (v := .bool true) (by simp [results, Tryd.results8, go_sem]) rfl ⟨rfl, B4.out⟩
  by_cases hb : fb = 0
  case neg =>
    have i1 : (fb != 0) = true := by simp [hb]
    subst ha
    go_wp2_with fail
    refine (live_any _).mono ?_
    rintro r w4 ⟨rfl, hb⟩
    have B4 := Lib.hid (B3.out.trans (hb.mono B3.out.size))
    clear hb B3
    go_wp2_with fail
    exact bodyPost_ret (v := .bool true) (by simp [results, Tryd.results8, go_sem]) rfl ⟨rfl, B4.out⟩
  by_cases hc : fc = 0
  case neg =>
    have i1 : (fc != 0) = true := by simp [hc]
    subst ha hb
    go_wp2_with fail
    refine (live_any _).mono ?_
    rintro r w4 ⟨rfl, hb⟩
    have B4 := Lib.hid (B3.out.trans (hb.mono B3.out.size))
    clear hb B3
    go_wp2_with fail
    exact bodyPost_ret (v := .bool true) (by simp [results, Tryd.results8, go_sem]) rfl ⟨rfl, B4.out⟩
  subst ha hb hc
  have LAW := Lib.hid (joins_law FA.out.symm FB.out.symm FC.out.symm)
  obtain ⟨_, _, ka1, ka2⟩ := print_ok FA.out.symm
  obtain ⟨_, _, kb1, kb2⟩ := print_ok FB.out.symm
  obtain ⟨_, _, kc1, kc2⟩ := print_ok FC.out.symm
  have na : 1024 ≤ (printL ea).1.length := by rw [ka1, List.length_append, zer_len]; omega
  have nb : 1024 ≤ (printL eb).1.length := by rw [kb1, List.length_append, zer_len]; omega
  have nc : 1024 ≤ (printL (ea ++ eb)).1.length := by rw [kc1, List.length_append, zer_len]; omega
  clear ka1 kb1 kc1 FA FB FC Z1 Z2 Z3 H1 H2
  generalize (printL ea).1 = la at *
  generalize (printL eb).1 = lb at *
  generalize (printL (ea ++ eb)).1 = lc at *
  obtain ⟨g1, c1, rfl, hc1, hm1, hr1⟩ := ans_slice A1.out (by intro q; rw [q, List.length_nil] at na; omega) (by omega)
  obtain ⟨g2, c2, rfl, hc2, hm2, hr2⟩ := ans_slice A2.out (by intro q; rw [q, List.length_nil] at nb; omega) (by omega)
  obtain ⟨g3, c3, rfl, hc3, hm3, hr3⟩ := ans_slice A3.out (by intro q; rw [q, List.length_nil] at nc; omega) (by omega)
  have R1 := Lib.hid (RdV.below (RdV.below hr1 LW.out) LW2.out)
  have R2 := Lib.hid (RdV.below hr2 LW2.out)
  have R3 := Lib.hid hr3
  clear A1 A2 A3 LW LW2 hr1 hr2 hr3
  obtain ⟨La, hLa⟩ : ∃ La, La = la.length := ⟨_, rfl⟩
  obtain ⟨Lb, hLb⟩ : ∃ Lb, Lb = lb.length := ⟨_, rfl⟩
  obtain ⟨Lc, hLc⟩ : ∃ Lc, Lc = lc.length := ⟨_, rfl⟩
  rw [← hLa] at ka2 na hc1 R1 ⊢
  rw [← hLb] at kb2 nb hc2 R2 ⊢
  rw [← hLc] at kc2 nc hc3 R3 ⊢
  have HLA := Lib.hid hLa; have HLB := Lib.hid hLb; have HLC := Lib.hid hLc
  clear hLa hLb hLc
  have j1 : (1024 : Int) ≤ (La : Int) := by omega
  have j2 : (La : Int) ≤ 60000 := by omega
  have j3 : (La : Int) ≤ (c1 : Int) := by omega
  have j4 : (c1 : Int) ≤ 9223372036854775807 := by omega
  obtain ⟨N, hN⟩ : ∃ N, N = La - 1024 := ⟨_, rfl⟩
  have j5 : (La : Int) - 1024 = (N : Int) := by omega
  have j6 : (N : Int) ≤ (c1 : Int) := by omega
  have hNl : (la.take N).length = N := by rw [List.length_take]; have := HLA.out; omega
  have LAW2 := Lib.hid (show lc = la.take N ++ lb by rw [LAW.out, ← HLA.out, ← hN])
  have S1 := rd_sub (show RdB w3 (.slice (some ⟨g1, 0, none⟩) la.length c1) la by rw [← HLA.out]; exact R1.out) 0 N c1 (by have := HLA.out; omega) (by omega)
  rw [Nat.zero_add, show fld la (0, N) = la.take N from rfl] at S1
  have S1 := Lib.hid S1
  have HNL := Lib.hid hNl
  clear hN LAW R1 hNl
  go_wp2_with fail
  refine (live_any _).mono ?_
  rintro r w4 ⟨rfl, hb⟩
  have B4 := Lib.hid (B3.out.trans (hb.mono B3.out.size))
  have S1 := Lib.hid (RdV.below S1.out hb)
  have R2 := Lib.hid (RdV.below R2.out hb)
  have R3 := Lib.hid (RdV.below R3.out hb)
  clear hb B3
  go_wp2_with fail
  refine (copy_any w4 _ _ S1.out (by rw [HNL.out]; omega)).mono ?_
  rintro r w5 ⟨r', rfl, hown, hb⟩
  rw [HNL.out] at hown
  have B5 := Lib.hid (B4.out.trans (hb.mono B4.out.size))
  have O5 := Lib.hid hown
  have R2 := Lib.hid (RdV.below R2.out hb)
  have HB45 := Lib.hid hb
  have hs5 := B4.out.size
  have hs6 := hb.size
  clear hb hown B4 S1
  have D1 := Lib.hid (show (lb.map vB).length = Lb by rw [List.length_map]; exact HLB.out.symm)
  have D2 := Lib.hid (show ∀ j u, (lb.map vB)[j]? = some u → w5.cell? ((⟨g2, 0, none⟩ : Addr).add j) = some u from fun j u hj => by
    obtain ⟨a', cap', e, hcl⟩ := R2.out.open
    obtain ⟨b, off, hab, hcell⟩ := hcl j u hj
    simp only [Value.slice.injEq] at e
    obtain ⟨e1, _, _⟩ := e
    rw [hab] at e1
    cases e1
    rw [show (⟨g2, 0, none⟩ : Addr).add j = ⟨g2, 0 + j, none⟩ by unfold Addr.add; split <;> simp_all]
    exact hcell)
  have D3 := Lib.hid (vB_one lb)
  go_wp2_with (refine wpList_app_met (by rfl) (.tmp 54) (.tmp 55) 23 rfl w4.heap.size 5 i0 (.int .u8 0) 1 Tryd.underlying23 HI8.out hz0 hz1 hz2 rfl r' N ((la.take N).map vB) rfl O5.out ⟨g2, 0, none⟩ Lb c2 (lb.map vB) rfl D1.out D2.out D3.out (by omega) (by omega) hs6 ?_)
  intro v' w6 q1 q2
  have b6 := below_grown q2 hs6 (fun k hk => (O5.out.lt k hk).1)
  have B6 := Lib.hid (B5.out.trans (b6.mono hs5))
  have R3 := Lib.hid (RdV.below R3.out (HB45.out.trans b6))
  have R4 := Lib.hid (show RdB w6 v' (la.take N ++ lb) from by
    have := RdV_of_owns q1
    show RdV w6 v' _
    rw [List.map_append, List.map_take]
    exact this)
  clear q1 q2 b6 B5 O5 D1 D2 D3 R2 HB45
  have hx : ∃ a n c, v' = .slice a n c := by obtain ⟨a, c, e, _⟩ := rd_slice R4.out; exact ⟨a, _, c, e⟩
  obtain ⟨xa, xn, xc, rfl⟩ := hx
  go_wp2_with fail
  refine (same_any w6 _ _ lc (la.take N ++ lb) R3.out R4.out (by have := HLC.out; omega) (by rw [List.length_append, HNL.out]; have := HLB.out; omega)).mono ?_
  rintro r w7 ⟨rfl, nd, rfl⟩
  have B7 := Lib.hid (B6.out.trans ((below_drewN w6 nd).mono B6.out.size))
  rw [decide_eq_true LAW2.out]
  go_wp2_with fail
  exact bodyPost_ret (v := .bool true) (by simp [results, Tryd.results8, go_sem]) rfl ⟨rfl, B7.out⟩
end Go.Proofs.YtikhdbdbdldbaaaDoor
