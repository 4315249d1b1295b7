/- The contract of tarfmt.Parse. -/
import Derived.Test.YtikhdbdbdldbaaaDoorParB
namespace Go.Proofs.YtikhdbdbdldbaaaDoor
open Go.RowKit Go.Shelf
attribute [local go_sem] Oper.semAt_some

set_option maxRecDepth 100000 in
set_option maxHeartbeats 20000000 in
theorem parse_core (w : World) (ad : Option Addr) (c : Nat) (bl : List UInt8) (hbl : bl.length ≤ 60000)
    (hS : ∀ (W0 : World) (Bn : Nat), Below w.heap.size w W0 → W0.heap[Bn]? = some (.cells #[.slice ad bl.length c] 23 (0, 0)) →
      SeqY Fence.wide 8 Tryd.prog 44 #[.pointer (some ⟨Bn, 0, none⟩)] encP (KpP w.heap.size) YP (fun xs => xs.map (·.1) = placesL bl (bl.length + 1) 0) (fun pre => pre.map (·.1) <+: placesL bl (bl.length + 1) 0) (bl.length + 1) W0) :
    Calls Tryd.prog 18 #[.slice ad bl.length c] w fun r w' => ∃ ov, r = .returned (.tuple #[ov, .int .i64 (parseL bl).2.1, .int .i64 ((parseL bl).2.2 : Int)]) ∧ RdEs w' ov (parseL bl).1 ∧ Below w.heap.size w w' := by
  have HS0 := Lib.hid hS
  have b0 : (bl.length : Int) ≤ 60000 := by omega
  have b1 : ¬ (60000 : Int) < (bl.length : Int) := by omega
  clear hS
  refine (callsIn_wide (n := 9)).1 ?_
  refine callsIn_of_wp_marks Tryd.func18 rfl trivial ?_ rfl
  simp only [Tryd.ntmps18, List.size_toArray, List.length_cons, List.length_nil, Nat.reduceAdd, Nat.reduceSub, Array.replicate_succ, Array.replicate_zero, List.push_toArray, List.append_toArray, List.nil_append, List.cons_append]
  gi_wp2_with fail
  refine ⟨trivial, callsIn_wide.2 ((all_any _ _ _ _).mono ?_)⟩
  rintro r w5 ⟨rfl, rfl⟩
  gi_wp2_with fail
  obtain ⟨hI0, hsz, hbx⟩ := par_start w ad bl.length c
  revert hI0 hsz hbx
  generalize (((((w.alloc _).alloc _).alloc _).alloc _).alloc _) = W0
  intro hI0 hsz hbx
  have HSZ := Lib.hid hsz
  refine wpIn_rangeY (F := Fence.wide) rfl (by omega) (gf := 44) (lb := #[.pointer (some ⟨w.heap.size + 1 + 1 + 1 + 1, 0, none⟩)]) rfl trivial (enters_of Tryd.func44 (by kernel_rfl) rfl)
    (HS0.out W0 _ hI0.below hbx) kpP_t (kpP_b (by omega)) (Below.refl _ _) (fun _ => rfl) (ParI w w.heap.size) (ParX w w.heap.size) (parI_own w _ _ (by omega)) (fun c => parX_own w _ _ c (by omega)) hI0
    (AxP w (.slice ad bl.length c) (bl.length : Int)) (axP_own w _ _ _) ?assign ?body ?done ?stop
  case assign =>
    intro l pre x W K hi hy hK
    obtain ⟨x, dv⟩ := x
    obtain ⟨da, dc, rfl⟩ := hy.slice
    simp only [encP]
    gi_wp2
    exact hK _ _ ((KeepsOthers.alloc _ _).from _) ⟨(Below.refl _ W).alloc hi.below.size _, KB.alloc _ _⟩ ((parI_own w _ W0.heap.size (by have := HSZ.out; omega)).alloc _ hi) ⟨W.heap.size, heap_alloc_new W _, own_kb hy (KB.alloc _ _), rfl⟩
  case body =>
    rintro l pre x a' W hl ⟨r, hr⟩ hi ⟨Bx, hbox, hy, rfl⟩ hlt
    obtain ⟨x, dv⟩ := x
    obtain ⟨da, dc, rfl⟩ := hy.slice
    obtain ⟨ov, hov, hrow⟩ := hi.row
    have HI := Lib.hid hi; have HBX := Lib.hid hbox; have HY := Lib.hid hy; have HROW := Lib.hid hrow; have HOV := Lib.hid hov
    have c0 : W.cell? ⟨Bx, 0, none⟩ = some (.string (bs x.e.name)) := (cell_of_row W _ 0 _ _ _ hbox).trans rfl
    have c1 : W.cell? ⟨Bx, 1, none⟩ = some (.int .i64 x.e.kind) := (cell_of_row W _ 1 _ _ _ hbox).trans rfl
    have c2 : W.cell? ⟨Bx, 2, none⟩ = some (.int .i64 x.e.mode) := (cell_of_row W _ 2 _ _ _ hbox).trans rfl
    have c3 : W.cell? ⟨Bx, 3, none⟩ = some (.string (bs x.e.link)) := (cell_of_row W _ 3 _ _ _ hbox).trans rfl
    have c4 : W.cell? ⟨Bx, 4, none⟩ = some (.slice da x.e.data.length dc) := (cell_of_row W _ 4 _ _ _ hbox).trans rfl
    have c5 : W.cell? ⟨Bx, 5, none⟩ = some (.int .i64 (x.at_ : Int)) := (cell_of_row W _ 5 _ _ _ hbox).trans rfl
    have c6 : W.cell? ⟨Bx, 6, none⟩ = some (.bool x.ok) := (cell_of_row W _ 6 _ _ _ hbox).trans rfl
    have o0 := hov.cell
    have o1 := hov.frozen
    have r0 := hi.r0.cell; have r1 := hi.r1.cell; have r2 := hi.r2.cell
    have f0 := hi.r0.frozen; have f1 := hi.r1.frozen; have f2 := hi.r2.frozen
    obtain ⟨oa, oc, rfl⟩ : ∃ oa oc, ov = .slice oa pre.length oc := by
      rcases hrow.2 with ⟨h1, h2⟩ | ⟨g, cap, cur, h1, _⟩
      · exact ⟨none, 0, by rw [h2]; exact h1⟩
      · exact ⟨_, _, h1⟩
    clear hi hbox hy hrow hov
    cases hok : x.ok with
    | false =>
      rw [hok] at c6
      gi_wp2_with fail
      have hmix : Tryd.prog.follows Departure.mixedOrders = true := by kernel_rfl
      gi_region_with_o (fail)
      all_goals gi_wp2
      all_goals exact par_bad (x, .slice da x.e.data.length dc) HI.out (.inl hok) _
    | true =>
      rw [hok] at c6
      by_cases h256 : pre.length = 256
      case pos =>
        have e1 : (pre.length : Int) = 256 := by omega
        have e2 : ((pre.length : Int) == 256) = true := by simp; omega
        gi_wp2_with fail
        have hmix : Tryd.prog.follows Departure.mixedOrders = true := by kernel_rfl
        gi_region_with_o (fail)
        all_goals gi_wp2
        all_goals exact par_bad (x, .slice da x.e.data.length dc) HI.out (.inr h256) _
      case neg =>
        have e1 : ¬ (pre.length : Int) = 256 := by omega
        have e2 : ((pre.length : Int) == 256) = false := by simp; omega
        obtain ⟨i0, hi0, hz0, hz1, hz2⟩ := info_parts info_entry
        have HIN := Lib.hid hi0
        have hln : pre.length ≤ 256 := HI.out.le
        have HC5 := Lib.hid (show ∀ (j : Nat) (u : Value), (eC x.e (.slice da x.e.data.length dc))[j]? = some u → (W.alloc (.cells #[.string (bs x.e.name), .int .i64 x.e.kind, .int .i64 x.e.mode, .string (bs x.e.link), .slice da x.e.data.length dc] 31)).cell? ((⟨W.heap.size, 0, none⟩ : Addr).add j) = some u by
          intro j u hj
          rw [show (⟨W.heap.size, 0, none⟩ : Addr).add j = ⟨W.heap.size, j, none⟩ by unfold Addr.add; split <;> simp_all]
          exact (cell_of_row _ _ j _ _ _ (heap_alloc_new W _)).trans (by simpa [eC] using hj))
        have HC6 := Lib.hid (show ∀ u ∈ eC x.e (.slice da x.e.data.length dc), u.oneCell' = true by intro u hu; simp [eC] at hu; rcases hu with rfl | rfl | rfl | rfl | rfl <;> rfl)
        clear hi0
        gi_wp2_with (gi_at_builtin; refine wpListIn_append_own _ rfl (.tmp 23) (.tmp 26) 22 rfl w.heap.size 31 i0 (.agg #[.string ⟨#[]⟩, .int .i64 0, .int .i64 0, .string ⟨#[]⟩, .slice none 0 0]) 5 72 Tryd.underlying22 HIN.out hz0 hz1 hz2 rfl (by decide) (.slice oa pre.length oc) pre.length (esC pre) rfl (HROW.out.alloc _) ⟨W.heap.size, 0, none⟩ 1 1 (eC x.e (.slice da x.e.data.length dc)) rfl rfl (HC5.out) (HC6.out) (by simp only [maxLen]; omega) (by omega) (by have := HI.out.below.size; simp; omega) ?_; intro v' w1 hown' hgrow _; obtain ⟨g', cap', rfl⟩ := ownsRow_succ hown'; have HFIN := Lib.hid (fun B5 => par_app HI.out hok (by omega) HY.out HOV.out HROW.out hown' hgrow B5); have hv1 := (HOV.out.appended (by decide) HROW.out HI.out.below.size (by omega) hown' hgrow).1; have hc1 := hv1.cell; have hf1 := hv1.frozen; clear hown' hgrow hv1)
        exact HFIN.out _
  case done =>
    rintro D xs W hD hS hi hK
    obtain ⟨v, hv, hrow⟩ := hi.row
    have c0 := hv.cell
    have r0 := hi.r0.cell; have r1 := hi.r1.cell; have r2 := hi.r2.cell
    have f0 := hi.r0.frozen; have f1 := hi.r1.frozen; have f2 := hi.r2.frozen
    obtain ⟨oa, oc, rfl⟩ : ∃ oa oc, v = .slice oa xs.length oc := by
      rcases hrow.2 with ⟨h1, h2⟩ | ⟨g, cap, cur, h1, _⟩
      · exact ⟨none, 0, by rw [h2]; exact h1⟩
      · exact ⟨_, _, h1⟩
    have HI := Lib.hid hi; have HROW := Lib.hid hrow; have HS := Lib.hid hS; have HK := Lib.hid hK
    clear hi hrow hv hS hK
    gi_wp2
    have hD2 : w.heap.size ≤ D := by have := HSZ.out; omega
    obtain ⟨W3, hW3, hk3, p0, p1, p2, hes, hbe⟩ := par_done HI.out HROW.out hD2 HK.out (.deferred none)
    rw [← hW3]
    have hpl := parseL_done hbl HS.out HI.out.ok HI.out.le
    refine ⟨by simp, .inl ⟨_, _, rfl, run_takeDeferred hk3, ?_⟩⟩
    exact ⟨_, results_par rfl _ _ w.heap.size _ _ _ rfl rfl rfl p0 p1 p2, .slice oa xs.length oc, by rw [hpl]; rfl, by rw [hpl]; exact hes, hbe⟩
  case stop =>
    rintro D c' pre W hD hS hx hK
    obtain rfl := hx.ret
    have HX := Lib.hid hx; have HS := Lib.hid hS; have HK := Lib.hid hK
    clear hx hS hK
    gi_wp2
    have hD2 : w.heap.size ≤ D := by have := HSZ.out; omega
    obtain ⟨p, x, hp, hok, hle, hwhy, hb2⟩ := HX.out.how
    have hpl := parseL_stop hbl (hp ▸ HS.out) hok hle hwhy
    have hbb := HX.out.below
    refine ⟨by simp, .inl ⟨_, _, rfl, run_takeDeferred HK.out, ?_⟩⟩
    exact ⟨_, results_par rfl _ _ w.heap.size _ _ _ rfl rfl rfl (box_putObj HX.out.r0 HK.out rfl _) (box_putObj HX.out.r1 HK.out rfl _) (box_putObj hb2 HK.out rfl _), .slice none 0 0, by rw [hpl], by rw [hpl]; exact RdEs.nil _, hbb.grown (grownBy_putObj' _ D _) hbb.size (fun k e => by cases e; exact hD2)⟩
theorem parse_any (w : World) (ad : Addr) (c : Nat) (bl : List UInt8) (hrd : RdB w (.slice (some ad) bl.length c) bl) (hbl : bl.length ≤ 60000) (hc : bl.length ≤ c) (hc2 : c ≤ 9223372036854775807) (had : ad.spot = none) :
    Calls Tryd.prog 18 #[.slice (some ad) bl.length c] w fun r w' => ∃ ov, r = .returned (.tuple #[ov, .int .i64 (parseL bl).2.1, .int .i64 ((parseL bl).2.2 : Int)]) ∧ RdEs w' ov (parseL bl).1 ∧ Below w.heap.size w w' :=
  parse_core w (some ad) c bl hbl (fun W0 Bn hB hBn => all1_stops 8 (by omega) Bn w W0 ad c bl hrd hbl hc hc2 had hB hBn)
end Go.Proofs.YtikhdbdbdldbaaaDoor
