/- The law TopAgain: the walk. -/
import Derived.Test.YtlkieepfjhiflaaComOk
import Derived.Deep.CutBlock
import Derived.Deep.CutRange
namespace Go.Proofs.Ytlkieepfjhiflaa
open Go.RowKit Go.ChangeMaps

theorem info_bool : (Try.prog.info? 4).map (fun i => (i.zero, i.size, i.bytes)) = some (some (.bool false), 1, 1) := by kernel_rfl
theorem run_makeSeen (w : World) : (Instr.makeSlice 51 (.int .i64 27) (.int .i64 27)).run Try.prog w = .ok (.slice (some ⟨w.heap.size, 0, none⟩) 27 27) (w.alloc (.cells (seenR []) 4)) := by
  obtain ⟨i0, hi, hz0, hz1, hz2⟩ := info_parts info_bool
  have h := run_make (P := Try.prog) w 51 4 i0 (.bool false) Try.underlying51 hi hz0 .i64 .i64 27 27 (by omega) (by omega) (by rw [hz2]; omega) (by omega)
  have e : madeCells (Value.bool false).cells (Int.toNat 27 * 1) = seenR [] := by
    rw [show (Value.bool false).cells = #[Value.bool false] from rfl, show Int.toNat 27 * 1 = 27 from rfl, made_one]
    refine Array.ext (by simp [seenR]) fun i h1 h2 => ?_
    have := seenR_at [] (n := i) (by simpa [seenR] using h2)
    rw [Array.getElem?_eq_getElem h2] at this
    rw [Option.some.inj this]
    simp
  rw [h, hz1, e]
  rfl
theorem Fr.trans' {a b c : World} {k : Nat} (h : Fr [] a b) (g : Fr [k] b c) (_ : a.heap.size ≤ k) : Fr [k] a c := (h.mono (by simp)).trans g
theorem dat_row {w : World} {S : List Nat} {b : Nat} {L : List UInt8} (h : RowB w b L) (hL : L.length = 512) (hb : b ∉ S) : Dat S w (.slice (some ⟨b, 0, none⟩) 512 512) L :=
  .inr ⟨b, 0, 512, by simp [hL], by simp [hL], hb, ⟨_, _, h⟩, fun j u hj => by rw [cell_of_row w b (0 + j) _ _ _ h, Nat.zero_add]; simpa using hj⟩
theorem phi_of {q : UInt8} {ns : List Nat} {pg : Nat → List UInt8} (h : pg = (fun _ => zBytes) ∨ pg = newB q ns) : ∃ φ : Nat → Bool, (∀ i, pg i = if φ i = true then pgB q else zBytes) ∧ ((∀ i, φ i = false) ∨ (∀ i, φ i = decide (i ∈ ns))) := by
  rcases h with rfl | rfl
  · exact ⟨fun _ => false, fun i => by simp, .inl fun _ => rfl⟩
  · exact ⟨fun i => decide (i ∈ ns), fun i => by simp [newB], .inr fun _ => rfl⟩
def cntB (φ : Nat → Bool) (n : Nat) : Nat := ((List.range n).filter φ).length
theorem cntB_step (φ : Nat → Bool) (n : Nat) : cntB φ (n + 1) = cntB φ n + (if φ n = true then 1 else 0) := by
  unfold cntB
  rw [List.range_succ, List.filter_append]
  by_cases h : φ n = true <;> simp [h]
theorem cntB_none {φ : Nat → Bool} (h : ∀ i, φ i = false) (n : Nat) : cntB φ n = 0 := by
  unfold cntB
  simp [h]
theorem cntB_all {φ : Nat → Bool} {ns : List Nat} (h : ∀ i, φ i = decide (i ∈ ns)) (hn : ns.Nodup) (hlt : ∀ n ∈ ns, n < 27) : cntB φ 27 = ns.length := by
  unfold cntB
  refine List.Perm.length_eq ((List.perm_ext_iff_of_nodup (List.nodup_range.filter _) hn).2 fun a => ?_)
  rw [List.mem_filter, List.mem_range, h, decide_eq_true_eq]
  exact ⟨fun x => x.2, fun x => ⟨hlt a x, x⟩⟩
theorem cntB_le (φ : Nat → Bool) (n : Nat) : cntB φ n ≤ n := by
  unfold cntB
  exact Nat.le_trans (List.length_filter_le _ _) (by simp)
set_option maxRecDepth 100000 in
set_option maxHeartbeats 16000000 in
theorem tagain_any (w : World) (v1 v2 v3 : Value) (l : List UInt8) (pl : List Nat) (lc : List UInt8) (h1 : RdB w v1 l) (hl : l.length ≤ 9223372036854775807) (h2 : RdV w v2 (pl.map fun (n : Nat) => Value.int .u16 (n : Int))) (hpl : pl.length ≤ 9223372036854775807) (hp16 : ∀ n ∈ pl, n ≤ 65535) (h3 : RdB w v3 lc) :
    Calls Try.prog 5 #[v1, v2, v3] w fun e w' => e = .returned (.bool true) ∧ Below w.heap.size w w' := by
  have H1 := Lib.hid h1; have H2 := Lib.hid h2; have H3 := Lib.hid h3; have HP := Lib.hid hp16
  obtain ⟨a1, c1, rfl, _⟩ := RdB.open h1
  obtain ⟨a2, c2, e2, _⟩ := h2.open
  rw [List.length_map] at e2
  subst e2
  obtain ⟨a3, c3, rfl, _⟩ := RdB.open h3
  have b1 : (l.length : Int) ≤ 9223372036854775807 := by omega
  have b2 : (pl.length : Int) ≤ 9223372036854775807 := by omega
  have HNW := Lib.hid (new_disk w 40 (by omega) (by omega))
  have hms := run_makeSeen
  clear h1 h2 h3 hp16
  go_enter Try.func5, Try.ntmps5
  go_wp2_with fail
  refine HNW.out.mono ?_
  rintro r w1 ⟨g0, bs0, bm0, F0, rfl, D0, hF0, hZ0, hb1, hg1, hg2, hg3⟩
  have hat : ∀ i, i < 40 → At (Dat [g0, bs0, bm0] w1) F0 i zBytes := fun i hi => ⟨F0[i]'(by omega), List.getElem?_eq_getElem (by omega), hZ0 _ (List.getElem_mem _)⟩
  have hE0 : Emp (Dat [g0, bs0, bm0] w1) 12 27 (fun _ => zBytes) F0 := ⟨hF0, .inl (hat 0 (by omega)), fun n hn => hat _ (by omega)⟩
  obtain ⟨v0, hv0, hd0⟩ := hat 0 (by omega)
  have HOP := Lib.hid (open_any w1 ⟨[], D0, rfl⟩ (s := 12) (M := 27) (by omega) hF0 (by omega) (by omega) (by omega) [] (fun _ => zBytes) (by simp) (by simp) List.Pairwise.nil v0 zBytes hv0 hd0 (.inl ⟨rfl, rfl⟩) (by simp) (by simp))
  have HB1 := Lib.hid hb1
  have HE0 := Lib.hid hE0; have HF0 := Lib.hid hF0
  clear D0 hZ0 hat hb1 hg1 hg2 hg3 HNW hE0 hv0 hd0 hF0
  go_wp2_with fail
  refine HOP.out.mono ?_
  rintro r w2 ⟨p, g, bs, bm, rfl, hO, hD⟩
  have hD2 : DiskP w2 g bs bm F0 [] := by
    rcases hD with ⟨_, h⟩ | ⟨h, _⟩
    · exact h
    · exact absurd rfl h
  have HL2 := Lib.hid hO.log; have HAP := Lib.hid hO.apart; have HD2 := Lib.hid hD2
  have HE2 := Lib.hid (HE0.out.mono (R' := Dat [g, bs, bm] w2) (fun v l h => (RdN.to h (fun k hk => .inr (by have := hO.new; simp at hk; omega))).fr (Fr.of_below (S := []) hO.below) (by simp)))
  have HB2 := Lib.hid (HB1.out.trans (hO.below.mono HB1.out.size))
  have HNG := Lib.hid (show w.heap.size ≤ g ∧ w.heap.size ≤ bs ∧ w.heap.size ≤ bm by have := hO.new; have := HB1.out.size; omega)
  clear hO hD hD2 HOP HB1 HE0
  go_upto_block 0 with fail
  have G3 := Lib.hid (show GrI (w2.alloc (.cells (seenR []) 4)) (w2.alloc (.cells (seenR []) 4)) w2.heap.size (pgB (UInt8.ofNat l.length)) (.slice none 0 0) [] from
    ⟨heap_alloc_new w2 _, World.ownsRow_nil _ _ _ _, by simp, by simp, by simp, Fr.refl _ _⟩)
  have A3 := (Fr.refl [] w2).alloc (.cells (seenR []) 4)
  have HF3 := Lib.hid A3
  have HSB := Lib.hid (show w2.heap.size < (w2.alloc (.cells (seenR []) 4)).heap.size by simp)
  have HSE := Lib.hid (rfl : w2.heap.size = w2.heap.size)
  clear A3 hms
  generalize w2.alloc (.cells (seenR []) 4) = w3 at *
  obtain ⟨sb, hsb⟩ : ∃ x, x = w2.heap.size := ⟨_, rfl⟩
  rw [← hsb] at G3 HSB ⊢
  have HSBE := Lib.hid hsb
  clear hsb HSE
  obtain ⟨xq, hxq⟩ : ∃ q : UInt8, q = UInt8.ofNat l.length := ⟨_, rfl⟩
  have hx8 : (l.length : Int) % 256 = n8 xq := by rw [hxq]; unfold n8; rw [UInt8.toNat_ofNat']; omega
  rw [← hxq] at G3
  rw [hx8]
  have hor := or_one xq
  have HXQ := Lib.hid hxq
  clear hx8 hxq
  obtain ⟨xi, hxi⟩ : ∃ i, i = n8 xq := ⟨_, rfl⟩
  obtain ⟨yi, hyi⟩ : ∃ i, i = n8 (xq ||| 1) := ⟨_, rfl⟩
  rw [← hxi, ← hyi] at hor
  rw [← hxi]
  have HXI := Lib.hid hxi; have HYI := Lib.hid hyi
  have hy0 : ¬ yi = 0 := by rw [hyi]; exact or_one_ne xq
  clear hxi hyi
  have hmk := run_makeSec
  go_cut [12] from 38 to 71 (fun gv wc => ∃ ps : List (Nat × Value), ps.length ≤ 12 ∧ GrI w3 wc sb (pgB xq) gv ps)
  case first =>
    rename_i K0 hK0 J K1 hRJ hMet
    clear hK0
    go_wp2_with fail
    go_loopw [12, 14] (fun gv i wr => ∃ (ps : List (Nat × Value)) (j : Nat), j ≤ l.length ∧ ps.length ≤ j ∧ j ≤ 12 ∧ i = .int .i64 (j : Int) ∧ GrI w3 wr sb (pgB xq) gv ps) (fun _ i _ => ((l.length : Int) - intOf i).toNat)
    case atStart => exact ⟨[], 0, by omega, by simp, by omega, by simp, G3.out⟩
    clear G3
    case round =>
      obtain ⟨ps, j, hj, hpj, hj12, rfl, hG⟩ := hrel
      have HG := Lib.hid hG
      clear hG
      by_cases hin : j < l.length ∧ j < 12
      · obtain ⟨hlt, hlt12⟩ := hin
        have hbw : Below w.heap.size w wr := HB2.out.trans ((HF3.out.trans' HG.out.fr (by have := HSBE.out; omega)).below HB2.out.size (by intro x hx; simp at hx; subst hx; rw [HSBE.out]; exact HB2.out.size))
        have HBW := Lib.hid hbw
        obtain ⟨a', c', e', hc⟩ := RdB.open (H1.out.below hbw)
        simp only [Value.slice.injEq] at e'
        obtain ⟨b, off, hx, hcell⟩ := hc j hlt
        rw [← e'.1] at hx
        subst hx
        obtain ⟨q, hq⟩ : ∃ q, q = (l[j]).toNat := ⟨_, rfl⟩
        obtain ⟨n, hn⟩ : ∃ n, n = q % 27 := ⟨_, rfl⟩
        have hn27 : n < 27 := by omega
        have hcl : wr.cell? ⟨b, off + j, none⟩ = some (.int .u8 (q : Int)) := by rw [hcell, hq]; rfl
        have tq : (q : Int).tmod 27 = (n : Int) := by rw [Int.tmod_eq_emod_of_nonneg (by omega), hn]; omega
        have hq8 : (q : Int) < 256 := by have := (l[j]).toNat_lt; omega
        have hseen : wr.cell? ⟨sb, n, none⟩ = some (.bool (decide (n ∈ ps.map (·.1)))) := by
          rw [cell_of_row wr sb n _ _ _ HG.out.seen]; exact seenR_at ps hn27
        have j0 : (j : Int) < (l.length : Int) := by omega
        have j1 : (j : Int) < 12 := by omega
        have n0 : (n : Int) < 27 := by omega
        clear hcell hc hbw e' hq hn
        by_cases hm : n ∈ ps.map (·.1)
        · rw [decide_eq_true hm] at hseen
          clear hm
          go_wp2_with fail
          exact ⟨⟨ps, j + 1, by omega, by omega, by omega, by simp, HG.out⟩, by simp [intOf]; omega⟩
        · rw [decide_eq_false hm] at hseen
          have HM := Lib.hid hm
          have hfz : wr.frozen? ⟨sb, n, none⟩ = false := by have h := HG.out.seen; simp [World.frozen?, h]
          clear hm
          have hss : (wr.setCell ⟨sb, n, none⟩ (.bool true)).heap.size = wr.heap.size := by simp
          have hf12 : Fr [] (wr.setCell ⟨sb, n, none⟩ (.bool true)) ((wr.setCell ⟨sb, n, none⟩ (.bool true)).alloc (.cells (zRow.setIfInBounds 3 (.int .u8 yi)) 5)) := (Fr.refl [] _).alloc _
          have hrz : RowB ((wr.setCell ⟨sb, n, none⟩ (.bool true)).alloc (.cells zRow 5)) wr.heap.size zBytes := by
            have h := heap_alloc_new (wr.setCell ⟨sb, n, none⟩ (.bool true)) (.cells zRow 5)
            rw [hss] at h
            exact h
          have hr2 : RowB ((wr.setCell ⟨sb, n, none⟩ (.bool true)).alloc (.cells (zRow.setIfInBounds 3 (.int .u8 yi)) 5)) wr.heap.size (pgB xq) := by
            have h := heap_alloc_new (wr.setCell ⟨sb, n, none⟩ (.bool true)) (.cells (zRow.setIfInBounds 3 (.int .u8 yi)) 5)
            rw [hss] at h
            unfold RowB
            rw [h]
            have e : zRow.setIfInBounds 3 (.int .u8 yi) = ((pgB xq).map vB).toArray := by
              rw [HYI.out]; unfold zRow pgB
              rw [List.setIfInBounds_toArray, List.map_set]; rfl
            rw [e]
          have hf24 : Fr [] ((wr.setCell ⟨sb, n, none⟩ (.bool true)).alloc (.cells (zRow.setIfInBounds 3 (.int .u8 yi)) 5)) (((wr.setCell ⟨sb, n, none⟩ (.bool true)).alloc (.cells (zRow.setIfInBounds 3 (.int .u8 yi)) 5)).alloc (.cells #[.int .i64 (n : Int), .slice (some ⟨wr.heap.size, 0, none⟩) 512 512] 53)) := (Fr.refl [] _).alloc _
          have hb4 := heap_alloc_new ((wr.setCell ⟨sb, n, none⟩ (.bool true)).alloc (.cells (zRow.setIfInBounds 3 (.int .u8 yi)) 5)) (.cells #[.int .i64 (n : Int), .slice (some ⟨wr.heap.size, 0, none⟩) 512 512] 53)
          rw [show ((wr.setCell ⟨sb, n, none⟩ (.bool true)).alloc (.cells (zRow.setIfInBounds 3 (.int .u8 yi)) 5)).heap.size = wr.heap.size + 1 by simp] at hb4
          have hsz4 : w3.heap.size ≤ (((wr.setCell ⟨sb, n, none⟩ (.bool true)).alloc (.cells (zRow.setIfInBounds 3 (.int .u8 yi)) 5)).alloc (.cells #[.int .i64 (n : Int), .slice (some ⟨wr.heap.size, 0, none⟩) 512 512] 53)).heap.size := by have := HG.out.fr.size; simp; omega
          have hown4 := (show Fr [sb] wr _ from ((Fr.refl [sb] wr).setCell (p := ⟨sb, n, none⟩) (.inl (by simp)) (.bool true)).trans ((hf12.trans hf24).mono (by simp)))
          have hkept := World.ownsRow.kept (row := some sb) HG.out.own hown4.grownBy (by
            cases hv : u12.ownBlock with
            | none => exact .inl rfl
            | some g => exact .inr (fun e => by
                have h1 := (World.ownsRow.lt HG.out.own g hv).1
                have h2 := HSB.out
                cases e
                omega))
          have HF12 := Lib.hid hf12; have HR2 := Lib.hid hr2; have HF24 := Lib.hid hf24; have HB4 := Lib.hid hb4; have HK := Lib.hid hkept; have HS4 := Lib.hid hsz4; have HSS := Lib.hid hss
          have cz : ((wr.setCell ⟨sb, n, none⟩ (.bool true)).alloc (.cells zRow 5)).cell? ⟨wr.heap.size, 3, none⟩ = some (.int .u8 0) := hrz.cell 3 0 rfl
          have fz := hrz.free 3
          clear hf12 hrz hr2 hf24 hb4 hsz4 hown4 hkept hss
          go_wp2_with (refine wpList_pg1 rfl (.tmp 66) (.tmp 70) rfl w3.heap.size u12 ps rfl HK.out (wr.heap.size + 1) n (some ⟨wr.heap.size, 0, none⟩) 512 512 rfl HB4.out (by omega) HS4.out ?_)
          intro v' w5 hown hgr
          have HST := Lib.hid (GrI.step HG.out HSB.out hn27 HM.out rfl HF12.out HR2.out (Nat.le_of_eq HSS.out) HF24.out hown hgr)
          clear hown hgr HF12 HR2 HF24 HB4 HK HS4 cz fz hfz hseen hcl hmk
          go_wp2_with fail
          exact ⟨⟨_, j + 1, by omega, by simp; omega, by omega, by simp, HST.out⟩, by simp [intOf]; omega⟩
      · by_cases hjl : j < l.length
        · have j0 : (j : Int) < (l.length : Int) := by omega
          have j1 : ¬ (j : Int) < 12 := by omega
          go_wp2_with fail
          go_meet
          exact ⟨ps, by omega, HG.out⟩
        · have j0 : ¬ (j : Int) < (l.length : Int) := by omega
          go_wp2_with fail
          go_meet
          exact ⟨ps, by omega, HG.out⟩
  case rest =>
    obtain ⟨ps, hp12, hG⟩ := hcut
    have hrp := rdpg_of hG.own rfl
    have hrp2 := hrp
    obtain ⟨va, vc, hva, _⟩ := hrp2
    subst hva
    have hF23 : Fr [] w2 wc := HF3.out.then hG.fr (fun x hx => .inr (by simp at hx; subst hx; rw [HSBE.out]; exact Nat.le_refl _))
    have hlt2 := HD2.out.lt
    have hs23 := HF3.out.size
    have HCM := Lib.hid (commit_ok wc (HL2.out.fr hF23 (by simp)) (HD2.out.fr hF23 (by simp)) HAP.out HF0.out (HE2.out.mono (R' := Dat [g, bs, bm] wc) (fun v l h => RdN.fr h hF23 (by simp))) _ ps hrp hp12 hG.lt hG.nd (fun x hx => by
      obtain ⟨rb, e, hrb, hR⟩ := hG.rows x hx
      rw [e]
      exact dat_row hR (pgB_len xq) (by simp; omega)))
    have HSN := Lib.hid hG.seen
    have HBC := Lib.hid (HB2.out.trans (hF23.below HB2.out.size (by simp)))
    have HSX := Lib.hid (show sb ∉ [g, bs, bm] by have := HSBE.out; simp; omega)
    have HLT := Lib.hid hG.lt; have HND := Lib.hid hG.nd
    have p0 : (ps.length : Int) ≤ 12 := by omega
    clear hrp hG hF23 hlt2 hs23 HE2 HD2 HL2 HF3 hmk
    go_wp2_with fail
    refine HCM.out.mono ?_
    rintro r w5 ⟨rfl, hf5, ns, ops5, pg5, hns, hr, hok5, _⟩
    have HOK5 := Lib.hid hok5
    have HNS := Lib.hid hns; have HRI := Lib.hid hr
    have HS5 := Lib.hid (hf5.heap HSX.out HSN.out)
    have HB5 := Lib.hid (HBC.out.trans (hf5.below HBC.out.size (by intro k hk; have := HNG.out; simp at hk; omega)))
    clear hf5 hok5 hns hr HCM HSN HBC HB2
    go_wp2_with fail
    go_loopw [10, 17] (fun lp i wr => ∃ (j p g bs bm : Nat) (F : List Value) (ops : List (Option (Nat × Value))) (pg : Nat → List UInt8), j ≤ pl.length ∧ i = .int .i64 (j : Int) ∧ lp = .pointer (some ⟨p, 0, none⟩) ∧ LogOk wr p g bs bm 12 27 F ops ns (fun _ => zBytes) (newB xq ns) pg ∧ Below w5.heap.size w5 wr) (fun _ i _ => ((pl.length : Int) - intOf i).toNat)
    case atStart => exact ⟨0, p, g, bs, bm, F0, ops5, pg5, by omega, by simp, rfl, HOK5.out, Below.refl _ _⟩
    clear HOK5
    case round =>
      obtain ⟨j, p', g', bs', bm', F, ops, pg, hj, rfl, rfl, hok, hB⟩ := hrel
      have HOK := Lib.hid hok; have HBR := Lib.hid hB
      clear hok hB
      by_cases hin : j < pl.length ∧ j < 6
      · obtain ⟨hlt, hlt6⟩ := hin
        have hFl : F.length = 40 := by have := HOK.out.emp.len; rwa [play_length] at this
        have hDa := HOK.out.disk.nil HOK.out.wait
        have HDK := Lib.hid (ldisk_any wr HOK.out.log hDa (by rw [play_length]; omega) (by rw [play_length]; omega))
        have j0 : (j : Int) < (pl.length : Int) := by omega
        have j1 : (j : Int) < 6 := by omega
        clear hDa
        go_wp2_with fail
        refine HDK.out.mono ?_
        rintro r w6 ⟨g1, bs1, bm1, rfl, D6, hb6, hg1, hg2, hg3⟩
        have hs6 := hb6.size
        obtain ⟨pn, hpn⟩ : ∃ n, pl[j]? = some n := ⟨pl[j], List.getElem?_eq_getElem hlt⟩
        have hBw6 : Below w.heap.size w w6 := (HB5.out.trans (HBR.out.mono HB5.out.size)).trans (hb6.mono (HB5.out.trans (HBR.out.mono HB5.out.size)).size)
        obtain ⟨b, off, hx, hcell⟩ : ∃ b off, a2 = some ⟨b, off, none⟩ ∧ w6.cell? ⟨b, off + j, none⟩ = some (.int .u16 (pn : Int)) := by
          obtain ⟨a', c', e, hc⟩ := (H2.out.below hBw6).open
          simp only [Value.slice.injEq] at e
          rw [e.1]
          exact hc j _ (by rw [List.getElem?_map, hpn]; rfl)
        subst hx
        have hp65 := HP.out pn (List.mem_of_getElem? hpn)
        have hol := HOK.out.len
        obtain ⟨N, hN⟩ : ∃ N, N = ops.length := ⟨_, rfl⟩
        obtain ⟨k, hk⟩ : ∃ k, k = pn % (N + 1) := ⟨_, rfl⟩
        have hkN : k ≤ N := by rw [hk]; have := Nat.mod_lt pn (show 0 < N + 1 by omega); omega
        have tk : (pn : Int).tmod ((N : Int) + 1) = (k : Int) := by
          rw [Int.tmod_eq_emod_of_nonneg (by omega), hk, Int.natCast_emod, Int.natCast_add]
          rfl
        have nz : ¬ (N : Int) + 1 = 0 := by omega
        have Wk : IntKind.i64.wrap (k : Int) = (k : Int) := by rw [IntKind.wrap_i64]; omega
        have Wn : IntKind.i64.wrap ((N : Int) + 1) = (N : Int) + 1 := by rw [IntKind.wrap_i64]; omega
        have D6d := D6.fr (Fr.drew (S := []) w6) (by simp)
        have HOPS := Lib.hid (show Calls Try.prog 23 #[.pointer (some ⟨g1, 0, none⟩)] w6.drew fun e w' => e = .returned (.int .i64 (N : Int)) ∧ w' = w6.drew by
          have h := ops_any w6.drew D6d
          rw [List.length_map, ← hN] at h
          exact h)
        have hwl : (play F (ops.take k)).2.length ≤ 4096 := by
          have h1 : ∀ (xs : List (Option (Nat × Value))) (st : List Value × List (Nat × Value)), (xs.foldl stepP st).2.length ≤ st.2.length + xs.length := by
            intro xs
            induction xs with
            | nil => intro st; simp
            | cons o xs ih =>
              intro st
              rw [List.foldl_cons]
              refine Nat.le_trans (ih _) ?_
              cases o <;> simp [stepP] <;> omega
          have h2 := h1 (ops.take k) (F, [])
          simp only [List.length_nil, List.length_take] at h2
          unfold play
          omega
        have HCR := Lib.hid (crashed_any w6.drew D6d HOK.out.play (by omega) (by omega) (by omega) k (by omega) _ lc (H3.out.below (hBw6.trans ((Fr.drew (S := []) w6).below hBw6.size (by simp)))) hwl)
        have HREO := Lib.hid (fun (w7 : World) (g2 bs2 bm2 : Nat) (S' : List Value) (D7 : DiskAt w7 g2 bs2 bm2 S' [] S' []) (hcr : Crashed (play F (ops.take k)).1 (play F (ops.take k)).2 S') (hb7 : Below w6.drew.heap.size w6.drew w7) (h1 : w6.drew.heap.size ≤ g2) (h2 : w6.drew.heap.size ≤ bs2) (h3 : w6.drew.heap.size ≤ bm2) =>
          show Calls Try.prog 20 #[.pointer (some ⟨g2, 0, none⟩), .int .i64 12] w7 fun e w' => ∃ p g' bs' bm' ops pg, e = .returned (.tuple #[.pointer (some ⟨p, 0, none⟩), .int .i64 0]) ∧ LogOk w' p g' bs' bm' 12 27 S' ops ns (fun _ => zBytes) (newB xq ns) pg ∧ (pg = (fun _ => zBytes) ∨ pg = newB xq ns) ∧ Below w7.heap.size w7 w' from by
            have h6s : w6.drew.heap.size = w6.heap.size := rfl
            have hinv := (HOK.out.good k (by omega) S' hcr).mono (R' := Dat [g2, bs2, bm2] w7) (fun v l h => (RdN.to h (fun x hx => .inr (by simp at hx; omega))).fr (Fr.of_below (S := []) (hb6.trans (((Fr.drew (S := []) w6).below (Nat.le_refl _) (by simp)).trans hb7 |>.mono hs6))) (by simp))
            have hSl : S'.length = 40 := by rw [hcr.1, play_length]; exact hFl
            have hnl : ns.length ≤ 12 := by have := HNS.out.length_eq; simp at this; omega
            have hnb : ∀ n ∈ ns, n < 27 := fun n h => by
              obtain ⟨x, q1, q2⟩ := List.mem_map.1 (HNS.out.mem_iff.1 h)
              have := HLT.out x q1; omega
            exact reopen_any (s := 12) (M := 27) w7 D7 hinv (by omega) hSl (by omega) (by omega) (by omega) hnl hnb HRI.out (fun n hn => by unfold newB; rw [if_neg hn]) (fun n hn => by unfold newB; rw [if_pos hn]; exact pgB_len xq))
        have HBW6 := Lib.hid hBw6
        have HB56 := Lib.hid (HBR.out.trans (hb6.mono HBR.out.size))
        have k1 := cell_dr hcell
        have hw65 : (pn : Int) ≤ 65535 := by omega
        have Wp : IntKind.i64.wrap (pn : Int) = (pn : Int) := by rw [IntKind.wrap_i64]; omega
        clear hs6 hBw6 hpn hp65 hol hk hkN hN D6d hwl D6 hb6 hg1 hg2 hg3 HDK HOK HBR hcell
        go_wp2_with fail
        go_region_with (first
          | (go_at_call 23; refine HOPS.out.mono ?_; rintro r w7 ⟨rfl, rfl⟩)
          | (go_at_call 14; refine HCR.out.mono ?_; rintro r w7 ⟨g2, bs2, bm2, S', rfl, D7, hcr, hb7, hg1, hg2, hg3⟩; (have HRO := Lib.hid (HREO.out w7 g2 bs2 bm2 S' D7 hcr hb7 hg1 hg2 hg3)); (have HB7 := Lib.hid hb7); clear D7 hcr hb7 hg1 hg2 hg3)
          | (go_at_call 20; refine HRO.out.mono ?_; rintro r w8 ⟨p8, g8, bs8, bm8, ops8, pg8, rfl, hok8, hpg8, hb8⟩; (have HOK8 := Lib.hid hok8); (have HPG8 := Lib.hid hpg8); (have HB8 := Lib.hid hb8); clear hok8 hpg8 hb8))
        all_goals (
          have HB58 := Lib.hid (show Below w5.heap.size w5 w8 from ((HB56.out.trans ((Fr.drew (S := []) w6).below HB56.out.size (by simp))).trans (HB7.out.mono HB56.out.size)).trans (HB8.out.mono ((HB56.out.trans ((Fr.drew (S := []) w6).below HB56.out.size (by simp))).trans (HB7.out.mono HB56.out.size)).size))
          obtain ⟨φ, hφ, hcase⟩ := phi_of HPG8.out
          have HPH := Lib.hid hφ; have HCS := Lib.hid hcase
          clear hφ hcase HPG8 HB8 HB7 HB56 HBW6 HCR HOPS HREO HRO k1 Wp Wn Wk tk nz hw65
          go_wp2_with fail
          go_loopw [19, 20] (fun t i wr => ∃ n : Nat, n ≤ 27 ∧ t = .int .i64 (cntB φ n : Int) ∧ i = .int .i64 (n : Int) ∧ Below w8.heap.size w8 wr) (fun _ i _ => (27 - intOf i).toNat)
          case atStart => exact ⟨0, by omega, by simp [cntB], by simp, Below.refl _ _⟩
          case round =>
            obtain ⟨n, hn, rfl, rfl, hB⟩ := hrel
            have HBQ := Lib.hid hB
            clear hB
            by_cases hlt : n < 27
            · have okq := HOK8.out.fr (Fr.of_below (S := []) HBQ.out) (by simp)
              have hSl : S'.length = 40 := by have := okq.emp.len; rwa [play_length] at this
              obtain ⟨v, hv1, hv2⟩ := okq.emp.page n hlt
              have hlb : (pg8 n).length = 512 := by rw [HPH.out n]; split; exact pgB_len xq; exact zBytes_len
              have HRD := Lib.hid (lread_any _ okq.log (okq.disk.nil okq.wait) (M := 27) hSl (by omega) n hlt v hv1 (pg8 n) (RdN.rd hv2) hlb)
              have n0 : (n : Int) < 27 := by omega
              have hcl := cntB_le φ n
              have HST := Lib.hid (cntB_step φ n)
              have HSEEN := Lib.hid ((HB58.out.trans (HBQ.out.mono HB58.out.size)).block sb (Array.getElem?_eq_some_iff.1 HS5.out).1 |>.trans HS5.out)
              obtain ⟨cn, hcn⟩ : ∃ c, c = cntB φ n := ⟨_, rfl⟩
              rw [← hcn] at HST hcl ⊢
              have c27 : (cn : Int) ≤ 27 := by omega
              clear okq hSl hv1 hv2 hlb hcn hcl
              go_wp2_with fail
              refine HRD.out.mono ?_
              rintro r wq ⟨rq, rc, rfl, hrq, hro, hbq⟩
              have hrd : RdB wq (.slice (some ⟨rq, 0, none⟩) 512 rc) (pg8 n) := RdV_of_owns hro
              have hseen : wq.cell? ⟨sb, n, none⟩ = some (.bool (decide (n ∈ ps.map (·.1)))) := by
                rw [cell_of_row wq sb n _ _ _ ((hbq.block sb (Array.getElem?_eq_some_iff.1 HSEEN.out).1).trans HSEEN.out)]
                exact seenR_at ps hlt
              have hrc : 512 ≤ rc := by
                rcases hrd with ⟨h, _⟩ | ⟨a, cap, h, hle, _⟩
                · cases h
                · simp only [Value.slice.injEq] at h
                  have : (pg8 n).length = 512 := by rw [HPH.out n]; split; exact pgB_len xq; exact zBytes_len
                  rw [h.2.2]; rw [List.length_map, this] at hle; exact hle
              have HBQ2 := Lib.hid (HBQ.out.trans (hbq.mono HBQ.out.size))
              by_cases hp : φ n = true
              · have h3 : wq.cell? ⟨rq, 3, none⟩ = some (.int .u8 yi) := by
                  have h := rdB_cell (i := 3) (x := xq ||| 1) hrd (by rw [HPH.out n, if_pos hp]; rfl)
                  rw [HYI.out]; exact h
                have hin : n ∈ ps.map (·.1) := by
                  rcases HCS.out with h | h
                  · rw [h n] at hp; cases hp
                  · rw [h n, decide_eq_true_eq] at hp
                    exact HNS.out.mem_iff.1 hp
                rw [decide_eq_true hin] at hseen
                have HS2 := Lib.hid (show cntB φ (n + 1) = cn + 1 by rw [HST.out, if_pos hp])
                clear hp hin hro hrq hbq hrd HRD HSEEN HST HBQ
                go_wp2_with fail
                exact ⟨⟨n + 1, by omega, by rw [HS2.out]; simp, by simp, HBQ2.out⟩, by simp [intOf]; omega⟩
              · have h3 : wq.cell? ⟨rq, 3, none⟩ = some (.int .u8 0) := by
                  have h := rdB_cell (i := 3) (x := 0) hrd (by rw [HPH.out n, if_neg hp]; rfl)
                  exact h
                have HS2 := Lib.hid (show cntB φ (n + 1) = cn by rw [HST.out, if_neg hp]; rfl)
                clear hp hro hrq hbq hrd HRD HSEEN HST HBQ
                go_wp2_with fail
                exact ⟨⟨n + 1, by omega, by rw [HS2.out], by simp, HBQ2.out⟩, by simp [intOf]; omega⟩
            · obtain rfl : n = 27 := by omega
              have HOKE := Lib.hid (HOK8.out.fr (Fr.of_below (S := []) HBQ.out) (by simp))
              have HBE := Lib.hid (HB58.out.trans (HBQ.out.mono HB58.out.size))
              have hnl : ns.length = ps.length := by have := HNS.out.length_eq; simpa using this
              have hnb : ∀ n ∈ ns, n < 27 := fun n h => by
                obtain ⟨x, q1, q2⟩ := List.mem_map.1 (HNS.out.mem_iff.1 h)
                have := HLT.out x q1; omega
              have hnd : ns.Nodup := HNS.out.nodup_iff.2 HND.out
              rcases HCS.out with hc | hc
              · rw [cntB_none hc 27]
                clear hc hnl hnb hnd
                go_wp2_with fail
                exact ⟨⟨j + 1, p8, g8, bs8, bm8, S', ops8, pg8, by omega, by simp, rfl, HOKE.out, HBE.out⟩, by simp [intOf]; omega⟩
              · by_cases hz : ps.length = 0
                · rw [show cntB φ 27 = 0 by rw [cntB_all hc hnd hnb, hnl, hz]]
                  clear hc hnl hnb hnd hz
                  go_wp2_with fail
                  exact ⟨⟨j + 1, p8, g8, bs8, bm8, S', ops8, pg8, by omega, by simp, rfl, HOKE.out, HBE.out⟩, by simp [intOf]; omega⟩
                · obtain ⟨m, hm⟩ : ∃ m, m = ps.length := ⟨_, rfl⟩
                  rw [show cntB φ 27 = m by rw [cntB_all hc hnd hnb, hnl, hm]]
                  have z0 : ¬ (m : Int) = 0 := by omega
                  have z2 : ((m : Int) != (ps.length : Int)) = false := by simp [hm]
                  have z3 : ((m : Int) != 0) = true := by simp; omega
                  clear hc hnl hnb hnd hz hm
                  go_wp2_with fail
                  first
                    | exact ⟨⟨j + 1, p8, g8, bs8, bm8, S', ops8, pg8, by omega, by simp, rfl, HOKE.out, HBE.out⟩, by simp [intOf]; omega⟩
                    | (refine ⟨?_, by simp [intOf]; omega⟩; (repeat apply Exists.intro); exact ⟨⟨j + 1, p8, g8, bs8, bm8, S', ops8, pg8, by omega, by simp, rfl, HOKE.out, HBE.out⟩, rfl⟩))
      · by_cases hjl : j < pl.length
        · have j0 : (j : Int) < (pl.length : Int) := by omega
          have j1 : ¬ (j : Int) < 6 := by omega
          have HBE := Lib.hid (HB5.out.trans (HBR.out.mono HB5.out.size))
          go_wp2_with fail
          go_ret
          exact ⟨rfl, HBE.out⟩
        · have j0 : ¬ (j : Int) < (pl.length : Int) := by omega
          have HBE := Lib.hid (HB5.out.trans (HBR.out.mono HB5.out.size))
          go_wp2_with fail
          go_ret
          exact ⟨rfl, HBE.out⟩
end Go.Proofs.Ytlkieepfjhiflaa
