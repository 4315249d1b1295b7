/- The closure of Write. -/
import Derived.Test.YtcblfkojkdaepaaGreatWrite
namespace Go.Proofs.YtcblfkojkdaepaaGreat
open Go.RowKit Go.ChangeMaps
section
variable {K : Kx} {A S : List Nat} {w : World} {N dm mb sb : Nat} {pg cur : Nat → List UInt8}
/-- While bytes are written: a of n. -/
structure WrI (K : Kx) (A S : List Nat) (N : Nat) (pg : Nat → List UInt8) (c1 : List UInt8) (p1 : Nat) (w wr : World) (b1 b2 b3 gb n a : Nat) (l : List Int) (c : Nat → List UInt8) : Prop where
  le : a ≤ n
  al : a % 512 = 0 ∨ a = n
  pos : wr.heap[b2]? = some (.cells #[.int .i64 (a : Int)] 3 (0, 0))
  row : ∃ off, (a < n → off = a) ∧ wr.heap[b3]? = some (.cells #[.slice (some ⟨gb, off, none⟩) (n - a) (n - a)] 46 (0, 0))
  op : OpB wr b1 l
  dat : wr.heap[gb]? = some (.cells (zRowN n) 5 (0, 0))
  st : StpB K A N pg [b1, b2, b3] S w wr c
  k1 : c 1 = c1
  k2 : c 2 = bmL p1
set_option maxRecDepth 100000 in
set_option maxHeartbeats 4000000 in
theorem write1_any [KAny K] (x : CX K A w N S pg cur dm) (m : MpAt w K mb) (so : SoAt w sb mb) (i n p0 b0 b1 b2 b3 gb : Nat) (hi : i < 16) (hn : 0 < n) (hn6 : n ≤ 6000) (hp5 : 5 ≤ p0) (hp : p0 ≤ 59) (hc : cur 2 = bmL p0)
    (h0 : w.heap[b0]? = some (.cells #[.pointer (some ⟨sb, 0, none⟩)] 36 (0, 0))) (hO : OpB w b1 (opN i)) (h2 : w.heap[b2]? = some (.cells #[.int .i64 0] 3 (0, 0))) (h3 : w.heap[b3]? = some (.cells #[.slice (some ⟨gb, 0, none⟩) n n] 46 (0, 0))) (hg : w.heap[gb]? = some (.cells (zRowN n) 5 (0, 0)))
    (hb2 : b2 ∉ S) (hb2p : b2 ≠ K.p) :
    Calls Tryz.prog 36 #[.pointer (some ⟨b0, 0, none⟩), .pointer (some ⟨b1, 0, none⟩), .pointer (some ⟨b2, 0, none⟩), .pointer (some ⟨b3, 0, none⟩)] w fun e w2 =>
      (e = .returned (.tuple #[]) ∧ ∃ c, StpB K A N pg [b1, b2, b3] S w w2 c ∧ p0 + needs n ≤ 59 ∧ c 1 = cur 1 ∧ c 2 = bmL (p0 + needs n)) ∨ (e = .panicked [{ v := faultV, recovered := false }] ∧ 59 < p0 + needs n ∧ ∃ c, StpB K A N pg [b1, b2, b3] S w w2 c) := by
  have HRS := Lib.hid (resize_any x m so b1 i n p0 hO hi hn hn6 hp5 hp hc)
  have c0 := so.c0
  have k0 := (cell_of_row _ b0 0 _ _ _ h0).trans (rfl : _ = some (Value.pointer (some ⟨sb, 0, none⟩)))
  have k1 := hO.cell 3 0 rfl
  have k2 := (cell_of_row _ b2 0 _ _ _ h2).trans (rfl : _ = some (Value.int .i64 0))
  have k3 := (cell_of_row _ b3 0 _ _ _ h3).trans (rfl : _ = some (Value.slice (some ⟨gb, 0, none⟩) n n))
  have HB0 := Lib.hid (x.ne h0 (by decide) (by decide) (fun e => absurd e (by decide)) (by decide))
  have HB1 := Lib.hid (x.ne hO.1 (by decide) (by decide) (fun e => absurd e (by decide)) (by decide))
  have HB3 := Lib.hid (x.ne h3 (by decide) (by decide) (fun _ => by simp) (by decide))
  have HGB := Lib.hid (x.ne hg (by decide) (by decide) (fun e => absurd e (by decide)) (by decide))
  have HP1 := Lib.hid (x.nep hO.1 (by decide)); have HP3 := Lib.hid (x.nep h3 (by decide))
  have HX := Lib.hid x; have HM := Lib.hid m; have HSO := Lib.hid so
  have H0 := Lib.hid h0; have HO := Lib.hid hO; have H2 := Lib.hid h2; have H3 := Lib.hid h3; have HG := Lib.hid hg; have HB2 := Lib.hid hb2; have HP2 := Lib.hid hb2p
  have nI : (n : Int) ≤ 6000 := by omega
  have n0 : (0 : Int) < (n : Int) := by omega
  clear x m so hc h0 hO h2 h3 hg hb2 hb2p
  go_enter Tryz.func36, Tryz.ntmps36
  go_wp2_with fail
  refine HRS.out.mono ?_
  rintro e w2 ⟨c, l, hs, hO2, ⟨hfit, rfl, hL, hc1, hc2⟩ | ⟨hfit, rfl⟩⟩
  · have hN1 : ∀ b, b ≠ b1 → b ∉ S → b ∉ [b1] ++ S := fun b h1 h2 hm => by simp at hm; exact hm.elim h1 h2
    have n2 := ne_ty H2.out HO.out.1 (by decide)
    have n3 := ne_ty H3.out HO.out.1 (by decide)
    have ng := ne_ty HG.out HO.out.1 (by decide)
    have HW := Lib.hid (show WrI K A S N pg (cur 1) (p0 + needs n) w w2 b1 b2 b3 gb n 0 l c from
      ⟨by omega, .inl rfl, hs.1.heap (hN1 _ n2 HB2.out) H2.out, ⟨0, fun _ => rfl, hs.1.heap (hN1 _ n3 HB3.out) H3.out⟩, hO2, hs.1.heap (hN1 _ ng HGB.out) HG.out, hs.more (by simp), hc1, by rw [needs_tk]; exact hc2⟩)
    have HL := Lib.hid hL; have HFIT := Lib.hid hfit
    have hL1 := (Array.getElem?_eq_some_iff.1 HO.out.1).1; have hL2 := (Array.getElem?_eq_some_iff.1 H2.out).1; have hL3 := (Array.getElem?_eq_some_iff.1 H3.out).1; have hLg := (Array.getElem?_eq_some_iff.1 HG.out).1; have hL0 := (Array.getElem?_eq_some_iff.1 H0.out).1
    have HL1 := Lib.hid hL1; have HL2 := Lib.hid hL2; have HL3 := Lib.hid hL3; have HLG := Lib.hid hLg; have HL0 := Lib.hid hL0
    have HN2 := Lib.hid n2; have HN3 := Lib.hid n3; have HNG := Lib.hid ng
    have HN0 := Lib.hid (ne_ty H0.out HO.out.1 (by decide))
    have HN02 := Lib.hid (ne_ty H0.out H2.out (by decide)); have HN03 := Lib.hid (ne_ty H0.out H3.out (by decide))
    have HN23 := Lib.hid (ne_ty H2.out H3.out (by decide)); have HNG2 := Lib.hid (ne_ty HG.out H2.out (by decide)); have HNG3 := Lib.hid (ne_ty HG.out H3.out (by decide))
    clear hN1 n2 n3 ng hs hO2 hL hc1 hc2 hfit hL1 hL2 hL3 hLg hL0 HRS k0 k1 k2 k3 c0
    go_wp2_with fail
    go_loopw [7] (fun _ wr => ∃ (a : Nat) (c : Nat → List UInt8), WrI K A S N pg (cur 1) (p0 + needs n) w wr b1 b2 b3 gb n a l c) (fun _ wr => n - (match wr.cell? ⟨b2, 0, none⟩ with | some (.int _ v) => v.toNat | _ => 0))
    case atStart => exact ⟨0, _, HW.out⟩
    case round =>
      obtain ⟨a, c, hw⟩ := hrel
      clear HW
      obtain ⟨off, hoff, hrow⟩ := hw.row
      have k3 := (cell_of_row _ b3 0 _ _ _ hrow).trans (rfl : _ = some (Value.slice (some ⟨gb, off, none⟩) (n - a) (n - a)))
      have k2 := (cell_of_row _ b2 0 _ _ _ hw.pos).trans (rfl : _ = some (Value.int .i64 (a : Int)))
      have r0 := hw.st.1.heap (by simp; exact ⟨HN0.out, HN02.out, HN03.out, HB0.out⟩) H0.out
      have k0 := (cell_of_row _ b0 0 _ _ _ r0).trans (rfl : _ = some (Value.pointer (some ⟨sb, 0, none⟩)))
      have HW := Lib.hid hw
      have so1 := HSO.out.stpB HX.out (by simp; exact ⟨ne_ty HSO.out HO.out.1 (by decide), ne_ty HSO.out H2.out (by decide), ne_ty HSO.out H3.out (by decide)⟩) hw.st
      have m1 := HM.out.stpB HX.out (by simp; exact ⟨ne_ty HM.out HO.out.1 (by decide), ne_ty HM.out H2.out (by decide), ne_ty HM.out H3.out (by decide)⟩) hw.st
      have c0 := so1.c0
      have HSO1 := Lib.hid so1; have HM1 := Lib.hid m1
      clear r0 so1 m1
      by_cases hlt : a < n
      · have hj : ∃ j, j = a / 512 := ⟨_, rfl⟩
        obtain ⟨j, hj⟩ := hj
        have hal : a % 512 = 0 := by have := hw.al; omega
        have hjI : (a : Int) / 512 = (j : Int) := by omega
        have hmI : (a : Int) % 512 = 0 := by omega
        have hjp : j < pgs n := by unfold pgs; omega
        have HSL := Lib.hid (slot_any wr b1 j (by unfold pgs at hjp; omega))
        obtain ⟨pn, hpn, hp5', hp59⟩ := HL.out.slot j hjp
        have ks := hw.op.cell _ _ hpn
        have hlt' : 0 < n - a := by omega
        have HLT := Lib.hid hlt
        have aI : (a : Int) ≤ 6000 := by omega
        have HPN := Lib.hid (And.intro hp5' hp59)
        rw [hoff hlt] at k3 hrow
        have HROW := Lib.hid hrow
        clear hw hj hal hjp hpn hlt hp5' hp59 hoff hrow
        go_wp2_with fail
        refine HSL.out.mono ?_
        rintro e wr' ⟨rfl, rfl⟩
        clear HSL
        have HCA := Lib.hid (acache_any wr' HM1.out)
        obtain ⟨Sx, dmx, xx, hnx, hgo⟩ := HW.out.st.open
        have HRD := Lib.hid (rdx_any xx pn HPN.out.2)
        have HGO := Lib.hid (fun (A' : List Nat) (w' : World) (c' : Nat → List UInt8) (h : Stp K A' N pg Sx wr' w' c') => hgo h)
        have HNX := Lib.hid hnx
        clear xx hgo hnx
        go_wp2_with fail
        refine HCA.out.mono ?_
        rintro e wr2 ⟨rfl, rfl⟩
        go_wp2_with fail
        refine HRD.out.mono ?_
        rintro e w3 ⟨q, cap, rfl, hq, ho, hs3⟩
        have HZ := Lib.hid HW.out.st.size
        have HP3 := Lib.hid (show PgO w3 _ q cap (c pn) from ho)
        have HS3 := Lib.hid (HGO.out _ _ _ hs3)
        have HF3 := Lib.hid hs3.1
        have HQ := Lib.hid hq
        have HB := Lib.hid (fun b (h1 : b < w.heap.size) (h2 : b ∉ S) => HNX.out b h1 h2)
        have g3 := hs3.1.heap (HB.out b3 HL3.out HB3.out) HROW.out
        have g2 := hs3.1.heap (HB.out b2 HL2.out HB2.out) HW.out.pos
        have kk3 := (cell_of_row _ b3 0 _ _ _ g3).trans (rfl : _ = some (Value.slice (some ⟨gb, a, none⟩) (n - a) (n - a)))
        have kk2 := (cell_of_row _ b2 0 _ _ _ g2).trans (rfl : _ = some (Value.int .i64 (a : Int)))
        have hcap := HP3.out.cap
        have hcapI : (512 : Int) ≤ (cap : Int) := by omega
        clear hq ho hs3 HCA HRD g2 g3 k0 k2 k3 c0 ks
        go_wp2_with fail
        refine wp_region_qtail_lit 5 (by kernel_rfl) (by kernel_rfl) ?_
        simp only [List.take_succ_cons, List.take_zero, List.drop_succ_cons, List.drop_zero]
        repeat go_big_quiet_step (fail)
        refine wpQuiet_nil ?_
        intro w' hw'
        obtain ⟨nq, rfl⟩ := hw'
        have F4 := Fr.drewN (S := []) w3 nq
        have HP4 := Lib.hid (HP3.out.kept F4 (by simp))
        have HS4 := Lib.hid (HS3.out.fr0 F4)
        have HF4 := Lib.hid (HF3.out.trans (F4.mono (by simp)))
        clear F4 HP3 HS3 HF3 kk2 kk3
        generalize w3.drewN nq = w4 at *
        have hg4 := HF4.out.heap (HB.out gb HLG.out HGB.out) HW.out.dat
        refine wpList_copyP rfl _ _ rfl _ q cap gb a (n - a) (n - a) _ rfl rfl HP4.out (fun j hj => zrowN_at hg4 a j (by have := HW.out.le; omega)) ?_
        intro w5 L' hP5 hF5
        have HK5 : Hid (∀ b o, b < w.heap.size → b ∉ S → wr2.heap[b]? = some o → w5.heap[b]? = some o) := Lib.hid fun b o h1 h2 h => hF5.heap (by simp; have := HQ.out; have := HZ.out; omega) (HF4.out.heap (HB.out b h1 h2) h)
        have HS5 := Lib.hid (HP4.out.turnA HS4.out (Nat.le_trans HZ.out HQ.out) hF5)
        have HP5 := Lib.hid hP5
        have r0 := HW.out.st.1.heap (by simp; exact ⟨HN0.out, HN02.out, HN03.out, HB0.out⟩) H0.out
        have k05 := (cell_of_row _ b0 0 _ _ _ (HK5.out b0 _ HL0.out HB0.out r0)).trans (rfl : _ = some (Value.pointer (some ⟨sb, 0, none⟩)))
        obtain ⟨S6, dm6, x6, hn6', hgo6⟩ := HS5.out.open
        have m6 := HM.out.stpB HX.out (by simp; exact ⟨ne_ty HM.out HO.out.1 (by decide), ne_ty HM.out H2.out (by decide), ne_ty HM.out H3.out (by decide)⟩) HS5.out
        have so6 := HSO.out.stpB HX.out (by simp; exact ⟨ne_ty HSO.out HO.out.1 (by decide), ne_ty HSO.out H2.out (by decide), ne_ty HSO.out H3.out (by decide)⟩) HS5.out
        have HIW := Lib.hid (iwrite_any x6 m6 so6 pn HPN.out.2 _ _ HP5.out.rd HP5.out.len)
        have HGO6 := Lib.hid (fun (A' : List Nat) (w' : World) (c' : Nat → List UInt8) (h : Stp K A' N pg S6 w5 w' c') => hgo6 h)
        have HN6 := Lib.hid hn6'
        clear hP5 hF5 hg4 r0 x6 m6 so6 hgo6 hn6' HP4 HS4 HF4
        obtain ⟨kk, hkk⟩ : ∃ k, k = Nat.min (n - a) 512 := ⟨_, rfl⟩
        rw [← hkk]
        have hkk1 : kk ≤ n - a := by rw [hkk]; exact Nat.min_le_left _ _
        have hkk2 : kk ≤ 512 := by rw [hkk]; exact Nat.min_le_right _ _
        have hkk3 : kk = 512 ∨ kk = n - a := by rw [hkk]; have : Nat.min (n - a) 512 = min (n - a) 512 := rfl; omega
        have HKK := Lib.hid (And.intro hkk1 (And.intro hkk2 hkk3))
        clear hkk hkk1 hkk2 hkk3
        go_wp2_with fail
        refine HIW.out.mono ?_
        rintro e w6 ⟨rfl, hs6⟩
        have HS6 := Lib.hid ((HGO6.out _ _ _ hs6).anti (fun k hk => List.mem_cons_of_mem _ hk))
        have HK6 : Hid (∀ b o, b < w.heap.size → b ∉ S → wr2.heap[b]? = some o → w6.heap[b]? = some o) := Lib.hid fun b o h1 h2 h => hs6.1.heap (HN6.out b h1 h2) (HK5.out b o h1 h2 h)
        clear HIW HGO6 HN6 HK5 HS5 HP5 k05 hs6
        have g2 := HK6.out b2 _ HL2.out HB2.out HW.out.pos
        have g3 := HK6.out b3 _ HL3.out HB3.out HROW.out
        have k2 := (cell_of_row _ b2 0 _ _ _ g2).trans (rfl : _ = some (Value.int .i64 (a : Int)))
        have f2 := frozen_of_row w6 b2 0 _ _ g2
        have F7 : Fr [b2] w6 (w6.setCell ⟨b2, 0, none⟩ (.int .i64 ((a : Int) + (kk : Int)))) := (Fr.refl [b2] w6).setCell (p := ⟨b2, 0, none⟩) (.inl (by simp)) _
        have g27 := heap_setCell_same w6 b2 0 _ _ (.int .i64 ((a : Int) + (kk : Int))) g2
        have g37 := F7.heap (by simpa using fun e => HN23.out e.symm) g3
        have k3 := (cell_of_row _ b3 0 _ _ _ g37).trans (rfl : _ = some (Value.slice (some ⟨gb, a, none⟩) (n - a) (n - a)))
        have f3 := frozen_of_row _ b3 0 _ _ g37
        have hkI : (kk : Int) ≤ 512 := by have := HKK.out; omega
        have hkN : kk ≤ n - a := HKK.out.1
        have HF7 := Lib.hid F7; have HG27 := Lib.hid g27; have HG37 := Lib.hid g37; have HG2 := Lib.hid g2
        clear g2 g3 F7 g27 g37
        go_wp2_with fail
        rw [show (if n - a = kk then some (⟨gb, a, none⟩ : Addr) else some ⟨gb, a + kk, none⟩) = some ⟨gb, if n - a = kk then a else a + kk, none⟩ by split <;> rfl]
        obtain ⟨of2, hof2⟩ : ∃ o, o = if n - a = kk then a else a + kk := ⟨_, rfl⟩
        rw [← hof2]
        have F8 : Fr [b3] (w6.setCell ⟨b2, 0, none⟩ (.int .i64 ((a : Int) + (kk : Int)))) ((w6.setCell ⟨b2, 0, none⟩ (.int .i64 ((a : Int) + (kk : Int)))).setCell ⟨b3, 0, none⟩ (.slice (some ⟨gb, of2, none⟩) (n - a - kk) (n - a - kk))) := (Fr.refl [b3] _).setCell (p := ⟨b3, 0, none⟩) (.inl (by simp)) _
        have g38 := heap_setCell_same _ b3 0 _ _ (.slice (some ⟨gb, of2, none⟩) (n - a - kk) (n - a - kk)) HG37.out
        have g28 := F8.heap (by simpa using HN23.out) HG27.out
        have c28 := (cell_of_row _ b2 0 _ _ _ g28).trans (rfl : _ = some (Value.int .i64 ((a : Int) + (kk : Int))))
        have cw := (cell_of_row _ b2 0 _ _ _ HW.out.pos).trans (rfl : _ = some (Value.int .i64 (a : Int)))
        have e1 : ((a : Int) + (kk : Int)) = ((a + kk : Nat) : Int) := by omega
        have hkk := HKK.out
        have hlt := HLT.out
        rw [c28, cw]
        refine ⟨⟨a + kk, updF c pn L', ⟨by omega, ?_, by rw [← e1]; exact g28, ⟨of2, fun h => by rw [hof2, if_neg (by omega)], by rw [← Nat.sub_sub]; exact g38⟩, ⟨F8.heap (by simpa using ne_ty HO.out.1 H3.out (by decide)) (HF7.out.heap (by simpa using ne_ty HO.out.1 H2.out (by decide)) (HK6.out b1 _ HL1.out HB1.out HW.out.op.1)), HW.out.op.2⟩, F8.heap (by simpa using HNG3.out) (HF7.out.heap (by simpa using HNG2.out) (HK6.out gb _ HLG.out HGB.out HW.out.dat)), ?_, ?_, ?_⟩⟩, ?_⟩
        · have := HW.out.al; omega
        · exact (HS6.out.turn (by simp) HF7.out HL2.out HB2.out HP2.out (Bok.of HG2.out (fun e => absurd e (by decide)) (by decide) (fun e => absurd e (by decide)))).turn (by simp) F8 HL3.out HB3.out HP3.out (Bok.of HG37.out (fun _ => by simp) (by decide) (fun e => absurd e (by decide)))
        · unfold updF; rw [if_neg (by have := HPN.out; omega)]; exact HW.out.k1
        · unfold updF; rw [if_neg (by have := HPN.out; omega)]; exact HW.out.k2
        · simp only; omega
      · obtain rfl : a = n := by have := hw.le; omega
        rw [Nat.sub_self] at k3
        obtain ⟨S6, dm6, x6, hn6', hgo6⟩ := hw.st.open
        obtain ⟨pq, h14, hq⟩ := HL.out.ind
        have HSV := Lib.hid (save_any x6 HM1.out HSO1.out i hi l HL.out.len HL.out.num HL.out.kind HL.out.bnd pq h14 hq)
        have HGO6 := Lib.hid (fun (w' : World) (c' : Nat → List UInt8) (h : Stp K A N pg S6 wr w' c') => hgo6 h)
        have HOP := Lib.hid hw.op
        clear hw x6 hn6' hgo6 h14 hq hrow hoff k2
        go_wp2_with (refine wpList_load_row rfl _ _ rfl b1 rfl 93 (opR l) (0, 0) _ HOP.out.1 Tryz.underlying93 rfl (by rw [open_info, opR_size, HOP.out.2]) ?_)
        refine HSV.out.mono ?_
        rintro e w6 ⟨rfl, c6, hs6, hc1, hc2, _⟩
        have HS6 := Lib.hid (HGO6.out _ _ hs6)
        have HC1 := Lib.hid (hc1.trans HW.out.k1); have HC2 := Lib.hid (hc2.trans HW.out.k2)
        clear hs6 hc1 hc2 HSV HGO6
        go_wp2_with fail
        go_end0
        exact .inl ⟨rfl, c6, HS6.out, by rw [needs_tk]; exact HFIT.out, HC1.out, HC2.out⟩
  · have HS := Lib.hid hs; have HFI := Lib.hid hfit
    clear hs hO2 HRS k0 k1 k2 k3 c0 hfit
    go_wp2_with fail
    simp only [bodyPost]
    exact ⟨trivial, (by exact .inr ⟨trivial, by rw [needs_tk]; exact HFI.out, _, HS.out.more (by simp)⟩)⟩
end
end Go.Proofs.YtcblfkojkdaepaaGreat
/- Write, of zeros, into a file that has just been made. -/
namespace Go.Proofs.YtcblfkojkdaepaaGreat
open Go.RowKit Go.ChangeMaps
section
variable {K : Kx} {A S : List Nat} {w : World} {N dm mb sb : Nat} {pg cur : Nat → List UInt8}
theorem StpB.close4 {Bx S2 : List Nat} {w1 w2 w3 w' : World} {c : Nat → List UInt8} (h0 : Fr [] w w1) (f12 : Fr S w1 w2) (hS2 : ∀ k ∈ S2, k ∈ S ∨ w1.heap.size ≤ k) (f23 : Fr [] w2 w3) (s : StpB K A N pg Bx S2 w3 w' c) (hB : ∀ b ∈ Bx, w.heap.size ≤ b) : Stp K A N pg S w w' c := by
  obtain ⟨f, Si, dmi, hS, x⟩ := s
  have z1 := h0.size
  have fa : Fr S w w3 := (((h0.mono (by simp) : Fr S w w1).then f12 (fun k hk => .inl hk)).trans (f23.mono (by simp)))
  refine ⟨fa.then f (fun k hk => ?_), Si, dmi, fun k hk => ?_, x⟩
  · rcases List.mem_append.1 hk with hk | hk
    · exact .inr (hB k hk)
    · exact (hS2 k hk).imp id (fun h => by omega)
  · rcases hS k hk with h | h
    · exact (hS2 k h).imp id (fun h => by omega)
    · exact .inr (Nat.le_trans fa.size h)
theorem alloc3 (w : World) (o0 o1 o2 : Obj) : (((w.alloc o0).alloc o1).alloc o2).heap[w.heap.size]? = some o0 ∧ (((w.alloc o0).alloc o1).alloc o2).heap[w.heap.size + 1]? = some o1 ∧ (((w.alloc o0).alloc o1).alloc o2).heap[w.heap.size + 2]? = some o2 := by
  have z1 : (w.alloc o0).heap.size = w.heap.size + 1 := by simp
  have z2 : ((w.alloc o0).alloc o1).heap.size = w.heap.size + 2 := by simp
  have h1 := heap_alloc_new (w.alloc o0) o1
  have h2 := heap_alloc_new ((w.alloc o0).alloc o1) o2
  rw [z1] at h1
  rw [z2] at h2
  exact ⟨heap_more (heap_more (heap_alloc_new w o0) _) _, heap_more h1 _, h2⟩
set_option maxRecDepth 100000 in
set_option maxHeartbeats 4000000 in
theorem write_any [KAny K] (x : CX K A w N S pg cur dm) (m : MpAt w K mb) (so : SoAt w sb mb) (i0 i n p0 gb : Nat) (hi : 0 < i) (hii : i < i0) (hi16 : i0 ≤ 16) (hc1 : cur 1 = bmL i0) (henc : ∀ t, t < 64 → (cur (3 + i / 8))[i % 8 * 64 + t]? = encI[t]?) (hn : 0 < n) (hn6 : n ≤ 6000) (hp5 : 5 ≤ p0) (hp : p0 ≤ 59) (hc : cur 2 = bmL p0) (hg : w.heap[gb]? = some (.cells (zRowN n) 5 (0, 0))) :
    Calls Tryz.prog 12 #[.pointer (some ⟨sb, 0, none⟩), .int .i64 (i : Int), .int .i64 0, .slice (some ⟨gb, 0, none⟩) n n] w fun e w' =>
      (e = .returned (.int .i64 0) ∧ p0 + needs n ≤ 59 ∧ ∃ c, Stp K A N pg S w w' c ∧ c 1 = cur 1 ∧ c 2 = bmL (p0 + needs n)) ∨ (e = .returned (.int .i64 7) ∧ 59 < p0 + needs n ∧ Stp (Kz K) A N pg S w w' pg) := by
  have hmf : ∀ (fn : Fn) (first cap : Array Value) (w : World), (Instr.makeFunc fn first cap).run Tryz.prog w = .ok (.func fn first cap) w := fun _ _ _ _ => rfl
  obtain ⟨w1, hw1⟩ : ∃ w1, w1 = ((w.alloc (.cells #[.pointer (some ⟨sb, 0, none⟩)] 36)).alloc (.cells #[.int .i64 0] 3)).alloc (.cells #[.slice (some ⟨gb, 0, none⟩) n n] 46) := ⟨_, rfl⟩
  have A1 : Fr [] w w1 := by rw [hw1]; exact (((Fr.refl [] w).alloc _).alloc _).alloc _
  have z : w1.heap.size = w.heap.size + 3 := by rw [hw1]; simp
  obtain ⟨r0, r2, r3⟩ := alloc3 w (.cells #[.pointer (some ⟨sb, 0, none⟩)] 36) (.cells #[.int .i64 0] 3) (.cells #[.slice (some ⟨gb, 0, none⟩) n n] 46)
  rw [← hw1] at r0 r2 r3
  have x1 := x.fr0 A1
  have m1 := m.fr A1 (by simp)
  have so1 := so.fr A1 (by simp)
  have HLD := Lib.hid (load_any x1 m1 so1 i0 i hi hii hi16 hc1 henc)
  have HSl := Lib.hid (show ∀ b, w.heap.size ≤ b → b ∉ S from fun b hb hm => by have := x.lt b hm; omega)
  have HPL := Lib.hid x.plt
  have HX1 := Lib.hid x1; have HM1 := Lib.hid m1; have HSO1 := Lib.hid so1; have HA1 := Lib.hid A1; have HZ := Lib.hid z
  have R0 := Lib.hid r0; have R2 := Lib.hid r2; have R3 := Lib.hid r3; have HG1 := Lib.hid (A1.heap (by simp) hg)
  have HC := Lib.hid hc
  have HGN := Lib.hid (x.ne hg (by decide) (by decide) (fun e => absurd e (by decide)) (by decide))
  have k0 := (cell_of_row _ _ 0 _ _ _ r0).trans (rfl : _ = some (Value.pointer (some ⟨sb, 0, none⟩)))
  have nI : (n : Int) ≤ 6000 := by omega
  have n0 : (0 : Int) < (n : Int) := by omega
  clear x m so A1 z r0 r2 r3 x1 m1 so1 hc hc1 henc hg
  go_enter Tryz.func12, Tryz.ntmps12
  rw [hw1] at k0
  go_wp2_with fail
  rw [← hw1]
  rw [← hw1] at k0
  clear hw1
  refine HLD.out.mono ?_
  rintro e w2 ⟨rfl, hs⟩
  obtain ⟨b0, hb0⟩ : ∃ b, b = w.heap.size := ⟨_, rfl⟩
  obtain ⟨b2, hb2⟩ : ∃ b, b = w.heap.size + 1 := ⟨_, rfl⟩
  obtain ⟨b3, hb3⟩ : ∃ b, b = w.heap.size + 2 := ⟨_, rfl⟩
  have HBE := Lib.hid (And.intro hb0 (And.intro hb2 hb3))
  rw [← hb2] at R2
  rw [← hb3] at R3
  rw [show w.heap.size + 1 + 1 = b3 from hb3.symm]
  rw [← hb2]
  rw [← hb0] at R0 k0 ⊢
  clear hb0 hb2 hb3
  obtain ⟨f12, S2, dm2, hS2, x2⟩ := hs
  have hnS : ∀ b, b < w1.heap.size → w.heap.size ≤ b → b ∉ S2 := fun b h1 h2 hm => (hS2 b hm).elim (HSl.out b h2) (fun h => by omega)
  obtain ⟨w3, hw3⟩ : ∃ w3, w3 = (w2.alloc (.cells Tryz.zeroCells93 93)).setRow w2.heap.size (opR (opN i)) := ⟨_, rfl⟩
  have O2 : OpB (w2.alloc (.cells Tryz.zeroCells93 93)) w2.heap.size (List.replicate 144 0) := ⟨by rw [heap_alloc_new, opR_zero], by simp⟩
  have O3 : OpB w3 w2.heap.size (opN i) := by rw [hw3]; exact O2.row _ (opN_len i)
  have f23 : Fr [] w2 w3 := by rw [hw3]; exact ((Fr.refl [] w2).alloc _).then (op_frow _ _ _ rfl) (fun k hk => .inr (by simp at hk; omega))
  have hrow := O2.1
  obtain ⟨b1, hb1⟩ : ∃ b, b = w2.heap.size := ⟨_, rfl⟩
  have x3 := x2.fr0 f23
  have z12 := f12.size
  have hbe := HBE.out
  have hz := HZ.out
  have n0' := hnS b0 (by omega) (by omega)
  have n2' := hnS b2 (by omega) (by omega)
  have n3' := hnS b3 (by omega) (by omega)
  have hS1 : ∀ b, w.heap.size ≤ b → b ∉ S := HSl.out
  have q0 := f23.heap (by simp) (f12.heap (hS1 b0 (by omega)) R0.out)
  have q2 := f23.heap (by simp) (f12.heap (hS1 b2 (by omega)) R2.out)
  have q3 := f23.heap (by simp) (f12.heap (hS1 b3 (by omega)) R3.out)
  have qg := f23.heap (by simp) (f12.heap HGN.out HG1.out)
  have m3 := (HM1.out.fr f12 (HM1.out.off HX1.out)).fr f23 (by simp)
  have so3 := (HSO1.out.fr f12 (HSO1.out.off HX1.out)).fr f23 (by simp)
  have z23 : w3.heap.size = w2.heap.size + 1 := by rw [hw3]; simp [World.setRow]
  have hpl := HPL.out
  rw [← hb1] at O3
  have hS1b : b1 ∉ S2 := fun hm => by have := x2.lt b1 hm; omega
  have HTR := Lib.hid (try_any (Bx := [b1, b2, b3]) x3 m3 so3 36 #[.pointer (some ⟨b0, 0, none⟩), .pointer (some ⟨b1, 0, none⟩), .pointer (some ⟨b2, 0, none⟩), .pointer (some ⟨b3, 0, none⟩)] (fun c _ => p0 + needs n ≤ 59 ∧ c 1 = cur 1 ∧ c 2 = bmL (p0 + needs n)) (fun _ => 59 < p0 + needs n)
    (fun b hb => by simp at hb; rcases hb with rfl | rfl | rfl <;> assumption) (fun _ _ _ h _ _ => h) (fun args w => enter_of Tryz.func36 (by kernel_rfl) (by rfl) args w)
    (by simp; exact ⟨ne_ty m3 O3.1 (by decide), ne_ty m3 q2 (by decide), ne_ty m3 q3 (by decide)⟩) (by simp; exact ⟨ne_ty so3 O3.1 (by decide), ne_ty so3 q2 (by decide), ne_ty so3 q3 (by decide)⟩) (fun b hb => by simp at hb; rcases hb with rfl | rfl | rfl <;> omega) (fun _ _ _ h _ => h)
    (fun W hF => write1_any (x3.fr0 hF) (m3.fr hF (by simp)) (so3.fr hF (by simp)) i n p0 b0 b1 b2 b3 gb (by omega) hn hn6 hp5 hp HC.out (hF.heap (by simp) q0) (O3.fr hF (by simp)) (hF.heap (by simp) q2) (hF.heap (by simp) q3) (hF.heap (by simp) qg) n2' (by omega)))
  have kk0 := (cell_of_row _ _ 0 _ _ _ q0).trans (rfl : _ = some (Value.pointer (some ⟨sb, 0, none⟩)))
  have kk2 := (cell_of_row _ _ 0 _ _ _ q2).trans (rfl : _ = some (Value.int .i64 0))
  have kk3 := (cell_of_row _ _ 0 _ _ _ q3).trans (rfl : _ = some (Value.slice (some ⟨gb, 0, none⟩) n n))
  have HW3 := Lib.hid hw3; have HROW := Lib.hid hrow; have HB1 := Lib.hid hb1
  have HF12 := Lib.hid f12; have HS2 := Lib.hid hS2; have HF23 := Lib.hid f23
  have HBB := Lib.hid (show ∀ b ∈ [b1, b2, b3], w.heap.size ≤ b from fun b hb => by simp at hb; rcases hb with rfl | rfl | rfl <;> omega)
  clear hw3 hrow hb1 f12 hS2 f23 O2 O3 x2 x3 z12 hbe hz n0' n2' n3' hS1 q0 q2 q3 qg m3 so3 z23 hpl hS1b hnS k0 HLD
  go_wp2_with (refine wpList_store_row rfl _ _ _ rfl w2.heap.size (opR (opN i)) rfl rfl 93 _ HROW.out (by rw [open_info, opR_size, opN_len]) (by rw [opR_size, opR_size, opN_len]; simp) (opR_one _) ?_; rw [← HW3.out, ← HB1.out])
  refine HTR.out.mono ?_
  rintro e w4 (⟨rfl, c, hs4, h1, h2, h3⟩ | ⟨rfl, h1, hs4⟩)
  · have hfin := StpB.close4 HA1.out HF12.out HS2.out HF23.out hs4 HBB.out
    have HF := Lib.hid hfin; have H1 := Lib.hid h1; have H2 := Lib.hid h2; have H3 := Lib.hid h3
    clear hfin hs4 h1 h2 h3 HTR kk0 kk2 kk3
    go_wp2_with fail
    go_ret
    exact .inl ⟨rfl, H1.out, c, HF.out, H2.out, H3.out⟩
  · have hfin := StpB.close4 HA1.out HF12.out HS2.out HF23.out hs4 HBB.out
    have HF := Lib.hid hfin; have H1 := Lib.hid h1
    clear hfin hs4 h1 HTR kk0 kk2 kk3
    go_wp2_with fail
    go_ret
    exact .inr ⟨rfl, H1.out, HF.out⟩
end
end Go.Proofs.YtcblfkojkdaepaaGreat
