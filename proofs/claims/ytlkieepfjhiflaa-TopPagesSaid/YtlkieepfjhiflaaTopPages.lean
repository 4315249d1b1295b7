/- The law TopPages: the walk. -/
import Derived.Test.YtlkieepfjhiflaaCNew
namespace Go.Proofs.Ytlkieepfjhiflaa
open Go.RowKit Go.ChangeMaps

/-- A slice of slices of bytes. -/
def RdPs (w : World) (v : Value) (vs : List Value) (ls : List (List UInt8)) : Prop := RdV w v vs ∧ vs.length = ls.length ∧ ∀ (i : Nat) (u : Value) (l : List UInt8), vs[i]? = some u → ls[i]? = some l → RdB w u l
/-- What is wanted of the pages: a byte of each. -/
def wantL (pg : Nat → List UInt8) : List UInt8 := (List.range 39).map fun n => (pg n).getD 7 0
theorem wantL_len (pg : Nat → List UInt8) : (wantL pg).length = 39 := by simp [wantL]
theorem wantL_at (pg : Nat → List UInt8) {n : Nat} (h : n < 39) : (wantL pg)[n]? = some ((pg n).getD 7 0) := by
  unfold wantL
  rw [List.getElem?_map, List.getElem?_range h]; rfl
theorem wantL_set (pg : Nat → List UInt8) (n : Nat) (l : List UInt8) : wantL (updF pg n l) = (wantL pg).set n (l.getD 7 0) := by
  refine List.ext_getElem (by simp [wantL]) fun i h1 h2 => ?_
  rw [List.getElem_set]
  simp only [wantL, List.getElem_map, List.getElem_range, updF]
  by_cases e : n = i
  · subst e; simp
  · rw [if_neg e, if_neg (fun q => e q.symm)]
theorem run_make39 (w : World) : (Instr.makeSlice 22 (.int .i64 39) (.int .i64 39)).run Try.prog w = .ok (.slice (some ⟨w.heap.size, 0, none⟩) 39 39) (w.alloc (.cells (zRowN 39) 5)) := run_makeB w 39 (by omega)
/-- While pages are written. -/
structure PgI (w wr : World) (wb c p db cb g bs bm dm cm : Nat) (rv : Value) (F : List Value) (df cf : Nat → Option Value) (pg cur : Nat → List UInt8) : Prop where
  st : CSt [] wr c p db cb g bs bm 20 39 2 dm cm rv [] F [] df cf pg cur
  nil : rv.ownBlock = none
  want : RowB wr wb (wantL cur)
  below : Below w.heap.size w wr
  new : w.heap.size ≤ wb ∧ w.heap.size ≤ c ∧ w.heap.size ≤ db ∧ w.heap.size ≤ cb ∧ w.heap.size ≤ g ∧ w.heap.size ≤ bs ∧ w.heap.size ≤ bm
theorem PgI.apart {w wr : World} {wb c p db cb g bs bm dm cm : Nat} {rv : Value} {F : List Value} {df cf : Nat → Option Value} {pg cur : Nat → List UInt8} (I : PgI w wr wb c p db cb g bs bm dm cm rv F df cf pg cur) : wb ≠ c ∧ wb ≠ p ∧ wb ≠ db ∧ wb ≠ cb ∧ wb ≠ g ∧ wb ≠ bs ∧ wb ≠ bm := by
  have hw : wr.heap[wb]? = _ := I.want
  have hc : wr.heap[c]? = _ := I.st.box
  obtain ⟨_, hp⟩ := I.st.log
  obtain ⟨T, D, _⟩ := I.st.disk
  obtain ⟨_, _, _, hg, _⟩ := D.box
  obtain ⟨_, hbs, _⟩ := D.row
  obtain ⟨_, hbm, _⟩ := D.map
  obtain ⟨_, _, hdb, _⟩ := I.st.dirty
  obtain ⟨_, _, hcb, _⟩ := I.st.clean
  exact ⟨ne_ty hw hc (by decide), ne_ty hw hp (by decide), ne_map hw hdb, ne_map hw hcb, ne_ty hw hg (by decide), ne_ty hw hbs (by decide), ne_map hw hbm⟩
theorem PgI.step {w wr : World} {wb c p db cb g bs bm dm cm : Nat} {rv : Value} {F : List Value} {df cf : Nat → Option Value} {pg cur : Nat → List UInt8} (I : PgI w wr wb c p db cb g bs bm dm cm rv F df cf pg cur) {n : Nat} (hn : n < 39) {L : List UInt8} {y : UInt8} (hy : L.getD 7 0 = y) {W5 w6 : World} (h5 : Fr [] wr W5) (h6 : Fr ([c, db, cb] ++ rv.ownBlock.toList) W5 w6) {rv' : Value} {dm' cm' : Nat} {df' cf' : Nat → Option Value} (ho : rv'.ownBlock = rv.ownBlock)
    (hs : CSt [] w6 c p db cb g bs bm 20 39 2 dm' cm' rv' [] F [] df' cf' pg (updF cur n L)) :
    w6.cell? ⟨wb, n, none⟩ = some (vB ((cur n).getD 7 0)) ∧ w6.frozen? ⟨wb, n, none⟩ = false ∧ PgI w (w6.setCell ⟨wb, n, none⟩ (vB y)) wb c p db cb g bs bm dm' cm' rv' F df' cf' pg (updF cur n L) := by
  obtain ⟨a1, a2, a3, a4, a5, a6, a7⟩ := I.apart
  have hw6 : RowB w6 wb (wantL cur) := (I.want.fr h5 (by simp)).fr h6 (by rw [I.nil]; simp [a1, a3, a4])
  have hsz : wr.heap.size ≤ w6.heap.size := Nat.le_trans h5.size h6.size
  have hnil : rv'.ownBlock = none := ho.trans I.nil
  have F7 := (Fr.refl [wb] w6).setCell (p := ⟨wb, n, none⟩) (.inl (by simp)) (vB y)
  have hnew := I.new
  refine ⟨hw6.cell n _ (wantL_at cur hn), hw6.free n, hs.fr F7 (fun k hk => ?_), hnil, ?_, ?_, I.new⟩
  · have hk' : k = wb := by simpa using hk
    rw [hk']
    refine .inr ⟨by unfold cSt; rw [hnil]; simp [a1, a2, a3, a4, a5, a6, a7], fun cs t fr e => ?_⟩
    have h : w6.heap[wb]? = _ := hw6
    rw [h] at e
    simp only [Option.some.injEq, Obj.cells.injEq] at e
    obtain ⟨rfl, rfl, _⟩ := e
    exact ⟨by decide, by decide, fun _ => .inr (by simp [wantL_len])⟩
  · rw [wantL_set, hy]
    exact hw6.set n y
  · refine (I.below.trans (h5.below I.below.size (by simp))).trans ((h6.below (Nat.le_trans I.below.size h5.size) (fun k hk => ?_)).trans (F7.below (Nat.le_trans I.below.size hsz) (by simp; omega)))
    rw [I.nil] at hk
    simp at hk; omega
theorem n8_plus (x : UInt8) (m : Nat) : n8 (x + UInt8.ofNat m) = (n8 x + (m : Int)) % 256 := by
  unfold n8
  rw [UInt8.toNat_add, UInt8.toNat_ofNat']
  omega
theorem row7 (y : UInt8) : zRow.setIfInBounds 7 (.int .u8 (n8 y)) = ((zBytes.set 7 y).map vB).toArray := by
  unfold zRow
  rw [List.setIfInBounds_toArray, List.map_set]; rfl
theorem set7_len (y : UInt8) : (zBytes.set 7 y).length = 512 := by rw [List.length_set]; exact zBytes_len
theorem set7_at (y : UInt8) : (zBytes.set 7 y)[7]? = some y := by
  rw [List.getElem?_set_self (by rw [zBytes_len]; omega)]
theorem crashed_nil {P S : List Value} (h : Crashed P [] S) : S = P :=
  List.ext_getElem? fun i => (h.2 i).elim id fun ⟨_, hm, _⟩ => by cases hm
theorem reopen_page (w5 w7 : World) {P S' : List Value} {cur : Nat → List UInt8} {g2 bs2 bm2 : Nat} (hE : Emp (Dat [] w5) 20 39 cur P) (hb : Below w5.heap.size w5 w7) (D7 : DiskAt w7 g2 bs2 bm2 S' [] S' []) (hcr : Crashed P [] S') (hP : P.length = 60) (h1 : w5.heap.size ≤ g2) (h2 : w5.heap.size ≤ bs2) (h3 : w5.heap.size ≤ bm2) :
    Calls Try.prog 20 #[.pointer (some ⟨g2, 0, none⟩), .int .i64 20] w7 fun e w8 => ∃ p g' bs' bm', e = .returned (.tuple #[.pointer (some ⟨p, 0, none⟩), .int .i64 0]) ∧ LogAt w8 p g' 20 ∧ DiskP w8 g' bs' bm' S' [] ∧ Emp (Dat [] w8) 20 39 cur S' ∧ S'.length = 60 ∧ Below w7.heap.size w7 w8 ∧ w7.heap.size ≤ p ∧ w7.heap.size ≤ g' ∧ w7.heap.size ≤ bs' ∧ w7.heap.size ≤ bm' := by
  obtain rfl := crashed_nil hcr
  have hE7 : Emp (Dat [g2, bs2, bm2] w7) 20 39 cur S' := hE.mono (fun v l h => RdN.fr (S := [g2, bs2, bm2]) (RdN.to h (fun k hk => .inr (by simp at hk; omega))) (Fr.of_below (S := []) hb) (by simp))
  obtain ⟨v, l, hv, hd, hh⟩ : ∃ v l, S'[0]? = some v ∧ Dat [g2, bs2, bm2] w7 v l ∧ (l = zBytes ∧ ([] : List Nat) = [] ∨ l = hdB []) := by
    rcases hE7.head with ⟨v, a, b⟩ | ⟨v, a, b⟩
    · exact ⟨v, _, a, b, .inl ⟨rfl, rfl⟩⟩
    · exact ⟨v, _, a, b, .inr rfl⟩
  refine (open_any w7 (s := 20) (M := 39) ⟨[], D7, rfl⟩ (by omega) hP (by omega) (by omega) (by omega) [] cur (by simp) (by simp) List.Pairwise.nil v l hv hd hh (by simp) (by simp)).mono ?_
  rintro e w8 ⟨p, g', bs', bm', rfl, O, h⟩
  rcases h with ⟨_, D'⟩ | ⟨h, _⟩
  · exact ⟨p, g', bs', bm', rfl, O.log, D', hE7.mono (fun v l h => RdN.to (RdN.fr h (Fr.of_below (S := []) O.below) (by simp)) (by simp)), hP, O.below, O.new⟩
  · exact absurd rfl h
set_option maxRecDepth 100000 in
set_option maxHeartbeats 16000000 in
theorem tpages_any (w : World) (v1 v3 : Value) (x : UInt8) (vs : List Value) (ls : List (List UInt8)) (lc : List UInt8) (h1 : RdPs w v1 vs ls) (h3 : RdB w v3 lc) :
    Calls Try.prog 6 #[v1, .int .u8 (n8 x), v3] w fun e w' => e = .returned (.bool true) ∧ Below w.heap.size w w' := by
  have H1 := Lib.hid h1; have H3 := Lib.hid h3
  obtain ⟨a1, c1, rfl, _⟩ := h1.1.open
  obtain ⟨a3, c3, rfl, _⟩ := RdB.open h3
  have HNW := Lib.hid (new_disk w 60 (by omega) (by omega))
  have hms := run_make39
  clear h1 h3
  obtain ⟨xi, hxi⟩ : ∃ i, i = n8 x := ⟨_, rfl⟩
  rw [← hxi]
  have HXI := Lib.hid hxi
  have xlo : 0 ≤ xi := by rw [hxi]; exact n8_lo x
  have xhi : xi ≤ 255 := by rw [hxi]; exact n8_hi x
  clear hxi
  go_enter Try.func6, Try.ntmps6
  go_wp2_with fail
  refine HNW.out.mono ?_
  rintro r w1 ⟨g0, bs0, bm0, F0, rfl, D0, hF0, hZ0, hb1, hg1, hg2, hg3⟩
  have hat : ∀ i, i < 60 → At (Dat [g0, bs0, bm0] w1) F0 i zBytes := fun i hi => ⟨F0[i]'(by omega), List.getElem?_eq_getElem (by omega), hZ0 _ (List.getElem_mem _)⟩
  have hE0 : Emp (Dat [g0, bs0, bm0] w1) 20 39 (fun _ => zBytes) F0 := ⟨hF0, .inl (hat 0 (by omega)), fun n hn => hat _ (by omega)⟩
  obtain ⟨v0, hv0, hd0⟩ := hat 0 (by omega)
  have HOP := Lib.hid (open_any w1 ⟨[], D0, rfl⟩ (s := 20) (M := 39) (by omega) hF0 (by omega) (by omega) (by omega) [] (fun _ => zBytes) (by simp) (by simp) List.Pairwise.nil v0 zBytes hv0 hd0 (.inl ⟨rfl, rfl⟩) (by simp) (by simp))
  have HB1 := Lib.hid hb1
  have HE0 := Lib.hid hE0; have HF0 := Lib.hid hF0
  clear D0 hZ0 hat hb1 hg1 hg2 hg3 HNW hE0 hv0 hd0 hF0
  go_wp2_with fail
  refine HOP.out.mono ?_
  rintro r w2 ⟨p, g, bs, bm, rfl, hO, hD⟩
  have hD2 : DiskP w2 g bs bm F0 [] := by
    rcases hD with ⟨_, h⟩ | ⟨h, _⟩
    · exact h
    · exact absurd rfl h
  have hE2 : Emp (Dat [] w2) 20 39 (fun _ => zBytes) F0 := HE0.out.mono (R' := Dat [] w2) (fun v l h => (RdN.to h (by simp)).fr (Fr.of_below (S := []) hO.below) (by simp))
  have HB2 := Lib.hid (HB1.out.trans (hO.below.mono HB1.out.size))
  have HNG := Lib.hid (show w.heap.size ≤ g ∧ w.heap.size ≤ bs ∧ w.heap.size ≤ bm by have := hO.new; have := HB1.out.size; omega)
  have HCN := Lib.hid (cnew_any w2 (most := 2) hO.log hD2 (Playable.nil _) rfl hE2 (fun _ _ => zBytes_len) (by rw [HF0.out]; omega) HF0.out (by omega) (by omega) (by omega))
  clear hO hD hD2 hE2 HOP HB1 HE0
  go_wp2_with fail
  refine HCN.out.mono ?_
  rintro r w3 ⟨c, db, cb, rfl, hc3, hb3, hcn, hdn, hbn⟩
  have HC3 := Lib.hid hc3
  have HB3 := Lib.hid (HB2.out.trans (hb3.mono HB2.out.size))
  have HNC := Lib.hid (show w.heap.size ≤ c ∧ w.heap.size ≤ db ∧ w.heap.size ≤ cb by have := HB2.out.size; omega)
  clear hc3 hb3 hcn hdn hbn HCN HB2
  go_upto_block 0 with fail
  have A4 := (Fr.refl [] w3).alloc (.cells (zRowN 39) 5)
  have I4 := Lib.hid (show PgI w (w3.alloc (.cells (zRowN 39) 5)) w3.heap.size c p db cb g bs bm 0 0 (.slice none 0 0) F0 (fun _ => none) (fun _ => none) (fun _ => zBytes) (fun _ => zBytes) from
    ⟨HC3.out.fr A4 (by simp), rfl, by
      have h := heap_alloc_new w3 (.cells (zRowN 39) 5)
      unfold RowB
      rw [h]
      have e : wantL (fun _ => zBytes) = List.replicate 39 0 := by decide +kernel
      rw [e]; rfl, HB3.out.trans (A4.below HB3.out.size (by simp)), by have := HNC.out; have := HNG.out; have := HB3.out.size; omega⟩)
  have hmk := run_makeSec
  clear A4 HC3 HB3 HNC HNG hms
  generalize w3.alloc (.cells (zRowN 39) 5) = w4 at *
  generalize w3.heap.size = wb at *
  go_wp2_with fail
  go_loopw [11, 14] (fun cv i wr => ∃ (j c db cb p g bs bm : Nat) (F : List Value) (pg : Nat → List UInt8), j ≤ 10 ∧ i = .int .i64 (j : Int) ∧ cv = .pointer (some ⟨c, 0, none⟩) ∧ PgI w wr wb c p db cb g bs bm 0 0 (.slice none 0 0) F (fun _ => none) (fun _ => none) pg pg) (fun _ i _ => (10 - intOf i).toNat)
  case atStart => exact ⟨0, c, db, cb, p, g, bs, bm, F0, _, by omega, by simp, rfl, I4.out⟩
  clear I4 HF0
  case round =>
    obtain ⟨j, c, db, cb, p, g, bs, bm, F, pg, hj, rfl, rfl, hI⟩ := hrel
    have HI := Lib.hid hI
    clear hI
    by_cases hin : j < vs.length ∧ j < 10
    · obtain ⟨hlt, hlt10⟩ := hin
      obtain ⟨u, hu⟩ : ∃ u, vs[j]? = some u := ⟨vs[j], List.getElem?_eq_getElem hlt⟩
      obtain ⟨lp, hlp⟩ : ∃ l, ls[j]? = some l := ⟨ls[j]'(by have := H1.out.2.1; omega), List.getElem?_eq_getElem _⟩
      have hru := H1.out.2.2 j u lp hu hlp
      obtain ⟨b, off, hx, hcell⟩ : ∃ b off, a1 = some ⟨b, off, none⟩ ∧ w.cell? ⟨b, off + j, none⟩ = some u := by
        obtain ⟨a', c', e, hc⟩ := H1.out.1.open
        simp only [Value.slice.injEq] at e
        rw [e.1]
        exact hc j u hu
      subst hx
      have HRU := Lib.hid hru
      obtain ⟨ua, uc, rfl, _⟩ := RdB.open hru
      have HCE := Lib.hid hcell
      have j0 : (j : Int) < (vs.length : Int) := by omega
      have j1 : (j : Int) < 10 := by omega
      clear hru hcell hu hlp
      go_wp2_with fail
      go_loopw [15] (fun k wr => ∃ (m dm cm : Nat) (rv : Value) (df cf : Nat → Option Value) (cur : Nat → List UInt8), m ≤ 15 ∧ dm ≤ m ∧ k = .int .i64 (m : Int) ∧ PgI w wr wb c p db cb g bs bm dm cm rv F df cf pg cur) (fun k _ => (15 - intOf k).toNat)
      case atStart => exact ⟨0, 0, 0, _, _, _, _, by omega, by omega, by simp, HI.out⟩
      clear HI
      case round =>
        obtain ⟨m, dm, cm, rv, df, cf, cur, hm15, hdm, rfl, hI⟩ := hrel
        have HI := Lib.hid hI
        clear hI
        have hcl := (HI.out.below.cell (p := ⟨b, off + j, none⟩) (block_lt_of_cell HCE.out)).trans HCE.out
        by_cases hin2 : m < lp.length ∧ m < 15
        · obtain ⟨hml, hm⟩ := hin2
          obtain ⟨q, hq⟩ : ∃ q, q = (lp[m]).toNat := ⟨_, rfl⟩
          obtain ⟨n, hn⟩ : ∃ n, n = q % 39 := ⟨_, rfl⟩
          have hn39 : n < 39 := by omega
          obtain ⟨b2, off2, hx2, hcl2⟩ : ∃ b2 off2, ua = some ⟨b2, off2, none⟩ ∧ wr.cell? ⟨b2, off2 + m, none⟩ = some (.int .u8 (q : Int)) := by
            obtain ⟨a', c', e', hc⟩ := RdB.open (HRU.out.below HI.out.below)
            simp only [Value.slice.injEq] at e'
            obtain ⟨b2, off2, hx, hcell⟩ := hc m hml
            rw [← e'.1] at hx
            exact ⟨b2, off2, hx, by rw [hcell, hq]; rfl⟩
          subst hx2
          have tq : (q : Int).tmod 39 = (n : Int) := by rw [Int.tmod_eq_emod_of_nonneg (by omega), hn]; omega
          have hq8 : (q : Int) < 256 := by have := (lp[m]).toNat_lt; omega
          have k0 : (m : Int) < (lp.length : Int) := by omega
          have k1 : (m : Int) < 15 := by omega
          have n0 : (n : Int) < 39 := by omega
          clear hq hn
          go_wp2_with fail
          obtain ⟨yi, hyi⟩ : ∃ yi, yi = (xi + (m : Int)) % 256 := ⟨_, rfl⟩
          rw [← hyi]
          have hy8 : yi = n8 (x + UInt8.ofNat m) := by rw [n8_plus, ← HXI.out]; exact hyi
          clear hyi
          obtain ⟨y, hy⟩ : ∃ y, y = x + UInt8.ofNat m := ⟨_, rfl⟩
          rw [← hy] at hy8
          have HY := Lib.hid hy8
          have hF5 : Fr [] wr (wr.alloc (.cells (zRow.setIfInBounds 7 (.int .u8 yi)) 5)) := (Fr.refl [] _).alloc _
          have hrow : RowB (wr.alloc (.cells (zRow.setIfInBounds 7 (.int .u8 yi)) 5)) wr.heap.size (zBytes.set 7 y) := by
            have h := heap_alloc_new wr (.cells (zRow.setIfInBounds 7 (.int .u8 yi)) 5)
            unfold RowB
            rw [h, hy8, row7]
          have HCW := Lib.hid (cwrite_any (HI.out.st.fr hF5 (by simp)) n hn39 (.slice (some ⟨wr.heap.size, 0, none⟩) 512 512) (zBytes.set 7 y) (by
            have h := hrow.rd 512 512 (by rw [set7_len]; omega) (by omega)
            rwa [List.take_of_length_le (by rw [set7_len]; omega)] at h) (set7_len y) (fun _ => by omega))
          have HF5 := Lib.hid hF5; have HROW := Lib.hid hrow
          clear hF5 hrow hy8 hy hcl hcl2 hq8 tq
          generalize wr.alloc (.cells (zRow.setIfInBounds 7 (.int .u8 yi)) 5) = W5 at *
          obtain ⟨rb, hrb⟩ : ∃ b, b = wr.heap.size := ⟨_, rfl⟩
          rw [← hrb] at HCW HROW ⊢
          have HRB := Lib.hid hrb
          clear hrb
          refine HCW.out.mono ?_
          rintro e w6 ⟨rfl, hf6, rv', dm', cm', df', cf', hob, hs6, _, hdm'⟩
          have hrb6 : RowB w6 rb (zBytes.set 7 y) := HROW.out.fr hf6 (by
            rw [HI.out.nil]
            have hl := HI.out.st.lt
            have e1 := hl c (by simp [cSt]); have e2 := hl db (by simp [cSt]); have e3 := hl cb (by simp [cSt])
            rw [HRB.out]
            simp; omega)
          have c7 : w6.cell? ⟨rb, 7, none⟩ = some (.int .u8 yi) := by
            have h := hrb6.cell 7 y (set7_at y)
            rw [HY.out]; exact h
          obtain ⟨cw, fw, hI7⟩ := HI.out.step hn39 (L := zBytes.set 7 y) (y := y) (by rw [List.getD_eq_getElem?_getD, set7_at]; rfl) HF5.out hf6 hob hs6
          have hvy : vB y = .int .u8 yi := by rw [HY.out]; rfl
          rw [hvy] at hI7
          have HI7 := Lib.hid hI7
          have HDM := Lib.hid (show dm' ≤ m + 1 by omega)
          clear hf6 hob hs6 hdm' hrb6 hI7 hvy HCW HROW HF5 HRU HCE HI
          obtain ⟨kv, hkv⟩ : ∃ kv : Int, vB ((cur n).getD 7 0) = .int .u8 kv := ⟨_, rfl⟩
          rw [hkv] at cw
          clear hkv
          go_wp2_with fail
          exact ⟨⟨m + 1, dm', cm', rv', df', cf', _, by omega, HDM.out, by simp, HI7.out⟩, by simp [intOf]; omega⟩
        · have hk15 : (15 : Int) < 16 := by omega
          have hdm20 : dm ≤ 20 := by omega
          have HCC := Lib.hid (ccommit_any HI.out.st (by simp) hdm20)
          have hout : m < lp.length ∧ ¬ m < 15 ∨ ¬ m < lp.length := by omega
          rcases hout with ⟨hml, hm⟩ | hml
          · have k0 : (m : Int) < (lp.length : Int) := by omega
            have k1 : ¬ (m : Int) < 15 := by omega
            go_wp2_with fail
            refine HCC.out.mono ?_
            rintro e w5 ⟨rfl, hf5, xs, hx5, hs5⟩
            rw [List.nil_append] at hs5
            have hap := HI.out.apart
            have hnw := HI.out.new
            have hW5 := HI.out.want.fr hf5 (by simp [hap.2.2.1, hap.2.2.2.2.1, hap.2.2.2.2.2.1, hap.2.2.2.2.2.2])
            have hB5 := HI.out.below.trans (hf5.below HI.out.below.size (by simp; omega))
            have HS5 := Lib.hid hs5; have HW5 := Lib.hid hW5; have HB5 := Lib.hid hB5
            have HLG := Lib.hid (clog_any w5 hs5.box)
            have hFl := hs5.size.1
            have HDK := Lib.hid (ldisk_any w5 hs5.log hs5.nilD (by rw [play_length]; omega) (by rw [play_length]; omega))
            have HPL := Lib.hid (show (play F xs).1.length = 60 by rw [play_length]; exact hFl)
            have HNW := Lib.hid hnw
            clear hf5 hs5 hap hnw hW5 hB5 HCC HI hcl
            go_wp2_with fail
            refine HLG.out.mono ?_
            rintro e w5' ⟨rfl, rfl⟩
            go_wp2_with fail
            refine HDK.out.mono ?_
            rintro r w6 ⟨g1, bs1, bm1, rfl, D6, hb6, hg1, hg2, hg3⟩
            have hB6 := HB5.out.trans (hb6.mono HB5.out.size)
            have HOPS := Lib.hid (show Calls Try.prog 23 #[.pointer (some ⟨g1, 0, none⟩)] w6 fun e w' => e = .returned (.int .i64 (xs.length : Int)) ∧ w' = w6 by
              have h := ops_any w6 D6
              rwa [List.length_map] at h)
            have HCR := Lib.hid (show Calls Try.prog 14 #[.pointer (some ⟨g1, 0, none⟩), .int .i64 (xs.length : Int), .slice a3 lc.length c3] w6 fun e w' => ∃ g' bs' bm' S', e = .returned (.pointer (some ⟨g', 0, none⟩)) ∧ DiskAt w' g' bs' bm' S' [] S' [] ∧ Crashed (play F xs).1 [] S' ∧ Below w6.heap.size w6 w' ∧ w6.heap.size ≤ g' ∧ w6.heap.size ≤ bs' ∧ w6.heap.size ≤ bm' by
              have h := crashed_any w6 D6 HS5.out.play (by omega) (by omega) (by omega) xs.length (Nat.le_refl _) (.slice a3 lc.length c3) lc (H3.out.below hB6) (by rw [List.take_length, HS5.out.wait]; simp)
              rwa [List.take_length, HS5.out.wait] at h)
            have HREO := Lib.hid (fun (w7 : World) (g2 bs2 bm2 : Nat) (S' : List Value) (D7 : DiskAt w7 g2 bs2 bm2 S' [] S' []) (hcr : Crashed (play F xs).1 [] S') (hb7 : Below w6.heap.size w6 w7) (q1 : w6.heap.size ≤ g2) (q2 : w6.heap.size ≤ bs2) (q3 : w6.heap.size ≤ bm2) =>
              reopen_page _ w7 HS5.out.emp (hb6.trans (hb7.mono hb6.size)) D7 hcr HPL.out (Nat.le_trans hb6.size q1) (Nat.le_trans hb6.size q2) (Nat.le_trans hb6.size q3))
            have HB6 := Lib.hid hB6
            have HW6 := Lib.hid (HW5.out.fr (Fr.of_below (S := []) hb6) (by simp))
            have HL5 := Lib.hid HS5.out.len5
            obtain ⟨N, hN⟩ : ∃ N, N = xs.length := ⟨_, rfl⟩
            rw [← hN] at HOPS HCR hx5
            clear hN hB6 D6 hb6 hg1 hg2 hg3 HDK HS5 HLG HW5 HB5 HPL hFl
            go_wp2_with fail
            refine HOPS.out.mono ?_
            rintro e w6' ⟨rfl, rfl⟩
            go_wp2_with fail
            refine HCR.out.mono ?_
            rintro e w7 ⟨g2, bs2, bm2, S', rfl, D7, hcr, hb7, q1, q2, q3⟩
            have HRO := Lib.hid (HREO.out w7 g2 bs2 bm2 S' D7 hcr hb7 q1 q2 q3)
            have HB7 := Lib.hid (HB6.out.trans (hb7.mono HB6.out.size))
            have HW7 := Lib.hid (HW6.out.fr (Fr.of_below (S := []) hb7) (by simp))
            clear D7 hcr hb7 q1 q2 q3 HREO HCR HB6 HW6 HOPS
            go_wp2_with fail
            refine HRO.out.mono ?_
            rintro e w8 ⟨p8, g8, bs8, bm8, rfl, hL8, hD8, hE8, hl8, hb8, n1, n2, n3, n4⟩
            have HCN := Lib.hid (cnew_any w8 (most := 2) hL8 hD8 (Playable.nil _) rfl hE8 (fun n hn => (HL5.out n hn).1) (by omega) hl8 (by omega) (by omega) (by omega))
            have HB8 := Lib.hid (HB7.out.trans (hb8.mono HB7.out.size))
            have HW8 := Lib.hid (HW7.out.fr (Fr.of_below (S := []) hb8) (by simp))
            have HN8 := Lib.hid (show w.heap.size ≤ g8 ∧ w.heap.size ≤ bs8 ∧ w.heap.size ≤ bm8 by have := HB7.out.size; omega)
            clear hL8 hD8 hE8 hl8 hb8 n1 n2 n3 n4 HRO HB7 HW7
            go_wp2_with fail
            refine HCN.out.mono ?_
            rintro r w9 ⟨c9, d9, e9, rfl, hs9, hb9, m1, m2, m3⟩
            have HI9 := Lib.hid (show PgI w w9 wb c9 p8 d9 e9 g8 bs8 bm8 0 0 (.slice none 0 0) S' (fun _ => none) (fun _ => none) cur cur from
              ⟨hs9, rfl, HW8.out.fr (Fr.of_below (S := []) hb9) (by simp), HB8.out.trans (hb9.mono HB8.out.size), by have := HB8.out.size; have := HN8.out; have := HNW.out; omega⟩)
            clear hs9 hb9 m1 m2 m3 HCN HB8 HW8 HN8
            go_wp2_with fail
            exact ⟨⟨j + 1, c9, d9, e9, p8, g8, bs8, bm8, S', cur, by omega, by simp, rfl, HI9.out⟩, by simp [intOf]; omega⟩
          · have k0 : ¬ (m : Int) < (lp.length : Int) := by omega
            go_wp2_with fail
            refine HCC.out.mono ?_
            rintro e w5 ⟨rfl, hf5, xs, hx5, hs5⟩
            rw [List.nil_append] at hs5
            have hap := HI.out.apart
            have hnw := HI.out.new
            have hW5 := HI.out.want.fr hf5 (by simp [hap.2.2.1, hap.2.2.2.2.1, hap.2.2.2.2.2.1, hap.2.2.2.2.2.2])
            have hB5 := HI.out.below.trans (hf5.below HI.out.below.size (by simp; omega))
            have HS5 := Lib.hid hs5; have HW5 := Lib.hid hW5; have HB5 := Lib.hid hB5
            have HLG := Lib.hid (clog_any w5 hs5.box)
            have hFl := hs5.size.1
            have HDK := Lib.hid (ldisk_any w5 hs5.log hs5.nilD (by rw [play_length]; omega) (by rw [play_length]; omega))
            have HPL := Lib.hid (show (play F xs).1.length = 60 by rw [play_length]; exact hFl)
            have HNW := Lib.hid hnw
            clear hf5 hs5 hap hnw hW5 hB5 HCC HI hcl
            go_wp2_with fail
            refine HLG.out.mono ?_
            rintro e w5' ⟨rfl, rfl⟩
            go_wp2_with fail
            refine HDK.out.mono ?_
            rintro r w6 ⟨g1, bs1, bm1, rfl, D6, hb6, hg1, hg2, hg3⟩
            have hB6 := HB5.out.trans (hb6.mono HB5.out.size)
            have HOPS := Lib.hid (show Calls Try.prog 23 #[.pointer (some ⟨g1, 0, none⟩)] w6 fun e w' => e = .returned (.int .i64 (xs.length : Int)) ∧ w' = w6 by
              have h := ops_any w6 D6
              rwa [List.length_map] at h)
            have HCR := Lib.hid (show Calls Try.prog 14 #[.pointer (some ⟨g1, 0, none⟩), .int .i64 (xs.length : Int), .slice a3 lc.length c3] w6 fun e w' => ∃ g' bs' bm' S', e = .returned (.pointer (some ⟨g', 0, none⟩)) ∧ DiskAt w' g' bs' bm' S' [] S' [] ∧ Crashed (play F xs).1 [] S' ∧ Below w6.heap.size w6 w' ∧ w6.heap.size ≤ g' ∧ w6.heap.size ≤ bs' ∧ w6.heap.size ≤ bm' by
              have h := crashed_any w6 D6 HS5.out.play (by omega) (by omega) (by omega) xs.length (Nat.le_refl _) (.slice a3 lc.length c3) lc (H3.out.below hB6) (by rw [List.take_length, HS5.out.wait]; simp)
              rwa [List.take_length, HS5.out.wait] at h)
            have HREO := Lib.hid (fun (w7 : World) (g2 bs2 bm2 : Nat) (S' : List Value) (D7 : DiskAt w7 g2 bs2 bm2 S' [] S' []) (hcr : Crashed (play F xs).1 [] S') (hb7 : Below w6.heap.size w6 w7) (q1 : w6.heap.size ≤ g2) (q2 : w6.heap.size ≤ bs2) (q3 : w6.heap.size ≤ bm2) =>
              reopen_page _ w7 HS5.out.emp (hb6.trans (hb7.mono hb6.size)) D7 hcr HPL.out (Nat.le_trans hb6.size q1) (Nat.le_trans hb6.size q2) (Nat.le_trans hb6.size q3))
            have HB6 := Lib.hid hB6
            have HW6 := Lib.hid (HW5.out.fr (Fr.of_below (S := []) hb6) (by simp))
            have HL5 := Lib.hid HS5.out.len5
            obtain ⟨N, hN⟩ : ∃ N, N = xs.length := ⟨_, rfl⟩
            rw [← hN] at HOPS HCR hx5
            clear hN hB6 D6 hb6 hg1 hg2 hg3 HDK HS5 HLG HW5 HB5 HPL hFl
            go_wp2_with fail
            refine HOPS.out.mono ?_
            rintro e w6' ⟨rfl, rfl⟩
            go_wp2_with fail
            refine HCR.out.mono ?_
            rintro e w7 ⟨g2, bs2, bm2, S', rfl, D7, hcr, hb7, q1, q2, q3⟩
            have HRO := Lib.hid (HREO.out w7 g2 bs2 bm2 S' D7 hcr hb7 q1 q2 q3)
            have HB7 := Lib.hid (HB6.out.trans (hb7.mono HB6.out.size))
            have HW7 := Lib.hid (HW6.out.fr (Fr.of_below (S := []) hb7) (by simp))
            clear D7 hcr hb7 q1 q2 q3 HREO HCR HB6 HW6 HOPS
            go_wp2_with fail
            refine HRO.out.mono ?_
            rintro e w8 ⟨p8, g8, bs8, bm8, rfl, hL8, hD8, hE8, hl8, hb8, n1, n2, n3, n4⟩
            have HCN := Lib.hid (cnew_any w8 (most := 2) hL8 hD8 (Playable.nil _) rfl hE8 (fun n hn => (HL5.out n hn).1) (by omega) hl8 (by omega) (by omega) (by omega))
            have HB8 := Lib.hid (HB7.out.trans (hb8.mono HB7.out.size))
            have HW8 := Lib.hid (HW7.out.fr (Fr.of_below (S := []) hb8) (by simp))
            have HN8 := Lib.hid (show w.heap.size ≤ g8 ∧ w.heap.size ≤ bs8 ∧ w.heap.size ≤ bm8 by have := HB7.out.size; omega)
            clear hL8 hD8 hE8 hl8 hb8 n1 n2 n3 n4 HRO HB7 HW7
            go_wp2_with fail
            refine HCN.out.mono ?_
            rintro r w9 ⟨c9, d9, e9, rfl, hs9, hb9, m1, m2, m3⟩
            have HI9 := Lib.hid (show PgI w w9 wb c9 p8 d9 e9 g8 bs8 bm8 0 0 (.slice none 0 0) S' (fun _ => none) (fun _ => none) cur cur from
              ⟨hs9, rfl, HW8.out.fr (Fr.of_below (S := []) hb9) (by simp), HB8.out.trans (hb9.mono HB8.out.size), by have := HB8.out.size; have := HN8.out; have := HNW.out; omega⟩)
            clear hs9 hb9 m1 m2 m3 HCN HB8 HW8 HN8
            go_wp2_with fail
            exact ⟨⟨j + 1, c9, d9, e9, p8, g8, bs8, bm8, S', cur, by omega, by simp, rfl, HI9.out⟩, by simp [intOf]; omega⟩
    · have HNC := Lib.hid (And.intro HI.out.new.2.1 HI.out.new.2.2.2.1)
      have hout : j < vs.length ∧ ¬ j < 10 ∨ ¬ j < vs.length := by omega
      rcases hout with ⟨hlt, hlt10⟩ | hlt
      · have j0 : (j : Int) < (vs.length : Int) := by omega
        have j1 : ¬ (j : Int) < 10 := by omega
        go_wp2_with fail
        go_loopw [19] (fun i wq => ∃ (n : Nat) (A : List Nat) (cm : Nat) (rv : Value) (row : List Nat) (cf : Nat → Option Value), n ≤ 39 ∧ i = .int .i64 (n : Int) ∧ CSt A wq c p db cb g bs bm 20 39 2 0 cm rv row F [] (fun _ => none) cf pg pg ∧ RowB wq wb (wantL pg) ∧ Below w.heap.size w wq ∧ ∀ k ∈ rv.ownBlock.toList, w.heap.size ≤ k) (fun i _ => (39 - intOf i).toNat)
        case atStart => exact ⟨0, [], 0, .slice none 0 0, [], fun _ => none, by omega, by simp, HI.out.st, HI.out.want, HI.out.below, by simp [Value.ownBlock]⟩
        case round =>
          obtain ⟨n, A, cm, rv, row, cf, hn, rfl, hs, hwt, hb, ho⟩ := hrel
          by_cases hlt : n < 39
          · have HRD := Lib.hid (cread_any hs n hlt w.heap.size hb.size HNC.out.1 HNC.out.2 ho)
            have HWT := Lib.hid hwt; have HB := Lib.hid hb
            have hL := (hs.len5 n hlt).1
            have HSB := Lib.hid hs.box; have HSC := Lib.hid hs.clean
            have n0 : (n : Int) < 39 := by omega
            clear hs hwt hb ho
            go_wp2_with fail
            refine HRD.out.mono ?_
            rintro e w2 ⟨q, cap, rfl, hq, hown, hfi, hbl, rv', cm', row', cf', ho', hs'⟩
            have hne : wb ∉ [c, cb] := by
              have h1 : wr.heap[wb]? = _ := HWT.out
              have h2 : wr.heap[c]? = _ := HSB.out
              obtain ⟨_, _, h3, _⟩ := HSC.out
              simp [ne_ty h1 h2 (by decide), ne_map h1 h3]
            have hwt2 : RowB w2 wb (wantL pg) := FrI.heap hfi hne (by decide) HWT.out
            have cw := hwt2.cell n _ (wantL_at pg hlt)
            have hrd : RdB w2 (.slice (some ⟨q, 0, none⟩) 512 cap) (pg n) := by
              have h := RdV_of_owns hown
              exact h
            have h7 : (pg n)[7]? = some ((pg n).getD 7 0) := by
              rw [List.getD_eq_getElem?_getD, List.getElem?_eq_getElem (by omega)]; rfl
            have cq := rdB_cell (i := 7) hrd h7
            rw [Nat.zero_add] at cq
            obtain ⟨kv, hkv⟩ : ∃ kv : Int, vB ((pg n).getD 7 0) = .int .u8 kv := ⟨_, rfl⟩
            rw [hkv] at cw cq
            have HE := Lib.hid (show CSt (q :: A) w2 c p db cb g bs bm 20 39 2 0 cm' rv' row' F [] (fun _ => none) cf' pg pg ∧ RowB w2 wb (wantL pg) ∧ Below w.heap.size w w2 ∧ ∀ k ∈ rv'.ownBlock.toList, w.heap.size ≤ k from ⟨hs', hwt2, HB.out.trans hbl, ho'⟩)
            have hcap : 512 ≤ cap := by
              rcases hrd with ⟨h, _⟩ | ⟨a, cap', h, hle, _⟩
              · cases h
              · simp only [Value.slice.injEq] at h
                rw [h.2.2]; rw [List.length_map, hL] at hle; exact hle
            clear hq hown hfi hbl ho' hs' hne hwt2 hrd h7 hkv HRD HWT HB HSB HSC
            go_wp2_with fail
            refine wp_region_quiet_lit (by kernel_rfl) (by kernel_rfl) ?_
            repeat (go_big_quiet_step (fail))
            refine wpQuiet_nil ?_
            intro w' hw'
            obtain ⟨nq, rfl⟩ := hw'
            have HEN := Lib.hid (show CSt (q :: A) (w2.drewN nq) c p db cb g bs bm 20 39 2 0 cm' rv' row' F [] (fun _ => none) cf' pg pg ∧ RowB (w2.drewN nq) wb (wantL pg) ∧ Below w.heap.size w (w2.drewN nq) ∧ ∀ k ∈ rv'.ownBlock.toList, w.heap.size ≤ k from
              ⟨HE.out.1.fr (Fr.drewN (S := []) w2 nq) (by simp), HE.out.2.1.fr (Fr.drewN (S := []) w2 nq) (by simp), HE.out.2.2.1.trans ((Fr.drewN (S := []) w2 nq).below HE.out.2.2.1.size (by simp)), HE.out.2.2.2⟩)
            clear HE
            go_wp2_with fail
            exact ⟨⟨n + 1, q :: A, cm', rv', row', cf', by omega, by simp, HEN.out⟩, by simp [intOf]; omega⟩
          · obtain rfl : n = 39 := by omega
            have HB := Lib.hid hb
            clear hs hwt hb ho
            go_wp2_with fail
            go_ret
            exact ⟨rfl, HB.out⟩
      · have j0 : ¬ (j : Int) < (vs.length : Int) := by omega
        go_wp2_with fail
        go_loopw [19] (fun i wq => ∃ (n : Nat) (A : List Nat) (cm : Nat) (rv : Value) (row : List Nat) (cf : Nat → Option Value), n ≤ 39 ∧ i = .int .i64 (n : Int) ∧ CSt A wq c p db cb g bs bm 20 39 2 0 cm rv row F [] (fun _ => none) cf pg pg ∧ RowB wq wb (wantL pg) ∧ Below w.heap.size w wq ∧ ∀ k ∈ rv.ownBlock.toList, w.heap.size ≤ k) (fun i _ => (39 - intOf i).toNat)
        case atStart => exact ⟨0, [], 0, .slice none 0 0, [], fun _ => none, by omega, by simp, HI.out.st, HI.out.want, HI.out.below, by simp [Value.ownBlock]⟩
        case round =>
          obtain ⟨n, A, cm, rv, row, cf, hn, rfl, hs, hwt, hb, ho⟩ := hrel
          by_cases hlt : n < 39
          · have HRD := Lib.hid (cread_any hs n hlt w.heap.size hb.size HNC.out.1 HNC.out.2 ho)
            have HWT := Lib.hid hwt; have HB := Lib.hid hb
            have hL := (hs.len5 n hlt).1
            have HSB := Lib.hid hs.box; have HSC := Lib.hid hs.clean
            have n0 : (n : Int) < 39 := by omega
            clear hs hwt hb ho
            go_wp2_with fail
            refine HRD.out.mono ?_
            rintro e w2 ⟨q, cap, rfl, hq, hown, hfi, hbl, rv', cm', row', cf', ho', hs'⟩
            have hne : wb ∉ [c, cb] := by
              have h1 : wr.heap[wb]? = _ := HWT.out
              have h2 : wr.heap[c]? = _ := HSB.out
              obtain ⟨_, _, h3, _⟩ := HSC.out
              simp [ne_ty h1 h2 (by decide), ne_map h1 h3]
            have hwt2 : RowB w2 wb (wantL pg) := FrI.heap hfi hne (by decide) HWT.out
            have cw := hwt2.cell n _ (wantL_at pg hlt)
            have hrd : RdB w2 (.slice (some ⟨q, 0, none⟩) 512 cap) (pg n) := by
              have h := RdV_of_owns hown
              exact h
            have h7 : (pg n)[7]? = some ((pg n).getD 7 0) := by
              rw [List.getD_eq_getElem?_getD, List.getElem?_eq_getElem (by omega)]; rfl
            have cq := rdB_cell (i := 7) hrd h7
            rw [Nat.zero_add] at cq
            obtain ⟨kv, hkv⟩ : ∃ kv : Int, vB ((pg n).getD 7 0) = .int .u8 kv := ⟨_, rfl⟩
            rw [hkv] at cw cq
            have HE := Lib.hid (show CSt (q :: A) w2 c p db cb g bs bm 20 39 2 0 cm' rv' row' F [] (fun _ => none) cf' pg pg ∧ RowB w2 wb (wantL pg) ∧ Below w.heap.size w w2 ∧ ∀ k ∈ rv'.ownBlock.toList, w.heap.size ≤ k from ⟨hs', hwt2, HB.out.trans hbl, ho'⟩)
            have hcap : 512 ≤ cap := by
              rcases hrd with ⟨h, _⟩ | ⟨a, cap', h, hle, _⟩
              · cases h
              · simp only [Value.slice.injEq] at h
                rw [h.2.2]; rw [List.length_map, hL] at hle; exact hle
            clear hq hown hfi hbl ho' hs' hne hwt2 hrd h7 hkv HRD HWT HB HSB HSC
            go_wp2_with fail
            refine wp_region_quiet_lit (by kernel_rfl) (by kernel_rfl) ?_
            repeat (go_big_quiet_step (fail))
            refine wpQuiet_nil ?_
            intro w' hw'
            obtain ⟨nq, rfl⟩ := hw'
            have HEN := Lib.hid (show CSt (q :: A) (w2.drewN nq) c p db cb g bs bm 20 39 2 0 cm' rv' row' F [] (fun _ => none) cf' pg pg ∧ RowB (w2.drewN nq) wb (wantL pg) ∧ Below w.heap.size w (w2.drewN nq) ∧ ∀ k ∈ rv'.ownBlock.toList, w.heap.size ≤ k from
              ⟨HE.out.1.fr (Fr.drewN (S := []) w2 nq) (by simp), HE.out.2.1.fr (Fr.drewN (S := []) w2 nq) (by simp), HE.out.2.2.1.trans ((Fr.drewN (S := []) w2 nq).below HE.out.2.2.1.size (by simp)), HE.out.2.2.2⟩)
            clear HE
            go_wp2_with fail
            exact ⟨⟨n + 1, q :: A, cm', rv', row', cf', by omega, by simp, HEN.out⟩, by simp [intOf]; omega⟩
          · obtain rfl : n = 39 := by omega
            have HB := Lib.hid hb
            clear hs hwt hb ho
            go_wp2_with fail
            go_ret
            exact ⟨rfl, HB.out⟩
end Go.Proofs.Ytlkieepfjhiflaa
