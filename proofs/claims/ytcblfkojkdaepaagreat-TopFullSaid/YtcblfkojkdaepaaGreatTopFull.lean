/- A disk that runs full. -/
import Derived.Test.YtcblfkojkdaepaaGreatAMake
namespace Go.Proofs.YtcblfkojkdaepaaGreat
open Go.RowKit Go.ChangeMaps
theorem CX.pd {K : Kx} {A S : List Nat} {w : World} {N dm : Nat} {pg cur : Nat → List UInt8} (h : CX K A w N S pg cur dm) : K.pd dm := by
  obtain ⟨_, _, _, _, _, _, _, _, _, h⟩ := h
  exact h
/-- What a call needs, and what it gives, be it the same cache or one that has no dirty page. -/
theorem StpB.openT {K : Kx} {A Bx S : List Nat} {w1 wi : World} {N : Nat} {pg cur : Nat → List UInt8} (s : StpB K A N pg Bx S w1 wi cur) : ∃ Si dmi, CX K A wi N Si pg cur dmi ∧ (∀ b, b < w1.heap.size → b ∉ S → b ∉ Si) ∧ ∀ {K' : Kx} {A' : List Nat} {w' : World} {cur' : Nat → List UInt8}, Stp K' A' N pg Si wi w' cur' → StpB K' A' N pg Bx S w1 w' cur' := by
  obtain ⟨f, Si, dmi, hS, x⟩ := s
  refine ⟨Si, dmi, x, fun b hb hn hm => (hS b hm).elim hn (fun h => by omega), fun {K' A' w' cur'} t => ?_⟩
  obtain ⟨f2, S2, dm2, h2, x2⟩ := t
  refine ⟨f.then f2 (fun k hk => (hS k hk).imp (fun h => List.mem_append_right _ h) id), S2, dm2, fun k hk => ?_, x2⟩
  rcases h2 k hk with h | h
  · exact hS k h
  · exact .inr (Nat.le_trans f.size h)
/-- No page is dirty: the row of their numbers is empty. -/
theorem none_dirty {w : World} {B n : Nat} {v : Value} {ns : List Nat} (h : w.ownsRow B 3 1 v ns.length (ns.map fun (n : Nat) => Value.int .i64 (n : Int))) (hl : ns.length = n) (hn : n = 0) : ∃ p c, v = .slice p 0 c := by
  have h0 : ns.length = 0 := by omega
  rw [h0] at h
  rcases h.2 with ⟨h', _⟩ | ⟨g, cap', cur, h', _⟩
  · exact ⟨_, _, h'⟩
  · exact ⟨_, _, h'⟩
/-- While the disk fills: t files are made. -/
structure FuI (K : Kx) (w wr : World) (mb sb sz t : Nat) (S : List Nat) (cu : Nat → List UInt8) : Prop where
  x : CX K [] wr (1000 * (t + 1)) S cu cu 0
  m : MpAt wr K mb
  so : SoAt wr sb mb
  c1 : cu 1 = bmL (1 + t)
  c2 : cu 2 = bmL (5 + t * needs sz)
  le : 5 + t * needs sz ≤ 59
  below : Below w.heap.size w wr
  ge : ∀ b ∈ S, w.heap.size ≤ b
set_option maxRecDepth 100000 in
set_option maxHeartbeats 16000000 in
theorem tfull_any (w : World) (nv : Nat) (hnv : nv < 65536) :
    Calls Tryz.prog 3 #[.int .u16 (nv : Int)] w fun e w' => e = .returned (.bool true) ∧ Below w.heap.size w w' := by
  have HNW := Lib.hid (new_disk w 160 (by omega) (by omega))
  have nI : (nv : Int) < 65536 := by omega
  go_enter Tryz.func3, Tryz.ntmps3
  go_wp2_with fail
  refine HNW.out.mono ?_
  rintro r w1 ⟨g0, bs0, bm0, F0, rfl, D0, hF0, hZ0, hb1, hg1, hg2, hg3⟩
  have hat : ∀ i, i < 160 → At (Dat [g0, bs0, bm0] w1) F0 i zBytes := fun i hi => ⟨F0[i]'(by omega), List.getElem?_eq_getElem (by omega), hZ0 _ (List.getElem_mem _)⟩
  have hE0 : Emp (Dat [g0, bs0, bm0] w1) 100 59 (fun _ => zBytes) F0 := ⟨hF0, .inl (hat 0 (by omega)), fun n hn => hat _ (by omega)⟩
  obtain ⟨v0, hv0, hd0⟩ := hat 0 (by omega)
  have HOP := Lib.hid (open_any w1 ⟨[], D0, rfl⟩ (s := 100) (M := 59) (by omega) hF0 (by omega) (by omega) (by omega) [] (fun _ => zBytes) (by simp) (by simp) List.Pairwise.nil v0 zBytes hv0 hd0 (.inl ⟨rfl, rfl⟩) (by simp) (by simp))
  have HB1 := Lib.hid hb1
  have HE0 := Lib.hid hE0; have HF0 := Lib.hid hF0
  clear D0 hZ0 hat hb1 hg1 hg2 hg3 HNW hE0 hv0 hd0 hF0
  go_wp2_with fail
  refine HOP.out.mono ?_
  rintro r w2 ⟨p, g, bs, bm, rfl, hO, hD⟩
  have hD2 : DiskP w2 g bs bm F0 [] := by
    rcases hD with ⟨_, h⟩ | ⟨h, _⟩
    · exact h
    · exact absurd rfl h
  have hE2 : Emp (Dat [] w2) 100 59 (fun _ => zBytes) F0 := HE0.out.mono (R' := Dat [] w2) (fun v l h => (RdN.to h (by simp)).fr (Fr.of_below (S := []) hO.below) (by simp))
  have HB2 := Lib.hid (HB1.out.trans (hO.below.mono HB1.out.size))
  have HNG := Lib.hid (show w.heap.size ≤ g ∧ w.heap.size ≤ bs ∧ w.heap.size ≤ bm by have := hO.new; have := HB1.out.size; omega)
  have HCN := Lib.hid (cnew_any w2 (most := 8) hO.log hD2 (Playable.nil _) rfl hE2 (fun _ _ => zBytes_len) (by rw [HF0.out]; omega) HF0.out (by omega) (by omega) (by omega))
  clear hO hD hD2 hE2 HOP HB1 HE0
  go_wp2_with fail
  refine HCN.out.mono ?_
  rintro r w3 ⟨c, db, cb, rfl, hc3, hb3, hcn, hdn, hbn⟩
  have HB3 := Lib.hid (HB2.out.trans (hb3.mono HB2.out.size))
  have hNC : w.heap.size ≤ c ∧ w.heap.size ≤ db ∧ w.heap.size ≤ cb := by have := HB2.out.size; omega
  obtain ⟨K, hK⟩ : ∃ K : Kx, K = ⟨c, p, db, cb, g, bs, bm, F0, fun _ => True⟩ := ⟨_, rfl⟩
  haveI hKA : KAny K := ⟨fun _ => by rw [hK]; trivial⟩
  obtain ⟨S, hS⟩ : ∃ S, S = [K.c, K.db, K.cb, K.g, K.bs, K.bm] := ⟨_, rfl⟩
  have hSw : ∀ b ∈ S, w.heap.size ≤ b := fun b hb => by
    rw [hS, hK] at hb
    have := HNG.out
    simp at hb
    omega
  have x3 : CX K [] w3 0 S (fun _ => zBytes) (fun _ => zBytes) 0 := by
    rw [hS, hK]
    exact ⟨0, .slice none 0 0, [], [], fun _ => none, fun _ => none, hc3, Nat.le_refl _, by simp [Value.ownBlock], trivial⟩
  have HAM := Lib.hid (amake_any x3)
  have HX3 := Lib.hid x3; have HSW := Lib.hid hSw
  rw [show c = K.c by rw [hK]]
  clear hc3 hb3 hcn hdn hbn HCN HB2 hNC x3 hSw hS hK HNG HF0
  go_wp2_with fail
  refine HAM.out.mono ?_
  rintro r w4 ⟨mb, c4, rfl, hmb, hm4, hs4, h41, h42⟩
  have HNS := Lib.hid (newS_any w4 mb)
  have HM4 := Lib.hid hm4; have HS4 := Lib.hid hs4; have H41 := Lib.hid h41; have H42 := Lib.hid h42
  clear hmb hm4 hs4 h41 h42 HAM
  go_wp2_with fail
  refine HNS.out.mono ?_
  rintro r w5 ⟨rfl, hw5⟩
  have A5 : Fr [] w4 w5 := by rw [hw5]; exact (Fr.refl [] w4).alloc _
  have hso5 : SoAt w5 w4.heap.size mb := by rw [hw5]; exact heap_alloc_new w4 _
  have s5 := HS4.out.snoc0 A5
  obtain ⟨f5, S5, dm5, hS5, x5⟩ := s5
  have HCM := Lib.hid (cmx_any x5 (by omega))
  have HM5 := Lib.hid (HM4.out.fr A5 (by simp)); have HSO5 := Lib.hid hso5
  have HX5 := Lib.hid x5; have HF5 := Lib.hid f5; have HS5 := Lib.hid hS5
  clear hw5 A5 hso5 f5 hS5 x5 HNS
  go_wp2_with fail
  refine HCM.out.mono ?_
  rintro r w6 ⟨rfl, hf6, hx6⟩
  have HM6 := Lib.hid (HM5.out.fr hf6 (HM5.out.off HX5.out)); have HSO6 := Lib.hid (HSO5.out.fr hf6 (HSO5.out.off HX5.out))
  have HFU := Lib.hid (show ∀ sz, FuI K w w6 mb w4.heap.size sz 0 S5 c4 from fun sz => ⟨by simpa using hx6, HM6.out, HSO6.out, by rw [H41.out], by rw [H42.out, Nat.zero_mul], by omega, HB3.out.trans ((HF5.out.then hf6 (fun b hb => HS5.out b hb)).below HB3.out.size (fun b hb => HSW.out b hb)), fun b hb => (HS5.out b hb).elim (HSW.out b) (fun h => Nat.le_trans HB3.out.size h)⟩)
  obtain ⟨sz, hsz⟩ : ∃ z, z = nv % 6000 + 1 := ⟨_, rfl⟩
  have hszI : (nv : Int) % 6000 + 1 = (sz : Int) := by omega
  have hsz6 : 0 < sz ∧ sz ≤ 6000 := by omega
  clear hsz hf6 hx6 HCM
  go_wp2_with fail
  clear HX5 HF5 HS5 HM6 HSO6 HM5 HSO5 HM4 HS4 H41 H42 HX3 HSW HB3
  generalize w4.heap.size = sb at *
  go_loopw [15, 14] (fun kv dv wr => ∃ (t : Nat) (cu : Nat → List UInt8) (Sx : List Nat), t ≤ 15 ∧ kv = .int .i64 (t : Int) ∧ dv = .int .i64 (t : Int) ∧ FuI K w wr mb sb sz t Sx cu) (fun kv _ _ => ((16 : Int) - intOf kv).toNat)
  case atStart => exact ⟨0, _, _, by omega, rfl, rfl, HFU.out sz⟩
  case round =>
    obtain ⟨t, cu, Sx, ht, rfl, rfl, hI⟩ := hrel
    have HI := Lib.hid hI
    have htI : (t : Int) < 16 := by omega
    have HFR := Lib.hid (free_any hI.x hI.m (1 + t) (5 + t * needs sz) (by omega) hI.le hI.c1 hI.c2)
    clear hI HFU
    go_wp2_with fail
    refine HFR.out.mono ?_
    rintro r w7 ⟨rfl, hs7⟩
    obtain ⟨p0, hp0⟩ : ∃ p, p = 5 + t * needs sz := ⟨_, rfl⟩
    obtain ⟨wa, hwa⟩ : ∃ z, z = 59 - p0 := ⟨_, rfl⟩
    obtain ⟨lf, hlf⟩ : ∃ z, z = 16 - (1 + t) := ⟨_, rfl⟩
    rw [← hp0, ← hwa, ← hlf]
    have HP0 := Lib.hid hp0; have HWA := Lib.hid hwa; have HLF := Lib.hid hlf
    have s7 := hs7.toB []
    obtain ⟨S7, dm7, x7, hn7, hg7⟩ := s7.openT
    have m7 := HI.out.m.stpB HI.out.x (by simp) s7
    have so7 := HI.out.so.stpB HI.out.x (by simp) s7
    have HMK := Lib.hid (make_any x7 m7 so7 (1 + t) (by omega) (by omega) HI.out.c1)
    have HS7 := Lib.hid s7; have HM7 := Lib.hid m7; have HSO7 := Lib.hid so7; have HX7 := Lib.hid x7
    have HG7 := Lib.hid (fun (w' : World) (c' : Nat → List UInt8) (h : Stp K [] (1000 * (t + 1)) cu S7 w7 w' c') => hg7 h)
    have HZ7 := Lib.hid (fun (w' : World) (c' : Nat → List UInt8) (h : Stp (Kz K) [] (1000 * (t + 1)) cu S7 w7 w' c') => hg7 h)
    clear hp0 hwa hlf hs7 s7 x7 hn7 hg7 m7 so7 HFR
    go_wp2_with fail
    refine HMK.out.mono ?_
    rintro r w8 (⟨rfl, hlt, c8, hs8, h81, h82, henc⟩ | ⟨rfl, h16, hs8⟩)
    · have s8 := HG7.out _ _ hs8
      have A9 := (Fr.refl [] w8).alloc (.cells (zRowN sz) 5)
      have N9 := heap_alloc_new w8 (.cells (zRowN sz) 5)
      have s9 := s8.fr0 A9
      obtain ⟨S9, dm9, x9, hn9, hg9⟩ := s9.openT
      have m9 := HI.out.m.stpB HI.out.x (by simp) s9
      have so9 := HI.out.so.stpB HI.out.x (by simp) s9
      have hmk := run_makeB w8 sz (by omega)
      have HWR := Lib.hid (write_any x9 m9 so9 (1 + t + 1) (1 + t) sz p0 w8.heap.size (by omega) (by omega) (by omega) h81 henc hsz6.1 hsz6.2 (by have := HP0.out; omega) (by have := HP0.out; have := HI.out.le; omega) (by rw [h82, HP0.out]; exact HI.out.c2) N9)
      have HM9 := Lib.hid m9; have HSO9 := Lib.hid so9; have HX9 := Lib.hid x9
      have HG9 := Lib.hid (fun (w' : World) (c' : Nat → List UInt8) (h : Stp K [] (1000 * (t + 1)) cu S9 _ w' c') => hg9 h)
      have HZ9 := Lib.hid (fun (w' : World) (c' : Nat → List UInt8) (h : Stp (Kz K) [] (1000 * (t + 1)) cu S9 _ w' c') => hg9 h)
      have HS9 := Lib.hid s9; have H81 := Lib.hid h81; have H82 := Lib.hid h82
      clear HMK s8 A9 N9 s9 x9 hn9 hg9 m9 so9 h81 h82 henc hs8
      go_wp2_with fail
      refine HWR.out.mono ?_
      rintro r w10 (⟨rfl, hfit, c10, hs10, h101, h102⟩ | ⟨rfl, hfit, hs10⟩)
      · have s10 := HG9.out _ _ hs10
        obtain ⟨f10, S10, dm10, hS10, x10⟩ := s10
        have HCM := Lib.hid (cmx_any x10 (by omega))
        have HX10 := Lib.hid x10; have HF10 := Lib.hid f10; have HS10 := Lib.hid hS10
        have HM10 := Lib.hid (HI.out.m.fr f10 (fun hm => (List.mem_append.1 hm).elim (by simp) (HI.out.m.off HI.out.x))); have HSO10 := Lib.hid (HI.out.so.fr f10 (fun hm => (List.mem_append.1 hm).elim (by simp) (HI.out.so.off HI.out.x)))
        have H101 := Lib.hid h101; have H102 := Lib.hid h102; have HFIT := Lib.hid hfit
        clear hs10 f10 hS10 x10 HWR HG9 h101 h102 hfit hmk
        go_wp2_with fail
        refine HCM.out.mono ?_
        rintro r w11 ⟨rfl, hf11, x11⟩
        have HFU : Hid (FuI K w w11 mb sb sz (t + 1) S10 c10) := Lib.hid ⟨by rw [show 1000 * (t + 1 + 1) = 1000 * (t + 1) + 1000 by omega]; exact x11, HM10.out.fr hf11 (HM10.out.off HX10.out), HSO10.out.fr hf11 (HSO10.out.off HX10.out), by rw [H101.out, H81.out]; rfl, by rw [H102.out, HP0.out, Nat.add_mul, Nat.one_mul, Nat.add_assoc], by have := HP0.out; have := HFIT.out; rw [Nat.add_mul, Nat.one_mul]; omega, HI.out.below.trans (((HF10.out.mono (fun b hb => .inl (by simpa using hb)) : Fr Sx wr w10).then hf11 (fun b hb => HS10.out b hb)).below HI.out.below.size HI.out.ge), fun b hb => (HS10.out b hb).elim (HI.out.ge b) (fun h => Nat.le_trans HI.out.below.size h)⟩
        clear hf11 x11 HCM
        go_wp2_with fail
        exact ⟨⟨t + 1, _, _, by omega, by simp, by simp, HFU.out⟩, by simp [intOf]; omega⟩
      · have sz10 := HZ9.out _ _ hs10
        obtain ⟨f10, S10, dm10, hS10, x10⟩ := sz10
        have m10 : MpAt w10 (Kz K) mb := HI.out.m.fr f10 (fun hm => (List.mem_append.1 hm).elim (by simp) (HI.out.m.off HI.out.x))
        have hfr := free_any x10 m10 (1 + t) p0 (by omega) (by rw [HP0.out]; exact HI.out.le) HI.out.c1 (by rw [HP0.out]; exact HI.out.c2)
        rw [← HWA.out, ← HLF.out] at hfr
        have HFR := Lib.hid hfr
        have HF10 := Lib.hid f10; have HS10 := Lib.hid hS10
        obtain ⟨nd, hnd⟩ : ∃ z, z = needs sz := ⟨_, rfl⟩
        have hlt0 : (wa : Int) < (nd : Int) := by have := HWA.out; have := HP0.out; have := HI.out.le; omega
        have ht0 : (0 : Int) < (t : Int) := by
          rcases Nat.eq_zero_or_pos t with h0 | h0
          · exfalso
            have h1 := HP0.out
            rw [h0, Nat.zero_mul] at h1
            unfold needs pgs at *
            split at hfit <;> omega
          · omega
        have HND := Lib.hid hnd
        clear hnd
        clear hs10 f10 hS10 x10 m10 hfr hfit hmk
        go_wp2_with fail
        refine HFR.out.mono ?_
        rintro r w11 ⟨rfl, f11, S11, dm11, hS11, x11⟩
        have HD0 : Hid (dm11 = 0) := Lib.hid x11.pd
        have hne := need_any w11 sz (by omega)
        rw [← HND.out] at hne
        have HNE := Lib.hid hne
        have HDT := Lib.hid (dirtyx_any x11)
        have HBW : Hid (Below w.heap.size w w11) := Lib.hid (HI.out.below.trans (((HF10.out.mono (fun b hb => .inl (by simpa using hb)) : Fr Sx wr w10).then f11 (fun b hb => HS10.out b hb)).below HI.out.below.size HI.out.ge))
        clear f11 hS11 x11 hne HFR HF10 HS10
        go_wp2_with fail
        refine HNE.out.mono ?_
        rintro r w12 ⟨rfl, rfl⟩
        clear HNE
        go_wp2_with fail
        refine HDT.out.mono ?_
        rintro r w13 ⟨v, ns, rfl, hl, hown, hb⟩
        obtain ⟨vp, vc, rfl⟩ := none_dirty hown hl HD0.out
        have HB13 : Hid (Below w.heap.size w w13) := Lib.hid (HBW.out.trans (hb.mono HBW.out.size))
        clear hl hown hb HDT HBW
        go_wp2_with fail
        refine bodyPost_ret (v := .bool true) (by have htn : 0 < t := by omega
                                                  simp [results, Tryz.results3, go_sem, htn]) rfl ⟨rfl, HB13.out⟩
    · have sz10 := HZ7.out _ _ hs8
      obtain ⟨f10, S10, dm10, hS10, x10⟩ := sz10
      have m10 : MpAt w8 (Kz K) mb := HI.out.m.fr f10 (fun hm => (List.mem_append.1 hm).elim (by simp) (HI.out.m.off HI.out.x))
      have hfr := free_any x10 m10 (1 + t) p0 (by omega) (by rw [HP0.out]; exact HI.out.le) HI.out.c1 (by rw [HP0.out]; exact HI.out.c2)
      rw [← HWA.out, ← HLF.out] at hfr
      have HFR := Lib.hid hfr
      have HF10 := Lib.hid f10; have HS10 := Lib.hid hS10
      obtain ⟨nd, hnd⟩ : ∃ z, z = needs sz := ⟨_, rfl⟩
      have hlf0 : (lf : Int) = 0 := by have := HLF.out; omega
      have ht0 : (0 : Int) < (t : Int) := by omega
      have HND := Lib.hid hnd
      clear hnd
      clear h16 hs8 f10 hS10 x10 m10 hfr 
      go_wp2_with fail
      refine HFR.out.mono ?_
      rintro r w11 ⟨rfl, f11, S11, dm11, hS11, x11⟩
      have HD0 : Hid (dm11 = 0) := Lib.hid x11.pd
      have hne := need_any w11 sz (by omega)
      rw [← HND.out] at hne
      have HNE := Lib.hid hne
      have HDT := Lib.hid (dirtyx_any x11)
      have HBW : Hid (Below w.heap.size w w11) := Lib.hid (HI.out.below.trans (((HF10.out.mono (fun b hb => .inl (by simpa using hb)) : Fr Sx wr w8).then f11 (fun b hb => HS10.out b hb)).below HI.out.below.size HI.out.ge))
      clear f11 hS11 x11 hne HFR HF10 HS10
      rcases (show (wa : Int) < (nd : Int) ∨ (nd : Int) ≤ (wa : Int) by omega) with hcp | hcp
      · go_wp2_with fail
        refine HNE.out.mono ?_
        rintro r w12 ⟨rfl, rfl⟩
        clear HNE
        go_wp2_with fail
        refine HDT.out.mono ?_
        rintro r w13 ⟨v, ns, rfl, hl, hown, hb⟩
        obtain ⟨vp, vc, rfl⟩ := none_dirty hown hl HD0.out
        have HB13 : Hid (Below w.heap.size w w13) := Lib.hid (HBW.out.trans (hb.mono HBW.out.size))
        clear hl hown hb HDT HBW
        go_wp2_with fail
        refine bodyPost_ret (v := .bool true) (by have htn : 0 < t := by omega
                                                  simp [results, Tryz.results3, go_sem, htn]) rfl ⟨rfl, HB13.out⟩
      · have hcpn : nd ≤ wa := by omega
        have hcpl : ¬ wa < nd := by omega
        go_wp2_with fail
        refine HNE.out.mono ?_
        rintro r w12 ⟨rfl, rfl⟩
        clear HNE
        go_wp2_with fail
        refine HDT.out.mono ?_
        rintro r w13 ⟨v, ns, rfl, hl, hown, hb⟩
        obtain ⟨vp, vc, rfl⟩ := none_dirty hown hl HD0.out
        have HB13 : Hid (Below w.heap.size w w13) := Lib.hid (HBW.out.trans (hb.mono HBW.out.size))
        clear hl hown hb HDT HBW
        go_wp2_with fail
        refine bodyPost_ret (v := .bool true) (by have htn : 0 < t := by omega
                                                  simp [results, Tryz.results3, go_sem, htn]) rfl ⟨rfl, HB13.out⟩
end Go.Proofs.YtcblfkojkdaepaaGreat
