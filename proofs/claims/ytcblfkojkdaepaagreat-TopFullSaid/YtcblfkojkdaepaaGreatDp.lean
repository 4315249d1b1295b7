/- The contracts of (*Disk).Fork, where nothing waits, and of (*Log).Disk. -/
import Derived.Test.YtcblfkojkdaepaaGreatLg
import Derived.Deep.RegionHeld3
namespace Go.Proofs.YtcblfkojkdaepaaGreat
open Go.RowKit Go.ChangeMaps

/-- A disk like another one, with a row of its own and an empty map. -/
theorem fork_disk {w X : World} {g bs bm gs gm sc' : Nat} {F O S : List Value} (D : DiskAt w g bs bm F O S []) {fv lv : Value} (h0 : w.cell? ⟨g, 0, none⟩ = some fv) (h1 : w.cell? ⟨g, 1, none⟩ = some lv) (hF : Fr [] w X)
    (hr : ∃ cs, X.heap[gs]? = some (.cells cs 46 (0, 0)) ∧ cs.toList.take S.length = S ∧ S.length ≤ cs.size) (hsc : S.length ≤ sc') (hm : X.heap[gm]? = some (.map #[] 0)) (hs : w.heap.size ≤ gs) (hgm : w.heap.size ≤ gm) :
    DiskAt (X.alloc (.cells #[fv, lv, .slice (some ⟨gs, 0, none⟩) S.length sc', .map (some gm)] 114)) X.heap.size gs gm F O S [] := by
  obtain ⟨fv', lv', sc, hbox, r1, r2, _⟩ := D.box
  obtain ⟨c0, c1, _, _⟩ := cells_disk hbox
  obtain rfl : fv' = fv := by rw [c0] at h0; exact Option.some.inj h0
  obtain rfl : lv' = lv := by rw [c1] at h1; exact Option.some.inj h1
  obtain ⟨cs, hcs, ht, hn⟩ := hr
  have lg := (Array.getElem?_eq_some_iff.1 hcs).1
  have lm := (Array.getElem?_eq_some_iff.1 hm).1
  have hne : gs ≠ gm := fun e => by subst e; rw [hcs] at hm; cases hm
  have hN := hF.size
  have hFX : Fr [] w (X.alloc (.cells #[fv', lv', .slice (some ⟨gs, 0, none⟩) S.length sc', .map (some gm)] 114)) := hF.alloc _
  have hX := (Fr.refl [] X).alloc (.cells #[fv', lv', .slice (some ⟨gs, 0, none⟩) S.length sc', .map (some gm)] 114)
  have hS : ∀ k ∈ [X.heap.size, gs, gm], k ∈ [g, bs, bm] ∨ w.heap.size ≤ k := fun k hk => .inr (by simp at hk; omega)
  exact ⟨⟨fv', lv', sc', heap_alloc_new X _, (r1.to hS).fr hFX (by simp), (r2.to hS).fr hFX (by simp), hsc⟩, ⟨cs, hX.heap (by simp) hcs, ht, hn⟩, ⟨0, hX.heap (by simp) hm, by simp, by simp⟩, by simp, by simp, D.len, by simp, D.one, by simp, by omega, by omega, hne⟩
set_option maxRecDepth 100000 in
set_option maxHeartbeats 4000000 in
theorem dfork_any (w : World) {g bs bm : Nat} {F O S : List Value} (D : DiskAt w g bs bm F O S []) (hS : S.length ≤ 4096) (h0 : 0 < S.length) :
    Calls Tryz.prog 17 #[.pointer (some ⟨g, 0, none⟩)] w fun e w' => ∃ g' bs' bm', e = .returned (.pointer (some ⟨g', 0, none⟩)) ∧ DiskAt w' g' bs' bm' F O S [] ∧ Below w.heap.size w w' ∧ w.heap.size ≤ g' ∧ w.heap.size ≤ bs' ∧ w.heap.size ≤ bm' := by
  obtain ⟨fv, lv, sc, hbox, hF, hL, hsc⟩ := D.box
  obtain ⟨c0, c1, c2, c3⟩ := cells_disk hbox
  obtain ⟨fa, fc, rfl, _⟩ := hF.open
  obtain ⟨la, lc, rfl, _⟩ := hL.open
  have hmm := @run_makeMap Tryz.prog
  obtain ⟨cl, hmap, _⟩ := D.map
  have HM := Lib.hid hmap
  have HD := Lib.hid D
  have HC := Lib.hid (fun x (hx : Below w.heap.size w x) => show Calls Tryz.prog 45 #[.slice (some ⟨bs, 0, none⟩) S.length sc] x fun e w' => ∃ gs sc', e = .returned (.slice (some ⟨gs, 0, none⟩) S.length sc') ∧ x.heap.size ≤ gs ∧ S.length ≤ sc' ∧ (∃ cs, w'.heap[gs]? = some (.cells cs 46 (0, 0)) ∧ cs.toList.take S.length = S ∧ S.length ≤ cs.size) ∧ Below x.heap.size x w' from
    (cloneR_any x _ S ((D.rdS hsc).below hx) hS h0 (fun u hu => D.one u (List.mem_append_right _ hu))).mono fun e w' ⟨r, he, hown, hb⟩ => by
      obtain ⟨_, hr⟩ := hown
      rcases hr with ⟨_, h00⟩ | ⟨gs, sc', cur, rfl, hg, hh, hn, hm, hs, ht⟩
      · omega
      · exact ⟨gs, sc', he, hg, hn, ⟨cur, hh, by simpa using ht, by omega⟩, hb⟩)
  have hgl := D.lt.1
  clear D hbox hF hL hmap
  go_enter Tryz.func17, Tryz.ntmps17
  go_wp2_with fail
  have hd0 := cell_dr c0; have hd1 := cell_dr c1; have hd2 := cell_dr c2
  have hBa : Below w.heap.size w w.drew := (Fr.drew (S := []) w).below (Nat.le_refl _) (by simp)
  have hBb : Below w.heap.size w (w.drew.alloc (.map #[] 0)) := ((Fr.drew (S := []) w).alloc _).below (Nat.le_refl _) (by simp)
  go_region_held3 (fun w' => w'.cell? ⟨g, 0, none⟩ = some (.slice fa F.length fc) ∧ w'.cell? ⟨g, 1, none⟩ = some (.slice la O.length lc) ∧ w'.cell? ⟨g, 2, none⟩ = some (.slice (some ⟨bs, 0, none⟩) S.length sc))
    (first
      | (go_keep; done)
      | (go_split_ands
         exact ⟨cell_l1 (by assumption), cell_l1 (by assumption), cell_l1 (by assumption)⟩)
      | (go_split_ands
         exact ⟨(hbn.cell (p := ⟨g, 0, none⟩) hgl).trans (by assumption), (hbn.cell (p := ⟨g, 1, none⟩) hgl).trans (by assumption), (hbn.cell (p := ⟨g, 2, none⟩) hgl).trans (by assumption)⟩)
      | (go_split_ands
         exact ⟨(hbn.cell (p := ⟨g, 0, none⟩) (by simp; omega)).trans (by assumption), (hbn.cell (p := ⟨g, 1, none⟩) (by simp; omega)).trans (by assumption), (hbn.cell (p := ⟨g, 2, none⟩) (by simp; omega)).trans (by assumption)⟩))
    ((go_at_call 45; first
      | (refine (HC.out w.drew hBa).mono ?_; rintro e w5 ⟨gs, sc', rfl, hgs, hn, hrow, hbn⟩)
      | (refine (HC.out (w.drew.alloc (.map #[] 0)) hBb).mono ?_; rintro e w5 ⟨gs, sc', rfl, hgs, hn, hrow, hbn⟩)))
  · have hX : Fr [] w (w5.alloc (.map #[] 0)) := ((Fr.drew w).trans (Fr.of_below hbn)).alloc _
    have hs5 := hbn.size
    have D2 := Lib.hid (show DiskAt ((w5.alloc (.map #[] 0)).alloc (.cells #[.slice fa F.length fc, .slice la O.length lc, .slice (some ⟨gs, 0, none⟩) S.length sc', .map (some w5.heap.size)] 114)) (w5.heap.size + 1) gs w5.heap.size F O S [] by
      have h := fork_disk HD.out c0 c1 hX (by obtain ⟨cs, h1, h2⟩ := hrow; exact ⟨cs, ((Fr.refl [] w5).alloc _).heap (by simp) h1, h2⟩) hn (heap_alloc_new w5 _) hgs hs5
      simpa using h)
    have HX := Lib.hid (hX.alloc (.cells #[.slice fa F.length fc, .slice la O.length lc, .slice (some ⟨gs, 0, none⟩) S.length sc', .map (some w5.heap.size)] 114))
    have hq1 : w.heap.size ≤ w5.heap.size + 1 := Nat.le_trans hs5 (by omega)
    have hq2 : w.heap.size ≤ gs := hgs
    have hq3 : w.heap.size ≤ w5.heap.size := hs5
    clear hX hbn hrow hgs hs5
    revert D2 HX
    generalize (w5.alloc (.map #[] 0)).alloc (.cells #[.slice fa F.length fc, .slice la O.length lc, .slice (some ⟨gs, 0, none⟩) S.length sc', .map (some w5.heap.size)] 114) = W6
    intro D2 HX
    generalize w5.heap.size + 1 = g' at *
    generalize w5.heap.size = gm at *
    have k3 := HX.out.cell (p := ⟨g, 3, none⟩) (by simp) c3
    have hrg := run_range_map (P := Tryz.prog) W6 109 3 51 bm _ cl Tryz.underlying109 (HX.out.heap (by simp) HM.out)
    clear c0 c1 c2 c3 hd0 hd1 hd2 hBa hBb HC hmm
    go_wp2_with fail
    refine wp_loop_once ?_
    have RN := Lib.hid (show Rng (W6.alloc (.mapIter (some bm) cl #[] cl)) W6.heap.size bm cl [] [] from ⟨by simpa using heap_alloc_new W6 _, ((Fr.refl [] W6).alloc _).heap (by simp) (HX.out.heap (by simp) HM.out), by simp, by simp, by simp, by have := (Array.getElem?_eq_some_iff.1 (HX.out.heap (b := bm) (by simp) HM.out)).1; omega⟩)
    have HW := Lib.hid ((Fr.refl [] W6).alloc (.mapIter (some bm) cl #[] cl))
    go_wp2_with (refine wpList_next_ents rfl (.tmp 31) rfl rfl RN.out ?c1 ?c2)
    go_ret
    exact ⟨g', gs, gm, rfl, D2.out.fr HW.out (by simp), (HX.out.trans HW.out).below (Nat.le_refl _) (by simp), hq1, hq2, by omega⟩
  · have hX : Fr [] w w5 := ((Fr.drew w).alloc _).trans (Fr.of_below hbn)
    have hs5 := hbn.size
    have D2 := Lib.hid (show DiskAt (w5.alloc (.cells #[.slice fa F.length fc, .slice la O.length lc, .slice (some ⟨gs, 0, none⟩) S.length sc', .map (some w.heap.size)] 114)) w5.heap.size gs w.heap.size F O S [] from
      fork_disk HD.out c0 c1 hX hrow hn ((hbn.block w.heap.size (by simp)).trans (heap_alloc_new w.drew _)) (by simp at hgs; omega) (Nat.le_refl _))
    have HX := Lib.hid (hX.alloc (.cells #[.slice fa F.length fc, .slice la O.length lc, .slice (some ⟨gs, 0, none⟩) S.length sc', .map (some w.heap.size)] 114))
    have hq1 : w.heap.size ≤ w5.heap.size := by simp at hs5; omega
    have hq2 : w.heap.size ≤ gs := by simp at hgs; omega
    have hq3 : w.heap.size ≤ w.heap.size := Nat.le_refl _
    clear hX hbn hrow hgs hs5
    revert D2 HX
    generalize w5.alloc (.cells #[.slice fa F.length fc, .slice la O.length lc, .slice (some ⟨gs, 0, none⟩) S.length sc', .map (some w.heap.size)] 114) = W6
    intro D2 HX
    generalize w5.heap.size = g' at *
    obtain ⟨gm, hgm⟩ : ∃ x, x = w.heap.size := ⟨_, rfl⟩
    rw [← hgm] at D2
    have k3 := HX.out.cell (p := ⟨g, 3, none⟩) (by simp) c3
    have hrg := run_range_map (P := Tryz.prog) W6 109 3 51 bm _ cl Tryz.underlying109 (HX.out.heap (by simp) HM.out)
    clear c0 c1 c2 c3 hd0 hd1 hd2 hBa hBb HC hmm
    go_wp2_with fail
    refine wp_loop_once ?_
    have RN := Lib.hid (show Rng (W6.alloc (.mapIter (some bm) cl #[] cl)) W6.heap.size bm cl [] [] from ⟨by simpa using heap_alloc_new W6 _, ((Fr.refl [] W6).alloc _).heap (by simp) (HX.out.heap (by simp) HM.out), by simp, by simp, by simp, by have := (Array.getElem?_eq_some_iff.1 (HX.out.heap (b := bm) (by simp) HM.out)).1; omega⟩)
    have HW := Lib.hid ((Fr.refl [] W6).alloc (.mapIter (some bm) cl #[] cl))
    go_wp2_with (refine wpList_next_ents rfl (.tmp 31) rfl rfl RN.out ?c3 ?c4)
    go_ret
    exact ⟨g', gs, gm, rfl, D2.out.fr HW.out (by simp), (HX.out.trans HW.out).below (Nat.le_refl _) (by simp), hq1, hq2, by omega⟩
end Go.Proofs.YtcblfkojkdaepaaGreat
/- A disk by its ops: what Write and Flush do with it. -/
namespace Go.Proofs.YtcblfkojkdaepaaGreat
open Go.RowKit Go.ChangeMaps

theorem DiskP.nil {w : World} {g bs bm : Nat} {F : List Value} {ops : List (Option (Nat × Value))} (h : DiskP w g bs bm F ops) (h0 : (play F ops).2 = []) : DiskAt w g bs bm F (ops.map opV) (play F ops).1 [] := by
  obtain ⟨T, D, hk⟩ := h
  rw [h0] at hk
  have : T = [] := by simpa [kvs] using hk
  rw [this] at D
  exact D
theorem DiskP.fr {w w' : World} {g bs bm : Nat} {F : List Value} {ops : List (Option (Nat × Value))} {U : List Nat} (h : DiskP w g bs bm F ops) (hf : Fr U w w') (hU : ∀ k ∈ U, w.heap.size ≤ k) : DiskP w' g bs bm F ops := by
  obtain ⟨T, D, hk⟩ := h
  exact ⟨T, D.fr hf hU, hk⟩
theorem DiskP.lt {w : World} {g bs bm : Nat} {F : List Value} {ops : List (Option (Nat × Value))} (h : DiskP w g bs bm F ops) : g < w.heap.size ∧ bs < w.heap.size ∧ bm < w.heap.size := by
  obtain ⟨T, D, hk⟩ := h
  exact D.lt
theorem dpw_any (w : World) {g bs bm : Nat} {F : List Value} {ops : List (Option (Nat × Value))} (D : DiskP w g bs bm F ops) (hF : F.length ≤ 4096) (hO : ops.length ≤ 1000000) (n : Nat) (hn : n < F.length) (hk : ∀ p ∈ (play F ops).2, p.1 < n) (v : Value) (l : List UInt8) (hv : RdB w v l) (hl : l.length = 512) :
    Calls Tryz.prog 50 #[.pointer (some ⟨g, 0, none⟩), .int .i64 (n : Int), v] w fun e w' => e = .returned (.int .i64 0) ∧ Fr [g, bs, bm] w w' ∧ ∃ u, (∃ a k c, u = .slice a k c) ∧ Dat [g, bs, bm] w' u l ∧ DiskP w' g bs bm F (ops ++ [some (n, u)]) := by
  obtain ⟨T, D, hkv⟩ := D
  have hlen := play_length F ops
  refine (dwrite_any w D (by rw [hlen]; exact hF) (by simpa using hO) n (by rw [hlen]; exact hn) (kvs_lt hkv hk) v l hv hl).mono ?_
  rintro e w' ⟨rfl, hf, e0, rfl, hd, D'⟩
  refine ⟨rfl, hf, e0.v, D'.oneE e0 (by simp), hd, T ++ [e0], ?_, ?_⟩
  · rw [play_snoc, List.map_append]; exact D'
  · rw [play_snoc]
    show kvs (T ++ [e0]) = (play F ops).2 ++ [(e0.k, e0.v)]
    rw [← hkv]; simp [kvs]
theorem dpf_any (w : World) {g bs bm : Nat} {F : List Value} {ops : List (Option (Nat × Value))} (D : DiskP w g bs bm F ops) (hF : F.length ≤ 4096) (hO : ops.length ≤ 1000000) :
    Calls Tryz.prog 51 #[.pointer (some ⟨g, 0, none⟩)] w fun e w' => e = .returned (.int .i64 0) ∧ Fr [g, bs, bm] w w' ∧ DiskP w' g bs bm F (ops ++ [none]) := by
  obtain ⟨T, D, hkv⟩ := D
  have hlen := play_length F ops
  refine (dflush_any w D (by rw [hlen]; exact hF) (by simpa using hO)).mono ?_
  rintro e w' ⟨rfl, hf, D'⟩
  refine ⟨rfl, hf, [], ?_, ?_⟩
  · rw [play_snoc, List.map_append]
    show DiskAt w' g bs bm F _ (fluP (play F ops).1 (play F ops).2) []
    rw [← hkv, ← flu_kvs]; exact D'
  · rw [play_snoc]; rfl
end Go.Proofs.YtcblfkojkdaepaaGreat
