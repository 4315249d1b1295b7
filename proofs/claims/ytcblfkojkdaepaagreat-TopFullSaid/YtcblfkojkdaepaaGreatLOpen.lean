/- The contract of wal.Open, over a disk that has done nothing. -/
import Derived.Test.YtcblfkojkdaepaaGreatHead
namespace Go.Proofs.YtcblfkojkdaepaaGreat
open Go.RowKit Go.ChangeMaps

/-- A turn of a log's box is nothing to what lies elsewhere. -/
theorem RdN.box {t : TypeId} {S : List Nat} {w w' : World} {v : Value} {xs : List Value} {p : Nat} (h : RdN t S w v xs) (hf : Fr [p] w w') (hr : ∃ cs fr, w.heap[p]? = some (.cells cs 58 fr)) (ht : 58 ≠ t) : RdN t S w' v xs :=
  h.other hf (fun k hk => by simp at hk; subst hk; obtain ⟨cs, fr, h⟩ := hr; exact .inr (.inr ⟨cs, _, fr, h, ht⟩))
theorem DiskP.box {w w' : World} {g bs bm p : Nat} {F : List Value} {ops : List (Option (Nat × Value))} (D : DiskP w g bs bm F ops) (hf : Fr [p] w w') (hp : p ∉ [g, bs, bm]) (hr : ∃ cs fr, w.heap[p]? = some (.cells cs 58 fr)) : DiskP w' g bs bm F ops := by
  obtain ⟨T, D, hk⟩ := D
  obtain ⟨fv, lv, sc, h1, h2, h3, h4⟩ := D.box
  obtain ⟨cs, r1, r2, r3⟩ := D.row
  obtain ⟨cl, m1, m2, m3⟩ := D.map
  simp only [List.mem_cons, List.not_mem_nil, or_false, not_or] at hp
  exact ⟨T, ⟨⟨fv, lv, sc, hf.heap (by simp; exact fun e => hp.1 e.symm) h1, h2.box hf hr (by decide), h3.box hf hr (by decide), h4⟩, ⟨cs, hf.heap (by simp; exact fun e => hp.2.1 e.symm) r1, r2, r3⟩, ⟨cl, hf.heap (by simp; exact fun e => hp.2.2 e.symm) m1, m2, m3⟩, fun e he => (D.ents e he).box hf hr (by decide), D.keys, D.len, D.keyLt, D.one, D.oneE, D.apart⟩, hk⟩
/-- What Open answers: a log of its own over a disk of its own. -/
structure Opened (w w' : World) (p g bs bm s : Nat) : Prop where
  log : LogAt w' p g s
  below : Below w.heap.size w w'
  apart : p ∉ [g, bs, bm]
  new : w.heap.size ≤ p ∧ w.heap.size ≤ g ∧ w.heap.size ≤ bs ∧ w.heap.size ≤ bm
set_option maxRecDepth 100000 in
set_option maxHeartbeats 4000000 in
theorem open_any (w : World) {g bs bm s M : Nat} {F : List Value} (D : DiskP w g bs bm F []) (hF : F.length ≤ 4096) (hM : F.length = s + 1 + M) (hM0 : 0 < M) (hs : s ≤ 100) (hs0 : 0 < s) (ns : List Nat) (new : Nat → List UInt8) (hl : ns.length ≤ s) (hb : ∀ n ∈ ns, n < M) (hr : ns.Pairwise (· < ·))
    (v : Value) (l : List UInt8) (hv : F[0]? = some v) (hrd : Dat [g, bs, bm] w v l) (hh : l = zBytes ∧ ns = [] ∨ l = hdB ns) (hlog : ∀ (i n : Nat), ns[i]? = some n → At (Dat [g, bs, bm] w) F (1 + i) (new n)) (h5 : ∀ n ∈ ns, (new n).length = 512) :
    Calls Tryz.prog 5 #[.pointer (some ⟨g, 0, none⟩), .int .i64 (s : Int)] w fun e w' => ∃ p g' bs' bm', e = .returned (.tuple #[.pointer (some ⟨p, 0, none⟩), .int .i64 0]) ∧ Opened w w' p g' bs' bm' s ∧
      ((ns = [] ∧ DiskP w' g' bs' bm' F []) ∨ (ns ≠ [] ∧ ∃ vs vh, vs.length = ns.length ∧ (∀ v ∈ vh :: vs, ∃ a k c, v = .slice a k c) ∧ (∀ (i n : Nat) (v : Value), ns[i]? = some n → vs[i]? = some v → Dat [g', bs', bm'] w' v (new n)) ∧ Dat [g', bs', bm'] w' vh (hdB []) ∧ DiskP w' g' bs' bm' F (homeOps s ns vs vh))) := by
  have D0 := D.nil rfl
  have HSC := Lib.hid (sectors_any w D0)
  have HFK := Lib.hid (dfork_any w D0 hF (by show 0 < F.length; omega))
  have HB := Lib.hid hb; have HR := Lib.hid hr; have HV := Lib.hid hv; have HRD := Lib.hid hrd; have HH := Lib.hid hh; have HLOG := Lib.hid hlog; have H5 := Lib.hid h5
  obtain ⟨N, hN⟩ : ∃ N, N = F.length := ⟨_, rfl⟩
  rw [← hN] at HSC
  have HN := Lib.hid hN
  have n0 : (s : Int) + 2 ≤ (N : Int) := by omega
  have n1 : (N : Int) ≤ 4096 := by omega
  have n2 : (1 : Int) ≤ (s : Int) := by omega
  clear D hb hr hv hrd hh hlog h5 hN D0
  go_enter Tryz.func5, Tryz.ntmps5
  go_wp2_with fail
  refine HSC.out.mono ?_
  rintro r w1 ⟨rfl, rfl⟩
  go_wp2_with fail
  refine HFK.out.mono ?_
  rintro r w2 ⟨g', bs', bm', rfl, D2, hb2, hg1, hg2, hg3⟩
  have hsz2 := hb2.size
  have hS : ∀ k ∈ [g', bs', bm'], k ∈ [g, bs, bm] ∨ w1.heap.size ≤ k := fun k hk => .inr (by simp at hk; omega)
  have F3 : Fr [] w1 (w2.alloc (.cells #[.pointer (some ⟨g', 0, none⟩), .int .i64 (s : Int), .int .i64 0] 58)) := (Fr.of_below hb2).alloc _
  have A3 : Fr [] w2 (w2.alloc (.cells #[.pointer (some ⟨g', 0, none⟩), .int .i64 (s : Int), .int .i64 0] 58)) := (Fr.refl _ _).alloc _
  have R3 := heap_alloc_new w2 (.cells #[.pointer (some ⟨g', 0, none⟩), .int .i64 (s : Int), .int .i64 0] 58)
  have DLT := Lib.hid D2.lt
  have HD3 := Lib.hid (show DiskP (w2.alloc (.cells #[.pointer (some ⟨g', 0, none⟩), .int .i64 (s : Int), .int .i64 0] 58)) g' bs' bm' F [] from ⟨[], D2.fr A3 (by simp), rfl⟩)
  have HR3 := Lib.hid R3; have HF3 := Lib.hid F3; have HS := Lib.hid hS
  have HNW := Lib.hid (show w1.heap.size ≤ w2.heap.size ∧ w1.heap.size ≤ g' ∧ w1.heap.size ≤ bs' ∧ w1.heap.size ≤ bm' from ⟨hsz2, hg1, hg2, hg3⟩)
  clear hb2 hsz2 hS F3 A3 R3 D2 HFK hg1 hg2 hg3 HSC
  go_wp2_with fail
  revert HD3 HR3 HF3
  generalize w2.alloc (.cells #[.pointer (some ⟨g', 0, none⟩), .int .i64 (s : Int), .int .i64 0] 58) = W3
  intro HD3 HR3 HF3
  obtain ⟨p, hp⟩ : ∃ p, p = w2.heap.size := ⟨_, rfl⟩
  rw [← hp] at HR3 DLT HNW ⊢
  clear hp
  refine (head_any W3 (p := p) ⟨0, HR3.out⟩ HD3.out rfl hF hM hs ns hl HB.out HR.out v l HV.out (RdN.rd ((RdN.to HRD.out HS.out).fr HF3.out (by simp))) HH.out).mono ?_
  rintro r w4 ⟨na, nc, rfl, hnv, hb4⟩
  have F4 := Lib.hid (HF3.out.trans (Fr.of_below hb4))
  have R4 := Lib.hid ((hb4.block p (Array.getElem?_eq_some_iff.1 HR3.out).1).trans HR3.out)
  have D4 := Lib.hid (HD3.out.fr (Fr.of_below (S := []) hb4) (by simp))
  have HNV := Lib.hid hnv
  have c2 : w4.cell? ⟨p, 2, none⟩ = some (.int .i64 0) := (cell_of_row w4 p 2 _ _ _ R4.out).trans rfl
  have f2 : w4.frozen? ⟨p, 2, none⟩ = false := by have h := R4.out; simp [World.frozen?, h]
  have R5 := Lib.hid (heap_setCell_same w4 p 2 _ _ (.int .i64 (ns.length : Int)) R4.out)
  have F5 := Lib.hid ((Fr.refl [p] w4).setCell (p := ⟨p, 2, none⟩) (.inl (by simp)) (.int .i64 (ns.length : Int)))
  have c5 : (w4.setCell ⟨p, 2, none⟩ (.int .i64 (ns.length : Int))).cell? ⟨p, 2, none⟩ = some (.int .i64 (ns.length : Int)) := (cell_of_row _ p 2 _ _ _ R5.out).trans rfl
  clear hnv hb4 HR3 HF3 HD3
  have hpn : p ∉ [g', bs', bm'] := by have := DLT.out; have := HNW.out; simp; omega
  have HPN := Lib.hid hpn
  have hbx : ∃ cs fr, w4.heap[p]? = some (.cells cs 58 fr) := ⟨_, _, R4.out⟩
  have L5 := Lib.hid (show LogAt (w4.setCell ⟨p, 2, none⟩ (.int .i64 (ns.length : Int))) p g' s from ⟨(ns.length : Int), by simpa using R5.out⟩)
  have D5 := Lib.hid (D4.out.box F5.out hpn hbx)
  have HNV5 := Lib.hid (HNV.out.box F5.out hbx (by decide))
  have HD5 := Lib.hid (fun (v : Value) (l : List UInt8) (h : Dat [g, bs, bm] w1 v l) => show Dat [g', bs', bm'] (w4.setCell ⟨p, 2, none⟩ (.int .i64 (ns.length : Int))) v l from ((RdN.to h HS.out).fr F4.out (by simp)).box F5.out hbx (by decide))
  have B5 := Lib.hid (show Below w1.heap.size w1 (w4.setCell ⟨p, 2, none⟩ (.int .i64 (ns.length : Int))) from (F4.out.setCell (p := ⟨p, 2, none⟩) (.inr (by show w1.heap.size ≤ p; have := HNW.out; omega)) _).below (Nat.le_refl _) (by simp))
  clear hpn hbx F5 HNV D4 R5
  have HHM := Lib.hid (home_any _ L5.out D5.out HPN.out rfl hF hM (by simp) (.slice na ns.length nc) ns new HNV5.out (by omega) hl HB.out HR.out (fun i n hi => by
    obtain ⟨v, h1, h2⟩ := HLOG.out i n hi
    exact ⟨v, h1, HD5.out v _ h2⟩) H5.out)
  obtain ⟨k, hk⟩ : ∃ k, k = ns.length := ⟨_, rfl⟩
  rw [← hk] at L5 D5 HHM B5 c5 ⊢
  have HK := Lib.hid hk
  clear hk HNV5 HD5 R4 F4
  by_cases h0 : k = 0
  · have q0 : ¬ (0 : Int) < (k : Int) := by omega
    have HNS := Lib.hid (show ns = [] from List.eq_nil_of_length_eq_zero (by rw [← HK.out]; exact h0))
    clear HHM h0
    go_wp2_with fail
    go_ret2
    exact ⟨p, g', bs', bm', rfl, ⟨L5.out, B5.out, HPN.out, by have := HNW.out; omega⟩, .inl ⟨HNS.out, D5.out⟩⟩
  · have q0 : (0 : Int) < (k : Int) := by omega
    have HNS := Lib.hid (show ns ≠ [] from fun e => h0 (by rw [HK.out, e]; rfl))
    clear h0
    go_wp2_with fail
    refine HHM.out.mono ?_
    rintro r w6 ⟨rfl, hf6, h6⟩
    obtain ⟨vs, vh, e1, hrest⟩ := h6
    have e1' := e1.trans HK.out
    have HE1 := Lib.hid e1'
    have H6 := Lib.hid hrest
    have L6 := Lib.hid (L5.out.fr hf6 HPN.out)
    have B6 := Lib.hid (B5.out.trans (hf6.below B5.out.size (fun k hk => by have := HNW.out; simp at hk; omega)))
    clear hf6 e1 e1' hrest HHM c2 f2 c5 L5 D5 B5
    go_wp2_with fail
    go_ret2
    exact ⟨p, g', bs', bm', rfl, ⟨L6.out, B6.out, HPN.out, by have := HNW.out; omega⟩, .inr ⟨HNS.out, vs, vh, HE1.out, H6.out⟩⟩
end Go.Proofs.YtcblfkojkdaepaaGreat
