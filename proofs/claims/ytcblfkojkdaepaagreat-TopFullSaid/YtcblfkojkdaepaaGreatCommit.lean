/- The contract of (*Log).Commit, of a group of pages. -/
import Derived.Test.YtcblfkojkdaepaaGreatPgSort
namespace Go.Proofs.YtcblfkojkdaepaaGreat
open Go.RowKit Go.ChangeMaps

/-- While the map of the pages is made: those so far. -/
structure MpI (W3 wr : World) (mb : Nat) (ps : List (Nat × Value)) (j : Nat) (T : List Ent) (cl : Nat) : Prop where
  map : wr.heap[mb]? = some (.map (T.map Ent.obj).toArray cl)
  ents : T.map (fun e => (e.k, e.sl)) = ps.take j
  born : ∀ e ∈ T, e.born < cl
  nd : (T.map (·.born)).Nodup
  fr : Fr [mb] W3 wr
theorem MpI.keys {W3 wr : World} {mb : Nat} {ps : List (Nat × Value)} {j : Nat} {T : List Ent} {cl : Nat} (I : MpI W3 wr mb ps j T cl) : T.map (·.k) = (ps.take j).map (·.1) := by
  rw [← I.ents, List.map_map]; rfl
theorem MpI.step {W3 wr w2 : World} {mb : Nat} {ps : List (Nat × Value)} {j : Nat} {T : List Ent} {cl : Nat} (I : MpI W3 wr mb ps j T cl) {n : Nat} {v : Value} (hj : ps[j]? = some (n, v)) (_ : mb < W3.heap.size) (hf : Fr [] wr w2) :
    MpI W3 (setBlock w2 mb (.map ((T ++ [(⟨n, v, v, cl⟩ : Ent)]).map Ent.obj).toArray (cl + 1))) mb ps (j + 1) (T ++ [⟨n, v, v, cl⟩]) (cl + 1) := by
  have h2 := hf.heap (by simp) I.map
  refine ⟨heap_setBlock h2, ?_, fun e he => ?_, ?_, (I.fr.trans (hf.mono (by simp))).setBlock (.inl (by simp)) _⟩
  · rw [List.map_append, I.ents, List.take_add_one, hj]; rfl
  · rcases List.mem_append.1 he with h | h
    · have := I.born e h; omega
    · simp at h; subst h; show cl < cl + 1; omega
  · rw [List.map_append]
    refine List.nodup_append.2 ⟨I.nd, by simp, fun a ha b hb => ?_⟩
    obtain ⟨e, he, rfl⟩ := List.mem_map.1 ha
    simp at hb; subst hb
    have := I.born e he; omega
/-- While the pages are written to the log: us so far. -/
structure LgI (w wr : World) (g bs bm : Nat) (F : List Value) (ops : List (Option (Nat × Value))) (ns : List Nat) (new : Nat → List UInt8) (us : List Value) : Prop where
  disk : DiskP wr g bs bm F (ops ++ (mkW (fun i => 1 + i) (List.range ns.length) us).map some)
  dat : ∀ (i n : Nat) (v : Value), ns[i]? = some n → us[i]? = some v → Dat [g, bs, bm] wr v (new n)
  sl : ∀ v ∈ us, ∃ a k c, v = .slice a k c
  fr : Fr [g, bs, bm] w wr
  le : us.length ≤ ns.length
theorem LgI.step {w wr w5 : World} {g bs bm : Nat} {F : List Value} {ops : List (Option (Nat × Value))} {ns : List Nat} {new : Nat → List UInt8} {us : List Value} (I : LgI w wr g bs bm F ops ns new us) {n : Nat} {u : Value} (hn : ns[us.length]? = some n) (hf : Fr [g, bs, bm] wr w5) (hu : ∃ a k c, u = .slice a k c) (hd : Dat [g, bs, bm] w5 u (new n))
    (D : DiskP w5 g bs bm F (ops ++ (mkW (fun i => 1 + i) (List.range ns.length) us).map some ++ [some (1 + us.length, u)])) : LgI w w5 g bs bm F ops ns new (us ++ [u]) := by
  have hlt := (List.getElem?_eq_some_iff.1 hn).1
  have hrg : (List.range ns.length)[us.length]? = some us.length := List.getElem?_range hlt
  refine ⟨?_, fun i k v h1 h2 => ?_, fun v hv => ?_, I.fr.trans hf, ?_⟩
  · rw [mkW_snoc _ u hrg, List.map_append, ← List.append_assoc]; exact D
  · rw [List.getElem?_append] at h2
    split at h2
    · exact RdN.fr (I.dat i k v h1 h2) hf (fun k hk => .inl hk)
    · rw [List.getElem?_singleton] at h2
      split at h2
      · obtain rfl : i = us.length := by omega
        rw [hn] at h1
        cases h1; cases h2
        exact hd
      · cases h2
  · rcases List.mem_append.1 hv with h | h
    · exact I.sl v h
    · simp at h; subst h; exact hu
  · simp; omega
set_option maxRecDepth 100000 in
set_option maxHeartbeats 8000000 in
theorem commit_any (w : World) {p g bs bm s M : Nat} {F : List Value} {ops : List (Option (Nat × Value))} (L : LogAt w p g s) (D : DiskP w g bs bm F ops) (hp : p ∉ [g, bs, bm]) (h0 : (play F ops).2 = []) (hF : F.length ≤ 4096) (hM : F.length = s + 1 + M) (hs : s ≤ 100) (hO : ops.length ≤ 80000) (pv : Value) (ps : List (Nat × Value)) (hps : RdPg w pv ps) (hne : ps ≠ []) (hl : ps.length ≤ s) (hn : ∀ x ∈ ps, x.1 < M) (hnd : (ps.map (·.1)).Nodup)
    (new : Nat → List UInt8) (hd : ∀ x ∈ ps, Dat [g, bs, bm] w x.2 (new x.1)) (h5 : ∀ x ∈ ps, (new x.1).length = 512) (ns : List Nat) (hns : ns.Perm (ps.map (·.1))) (hr : ns.Pairwise (· < ·)) :
    Calls Tryz.prog 28 #[.pointer (some ⟨p, 0, none⟩), pv] w fun e w' => e = .returned (.int .i64 0) ∧ Fr [g, bs, bm] w w' ∧ ∃ us uh vs vh, us.length = ns.length ∧ vs.length = ns.length ∧ (∀ v ∈ uh :: vh :: (us ++ vs), ∃ a k c, v = .slice a k c) ∧
      (∀ (i n : Nat) (v : Value), ns[i]? = some n → us[i]? = some v → Dat [g, bs, bm] w' v (new n)) ∧ Dat [g, bs, bm] w' uh (hdB ns) ∧ (∀ (i n : Nat) (v : Value), ns[i]? = some n → vs[i]? = some v → Dat [g, bs, bm] w' v (new n)) ∧ Dat [g, bs, bm] w' vh (hdB []) ∧ DiskP w' g bs bm F (ops ++ comOps s ns us uh vs vh) := by
  have hsl : ∀ x ∈ ps, ∃ a k c, x.2 = .slice a k c := fun x hx => by
    obtain ⟨a, c, e, _⟩ := RdN.open (hd x hx)
    exact ⟨a, _, c, e⟩
  have A1 := (Fr.refl [] w).alloc (.cells #[.pointer (some ⟨p, 0, none⟩)] 27)
  have R1 := heap_alloc_new w (.cells #[.pointer (some ⟨p, 0, none⟩)] 27)
  have kb : (w.alloc (.cells #[.pointer (some ⟨p, 0, none⟩)] 27)).cell? ⟨w.heap.size, 0, none⟩ = some (.pointer (some ⟨p, 0, none⟩)) := (cell_of_row _ _ 0 _ _ _ R1).trans rfl
  have HC := Lib.hid (capacity_any (w.alloc (.cells #[.pointer (some ⟨p, 0, none⟩)] 27)) (L.fr A1 (by simp)) hs)
  have HCT := Lib.hid (contains_any (w.alloc (.cells #[.pointer (some ⟨p, 0, none⟩)] 27)) kb (L.fr A1 (by simp)) ((D.nil h0).fr A1 (by simp)) hM hF pv ps (hps.below (A1.below (Nat.le_refl _) (by simp))) (by omega) hn hsl)
  have hmm := @run_makeMap Tryz.prog
  have l0 : (ps.length : Int) ≤ (s : Int) := by omega
  have l1 : ¬ (ps.length : Int) = 0 := by have := List.length_pos_iff.2 hne; omega
  have l2 : (s : Int) ≤ 100 := by omega
  have HL := Lib.hid L; have HD := Lib.hid D; have HPS := Lib.hid hps; have HN := Lib.hid hn; have HND := Lib.hid hnd; have HDT := Lib.hid hd; have H5 := Lib.hid h5; have HNS := Lib.hid hns; have HR := Lib.hid hr; have HSL := Lib.hid hsl; have HA := Lib.hid A1
  obtain ⟨pa, pc, rfl, _⟩ := hps
  clear L D hn hnd hd h5 hns hr hsl A1 R1
  go_enter Tryz.func28, Tryz.ntmps28
  go_wp2_with fail
  have hWs : (w.alloc (.cells #[.pointer (some ⟨p, 0, none⟩)] 27)).heap.size = w.heap.size + 1 := by simp
  generalize w.alloc (.cells #[.pointer (some ⟨p, 0, none⟩)] 27) = W1 at *
  obtain ⟨bx, hbx⟩ : ∃ x, x = w.heap.size := ⟨_, rfl⟩
  rw [← hbx] at kb HCT hWs ⊢
  have HBX := Lib.hid hbx; have HWS := Lib.hid hWs
  clear hbx hWs
  refine HC.out.mono ?_
  rintro r w1 ⟨rfl, rfl⟩
  clear HC
  go_wp2_with fail
  refine HCT.out.mono ?_
  rintro r w2 ⟨rfl, hb2⟩
  have HB2 := Lib.hid hb2
  have kb2 := hb2.cell (block_lt_of_cell kb)
  rw [kb] at kb2
  clear hb2 HCT kb
  go_wp2_with fail
  have A3 := (Fr.refl [] w2).alloc (.map #[] 0)
  have F3 := Lib.hid ((HA.out.trans (Fr.of_below HB2.out)).trans A3)
  have kb3 := A3.cell (p := ⟨bx, 0, none⟩) (by simp) kb2
  have M3 := Lib.hid (show MpI (w2.alloc (.map #[] 0)) (w2.alloc (.map #[] 0)) w2.heap.size ps 0 [] 0 from ⟨heap_alloc_new w2 _, by simp, by simp, by simp, Fr.refl _ _⟩)
  have HMB := Lib.hid (show w2.heap.size < (w2.alloc (.map #[] 0)).heap.size ∧ bx < w2.heap.size ∧ w.heap.size ≤ bx from ⟨by simp, block_lt_of_cell (a := ⟨bx, 0, none⟩) kb2, by rw [HBX.out]; exact Nat.le_refl _⟩)
  clear hmm kb2 A3 HA HB2
  generalize w2.alloc (.map #[] 0) = W3 at *
  generalize w2.heap.size = mb at *
  go_loopw [31] (fun i wr => ∃ (j : Nat) (T : List Ent) (cl : Nat), j ≤ ps.length ∧ i = .int .i64 (j : Int) ∧ MpI W3 wr mb ps j T cl) (fun i _ => ((ps.length : Int) - intOf i).toNat)
  case atStart => exact ⟨0, [], 0, by omega, by simp, M3.out⟩
  clear M3
  case round =>
    obtain ⟨j, T, cl, hj, rfl, hI⟩ := hrel
    have HI := Lib.hid hI
    clear hI
    by_cases hlt : j < ps.length
    · obtain ⟨⟨n, v⟩, hx⟩ : ∃ x, ps[j]? = some x := ⟨ps[j], List.getElem?_eq_getElem hlt⟩
      obtain ⟨b, off, rfl, c0, c1⟩ := HPS.out.at j _ hx
      obtain ⟨va, vk, vc, hv⟩ := HSL.out _ (List.mem_of_getElem? hx)
      simp only at hv c0 c1
      subst hv
      have hbm : b ∉ [mb] := by
        have h1 := block_lt_of_cell c0
        have := HMB.out
        simp only [List.mem_singleton]
        intro e; subst e
        simp only at h1; omega
      have d0 : wr.cell? ⟨b, off + j * 2, none⟩ = some (.int .i64 (n : Int)) := HI.out.fr.cell (p := ⟨b, off + j * 2, none⟩) hbm (F3.out.cell (by simp) c0)
      have d1 : wr.cell? ⟨b, off + j * 2 + 1, none⟩ = some (.slice va vk vc) := HI.out.fr.cell (p := ⟨b, off + j * 2 + 1, none⟩) hbm (F3.out.cell (by simp) c1)
      have hk512 : vk = 512 := by
        have h1 := HDT.out _ (List.mem_of_getElem? hx)
        have h2 := H5.out _ (List.mem_of_getElem? hx)
        obtain ⟨a', c', e, _⟩ := RdN.open h1
        simp only [Value.slice.injEq, List.length_map] at e
        rw [e.2.1]; exact h2
      subst hk512
      have hfr : ∀ e ∈ T, e.k ≠ n := fun e he q => by
        have h1 : e.k ∈ (ps.take j).map (·.1) := by rw [← HI.out.keys]; exact List.mem_map.2 ⟨e, he, rfl⟩
        obtain ⟨i, hi⟩ := List.getElem?_of_mem h1
        have hil : i < j := by
          have := (List.getElem?_eq_some_iff.1 hi).1
          simp at this; omega
        rw [List.getElem?_map, List.getElem?_take, if_pos hil] at hi
        have h2 : (ps.map (·.1))[i]? = some n := by rw [List.getElem?_map, hi, q]
        have h3 : (ps.map (·.1))[j]? = some n := by rw [List.getElem?_map, hx]; rfl
        obtain ⟨l2, e2⟩ := List.getElem?_eq_some_iff.1 h2
        obtain ⟨l3, e3⟩ := List.getElem?_eq_some_iff.1 h3
        exact List.pairwise_iff_getElem.1 HND.out i j l2 l3 hil (e2.trans e3.symm)
      have HX := Lib.hid hx; have HFR := Lib.hid hfr
      have j0 : (j : Int) < (ps.length : Int) := by omega
      have hm4 := ((Fr.refl [] wr).alloc (.cells #[.int .i64 (n : Int), .slice va 512 vc] 77)).heap (by simp) HI.out.map
      have hlk := run_pg_none hm4 n hfr
      have hup := run_pg_update hm4 n hfr (.slice va 512 vc) (.slice va 512 vc)
      have HST := Lib.hid (HI.out.step hx HMB.out.1 ((Fr.refl [] wr).alloc (.cells #[.int .i64 (n : Int), .slice va 512 vc] 77)))
      clear hx c0 c1 hfr hbm hm4
      generalize Obj.map ((T ++ [(⟨n, .slice va 512 vc, .slice va 512 vc, cl⟩ : Ent)]).map Ent.obj).toArray (cl + 1) = ob at hup HST
      go_wp2_with fail
      exact ⟨⟨j + 1, _, _, by omega, by simp, HST.out⟩, by simp [intOf]; omega⟩
    · obtain rfl : j = ps.length := by omega
      have hents := HI.out.ents
      have hkeys := HI.out.keys
      rw [List.take_length] at hents hkeys
      have hTl : T.length = ps.length := by rw [← hents, List.length_map]
      obtain ⟨D0, hown, hsz, hperm⟩ := pg_owns HI.out.map HI.out.born HI.out.nd (by rw [hkeys]; exact HND.out) (fun e he => by
        have h1 : (e.k, e.sl) ∈ ps := by rw [← hents]; exact List.mem_map.2 ⟨e, he, rfl⟩
        have := HN.out _ h1
        simp only at this; omega) (by omega)
      have hnsT : (T.map fun e => (e.k : Int)).Perm (ns.map fun (n : Nat) => (n : Int)) := by
        have h1 : (T.map fun e => (e.k : Int)) = (T.map (·.k)).map fun (n : Nat) => (n : Int) := by rw [List.map_map]; rfl
        rw [h1, hkeys]
        exact (HNS.out.symm.map _)
      have HSO := Lib.hid (sorted_any wr mb T.length D0 _ hown hsz)
      have HKY := Lib.hid (keys_any (some mb) wr)
      have HPM := Lib.hid (hperm.trans hnsT)
      have HEN := Lib.hid hents; have HKE := Lib.hid hkeys
      have hFw := Lib.hid (show Fr [] w wr from F3.out.then HI.out.fr (fun x hx => .inr (by simp at hx; subst hx; have := HMB.out; omega)))
      have kbr := HI.out.fr.cell (p := ⟨bx, 0, none⟩) (by have := HMB.out; simp; omega) kb3
      have HMP := Lib.hid HI.out.map
      clear hents hkeys hTl hown hsz hperm hnsT HI kb3
      go_wp2_with fail
      refine HKY.out.mono ?_
      rintro r w4 ⟨rfl, rfl⟩
      go_wp2_with fail
      refine HSO.out.mono ?_
      rintro r w5 ⟨v, ss, rfl, hss, hrow, hb5⟩
      have hsort := sorted_is (hss.trans HPM.out) HR.out
      have hlen : ss.length = ns.length := by rw [(hss.trans HPM.out).length_eq, List.length_map]
      rw [hsort, hlen] at hrow
      obtain ⟨na, nc, rfl⟩ := own_slice hrow
      have hF5 := (hFw.out.trans ((Fr.refl [] wr).alloc (.cells #[.map (some mb)] 62))).trans (Fr.of_below (S := []) hb5)
      have hF5r := ((Fr.refl [] wr).alloc (.cells #[.map (some mb)] 62)).trans (Fr.of_below (S := []) hb5)
      have hsw := hFw.out.size
      have HNV := Lib.hid (show RdN 3 [g, bs, bm] w5 (.slice na ns.length nc) (ns.map fun (n : Nat) => Value.int .i64 (n : Int)) by
        have h := RdN_of_owns (S := [g, bs, bm]) hrow (fun k hk => by have := HD.out.lt; simp at hk ⊢; omega)
        rw [List.map_map] at h
        exact h)
      have kb5 := hF5r.cell (p := ⟨bx, 0, none⟩) (by simp) kbr
      have M5 := Lib.hid (hF5r.heap (by simp) HMP.out)
      have F5 := Lib.hid hF5
      have D5 := Lib.hid (HD.out.fr hF5 (by simp))
      have L5 := Lib.hid (HL.out.fr hF5 (by simp))
      have DT5 := Lib.hid (fun x hx => RdN.fr (HDT.out x hx) hF5 (by simp))
      have I0 := Lib.hid (show LgI w5 w5 g bs bm F ops ns new [] from ⟨by rw [mkW_nil]; simpa using D5.out, fun i n v _ h => by simp at h, by simp, Fr.refl _ _, by simp⟩)
      have HNX := Lib.hid (show bx ∉ [g, bs, bm] ∧ mb ∉ [g, bs, bm] by have := HD.out.lt; have := HMB.out; simp; omega)
      have l3 : (ns.length : Int) ≤ 100 := by have := HNS.out.length_eq; simp at this; omega
      have HNL := Lib.hid (show ns.length = ps.length by have := HNS.out.length_eq; simpa using this)
      clear hss hb5 hsort hlen hrow hF5 hF5r hsw kbr hFw HMP HSO HKY HPM
      go_wp2_with fail
      go_loopw [57] (fun i wr => ∃ us : List Value, i = .int .i64 (us.length : Int) ∧ LgI w5 wr g bs bm F ops ns new us) (fun i _ => ((ns.length : Int) - intOf i).toNat)
      case atStart => exact ⟨[], by simp, I0.out⟩
      clear I0
      case round =>
        obtain ⟨us, rfl, hI⟩ := hrel
        have HI := Lib.hid hI
        clear hI
        by_cases hlt : us.length < ns.length
        · obtain ⟨n, hnj⟩ : ∃ n, ns[us.length]? = some n := ⟨ns[us.length], List.getElem?_eq_getElem hlt⟩
          obtain ⟨e, heT, rfl⟩ : ∃ e ∈ T, e.k = n := by
            have h1 : n ∈ T.map (·.k) := by rw [HKE.out]; exact HNS.out.mem_iff.1 (List.mem_of_getElem? hnj)
            obtain ⟨e, h2, h3⟩ := List.mem_map.1 h1
            exact ⟨e, h2, h3⟩
          have hep : (e.k, e.sl) ∈ ps := by rw [← HEN.out]; exact List.mem_map.2 ⟨e, heT, rfl⟩
          obtain ⟨b, off, hx, hcell⟩ : ∃ b off, na = some ⟨b, off, none⟩ ∧ wr.cell? ⟨b, off + us.length, none⟩ = some (.int .i64 (e.k : Int)) := by
            obtain ⟨a', c', e', hc⟩ := (RdN.fr HNV.out HI.out.fr (fun k hk => .inl hk)).rd.open
            simp only [Value.slice.injEq] at e'
            rw [e'.1]
            exact hc us.length _ (by rw [List.getElem?_map, hnj]; rfl)
          subst hx
          have hdat := RdN.fr (DT5.out _ hep) HI.out.fr (fun k hk => .inl hk)
          simp only at hdat
          have hmr := HI.out.fr.heap HNX.out.2 M5.out
          have hlk := run_pg_some (w := wr.drew) hmr e heT (by rw [HKE.out]; exact HND.out)
          have hpl : play F (ops ++ (mkW (fun i => 1 + i) (List.range ns.length) us).map some) = ((play F ops).1, mkW (fun i => 1 + i) (List.range ns.length) us) := play_writes h0 _
          have HW := Lib.hid (dpw_any wr.drew (HI.out.disk.fr (U := []) (Fr.drew _) (by simp)) hF (by have := HI.out.le; simp [mkW]; omega) (1 + us.length) (by have := HNL.out; omega) (by
            rw [hpl]; intro x hx
            obtain ⟨i, k, h1, h2, h3⟩ := mkW_mem (i := x.1) (v := x.2) hx
            have h4 := (List.getElem?_eq_some_iff.1 h2).1
            rw [List.getElem?_range (by omega)] at h1
            cases h1
            omega) e.sl (new e.k) (RdV.below (RdN.rd hdat) ((Fr.drew (S := []) wr).below (Nat.le_refl _) (by simp))) (H5.out _ hep))
          have e2 : (1 : Int) + (us.length : Int) = ((1 + us.length : Nat) : Int) := by omega
          rw [← e2] at HW
          have k0 := cell_dr (HI.out.fr.cell (p := ⟨bx, 0, none⟩) HNX.out.1 kb5)
          have k1 := cell_dr (HI.out.fr.cell (p := ⟨p, 0, none⟩) hp L5.out.c0)
          have W1 : IntKind.i64.wrap ((1 : Int) + (us.length : Int)) = 1 + (us.length : Int) := by rw [IntKind.wrap_i64]; omega
          have i0 : (us.length : Int) < (ns.length : Int) := by omega
          have HJ := Lib.hid hnj
          obtain ⟨j, hj⟩ : ∃ j, j = us.length := ⟨_, rfl⟩
          have HJL := Lib.hid hj
          rw [← hj] at HW W1 hcell i0 ⊢
          obtain ⟨k, hk⟩ : ∃ k, k = e.k := ⟨_, rfl⟩
          obtain ⟨sv, hsv⟩ : ∃ v, v = e.sl := ⟨_, rfl⟩
          rw [← hk] at hlk hcell
          rw [← hsv] at hlk HW
          have HKK := Lib.hid hk
          clear hnj hdat hmr hpl e2 hep heT hj hsv hk
          go_wp2_with fail
          go_region_with (refine HW.out.mono ?_; rintro r w6 ⟨rfl, hf6, u, hu, hd, D6⟩; (have HF6 := Lib.hid (((Fr.drew wr) : Fr [g, bs, bm] wr wr.drew).trans hf6)); (have HU := Lib.hid hu); (have HDU := Lib.hid hd); (have HD6 := Lib.hid D6); clear hf6 hu hd D6)
          all_goals (
            have HNN := Lib.hid (HI.out.step HJ.out HF6.out HU.out HDU.out (HJL.out ▸ HD6.out))
            clear k0 k1 W1 HW HI HF6 HU HDU HD6 hcell hlk
            go_wp2_with fail
            exact ⟨⟨us ++ [u], by simp [HJL.out], HNN.out⟩, by simp [intOf]; omega⟩)
        · have hl2 : us.length = ns.length := by have := HI.out.le; omega
          obtain ⟨Wm, hWm⟩ : ∃ m, m = mkW (fun i => 1 + i) (List.range ns.length) us := ⟨_, rfl⟩
          have hpl : play F (ops ++ Wm.map some) = ((play F ops).1, Wm) := play_writes h0 _
          have hD := HI.out.disk
          rw [← hWm] at hD
          have hlm : Wm.length ≤ 100 := by rw [hWm]; simp [mkW]; omega
          have HFL := Lib.hid (dpf_any wr hD hF (by simp; omega))
          have HPL := Lib.hid hpl; have HL2 := Lib.hid hl2; have HLM := Lib.hid hlm; have HWM := Lib.hid hWm
          have k0 := HI.out.fr.cell (p := ⟨bx, 0, none⟩) HNX.out.1 kb5
          have k1 := HI.out.fr.cell (p := ⟨p, 0, none⟩) hp L5.out.c0
          rw [hl2]
          clear hpl hl2 hlm hlt hD hWm
          go_wp2_with fail
          refine HFL.out.mono ?_
          rintro r w6 ⟨rfl, hf6, D6⟩
          have k2 := hf6.cell (p := ⟨bx, 0, none⟩) HNX.out.1 k0
          have hnb : ∀ n ∈ ns, n < M := fun n hn => by
            obtain ⟨x, h1, h2⟩ := List.mem_map.1 (HNS.out.mem_iff.1 hn)
            have := HN.out x h1
            omega
          have L6 := L5.out.fr (HI.out.fr.trans hf6) hp
          have hw6 : play F (ops ++ Wm.map some ++ [none]) = (fluP (play F ops).1 Wm, []) := by rw [play_snoc, HPL.out]; rfl
          have HSH := Lib.hid (setHead_any w6 (s := s) L6 D6 hp (by rw [hw6]) hF (by omega) (by have := HLM.out; simp; omega) (.slice na ns.length nc) ns (RdN.fr HNV.out (HI.out.fr.trans hf6) (fun k hk => .inl hk)).rd (by omega) (fun n hn => by have := hnb n hn; omega))
          have HF6 := Lib.hid hf6; have HNB := Lib.hid hnb; have HW6 := Lib.hid hw6
          clear hf6 D6 HFL k0 k1 L6 hnb hw6
          go_wp2_with fail
          refine HSH.out.mono ?_
          rintro r w7 ⟨rfl, hf7, uh, huh, hduh, D7⟩
          have k3 := hf7.cell (p := ⟨bx, 0, none⟩) HNX.out.1 k2
          have hfr7 := (HI.out.fr.trans HF6.out).trans hf7
          have hw7 : play F (ops ++ Wm.map some ++ [none] ++ [some (0, uh), none]) = (fluP (fluP (play F ops).1 Wm) [(0, uh)], []) := by
            rw [show ops ++ Wm.map some ++ [none] ++ [some (0, uh), none] = ops ++ Wm.map some ++ [none] ++ [some (0, uh)] ++ [none] by simp, play_snoc, play_snoc, HW6.out]; rfl
          have HHM := Lib.hid (home_any w7 (s := s) (L5.out.fr hfr7 hp) D7 hp (by rw [hw7]) hF hM (by have := HLM.out; simp; omega) (.slice na ns.length nc) ns new (RdN.fr HNV.out hfr7 (fun k hk => .inl hk)) (by omega) (by have := HNL.out; omega) HNB.out HR.out (fun i n hi => by
            have hil := (List.getElem?_eq_some_iff.1 hi).1
            obtain ⟨v, hv⟩ : ∃ v, us[i]? = some v := ⟨us[i]'(by have := HL2.out; omega), List.getElem?_eq_getElem (by have := HL2.out; omega)⟩
            refine ⟨v, ?_, RdN.fr (HI.out.dat i n v hi hv) (HF6.out.trans hf7) (fun k hk => .inl hk)⟩
            rw [hw7]
            show (fluP (fluP (play F ops).1 Wm) [(0, uh)])[1 + i]? = some v
            rw [fluP_off (fun v hv => by simp at hv), HWM.out]
            refine fluP_on (List.mem_of_getElem? (mkW_at (f := fun i => 1 + i) (List.getElem?_range hil) hv)) (mkW_rise (by omega) List.pairwise_lt_range _) ?_
            rw [play_length]; have := HNL.out; omega) (fun n hn => by
            obtain ⟨x, h1, h2⟩ := List.mem_map.1 (HNS.out.mem_iff.1 hn)
            rw [← h2]; exact H5.out x h1))
          have HF7 := Lib.hid hf7; have HUH := Lib.hid huh; have HDU := Lib.hid hduh
          clear hf7 huh hduh D7 HSH k2 hfr7 hw7
          go_wp2_with fail
          refine HHM.out.mono ?_
          rintro r w8 ⟨rfl, hf8, vs, vh, hvl, hvs, hvd, hvh, D8⟩
          have hfin : Fr [g, bs, bm] w w8 ∧ ∃ us uh vs vh, us.length = ns.length ∧ vs.length = ns.length ∧ (∀ v ∈ uh :: vh :: (us ++ vs), ∃ a k c, v = .slice a k c) ∧ (∀ (i n : Nat) (v : Value), ns[i]? = some n → us[i]? = some v → Dat [g, bs, bm] w8 v (new n)) ∧ Dat [g, bs, bm] w8 uh (hdB ns) ∧ (∀ (i n : Nat) (v : Value), ns[i]? = some n → vs[i]? = some v → Dat [g, bs, bm] w8 v (new n)) ∧ Dat [g, bs, bm] w8 vh (hdB []) ∧ DiskP w8 g bs bm F (ops ++ comOps s ns us uh vs vh) := by
            refine ⟨((((F5.out.mono (by simp)).trans HI.out.fr).trans HF6.out).trans HF7.out).trans hf8, us, uh, vs, vh, HL2.out, hvl, fun v hv => ?_, fun i n v h1 h2 => RdN.fr (HI.out.dat i n v h1 h2) ((HF6.out.trans HF7.out).trans hf8) (fun k hk => .inl hk), RdN.fr HDU.out hf8 (fun k hk => .inl hk), hvd, hvh, ?_⟩
            · rcases List.mem_cons.1 hv with h | h
              · rw [h]; exact HUH.out
              · rcases List.mem_cons.1 h with h | h
                · rw [h]; exact hvs vh (by simp)
                · rcases List.mem_append.1 h with h | h
                  · exact HI.out.sl v h
                  · exact hvs v (by simp [h])
            · have e : ops ++ comOps s ns us uh vs vh = ops ++ Wm.map some ++ [none] ++ [some (0, uh), none] ++ homeOps s ns vs vh := by rw [HWM.out]; simp [comOps]
              rw [e]; exact D8
          have HFIN := Lib.hid hfin
          clear hfin hf8 hvl hvs hvd hvh D8 HHM k3 HF7 HUH HDU HF6 HI
          go_wp2_with fail
          go_ret
          exact ⟨rfl, HFIN.out⟩
end Go.Proofs.YtcblfkojkdaepaaGreat
