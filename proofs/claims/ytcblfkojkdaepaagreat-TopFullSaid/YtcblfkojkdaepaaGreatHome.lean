/- The contract of (*Log).home. -/
import Derived.Test.YtcblfkojkdaepaaGreatSetHead
namespace Go.Proofs.YtcblfkojkdaepaaGreat
open Go.RowKit Go.ChangeMaps

theorem play_app (F : List Value) (ops xs : List (Option (Nat × Value))) : play F (ops ++ xs) = xs.foldl stepP (play F ops) := by
  unfold play; rw [List.foldl_append]
theorem play_writes {F : List Value} {ops : List (Option (Nat × Value))} (h0 : (play F ops).2 = []) (m : List (Nat × Value)) : play F (ops ++ m.map some) = ((play F ops).1, m) := by
  rw [play_app]
  have : play F ops = ((play F ops).1, []) := by rw [← h0]
  rw [this, foldl_writes, List.nil_append]
theorem dpr_any (w : World) {g bs bm : Nat} {F : List Value} {ops : List (Option (Nat × Value))} (D : DiskP w g bs bm F ops) (hF : F.length ≤ 4096) (n : Nat) (v : Value) (h : (play F ops).1[n]? = some v) (hk : ∀ q ∈ (play F ops).2, q.1 ≠ n) (l : List UInt8) (hv : RdB w v l) (hl : l.length = 512) :
    Calls Tryz.prog 46 #[.pointer (some ⟨g, 0, none⟩), .int .i64 (n : Int)] w fun e w' => ∃ q c, e = .returned (.tuple #[.slice (some ⟨q, 0, none⟩) 512 c, .int .i64 0]) ∧ RdB w' (.slice (some ⟨q, 0, none⟩) 512 c) l ∧ Below w.heap.size w w' := by
  obtain ⟨T, D, hkv⟩ := D
  refine (dread_any w D (by rw [play_length]; exact hF) n v h (fun e he => hk (e.k, e.v) (by rw [← hkv]; exact List.mem_map.2 ⟨e, he, rfl⟩)) l hv hl).mono ?_
  rintro e w' ⟨q, c, rfl, _, ho, hb⟩
  exact ⟨q, c, rfl, RdV_of_owns ho, hb⟩
/-- While pages are brought home: vs so far. -/
structure HmI (w wr : World) (g bs bm s : Nat) (F : List Value) (ops : List (Option (Nat × Value))) (ns : List Nat) (new : Nat → List UInt8) (vs : List Value) : Prop where
  disk : DiskP wr g bs bm F (ops ++ (mkW (fun n => s + 1 + n) ns vs).map some)
  dat : ∀ (i n : Nat) (v : Value), ns[i]? = some n → vs[i]? = some v → Dat [g, bs, bm] wr v (new n)
  sl : ∀ v ∈ vs, ∃ a k c, v = .slice a k c
  fr : Fr [g, bs, bm] w wr
  le : vs.length ≤ ns.length
theorem HmI.step {w wr w5 : World} {g bs bm s : Nat} {F : List Value} {ops : List (Option (Nat × Value))} {ns : List Nat} {new : Nat → List UInt8} {vs : List Value} (I : HmI w wr g bs bm s F ops ns new vs) {n : Nat} {u : Value} (hn : ns[vs.length]? = some n) (hf : Fr [g, bs, bm] wr w5) (hu : ∃ a k c, u = .slice a k c) (hd : Dat [g, bs, bm] w5 u (new n))
    (D : DiskP w5 g bs bm F (ops ++ (mkW (fun n => s + 1 + n) ns vs).map some ++ [some (s + 1 + n, u)])) : HmI w w5 g bs bm s F ops ns new (vs ++ [u]) := by
  refine ⟨?_, fun i k v h1 h2 => ?_, fun v hv => ?_, I.fr.trans hf, ?_⟩
  · rw [mkW_snoc _ u hn, List.map_append, ← List.append_assoc]; exact D
  · rw [List.getElem?_append] at h2
    split at h2
    · exact RdN.fr (I.dat i k v h1 h2) hf (fun k hk => .inl hk)
    · rw [List.getElem?_singleton] at h2
      split at h2
      · obtain rfl : i = vs.length := by omega
        rw [hn] at h1
        cases h1; cases h2
        exact hd
      · cases h2
  · rcases List.mem_append.1 hv with h | h
    · exact I.sl v h
    · simp at h; subst h; exact hu
  · have := (List.getElem?_eq_some_iff.1 hn).1
    simp; omega
set_option maxRecDepth 100000 in
set_option maxHeartbeats 4000000 in
theorem home_any (w : World) {p g bs bm s M : Nat} {F : List Value} {ops : List (Option (Nat × Value))} (L : LogAt w p g s) (D : DiskP w g bs bm F ops) (hp : p ∉ [g, bs, bm]) (h0 : (play F ops).2 = []) (hF : F.length ≤ 4096) (hM : F.length = s + 1 + M) (hO : ops.length ≤ 90000) (nv : Value) (ns : List Nat) (new : Nat → List UInt8) (hn : RdN 3 [g, bs, bm] w nv (ns.map fun (n : Nat) => Value.int .i64 (n : Int))) (hl : ns.length ≤ 100) (hls : ns.length ≤ s) (hb : ∀ n ∈ ns, n < M) (hr : ns.Pairwise (· < ·))
    (hlog : ∀ (i n : Nat), ns[i]? = some n → At (Dat [g, bs, bm] w) (play F ops).1 (1 + i) (new n)) (h5 : ∀ n ∈ ns, (new n).length = 512) :
    Calls Tryz.prog 19 #[.pointer (some ⟨p, 0, none⟩), nv] w fun e w' => e = .returned (.tuple #[]) ∧ Fr [g, bs, bm] w w' ∧ ∃ vs vh, vs.length = ns.length ∧ (∀ v ∈ vh :: vs, ∃ a k c, v = .slice a k c) ∧ (∀ (i n : Nat) (v : Value), ns[i]? = some n → vs[i]? = some v → Dat [g, bs, bm] w' v (new n)) ∧ Dat [g, bs, bm] w' vh (hdB []) ∧ DiskP w' g bs bm F (ops ++ homeOps s ns vs vh) := by
  obtain ⟨na, nc, e, _⟩ := hn.rd.open
  rw [List.length_map] at e
  subst e
  have HL := Lib.hid L; have HNR := Lib.hid hn; have HBN := Lib.hid hb; have HLOG := Lib.hid hlog; have H5 := Lib.hid h5; have HRI := Lib.hid hr
  have I0 := Lib.hid (show HmI w w g bs bm s F ops ns new [] from ⟨by rw [mkW_nil]; simpa using D, fun i n v _ h => by simp at h, by simp, Fr.refl _ _, by simp⟩)
  have l0 : (ns.length : Int) ≤ 100 := by omega
  clear L D hn hb hlog h5 hr
  go_enter Tryz.func19, Tryz.ntmps19
  go_wp2_with fail
  go_loopw [10] (fun i wr => ∃ vs : List Value, i = .int .i64 (vs.length : Int) ∧ HmI w wr g bs bm s F ops ns new vs) (fun i _ => ((ns.length : Int) - intOf i).toNat)
  case atStart => exact ⟨[], by simp, I0.out⟩
  clear I0
  case round =>
    obtain ⟨vs, rfl, hI⟩ := hrel
    have HI := Lib.hid hI
    clear hI
    by_cases hlt : vs.length < ns.length
    · obtain ⟨n, hnj⟩ : ∃ n, ns[vs.length]? = some n := ⟨ns[vs.length], List.getElem?_eq_getElem hlt⟩
      have hnM := HBN.out n (List.mem_of_getElem? hnj)
      obtain ⟨b, off, hx, hcell⟩ : ∃ b off, na = some ⟨b, off, none⟩ ∧ wr.cell? ⟨b, off + vs.length, none⟩ = some (.int .i64 (n : Int)) := by
        obtain ⟨a', c', e, hc⟩ := (RdN.fr HNR.out HI.out.fr (fun k hk => .inl hk)).rd.open
        simp only [Value.slice.injEq] at e
        rw [e.1]
        exact hc vs.length _ (by rw [List.getElem?_map, hnj]; rfl)
      subst hx
      obtain ⟨v, hv1, hv2⟩ := HLOG.out vs.length n hnj
      have hS := HI.out.disk
      have hpl : play F (ops ++ (mkW (fun n => s + 1 + n) ns vs).map some) = ((play F ops).1, mkW (fun n => s + 1 + n) ns vs) := play_writes h0 _
      have HRD := Lib.hid (dpr_any wr hS hF (1 + vs.length) v (by rw [hpl]; exact hv1) (by
        rw [hpl]; intro q hq
        obtain ⟨j, k, h1, _, h3⟩ := mkW_mem (i := q.1) (v := q.2) hq
        omega) (new n) (RdN.rd (RdN.fr hv2 HI.out.fr (fun k hk => .inl hk))) (H5.out n (List.mem_of_getElem? hnj)))
      have e1 : (1 : Int) + (vs.length : Int) = ((1 + vs.length : Nat) : Int) := by omega
      rw [← e1] at HRD
      have HPL := Lib.hid hpl; have HJ := Lib.hid hnj
      have hc0 := HI.out.fr.cell (p := ⟨p, 0, none⟩) hp HL.out.c0
      have hc1 := HI.out.fr.cell (p := ⟨p, 1, none⟩) hp HL.out.c1
      have i0 : (vs.length : Int) < (ns.length : Int) := by omega
      clear hv1 hv2 hS hpl hnj e1
      obtain ⟨j, hj⟩ : ∃ j, j = vs.length := ⟨_, rfl⟩
      rw [← hj] at HRD HJ hcell i0 hlt ⊢
      have HJL := Lib.hid hj
      clear hj
      go_wp2_with fail
      refine HRD.out.mono ?_
      rintro r w5 ⟨q, c, rfl, hrd, hb⟩
      have hf5 : Fr [] wr w5.drew := (Fr.of_below hb).trans (Fr.drew _)
      have hnF : s + 1 + n < F.length := by omega
      have e2 : (s : Int) + 1 + (n : Int) = ((s + 1 + n : Nat) : Int) := by omega
      have HW := Lib.hid (dpw_any w5.drew (HI.out.disk.fr hf5 (by simp)) hF (by have := HI.out.le; simp [mkW]; omega) (s + 1 + n) hnF (by
        rw [HPL.out]; intro x hx
        obtain ⟨i, k, h1, h2, h3⟩ := mkW_mem (i := x.1) (v := x.2) hx
        have h4 := (List.getElem?_eq_some_iff.1 h2).1
        obtain ⟨h5a, h5b⟩ := List.getElem?_eq_some_iff.1 h1
        obtain ⟨h6a, h6b⟩ := List.getElem?_eq_some_iff.1 HJ.out
        have h7 := List.pairwise_iff_getElem.1 HRI.out i j h5a h6a (by rw [HJL.out]; exact h4)
        rw [h5b, h6b] at h7
        omega) (.slice (some ⟨q, 0, none⟩) 512 c) (new n) (RdV.below hrd ((Fr.drew (S := []) w5).below (Nat.le_refl _) (by simp))) (H5.out n (List.mem_of_getElem? HJ.out)))
      rw [← e2] at HW
      have k0 := hb.cell (p := ⟨p, 0, none⟩) (block_lt_of_cell hc0)
      have k1 := hb.cell (p := ⟨p, 1, none⟩) (block_lt_of_cell hc1)
      rw [hc0] at k0
      rw [hc1] at k1
      have k2 := cell_dr k0; have k3 := cell_dr k1
      have W1 : IntKind.i64.wrap ((s : Int) + 1) = (s : Int) + 1 := by rw [IntKind.wrap_i64]; omega
      have W2 : IntKind.i64.wrap ((s : Int) + 1 + (n : Int)) = (s : Int) + 1 + (n : Int) := by rw [IntKind.wrap_i64]; omega
      have HF5 := Lib.hid hf5
      clear hb hrd hc0 hc1 HRD hcell hf5 e2
      go_wp2_with fail
      go_region_with (refine HW.out.mono ?_; rintro r w6 ⟨rfl, hf6, u, hu, hd, D6⟩; (have HF6 := Lib.hid (((HF5.out.mono (by simp)) : Fr [g, bs, bm] wr w5.drew).trans hf6)); (have HU := Lib.hid hu); (have HD := Lib.hid hd); (have HD6 := Lib.hid D6); clear hf6 hu hd D6)
      all_goals (
        have HN := Lib.hid (HI.out.step (HJL.out ▸ HJ.out) HF6.out HU.out HD.out HD6.out)
        clear k0 k1 k2 k3 W1 W2 HW HI HF6 HU HD HD6 HF5
        go_wp2_with fail
        exact ⟨⟨vs ++ [u], by simp [HJL.out], HN.out⟩, by simp [intOf]; omega⟩)
    · have hl2 : vs.length = ns.length := by have := HI.out.le; omega
      have hpl : play F (ops ++ (mkW (fun n => s + 1 + n) ns vs).map some) = ((play F ops).1, mkW (fun n => s + 1 + n) ns vs) := play_writes h0 _
      have hlm : (mkW (fun n => s + 1 + n) ns vs).length ≤ 100 := by simp [mkW]; omega
      have HFL := Lib.hid (dpf_any wr HI.out.disk hF (by simp; omega))
      have HPL := Lib.hid hpl; have HL2 := Lib.hid hl2; have HLM := Lib.hid hlm
      have hc0 := HI.out.fr.cell (p := ⟨p, 0, none⟩) hp HL.out.c0
      rw [hl2]
      clear hpl hl2 hlm hlt
      go_wp2_with fail
      refine HFL.out.mono ?_
      rintro r w5 ⟨rfl, hf5, D5⟩
      have HSH := Lib.hid (setHead_any w5 (s := s) (HL.out.fr (HI.out.fr.trans hf5) hp) D5 hp (by rw [play_snoc]; rfl) hF (by omega) (by have := HLM.out; simp; omega) (.slice none 0 0) [] (.inl ⟨rfl, rfl⟩) (by simp) (by simp))
      have HF5 := Lib.hid hf5
      clear hf5 D5 HFL hc0
      go_wp2_with fail
      refine HSH.out.mono ?_
      rintro r w6 ⟨rfl, hf6, u, hu, hd, D6⟩
      have hfin : Fr [g, bs, bm] w w6 ∧ ∃ vs vh, vs.length = ns.length ∧ (∀ v ∈ vh :: vs, ∃ a k c, v = .slice a k c) ∧ (∀ (i n : Nat) (v : Value), ns[i]? = some n → vs[i]? = some v → Dat [g, bs, bm] w6 v (new n)) ∧ Dat [g, bs, bm] w6 vh (hdB []) ∧ DiskP w6 g bs bm F (ops ++ homeOps s ns vs vh) := by
        refine ⟨(HI.out.fr.trans HF5.out).trans hf6, vs, u, HL2.out, fun v hv => ?_, fun i n v h1 h2 => RdN.fr (HI.out.dat i n v h1 h2) (HF5.out.trans hf6) (fun k hk => .inl hk), hd, ?_⟩
        · rcases List.mem_cons.1 hv with h | h
          · rw [h]; exact hu
          · exact HI.out.sl v h
        · have e : ops ++ homeOps s ns vs u = ops ++ (mkW (fun n => s + 1 + n) ns vs).map some ++ [none] ++ [some (0, u), none] := by simp [homeOps]
          rw [e]; exact D6
      have HFIN := Lib.hid hfin
      clear hfin hf6 hu hd D6 HSH HF5
      go_wp2_with fail
      go_end0
      exact ⟨rfl, HFIN.out⟩
end Go.Proofs.YtcblfkojkdaepaaGreat
