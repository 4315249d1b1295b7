/- The contract of (*Log).head. -/
import Derived.Test.YtcblfkojkdaepaaGreatHome
namespace Go.Proofs.YtcblfkojkdaepaaGreat
open Go.RowKit Go.ChangeMaps

theorem rd_drop {w : World} {b o n c : Nat} {l : List UInt8} (h : RdB w (.slice (some ⟨b, o, none⟩) n c) l) (hn : n = l.length) (k : Nat) (_ : k ≤ n) : RdB w (.slice (some ⟨b, o + k, none⟩) (n - k) (c - k)) (l.drop k) := by
  rcases h with ⟨h, _⟩ | ⟨a, cap, h, hle, hc⟩
  · cases h
  · simp only [Value.slice.injEq] at h
    obtain ⟨h1, _, rfl⟩ := h
    obtain rfl := Option.some.inj h1
    simp only [List.length_map] at hle
    refine .inr ⟨⟨b, o + k, none⟩, c - k, by simp [hn], by simp; omega, fun j u hj => ?_⟩
    obtain ⟨b', o', e, hcell⟩ := hc (k + j) u (by rw [List.map_drop, List.getElem?_drop] at hj; exact hj)
    simp only [Addr.mk.injEq] at e
    obtain ⟨rfl, rfl, _⟩ := e
    exact ⟨b, o + k, rfl, by rw [Nat.add_assoc]; exact hcell⟩
theorem allZ_zB : allZ zBytes = true := by
  unfold allZ
  rw [List.all_eq_true]
  intro x hx
  rw [List.eq_of_mem_replicate hx]; rfl
theorem rdB_cell {w : World} {b o n c i : Nat} {l : List UInt8} {x : UInt8} (h : RdB w (.slice (some ⟨b, o, none⟩) n c) l) (hi : l[i]? = some x) : w.cell? ⟨b, o + i, none⟩ = some (vB x) := by
  rcases h with ⟨h, _⟩ | ⟨a, cap, h, hle, hc⟩
  · cases h
  · simp only [Value.slice.injEq] at h
    obtain ⟨h1, _, _⟩ := h
    obtain rfl := Option.some.inj h1
    obtain ⟨b', o', e, hcell⟩ := hc i (vB x) (by rw [List.getElem?_map, hi]; rfl)
    simp only [Addr.mk.injEq] at e
    obtain ⟨rfl, rfl, _⟩ := e
    exact hcell
theorem allZ_hd (ns : List Nat) : allZ (hdB ns) = false := by
  unfold allZ hdB hdL
  simp
theorem hdB_len (ns : List Nat) (h : ns.length ≤ 100) : (hdB ns).length = 512 := by rw [← hdJ_full]; exact hdJ_len ns _ (Nat.le_refl _) h
theorem hdL_len (ns : List Nat) : (hdL ns).length = 4 + 2 * ns.length := by
  unfold hdL
  simp only [List.length_append, hd_two, List.length_cons, List.length_nil]
theorem hdB_rest (ns : List Nat) : allZ ((hdB ns).drop (4 + 2 * ns.length)) = true := by
  unfold hdB
  rw [← hdL_len ns, List.drop_left]
  unfold allZ
  simp
theorem two_at {l : List Nat} {j n : Nat} (h : l[j]? = some n) : ((l.map fun n => [UInt8.ofNat (n / 256), UInt8.ofNat n]).flatten)[2 * j]? = some (UInt8.ofNat (n / 256)) ∧ ((l.map fun n => [UInt8.ofNat (n / 256), UInt8.ofNat n]).flatten)[2 * j + 1]? = some (UInt8.ofNat n) := by
  induction l generalizing j with
  | nil => simp at h
  | cons x l ih =>
    cases j with
    | zero => simp at h; subst h; simp
    | succ j =>
      have := ih (by simpa using h)
      simp only [List.map_cons, List.flatten_cons]
      rw [show 2 * (j + 1) = 2 * j + 1 + 1 by omega]
      simpa using this
theorem hdB_two {ns : List Nat} {j n : Nat} (h : ns[j]? = some n) : ((hdB ns).drop (4 + 2 * j))[0]? = some (UInt8.ofNat (n / 256)) ∧ ((hdB ns).drop (4 + 2 * j))[1]? = some (UInt8.ofNat n) := by
  obtain ⟨h1, h2⟩ := two_at h
  have hl := (List.getElem?_eq_some_iff.1 h).1
  have hd := hd_two ns
  rw [List.getElem?_drop, List.getElem?_drop]
  unfold hdB hdL
  constructor
  · rw [List.getElem?_append_left (by simp only [List.length_append, hd, List.length_cons, List.length_nil]; omega), List.getElem?_append_right (by simp)]
    simpa [show 4 + 2 * j + 0 - 4 = 2 * j by omega] using h1
  · rw [List.getElem?_append_left (by simp only [List.length_append, hd, List.length_cons, List.length_nil]; omega), List.getElem?_append_right (by simp; omega)]
    simpa [show 4 + 2 * j + 1 - 4 = 2 * j + 1 by omega] using h2
theorem hdB_cnt (ns : List Nat) : ((hdB ns).drop 2)[0]? = some (UInt8.ofNat (ns.length / 256)) ∧ ((hdB ns).drop 2)[1]? = some (UInt8.ofNat ns.length) := by
  unfold hdB hdL
  exact ⟨rfl, rfl⟩
/-- The last number ahead of place j; -1. -/
def lastN (ns : List Nat) (j : Nat) : Int := match j with | 0 => -1 | j + 1 => ((ns[j]?.getD 0 : Nat) : Int)
theorem lastN_lt {ns : List Nat} (hr : ns.Pairwise (· < ·)) {j n : Nat} (h : ns[j]? = some n) : lastN ns j < (n : Int) := by
  cases j with
  | zero => show (-1 : Int) < _; omega
  | succ j =>
    obtain ⟨h1, h2⟩ := List.getElem?_eq_some_iff.1 h
    have h3 := List.pairwise_iff_getElem.1 hr j (j + 1) (by omega) h1 (by omega)
    unfold lastN
    simp only
    rw [List.getElem?_eq_getElem (by omega : j < ns.length)]
    simp only [Option.getD_some]
    omega
theorem lastN_next {ns : List Nat} {j n : Nat} (h : ns[j]? = some n) : lastN ns (j + 1) = (n : Int) := by
  unfold lastN; simp [h]
set_option maxRecDepth 100000 in
set_option maxHeartbeats 4000000 in
theorem head_any (w : World) {p g bs bm s M : Nat} {F : List Value} {ops : List (Option (Nat × Value))} (L : LogAt w p g s) (D : DiskP w g bs bm F ops) (h0 : (play F ops).2 = []) (hF : F.length ≤ 4096) (hM : F.length = s + 1 + M) (hs : s ≤ 100) (ns : List Nat) (hl : ns.length ≤ s) (hb : ∀ n ∈ ns, n < M) (hr : ns.Pairwise (· < ·))
    (v : Value) (l : List UInt8) (hv : (play F ops).1[0]? = some v) (hrd : RdB w v l) (hh : l = zBytes ∧ ns = [] ∨ l = hdB ns) :
    Calls Tryz.prog 18 #[.pointer (some ⟨p, 0, none⟩)] w fun e w' => ∃ na nc, e = .returned (.tuple #[.slice na ns.length nc, .bool true]) ∧ RdN 3 [g, bs, bm] w' (.slice na ns.length nc) (ns.map fun (n : Nat) => Value.int .i64 (n : Int)) ∧ Below w.heap.size w w' := by
  have hl5 : l.length = 512 := by
    rcases hh with ⟨rfl, _⟩ | rfl
    · exact zBytes_len
    · exact hdB_len ns (by omega)
  have HRD := Lib.hid (show Calls Tryz.prog 46 #[.pointer (some ⟨g, 0, none⟩), .int .i64 0] w fun e w' => ∃ q c, e = .returned (.tuple #[.slice (some ⟨q, 0, none⟩) 512 c, .int .i64 0]) ∧ RdB w' (.slice (some ⟨q, 0, none⟩) 512 c) l ∧ Below w.heap.size w w' from
    dpr_any w D hF 0 v hv (by rw [h0]; simp) l hrd hl5)
  have HL := Lib.hid L; have HD := Lib.hid D; have HB := Lib.hid hb; have HR := Lib.hid hr
  have c0 := L.c0
  have DL := Lib.hid D.lt
  clear L D hv hrd hb hr
  rcases hh with ⟨rfl, rfl⟩ | rfl
  · go_enter Tryz.func18, Tryz.ntmps18
    go_wp2_with fail
    refine HRD.out.mono ?_
    rintro r w1 ⟨q, c, rfl, h1, hb1⟩
    have HZ := Lib.hid (zeros_any w1 _ zBytes h1 (by rw [zBytes_len]; omega))
    rw [allZ_zB] at HZ
    have HB1 := Lib.hid hb1
    clear h1 hb1 HRD
    go_wp2_with fail
    refine HZ.out.mono ?_
    rintro r w2 ⟨rfl, hb2⟩
    have HB2 := Lib.hid (HB1.out.trans (hb2.mono HB1.out.size))
    clear hb2 HZ HB1 c0
    go_wp2_with fail
    go_ret2
    exact ⟨none, 0, rfl, .inl ⟨rfl, rfl⟩, HB2.out⟩
  · go_enter Tryz.func18, Tryz.ntmps18
    go_wp2_with fail
    refine HRD.out.mono ?_
    rintro r w1 ⟨q, c, rfl, h1, hb1⟩
    have hc5 : 512 ≤ c := by
      rcases h1 with ⟨h, _⟩ | ⟨a, cap, h, hle, _⟩
      · cases h
      · simp only [Value.slice.injEq] at h
        rw [h.2.2]; rw [List.length_map, hl5] at hle; exact hle
    have H1 := Lib.hid h1
    have HZ := Lib.hid (zeros_any w1 _ (hdB ns) h1 (by omega))
    rw [allZ_hd] at HZ
    have HB1 := Lib.hid hb1
    clear h1 hb1 HRD
    go_wp2_with fail
    refine HZ.out.mono ?_
    rintro r w2 ⟨rfl, hb2⟩
    have HB2 := Lib.hid (HB1.out.trans (hb2.mono HB1.out.size))
    have H2 := Lib.hid (H1.out.below hb2)
    clear hb2 HZ HB1 c0 H1
    have HT := Lib.hid (two_any w2 _ _ ns.length (rd_drop H2.out (by omega) 2 (by omega)) (hdB_cnt ns).1 (hdB_cnt ns).2 (by omega))
    simp only [Nat.zero_add, Nat.reduceSub] at HT
    have i2 : (2 : Int) ≤ (c : Int) := by omega
    go_wp2_with fail
    refine HT.out.mono ?_
    rintro r w3 ⟨rfl, hf3⟩
    have hb3 := hf3.below (Nat.le_refl _) (by simp)
    have HB3 := Lib.hid (HB2.out.trans (hb3.mono HB2.out.size))
    have H3 := Lib.hid (RdV.below H2.out hb3)
    have k0 : w3.cell? ⟨q, 0, none⟩ = some (.int .u8 68) := rdB_cell (i := 0) H3.out rfl
    have k1 : w3.cell? ⟨q, 1, none⟩ = some (.int .u8 78) := rdB_cell (i := 1) H3.out rfl
    have hpl := HB3.out.cell (p := ⟨p, 0, none⟩) (block_lt_of_cell HL.out.c0)
    have L3 := Lib.hid (HL.out.fr (Fr.of_below (S := []) HB3.out) (by simp))
    have HC := Lib.hid (capacity_any w3 L3.out hs)
    obtain ⟨k, hk⟩ : ∃ k, k = ns.length := ⟨_, rfl⟩
    have HK := Lib.hid hk
    have i3 : (k : Int) ≤ (s : Int) := by omega
    have i4 : (s : Int) ≤ 100 := by omega
    have i5 : (512 : Int) ≤ (c : Int) := by omega
    have hsk : decide (s < k) = false := by simp; omega
    rw [← hk]
    clear HT H2 hf3 hb3 HB2 hpl hk
    go_wp2_with fail
    refine HC.out.mono ?_
    rintro r w4 ⟨rfl, rfl⟩
    have HZ2 := Lib.hid (zeros_any w4 _ _ (rd_drop H3.out (by omega) (4 + 2 * k) (by have := HK.out; omega)) (by rw [List.length_drop]; omega))
    rw [HK.out, hdB_rest, ← HK.out] at HZ2
    simp only [Nat.zero_add] at HZ2
    clear HC k0 k1
    go_wp2_with fail
    refine HZ2.out.mono ?_
    rintro r w5 ⟨rfl, hb5⟩
    have HB5 := Lib.hid (HB3.out.trans (hb5.mono HB3.out.size))
    have H5 := Lib.hid (RdV.below H3.out hb5)
    clear hb5 HZ2 H3 HB3 L3
    obtain ⟨i0, hi, hz0, hz1, hz2⟩ := info_parts info_int
    go_wp2_with fail
    go_loopw [7, 8, 51] (fun la o i wr => ∃ j : Nat, j ≤ k ∧ la = .int .i64 (lastN ns j) ∧ i = .int .i64 (j : Int) ∧ wr.ownsRow w5.heap.size 3 1 o j ((ns.take j).map fun (n : Nat) => Value.int .i64 (n : Int)) ∧ Below w5.heap.size w5 wr) (fun _ _ i _ => ((k : Int) - intOf i).toNat)
    case atStart => exact ⟨0, by omega, rfl, by simp, by simpa using World.ownsRow_nil _ _ _ _, Below.refl _ _⟩
    case round =>
      obtain ⟨j, hj, rfl, rfl, hO, hB⟩ := hrel
      have HO := Lib.hid hO; have HBr := Lib.hid hB
      clear hO hB
      by_cases hlt : j < k
      · obtain ⟨n, hnj⟩ : ∃ n, ns[j]? = some n := ⟨ns[j]'(by have := HK.out; omega), List.getElem?_eq_getElem (by have := HK.out; omega)⟩
        have hnM := HB.out n (List.mem_of_getElem? hnj)
        have HT := Lib.hid (two_any wr _ _ n (rd_drop (RdV.below H5.out HBr.out) (by omega) (4 + 2 * j) (by have := HK.out; omega)) (hdB_two hnj).1 (hdB_two hnj).2 (by omega))
        simp only [Nat.zero_add] at HT
        have HLA := Lib.hid (lastN_lt HR.out hnj)
        have HLN := Lib.hid (lastN_next hnj)
        have HJ := Lib.hid hnj
        have j0 : (j : Int) < (k : Int) := by omega
        clear hnj
        go_wp2_with fail
        refine HT.out.mono ?_
        rintro r w6 ⟨rfl, hf6⟩
        have hB6 := HBr.out.trans (hf6.below (B := w5.heap.size) HBr.out.size (by simp))
        have hw6 := HB5.out.trans (hB6.mono HB5.out.size)
        have HPG := Lib.hid (pages_any w6 (HL.out.fr (Fr.of_below (S := []) hw6) (by simp)) ((HD.out.nil h0).fr (Fr.of_below (S := []) hw6) (by simp)) hM hF)
        have HO6 := Lib.hid (own_keep HO.out hf6 (by simp))
        have HB6 := Lib.hid hB6
        have la0 := HLA.out
        have n0 : (n : Int) < (M : Int) := by omega
        clear hf6 hB6 hw6 HT HO HBr
        generalize lastN ns j = la at *
        go_wp2_with fail
        refine HPG.out.mono ?_
        rintro r w7 ⟨rfl, nq, rfl⟩
        have HO7 := Lib.hid (own_keep HO6.out (Fr.drewN (S := []) w6 nq) (by simp))
        have HB7 := Lib.hid (HB6.out.trans ((Fr.drewN (S := []) w6 nq).below HB6.out.size (by simp)))
        clear HO6 HB6 HPG
        revert HO7 HB7
        generalize w6.drewN nq = w7
        intro HO7 HB7
        go_wp2_with (refine wpList_app rfl (.tmp 70) (.tmp 72) 48 rfl w5.heap.size 3 i0 (.int .i64 0) 8 Tryz.underlying48 hi hz0 hz1 hz2 rfl _ j ((ns.take j).map fun (n : Nat) => Value.int .i64 (n : Int)) rfl (HO7.out.alloc _) _ [.int .i64 (n : Int)] rfl (rd_one _ _ _) (by intro q hq; simp at hq; subst hq; rfl) ?d2 (by omega) ?d3 ?_)
        case d2 => simp; omega
        case d3 => have := HB7.out.size; simp; omega
        intro v' w8 hown hgr
        have HO8 := Lib.hid (show w8.ownsRow w5.heap.size 3 1 v' (j + 1) ((ns.take (j + 1)).map fun (n : Nat) => Value.int .i64 (n : Int)) by
          rw [List.map_take, List.take_add_one, List.getElem?_map, HJ.out]
          exact hown)
        have HB8 := Lib.hid ((HB7.out.alloc HB7.out.size _).grown hgr (by have := HB7.out.size; simp; omega) (fun x hx => (World.ownsRow.lt HO7.out x hx).1))
        clear hown hgr HO7 HB7
        go_wp2_with fail
        exact ⟨⟨j + 1, by omega, by rw [HLN.out], by simp, HO8.out, HB8.out⟩, by simp [intOf]; omega⟩
      · obtain rfl : j = k := by omega
        have hkk := HK.out
        subst hkk
        rw [List.take_length] at HO
        obtain ⟨va, vc, rfl⟩ := own_slice HO.out
        have HR2 := Lib.hid (show RdN 3 [g, bs, bm] wr (.slice va ns.length vc) (ns.map fun (n : Nat) => Value.int .i64 (n : Int)) from RdN_of_owns HO.out (fun k hk => by have := DL.out; have := HB5.out.size; simp at hk; omega))
        have HB9 := Lib.hid (HB5.out.trans (HBr.out.mono HB5.out.size))
        clear HO HBr
        go_wp2_with fail
        go_ret2
        exact ⟨va, vc, rfl, HR2.out, HB9.out⟩
end Go.Proofs.YtcblfkojkdaepaaGreat
