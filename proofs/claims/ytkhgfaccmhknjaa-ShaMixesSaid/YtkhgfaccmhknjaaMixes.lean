/- The law ShaMixes. -/
import Derived.Test.YtkhgfaccmhknjaaLive
import Derived.Test.YtkhgfaccmhknjaaCrcLaw
import Derived.Test.YtkhgfaccmhknjaaBit
import Derived.Test.YtkhgfaccmhknjaaChain
namespace Go.Proofs.Ytkhgfaccmhknjaa
open Go.RowKit

def at3 (l : List UInt8) (i : Nat) : UInt8 := l.getD i 0
theorem at3_is (l : List UInt8) (i : Nat) (h : i < l.length) : at3 l i = l[i] := by simp [at3, h]

/-- The box of three slices, and what was there. -/
structure BoxW (w wr : World) (va vb vc : Value) : Prop where
  box : wr.heap[w.heap.size]? = some (.cells #[va, vb, vc] 32 (0, 0))
  below : Below w.heap.size w wr
theorem BoxW.keep {w wr w1 : World} {va vb vc : Value} (M : BoxW w wr va vb vc) (hb : Below (w.heap.size + 1) wr w1) : BoxW w w1 va vb vc :=
  ⟨(hb.block _ (by omega)).trans M.box, M.below.trans (hb.mono (by omega))⟩
theorem BoxW.lt {w wr : World} {va vb vc : Value} (M : BoxW w wr va vb vc) : w.heap.size < wr.heap.size := (Array.getElem?_eq_some_iff.1 M.box).1
theorem BoxW.c0 {w wr : World} {va vb vc : Value} (M : BoxW w wr va vb vc) : wr.cell? ⟨w.heap.size, 0, none⟩ = some va := (cell_of_row wr _ 0 _ _ _ M.box).trans rfl
theorem BoxW.c1 {w wr : World} {va vb vc : Value} (M : BoxW w wr va vb vc) : wr.cell? ⟨w.heap.size, 1, none⟩ = some vb := (cell_of_row wr _ 1 _ _ _ M.box).trans rfl
theorem BoxW.c2 {w wr : World} {va vb vc : Value} (M : BoxW w wr va vb vc) : wr.cell? ⟨w.heap.size, 2, none⟩ = some vc := (cell_of_row wr _ 2 _ _ _ M.box).trans rfl

theorem crc_quiet (w : World) (n : Nat) (v : Value) (l : List UInt8) (hv : RdB w v l) (hl : l.length ≤ 140737488355328) :
    Calls Try.prog 13 #[v] (w.drewN n) fun e w'' => e = .returned (.int .u32 (n32 (crc l))) ∧ ∃ m, w'' = w.drewN m :=
  Calls.quiet_of_same ((crc_any (w.drewN n) v l hv hl).mono fun _ _ h => ⟨h.1, h.2.symm⟩)

/-- The round's relation. -/
def MixL (w : World) (va vb vc : Value) (la lb lc : List UInt8) (i m : Value) (wr : World) : Prop :=
  ∃ k : Nat, k ≤ la.length ∧ i = .int .i64 k ∧ BoxW w wr va vb vc ∧ wr.ownsRow (w.heap.size + 1) 5 1 m k ((mix3 (at3 la) (at3 lb) (at3 lc) k).map vB)

set_option maxRecDepth 100000 in
set_option maxHeartbeats 1000000 in
theorem mixes_one (w : World) (va vb vc : Value) (la lb lc : List UInt8) (ha : RdB w va la) (hb : RdB w vb lb) (hc : RdB w vc lc) (hne : ¬ (lb.length = la.length ∧ lc.length = la.length)) :
    Calls Try.prog 4 #[.agg #[va, vb, vc]] w fun e w' => e = .returned (.bool true) ∧ Below w.heap.size w w' := by
  obtain ⟨aa, ca, rfl, ga⟩ := ha.open
  obtain ⟨ab, cb, rfl, gb⟩ := hb.open
  obtain ⟨ac, cc, rfl, gc⟩ := hc.open
  clear ha hb hc ga gb gc
  have fin : ∀ o, Calls Try.prog 10 #[] (w.alloc o) fun e w' => e = .returned (.bool true) ∧ Hid (Below w.heap.size w w') := by
    intro o
    refine (live_any _).mono ?_
    rintro e w1 ⟨rfl, hb1⟩
    exact ⟨rfl, ((Below.refl w.heap.size w).alloc (Nat.le_refl _) o).trans (hb1.mono (by simp))⟩
  by_cases h1 : lb.length = la.length
  · have q1 : ((lb.length : Int) != la.length) = false := by simp [h1]
    have q2 : ((lc.length : Int) != la.length) = true := by simp; exact fun e => hne ⟨h1, by omega⟩
    clear h1 hne
    go_enter Try.func4, Try.ntmps4
    go_wp2_with fail
    refine (fin _).mono ?_
    rintro e w1 ⟨rfl, HB1⟩
    clear fin
    go_wp2
    go_ret
    exact ⟨rfl, HB1.out⟩
  · have q1 : ((lb.length : Int) != la.length) = true := by simp; exact fun e => h1 (by omega)
    clear h1 hne
    go_enter Try.func4, Try.ntmps4
    go_wp2_with fail
    refine (fin _).mono ?_
    rintro e w1 ⟨rfl, HB1⟩
    clear fin
    go_wp2
    go_ret
    exact ⟨rfl, HB1.out⟩

set_option maxRecDepth 100000 in
set_option maxHeartbeats 2000000 in
theorem mixes_all (w : World) (va vb vc : Value) (la lb lc : List UInt8) (ha : RdB w va la) (hb : RdB w vb lb) (hc : RdB w vc lc)
    (hl : la.length ≤ 140737488355200) (h1 : lb.length = la.length) (h2 : lc.length = la.length) :
    Calls Try.prog 4 #[.agg #[va, vb, vc]] w fun e w' => e = .returned (.bool true) ∧ Below w.heap.size w w' := by
  obtain ⟨aa, ca, rfl, ga⟩ := ha.open
  obtain ⟨ab, cb, rfl, gb⟩ := hb.open
  obtain ⟨ac, cc, rfl, gc⟩ := hc.open
  obtain ⟨i0, hi, hz0, hz1, hz2⟩ := info_parts info_u8
  have hcrc := crc_mix3 rfl h1 h2 (at3_is la) (at3_is lb) (at3_is lc)
  have HCRC := Lib.hid hcrc
  clear hcrc
  have H1 := Lib.hid h1; have H2 := Lib.hid h2
  rw [h1] at hb ⊢
  rw [h2] at hc ⊢
  clear h1 h2
  have HA := Lib.hid ha; have HB := Lib.hid hb; have HC := Lib.hid hc
  have GA := Lib.hid ga; have GB := Lib.hid gb; have GC := Lib.hid gc
  have hlz : (la.length : Int) ≤ 140737488355200 := by omega
  clear ha hb hc ga gb gc
  go_enter Try.func4, Try.ntmps4
  go_wp2_with fail
  have M0 : Hid (BoxW w (w.alloc (.cells #[.slice aa la.length ca, .slice ab la.length cb, .slice ac la.length cc] 32)) (.slice aa la.length ca) (.slice ab la.length cb) (.slice ac la.length cc)) :=
    ⟨heap_alloc_new w _, (Below.refl _ _).alloc (Nat.le_refl _) _⟩
  revert M0
  generalize w.alloc (.cells #[.slice aa la.length ca, .slice ab la.length cb, .slice ac la.length cc] 32) = w1
  intro M0
  go_loopw [5, 4] (fun i m wr => MixL w (.slice aa la.length ca) (.slice ab la.length cb) (.slice ac la.length cc) la lb lc i m wr) (fun i _ _ => la.length - (intOf i).toNat)
  case atStart => exact ⟨0, by omega, rfl, M0.out, World.ownsRow_nil _ _ _ _⟩
  case round =>
    obtain ⟨k, hk, rfl, M, O⟩ := hrel
    have k0 := M.c0; have k1 := M.c1; have k2 := M.c2
    have HM := Lib.hid M; have HO := Lib.hid O
    clear M O
    have hx1 := n8_xor
    by_cases hlt : k < la.length
    · have hlb : k < lb.length := by rw [H1.out]; exact hlt
      have hlc : k < lc.length := by rw [H2.out]; exact hlt
      obtain ⟨b1, o1, rfl, g1⟩ := GA.out k hlt
      obtain ⟨b2, o2, rfl, g2⟩ := GB.out k hlb
      obtain ⟨b3, o3, rfl, g3⟩ := GC.out k hlc
      have e1 := (HM.out.below.cell (p := ⟨b1, o1 + k, none⟩) (block_lt_of_cell g1)).trans g1
      have e2 := (HM.out.below.cell (p := ⟨b2, o2 + k, none⟩) (block_lt_of_cell g2)).trans g2
      have e3 := (HM.out.below.cell (p := ⟨b3, o3 + k, none⟩) (block_lt_of_cell g3)).trans g3
      have hs : mix3 (at3 la) (at3 lb) (at3 lc) (k + 1) = mix3 (at3 la) (at3 lb) (at3 lc) k ++ [la[k] ^^^ lb[k] ^^^ lc[k]] := by
        rw [mix3_succ, at3_is la k hlt, at3_is lb k hlb, at3_is lc k hlc]
      have HS := Lib.hid hs
      have hltz : (k : Int) < la.length := by omega
      have hl2 : (k + 1 + 64) * 1 ≤ 140737488355328 := by omega
      have HL2 := Lib.hid hl2
      have hml := mix3_len (at3 la) (at3 lb) (at3 lc) k
      have HML := Lib.hid hml
      generalize mix3 (at3 la) (at3 lb) (at3 lc) k = pre at *
      generalize la[k] = x at *
      generalize lb[k] = y at *
      generalize lc[k] = z at *
      clear hs hlb hlc hl2 hml
      go_wp2
      have f1 : b1 < w.heap.size + 1 := Nat.lt_succ_of_lt (block_lt_of_cell g1)
      have f2 : b2 < w.heap.size + 1 := Nat.lt_succ_of_lt (block_lt_of_cell g2)
      have f3 : b3 < w.heap.size + 1 := Nat.lt_succ_of_lt (block_lt_of_cell g3)
      have hq0 : w.heap.size < w.heap.size + 1 := Nat.lt_succ_self _
      have hbase : w.heap.size + 1 ≤ wr.heap.size := HM.out.lt
      clear g1 g2 g3
      go_region_held3 (fun w' => (w'.cell? ⟨w.heap.size, 0, none⟩ = some (.slice (some ⟨b1, o1, none⟩) la.length ca) ∧ w'.cell? ⟨w.heap.size, 1, none⟩ = some (.slice (some ⟨b2, o2, none⟩) la.length cb) ∧
          w'.cell? ⟨w.heap.size, 2, none⟩ = some (.slice (some ⟨b3, o3, none⟩) la.length cc)) ∧
          w'.cell? ⟨b1, o1 + k, none⟩ = some (.int .u8 (n8 x)) ∧ w'.cell? ⟨b2, o2 + k, none⟩ = some (.int .u8 (n8 y)) ∧ w'.cell? ⟨b3, o3 + k, none⟩ = some (.int .u8 (n8 z)))
        (first
          | go_keep
          | (go_split_ands
             exact ⟨⟨(hbn.cell (p := ⟨w.heap.size, 0, none⟩) hq0).trans (by assumption), (hbn.cell (p := ⟨w.heap.size, 1, none⟩) hq0).trans (by assumption), (hbn.cell (p := ⟨w.heap.size, 2, none⟩) hq0).trans (by assumption)⟩,
              (hbn.cell (p := ⟨b1, o1 + k, none⟩) f1).trans (by assumption), (hbn.cell (p := ⟨b2, o2 + k, none⟩) f2).trans (by assumption), (hbn.cell (p := ⟨b3, o3 + k, none⟩) f3).trans (by assumption)⟩))
        ((refine step_app1 (by rfl) _ _ 22 (by rfl) (w.heap.size + 1) 5 i0 (.int .u8 0) 1 Try.underlying22 hi hz0 hz1 hz2 rfl (by decide) u4 k _ (by rfl) HO.out.drew hbase (.int .u8 (n8 (x ^^^ y ^^^ z))) (by rfl) rfl (by omega) ?_; intro v5 w5 hown hbn))
      have M5 : Hid (BoxW w w5 (.slice (some ⟨b1, o1, none⟩) la.length ca) (.slice (some ⟨b2, o2, none⟩) la.length cb) (.slice (some ⟨b3, o3, none⟩) la.length cc)) :=
        HM.out.keep ⟨hbn.os, hbn.tape, hbn.output, hbn.size, hbn.block⟩
      have ee : pre.map vB ++ [Value.int .u8 (n8 (x ^^^ y ^^^ z))] = (pre ++ [x ^^^ y ^^^ z]).map vB := by simp [vB]
      rw [ee, ← HS.out] at hown
      have O5 := Lib.hid hown
      clear hown hbn HM HO ee HS e1 e2 e3 k0 k1 k2 f1 f2 f3 hq0 hbase hx1
      go_wp2
      go_roundw
      case rel => first | exact ⟨k + 1, by omega, by go_num, M5.out, O5.out⟩ | ((repeat apply Exists.intro); exact ⟨⟨k + 1, by omega, by go_num, M5.out, O5.out⟩, rfl⟩)
      case measure => simp [intOf]; omega
    · obtain rfl : k = la.length := by omega
      have HR := Lib.hid (RdV_of_owns HO.out)
      clear HO GA GB GC hk hlt hx1 M0
      go_wp2
      refine wp_region_chain_quiet 2 (by kernel_rfl) (by kernel_rfl) ?_
      simp only [List.take_succ_cons, List.take_zero, List.drop_succ_cons, List.drop_zero]
      have MD : Hid (BoxW w { wr with drawn := wr.drawn + 1 } (.slice aa la.length ca) (.slice ab la.length cb) (.slice ac la.length cc)) :=
        ⟨HM.out.box, ⟨HM.out.below.os, HM.out.below.tape, HM.out.below.output, HM.out.below.size, HM.out.below.block⟩⟩
      have RD : Hid (RdB { wr with drawn := wr.drawn + 1 } u4 (mix3 (at3 la) (at3 lb) (at3 lc) la.length)) := HR.out
      clear k0 k1 k2 HM HR
      revert MD RD
      generalize { wr with drawn := wr.drawn + 1 } = wd
      intro MD RD
      go_wp2_with fail
      refine (live_any wd).mono ?_
      rintro e w3 ⟨rfl, hb3⟩
      have M3 := Lib.hid (MD.out.keep (hb3.mono MD.out.lt))
      have R3 := Lib.hid (RdV.below RD.out hb3)
      clear hb3 MD RD
      have k0 := M3.out.c0; have k1 := M3.out.c1; have k2 := M3.out.c2
      have A3 := Lib.hid (RdV.below HA.out M3.out.below)
      have B3 := Lib.hid (RdV.below HB.out M3.out.below)
      have C3 := Lib.hid (RdV.below HC.out M3.out.below)
      have hml := mix3_len (at3 la) (at3 lb) (at3 lc) la.length
      generalize mix3 (at3 la) (at3 lb) (at3 lc) la.length = m at *
      have hm : m.length ≤ 140737488355328 := by omega
      have hlb : lb.length ≤ 140737488355328 := by have := H1.out; omega
      have hlc : lc.length ≤ 140737488355328 := by have := H2.out; omega
      have hla : la.length ≤ 140737488355328 := by omega
      have HC1 := HCRC.out
      clear HA HB HC hml
      go_wp2_with fail
      show wpQuiet _ _ _ _ _ _
      have q1 := fun n => crc_quiet w3 n _ m R3.out hm
      have q2 := fun n => crc_quiet w3 n _ la A3.out hla
      have q3 := fun n => crc_quiet w3 n _ lb B3.out hlb
      have q4 := fun n => crc_quiet w3 n _ lc C3.out hlc
      have Q1 := Lib.hid q1; have Q2 := Lib.hid q2; have Q3 := Lib.hid q3; have Q4 := Lib.hid q4
      have hx32 := n32_xor
      have heq : (n32 (crc m) == n32 (crc la ^^^ crc lb ^^^ crc lc)) = true := by rw [HC1]; simp
      have heq2 : (crc m == crc la ^^^ crc lb ^^^ crc lc) = true := by rw [HC1]; simp
      clear q1 q2 q3 q4 R3 A3 B3 C3 HC1 HCRC H1 H2
      quiet_step (fail)
      quiet_step (exact Q1.out _)
      iterate 2 quiet_step (fail)
      quiet_step (exact Q2.out _)
      iterate 2 quiet_step (fail)
      quiet_step (exact Q3.out _)
      iterate 3 quiet_step (fail)
      quiet_step (exact Q4.out _)
      repeat (quiet_step (fail))
      refine wpQuiet_nil ?_
      intro w' hw'
      obtain ⟨nq, rfl⟩ := hw'
      go_wp2
      go_ret
      exact ⟨rfl, ⟨M3.out.below.os, M3.out.below.tape, M3.out.below.output, M3.out.below.size, M3.out.below.block⟩⟩

theorem mixes_any (w : World) (va vb vc : Value) (la lb lc : List UInt8) (ha : RdB w va la) (hb : RdB w vb lb) (hc : RdB w vc lc) (hl : la.length ≤ 140737488355200) :
    Calls Try.prog 4 #[.agg #[va, vb, vc]] w fun e w' => e = .returned (.bool true) ∧ Below w.heap.size w w' := by
  by_cases h : lb.length = la.length ∧ lc.length = la.length
  · exact mixes_all w va vb vc la lb lc ha hb hc hl h.1 h.2
  · exact mixes_one w va vb vc la lb lc ha hb hc h
end Go.Proofs.Ytkhgfaccmhknjaa
