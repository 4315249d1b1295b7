/- Contracts of a hasher's Sum and Len, and of sha.Sum: at whatever bytes (their length within a slice's own bound). -/
import Derived.Test.YtlkieepfjhiflaaEnd
namespace Go.Proofs.Ytlkieepfjhiflaa
open Go.RowKit

/-- The SHA-256 of bytes. -/
def sha (l : List UInt8) : List UInt8 := digest (finOf (stOf l) (restOf l) l.length)
theorem sha_len (l : List UInt8) : (sha l).length = 32 := digest_len _

theorem aB_size (l : List UInt8) : (aB l).size = l.length := by simp [aB]
theorem hash_info : (Try.prog.info? 33).map (·.size) = some 32 := by kernel_rfl
theorem aB_info {l : List UInt8} (h : l.length = 32) : (Try.prog.info? 33).map (·.size) = some (aB l).size := by rw [aB_size, h]; exact hash_info
/-- The result's box lies first, zeros. -/
def OutW (w wr : World) : Prop := Below w.heap.size w wr ∧ wr.heap[w.heap.size]? = some (.cells (rowG (fun _ => 0) 32) 33 (0, 0))
theorem out_start (w : World) (n : Nat) : OutW w ((w.alloc (.cells (rowG (fun _ => 0) 32) 33)).drewN n) := by
  have h : Below w.heap.size w (w.alloc (.cells (rowG (fun _ => 0) 32) 33)) := (Below.refl _ _).alloc (Nat.le_refl _) _
  exact ⟨⟨h.os, h.tape, h.output, h.size, h.block⟩, heap_alloc_new w _⟩
theorem OutW.below {w wr w1 : World} (M : OutW w wr) (hb : Below wr.heap.size wr w1) : OutW w w1 := by
  have hlt := (Array.getElem?_eq_some_iff.1 M.2).1
  exact ⟨M.1.trans (hb.mono (by omega)), (hb.block _ hlt).trans M.2⟩

set_option maxRecDepth 100000 in
set_option maxHeartbeats 1000000 in
theorem hsum_any (w : World) (b : Nat) (all : List UInt8) (hh : IsH w b all) (hl : all.length ≤ 140737488355328) :
    Calls Try.prog 18 #[.pointer (some ⟨b, 0, none⟩)] w fun e w' => e = .returned (.agg (aB (sha all))) ∧ Below w.heap.size w w' := by
  obtain ⟨rest, hb, hrest⟩ := hh
  obtain ⟨ra, rn, rc, rfl⟩ := RdV.slice hrest
  have hlt := (Array.getElem?_eq_some_iff.1 hb).1
  have C := fun k => cell_of_row w b k _ _ _ hb
  have hsh : sha all = digest (finOf (stOf all) (restOf all) all.length) := rfl
  have HSH := Lib.hid hsh
  obtain ⟨s, hs⟩ : ∃ s, s = stOf all := ⟨_, rfl⟩
  rw [← hs] at C HSH
  have k0 : w.cell? ⟨b, 0, none⟩ = some (.int .u32 (n32 s.a)) := (C 0).trans rfl
  have k1 : w.cell? ⟨b, 1, none⟩ = some (.int .u32 (n32 s.b)) := (C 1).trans rfl
  have k2 : w.cell? ⟨b, 2, none⟩ = some (.int .u32 (n32 s.c)) := (C 2).trans rfl
  have k3 : w.cell? ⟨b, 3, none⟩ = some (.int .u32 (n32 s.d)) := (C 3).trans rfl
  have k4 : w.cell? ⟨b, 4, none⟩ = some (.int .u32 (n32 s.e)) := (C 4).trans rfl
  have k5 : w.cell? ⟨b, 5, none⟩ = some (.int .u32 (n32 s.f)) := (C 5).trans rfl
  have k6 : w.cell? ⟨b, 6, none⟩ = some (.int .u32 (n32 s.g)) := (C 6).trans rfl
  have k7 : w.cell? ⟨b, 7, none⟩ = some (.int .u32 (n32 s.h)) := (C 7).trans rfl
  have k8 : w.cell? ⟨b, 8, none⟩ = some (.slice ra rn rc) := (C 8).trans rfl
  have k9 : w.cell? ⟨b, 9, none⟩ = some (.int .i64 all.length) := (C 9).trans rfl
  have HR := Lib.hid hrest
  clear C hb hrest hs hsh
  go_enter Try.func18, Try.ntmps18
  go_wp2
  refine wp_region_qtail_lit 12 (by kernel_rfl) (by kernel_rfl) ?_
  simp only [List.take_succ_cons, List.take_zero, List.drop_succ_cons, List.drop_zero]
  repeat (quiet_step (fail))
  refine wpQuiet_nil ?_
  intro w' hw'
  obtain ⟨nq, rfl⟩ := hw'
  go_wp2_with fail
  rw [litB32]
  have M := Lib.hid (out_start w nq)
  clear k0 k1 k2 k3 k4 k5 k6 k7 k8 k9
  revert M
  generalize (w.alloc (.cells (rowG (fun _ => 0) 32) 33)).drewN nq = w1
  intro M
  refine (end_any w1 s _ (restOf all) all.length (RdV.below HR.out M.out.1) (by rw [restOf_len]; omega) (by omega)).mono ?_
  rintro e w2 ⟨rfl, hb2⟩
  have M2 := M.out.below hb2
  have ho := M2.2
  have HB2 := Lib.hid M2.1
  rw [← HSH.out]
  clear M M2 hb2 HR HSH
  have hdl := sha_len all
  obtain ⟨d, hd⟩ : ∃ d, d = sha all := ⟨_, rfl⟩
  rw [← hd] at hdl ⊢
  have HD := Lib.hid hd; have HL := Lib.hid hdl
  clear hd hdl
  go_wp2_with (refine wpList_store_row rfl _ _ _ rfl w.heap.size (aB d) rfl rfl 33 (rowG (fun _ => 0) 32) ?ho ?hi ?hs (aB_one _) ?_)
  case ho => exact ho
  case hi => exact aB_info HL.out
  case hs => rw [aB_size, rowG_size, HL.out]
  exact bodyPost_ret (v := .agg (aB d)) (results_cell_row rfl _ _ w.heap.size 33 (aB d) (0, 0) _ rfl (setRow_heap _ _ _ _ _ _ ho) Try.underlying33 rfl (aB_info HL.out)) rfl ⟨by rw [HD.out], below_setRow HB2.out (Nat.le_refl _) _⟩

set_option maxRecDepth 100000 in
set_option maxHeartbeats 1000000 in
theorem hsum_nil (w : World) :
    Calls Try.prog 18 #[.pointer none] w fun e w' => e = .returned (.agg (aB (List.replicate 32 0))) ∧ Below w.heap.size w w' := by
  go_enter Try.func18, Try.ntmps18
  iterate 5 go_step
  rw [litB32]
  have M := Lib.hid (out_start w 0)
  have hz : rowG (fun _ => 0) 32 = aB (List.replicate 32 0) := by
    rw [← rowG_list (List.replicate 32 0) 32 (by simp)]
    refine congrArg List.toArray (List.map_congr_left fun i hi => ?_)
    have : byteAt (List.replicate 32 0) i = 0 := by unfold byteAt; rw [List.getD_eq_getElem?_getD, List.getElem?_replicate]; split <;> rfl
    rw [this]
  revert M
  rw [World.drewN_zero]
  generalize w.alloc (.cells (rowG (fun _ => 0) 32) 33) = w1
  intro M
  have ho := M.out.2
  have HB := Lib.hid M.out.1
  rw [hz] at ho
  clear M hz
  generalize hzz : aB (List.replicate 32 0) = zz at ho
  have hzi : (Try.prog.info? 33).map (·.size) = some zz.size := by rw [← hzz]; exact aB_info (by simp)
  have hz1 : zz.all (·.oneCell') = true := by rw [← hzz]; exact aB_one _
  have HZ := Lib.hid hzz; have HI := Lib.hid hzi; have H1 := Lib.hid hz1
  clear hzz hzi hz1
  go_wp2_with (first | refine wpList_load_row rfl _ _ rfl w.heap.size rfl 33 zz (0, 0) _ ho Try.underlying33 rfl HI.out ?_ | refine wpList_store_row rfl _ _ _ rfl w.heap.size zz rfl rfl 33 zz ho HI.out rfl H1.out ?_)
  exact bodyPost_ret (v := .agg zz) (results_cell_row rfl _ _ w.heap.size 33 zz (0, 0) _ rfl (setRow_heap _ _ _ _ _ _ ho) Try.underlying33 rfl HI.out) rfl ⟨by rw [HZ.out], below_setRow HB.out (Nat.le_refl _) _⟩

theorem isH_new (w : World) : IsH (w.alloc (.cells (hCells s0 (.slice none 0 0) 0) 86)) w.heap.size [] :=
  ⟨.slice none 0 0, heap_alloc_new w _, .inl ⟨rfl, rfl⟩⟩

set_option maxRecDepth 100000 in
set_option maxHeartbeats 1000000 in
theorem sum_any (w : World) (v : Value) (l : List UInt8) (hv : RdB w v l) (hl : l.length ≤ 140737488355200) :
    Calls Try.prog 12 #[v] w fun e w' => e = .returned (.agg (aB (sha l))) ∧ Below w.heap.size w w' := by
  have HV := Lib.hid hv
  clear hv
  go_enter Try.func12, Try.ntmps12
  go_wp2_with fail
  rw [litB32]
  have M := Lib.hid (out_start w 0)
  revert M
  rw [World.drewN_zero]
  generalize w.alloc (.cells (rowG (fun _ => 0) 32) 33) = w1
  intro M
  refine (new_any w1).mono ?_
  rintro e w2 ⟨rfl, rfl⟩
  have hn := isH_new w1
  have hb2 : Below w1.heap.size w1 (w1.alloc (.cells (hCells s0 (.slice none 0 0) 0) 86)) := (Below.refl _ _).alloc (Nat.le_refl _) _
  have M2 := Lib.hid (M.out.below hb2)
  have hlt : w.heap.size < w1.heap.size := (Array.getElem?_eq_some_iff.1 M.out.2).1
  have HN := Lib.hid hn
  clear hn hb2 M
  revert HN M2
  generalize w1.alloc (.cells (hCells s0 (.slice none 0 0) 0) 86) = w2
  generalize w1.heap.size = hb at *
  intro M2 HN
  go_wp2_with fail
  refine (write_any w2 hb v [] l HN.out (RdV.below HV.out M2.out.1) (by simpa using hl)).mono ?_
  rintro e w3 ⟨rfl, hh, hg⟩
  have M3 : OutW w w3 := by
    have h2 := (Array.getElem?_eq_some_iff.1 M2.out.2).1
    exact ⟨M2.out.1.grown hg (by omega) (fun k hk => by cases hk; omega), (hg.block _ h2 (fun e => by cases e; omega)).trans M2.out.2⟩
  have M3 := Lib.hid M3; have H3 := Lib.hid hh
  clear hh hg M2 HN
  go_wp2_with fail
  refine (hsum_any w3 hb _ H3.out (by simp; omega)).mono ?_
  rintro e w4 ⟨rfl, hb4⟩
  have M4 := M3.out.below hb4
  have ho := M4.2
  have HB4 := Lib.hid M4.1
  rw [List.nil_append]
  clear M4 M3 H3 hb4
  have hdl := sha_len l
  obtain ⟨d, hd⟩ : ∃ d, d = sha l := ⟨_, rfl⟩
  rw [← hd] at hdl ⊢
  have HD := Lib.hid hd; have HL := Lib.hid hdl
  clear hd hdl
  go_wp2_with (refine wpList_store_row rfl _ _ _ rfl w.heap.size (aB d) rfl rfl 33 (rowG (fun _ => 0) 32) ?ho ?hi ?hs (aB_one _) ?_)
  case ho => exact ho
  case hi => exact aB_info HL.out
  case hs => rw [aB_size, rowG_size, HL.out]
  exact bodyPost_ret (v := .agg (aB d)) (results_cell_row rfl _ _ w.heap.size 33 (aB d) (0, 0) _ rfl (setRow_heap _ _ _ _ _ _ ho) Try.underlying33 rfl (aB_info HL.out)) rfl ⟨by rw [HD.out], below_setRow HB4.out (Nat.le_refl _) _⟩
end Go.Proofs.Ytlkieepfjhiflaa
