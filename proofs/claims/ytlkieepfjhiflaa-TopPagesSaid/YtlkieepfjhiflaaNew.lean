/- The contract of disk.New. -/
import Derived.Test.YtlkieepfjhiflaaWf
import Derived.Laws.MakeOwn
namespace Go.Proofs.Ytlkieepfjhiflaa
open Go.RowKit Go.ChangeMaps

/-- A sector's row that is 0 everywhere. -/
def zBytes : List UInt8 := List.replicate 512 0
theorem zBytes_len : zBytes.length = 512 := List.length_replicate
def zRow : Array Value := (zBytes.map vB).toArray
theorem zRow_at (j : Nat) : zRow[j]? = (zBytes.map vB)[j]? := by unfold zRow; exact List.getElem?_toArray
def nRow (n : Nat) : Array Value := Array.replicate n (.slice none 0 0)
theorem made_one (x : Value) (n : Nat) : madeCells #[x] n = Array.replicate n x := by
  refine Array.ext (by simp [madeCells]) fun i h1 h2 => ?_
  simp [madeCells, Nat.mod_one]
theorem run_makeRow (w : World) (n : Nat) (hn : n ≤ 4096) : (Instr.makeSlice 58 (.int .i64 (n : Int)) (.int .i64 (n : Int))).run Try.prog w = .ok (.slice (some ⟨w.heap.size, 0, none⟩) n n) (w.alloc (.cells (nRow n) 22)) := by
  obtain ⟨i0, hi, hz0, hz1, hz2⟩ := info_parts info_row
  have h := run_make (P := Try.prog) w 58 22 i0 (.slice none 0 0) Try.underlying58 hi hz0 .i64 .i64 n n (by omega) (by omega) (by rw [hz2]; omega) (by omega)
  rw [h, hz1]
  simp [nRow, Value.cells, made_one]
def zRowN (N : Nat) : Array Value := ((List.replicate N (0 : UInt8)).map vB).toArray
theorem made_zN (N : Nat) : madeCells #[.int .u8 0] (N * 1) = zRowN N := by
  rw [made_one, Nat.mul_one]
  unfold zRowN
  rw [List.map_replicate]
  refine Array.ext' ?_
  rw [Array.toList_replicate]; rfl
theorem run_makeB (w : World) (N : Nat) (h : N ≤ 100000) : (Instr.makeSlice 22 (.int .i64 (N : Int)) (.int .i64 (N : Int))).run Try.prog w = .ok (.slice (some ⟨w.heap.size, 0, none⟩) N N) (w.alloc (.cells (zRowN N) 5)) := by
  obtain ⟨i0, hi, hz0, hz1, hz2⟩ := info_parts info_u8
  have h := run_make (P := Try.prog) w 22 5 i0 (.int .u8 0) Try.underlying22 hi hz0 .i64 .i64 N N (by omega) (by omega) (by rw [hz2]; omega) (by omega)
  rw [h, hz1]
  have e1 : (Value.int IntKind.u8 0).cells = #[.int .u8 0] := rfl
  rw [e1, Int.toNat_natCast, made_zN]
theorem run_makeSec (w : World) : (Instr.makeSlice 22 (.int .i64 512) (.int .i64 512)).run Try.prog w = .ok (.slice (some ⟨w.heap.size, 0, none⟩) 512 512) (w.alloc (.cells zRow 5)) := run_makeB w 512 (by omega)
/-- A sector of zeros in a block from B on. -/
def ZS (w : World) (B : Nat) (v : Value) : Prop := ∃ b, v = .slice (some ⟨b, 0, none⟩) 512 512 ∧ B ≤ b ∧ w.heap[b]? = some (.cells zRow 5 (0, 0))
theorem ZS.dat {w : World} {B : Nat} {v : Value} (h : ZS w B v) (S : List Nat) (hS : ∀ k ∈ S, w.heap.size ≤ k) : Dat S w v zBytes := by
  obtain ⟨b, rfl, _, hb⟩ := h
  refine .inr ⟨b, 0, 512, by rw [List.length_map, zBytes_len], by rw [List.length_map, zBytes_len]; omega, fun hm => by have := hS b hm; have := (Array.getElem?_eq_some_iff.1 hb).1; omega, ⟨_, _, hb⟩, fun j u hj => ?_⟩
  rw [cell_of_row w b (0 + j) _ _ _ hb, Nat.zero_add]
  rw [zRow_at]; exact hj
theorem ZS.fr {w w' : World} {B : Nat} {v : Value} {S : List Nat} (h : ZS w B v) (hf : Fr S w w') (hS : ∀ k ∈ S, k < B ∨ w.heap.size ≤ k) : ZS w' B v := by
  obtain ⟨b, rfl, h1, hb⟩ := h
  exact ⟨b, rfl, h1, hf.heap (fun hm => by have := hS b hm; have := (Array.getElem?_eq_some_iff.1 hb).1; omega) hb⟩
/-- While the sectors are made: vs of them. -/
structure NwI (w wr : World) (n : Nat) (vs : List Value) : Prop where
  row : wr.heap[w.heap.size]? = some (.cells (vs ++ List.replicate (n - vs.length) (Value.slice none 0 0)).toArray 22 (0, 0))
  all : ∀ v ∈ vs, ZS wr (w.heap.size + 1) v
  below : Below w.heap.size w wr
  le : vs.length ≤ n
theorem NwI.step {w wr : World} {n : Nat} {vs : List Value} (I : NwI w wr n vs) (h : vs.length < n) :
    NwI w ((wr.alloc (.cells zRow 5)).setCell ⟨w.heap.size, vs.length, none⟩ (.slice (some ⟨wr.heap.size, 0, none⟩) 512 512)) n (vs ++ [.slice (some ⟨wr.heap.size, 0, none⟩) 512 512]) := by
  have hlt := (Array.getElem?_eq_some_iff.1 I.row).1
  have h1 : Fr [] wr (wr.alloc (.cells zRow 5)) := (Fr.refl _ _).alloc _
  have h2 : Fr [w.heap.size] (wr.alloc (.cells zRow 5)) ((wr.alloc (.cells zRow 5)).setCell ⟨w.heap.size, vs.length, none⟩ (.slice (some ⟨wr.heap.size, 0, none⟩) 512 512)) := (Fr.refl _ _).setCell (.inl (by simp)) _
  refine ⟨?_, ?_, (I.below.alloc I.below.size _).setCell (Nat.le_refl _) _, by simp; omega⟩
  · rw [heap_setCell_same _ _ _ _ _ _ (h1.heap (by simp) I.row)]
    congr 2
    refine Array.ext' ?_
    simp only [Array.toList_setIfInBounds, List.length_append, List.length_singleton]
    rw [List.set_append_right _ _ (Nat.le_refl _), Nat.sub_self]
    obtain ⟨m, hm⟩ : ∃ m, n - vs.length = m + 1 := ⟨n - vs.length - 1, by omega⟩
    rw [hm, show n - (vs.length + 1) = m by omega, List.replicate_succ]
    simp
  · intro v hv
    rcases List.mem_append.1 hv with hv | hv
    · exact ((I.all v hv).fr h1 (by simp)).fr h2 (by simp)
    · simp at hv; subst hv
      refine ⟨wr.heap.size, rfl, by omega, h2.heap (by simp; omega) (heap_alloc_new wr _)⟩
set_option maxRecDepth 100000 in
set_option maxHeartbeats 4000000 in
theorem new_disk (w : World) (n : Nat) (h0 : 0 < n) (hn : n ≤ 4096) :
    Calls Try.prog 7 #[.int .i64 (n : Int)] w fun e w' => ∃ g bs bm F, e = .returned (.tuple #[.pointer (some ⟨g, 0, none⟩), .int .i64 0]) ∧ DiskAt w' g bs bm F [] F [] ∧ F.length = n ∧ (∀ v ∈ F, Dat [g, bs, bm] w' v zBytes) ∧ Below w.heap.size w w' ∧ w.heap.size ≤ g ∧ w.heap.size ≤ bs ∧ w.heap.size ≤ bm := by
  have hm1 := run_makeRow w n hn
  have hm2 := run_makeSec
  have i1 : (1 : Int) ≤ (n : Int) := by omega
  have i2 : (n : Int) ≤ 4096 := by omega
  go_enter Try.func7, Try.ntmps7
  go_wp2_with fail
  go_loopw [16, 5] (fun i _ wq => ∃ vs, i = .int .i64 (vs.length : Int) ∧ NwI w wq n vs) (fun i _ _ => n - (intOf i).toNat)
  case atStart => exact ⟨[], rfl, by simpa [nRow] using heap_alloc_new w (.cells (nRow n) 22), by simp, (Below.refl _ _).alloc (Nat.le_refl _) _, by simp⟩
  case round =>
    obtain ⟨vs, rfl, hI⟩ := hrel
    have HI := Lib.hid hI
    have hvn := hI.le
    clear hI hm1
    by_cases hlt : vs.length < n
    · have HX := Lib.hid (HI.out.step hlt)
      have j0 : (0 : Int) ≤ (vs.length : Int) := by omega
      have j1 : (vs.length : Int) < (n : Int) := by omega
      obtain ⟨old, o1, o2⟩ : ∃ old, (wr.alloc (.cells zRow 5)).cell? ⟨w.heap.size, vs.length, none⟩ = some old ∧ (wr.alloc (.cells zRow 5)).frozen? ⟨w.heap.size, vs.length, none⟩ = false := by
        have hr := ((Fr.refl [] wr).alloc (.cells zRow 5)).heap (by simp) HI.out.row
        refine ⟨.slice none 0 0, ?_, frozen_of_row _ _ _ _ _ hr⟩
        · rw [cell_of_row _ _ _ _ _ _ hr]
          rw [List.getElem?_toArray, List.getElem?_append_right (Nat.le_refl _), Nat.sub_self, List.getElem?_replicate, if_pos (by omega)]
      go_wp2_with fail
      go_roundw
      case rel => exact ⟨_, by simp, HX.out⟩
      case measure => simp [intOf]; omega
    · have hvl : vs.length = n := by omega
      have hrow := HI.out.row
      rw [hvl, Nat.sub_self, List.replicate_zero, List.append_nil] at hrow
      have hrd : RdN 22 [] wr (.slice (some ⟨w.heap.size, 0, none⟩) n n) vs := by
        refine .inr ⟨w.heap.size, 0, n, by rw [hvl], by omega, by simp, ⟨_, _, hrow⟩, fun j u hj => ?_⟩
        rw [cell_of_row wr w.heap.size (0 + j) _ _ _ hrow, Nat.zero_add, List.getElem?_toArray]
        exact hj
      have HRD := Lib.hid hrd
      have hlt2 : ¬ ((vs.length : Int) < (n : Int)) := by omega
      have HV := Lib.hid hvl
      clear hrd hrow hvl hlt hvn
      go_wp2_with fail
      refine (begun_any _ _ vs HRD.out (by have := HV.out; omega) (by have := HV.out; omega) (fun u hu => by obtain ⟨b, rfl, _⟩ := HI.out.all u hu; exact ⟨_, _, _, rfl⟩)).mono ?_
      rintro e w5 ⟨g, bs, bm, rfl, hD, hb, h1, h2, h3⟩
      have hsz := HI.out.below.size
      have HH := Lib.hid (show DiskAt w5 g bs bm vs [] vs [] ∧ vs.length = n ∧ (∀ v ∈ vs, Dat [g, bs, bm] w5 v zBytes) ∧ Below w.heap.size w w5 ∧ w.heap.size ≤ g ∧ w.heap.size ≤ bs ∧ w.heap.size ≤ bm from
        ⟨hD, HV.out, fun v hv => RdN.fr ((HI.out.all v hv).dat [g, bs, bm] (by intro k hk; simp at hk; omega)) (Fr.of_below (S := []) hb) (by simp), HI.out.below.trans (hb.mono hsz), by omega, by omega, by omega⟩)
      clear hD hb h1 h2 h3
      go_wp2_with fail
      go_ret2
      exact ⟨g, bs, bm, vs, rfl, HH.out⟩
end Go.Proofs.Ytlkieepfjhiflaa
