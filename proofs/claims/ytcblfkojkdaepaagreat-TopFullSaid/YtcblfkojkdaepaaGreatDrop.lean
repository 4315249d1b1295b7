/- The library's contract for slices.DeleteFunc, at numbers. -/
import Derived.Shelf.SlGeneric
import Derived.Shelf.SlicesE.DeleteFunc
import Derived.Test.YtcblfkojkdaepaaGreatCst
namespace Go.Proofs.YtcblfkojkdaepaaGreat
open Go.Shelf Go.RowKit Go.ChangeMaps

def del_ren : Go.Shelf.Ren := ⟨fun | 10 => 79 | 6 => 89 | n => n, fun | 22 => 48 | 23 => 3 | 25 => 82 | 3 => 3 | 4 => 4 | 0 => 0 | n => n, fun | n => n⟩
theorem del_laid : Go.Proofs.SlLaysH.n10 Tryz.prog del_ren := {
  mixed := by kernel_rfl
  f6 := ⟨Tryz.f89.name, by decide, Tryz.func89.trans (congrArg some (by kernel_rfl))⟩
  f10 := ⟨Tryz.f79.name, by decide, Tryz.func79.trans (congrArg some (by kernel_rfl))⟩
  t0 := Tryz.underlying0
  a0 := Tryz.isAgg0
  z0 := Tryz.sizeOf0
  v0 := Tryz.zeroValue0
  t3 := Tryz.underlying3
  a3 := Tryz.isAgg3
  z3 := Tryz.sizeOf3
  v3 := Tryz.zeroValue3
  t4 := Tryz.underlying4
  a4 := Tryz.isAgg4
  z4 := Tryz.sizeOf4
  v4 := Tryz.zeroValue4
  t22 := Tryz.underlying48
  a22 := Tryz.isAgg48
  z22 := Tryz.sizeOf48
  v22 := Tryz.zeroValue48
  a23 := Tryz.isAgg3
  z23 := Tryz.sizeOf3
  t25 := Tryz.underlying82
  a25 := Tryz.isAgg82
  z25 := Tryz.sizeOf82
  v25 := Tryz.zeroValue82 }
/-- The closure of drop: is it this number? -/
theorem drop1_any (W : World) (n : Nat) (B : Nat) (hc : W.cell? ⟨B, 0, none⟩ = some (.int .i64 (n : Int))) (x : Int) :
    Calls Tryz.prog 80 #[.int .i64 x, .pointer (some ⟨B, 0, none⟩)] W fun e w' => e = .returned (.bool (x == (n : Int))) ∧ ∃ q, w' = W.drewN q := by
  go_enter Tryz.func80, Tryz.ntmps80
  go_wp2
  all_goals (go_ret; exact ⟨by simp_all, 0, rfl⟩)
theorem putRow_heap {α : Type} [Inhabited α] (enc : α → Value) (w : World) (b off : Nat) (d : Array α) (k : Nat) (hk : k ≠ b) : (Sort.putRow enc w b off d).heap[k]? = w.heap[k]? := by
  unfold Sort.putRow Sort.mapBlock
  simp only [Array.getElem?_modify]
  rw [if_neg (fun e => hk e.symm)]
set_option maxHeartbeats 1000000 in
theorem delete_any (w : World) (rv : Value) (row : List Nat) (h : RowZ w rv row) (hl : row.length ≤ 4096) (n B : Nat) (hB : w.heap[B]? = some (.cells #[.int .i64 (n : Int)] 3 (0, 0))) (hne : B ∉ rv.ownBlock.toList) :
    Calls Tryz.prog 79 #[rv, .func (.func 80) #[] #[.pointer (some ⟨B, 0, none⟩)]] w fun e w' => ∃ rv', e = .returned rv' ∧ rv'.ownBlock = rv.ownBlock ∧ RowZ w' rv' (row.filter (· != n)) ∧ Fr rv.ownBlock.toList w w' := by
  have hcell : w.cell? ⟨B, 0, none⟩ = some (.int .i64 (n : Int)) := (cell_of_row w B 0 _ _ _ hB).trans rfl
  obtain ⟨h1, h2⟩ := h
  rcases h2 with ⟨rfl, h0⟩ | ⟨b, cap, cur, rfl, hb, hh, hle, hcm, hcs, htake⟩
  · have hrow : row = [] := List.eq_nil_of_length_eq_zero h0
    subst hrow
    have HIF : Calls Tryz.prog 89 #[.slice none 0 0, .func (.func 80) #[] #[.pointer (some ⟨B, 0, none⟩)]] w fun e w' => e = .returned (.int .i64 (-1)) ∧ w' = w := by
      clear h1 hB hne hcell
      go_enter Tryz.func89, Tryz.ntmps89
      go_wp2_with fail
      go_loopw [8] (fun i wr => i = .int .i64 0 ∧ wr = w) (fun _ _ => 0)
      case atStart => exact ⟨rfl, rfl⟩
      case round =>
        obtain ⟨rfl, rfl⟩ := hrel
        go_wp2_with fail
        go_ret
        exact ⟨rfl, rfl⟩
    have HI := Lib.hid HIF
    clear HIF h1 hB hne hcell
    go_enter Tryz.func79, Tryz.ntmps79
    go_wp2_with fail
    refine HI.out.mono ?_
    rintro e w' ⟨rfl, rfl⟩
    go_wp2_with fail
    go_ret
    exact ⟨_, rfl, rfl, ⟨by simp, .inl ⟨rfl, rfl⟩⟩, Fr.refl _ _⟩
  · have hBb : B ≠ b := by simpa [Value.ownBlock] using hne
    have hblt := (Array.getElem?_eq_some_iff.1 hB).1
    have eg : ∀ args w, (callFunc 80 args).run Tryz.prog w = .ok (.enter 80 args) w := enters_of Tryz.func80 (by kernel_rfl) rfl
    obtain ⟨d, hd⟩ : ∃ d : Array Int, d = (row.map fun (k : Nat) => (k : Int)).toArray := ⟨_, rfl⟩
    have hds : d.size = row.length := by rw [hd]; simp
    have hcur : ∀ j, j < d.size → cur[j]? = some (Value.int .i64 d[j]!) := fun j hj => by
      have h3 : (cur.toList.take (row.length * 1))[j]? = cur.toList[j]? := by rw [List.getElem?_take, if_pos (by omega)]
      rw [htake, List.getElem?_map] at h3
      rw [getElem!_pos d j hj]
      have h4 : d[j] = ((row[j]'(by omega) : Nat) : Int) := by simp [hd]
      rw [h4, ← Array.getElem?_toList, ← h3, List.getElem?_eq_getElem (by omega)]
      rfl
    have hH : Sort.Holds (Value.int .i64) w b 0 d := fun j hj => ⟨by rw [cell_of_row w b (0 + j) _ _ _ hh, Nat.zero_add]; exact hcur j hj, frozen_of_row w b _ _ _ hh⟩
    have hcon := AnyE.slices_DeleteFunc del_laid (Value.int .i64) (fun _ => rfl) (fun x => x == (n : Int)) 80 #[.pointer (some ⟨B, 0, none⟩)] eg 0 Tryz.zeroValue3 b 0 cap d w
      (fun W x hb => drop1_any W n B ((hb.cell (p := ⟨B, 0, none⟩) hblt).trans hcell) x)
      (fun k os dk x _ => drop1_any _ n B (by
        unfold Go.Proofs.sortWorld
        rw [Sort.cell?_grow _ _ _ (by show B < (Sort.putRow _ _ _ _ _).heap.size; rw [Sort.size_putRow]; exact hblt), Sort.cell?_putRow_other _ _ b 0 _ _ (Or.inl hBb)]
        exact hcell) x) hH (by omega) (by omega)
    change Calls Tryz.prog 79 _ _ _ at hcon
    have hfl : (d.toList.filter fun x => !(x == (n : Int))) = (row.filter (· != n)).map fun (k : Nat) => (k : Int) := by
      rw [hd]
      simp only [List.filter_map]
      congr 1
      refine List.filter_congr fun x _ => ?_
      simp only [bne, Function.comp]
      congr 1
      rw [Bool.eq_iff_iff, beq_iff_eq, beq_iff_eq]
      omega
    rw [hfl, hds] at hcon
    refine hcon.mono ?_
    rintro e w' ⟨rfl, q, rfl⟩
    have hlen : (row.filter (· != n)).length ≤ row.length := List.length_filter_le _ _
    obtain ⟨d', hd'⟩ : ∃ d' : Array Int, d' = (((row.filter (· != n)).map fun (k : Nat) => (k : Int)) ++ List.replicate (row.length - ((row.filter (· != n)).map fun (k : Nat) => (k : Int)).length) 0).toArray := ⟨_, rfl⟩
    rw [← hd']
    have hds' : d'.size = row.length := by rw [hd']; simp; omega
    have hH' : Sort.Holds (Value.int .i64) (Sort.putRow (Value.int .i64) (Sort.ahead w q) b 0 d') b 0 d' := Sort.holds_putRow _ _ b 0 d d' (Sort.holds_ahead _ w q b 0 d hH) (by omega)
    have hpr : ∃ cur', (Sort.putRow (Value.int .i64) (Sort.ahead w q) b 0 d').heap[b]? = some (.cells cur' 3 (0, 0)) ∧ cur'.size = cur.size := by
      unfold Sort.putRow Sort.mapBlock
      have e : (Sort.ahead w q).heap[b]? = some (.cells cur 3 (0, 0)) := hh
      refine ⟨Sort.putCells (Value.int .i64) 0 d' cur, ?_, by simp [Sort.putCells]⟩
      simp only [Array.getElem?_modify]
      rw [if_pos trivial, e]
      rfl
    obtain ⟨cur', hh', hcs'⟩ := hpr
    refine ⟨_, rfl, rfl, ⟨by simp, .inr ⟨b, cap, cur', by simp, hb, hh', by omega, hcm, by omega, ?_⟩⟩, ?_⟩
    · refine List.ext_getElem? fun j => ?_
      rw [List.getElem?_take]
      by_cases hj : j < (row.filter (· != n)).length
      · rw [if_pos (by omega), List.getElem?_map, List.getElem?_eq_getElem hj]
        have h5 := (hH' j (by omega)).1
        rw [cell_of_row _ b (0 + j) _ _ _ hh', Nat.zero_add] at h5
        rw [Array.getElem?_toList, h5, getElem!_pos d' j (by omega)]
        congr 2
        simp only [hd']
        rw [List.getElem_toArray, List.getElem_append_left (by simpa using hj), List.getElem_map]
      · rw [if_neg (by omega), List.getElem?_eq_none (by simpa using hj)]
    · refine ⟨rfl, rfl, rfl, ?_, fun k _ hk => ?_⟩
      · rw [Sort.size_putRow]; exact Nat.le_refl _
      · rw [putRow_heap]
        · rfl
        · simpa [Value.ownBlock] using hk
end Go.Proofs.YtcblfkojkdaepaaGreat
/- The contract of a cache's drop. -/
namespace Go.Proofs.YtcblfkojkdaepaaGreat
open Go.RowKit Go.ChangeMaps

set_option maxRecDepth 100000 in
set_option maxHeartbeats 2000000 in
theorem drop_any (w : World) {c p most db cb cm : Nat} {rv : Value} {row : List Nat} {cf : Nat → Option Value} (C : CacheAt w c p most db cb rv) (K : MapP w cb cf cm) (h : RowZ w rv row) (hl : row.length ≤ 4096) (n : Nat) :
    Calls Tryz.prog 56 #[.pointer (some ⟨c, 0, none⟩), .int .i64 (n : Int)] w fun e w' => e = .returned (.tuple #[]) ∧ ∃ rv' cm', rv'.ownBlock = rv.ownBlock ∧ CacheAt w' c p most db cb rv' ∧ MapP w' cb (upd cf n none) cm' ∧ RowZ w' rv' (row.filter (· != n)) ∧ Fr ([c, cb] ++ rv.ownBlock.toList) w w' := by
  have A1 := (Fr.refl [] w).alloc (.cells #[.int .i64 (n : Int)] 3)
  have R1 := heap_alloc_new w (.cells #[.int .i64 (n : Int)] 3)
  have C1 := C.fr A1 (by simp)
  have K1 := K.fr A1 (by simp)
  have h1 := h.fr A1 (by simp)
  have hcl := (Array.getElem?_eq_some_iff.1 (show w.heap[c]? = _ from C)).1
  have hrl := fun k hk => (h.lt k hk).1
  have hrc : ∀ k ∈ rv.ownBlock.toList, k ≠ c ∧ k ≠ cb := fun k hk => by
    obtain ⟨_, _, hr⟩ := h.lt k hk
    obtain ⟨_, _, hcb, _⟩ := K
    exact ⟨ne_ty hr C (by decide), ne_map hr hcb⟩
  have hccb : c ≠ cb := by
    obtain ⟨_, _, hcb, _⟩ := K
    exact ne_map C hcb
  have HDEL := Lib.hid (delete_any (w.alloc (.cells #[.int .i64 (n : Int)] 3)) rv row h1 hl n w.heap.size R1 (fun hm => by have := hrl _ hm; omega))
  have k4 : (w.alloc (.cells #[.int .i64 (n : Int)] 3)).cell? ⟨c, 4, none⟩ = some rv := (cell_of_row _ c 4 _ _ _ C1).trans rfl
  have HC1 := Lib.hid C1; have HK1 := Lib.hid K1; have HA1 := Lib.hid A1; have HR1 := Lib.hid R1; have HRC := Lib.hid hrc; have HCC := Lib.hid hccb
  have HCL := Lib.hid hcl; have HRL := Lib.hid hrl
  have hrv : ∃ a k d, rv = .slice a k d := by
    rcases h.2 with ⟨rfl, _⟩ | ⟨b, cap, cur, rfl, _⟩
    · exact ⟨_, _, _, rfl⟩
    · exact ⟨_, _, _, rfl⟩
  obtain ⟨va, vk, vd, rfl⟩ := hrv
  clear C K h hcl hrl hrc hccb A1 R1 C1 K1 h1
  go_enter Tryz.func56, Tryz.ntmps56
  go_wp2_with fail
  generalize hW : w.alloc (.cells #[.int .i64 (n : Int)] 3) = W1 at *
  refine HDEL.out.mono ?_
  rintro e w2 ⟨rv', rfl, hob, hz, hf⟩
  have hcn : c ∉ (Value.slice va vk vd).ownBlock.toList := fun hm => (HRC.out c hm).1 rfl
  have hcbn : cb ∉ (Value.slice va vk vd).ownBlock.toList := fun hm => (HRC.out cb hm).2 rfl
  have C2 := HC1.out.fr hf hcn
  have K2 := HK1.out.fr hf hcbn
  have B2 := hf.heap (b := w.heap.size) (fun hm => by have := HRL.out _ hm; omega) HR1.out
  have c4 : w2.cell? ⟨c, 4, none⟩ = some (.slice va vk vd) := (cell_of_row w2 c 4 _ _ _ C2).trans rfl
  have f4 : w2.frozen? ⟨c, 4, none⟩ = false := by have h : w2.heap[c]? = _ := C2; simp [World.frozen?, h]
  have C3 : CacheAt (w2.setCell ⟨c, 4, none⟩ rv') c p most db cb rv' := by
    have h := heap_setCell_same w2 c 4 _ _ rv' C2
    unfold CacheAt
    simpa using h
  have F3 := (Fr.refl [c] w2).setCell (p := ⟨c, 4, none⟩) (.inl (by simp)) rv'
  have K3 := K2.fr F3 (by simpa using HCC.out.symm)
  have B3 := F3.heap (b := w.heap.size) (by have := HCL.out; simp; omega) B2
  have Z3 := hz.fr F3 (fun k hk => .inr (by simp at hk; subst hk; rw [hob]; exact hcn))
  have k3 : (w2.setCell ⟨c, 4, none⟩ rv').cell? ⟨c, 3, none⟩ = some (.map (some cb)) := (cell_of_row _ c 3 _ _ _ C3).trans rfl
  have kb : (w2.setCell ⟨c, 4, none⟩ rv').cell? ⟨w.heap.size, 0, none⟩ = some (.int .i64 (n : Int)) := (cell_of_row _ _ 0 _ _ _ B3).trans rfl
  have HF := Lib.hid (show Fr ([c, cb] ++ (Value.slice va vk vd).ownBlock.toList) w (w2.setCell ⟨c, 4, none⟩ rv') from ((HA1.out.mono (by simp)).trans (hf.mono (fun k hk => .inl (by simp [hk])))).trans (F3.mono (by simp)))
  have HC3 := Lib.hid C3; have HK3 := Lib.hid K3; have HZ3 := Lib.hid Z3; have HOB := Lib.hid hob
  have hrv' : ∃ a k d, rv' = .slice a k d := by
    rcases hz.2 with ⟨rfl, _⟩ | ⟨b, cap, cur, rfl, _⟩
    · exact ⟨_, _, _, rfl⟩
    · exact ⟨_, _, _, rfl⟩
  obtain ⟨va', vk', vd', rfl⟩ := hrv'
  clear hcn hcbn C2 K2 B2 C3 K3 B3 Z3 hz hf hob F3 HDEL HC1 HK1 HA1 HR1 k4
  go_wp2_with fail
  generalize w2.setCell ⟨c, 4, none⟩ (.slice va' vk' vd') = W3 at *
  refine wp_region_qtail_lit 5 (by kernel_rfl) (by kernel_rfl) ?_
  simp only [List.take_succ_cons, List.take_zero, List.drop_succ_cons, List.drop_zero]
  repeat (go_big_quiet_step (fail))
  refine wpQuiet_nil ?_
  intro w4 hw4
  obtain ⟨nq, rfl⟩ := hw4
  obtain ⟨ob, cm', hdel, hK, _⟩ := (HK3.out.fr (Fr.drewN (S := []) W3 nq) (by simp)).del n 0
  have HK4 := Lib.hid hK
  clear hK
  go_wp2_with fail
  go_end0
  have F5 := (Fr.refl [cb] (W3.drewN nq)).setBlock (b := cb) (.inl (by simp)) ob
  exact ⟨rfl, .slice va' vk' vd', cm', HOB.out, (HC3.out.fr (Fr.drewN (S := []) W3 nq) (by simp)).fr F5 (by simpa using HCC.out), HK4.out _ (heap_setBlock (HK3.out.fr (Fr.drewN (S := []) W3 nq) (by simp)).heapAt), (HZ3.out.fr (Fr.drewN (S := []) W3 nq) (by simp)).fr F5 (fun k hk => .inr (by simp at hk; subst hk; rw [HOB.out]; exact fun hm => (HRC.out k hm).2 rfl)), HF.out.trans ((Fr.drewN W3 nq).trans (F5.mono (by simp)))⟩
end Go.Proofs.YtcblfkojkdaepaaGreat
