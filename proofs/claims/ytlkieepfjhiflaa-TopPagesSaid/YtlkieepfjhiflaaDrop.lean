/- The contract of a cache's drop. -/
import Derived.Test.YtlkieepfjhiflaaDel
namespace Go.Proofs.Ytlkieepfjhiflaa
open Go.RowKit Go.ChangeMaps

set_option maxRecDepth 100000 in
set_option maxHeartbeats 2000000 in
theorem drop_any (w : World) {c p most db cb cm : Nat} {rv : Value} {row : List Nat} {cf : Nat → Option Value} (C : CacheAt w c p most db cb rv) (K : MapP w cb cf cm) (h : RowZ w rv row) (hl : row.length ≤ 4096) (n : Nat) :
    Calls Try.prog 53 #[.pointer (some ⟨c, 0, none⟩), .int .i64 (n : Int)] w fun e w' => e = .returned (.tuple #[]) ∧ ∃ rv' cm', rv'.ownBlock = rv.ownBlock ∧ CacheAt w' c p most db cb rv' ∧ MapP w' cb (upd cf n none) cm' ∧ RowZ w' rv' (row.filter (· != n)) ∧ Fr ([c, cb] ++ rv.ownBlock.toList) w w' := by
  have A1 := (Fr.refl [] w).alloc (.cells #[.int .i64 (n : Int)] 3)
  have R1 := heap_alloc_new w (.cells #[.int .i64 (n : Int)] 3)
  have C1 := C.fr A1 (by simp)
  have K1 := K.fr A1 (by simp)
  have h1 := h.fr A1 (by simp)
  have hcl := (Array.getElem?_eq_some_iff.1 (show w.heap[c]? = _ from C)).1
  have hrl := fun k hk => (h.lt k hk).1
  have hrc : ∀ k ∈ rv.ownBlock.toList, k ≠ c ∧ k ≠ cb := fun k hk => by
    obtain ⟨_, _, hr⟩ := h.lt k hk
    obtain ⟨_, _, hcb, _⟩ := K
    exact ⟨ne_ty hr C (by decide), ne_map hr hcb⟩
  have hccb : c ≠ cb := by
    obtain ⟨_, _, hcb, _⟩ := K
    exact ne_map C hcb
  have HDEL := Lib.hid (delete_any (w.alloc (.cells #[.int .i64 (n : Int)] 3)) rv row h1 hl n w.heap.size R1 (fun hm => by have := hrl _ hm; omega))
  have k4 : (w.alloc (.cells #[.int .i64 (n : Int)] 3)).cell? ⟨c, 4, none⟩ = some rv := (cell_of_row _ c 4 _ _ _ C1).trans rfl
  have HC1 := Lib.hid C1; have HK1 := Lib.hid K1; have HA1 := Lib.hid A1; have HR1 := Lib.hid R1; have HRC := Lib.hid hrc; have HCC := Lib.hid hccb
  have HCL := Lib.hid hcl; have HRL := Lib.hid hrl
  have hrv : ∃ a k d, rv = .slice a k d := by
    rcases h.2 with ⟨rfl, _⟩ | ⟨b, cap, cur, rfl, _⟩
    · exact ⟨_, _, _, rfl⟩
    · exact ⟨_, _, _, rfl⟩
  obtain ⟨va, vk, vd, rfl⟩ := hrv
  clear C K h hcl hrl hrc hccb A1 R1 C1 K1 h1
  go_enter Try.func53, Try.ntmps53
  go_wp2_with fail
  generalize hW : w.alloc (.cells #[.int .i64 (n : Int)] 3) = W1 at *
  refine HDEL.out.mono ?_
  rintro e w2 ⟨rv', rfl, hob, hz, hf⟩
  have hcn : c ∉ (Value.slice va vk vd).ownBlock.toList := fun hm => (HRC.out c hm).1 rfl
  have hcbn : cb ∉ (Value.slice va vk vd).ownBlock.toList := fun hm => (HRC.out cb hm).2 rfl
  have C2 := HC1.out.fr hf hcn
  have K2 := HK1.out.fr hf hcbn
  have B2 := hf.heap (b := w.heap.size) (fun hm => by have := HRL.out _ hm; omega) HR1.out
  have c4 : w2.cell? ⟨c, 4, none⟩ = some (.slice va vk vd) := (cell_of_row w2 c 4 _ _ _ C2).trans rfl
  have f4 : w2.frozen? ⟨c, 4, none⟩ = false := by have h : w2.heap[c]? = _ := C2; simp [World.frozen?, h]
  have C3 : CacheAt (w2.setCell ⟨c, 4, none⟩ rv') c p most db cb rv' := by
    have h := heap_setCell_same w2 c 4 _ _ rv' C2
    unfold CacheAt
    simpa using h
  have F3 := (Fr.refl [c] w2).setCell (p := ⟨c, 4, none⟩) (.inl (by simp)) rv'
  have K3 := K2.fr F3 (by simpa using HCC.out.symm)
  have B3 := F3.heap (b := w.heap.size) (by have := HCL.out; simp; omega) B2
  have Z3 := hz.fr F3 (fun k hk => .inr (by simp at hk; subst hk; rw [hob]; exact hcn))
  have k3 : (w2.setCell ⟨c, 4, none⟩ rv').cell? ⟨c, 3, none⟩ = some (.map (some cb)) := (cell_of_row _ c 3 _ _ _ C3).trans rfl
  have kb : (w2.setCell ⟨c, 4, none⟩ rv').cell? ⟨w.heap.size, 0, none⟩ = some (.int .i64 (n : Int)) := (cell_of_row _ _ 0 _ _ _ B3).trans rfl
  have HF := Lib.hid (show Fr ([c, cb] ++ (Value.slice va vk vd).ownBlock.toList) w (w2.setCell ⟨c, 4, none⟩ rv') from ((HA1.out.mono (by simp)).trans (hf.mono (fun k hk => .inl (by simp [hk])))).trans (F3.mono (by simp)))
  have HC3 := Lib.hid C3; have HK3 := Lib.hid K3; have HZ3 := Lib.hid Z3; have HOB := Lib.hid hob
  have hrv' : ∃ a k d, rv' = .slice a k d := by
    rcases hz.2 with ⟨rfl, _⟩ | ⟨b, cap, cur, rfl, _⟩
    · exact ⟨_, _, _, rfl⟩
    · exact ⟨_, _, _, rfl⟩
  obtain ⟨va', vk', vd', rfl⟩ := hrv'
  clear hcn hcbn C2 K2 B2 C3 K3 B3 Z3 hz hf hob F3 HDEL HC1 HK1 HA1 HR1 k4
  go_wp2_with fail
  generalize w2.setCell ⟨c, 4, none⟩ (.slice va' vk' vd') = W3 at *
  refine wp_region_qtail_lit 5 (by kernel_rfl) (by kernel_rfl) ?_
  simp only [List.take_succ_cons, List.take_zero, List.drop_succ_cons, List.drop_zero]
  repeat (go_big_quiet_step (fail))
  refine wpQuiet_nil ?_
  intro w4 hw4
  obtain ⟨nq, rfl⟩ := hw4
  obtain ⟨ob, cm', hdel, hK, _⟩ := (HK3.out.fr (Fr.drewN (S := []) W3 nq) (by simp)).del n 0
  have HK4 := Lib.hid hK
  clear hK
  go_wp2_with fail
  go_end0
  have F5 := (Fr.refl [cb] (W3.drewN nq)).setBlock (b := cb) (.inl (by simp)) ob
  exact ⟨rfl, .slice va' vk' vd', cm', HOB.out, (HC3.out.fr (Fr.drewN (S := []) W3 nq) (by simp)).fr F5 (by simpa using HCC.out), HK4.out _ (heap_setBlock (HK3.out.fr (Fr.drewN (S := []) W3 nq) (by simp)).heapAt), (HZ3.out.fr (Fr.drewN (S := []) W3 nq) (by simp)).fr F5 (fun k hk => .inr (by simp at hk; subst hk; rw [HOB.out]; exact fun hm => (HRC.out k hm).2 rfl)), HF.out.trans ((Fr.drewN W3 nq).trans (F5.mono (by simp)))⟩
end Go.Proofs.Ytlkieepfjhiflaa
