/- The contract of a hasher's Fork. -/
import Derived.Test.YtkhgfaccmhknjaaWrite
import Derived.Deep.RegionHeld3
namespace Go.Proofs.Ytkhgfaccmhknjaa
open Go.RowKit

set_option maxRecDepth 100000 in
set_option maxHeartbeats 2000000 in
theorem fork_any (w : World) (b : Nat) (all : List UInt8) (hh : IsH w b all) (hl : all.length ≤ 140737488355328) :
    Calls Try.prog 20 #[.pointer (some ⟨b, 0, none⟩)] w fun e w' => ∃ b', e = .returned (.pointer (some ⟨b', 0, none⟩)) ∧ w.heap.size ≤ b' ∧ IsHF w' w.heap.size b' all ∧ Below w.heap.size w w' := by
  obtain ⟨rest, hb, hrest⟩ := hh
  obtain ⟨ra, rn, rc, rfl⟩ := RdV.slice hrest
  have hlt := (Array.getElem?_eq_some_iff.1 hb).1
  have C := fun k => cell_of_row w b k _ _ _ hb
  obtain ⟨s, hs⟩ : ∃ s, s = stOf all := ⟨_, rfl⟩
  rw [← hs] at C
  have k0 : w.cell? ⟨b, 0, none⟩ = some (.int .u32 (n32 s.a)) := (C 0).trans rfl
  have k1 : w.cell? ⟨b, 1, none⟩ = some (.int .u32 (n32 s.b)) := (C 1).trans rfl
  have k2 : w.cell? ⟨b, 2, none⟩ = some (.int .u32 (n32 s.c)) := (C 2).trans rfl
  have k3 : w.cell? ⟨b, 3, none⟩ = some (.int .u32 (n32 s.d)) := (C 3).trans rfl
  have k4 : w.cell? ⟨b, 4, none⟩ = some (.int .u32 (n32 s.e)) := (C 4).trans rfl
  have k5 : w.cell? ⟨b, 5, none⟩ = some (.int .u32 (n32 s.f)) := (C 5).trans rfl
  have k6 : w.cell? ⟨b, 6, none⟩ = some (.int .u32 (n32 s.g)) := (C 6).trans rfl
  have k7 : w.cell? ⟨b, 7, none⟩ = some (.int .u32 (n32 s.h)) := (C 7).trans rfl
  have k8 : w.cell? ⟨b, 8, none⟩ = some (.slice ra rn rc) := (C 8).trans rfl
  have k9 : w.cell? ⟨b, 9, none⟩ = some (.int .i64 all.length) := (C 9).trans rfl
  have HS := Lib.hid hs; have HR := Lib.hid hrest
  have hrl := restOf_len all
  have hrl2 : (restOf all).length ≤ 140737488355328 := by omega
  clear C hb hrest hs hrl
  go_enter Try.func20, Try.ntmps20
  go_wp2
  go_region_held3 (fun w' => w'.cell? ⟨b, 0, none⟩ = some (.int .u32 (n32 s.a)) ∧ w'.cell? ⟨b, 1, none⟩ = some (.int .u32 (n32 s.b)) ∧ w'.cell? ⟨b, 2, none⟩ = some (.int .u32 (n32 s.c)) ∧ w'.cell? ⟨b, 3, none⟩ = some (.int .u32 (n32 s.d)) ∧
      w'.cell? ⟨b, 4, none⟩ = some (.int .u32 (n32 s.e)) ∧ w'.cell? ⟨b, 5, none⟩ = some (.int .u32 (n32 s.f)) ∧ w'.cell? ⟨b, 6, none⟩ = some (.int .u32 (n32 s.g)) ∧ w'.cell? ⟨b, 7, none⟩ = some (.int .u32 (n32 s.h)) ∧
      w'.cell? ⟨b, 8, none⟩ = some (.slice ra rn rc) ∧ w'.cell? ⟨b, 9, none⟩ = some (.int .i64 all.length))
    (first
      | go_keep
      | (go_split_ands
         exact ⟨(hbn.cell (p := ⟨b, 0, none⟩) hlt).trans (by assumption), (hbn.cell (p := ⟨b, 1, none⟩) hlt).trans (by assumption), (hbn.cell (p := ⟨b, 2, none⟩) hlt).trans (by assumption), (hbn.cell (p := ⟨b, 3, none⟩) hlt).trans (by assumption), (hbn.cell (p := ⟨b, 4, none⟩) hlt).trans (by assumption),
           (hbn.cell (p := ⟨b, 5, none⟩) hlt).trans (by assumption), (hbn.cell (p := ⟨b, 6, none⟩) hlt).trans (by assumption), (hbn.cell (p := ⟨b, 7, none⟩) hlt).trans (by assumption), (hbn.cell (p := ⟨b, 8, none⟩) hlt).trans (by assumption), (hbn.cell (p := ⟨b, 9, none⟩) hlt).trans (by assumption)⟩))
    ((go_at_call 27; refine (clone_any w.drew _ (restOf all) (RdV.below HR.out (Below.drew (Below.refl _ w))) hrl2).mono ?_; rintro e w5 ⟨r, rfl, hown, hbn⟩; obtain ⟨qa, qn, qc, rfl⟩ := RdV.slice (RdV_of_owns hown)))
  have hbn2 : Below w.heap.size w w5 := ⟨hbn.os, hbn.tape, hbn.output, hbn.size, hbn.block⟩
  have hfin : (∃ b', w5.heap.size = b' ∧ w.heap.size ≤ b' ∧ IsHF (w5.alloc (.cells #[.int .u32 (n32 s.a), .int .u32 (n32 s.b), .int .u32 (n32 s.c), .int .u32 (n32 s.d), .int .u32 (n32 s.e), .int .u32 (n32 s.f), .int .u32 (n32 s.g), .int .u32 (n32 s.h), .slice qa qn qc, .int .i64 all.length] 56)) w.heap.size b' all) ∧
      Below w.heap.size w (w5.alloc (.cells #[.int .u32 (n32 s.a), .int .u32 (n32 s.b), .int .u32 (n32 s.c), .int .u32 (n32 s.d), .int .u32 (n32 s.e), .int .u32 (n32 s.f), .int .u32 (n32 s.g), .int .u32 (n32 s.h), .slice qa qn qc, .int .i64 all.length] 56)) := by
    have hal : ∀ o, Below w5.heap.size w5 (w5.alloc o) := fun o => (Below.refl _ _).alloc (Nat.le_refl _) o
    refine ⟨⟨_, rfl, hbn2.size, .slice qa qn qc, ?_, RdV.below (RdV_of_owns hown) (hal _), RdF_of_owns hown⟩, hbn2.trans ((hal _).mono hbn2.size)⟩
    rw [heap_alloc_new, ← HS.out]
    rfl
  have HFIN := Lib.hid hfin
  clear hfin hbn hbn2 hown k0 k1 k2 k3 k4 k5 k6 k7 k8 k9 HR HS
  go_wp2
  go_ret
  obtain ⟨⟨b', h1, h2, h3⟩, h4⟩ := HFIN.out
  subst h1
  exact ⟨_, rfl, h2, h3, h4⟩
end Go.Proofs.Ytkhgfaccmhknjaa
