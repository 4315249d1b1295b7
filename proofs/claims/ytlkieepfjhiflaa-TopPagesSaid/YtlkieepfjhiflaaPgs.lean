/- Pages handed to Commit: none of a number that is not there. -/
import Derived.Test.YtlkieepfjhiflaaLOpen
import Derived.Deep.MidRow
namespace Go.Proofs.Ytlkieepfjhiflaa
open Go.RowKit Go.ChangeMaps

/-- A slice of pages: of each the number and the bytes' header. -/
def RdPg (w : World) (v : Value) (ps : List (Nat × Value)) : Prop :=
  ∃ a c, v = .slice a ps.length c ∧ ∀ (i : Nat) (x : Nat × Value), ps[i]? = some x → ∃ b off, a = some ⟨b, off, none⟩ ∧ w.cell? ⟨b, off + i * 2, none⟩ = some (.int .i64 (x.1 : Int)) ∧ w.cell? ⟨b, off + i * 2 + 1, none⟩ = some x.2
theorem RdPg.below {w w' : World} {v : Value} {ps : List (Nat × Value)} (h : RdPg w v ps) (hb : Below w.heap.size w w') : RdPg w' v ps := by
  obtain ⟨a, c, hv, hc⟩ := h
  refine ⟨a, c, hv, fun i x hi => ?_⟩
  obtain ⟨b, off, ha, h1, h2⟩ := hc i x hi
  exact ⟨b, off, ha, (hb.cell (block_lt_of_cell h1)).trans h1, (hb.cell (block_lt_of_cell h2)).trans h2⟩
theorem RdPg.at {w : World} {a : Option Addr} {n c : Nat} {ps : List (Nat × Value)} (h : RdPg w (.slice a n c) ps) (i : Nat) (x : Nat × Value) (hi : ps[i]? = some x) : ∃ b off, a = some ⟨b, off, none⟩ ∧ w.cell? ⟨b, off + i * 2, none⟩ = some (.int .i64 (x.1 : Int)) ∧ w.cell? ⟨b, off + i * 2 + 1, none⟩ = some x.2 := by
  obtain ⟨a', c', hv, hc⟩ := h
  cases hv
  exact hc i x hi
set_option maxRecDepth 100000 in
set_option maxHeartbeats 2000000 in
theorem closure_any (w : World) {bx p g bs bm s M : Nat} {F O S : List Value} {T : List Ent} (hbx : w.cell? ⟨bx, 0, none⟩ = some (.pointer (some ⟨p, 0, none⟩))) (L : LogAt w p g s) (D : DiskAt w g bs bm F O S T) (hM : F.length = s + 1 + M) (hF : F.length ≤ 4096) (n : Nat) (v : Value) (hn : n < M) :
    Calls Try.prog 46 #[.agg #[.int .i64 (n : Int), v], .pointer (some ⟨bx, 0, none⟩)] w fun e w' => e = .returned (.bool false) ∧ Below w.heap.size w w' := by
  have A1 := (Fr.refl [] w).alloc (.cells #[.int .i64 (n : Int), v] 53)
  have HP := Lib.hid (fun q => show Calls Try.prog 47 #[.pointer (some ⟨p, 0, none⟩)] ((w.alloc (.cells #[.int .i64 (n : Int), v] 53)).drewN q) fun e w' => e = .returned (.int .i64 (M : Int)) ∧ ∃ r, w' = (w.alloc (.cells #[.int .i64 (n : Int), v] 53)).drewN r from
    (pages_any _ (L.fr (A1.trans (Fr.drewN _ q)) (by simp)) (D.fr (A1.trans (Fr.drewN _ q)) (by simp)) hM hF).mono fun e w' ⟨h1, r, h2⟩ => ⟨h1, q + r, by rw [h2, World.drewN_drewN]⟩)
  have k1 : (w.alloc (.cells #[.int .i64 (n : Int), v] 53)).cell? ⟨bx, 0, none⟩ = some (.pointer (some ⟨p, 0, none⟩)) := cell_l1 hbx
  have R1 := heap_alloc_new w (.cells #[.int .i64 (n : Int), v] 53)
  have k0 : (w.alloc (.cells #[.int .i64 (n : Int), v] 53)).cell? ⟨w.heap.size, 0, none⟩ = some (.int .i64 (n : Int)) := (cell_of_row _ _ 0 _ _ _ R1).trans rfl
  have HA := Lib.hid A1
  have i0 : (0 : Int) ≤ (n : Int) := by omega
  have i1 : (n : Int) < (M : Int) := by omega
  have i2 : decide ((n : Int) < 0) = false := by simp
  have i3 : decide ((M : Int) ≤ (n : Int)) = false := by simp; omega
  clear L D hM hF A1 R1 hbx
  go_enter Try.func46, Try.ntmps46
  go_wp2_with fail
  revert HP k1 k0 HA
  generalize w.alloc (.cells #[.int .i64 (n : Int), v] 53) = W1
  intro HP k1 k0 HA
  refine wp_region_quiet_lit (by kernel_rfl) (by kernel_rfl) ?_
  iterate 7 (go_big_quiet_step (fail))
  go_big_quiet_step (exact HP.out _)
  repeat (go_big_quiet_step (fail))
  refine wpQuiet_nil ?_
  intro w' hw'
  obtain ⟨nq, rfl⟩ := hw'
  have HB := Lib.hid ((HA.out.trans (Fr.drewN W1 nq)).below (Nat.le_refl _) (by simp))
  clear HP HA k0 k1
  have hMn : ¬ M ≤ n := by omega
  go_wp2_with fail
  go_ret
  exact ⟨ret_eq (by simp [hMn]), HB.out⟩
set_option maxRecDepth 100000 in
set_option maxHeartbeats 2000000 in
theorem index_any (w : World) {bx p g bs bm s M : Nat} {F O S : List Value} {T : List Ent} (hbx : w.cell? ⟨bx, 0, none⟩ = some (.pointer (some ⟨p, 0, none⟩))) (L : LogAt w p g s) (D : DiskAt w g bs bm F O S T) (hM : F.length = s + 1 + M) (hF : F.length ≤ 4096) (pv : Value) (ps : List (Nat × Value)) (hp : RdPg w pv ps) (hl : ps.length ≤ 4096) (hn : ∀ x ∈ ps, x.1 < M) (hs : ∀ x ∈ ps, ∃ a k c, x.2 = .slice a k c) :
    Calls Try.prog 58 #[pv, .func (.func 46) #[] #[.pointer (some ⟨bx, 0, none⟩)]] w fun e w' => e = .returned (.int .i64 (-1)) ∧ Below w.heap.size w w' := by
  have HP := Lib.hid hp
  obtain ⟨a, c, rfl, _⟩ := hp
  have HL := Lib.hid L; have HD := Lib.hid D; have HBX := Lib.hid hbx; have HN := Lib.hid hn; have HS := Lib.hid hs
  have b0 : (ps.length : Int) ≤ 4096 := by omega
  clear hbx L D hn hs
  go_enter Try.func58, Try.ntmps58
  go_wp2_with fail
  go_loopw [8] (fun i wr => ∃ j : Nat, j ≤ ps.length ∧ i = .int .i64 (j : Int) ∧ Below w.heap.size w wr) (fun i _ => ((ps.length : Int) - intOf i).toNat)
  case atStart => exact ⟨0, by omega, by simp, Below.refl _ _⟩
  case round =>
    obtain ⟨j, hj, rfl, hB⟩ := hrel
    have HB := Lib.hid hB
    clear hB
    by_cases hlt : j < ps.length
    · obtain ⟨⟨n, v⟩, hx⟩ : ∃ x, ps[j]? = some x := ⟨ps[j], List.getElem?_eq_getElem hlt⟩
      obtain ⟨b, off, rfl, c0, c1⟩ := (HP.out.below HB.out).at j _ hx
      have hnM := HN.out _ (List.mem_of_getElem? hx)
      obtain ⟨va, vk, vc, hv⟩ := HS.out _ (List.mem_of_getElem? hx)
      simp only at hv c0 c1 hnM
      subst hv
      have F1 := Fr.of_below (S := []) HB.out
      have HC := Lib.hid (closure_any wr (F1.cell (by simp) HBX.out) (HL.out.fr F1 (by simp)) (HD.out.fr F1 (by simp)) hM hF n (.slice va vk vc) hnM)
      have i0 : (j : Int) < (ps.length : Int) := by omega
      clear hx F1
      go_wp2_with fail
      refine HC.out.mono ?_
      rintro e w2 ⟨rfl, hb⟩
      have HB2 := Lib.hid (HB.out.trans (hb.mono HB.out.size))
      clear hb HC HB c0 c1
      go_wp2_with fail
      exact ⟨⟨j + 1, by omega, by simp, HB2.out⟩, by simp [intOf]; omega⟩
    · obtain rfl : j = ps.length := by omega
      go_wp2_with fail
      go_ret
      exact ⟨ret_eq (by simp), HB.out⟩
set_option maxRecDepth 100000 in
set_option maxHeartbeats 2000000 in
theorem contains_any (w : World) {bx p g bs bm s M : Nat} {F O S : List Value} {T : List Ent} (hbx : w.cell? ⟨bx, 0, none⟩ = some (.pointer (some ⟨p, 0, none⟩))) (L : LogAt w p g s) (D : DiskAt w g bs bm F O S T) (hM : F.length = s + 1 + M) (hF : F.length ≤ 4096) (pv : Value) (ps : List (Nat × Value)) (hp : RdPg w pv ps) (hl : ps.length ≤ 4096) (hn : ∀ x ∈ ps, x.1 < M) (hs : ∀ x ∈ ps, ∃ a k c, x.2 = .slice a k c) :
    Calls Try.prog 45 #[pv, .func (.func 46) #[] #[.pointer (some ⟨bx, 0, none⟩)]] w fun e w' => e = .returned (.bool false) ∧ Below w.heap.size w w' := by
  have HI := Lib.hid (index_any w hbx L D hM hF pv ps hp hl hn hs)
  clear hbx L D hp
  go_enter Try.func45, Try.ntmps45
  go_wp2_with fail
  refine HI.out.mono ?_
  rintro e w2 ⟨rfl, hb⟩
  have HB := Lib.hid hb
  clear hb HI
  go_wp2_with fail
  go_ret
  exact ⟨ret_eq (by simp), HB.out⟩
end Go.Proofs.Ytlkieepfjhiflaa
