/- A log in memory; the small contracts: Sectors, Ops, Pages, Capacity, (*Log).Read. -/
import Derived.Test.YtcblfkojkdaepaaGreatWz
import Derived.Test.YtcblfkojkdaepaaGreatFlushOn
namespace Go.Proofs.YtcblfkojkdaepaaGreat
open Go.RowKit Go.ChangeMaps

/-- A disk in memory, by its ops. -/
def DiskP (w : World) (g bs bm : Nat) (F : List Value) (ops : List (Option (Nat × Value))) : Prop := ∃ T, DiskAt w g bs bm F (ops.map opV) (play F ops).1 T ∧ kvs T = (play F ops).2
/-- A log's box. -/
def LogAt (w : World) (p g s : Nat) : Prop := ∃ c : Int, w.heap[p]? = some (.cells #[.pointer (some ⟨g, 0, none⟩), .int .i64 (s : Int), .int .i64 c] 58 (0, 0))
theorem LogAt.fr {w w' : World} {p g s : Nat} {U : List Nat} (h : LogAt w p g s) (hf : Fr U w w') (hU : p ∉ U) : LogAt w' p g s := by
  obtain ⟨c, h⟩ := h
  exact ⟨c, hf.heap hU h⟩
theorem LogAt.lt {w : World} {p g s : Nat} (h : LogAt w p g s) : p < w.heap.size := by
  obtain ⟨c, h⟩ := h
  exact (Array.getElem?_eq_some_iff.1 h).1
theorem LogAt.c0 {w : World} {p g s : Nat} (h : LogAt w p g s) : w.cell? ⟨p, 0, none⟩ = some (.pointer (some ⟨g, 0, none⟩)) := by
  obtain ⟨c, h⟩ := h
  exact (cell_of_row w p 0 _ _ _ h).trans rfl
theorem LogAt.c1 {w : World} {p g s : Nat} (h : LogAt w p g s) : w.cell? ⟨p, 1, none⟩ = some (.int .i64 (s : Int)) := by
  obtain ⟨c, h⟩ := h
  exact (cell_of_row w p 1 _ _ _ h).trans rfl
set_option maxRecDepth 100000 in
set_option maxHeartbeats 4000000 in
theorem sectors_any (w : World) {g bs bm : Nat} {F O S : List Value} {T : List Ent} (D : DiskAt w g bs bm F O S T) :
    Calls Tryz.prog 16 #[.pointer (some ⟨g, 0, none⟩)] w fun e w' => e = .returned (.int .i64 (F.length : Int)) ∧ w' = w := by
  obtain ⟨fv, lv, sc, hbox, hF, hL, hsc⟩ := D.box
  obtain ⟨c0, c1, c2, c3⟩ := cells_disk hbox
  obtain ⟨fa, fc, rfl, hfc, _⟩ := hF.open
  clear D hbox hF hL
  go_enter Tryz.func16, Tryz.ntmps16
  go_wp2_with fail
  go_ret
  exact ⟨rfl, rfl⟩
set_option maxRecDepth 100000 in
set_option maxHeartbeats 4000000 in
theorem pages_any (w : World) {p g bs bm s M : Nat} {F O S : List Value} {T : List Ent} (L : LogAt w p g s) (D : DiskAt w g bs bm F O S T) (hM : F.length = s + 1 + M) (hF : F.length ≤ 4096) :
    Calls Tryz.prog 21 #[.pointer (some ⟨p, 0, none⟩)] w fun e w' => e = .returned (.int .i64 (M : Int)) ∧ ∃ q, w' = w.drewN q := by
  have c0 := L.c0; have c1 := L.c1
  have HD := Lib.hid (fun q => show Calls Tryz.prog 16 #[.pointer (some ⟨g, 0, none⟩)] (w.drewN q) fun e w'' => e = .returned (.int .i64 (F.length : Int)) ∧ ∃ r, w'' = w.drewN r from
    (sectors_any (w.drewN q) (D.fr (U := []) (Fr.drewN w q) (by simp))).mono fun e w' h => ⟨h.1, q, h.2⟩)
  have hw : (F.length : Int) - (s : Int) - 1 = (M : Int) := by omega
  have b0 : (F.length : Int) ≤ 4096 := by omega
  have b1 : (s : Int) ≤ 4096 := by omega
  clear D L hM hF
  generalize F.length = N at *
  go_enter Tryz.func21, Tryz.ntmps21
  go_wp2_with fail
  refine wp_region_quiet_lit (by kernel_rfl) (by kernel_rfl) ?_
  iterate 5 (go_big_quiet_step (fail))
  go_big_quiet_step (exact HD.out _)
  repeat (go_big_quiet_step (fail))
  refine wpQuiet_nil ?_
  intro w' hw'
  obtain ⟨nq, rfl⟩ := hw'
  clear HD
  go_wp2_with fail
  go_ret
  exact ⟨rfl, nq, rfl⟩
set_option maxRecDepth 100000 in
set_option maxHeartbeats 4000000 in
theorem capacity_any (w : World) {p g s : Nat} (L : LogAt w p g s) (hs : s ≤ 100) :
    Calls Tryz.prog 49 #[.pointer (some ⟨p, 0, none⟩)] w fun e w' => e = .returned (.int .i64 (s : Int)) ∧ w' = w := by
  have c1 := L.c1
  have hmin : min (s : Int) 100 = (s : Int) := by omega
  have HM := Lib.hid hmin
  clear L hs hmin
  go_enter Tryz.func49, Tryz.ntmps49
  go_wp2_with fail
  go_ret
  exact ⟨ret_eq (by simp [HM.out]), rfl⟩
set_option maxRecDepth 100000 in
set_option maxHeartbeats 4000000 in
theorem lread_any (w : World) {p g bs bm s M : Nat} {F O S : List Value} (L : LogAt w p g s) (D : DiskAt w g bs bm F O S []) (hM : F.length = s + 1 + M) (hF : F.length ≤ 4096) (n : Nat) (hn : n < M) (v : Value) (h : S[s + 1 + n]? = some v) (l : List UInt8) (hv : RdB w v l) (hl : l.length = 512) :
    Calls Tryz.prog 71 #[.pointer (some ⟨p, 0, none⟩), .int .i64 (n : Int)] w fun e w' => ∃ q c, e = .returned (.tuple #[.slice (some ⟨q, 0, none⟩) 512 c, .int .i64 0]) ∧ w.heap.size ≤ q ∧ w'.ownsRow w.heap.size 5 1 (.slice (some ⟨q, 0, none⟩) 512 c) 512 (l.map vB) ∧ Below w.heap.size w w' := by
  have HP := Lib.hid (pages_any w L D hM hF)
  have hlen := D.len
  have HR := Lib.hid (fun w1 (hf : Fr [] w w1) => dread_any w1 (D.fr hf (by simp)) (by omega) (s + 1 + n) v h (by simp) l (hv.below (hf.below (Nat.le_refl _) (by simp))) hl)
  have HL := Lib.hid L
  have i0 : (0 : Int) ≤ (n : Int) := by omega
  have i1 : (n : Int) < (M : Int) := by omega
  have b0 : (M : Int) ≤ 4096 := by omega
  have b1 : (s : Int) ≤ 4096 := by omega
  clear L D h hv hl hM hF hlen
  go_enter Tryz.func71, Tryz.ntmps71
  go_wp2_with fail
  refine HP.out.mono ?_
  rintro r w1 ⟨rfl, q1, rfl⟩
  have k0 : (w.drewN q1).cell? ⟨p, 0, none⟩ = some (.pointer (some ⟨g, 0, none⟩)) := HL.out.c0
  have k1 : (w.drewN q1).cell? ⟨p, 1, none⟩ = some (.int .i64 (s : Int)) := HL.out.c1
  have e1 : (s : Int) + 1 + (n : Int) = ((s + 1 + n : Nat) : Int) := by omega
  have HR2 := Lib.hid (HR.out (w.drewN q1).drew ((Fr.drewN w q1).trans (Fr.drew _)))
  have HB := Lib.hid (show Below w.heap.size w (w.drewN q1).drew from ((Fr.drewN (S := []) w q1).trans (Fr.drew _)).below (Nat.le_refl _) (by simp))
  rw [← e1] at HR2
  clear HP HR HL e1
  revert k0 k1 HR2 HB
  generalize w.drewN q1 = wz
  intro k0 k1 HR2 HB
  have k2 := cell_dr k0; have k3 := cell_dr k1
  have W1 : IntKind.i64.wrap ((s : Int) + 1) = (s : Int) + 1 := by rw [IntKind.wrap_i64]; omega
  have W2 : IntKind.i64.wrap ((s : Int) + 1 + (n : Int)) = (s : Int) + 1 + (n : Int) := by rw [IntKind.wrap_i64]; omega
  go_wp2_with fail
  go_region_with (refine HR2.out.mono ?_; rintro r w5 ⟨q, c, rfl, hq, ho, hb⟩; (have HO := Lib.hid (own_mono ho HB.out.size)); (have HB2 := Lib.hid (HB.out.trans (hb.mono HB.out.size))); (have HQ := Lib.hid (Nat.le_trans HB.out.size hq)); clear ho hb hq)
  all_goals (
    clear HR2 k0 k1 k2 k3 W1 W2
    go_wp2_with fail
    go_ret2
    exact ⟨q, c, rfl, HQ.out, HO.out, HB2.out⟩)
end Go.Proofs.YtcblfkojkdaepaaGreat
