/- A cache in memory; its look. -/
import Derived.Test.YtlkieepfjhiflaaComG
namespace Go.Proofs.Ytlkieepfjhiflaa
open Go.RowKit Go.ChangeMaps

/-- A cache's box: its log, how many at most, the two maps, the row. -/
def CacheAt (w : World) (c p most db cb : Nat) (rv : Value) : Prop := w.heap[c]? = some (.cells #[.pointer (some ⟨p, 0, none⟩), .int .i64 (most : Int), .map (some db), .map (some cb), rv] 107 (0, 0))
theorem CacheAt.fr {w w' : World} {c p most db cb : Nat} {rv : Value} {U : List Nat} (h : CacheAt w c p most db cb rv) (hf : Fr U w w') (hU : c ∉ U) : CacheAt w' c p most db cb rv := hf.heap hU h
set_option maxRecDepth 100000 in
set_option maxHeartbeats 2000000 in
theorem look_any (w : World) {c p most db cb g bs bm s M : Nat} {rv : Value} {F O S : List Value} {T : List Ent} (C : CacheAt w c p most db cb rv) (L : LogAt w p g s) (D : DiskAt w g bs bm F O S T) (hM : F.length = s + 1 + M) (hF : F.length ≤ 4096) (n : Nat) (hn : n < M) :
    Calls Try.prog 51 #[.pointer (some ⟨c, 0, none⟩), .int .i64 (n : Int)] w fun e w' => e = .returned (.int .i64 0) ∧ ∃ q, w' = w.drewN q := by
  have k0 : w.cell? ⟨c, 0, none⟩ = some (.pointer (some ⟨p, 0, none⟩)) := (cell_of_row w c 0 _ _ _ C).trans rfl
  have HP := Lib.hid (pages_any w L D hM hF)
  have i0 : (0 : Int) ≤ (n : Int) := by omega
  have i1 : (n : Int) < (M : Int) := by omega
  clear C L D hM hF
  go_enter Try.func51, Try.ntmps51
  go_wp2_with fail
  refine HP.out.mono ?_
  rintro r w1 ⟨rfl, q, rfl⟩
  clear HP k0
  go_wp2_with fail
  go_ret
  exact ⟨rfl, q, rfl⟩
set_option maxRecDepth 100000 in
set_option maxHeartbeats 1000000 in
theorem room_any (w : World) {c p most db cb g s cl : Nat} {rv : Value} {T : List Ent} (C : CacheAt w c p most db cb rv) (L : LogAt w p g s) (hs : s ≤ 100) (hm : w.heap[db]? = some (.map (T.map Ent.obj).toArray cl)) (hT : T.length ≤ 100) :
    Calls Try.prog 52 #[.pointer (some ⟨c, 0, none⟩)] w fun e w' => e = .returned (.int .i64 ((s : Int) - (T.length : Int))) ∧ ∃ q, w' = w.drewN q := by
  have k0 : w.cell? ⟨c, 0, none⟩ = some (.pointer (some ⟨p, 0, none⟩)) := (cell_of_row w c 0 _ _ _ C).trans rfl
  have k2 : w.cell? ⟨c, 2, none⟩ = some (.map (some db)) := (cell_of_row w c 2 _ _ _ C).trans rfl
  have HC := Lib.hid (fun q => show Calls Try.prog 44 #[.pointer (some ⟨p, 0, none⟩)] (w.drewN q) fun e w'' => e = .returned (.int .i64 (s : Int)) ∧ ∃ r, w'' = w.drewN r from
    (capacity_any (w.drewN q) (L.fr (U := []) (Fr.drewN w q) (by simp)) hs).mono fun e w' h => ⟨h.1, q, h.2⟩)
  have b0 : (s : Int) ≤ 100 := by omega
  have b1 : (T.length : Int) ≤ 100 := by omega
  clear C L hs
  go_enter Try.func52, Try.ntmps52
  go_wp2_with fail
  refine wp_region_quiet_lit (by kernel_rfl) (by kernel_rfl) ?_
  iterate 4 (go_big_quiet_step (fail))
  go_big_quiet_step (exact HC.out _)
  iterate 4 (go_big_quiet_step (fail))
  have hln : ∀ (q : Nat) (ty : TypeId), (Builtin.len_ #[100] ty #[.map (some db)]).run Try.prog (w.drewN q) = .ok (.int .i64 (T.length : Int)) (w.drewN q) := fun q ty => by
    have hb : (w.drewN q).heap[db]? = some (.map (T.map Ent.obj).toArray cl) := hm
    simp [Builtin.len_, run_underlying Try.underlying100, Go.MapKept.run_getObj_map hb, Result.andThen, goInt]
  repeat (go_big_quiet_step (fail))
  refine wpQuiet_nil ?_
  intro w' hw'
  obtain ⟨nq, rfl⟩ := hw'
  clear HC hln
  go_wp2_with fail
  go_ret
  exact ⟨rfl, nq, rfl⟩
end Go.Proofs.Ytlkieepfjhiflaa
