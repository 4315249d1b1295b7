/- Is an inode's number taken. -/
import Derived.Test.YtcblfkojkdaepaaGreatInode
import Derived.Laws.ComplexArith
namespace Go.Proofs.YtcblfkojkdaepaaGreat
open Go.RowKit Go.ChangeMaps
section
variable {K : Kx} {A S : List Nat} {w : World} {N dm mb : Nat} {pg cur : Nat → List UInt8}
set_option maxRecDepth 100000 in
set_option maxHeartbeats 2000000 in
theorem is_any (x : CX K A w N S pg cur dm) (m : MpAt w K mb) (i0 i : Nat) (hi : i < i0) (hi0 : i0 ≤ 16) (hc : cur 1 = bmL i0) :
    Calls Tryz.prog 82 #[.pointer (some ⟨mb, 0, none⟩), .int .i64 1, .int .i64 (i : Int)] w fun e w' => e = .returned (.bool true) ∧ Stp K A N pg S w w' cur := by
  have HRD := Lib.hid (aread_any x m 1 (.inl rfl))
  have HX := Lib.hid x; have HM := Lib.hid m; have HC := Lib.hid hc
  have j0 : (i : Int) < 16 := by omega
  clear x m hc
  go_enter Tryz.func82, Tryz.ntmps82
  go_wp2_with fail
  refine HRD.out.mono ?_
  rintro e w2 ⟨q, cap, rfl, hq, ho, hs⟩
  rw [HC.out] at ho
  rw [show ((bcnt 1 : Nat) : Int) = 16 from rfl]
  have A3 := (Fr.refl [] w2).alloc (.cells #[.slice (some ⟨q, 0, none⟩) 512 cap, .int .i64 16] 127)
  have R3 := heap_alloc_new w2 (.cells #[.slice (some ⟨q, 0, none⟩) 512 cap, .int .i64 16] 127)
  have o3 := own_keep ho A3 (by simp)
  have HAT := Lib.hid (at_any (w2.alloc (.cells #[.slice (some ⟨q, 0, none⟩) 512 cap, .int .i64 16] 127)) (.slice (some ⟨q, 0, none⟩) 512 cap) i0 i 16 (RdV_of_owns o3) (by omega))
  have HS := Lib.hid (((hs.anti (A' := A) (fun k hk => List.mem_cons_of_mem _ hk)).toB []).fr0 A3)
  have k0 : (w2.alloc (.cells #[.slice (some ⟨q, 0, none⟩) 512 cap, .int .i64 16] 127)).cell? ⟨w2.heap.size, 0, none⟩ = some (.slice (some ⟨q, 0, none⟩) 512 cap) := (cell_of_row _ _ 0 _ _ _ R3).trans rfl
  have k1 : (w2.alloc (.cells #[.slice (some ⟨q, 0, none⟩) 512 cap, .int .i64 16] 127)).cell? ⟨w2.heap.size, 1, none⟩ = some (.int .i64 16) := (cell_of_row _ _ 1 _ _ _ R3).trans rfl
  clear A3 R3 o3 hs ho hq HRD
  go_wp2_with fail
  refine HAT.out.mono ?_
  rintro e w4 ⟨rfl, hb4⟩
  have HF := Lib.hid ((HS.out.fr0 (Fr.of_below (S := []) hb4)).close (Fr.refl [] w) (by simp))
  rw [show decide (i < i0) = true from decide_eq_true hi]
  clear hb4 HAT HS
  go_wp2_with fail
  go_ret
  exact ⟨ret_eq (by simp), HF.out⟩
set_option maxRecDepth 100000 in
theorem used_any (x : CX K A w N S pg cur dm) (m : MpAt w K mb) (i0 i : Nat) (hi : i < i0) (hi0 : i0 ≤ 16) (hc : cur 1 = bmL i0) :
    Calls Tryz.prog 67 #[.pointer (some ⟨mb, 0, none⟩), .int .i64 (i : Int)] w fun e w' => e = .returned (.bool true) ∧ Stp K A N pg S w w' cur := by
  have HIS := Lib.hid (is_any x m i0 i hi hi0 hc)
  clear x m hc
  go_enter Tryz.func67, Tryz.ntmps67
  go_wp2_with fail
  refine HIS.out.mono ?_
  rintro e w2 ⟨rfl, hs⟩
  have HS := Lib.hid hs
  clear hs HIS
  go_wp2_with fail
  go_ret
  exact ⟨rfl, HS.out⟩
end
end Go.Proofs.YtcblfkojkdaepaaGreat
/- Small numbers as floats. -/
namespace Go.Proofs.YtcblfkojkdaepaaGreat
open Go.RowKit Go.ChangeMaps

/-- A small number's bits as a float. -/
def fb (n : Nat) : Nat := if n = 0 then 0 else (1023 + Nat.log2 n) * 2 ^ 52 + (n - 2 ^ Nat.log2 n) * 2 ^ (52 - Nat.log2 n)
theorem fb_succ : ∀ n : Fin 60, floatBits .add .f64 (fb n.val) 4607182418800017408 = some (fb (n.val + 1)) := by decide +kernel
theorem fb_zero : ∀ n : Fin 61, floatBits .add .f64 (fb n.val) 0 = some (fb n.val) := by decide +kernel
end Go.Proofs.YtcblfkojkdaepaaGreat
/- A map of numbers to complex numbers: a store. -/
namespace Go.Proofs.YtcblfkojkdaepaaGreat
open Go.RowKit Go.ChangeMaps Go.MapKept

theorem run_pc_update {w : World} {bm cl : Nat} {T : List Ent} (hb : w.heap[bm]? = some (.map (T.map Ent.obj).toArray cl)) (n : Nat) (h : ∀ e ∈ T, e.k ≠ n) (sl v : Value) :
    (Instr.mapUpdate 125 (.map (some bm)) (.int .i64 (n : Int)) sl).run Tryz.prog w = .ok () (setBlock w bm (.map ((T ++ [(⟨n, sl, v, cl⟩ : Ent)]).map Ent.obj).toArray (cl + 1))) := by
  have hk : IsKey (.int .i64) (.int .i64 (n : Int)) := by simp [IsKey]
  have hs := run_setObj_map (P := Tryz.prog) (.map ((T.map Ent.obj).toArray.push { key := .int .i64 (n : Int), val := sl, born := cl }) (cl + 1)) hb
  simp only [Instr.mapUpdate, Sem.run_bind, run_underlying Tryz.underlying125, Result.andThen, Go.MapKept.run_getObj_map hb, run_checkKey Tryz.underlying3 hk, run_findKey Tryz.underlying3 (findNow_miss n T 0 h)]
  rw [hs]
  simp [setBlock, Ent.obj]
end Go.Proofs.YtcblfkojkdaepaaGreat
