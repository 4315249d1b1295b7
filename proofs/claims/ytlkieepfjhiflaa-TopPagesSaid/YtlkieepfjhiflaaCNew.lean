/- The contracts of bcache.New and of a cache's Log. -/
import Derived.Test.YtlkieepfjhiflaaCCm
namespace Go.Proofs.Ytlkieepfjhiflaa
open Go.RowKit Go.ChangeMaps

set_option maxRecDepth 100000 in
set_option maxHeartbeats 2000000 in
theorem cnew_any (w : World) {p g bs bm s M most : Nat} {F : List Value} {ops : List (Option (Nat × Value))} {pg : Nat → List UInt8} (L : LogAt w p g s) (D : DiskP w g bs bm F ops) (hP : Playable F ops) (h0 : (play F ops).2 = []) (hE : Emp (Dat [] w) s M pg (play F ops).1) (h5 : ∀ n, n < M → (pg n).length = 512) (hF : F.length ≤ 4096) (hM : F.length = s + 1 + M) (hs : 0 < s ∧ s ≤ 100) (hM0 : 0 < M) (hm : 0 < most ∧ most ≤ 64) :
    Calls Try.prog 25 #[.pointer (some ⟨p, 0, none⟩), .int .i64 (most : Int)] w fun e w' => ∃ c db cb, e = .returned (.tuple #[.pointer (some ⟨c, 0, none⟩), .int .i64 0]) ∧ CSt [] w' c p db cb g bs bm s M most 0 0 (.slice none 0 0) [] F ops (fun _ => none) (fun _ => none) pg pg ∧ Below w.heap.size w w' ∧ w.heap.size ≤ c ∧ w.heap.size ≤ db ∧ w.heap.size ≤ cb := by
  have m0 : (1 : Int) ≤ (most : Int) := by omega
  have m1 : (most : Int) ≤ 64 := by omega
  have hmm := @run_makeMap Try.prog
  have A1 := (Fr.refl [] w).alloc (.map #[] 0)
  have A2 := A1.alloc (.map #[] 0)
  have A3 := A2.alloc (.cells #[.pointer (some ⟨p, 0, none⟩), .int .i64 (most : Int), .map (some w.heap.size), .map (some (w.heap.size + 1)), .slice none 0 0] 107)
  have R1 := heap_alloc_new w (.map #[] 0)
  have R2 := heap_alloc_new (w.alloc (.map #[] 0)) (.map #[] 0)
  have R3 := heap_alloc_new ((w.alloc (.map #[] 0)).alloc (.map #[] 0)) (.cells #[.pointer (some ⟨p, 0, none⟩), .int .i64 (most : Int), .map (some w.heap.size), .map (some (w.heap.size + 1)), .slice none 0 0] 107)
  have K1 := (MapP.new R1).fr (((Fr.refl [] (w.alloc (.map #[] 0))).alloc (.map #[] 0)).alloc (.cells #[.pointer (some ⟨p, 0, none⟩), .int .i64 (most : Int), .map (some w.heap.size), .map (some (w.heap.size + 1)), .slice none 0 0] 107)) (by simp)
  have K2 := (MapP.new R2).fr ((Fr.refl [] ((w.alloc (.map #[] 0)).alloc (.map #[] 0))).alloc (.cells #[.pointer (some ⟨p, 0, none⟩), .int .i64 (most : Int), .map (some w.heap.size), .map (some (w.heap.size + 1)), .slice none 0 0] 107)) (by simp)
  have hbm := D.lt.2.2
  have HR := Lib.hid (show CSt [] (((w.alloc (.map #[] 0)).alloc (.map #[] 0)).alloc (.cells #[.pointer (some ⟨p, 0, none⟩), .int .i64 (most : Int), .map (some w.heap.size), .map (some (w.heap.size + 1)), .slice none 0 0] 107)) (w.heap.size + 2) p w.heap.size (w.heap.size + 1) g bs bm s M most 0 0 (.slice none 0 0) [] F ops (fun _ => none) (fun _ => none) pg pg from
    ⟨by simpa [CacheAt] using R3, L.fr A3 (by simp), D.fr A3 (by simp), hP, h0, emp_kept hE h5 A3 (by simp), K1, by simpa using K2, by simp, by simp, fun _ _ => rfl, ⟨by simp, .inl ⟨rfl, rfl⟩⟩, by simp, ⟨by omega, by omega, by omega⟩, fun n hn => ⟨h5 n hn, h5 n hn⟩, ⟨hM, hF, hs.1, hs.2, hM0, hm.1, hm.2⟩, by simp⟩)
  have HB := Lib.hid (A3.below (Nat.le_refl _) (by simp))
  clear A1 A2 A3 R1 R2 R3 K1 K2 L D hP h0 hE h5 hbm
  go_enter Try.func25, Try.ntmps25
  go_wp2_with fail
  go_ret2
  exact ⟨w.heap.size + 2, rfl, w.heap.size, w.heap.size + 1, HR.out, HB.out, by omega, by omega, by omega⟩
set_option maxRecDepth 100000 in
theorem clog_any (w : World) {c p most db cb : Nat} {rv : Value} (C : CacheAt w c p most db cb rv) : Calls Try.prog 28 #[.pointer (some ⟨c, 0, none⟩)] w fun e w' => e = .returned (.pointer (some ⟨p, 0, none⟩)) ∧ w' = w := by
  have k0 : w.cell? ⟨c, 0, none⟩ = some (.pointer (some ⟨p, 0, none⟩)) := (cell_of_row _ c 0 _ _ _ C).trans rfl
  clear C
  go_enter Try.func28, Try.ntmps28
  go_wp2_with fail
  go_ret
  exact ⟨rfl, rfl⟩
end Go.Proofs.Ytlkieepfjhiflaa
