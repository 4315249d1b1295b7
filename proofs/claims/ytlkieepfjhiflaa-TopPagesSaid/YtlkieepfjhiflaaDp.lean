/- A disk by its ops: what Write and Flush do with it. -/
import Derived.Test.YtlkieepfjhiflaaDFork
namespace Go.Proofs.Ytlkieepfjhiflaa
open Go.RowKit Go.ChangeMaps

theorem DiskP.nil {w : World} {g bs bm : Nat} {F : List Value} {ops : List (Option (Nat × Value))} (h : DiskP w g bs bm F ops) (h0 : (play F ops).2 = []) : DiskAt w g bs bm F (ops.map opV) (play F ops).1 [] := by
  obtain ⟨T, D, hk⟩ := h
  rw [h0] at hk
  have : T = [] := by simpa [kvs] using hk
  rw [this] at D
  exact D
theorem DiskP.fr {w w' : World} {g bs bm : Nat} {F : List Value} {ops : List (Option (Nat × Value))} {U : List Nat} (h : DiskP w g bs bm F ops) (hf : Fr U w w') (hU : ∀ k ∈ U, w.heap.size ≤ k) : DiskP w' g bs bm F ops := by
  obtain ⟨T, D, hk⟩ := h
  exact ⟨T, D.fr hf hU, hk⟩
theorem DiskP.lt {w : World} {g bs bm : Nat} {F : List Value} {ops : List (Option (Nat × Value))} (h : DiskP w g bs bm F ops) : g < w.heap.size ∧ bs < w.heap.size ∧ bm < w.heap.size := by
  obtain ⟨T, D, hk⟩ := h
  exact D.lt
theorem dpw_any (w : World) {g bs bm : Nat} {F : List Value} {ops : List (Option (Nat × Value))} (D : DiskP w g bs bm F ops) (hF : F.length ≤ 4096) (hO : ops.length ≤ 1000000) (n : Nat) (hn : n < F.length) (hk : ∀ p ∈ (play F ops).2, p.1 < n) (v : Value) (l : List UInt8) (hv : RdB w v l) (hl : l.length = 512) :
    Calls Try.prog 8 #[.pointer (some ⟨g, 0, none⟩), .int .i64 (n : Int), v] w fun e w' => e = .returned (.int .i64 0) ∧ Fr [g, bs, bm] w w' ∧ ∃ u, (∃ a k c, u = .slice a k c) ∧ Dat [g, bs, bm] w' u l ∧ DiskP w' g bs bm F (ops ++ [some (n, u)]) := by
  obtain ⟨T, D, hkv⟩ := D
  have hlen := play_length F ops
  refine (dwrite_any w D (by rw [hlen]; exact hF) (by simpa using hO) n (by rw [hlen]; exact hn) (kvs_lt hkv hk) v l hv hl).mono ?_
  rintro e w' ⟨rfl, hf, e0, rfl, hd, D'⟩
  refine ⟨rfl, hf, e0.v, D'.oneE e0 (by simp), hd, T ++ [e0], ?_, ?_⟩
  · rw [play_snoc, List.map_append]; exact D'
  · rw [play_snoc]
    show kvs (T ++ [e0]) = (play F ops).2 ++ [(e0.k, e0.v)]
    rw [← hkv]; simp [kvs]
theorem dpf_any (w : World) {g bs bm : Nat} {F : List Value} {ops : List (Option (Nat × Value))} (D : DiskP w g bs bm F ops) (hF : F.length ≤ 4096) (hO : ops.length ≤ 1000000) :
    Calls Try.prog 9 #[.pointer (some ⟨g, 0, none⟩)] w fun e w' => e = .returned (.int .i64 0) ∧ Fr [g, bs, bm] w w' ∧ DiskP w' g bs bm F (ops ++ [none]) := by
  obtain ⟨T, D, hkv⟩ := D
  have hlen := play_length F ops
  refine (dflush_any w D (by rw [hlen]; exact hF) (by simpa using hO)).mono ?_
  rintro e w' ⟨rfl, hf, D'⟩
  refine ⟨rfl, hf, [], ?_, ?_⟩
  · rw [play_snoc, List.map_append]
    show DiskAt w' g bs bm F _ (fluP (play F ops).1 (play F ops).2) []
    rw [← hkv, ← flu_kvs]; exact D'
  · rw [play_snoc]; rfl
end Go.Proofs.Ytlkieepfjhiflaa
