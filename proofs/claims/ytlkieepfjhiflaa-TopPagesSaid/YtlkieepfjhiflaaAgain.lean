/- The law TopAgain. -/
import Derived.Test.YtlkieepfjhiflaaAgP
namespace Go.Proofs.Ytlkieepfjhiflaa
open Go.RowKit Go.ChangeMaps

set_option maxRecDepth 100000 in
set_option maxHeartbeats 1000000 in
theorem commit_none (w : World) {p g s : Nat} (_ : LogAt w p g s) (a : Option Addr) (c : Nat) :
    Calls Try.prog 21 #[.pointer (some ⟨p, 0, none⟩), .slice a 0 c] w fun e w' => e = .returned (.int .i64 0) ∧ Fr [] w w' := by
  have R1 := heap_alloc_new w (.cells #[.pointer (some ⟨p, 0, none⟩)] 47)
  have kb : (w.alloc (.cells #[.pointer (some ⟨p, 0, none⟩)] 47)).cell? ⟨w.heap.size, 0, none⟩ = some (.pointer (some ⟨p, 0, none⟩)) := (cell_of_row _ _ 0 _ _ _ R1).trans rfl
  have HA := Lib.hid ((Fr.refl [] w).alloc (.cells #[.pointer (some ⟨p, 0, none⟩)] 47))
  clear R1
  go_enter Try.func21, Try.ntmps21
  go_wp2_with fail
  go_ret
  exact ⟨rfl, HA.out⟩
theorem Emp.mono {R R' : Value → List UInt8 → Prop} (hR : ∀ v l, R v l → R' v l) {s M : Nat} {pg : Nat → List UInt8} {D : List Value} (h : Emp R s M pg D) : Emp R' s M pg D :=
  ⟨h.len, h.head.imp (fun ⟨v, a, b⟩ => ⟨v, a, hR _ _ b⟩) (fun ⟨v, a, b⟩ => ⟨v, a, hR _ _ b⟩), fun n hn => let ⟨v, a, b⟩ := h.page n hn; ⟨v, a, hR _ _ b⟩⟩
theorem Hed.mono {R R' : Value → List UInt8 → Prop} (hR : ∀ v l, R v l → R' v l) {s M : Nat} {ns : List Nat} {old new : Nat → List UInt8} {D : List Value} (h : Hed R s M ns old new D) : Hed R' s M ns old new D :=
  ⟨h.len, let ⟨v, a, b⟩ := h.head; ⟨v, a, hR _ _ b⟩, fun i n hi => let ⟨v, a, b⟩ := h.log i n hi; ⟨v, a, hR _ _ b⟩, fun n hn => (h.page n hn).imp (fun ⟨v, a, b⟩ => ⟨v, a, hR _ _ b⟩) (fun ⟨hm, v, a, b⟩ => ⟨hm, v, a, hR _ _ b⟩)⟩
theorem Inv.mono {R R' : Value → List UInt8 → Prop} (hR : ∀ v l, R v l → R' v l) {s M : Nat} {ns : List Nat} {old new : Nat → List UInt8} {D : List Value} (h : Inv R s M ns old new D) : Inv R' s M ns old new D := by
  rcases h with h | h | h
  · exact .inl (h.mono hR)
  · exact .inr (.inl (h.mono hR))
  · exact .inr (.inr (h.mono hR))
/-- A log that may crash: what stands in memory, and what each crash leaves. -/
structure LogOk (w : World) (p g bs bm s M : Nat) (F : List Value) (ops : List (Option (Nat × Value))) (ns : List Nat) (old new pg : Nat → List UInt8) : Prop where
  log : LogAt w p g s
  disk : DiskP w g bs bm F ops
  apart : p ∉ [g, bs, bm]
  play : Playable F ops
  good : AllGood (Dat [g, bs, bm] w) s M ns old new (F, []) ops
  emp : Emp (Dat [g, bs, bm] w) s M pg (Go.Proofs.Ytlkieepfjhiflaa.play F ops).1
  wait : (Go.Proofs.Ytlkieepfjhiflaa.play F ops).2 = []
  len : ops.length ≤ 1000
theorem AllGood.mono {R R' : Value → List UInt8 → Prop} (hR : ∀ v l, R v l → R' v l) {s M : Nat} {ns : List Nat} {old new : Nat → List UInt8} {st : List Value × List (Nat × Value)} {xs : List (Option (Nat × Value))} (h : AllGood R s M ns old new st xs) : AllGood R' s M ns old new st xs :=
  fun j hj D hD => (h j hj D hD).mono hR
theorem LogOk.fr {w w' : World} {p g bs bm s M : Nat} {F : List Value} {ops : List (Option (Nat × Value))} {ns : List Nat} {old new pg : Nat → List UInt8} (h : LogOk w p g bs bm s M F ops ns old new pg) {U : List Nat} (hf : Fr U w w') (hU : ∀ k ∈ U, w.heap.size ≤ k) : LogOk w' p g bs bm s M F ops ns old new pg :=
  have hR : ∀ v l, Dat [g, bs, bm] w v l → Dat [g, bs, bm] w' v l := fun _ _ hd => RdN.fr hd hf (fun k hk => .inr (hU k hk))
  ⟨h.log.fr hf (fun hm => by have := hU p hm; have := h.log.lt; omega), h.disk.fr hf hU, h.apart, h.play, h.good.mono hR, h.emp.mono hR, h.wait, h.len⟩
theorem playable_writes {F : List Value} {ops : List (Option (Nat × Value))} (hP : Playable F ops) (h0 : (play F ops).2 = []) (f : Nat → Nat) (hf : ∀ a b, a < b → f a < f b) (ks : List Nat) (hk : ks.Pairwise (· < ·)) (hlt : ∀ k ∈ ks, f k < F.length) (vs : List Value) (hv : ∀ v ∈ vs, ∃ a l c, v = .slice a l c) : Playable F (ops ++ (mkW f ks vs).map some) := by
  intro j n v hj
  rw [List.getElem?_append] at hj
  split at hj
  · rename_i hl
    rw [List.take_append_of_le_length (by omega)]
    exact hP j n v hj
  · rename_i hl
    have hrise := mkW_rise hf hk vs
    rw [List.getElem?_map] at hj
    obtain ⟨x, hx, he⟩ := Option.map_eq_some_iff.1 hj
    obtain rfl : x = (n, v) := Option.some.inj he
    have hmem := List.mem_of_getElem? hx
    obtain ⟨i, k, h1, h2, h3⟩ := mkW_mem hmem
    refine ⟨by rw [h3]; exact hlt k (List.mem_of_getElem? h1), fun q hq => ?_, hv v (List.mem_of_getElem? h2)⟩
    rw [List.take_append, List.take_of_length_le (by omega), ← List.map_take, play_writes h0] at hq
    obtain ⟨i', hi'⟩ := List.getElem?_of_mem hq
    rw [List.getElem?_take] at hi'
    split at hi'
    · obtain ⟨l1, e1⟩ := List.getElem?_eq_some_iff.1 hi'
      obtain ⟨l2, e2⟩ := List.getElem?_eq_some_iff.1 hx
      have := List.pairwise_iff_getElem.1 hrise i' (j - ops.length) l1 l2 (by assumption)
      rw [e1, e2] at this
      exact this
    · cases hi'
theorem playable_home {F : List Value} {ops : List (Option (Nat × Value))} (hP : Playable F ops) (h0 : (play F ops).2 = []) {s M : Nat} (hM : F.length = s + 1 + M) (ns : List Nat) (hr : ns.Pairwise (· < ·)) (hb : ∀ n ∈ ns, n < M) (vs : List Value) (vh : Value) (hv : ∀ v ∈ vh :: vs, ∃ a l c, v = .slice a l c) : Playable F (ops ++ homeOps s ns vs vh) := by
  have h1 := (playable_writes hP h0 (fun n => s + 1 + n) (by omega) ns hr (fun k hk => by have := hb k hk; omega) vs (fun v hv' => hv v (by simp [hv']))).snoc_f
  have h2 := (h1.snoc_w (n := 0) (v := vh) (by omega) (by rw [play_snoc, play_writes h0]; intro p hp; cases hp) (hv vh (by simp))).snoc_f
  have e : ops ++ homeOps s ns vs vh = ops ++ (mkW (fun n => s + 1 + n) ns vs).map some ++ [none] ++ [some (0, vh)] ++ [none] := by simp [homeOps]
  rw [e]; exact h2
theorem playable_com {F : List Value} {ops : List (Option (Nat × Value))} (hP : Playable F ops) (h0 : (play F ops).2 = []) {s M : Nat} (hM : F.length = s + 1 + M) (ns : List Nat) (hl : ns.length ≤ s) (hr : ns.Pairwise (· < ·)) (hb : ∀ n ∈ ns, n < M) (us : List Value) (uh : Value) (vs : List Value) (vh : Value) (hv : ∀ v ∈ uh :: vh :: (us ++ vs), ∃ a l c, v = .slice a l c) : Playable F (ops ++ comOps s ns us uh vs vh) := by
  have h1 := (playable_writes hP h0 (fun i => 1 + i) (by omega) (List.range ns.length) List.pairwise_lt_range (fun k hk => by have := List.mem_range.1 hk; omega) us (fun v hv' => hv v (by simp [hv']))).snoc_f
  have h2 := (h1.snoc_w (n := 0) (v := uh) (by omega) (by rw [play_snoc, play_writes h0]; intro p hp; cases hp) (hv uh (by simp))).snoc_f
  have h3 := playable_home h2 (by rw [play_snoc]; rfl) hM ns hr hb vs vh (fun v hv' => hv v (by rcases List.mem_cons.1 hv' with h | h <;> simp [h]))
  have e : ops ++ comOps s ns us uh vs vh = ops ++ (mkW (fun i => 1 + i) (List.range ns.length) us).map some ++ [none] ++ [some (0, uh)] ++ [none] ++ homeOps s ns vs vh := by simp [comOps]
  rw [e]; exact h3
end Go.Proofs.Ytlkieepfjhiflaa
