/- The map of what is free: its box; its small functions. -/
import Derived.Test.YtcblfkojkdaepaaGreatBits
namespace Go.Proofs.YtcblfkojkdaepaaGreat
open Go.RowKit Go.ChangeMaps

/-- The box of the map: its cache, 16 inodes. -/
def MpAt (w : World) (K : Kx) (mb : Nat) : Prop := w.heap[mb]? = some (.cells #[.pointer (some ⟨K.c, 0, none⟩), .int .i64 16] 68 (0, 0))
theorem MpAt.fr {w w' : World} {K : Kx} {mb : Nat} {U : List Nat} (h : MpAt w K mb) (hf : Fr U w w') (hU : mb ∉ U) : MpAt w' K mb := hf.heap hU h
theorem MpAt.c0 {w : World} {K : Kx} {mb : Nat} (h : MpAt w K mb) : w.cell? ⟨mb, 0, none⟩ = some (.pointer (some ⟨K.c, 0, none⟩)) := (cell_of_row _ _ 0 _ _ _ h).trans rfl
theorem MpAt.c1 {w : World} {K : Kx} {mb : Nat} (h : MpAt w K mb) : w.cell? ⟨mb, 1, none⟩ = some (.int .i64 16) := (cell_of_row _ _ 1 _ _ _ h).trans rfl
theorem MpAt.off {K : Kx} {A S : List Nat} {w : World} {N dm mb : Nat} {pg cur : Nat → List UInt8} (h : MpAt w K mb) (x : CX K A w N S pg cur dm) : mb ∉ S := x.ne h (by decide) (by decide) (fun e => absurd e (by decide)) (by decide)
theorem MpAt.stp {K : Kx} {A S : List Nat} {w w' : World} {N dm mb : Nat} {pg cur cur' : Nat → List UInt8} {A' : List Nat} (h : MpAt w K mb) (x : CX K A w N S pg cur dm) (s : Stp K A' N pg S w w' cur') : MpAt w' K mb := h.fr s.1 (h.off x)
set_option maxRecDepth 100000 in
theorem may_any (w : World) : Calls Tryz.prog 22 #[.int .i64 59, .int .i64 16] w fun e w' => e = .returned (.bool true) ∧ w' = w := by
  go_enter Tryz.func22, Tryz.ntmps22
  go_wp2_with fail
  go_ret
  exact ⟨ret_eq (by simp), rfl⟩
set_option maxRecDepth 100000 in
theorem afirst_any (w : World) {K : Kx} {mb : Nat} (h : MpAt w K mb) : Calls Tryz.prog 24 #[.pointer (some ⟨mb, 0, none⟩)] w fun e w' => e = .returned (.int .i64 5) ∧ w' = w := by
  have c1 := h.c1
  clear h
  go_enter Tryz.func24, Tryz.ntmps24
  go_wp2_with fail
  go_ret
  exact ⟨ret_eq (by simp), rfl⟩
set_option maxRecDepth 100000 in
theorem acache_any (w : World) {K : Kx} {mb : Nat} (h : MpAt w K mb) : Calls Tryz.prog 39 #[.pointer (some ⟨mb, 0, none⟩)] w fun e w' => e = .returned (.pointer (some ⟨K.c, 0, none⟩)) ∧ w' = w := by
  have c0 := h.c0
  clear h
  go_enter Tryz.func39, Tryz.ntmps39
  go_wp2_with fail
  go_ret
  exact ⟨rfl, rfl⟩
set_option maxRecDepth 100000 in
set_option maxHeartbeats 1000000 in
theorem table_any (w : World) {K : Kx} {mb : Nat} (h : MpAt w K mb) (i : Nat) (hi : i < 16) : Calls Tryz.prog 65 #[.pointer (some ⟨mb, 0, none⟩), .int .i64 (i : Int)] w fun e w' => e = .returned (.tuple #[.int .i64 ((3 + i / 8 : Nat) : Int), .int .i64 ((i % 8 * 64 : Nat) : Int), .int .i64 0]) ∧ w' = w := by
  have c1 := h.c1
  have i0 : (i : Int) < 16 := by omega
  clear h
  go_enter Tryz.func65, Tryz.ntmps65
  go_wp2_with fail
  have e1 : (3 : Int) + (i : Int) / 8 = ((3 + i / 8 : Nat) : Int) := by omega
  have e2 : (i : Int) % 8 * 512 / 8 = ((i % 8 * 64 : Nat) : Int) := by omega
  go_ret3
  refine ⟨?_, rfl⟩
  rw [← e1, ← e2]
  rfl
set_option maxRecDepth 100000 in
theorem mode_any (w : World) : Calls Tryz.prog 30 #[.int .i64 420] w fun e w' => e = .returned (.bool true) ∧ w' = w := by
  go_enter Tryz.func30, Tryz.ntmps30
  go_wp2_with fail
  go_ret
  exact ⟨ret_eq (by simp), rfl⟩
/-- How many pages a size has. -/
def pgs (n : Nat) : Nat := (n + 511) / 512
set_option maxRecDepth 100000 in
theorem pages_n (w : World) (n : Nat) (hn : n ≤ 70656) : Calls Tryz.prog 42 #[.int .i64 (n : Int)] w fun e w' => e = .returned (.int .i64 ((pgs n : Nat) : Int)) ∧ w' = w := by
  have n0 : (n : Int) ≤ 70656 := by omega
  go_enter Tryz.func42, Tryz.ntmps42
  go_wp2_with fail
  go_ret
  exact ⟨ret_eq (by simp [pgs]; omega), rfl⟩
def needs (n : Nat) : Nat := if 10 < pgs n then pgs n + 1 else pgs n
set_option maxRecDepth 100000 in
theorem need_any (w : World) (n : Nat) (hn : n ≤ 70656) : Calls Tryz.prog 13 #[.int .i64 (n : Int)] w fun e w' => e = .returned (.int .i64 ((needs n : Nat) : Int)) ∧ w' = w := by
  have HP := Lib.hid (pages_n w n hn)
  have n0 : (n : Int) ≤ 70656 := by omega
  have hp : pgs n ≤ 138 := by unfold pgs; omega
  obtain ⟨q, hq⟩ : ∃ q, q = pgs n := ⟨_, rfl⟩
  rw [← hq] at HP hp
  have q0 : (q : Int) ≤ 138 := by omega
  have hnd : needs n = if 10 < q then q + 1 else q := by unfold needs; rw [hq]
  rw [hnd]
  clear hnd hq
  go_enter Tryz.func13, Tryz.ntmps13
  go_wp2_with fail
  refine HP.out.mono ?_
  rintro e w1 ⟨rfl, rfl⟩
  by_cases h : 10 < q
  · have h' : (10 : Int) < (q : Int) := by omega
    go_wp2_with fail
    go_ret
    exact ⟨ret_eq (by simp), rfl⟩
  · have h' : ¬ (10 : Int) < (q : Int) := by omega
    go_wp2_with fail
    go_ret
    exact ⟨ret_eq (by simp), rfl⟩
end Go.Proofs.YtcblfkojkdaepaaGreat
/- From one world to another, boxes of the caller's own may turn beside the cache. -/
namespace Go.Proofs.YtcblfkojkdaepaaGreat
open Go.RowKit Go.ChangeMaps
/-- The same as Stp; the boxes Bx may have turned too. -/
def StpB (K : Kx) (A : List Nat) (N : Nat) (pg : Nat → List UInt8) (Bx S : List Nat) (w w' : World) (cur' : Nat → List UInt8) : Prop :=
  Fr (Bx ++ S) w w' ∧ ∃ S' dm, (∀ k ∈ S', k ∈ S ∨ w.heap.size ≤ k) ∧ CX K A w' N S' pg cur' dm
/-- A box that may turn beside a cache: of no kind that the cache reads. -/
def Bok (A : List Nat) (w : World) (b : Nat) : Prop := ∀ cs t fr, w.heap[b]? = some (.cells cs t fr) → (t = 46 → cs.size < 160) ∧ t ≠ 149 ∧ (t = 5 → b ∈ A ∨ cs.size < 512)
theorem Fr.close {a b c : World} {U S : List Nat} (h : Fr [] a b) (k : Fr U b c) (hU : ∀ x ∈ U, x ∈ S ∨ a.heap.size ≤ x) : Fr S a c := (h.mono (by simp) : Fr S a b).then k hU
section
variable {K : Kx} {A Bx S : List Nat} {w w1 wi : World} {N dm : Nat} {pg cur : Nat → List UInt8}
theorem StpB.refl (h : CX K A w N S pg cur dm) (Bx : List Nat) : StpB K A N pg Bx S w w cur := ⟨Fr.refl _ _, S, dm, fun _ hk => .inl hk, h⟩
theorem StpB.size {cur' : Nat → List UInt8} (h : StpB K A N pg Bx S w w1 cur') : w.heap.size ≤ w1.heap.size := h.1.size
/-- What a call needs, and what it gives. -/
theorem StpB.open (s : StpB K A N pg Bx S w1 wi cur) : ∃ Si dmi, CX K A wi N Si pg cur dmi ∧ (∀ b, b < w1.heap.size → b ∉ S → b ∉ Si) ∧ ∀ {A' : List Nat} {w' : World} {cur' : Nat → List UInt8}, Stp K A' N pg Si wi w' cur' → StpB K A' N pg Bx S w1 w' cur' := by
  obtain ⟨f, Si, dmi, hS, x⟩ := s
  refine ⟨Si, dmi, x, fun b hb hn hm => (hS b hm).elim hn (fun h => by omega), fun {A' w' cur'} t => ?_⟩
  obtain ⟨f2, S2, dm2, h2, x2⟩ := t
  refine ⟨f.then f2 (fun k hk => (hS k hk).imp (fun h => List.mem_append_right _ h) id), S2, dm2, fun k hk => ?_, x2⟩
  rcases h2 k hk with h | h
  · exact hS k h
  · exact .inr (Nat.le_trans f.size h)
theorem StpB.fr0 (s : StpB K A N pg Bx S w1 wi cur) {w' : World} (hf : Fr [] wi w') : StpB K A N pg Bx S w1 w' cur := by
  obtain ⟨f, Si, dmi, hS, x⟩ := s
  exact ⟨f.trans (hf.mono (by simp)), Si, dmi, hS, x.fr0 hf⟩
/-- A box is turned. -/
theorem StpB.turn (s : StpB K A N pg Bx S w1 wi cur) {b : Nat} (hb : b ∈ Bx) {w' : World} (hf : Fr [b] wi w') (h1 : b < w1.heap.size) (h2 : b ∉ S) (hp : b ≠ K.p) (ht : Bok A wi b) : StpB K A N pg Bx S w1 w' cur := by
  obtain ⟨f, Si, dmi, hS, x⟩ := s
  refine ⟨f.trans (hf.mono (by simp [hb])), Si, dmi, hS, x.fr hf (fun k hk => .inr ?_)⟩
  have hk' : k = b := by simpa using hk
  rw [hk']
  exact ⟨fun hm => (hS b hm).elim h2 (fun h => by omega), hp, ht⟩
/-- A new block (of bytes, in A) is turned. -/
theorem StpB.turnA (s : StpB K A N pg Bx S w1 wi cur) {b : Nat} (hb : w1.heap.size ≤ b) {w' : World} (hf : Fr [b] wi w') (hn : ∀ Si dmi, CX K A wi N Si pg cur dmi → b ∉ Si) (hp : b ≠ K.p) (ht : Bok A wi b) : StpB K A N pg Bx S w1 w' cur := by
  obtain ⟨f, Si, dmi, hS, x⟩ := s
  refine ⟨f.then hf (fun k hk => .inr (by simp at hk; omega)), Si, dmi, hS, x.fr hf (fun k hk => .inr ?_)⟩
  have hk' : k = b := by simpa using hk
  rw [hk']
  exact ⟨hn _ _ x, hp, ht⟩
/-- The boxes were new: they are nobody's. -/
theorem StpB.close (s : StpB K A N pg Bx S w1 wi cur) (h0 : Fr [] w w1) (hB : ∀ b ∈ Bx, w.heap.size ≤ b) : Stp K A N pg S w wi cur := by
  obtain ⟨f, Si, dmi, hS, x⟩ := s
  refine ⟨Fr.close h0 f (fun k hk => ?_), Si, dmi, fun k hk => (hS k hk).imp id (fun h => Nat.le_trans h0.size h), x⟩
  rcases List.mem_append.1 hk with hk | hk
  · exact .inr (hB k hk)
  · exact .inl hk
theorem StpB.anti {A' : List Nat} (s : StpB K A N pg Bx S w1 wi cur) (hA : ∀ k ∈ A', k ∈ A) : StpB K A' N pg Bx S w1 wi cur := by
  obtain ⟨f1, S1, dm1, h1, x1⟩ := s
  exact ⟨f1, S1, dm1, h1, x1.anti hA⟩
theorem Stp.toB (s : Stp K A N pg S w w1 cur) (Bx : List Nat) : StpB K A N pg Bx S w w1 cur := by
  obtain ⟨f1, S1, dm1, h1, x1⟩ := s
  exact ⟨f1.mono (fun k hk => .inl (List.mem_append_right _ hk)), S1, dm1, h1, x1⟩
end
theorem CX.plt {K : Kx} {A S : List Nat} {w : World} {N dm : Nat} {pg cur : Nat → List UInt8} (h : CX K A w N S pg cur dm) : K.p < w.heap.size := by
  obtain ⟨cm, rv, row, ops, df, cf, h, hN, rfl, hpd⟩ := h
  exact h.log.lt
theorem Bok.of {A : List Nat} {w : World} {b : Nat} {cs : Array Value} {t : TypeId} {fr : Nat × Nat} (h : w.heap[b]? = some (.cells cs t fr)) (h1 : t = 46 → cs.size < 160) (h2 : t ≠ 149) (h3 : t = 5 → b ∈ A ∨ cs.size < 512) : Bok A w b := fun cs' t' fr' e => by
  rw [h] at e
  simp only [Option.some.injEq, Obj.cells.injEq] at e
  obtain ⟨rfl, rfl, _⟩ := e
  exact ⟨h1, h2, h3⟩
/-- What a function reads of a row of bytes of its own. -/
theorem own_cell {w : World} {B q n cap : Nat} {l : List UInt8} (h : w.ownsRow B 5 1 (.slice (some ⟨q, 0, none⟩) n cap) n (l.map vB)) (i : Nat) (x : UInt8) (hi : l[i]? = some x) : w.cell? ⟨q, i, none⟩ = some (vB x) := by
  have hl := h.1
  have hil := (List.getElem?_eq_some_iff.1 hi).1
  rw [h.cellAt i (by rw [List.length_map] at hl; omega), List.getElem?_map, hi]; rfl
theorem own_kind {w : World} {B q n cap : Nat} {e : TypeId} {xs : List Value} (h : w.ownsRow B e 1 (.slice (some ⟨q, 0, none⟩) n cap) n xs) : ∃ cs, w.heap[q]? = some (.cells cs e (0, 0)) ∧ n ≤ cap ∧ B ≤ q := by
  rcases h.2 with ⟨h', _⟩ | ⟨g, cap', cur, h', hb, hg, hn, _⟩
  · simp at h'
  · simp only [Value.slice.injEq, Option.some.injEq, Addr.mk.injEq, and_true, true_and] at h'
    obtain ⟨rfl, rfl⟩ := h'
    exact ⟨_, hg, hn, hb⟩
end Go.Proofs.YtcblfkojkdaepaaGreat
