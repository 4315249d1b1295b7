/- Words for what a call turns: nothing but the blocks of a list (and new ones); slices that lie off them. No condition. -/
import Derived.Test.YtlkieepfjhiflaaBase
import Derived.WalkSpells
namespace Go.Proofs.Ytlkieepfjhiflaa
open Go.RowKit

/-- Nothing that was there has turned, but the blocks of S. -/
structure Fr (S : List Nat) (w w' : World) : Prop where
  os : w'.os = w.os
  tape : w'.tape = w.tape
  output : w'.output = w.output
  size : w.heap.size ≤ w'.heap.size
  block : ∀ k, k < w.heap.size → k ∉ S → w'.heap[k]? = w.heap[k]?
theorem Fr.refl (S : List Nat) (w : World) : Fr S w w := ⟨rfl, rfl, rfl, Nat.le_refl _, fun _ _ _ => rfl⟩
theorem Fr.trans {S : List Nat} {a b c : World} (h : Fr S a b) (k : Fr S b c) : Fr S a c :=
  ⟨k.os.trans h.os, k.tape.trans h.tape, k.output.trans h.output, Nat.le_trans h.size k.size, fun i hi hn => (k.block i (Nat.lt_of_lt_of_le hi h.size) hn).trans (h.block i hi hn)⟩
theorem Fr.then {S U : List Nat} {w a b : World} (h : Fr S w a) (k : Fr U a b) (hU : ∀ x ∈ U, x ∈ S ∨ w.heap.size ≤ x) : Fr S w b :=
  ⟨k.os.trans h.os, k.tape.trans h.tape, k.output.trans h.output, Nat.le_trans h.size k.size, fun i hi hn => (k.block i (Nat.lt_of_lt_of_le hi h.size) (fun hm => (hU i hm).elim hn (fun hle => by omega))).trans (h.block i hi hn)⟩
theorem Fr.mono {S S' : List Nat} {w w' : World} (h : Fr S w w') (hs : ∀ k ∈ S, k ∈ S' ∨ w.heap.size ≤ k) : Fr S' w w' :=
  ⟨h.os, h.tape, h.output, h.size, fun k hk hn => h.block k hk (fun hm => (hs k hm).elim hn (fun hle => by omega))⟩
theorem Fr.of_below {S : List Nat} {w w' : World} (h : Below w.heap.size w w') : Fr S w w' := ⟨h.os, h.tape, h.output, h.size, fun k hk _ => h.block k hk⟩
theorem Fr.drewN {S : List Nat} (w : World) (n : Nat) : Fr S w (w.drewN n) := ⟨rfl, rfl, rfl, Nat.le_refl _, fun _ _ _ => rfl⟩
theorem Fr.drew {S : List Nat} (w : World) : Fr S w w.drew := ⟨rfl, rfl, rfl, Nat.le_refl _, fun _ _ _ => rfl⟩
theorem Fr.alloc {S : List Nat} {a w : World} (h : Fr S a w) (o : Obj) : Fr S a (w.alloc o) :=
  h.trans (Fr.of_below ((Below.refl _ _).alloc (Nat.le_refl _) _))
theorem Fr.grown {S : List Nat} {a w w' : World} {row : Option Nat} (h : Fr S a w) (hg : w.grownBy w' row) (hr : ∀ k, row = some k → k ∈ S ∨ a.heap.size ≤ k) : Fr S a w' :=
  ⟨hg.os.trans h.os, hg.tape.trans h.tape, hg.output.trans h.output, Nat.le_trans h.size hg.size, fun k hk hn => (hg.block k (Nat.lt_of_lt_of_le hk h.size) (fun e => (hr k e.symm).elim hn (fun hle => by omega))).trans (h.block k hk hn)⟩
theorem Fr.setCell {S : List Nat} {a w : World} (h : Fr S a w) {p : Addr} (hp : p.block ∈ S ∨ a.heap.size ≤ p.block) (u : Value) : Fr S a (w.setCell p u) :=
  ⟨h.os, h.tape, h.output, by simpa [World.setCell] using h.size, fun k hk hn => (Below.heap_setCell _ _ _ _ (fun e => by subst e; exact hp.elim hn (fun hle => by omega))).trans (h.block k hk hn)⟩
theorem Fr.below {S : List Nat} {B : Nat} {w w' : World} (h : Fr S w w') (hB : B ≤ w.heap.size) (hS : ∀ k ∈ S, B ≤ k) : Below B w w' :=
  ⟨h.os, h.tape, h.output, h.size, fun k hk => h.block k (by omega) (fun hm => by have := hS k hm; omega)⟩
theorem Fr.cell {S : List Nat} {w w' : World} (h : Fr S w w') {p : Addr} {v : Value} (hp : p.block ∉ S) (hc : w.cell? p = some v) : w'.cell? p = some v :=
  (World.cell?_of_block (w := w) (h.block p.block (block_lt_of_cell hc) hp)).trans hc
theorem Fr.heap {S : List Nat} {w w' : World} (h : Fr S w w') {b : Nat} {o : Obj} (hp : b ∉ S) (hc : w.heap[b]? = some o) : w'.heap[b]? = some o :=
  (h.block b (Array.getElem?_eq_some_iff.1 hc).1 hp).trans hc

/-- A slice that reads as a list, and lies in no block of S, in a row of such elements. -/
def RdN (t : TypeId) (S : List Nat) (w : World) (v : Value) (xs : List Value) : Prop :=
  (v = .slice none 0 0 ∧ xs = []) ∨
  ∃ (b off cap : Nat), v = .slice (some ⟨b, off, none⟩) xs.length cap ∧ xs.length ≤ cap ∧ b ∉ S ∧ (∃ cs fr, w.heap[b]? = some (.cells cs t fr)) ∧ ∀ j u, xs[j]? = some u → w.cell? ⟨b, off + j, none⟩ = some u
theorem RdN.rd {t : TypeId} {S : List Nat} {w : World} {v : Value} {xs : List Value} (h : RdN t S w v xs) : RdV w v xs := by
  rcases h with h | ⟨b, off, cap, hv, hle, _, _, hc⟩
  · exact .inl h
  · exact .inr ⟨⟨b, off, none⟩, cap, hv, hle, fun j u hj => ⟨b, off, rfl, hc j u hj⟩⟩
theorem RdN.fr {t : TypeId} {S T : List Nat} {w w' : World} {v : Value} {xs : List Value} (h : RdN t S w v xs) (hf : Fr T w w') (hT : ∀ k ∈ T, k ∈ S ∨ w.heap.size ≤ k) : RdN t S w' v xs := by
  rcases h with h | ⟨b, off, cap, hv, hle, hb, ⟨cs, fr, hh⟩, hc⟩
  · exact .inl h
  · have hbT : b ∉ T := fun hm => (hT b hm).elim hb (fun hle => by have := (Array.getElem?_eq_some_iff.1 hh).1; omega)
    exact .inr ⟨b, off, cap, hv, hle, hb, ⟨cs, fr, hf.heap hbT hh⟩, fun j u hj => hf.cell (p := ⟨b, off + j, none⟩) hbT (hc j u hj)⟩
/-- A turn of a block of other elements is nothing to it. -/
theorem RdN.other {t : TypeId} {S T : List Nat} {w w' : World} {v : Value} {xs : List Value} (h : RdN t S w v xs) (hf : Fr T w w') (hT : ∀ k ∈ T, k ∈ S ∨ w.heap.size ≤ k ∨ ∃ cs t' fr, w.heap[k]? = some (.cells cs t' fr) ∧ t' ≠ t) : RdN t S w' v xs := by
  rcases h with h | ⟨b, off, cap, hv, hle, hb, ⟨cs, fr, hh⟩, hc⟩
  · exact .inl h
  · have hbT : b ∉ T := fun hm => by
      rcases hT b hm with h | h | ⟨cs', t', fr', h, hne⟩
      · exact hb h
      · have := (Array.getElem?_eq_some_iff.1 hh).1; omega
      · rw [hh] at h
        simp only [Option.some.injEq, Obj.cells.injEq] at h
        exact hne h.2.1.symm
    exact .inr ⟨b, off, cap, hv, hle, hb, ⟨cs, fr, hf.heap hbT hh⟩, fun j u hj => hf.cell (p := ⟨b, off + j, none⟩) hbT (hc j u hj)⟩
theorem RdN.to {t : TypeId} {S S' : List Nat} {w : World} {v : Value} {xs : List Value} (h : RdN t S w v xs) (hS : ∀ k ∈ S', k ∈ S ∨ w.heap.size ≤ k) : RdN t S' w v xs := by
  rcases h with h | ⟨b, off, cap, hv, hle, hb, ⟨cs, fr, hh⟩, hc⟩
  · exact .inl h
  · exact .inr ⟨b, off, cap, hv, hle, fun hm => (hS b hm).elim hb (fun hle => by have := (Array.getElem?_eq_some_iff.1 hh).1; omega), ⟨cs, fr, hh⟩, hc⟩
theorem RdN.open {t : TypeId} {S : List Nat} {w : World} {v : Value} {xs : List Value} (h : RdN t S w v xs) : ∃ a cap, v = .slice a xs.length cap ∧ xs.length ≤ cap ∧ ∀ j u, xs[j]? = some u → ∃ b off, a = some ⟨b, off, none⟩ ∧ b ∉ S ∧ w.cell? ⟨b, off + j, none⟩ = some u := by
  rcases h with ⟨rfl, rfl⟩ | ⟨b, off, cap, hv, hle, hb, hlt, hc⟩
  · exact ⟨none, 0, rfl, by simp, fun j u hj => by simp at hj⟩
  · exact ⟨some ⟨b, off, none⟩, cap, hv, hle, fun j u hj => ⟨b, off, rfl, hb, hc j u hj⟩⟩
/-- What a row of the call's own holds, read so. -/
theorem RdN_of_owns {S : List Nat} {w : World} {base : Nat} {e : TypeId} {v : Value} {n : Nat} {xs : List Value} (h : w.ownsRow base e 1 v n xs) (hS : ∀ k ∈ S, k < base) : RdN e S w v xs := by
  obtain ⟨hl, h⟩ := h
  rcases h with ⟨rfl, rfl⟩ | ⟨g, cap, cur, rfl, hb, hg, hn, hm, hs, htake⟩
  · exact .inl ⟨rfl, by simpa using hl⟩
  · refine .inr ⟨g, 0, cap, by simp [hl], by simp [hl]; omega, fun hm => by have := hS g hm; omega, ⟨cur, _, hg⟩, fun j u hj => ?_⟩
    rw [cell_of_row w g _ cur e (0, 0) hg]
    rw [← htake, List.getElem?_take] at hj
    split at hj
    · simpa using hj
    · cases hj
end Go.Proofs.Ytlkieepfjhiflaa
