/- The contract of a hasher's Write: at whatever bytes taken before, and whatever bytes. -/
import Derived.Test.YtlkieepfjhiflaaObj
import Derived.Test.YtlkieepfjhiflaaMixWalk
import Derived.Deep.MidRow
namespace Go.Proofs.Ytlkieepfjhiflaa
open Go.RowKit

/-! ### Plain -/
theorem byteAt_append (l m : List UInt8) (i : Nat) (h : i < l.length) : byteAt (l ++ m) i = byteAt l i := by
  simp [byteAt, List.getElem?_append_left h]
theorem wordAt_append (l m : List UInt8) (i : Nat) (h : 4 * i + 4 ≤ l.length) : wordAt (l ++ m) i = wordAt l i := by
  simp only [wordAt]
  rw [byteAt_append _ _ _ (by omega), byteAt_append _ _ _ (by omega), byteAt_append _ _ _ (by omega), byteAt_append _ _ _ (by omega)]
theorem wsl_append (l m : List UInt8) (h : 64 ≤ l.length) (n : Nat) : wsl (l ++ m) n = wsl l n := by
  induction n with
  | zero => rfl
  | succ n ih =>
    simp only [wsl, ih]
    by_cases hn : n < 16
    · simp only [if_pos hn]; rw [wordAt_append l m n (by omega)]
    · simp only [if_neg hn]
theorem rounds_append (s : St) (l m : List UInt8) (h : 64 ≤ l.length) (n : Nat) : rounds s (l ++ m) n = rounds s l n := by
  induction n with
  | zero => rfl
  | succ n ih => simp only [rounds, ih, wOf, wsl_append l m h]
theorem mixOf_append (s : St) (l m : List UInt8) (h : 64 ≤ l.length) : mixOf s (l ++ m) = mixOf s l := by
  simp only [mixOf, rounds_append s l m h]

/-- n blocks taken. -/
def absorb (s : St) (l : List UInt8) : Nat → St
  | 0 => s
  | n + 1 => absorb (mixOf s l) (l.drop 64) n
theorem absorb_add (s : St) (l : List UInt8) (a b : Nat) : absorb s l (a + b) = absorb (absorb s l a) (l.drop (64 * a)) b := by
  induction a generalizing s l with
  | zero => simp [absorb]
  | succ a ih =>
    rw [show a + 1 + b = (a + b) + 1 by omega]
    simp only [absorb]
    rw [ih, List.drop_drop, show 64 + 64 * a = 64 * (a + 1) by omega]
theorem absorb_one (s : St) (l : List UInt8) (a : Nat) : absorb s l (a + 1) = mixOf (absorb s l a) (l.drop (64 * a)) := by
  rw [absorb_add]; rfl
theorem absorb_append (s : St) (l m : List UInt8) (a : Nat) (h : 64 * a ≤ l.length) : absorb s (l ++ m) a = absorb s l a := by
  induction a generalizing s l with
  | zero => rfl
  | succ a ih =>
    simp only [absorb]
    rw [mixOf_append s l m (by omega), List.drop_append_of_le_length (by omega), ih _ _ (by simp; omega)]

/-- What a hasher is when it has taken these bytes. -/
def stOf (all : List UInt8) : St := absorb s0 all (all.length / 64)
def restOf (all : List UInt8) : List UInt8 := all.drop (64 * (all.length / 64))
theorem restOf_len (all : List UInt8) : (restOf all).length = all.length % 64 := by simp [restOf]; omega
theorem write_st (all more : List UInt8) (j : Nat) (hj : j = (restOf all ++ more).length / 64) : absorb (stOf all) (restOf all ++ more) j = stOf (all ++ more) := by
  have hl := restOf_len all
  have h1 : (all ++ more).length / 64 = all.length / 64 + j := by
    simp only [List.length_append] at hj ⊢
    omega
  have e : absorb s0 (all ++ more) (all.length / 64) = stOf all := absorb_append _ _ _ _ (by omega)
  have d : (all ++ more).drop (64 * (all.length / 64)) = restOf all ++ more := List.drop_append_of_le_length (by omega)
  show _ = absorb s0 (all ++ more) ((all ++ more).length / 64)
  rw [h1, absorb_add, e, d]
theorem write_rest (all more : List UInt8) (j : Nat) (hj : j = (restOf all ++ more).length / 64) : (restOf all ++ more).drop (64 * j) = restOf (all ++ more) := by
  have hl := restOf_len all
  have h1 : (all ++ more).length / 64 = all.length / 64 + j := by
    simp only [List.length_append] at hj ⊢
    omega
  have d : (all ++ more).drop (64 * (all.length / 64)) = restOf all ++ more := List.drop_append_of_le_length (by omega)
  show _ = (all ++ more).drop (64 * ((all ++ more).length / 64))
  rw [h1, Nat.mul_add, ← List.drop_drop, d]

/-! ### In memory -/
def IsH (w : World) (b : Nat) (all : List UInt8) : Prop :=
  ∃ rest, w.heap[b]? = some (.cells (hCells (stOf all) rest all.length) 86 (0, 0)) ∧ RdB w rest (restOf all)

def putList (cur : Array Value) (o : Nat) : List Value → Array Value
  | [] => cur
  | v :: r => putList (cur.setIfInBounds o v) (o + 1) r
theorem heap_setCells_same (g : Nat) (t : TypeId) (vs : List Value) : ∀ (o : Nat) (w : World) (cur : Array Value), w.heap[g]? = some (.cells cur t (0, 0)) → (w.setCells g o vs).heap[g]? = some (.cells (putList cur o vs) t (0, 0)) := by
  induction vs with
  | nil => intro o w cur h; exact h
  | cons v r ih => intro o w cur h; exact ih (o + 1) _ _ (heap_setCell_same w g o cur t v h)
theorem heap_setCells_other (g k : Nat) (hk : k ≠ g) (vs : List Value) : ∀ (o : Nat) (w : World), (w.setCells g o vs).heap[k]? = w.heap[k]? := by
  induction vs with
  | nil => intro o w; rfl
  | cons v r ih => intro o w; exact (ih (o + 1) _).trans (heap_setCell_other w ⟨g, o, none⟩ k v hk)
theorem grownBy_setCells (g : Nat) (vs : List Value) : ∀ (o : Nat) (w : World), w.grownBy (w.setCells g o vs) (some g) := by
  induction vs with
  | nil => intro o w; exact ⟨rfl, rfl, rfl, Nat.le_refl _, fun _ _ _ => rfl⟩
  | cons v r ih =>
    intro o w
    have h := ih (o + 1) (w.setCell ⟨g, o, none⟩ v)
    exact ⟨h.os, h.tape, h.output, by have := h.size; simpa [World.setCell, World.setCells] using this, fun k hk hne => heap_setCells_other g k (fun e => hne (by rw [e])) _ _ _⟩
theorem grownBy_trans {a b c : World} {row : Option Nat} (h : a.grownBy b row) (k : b.grownBy c row) : a.grownBy c row :=
  ⟨k.os.trans h.os, k.tape.trans h.tape, k.output.trans h.output, Nat.le_trans h.size k.size, fun i hi hne => (k.block i (Nat.lt_of_lt_of_le hi h.size) hne).trans (h.block i hi hne)⟩
theorem grownBy_setCell (w : World) (g o : Nat) (v : Value) : w.grownBy (w.setCell ⟨g, o, none⟩ v) (some g) :=
  ⟨rfl, rfl, rfl, by simp [World.setCell], fun k _ hne => heap_setCell_other w ⟨g, o, none⟩ k v (fun e => hne (by rw [e]))⟩
theorem grownBy_refl (w : World) (row : Option Nat) : w.grownBy w row := ⟨rfl, rfl, rfl, Nat.le_refl _, fun _ _ _ => rfl⟩
/-- A slice of bytes in other blocks reads as it did while block g is written. -/
theorem RdV.apart {w w' : World} {v : Value} {xs : List Value} {g : Nat} (h : RdV w v xs) (hg : w.grownBy w' (some g)) (hne : ∀ ad n c, v = .slice (some ad) n c → ad.block ≠ g) : RdV w' v xs := by
  rcases h with h | ⟨ad, cap, rfl, hle, hc⟩
  · exact .inl h
  · refine .inr ⟨ad, cap, rfl, hle, fun j u hj => ?_⟩
    obtain ⟨b, off, rfl, hcell⟩ := hc j u hj
    exact ⟨b, off, rfl, hg.cell hcell (fun e => hne _ _ _ rfl (Option.some.inj e))⟩

end Go.Proofs.Ytlkieepfjhiflaa
