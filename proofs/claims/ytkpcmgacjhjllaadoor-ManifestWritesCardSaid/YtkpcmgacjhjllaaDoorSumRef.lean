/- The contract of the reference's Sum. -/
import Derived.Test.YtkpcmgacjhjllaaDoorConst
namespace Go.Proofs.YtkpcmgacjhjllaaDoor
open Go.RowKit

/-- The result's box, the hash's words, the constants. -/
structure RfW (w wr : World) (f : Nat → UInt32) : Prop where
  res : wr.heap[w.heap.size]? = some (.cells (rowG (fun _ => 0) 32) 33 (0, 0))
  hrow : wr.heap[w.heap.size + 1]? = some (.cells (rowF f 8) 56 (0, 0))
  krow : wr.heap[w.heap.size + 2]? = some (.cells (rowF kOf 64) 56 (0, 0))
  below : Below w.heap.size w wr
section
variable {w wr w' : World} {f : Nat → UInt32}
theorem RfW.lt (M : RfW w wr f) : w.heap.size + 2 < wr.heap.size := (Array.getElem?_eq_some_iff.1 M.krow).1
theorem RfW.keep (M : RfW w wr f) (hb : Below (w.heap.size + 3) wr w') : RfW w w' f :=
  ⟨(hb.block _ (by omega)).trans M.res, (hb.block _ (by omega)).trans M.hrow, (hb.block _ (by omega)).trans M.krow, M.below.trans (hb.mono (by omega))⟩
theorem RfW.drew (M : RfW w wr f) (n : Nat) : RfW w (wr.drewN n) f := ⟨M.res, M.hrow, M.krow, ⟨M.below.os, M.below.tape, M.below.output, M.below.size, M.below.block⟩⟩
theorem RfW.stepH (M : RfW w wr f) {k : Nat} (hk : k < 8) (g : Nat → UInt32) (hg : ∀ j, j ≠ k → g j = f j) : RfW w (wr.setCell ⟨w.heap.size + 1, k, none⟩ (.int .u32 (n32 (g k)))) g := by
  refine ⟨?_, ?_, ?_, M.below.setCell (by show w.heap.size ≤ w.heap.size + 1; omega) _⟩
  · rw [heap_setCell_other _ _ _ _ (by show w.heap.size ≠ w.heap.size + 1; omega)]; exact M.res
  · rw [heap_setCell_same _ _ _ _ _ _ M.hrow, rowF_set f g 8 k hk hg]
  · rw [heap_setCell_other _ _ _ _ (by show w.heap.size + 2 ≠ w.heap.size + 1; omega)]; exact M.krow
end
theorem rf_start (w : World) (cs : Array Value) (h : cs = rowF s0.fn 8) : RfW w (((w.alloc (.cells (rowG (fun _ => 0) 32) 33)).alloc (.cells cs 56)).alloc (.cells (rowF kOf 64) 56)) s0.fn := by
  subst h
  have h3 := heap_alloc_new ((w.alloc (.cells (rowG (fun _ => 0) 32) 33)).alloc (.cells (rowF s0.fn 8) 56)) (.cells (rowF kOf 64) 56)
  have e3 : ((w.alloc (.cells (rowG (fun _ => 0) 32) 33)).alloc (.cells (rowF s0.fn 8) 56)).heap.size = w.heap.size + 2 := by simp
  rw [e3] at h3
  refine ⟨?_, ?_, h3, ?_⟩
  · rw [heap_alloc_old _ _ (by rw [e3]; omega)]; exact heap_alloc2_old _ _ _
  · rw [heap_alloc_old _ _ (by rw [e3]; omega)]; exact heap_alloc2_new _ _ _
  · exact (((Below.refl _ _).alloc (Nat.le_refl _) _).alloc (by simp) _).alloc (by simp; omega) _
theorem owns_open' {w : World} {B : Nat} {r : Value} {n : Nat} {xs : List Value} (h : w.ownsRow B 5 1 r n xs) :
    ∃ qa qc, r = .slice qa n qc ∧ True := by
  obtain ⟨_, h⟩ := h
  rcases h with ⟨rfl, rfl⟩ | ⟨g, cap, cur, rfl, _⟩
  · exact ⟨none, 0, rfl, trivial⟩
  · exact ⟨_, cap, rfl, trivial⟩
/-- The padding's loop. -/
def RfP (w : World) (l : List UInt8) (v : Value) (wr : World) : Prop :=
  ∃ j : Nat, j ≤ padN l.length ∧ RfW w wr s0.fn ∧ wr.ownsRow (w.heap.size + 3) 5 1 v (l.length + 1 + j) ((l ++ [128] ++ List.replicate j 0).map vB)
/-- The length's loop. -/
def RfL (w : World) (l base : List UInt8) (i v : Value) (wr : World) : Prop :=
  ∃ k : Nat, k ≤ 8 ∧ i = .int .i64 k ∧ RfW w wr s0.fn ∧ wr.ownsRow (w.heap.size + 3) 5 1 v (base ++ lenBytes l.length k).length ((base ++ lenBytes l.length k).map vB)

theorem owns_open2 {w : World} {B : Nat} {qa : Option Addr} {qc : Nat} {P : List UInt8} (h : w.ownsRow B 5 1 (.slice qa P.length qc) P.length (P.map vB)) :
    (P.length ≠ 0 → ∃ g, qa = some ⟨g, 0, none⟩) ∧ ∀ g, qa = some ⟨g, 0, none⟩ → ∀ k i, k + i < P.length → w.cell? ⟨g, k + i, none⟩ = some (.int .u8 (n8 (byteAt (P.drop k) i))) := by
  constructor
  · intro hne
    obtain ⟨_, h⟩ := h
    rcases h with ⟨_, h0⟩ | ⟨g, cap, cur, h, _⟩
    · exact absurd h0 hne
    · cases h; exact ⟨g, rfl⟩
  · intro g hg k i hi
    obtain ⟨a, cap, e, hc⟩ := RdB.open (RdV_of_owns h)
    cases e
    obtain ⟨b, off, e2, hcell⟩ := hc (k + i) hi
    rw [hg] at e2
    cases e2
    rw [Nat.zero_add] at hcell
    rw [hcell]
    simp [byteAt, hi]
/-- At a block's head: the hash so far, the message. -/
structure RfB (w : World) (P : List UInt8) (pv : Value) (f : Nat → UInt32) (wr : World) : Prop where
  rf : RfW w wr f
  own : wr.ownsRow (w.heap.size + 3) 5 1 pv P.length (P.map vB)
theorem owns_kept {w w' : World} {B : Nat} {v : Value} {n : Nat} {xs : List Value} (h : w.ownsRow B 5 1 v n xs) (hb : Below w.heap.size w w') : w'.ownsRow B 5 1 v n xs :=
  World.ownsRow.kept (row := none) h (grownBy_below hb none) (by cases h : v.ownBlock with | none => exact .inl rfl | some g => exact .inr (by simp))
theorem owns_kept' {w : World} {B : Nat} {v : Value} {n : Nat} {xs : List Value} (h : w.ownsRow B 5 1 v n xs) (m : Nat) : (w.drewN m).ownsRow B 5 1 v n xs :=
  owns_kept h ⟨(Below.refl w.heap.size w).os, (Below.refl w.heap.size w).tape, (Below.refl w.heap.size w).output, (Below.refl w.heap.size w).size, (Below.refl w.heap.size w).block⟩
theorem RfB.keep {w wr w' : World} {P : List UInt8} {pv : Value} {f : Nat → UInt32} (M : RfB w P pv f wr) (hb : Below wr.heap.size wr w') : RfB w P pv f w' :=
  ⟨M.rf.keep (hb.mono M.rf.lt), owns_kept M.own hb⟩
theorem RfB.stepH {w wr : World} {P : List UInt8} {pv : Value} {f : Nat → UInt32} (M : RfB w P pv f wr) {k : Nat} (hk : k < 8) (g : Nat → UInt32) (hg : ∀ j, j ≠ k → g j = f j) : RfB w P pv g (wr.setCell ⟨w.heap.size + 1, k, none⟩ (.int .u32 (n32 (g k)))) := by
  refine ⟨M.rf.stepH hk g hg, World.ownsRow.kept M.own (grownBy_setCell _ _ _ _) (.inr (fun e => ?_))⟩
  have := (World.ownsRow.lt M.own _ e).1
  omega
/-- The schedule of a block: a row of words behind what was there at the block's head. -/
structure RfS (w0 wr : World) (g : Nat → UInt32) : Prop where
  row : wr.heap[w0.heap.size]? = some (.cells (rowF g 64) 56 (0, 0))
  below : Below w0.heap.size w0 wr
theorem RfS.cell {w0 wr : World} {g : Nat → UInt32} (M : RfS w0 wr g) {k : Nat} (hk : k < 64) : wr.cell? ⟨w0.heap.size, k, none⟩ = some (.int .u32 (n32 (g k))) := rowF_cell M.row hk
theorem RfS.free {w0 wr : World} {g : Nat → UInt32} (M : RfS w0 wr g) (k : Nat) : wr.frozen? ⟨w0.heap.size, k, none⟩ = false := frozen_of_row wr _ _ _ _ M.row
theorem RfS.drew {w0 wr : World} {g : Nat → UInt32} (M : RfS w0 wr g) (n : Nat) : RfS w0 (wr.drewN n) g := ⟨M.row, ⟨M.below.os, M.below.tape, M.below.output, M.below.size, M.below.block⟩⟩
theorem RfS.step {w0 wr : World} {f : Nat → UInt32} (M : RfS w0 wr f) {k : Nat} (hk : k < 64) (g : Nat → UInt32) (hg : ∀ j, j ≠ k → g j = f j) : RfS w0 (wr.setCell ⟨w0.heap.size, k, none⟩ (.int .u32 (n32 (g k)))) g :=
  ⟨by rw [heap_setCell_same _ _ _ _ _ _ M.row, rowF_set f g 64 k hk hg], M.below.setCell (Nat.le_refl _) _⟩
/-- The first k words told; of the next one, j bytes. -/
def wTo (Y : List UInt8) (k : Nat) (x : Nat) : UInt32 := if x < k then wOf Y x else 0
def wPart (Y : List UInt8) (k j : Nat) (x : Nat) : UInt32 := if x < k then wOf Y x else if x = k then partWord Y k j else 0
theorem wPart_zero (Y : List UInt8) (k : Nat) : wPart Y k 0 = wTo Y k := by
  funext x; unfold wPart wTo; by_cases h : x < k
  · rw [if_pos h, if_pos h]
  · rw [if_neg h, if_neg h]; split <;> rfl
theorem wPart_four (Y : List UInt8) (k : Nat) (hk : k < 16) : wPart Y k 4 = wTo Y (k + 1) := by
  funext x; unfold wPart wTo; by_cases h : x < k
  · rw [if_pos h, if_pos (by omega)]
  · rw [if_neg h]; by_cases e : x = k
    · subst e; rw [if_pos rfl, if_pos (by omega), partWord_four, wOf_lo Y x hk]
    · rw [if_neg e, if_neg (by omega)]
def RfI (w0 : World) (Y : List UInt8) (i : Value) (wr : World) : Prop := ∃ k : Nat, k ≤ 16 ∧ i = .int .i64 k ∧ RfS w0 wr (wTo Y k)
def RfJ (w0 : World) (Y : List UInt8) (k : Nat) (i : Value) (wr : World) : Prop := ∃ j : Nat, j ≤ 4 ∧ i = .int .i64 j ∧ RfS w0 wr (wPart Y k j)
def RfN (w0 : World) (Y : List UInt8) (i : Value) (wr : World) : Prop := ∃ k : Nat, 16 ≤ k ∧ k ≤ 64 ∧ i = .int .i64 k ∧ RfS w0 wr (wTo Y k)
def RfO (w : World) (P : List UInt8) (pv : Value) (i : Value) (wr : World) : Prop := ∃ j : Nat, 64 * j ≤ P.length ∧ i = .int .i64 (64 * j : Nat) ∧ RfB w P pv (absorb s0 P j).fn wr

theorem wPart_self (Y : List UInt8) (k j : Nat) : wPart Y k j k = partWord Y k j := by simp [wPart]
theorem wPart_other (Y : List UInt8) (k j x : Nat) (h : x ≠ k) : wPart Y k (j + 1) x = wPart Y k j x := by simp [wPart, h]
theorem wTo_other (Y : List UInt8) (k x : Nat) (h : x ≠ k) : wTo Y (k + 1) x = wTo Y k x := by
  unfold wTo
  by_cases h1 : x < k
  · rw [if_pos h1, if_pos (by omega)]
  · rw [if_neg h1, if_neg (by omega)]
theorem turn_quiet (x : UInt32) (n m : Nat) (h0 : 0 < n) (h1 : 0 < m) (hm : n + m = 32) (i : Int) (hi : i = n) (w : World) (q : Nat) :
    Calls Tryd.prog 30 #[.int .u32 (n32 x), .int .i64 i] (w.drewN q) fun e w'' => e = .returned (.int .u32 (n32 (rotr x n))) ∧ ∃ r, w'' = w.drewN r := by
  subst hi
  exact Calls.quiet_of (turn_go x n m h0 h1 hm (w.drewN q))
def words8 (s : St) : List Value := s.cells.toList
theorem words8_one (s : St) : ∀ u ∈ words8 s, u.oneCell' = true := by
  intro u hu
  simp only [words8, St.cells, List.mem_cons, List.not_mem_nil, or_false] at hu
  rcases hu with rfl | rfl | rfl | rfl | rfl | rfl | rfl | rfl <;> rfl
theorem RdV_row8 {w : World} {b : Nat} {s : St} (h : w.heap[b]? = some (.cells (rowF s.fn 8) 56 (0, 0))) : RdV w (.slice (some ⟨b, 0, none⟩) 8 8) (words8 s) := by
  refine .inr ⟨⟨b, 0, none⟩, 8, by simp [words8, St.cells], by simp [words8, St.cells], fun j u hj => ⟨b, 0, rfl, ?_⟩⟩
  rw [St.row] at h
  rw [cell_of_row w b (0 + j) _ _ _ h, Nat.zero_add]
  simpa [words8] using hj
theorem info_u32 : (Tryd.prog.info? 56).map (fun i => (i.zero, i.size, i.bytes)) = some (some (.int .u32 0), 1, 4) := by kernel_rfl
/-- The rounds: the running hash in a slice of its own. -/
def RfV (w0 : World) (s : St) (Y : List UInt8) (i v : Value) (wr : World) : Prop :=
  ∃ k : Nat, k ≤ 64 ∧ i = .int .i64 k ∧ Below w0.heap.size w0 wr ∧ ∃ vb vc, v = .slice (some ⟨vb, 0, none⟩) 8 vc ∧ 8 ≤ vc ∧ w0.heap.size ≤ vb ∧ ∀ q, q < 8 → wr.cell? ⟨vb, q, none⟩ = some (.int .u32 (n32 ((rounds s Y k).fn q)))
theorem rfv_start {w w' : World} {B : Nat} {v : Value} {s : St} {Y : List UInt8} (h : w'.ownsRow B 56 1 v 8 (words8 s)) (hB : w.heap.size ≤ B) (hb : Below w.heap.size w w') : RfV w s Y (.int .i64 0) v w' := by
  have hr := RdV_of_owns h
  have h8 : (words8 s).length = 8 := by simp [words8, St.cells]
  obtain ⟨_, h2⟩ := h
  rcases h2 with ⟨_, h0⟩ | ⟨g, cap, cur, rfl, hg, hrest⟩
  · cases h0
  · rcases hr with ⟨_, h0⟩ | ⟨ad, cap', hv, hle, hc⟩
    · rw [h0] at h8; cases h8
    · rw [h8] at hv hle
      cases hv
      refine ⟨0, by omega, rfl, hb, g, cap, rfl, by omega, by omega, fun q hq => ?_⟩
      obtain ⟨b, o, e, hcell⟩ := hc q (.int .u32 (n32 (s.fn q))) (by
        match q, hq with
        | 0, _ | 1, _ | 2, _ | 3, _ | 4, _ | 5, _ | 6, _ | 7, _ => simp [words8, St.cells, St.fn])
      cases e
      rw [Nat.zero_add] at hcell
      exact hcell
theorem rfv_next {w0 wr : World} {s t : St} {Y : List UInt8} {k : Nat} (hk : k < 64) (hb : Below w0.heap.size w0 wr) (h : rounds s Y (k + 1) = t) : RfV w0 s Y (.int .i64 ((k : Int) + 1)) (.slice (some ⟨wr.heap.size, 0, none⟩) 8 8) (wr.alloc (.cells t.cells 56)) := by
  refine ⟨k + 1, by omega, rfl, hb.alloc hb.size _, _, 8, rfl, Nat.le_refl _, hb.size, fun q hq => ?_⟩
  rw [h]
  exact rowF_cell (f := t.fn) (by rw [heap_alloc_new, St.row]) hq
theorem wpList_words8 {ops : Array Oper} {rest : List Oper} {o : Oper} {a : Act} {w : World} {Q : Exit → Act → World → Prop} (hg : o.guard = none) (o0 o1 o2 o3 o4 o5 o6 o7 : Operand)
    (ho : o.op = .buildSlice 57 8 #[(0, o0), (1, o1), (2, o2), (3, o3), (4, o4), (5, o5), (6, o6), (7, o7)])
    (z0 z1 z2 z3 z4 z5 z6 z7 : Int) (h0 : a.eval o0 = .int .u32 z0) (h1 : a.eval o1 = .int .u32 z1) (h2 : a.eval o2 = .int .u32 z2) (h3 : a.eval o3 = .int .u32 z3) (h4 : a.eval o4 = .int .u32 z4) (h5 : a.eval o5 = .int .u32 z5) (h6 : a.eval o6 = .int .u32 z6) (h7 : a.eval o7 = .int .u32 z7)
    (h : wpList Tryd.prog ops Q rest (a.put o.dst (.slice (some ⟨w.heap.size, 0, none⟩) 8 8)) (w.alloc (.cells #[.int .u32 z0, .int .u32 z1, .int .u32 z2, .int .u32 z3, .int .u32 z4, .int .u32 z5, .int .u32 z6, .int .u32 z7] 56))) : wpList Tryd.prog ops Q (o :: rest) a w := by
  have hi32 : ∃ i, Tryd.prog.info? 56 = some i ∧ i.zero = some (.int .u32 0) ∧ i.size = 1 := by
    have h : (Tryd.prog.info? 56).map (fun i => (i.zero, i.size)) = some (some (.int .u32 0), 1) := by kernel_rfl
    obtain ⟨i, h1, h2⟩ := Option.map_eq_some_iff.1 h
    simp only [Prod.mk.injEq] at h2
    exact ⟨i, h1, h2.1, h2.2⟩
  obtain ⟨i0, hi, hz, hs⟩ := hi32
  refine wpList_buildSlice hg 57 56 8 _ ho _ i0 (.int .u32 0) Tryd.underlying57 hi hz (by rw [hs]; decide) (by rw [hs]; decide) ?hf h
  simp only [hs, List.map_toArray, List.map_cons, List.map_nil, h0, h1, h2, h3, h4, h5, h6, h7]
  kernel_rfl
theorem rfv_round {w0 wr : World} {s t : St} {Y : List UInt8} {k : Nat} {kk ww s1 ss0 mj : UInt32} (hk : k < 64) (hb : Below w0.heap.size w0 wr) (h : rounds s Y (k + 1) = t.round kk ww)
    (h1 : rotr t.e 6 ^^^ rotr t.e 11 ^^^ rotr t.e 25 = s1) (h4 : rotr t.a 2 ^^^ rotr t.a 13 ^^^ rotr t.a 22 = ss0) (h5 : t.a &&& t.b ^^^ t.a &&& t.c ^^^ t.b &&& t.c = mj) :
    RfV w0 s Y (.int .i64 ((k : Int) + 1)) (.slice (some ⟨wr.heap.size, 0, none⟩) 8 8) (wr.alloc (.cells #[.int .u32 (n32 (t.h + s1 + (t.e &&& t.f ^^^ ~~~t.e &&& t.g) + kk + ww + ss0 + mj)), .int .u32 (n32 t.a), .int .u32 (n32 t.b), .int .u32 (n32 t.c), .int .u32 (n32 (t.d + (t.h + s1 + (t.e &&& t.f ^^^ ~~~t.e &&& t.g) + kk + ww))), .int .u32 (n32 t.e), .int .u32 (n32 t.f), .int .u32 (n32 t.g)] 56)) := by
  subst h1; subst h4; subst h5
  rw [← round_ref] at h
  have h2 := rfv_next hk hb h
  simp only [St.cells, t1Of, majOf, bs0, bs1] at h2
  exact h2
theorem St.plus_fn (s t : St) (q : Nat) (hq : q < 8) : (s.plus t).fn q = s.fn q + t.fn q := by
  match q, hq with
  | 0, _ | 1, _ | 2, _ | 3, _ | 4, _ | 5, _ | 6, _ | 7, _ => rfl
/-- A hash under way: the first q words are sums. -/
def addTo (s t : St) (q : Nat) (x : Nat) : UInt32 := if x < q then s.fn x + t.fn x else s.fn x
theorem rowF_congr {f g : Nat → UInt32} {n : Nat} (h : ∀ x, x < n → f x = g x) : rowF f n = rowF g n :=
  congrArg List.toArray (List.map_congr_left fun i hi => by rw [h i (List.mem_range.1 hi)])
/-- The loop that adds. -/
structure RfH (w w0 : World) (P : List UInt8) (pv : Value) (s t : St) (vb q : Nat) (wr : World) : Prop where
  rf : RfB w P pv (addTo s t q) wr
  cells : ∀ x, x < 8 → wr.cell? ⟨vb, x, none⟩ = some (.int .u32 (n32 (t.fn x)))
theorem RfH.drew {w w0 wr : World} {P : List UInt8} {pv : Value} {s t : St} {vb q : Nat} (M : RfH w w0 P pv s t vb q wr) (n : Nat) : RfH w w0 P pv s t vb q (wr.drewN n) :=
  ⟨⟨M.rf.rf.drew n, owns_kept' M.rf.own n⟩, M.cells⟩
theorem RfH.step {w w0 wr : World} {P : List UInt8} {pv : Value} {s t : St} {vb q : Nat} (M : RfH w w0 P pv s t vb q wr) (hq : q < 8) (hv : w.heap.size + 1 < vb) :
    RfH w w0 P pv s t vb (q + 1) (wr.setCell ⟨w.heap.size + 1, q, none⟩ (.int .u32 (n32 (s.fn q + t.fn q)))) := by
  have h := M.rf.stepH hq (addTo s t (q + 1)) (fun j hj => by
    unfold addTo
    by_cases h1 : j < q
    · rw [if_pos h1, if_pos (by omega)]
    · rw [if_neg h1, if_neg (by omega)])
  rw [show addTo s t (q + 1) q = s.fn q + t.fn q by simp [addTo]] at h
  refine ⟨h, fun x hx => ?_⟩
  rw [World.cell?_setCell_other _ _ _ _ (by intro e; simp only [Addr.mk.injEq] at e; omega)]
  exact M.cells x hx
theorem RfH.ends {w w0 wr : World} {P : List UInt8} {pv : Value} {s t : St} {vb : Nat} (M : RfH w w0 P pv s t vb 8 wr) : RfB w P pv (s.plus t).fn wr := by
  exact ⟨⟨M.rf.rf.res, M.rf.rf.hrow.trans (congrArg (fun c => some (Obj.cells c 56 (0, 0))) (rowF_congr fun x hx => (if_pos hx).trans (St.plus_fn s t x hx).symm)), M.rf.rf.krow, M.rf.rf.below⟩, M.rf.own⟩
theorem n8_shr (x : UInt32) (n : Nat) (h : n < 32) : n32 x / 2 ^ n % 256 = n8 (x >>> UInt32.ofNat n).toUInt8 := by
  have h1 : (x >>> UInt32.ofNat n).toNat = x.toNat / 2 ^ n := by
    rw [UInt32.toNat_shiftRight, UInt32.toNat_ofNat', Nat.mod_eq_of_lt (show n < 2 ^ 32 by omega), Nat.mod_eq_of_lt h, Nat.shiftRight_eq_div_pow]
  unfold n8 n32
  rw [UInt32.toNat_toUInt8, h1, Int.natCast_emod, Int.natCast_ediv, Int.natCast_pow]
  rfl
/-- The result's box, filled. -/
structure RfU (w wb : World) (s : St) (k : Nat) (wr : World) : Prop where
  rf : RfW w wr s.fn
  out : wr.heap[wb.heap.size]? = some (.cells (rowG (fun i => if i < k then byteAt (digest s) i else 0) 32) 33 (0, 0))
theorem RfU.start {w wb : World} {s : St} (h : RfW w wb s.fn) : RfU w wb s 0 (wb.alloc (.cells (rowG (fun _ => 0) 32) 33)) :=
  ⟨h.keep ((Below.refl _ _).alloc h.lt _), heap_alloc_new _ _⟩
theorem RfU.drew {w wb wr : World} {s : St} {k : Nat} (M : RfU w wb s k wr) (n : Nat) : RfU w wb s k (wr.drewN n) := ⟨M.rf.drew n, M.out⟩
theorem RfU.step {w wb wr : World} {s : St} {k : Nat} (M : RfU w wb s k wr) (hk : k < 32) (hw : w.heap.size + 3 ≤ wb.heap.size) :
    RfU w wb s (k + 1) (wr.setCell ⟨wb.heap.size, k, none⟩ (.int .u8 (n8 (byteAt (digest s) k)))) := by
  have hlt := (Array.getElem?_eq_some_iff.1 M.out).1
  refine ⟨M.rf.keep ((Below.refl _ _).setCell hw _), ?_⟩
  have e := rowG_set (fun i => if i < k then byteAt (digest s) i else 0) (fun i => if i < k + 1 then byteAt (digest s) i else 0) 32 k hk (fun j hj => by
    show (if j < k + 1 then _ else _) = if j < k then _ else _
    by_cases h1 : j < k
    · rw [if_pos h1, if_pos (by omega)]
    · rw [if_neg h1, if_neg (by omega)])
  rw [show (if k < k + 1 then byteAt (digest s) k else 0) = byteAt (digest s) k from if_pos (by omega)] at e
  rw [heap_setCell_same _ _ _ _ _ _ M.out, e]
theorem RfU.ends {w wb wr : World} {s : St} (M : RfU w wb s 32 wr) : wr.heap[wb.heap.size]? = some (.cells (aB (digest s)) 33 (0, 0)) := by
  rw [M.out, ← rowG_list (digest s) 32 (digest_len s)]
  exact congrArg (fun c => some (Obj.cells c 33 (0, 0))) (congrArg List.toArray (List.map_congr_left fun i hi => congrArg (fun x => Value.int .u8 (n8 x)) (if_pos (List.mem_range.1 hi))))
/-- A round's cells. -/
structure RfQ (wz : World) (vb kb wb k : Nat) (t : St) (kk ww : UInt32) (wx : World) : Prop where
  below : Below wz.heap.size wz wx
  c0 : wx.cell? ⟨vb, 0, none⟩ = some (.int .u32 (n32 t.a))
  c1 : wx.cell? ⟨vb, 1, none⟩ = some (.int .u32 (n32 t.b))
  c2 : wx.cell? ⟨vb, 2, none⟩ = some (.int .u32 (n32 t.c))
  c3 : wx.cell? ⟨vb, 3, none⟩ = some (.int .u32 (n32 t.d))
  c4 : wx.cell? ⟨vb, 4, none⟩ = some (.int .u32 (n32 t.e))
  c5 : wx.cell? ⟨vb, 5, none⟩ = some (.int .u32 (n32 t.f))
  c6 : wx.cell? ⟨vb, 6, none⟩ = some (.int .u32 (n32 t.g))
  c7 : wx.cell? ⟨vb, 7, none⟩ = some (.int .u32 (n32 t.h))
  ck : wx.cell? ⟨kb, k, none⟩ = some (.int .u32 (n32 kk))
  cw : wx.cell? ⟨wb, k, none⟩ = some (.int .u32 (n32 ww))
theorem RfQ.drew {wz wx : World} {vb kb wb k : Nat} {t : St} {kk ww : UInt32} (M : RfQ wz vb kb wb k t kk ww wx) (n : Nat) : RfQ wz vb kb wb k t kk ww (wx.drewN n) :=
  ⟨⟨M.below.os, M.below.tape, M.below.output, M.below.size, M.below.block⟩, M.c0, M.c1, M.c2, M.c3, M.c4, M.c5, M.c6, M.c7, M.ck, M.cw⟩
theorem make64 (u : World) : (Instr.makeSlice 57 (.int .i64 64) (.int .i64 64)).run Tryd.prog u = .ok (.slice (some ⟨u.heap.size, 0, none⟩) 64 64) (u.alloc (.cells (rowF (fun _ => 0) 64) 56)) := by
  have h : (Tryd.prog.info? 56).map (fun i => (i.zero, i.size, i.bytes)) = some (some (.int .u32 0), 1, 4) := by kernel_rfl
  obtain ⟨i0, hi, hz0, hz1, hz2⟩ := info_parts h
  have h := run_make (P := Tryd.prog) u 57 56 i0 (.int .u32 0) Tryd.underlying57 hi hz0 .i64 .i64 64 64 (by omega) (Int.le_refl _) (by rw [hz2]; omega) (by omega)
  have e : madeCells (Value.int .u32 0).cells ((64 : Int).toNat * i0.size) = rowF (fun _ => 0) 64 := by rw [hz1]; kernel_rfl
  rw [h, e]
  rfl
theorem absorb_next (P : List UInt8) (j : Nat) : absorb s0 P (j + 1) = mixOf (absorb s0 P j) (P.drop (64 * j)) := absorb_one _ _ _

set_option maxRecDepth 100000 in
set_option maxHeartbeats 40000000 in
theorem sumref_any (w : World) (v : Value) (l : List UInt8) (hv : RdB w v l) (hl : l.length ≤ 140737488355200) :
    Calls Tryd.prog 19 #[v] w fun e w' => e = .returned (.agg (aB (sha l))) ∧ Below w.heap.size w w' := by
  obtain ⟨va, vc, rfl, _⟩ := hv.open
  obtain ⟨i0, hi, hz0, hz1, hz2⟩ := info_parts info_u8
  obtain ⟨i32, hi32, hy0, hy1, hy2⟩ := info_parts info_u32
  have HV := Lib.hid hv
  clear hv
  go_enter Tryd.func19, Tryd.ntmps19
  go_wp2_with fail
  rw [litB32]
  have F := fun cs h => rf_start w cs h
  have FF := Lib.hid F
  clear F
  refine (const_any _).mono ?_
  rintro e w1 ⟨rfl, rfl⟩
  have M0 := Lib.hid (FF.out _ (show (#[.int .u32 1779033703, .int .u32 3144134277, .int .u32 1013904242, .int .u32 2773480762, .int .u32 1359893119, .int .u32 2600822924, .int .u32 528734635, .int .u32 1541459225] : Array Value) = _ by kernel_rfl))
  clear FF
  rw [show ((w.alloc (.cells (rowG (fun _ => 0) 32) 33)).alloc (.cells #[.int .u32 1779033703, .int .u32 3144134277, .int .u32 1013904242, .int .u32 2773480762, .int .u32 1359893119, .int .u32 2600822924, .int .u32 528734635, .int .u32 1541459225] 56)).heap.size = w.heap.size + 2 by simp]
  revert M0
  generalize (((w.alloc (.cells (rowG (fun _ => 0) 32) 33)).alloc (.cells _ 56)).alloc (.cells (rowF kOf 64) 56)) = w1
  intro M0
  have hlz : (l.length : Int) ≤ 140737488355200 := by omega
  have hn3 : w.heap.size + 3 ≤ w1.heap.size := M0.out.lt
  have HV1 := Lib.hid (RdV.below HV.out M0.out.below)
  go_wp2_with (refine wpList_app rfl _ _ 25 rfl (w.heap.size + 3) 5 i0 (.int .u8 0) 1 Tryd.underlying25 hi hz0 hz1 hz2 rfl (.slice none 0 0) 0 [] rfl (World.ownsRow_nil _ _ _ _) _ (l.map vB) rfl HV1.out ?c1 ?c2 (by omega) hn3 ?_)
  case c1 => exact vB_one l
  case c2 => simp; omega
  try simp only [List.length_map, Nat.zero_add, List.nil_append]
  intro v2 w2 hown hgr
  have M2 := Lib.hid (M0.out.keep (below_grown hgr hn3 (fun k hk => by cases hk)))
  have O2 := Lib.hid hown
  clear hown hgr HV1 M0 hn3
  have O := Lib.hid (O2.out.alloc (.cells #[.int .u8 128] 5))
  have M3 := Lib.hid (M2.out.keep ((Below.refl _ _).alloc M2.out.lt (.cells #[.int .u8 128] 5)))
  clear O2 M2
  go_wp2_with (refine wpList_app rfl _ _ 25 rfl (w.heap.size + 3) 5 i0 (.int .u8 0) 1 Tryd.underlying25 hi hz0 hz1 hz2 rfl v2 _ _ rfl O.out _ [.int .u8 128] rfl (RdV_one _ _ _) ?c3 ?c4 (by omega) ?c5 ?_)
  case c3 => intro u hu; rw [List.mem_singleton.1 hu]; rfl
  case c4 => simp; omega
  case c5 => exact M3.out.lt
  intro v3 w3 hown hgr
  have hob := World.ownsRow.lt O.out
  have M4 := Lib.hid (M3.out.keep (below_grown hgr M3.out.lt (fun k hk => (hob k hk).1)))
  have e1 : l.map vB ++ [Value.int .u8 128] = (l ++ [128] ++ List.replicate 0 0).map vB := by simp [vB]; rfl
  rw [e1] at hown
  have P0 : Hid (RfP w l v3 w3) := ⟨0, Nat.zero_le _, M4.out, hown⟩
  clear hown hgr hob O M3 M4 e1
  go_wp2
  go_loopw [5] (fun v wr => RfP w l v wr) (fun v _ => l.length + 1 + padN l.length - sliceLen v)
  case atStart => exact P0.out
  case round =>
    obtain ⟨j, hj, M, O⟩ := hrel
    obtain ⟨qa, qc, rfl, _⟩ : ∃ qa qc, u5 = .slice qa (l.length + 1 + j) qc ∧ True := by
      obtain ⟨a, n, c, h⟩ := RdV.slice (RdV_of_owns O)
      subst h
      have := (RdV.le (RdV_of_owns O)).1
      simp at this
      exact ⟨a, c, by rw [this]; congr 1; omega, trivial⟩
    have HM := Lib.hid M; have HO := Lib.hid O
    clear M O
    have hstop := padN_stop l.length j hj
    have hpl : padN l.length < 64 := Nat.mod_lt _ (by omega)
    have hnx : (l ++ [128] ++ List.replicate j (0 : UInt8)) ++ [0] = l ++ [128] ++ List.replicate (j + 1) 0 := by rw [List.replicate_succ', List.append_assoc]
    obtain ⟨N, hN⟩ : ∃ N, N = l.length + 1 + j := ⟨_, rfl⟩
    rw [← hN] at HO hstop ⊢
    have hNz : (N : Int) ≤ 140737488355300 := by omega
    have HN := Lib.hid hN
    have HNX := Lib.hid hnx
    clear hnx
    by_cases hjp : j = padN l.length
    · have hcond : ((N : Int) % 64 != 56) = false := by have := hstop.2 hjp; simp; omega
      subst hjp
      have HO' : Hid (wr.ownsRow (w.heap.size + 3) 5 1 (.slice qa N qc) (l ++ [128] ++ List.replicate (padN l.length) (0 : UInt8)).length ((l ++ [128] ++ List.replicate (padN l.length) (0 : UInt8)).map vB)) := by
        have e : (l ++ [128] ++ List.replicate (padN l.length) (0 : UInt8)).length = N := by rw [hN]; simp; omega
        rw [e]; exact HO.out
      have hpa : padAll l = (l ++ [128] ++ List.replicate (padN l.length) (0 : UInt8)) ++ lenBytes l.length 8 := rfl
      have HPA := Lib.hid hpa
      have hbl : (l ++ [128] ++ List.replicate (padN l.length) (0 : UInt8)).length ≤ l.length + 65 := by simp; omega
      obtain ⟨base, hbase⟩ : ∃ base, base = l ++ [128] ++ List.replicate (padN l.length) (0 : UInt8) := ⟨_, rfl⟩
      rw [← hbase] at HO' HPA hbl
      clear hstop hN hj HO HNX hbase hpa
      go_wp2
      clear hcond
      go_loopw [7, 5] (fun i v wr => RfL w l base i v wr) (fun i _ _ => 8 - (intOf i).toNat)
      case atStart => exact ⟨0, by omega, rfl, HM.out, by simpa [lenBytes] using HO'.out⟩
      case round =>
        obtain ⟨k, hk, rfl, M, O⟩ := hrel
        have HM := Lib.hid M; have HO := Lib.hid O
        clear M O
        by_cases hlt : k < 8
        · have e8 : (l.length : Int) * 8 = ((l.length * 8 : Nat) : Int) := by omega
          have hb : n8 (lenByte l.length k) = (l.length : Int) * 8 / 2 ^ (56 - 8 * k) % 256 := by
            rw [lenByte_is]; simp
          have HE := Lib.hid hb
          clear hb e8
          obtain ⟨X, hX⟩ : ∃ X, X = base ++ lenBytes l.length k := ⟨_, rfl⟩
          have hXn : base ++ lenBytes l.length (k + 1) = X ++ [lenByte l.length k] := by rw [lenBytes_succ, hX, List.append_assoc]
          have hXl : X.length ≤ 140737488355290 := by rw [hX]; simp [lenBytes]; omega
          rw [← hX] at HO
          have O := Lib.hid (HO.out.alloc (.cells #[.int .u8 ((l.length : Int) * 8 / 2 ^ (56 - 8 * k) % 256)] 5))
          have M2 := Lib.hid (HM.out.keep ((Below.refl _ _).alloc HM.out.lt (.cells #[.int .u8 ((l.length : Int) * 8 / 2 ^ (56 - 8 * k) % 256)] 5)))
          have HXN := Lib.hid hXn
          clear hXn hX HO HM
          go_wp2_with (refine wpList_app rfl _ _ 25 rfl (w.heap.size + 3) 5 i0 (.int .u8 0) 1 Tryd.underlying25 hi hz0 hz1 hz2 rfl u5 _ _ rfl O.out _ [.int .u8 ((l.length : Int) * 8 / 2 ^ (56 - 8 * k) % 256)] rfl (RdV_one _ _ _) ?c9 ?c10 (by omega) ?c11 ?_)
          case c9 => intro u hu; rw [List.mem_singleton.1 hu]; rfl
          case c10 => simp; omega
          case c11 => exact M2.out.lt
          intro v5 w5 hown hgr
          have hob := World.ownsRow.lt O.out
          have M5 := Lib.hid (M2.out.keep (below_grown hgr M2.out.lt (fun k hk => (hob k hk).1)))
          have e1 : X.map vB ++ [Value.int .u8 ((l.length : Int) * 8 / 2 ^ (56 - 8 * k) % 256)] = (X ++ [lenByte l.length k]).map vB := by rw [← HE.out]; simp [vB]
          rw [e1, ← HXN.out] at hown
          have e2 : X.length + 1 = (base ++ lenBytes l.length (k + 1)).length := by rw [HXN.out]; simp
          rw [e2] at hown
          have O5 := Lib.hid hown
          clear hown hgr hob O M2 e1 e2 HE
          go_wp2
          go_roundw
          case rel => first | exact ⟨k + 1, by omega, by go_num, M5.out, O5.out⟩ | ((repeat apply Exists.intro); exact ⟨⟨k + 1, by omega, by go_num, M5.out, O5.out⟩, rfl⟩)
          case measure => simp [intOf]; omega
        · obtain rfl : k = 8 := by omega
          rw [show ((8 : Nat) : Int) = (8 : Int) from rfl]
          rw [← HPA.out] at HO
          have hsf := sha_full l
          have HSF := Lib.hid hsf
          have hm64 := padAll_len l
          have hple := padAll_le l
          generalize padAll l = P at *
          obtain ⟨pa, pc, rfl, _⟩ := owns_open' HO.out
          have B0 : Hid (RfB w P (.slice pa P.length pc) (absorb s0 P 0).fn wr) := ⟨HM.out, HO.out⟩
          clear HPA hbl HO HO' P0 hk hlt hsf HM
          have hplz : (P.length : Int) ≤ 140737488355272 := by omega
          go_wp2
          go_loopw [8, 9, 10, 11, 12, 13, 14, 15, 16, 17, 18, 19, 20, 21, 22] (fun i _ _ _ _ _ _ _ _ _ _ _ _ _ _ wr => RfO w P (.slice pa P.length pc) i wr) (fun i _ _ _ _ _ _ _ _ _ _ _ _ _ _ _ => P.length - (intOf i).toNat)
          case atStart => exact ⟨0, by omega, rfl, B0.out⟩
          case round =>
            obtain ⟨j, hj, rfl, M⟩ := hrel
            have HM := Lib.hid M
            clear M B0
            by_cases hlt : 64 * j < P.length
            · have hltz : ((64 * j : Nat) : Int) < P.length := by omega
              obtain ⟨pb, hpb⟩ : ∃ pb, pa = some ⟨pb, 0, none⟩ := (owns_open2 HM.out.own).1 (by omega)
              subst hpb
              have hdat : ∀ i, i < 64 → wr.cell? ⟨pb, 64 * j + i, none⟩ = some (.int .u8 (n8 (byteAt (P.drop (64 * j)) i))) := fun i hi => (owns_open2 HM.out.own).2 pb rfl (64 * j) i (by omega)
              have hpbl : pb < wr.heap.size := block_lt_of_cell (hdat 0 (by omega))
              have hnx := absorb_next P j
              have h64 : 64 * j + 64 ≤ P.length := by omega
              have hj2 : 64 * (j + 1) = 64 * j + 64 := by omega
              have hjn : 64 * (j + 1) ≤ P.length := by omega
              have HD := Lib.hid hdat; have HNX := Lib.hid hnx
              clear hdat hnx
              generalize hat : 64 * j = at0 at *
              generalize P.drop at0 = Y at *
              have S0 : Hid (RfS wr (wr.alloc (.cells (rowF (fun _ => 0) 64) 56)) (wTo Y 0)) := by
                refine ⟨?_, (Below.refl _ _).alloc (Nat.le_refl _) _⟩
                rw [heap_alloc_new]
                have : wTo Y 0 = fun _ => 0 := by funext x; simp [wTo]
                rw [this]
              have hmk := make64
              go_wp2
              revert S0
              generalize wr.alloc (.cells (rowF (fun _ => 0) 64) 56) = ws
              intro S0
              have hatz : (at0 : Int) + 64 ≤ P.length := by omega
              clear hmk
              generalize wr = wb at *
              have s8 : ∀ x : UInt32, Op.shift .shl .u32 (n32 x) .u64 8 = pure (.int .u32 (n32 (x <<< 8))) := fun x => shl_u32 x 8 (by omega) _ _ rfl
              go_loopw [10, 11] (fun i _ wv => RfI wb Y i wv) (fun i _ _ => 16 - (intOf i).toNat)
              case atStart => exact ⟨0, by omega, rfl, S0.out⟩
              case round =>
                obtain ⟨k, hk, rfl, S⟩ := hrel
                have HS := Lib.hid S
                clear S S0
                by_cases hlk : k < 16
                · have hlkz : (k : Int) < 16 := by omega
                  go_wp2
                  go_loopw [11] (fun i wv => RfJ wb Y k i wv) (fun i _ => 4 - (intOf i).toNat)
                  case atStart => exact ⟨0, by omega, rfl, by rw [wPart_zero]; exact HS.out⟩
                  case round =>
                    obtain ⟨m, hm, rfl, S⟩ := hrel
                    have HT := Lib.hid S
                    clear S HS
                    by_cases hlm : m < 4
                    · have hc := HD.out (4 * k + m) (by omega)
                      have hcell := (HT.out.below.cell (p := ⟨pb, at0 + (4 * k + m), none⟩) hpbl).trans hc
                      have hwc := HT.out.cell (k := k) (by omega)
                      rw [wPart_self] at hwc
                      have hst : partWord Y k (m + 1) = partWord Y k m <<< 8 ||| (byteAt Y (4 * k + m)).toUInt32 := rfl
                      have HST := Lib.hid hst
                      clear hc hst
                      generalize byteAt Y (4 * k + m) = x at *
                      generalize hpw : partWord Y k m = pw at *
                      have w1 : IntKind.i64.wrap (4 * (k : Int)) = 4 * k := IntWalk.i64_in _ (by omega)
                      have w2 : IntKind.i64.wrap ((at0 : Int) + 4 * k) = at0 + 4 * k := IntWalk.i64_in _ (by omega)
                      have w3 : IntKind.i64.wrap ((at0 : Int) + 4 * k + m) = at0 + 4 * k + m := IntWalk.i64_in _ (by omega)
                      have t3 : ((at0 : Int) + 4 * k + m).toNat = at0 + (4 * k + m) := by omega
                      have p3 : 0 ≤ (at0 : Int) + 4 * k + m := by omega
                      have q3 : (at0 : Int) + 4 * k + m < P.length := by omega
                      have hkz : (k : Int) < 64 := by omega
                      go_wp2
                      refine wp_region_qtail_lit 19 (by kernel_rfl) (by kernel_rfl) ?_
                      simp only [List.take_succ_cons, List.take_zero, List.drop_succ_cons, List.drop_zero]
                      repeat (quiet_step (fail))
                      refine wpQuiet_nil ?_
                      intro w' hw'
                      obtain ⟨nq, rfl⟩ := hw'
                      have hx := (HT.out.drew nq).step (k := k) (by omega) (wPart Y k (m + 1)) (fun x' h => wPart_other Y k m x' h)
                      rw [wPart_self, HST.out] at hx
                      have HX := Lib.hid hx
                      have fr : (wr.drewN nq).frozen? ⟨wb.heap.size, k, none⟩ = false := HT.out.free k
                      clear hx HT hcell w1 w2 w3 t3 p3 q3 s8 HD
                      as_aux_lemma =>
                        go_wp2
                        go_roundw
                        case rel => first | exact ⟨m + 1, by omega, by go_num, HX.out⟩ | ((repeat apply Exists.intro); exact ⟨⟨m + 1, by omega, by go_num, HX.out⟩, rfl⟩)
                        case measure => simp [intOf]; omega
                    · obtain rfl : m = 4 := by omega
                      rw [show ((4 : Nat) : Int) = (4 : Int) from rfl]
                      have HT2 : Hid (RfS wb wr (wTo Y (k + 1))) := by rw [← wPart_four Y k hlk]; exact HT.out
                      clear HT HD s8
                      as_aux_lemma =>
                        go_wp2
                        go_roundw
                        case rel => first | exact ⟨k + 1, by omega, by go_num, HT2.out⟩ | ((repeat apply Exists.intro); exact ⟨⟨k + 1, by omega, by go_num, HT2.out⟩, rfl⟩)
                        case measure => simp [intOf]; omega
                · obtain rfl : k = 16 := by omega
                  rw [show ((16 : Nat) : Int) = (16 : Int) from rfl]
                  clear HD s8 hk hlk
                  as_aux_lemma =>
                    go_wp2
                    go_loopw [12, 13, 14] (fun i _ _ wv => RfN wb Y i wv) (fun i _ _ _ => 64 - (intOf i).toNat)
                    case atStart => exact ⟨16, by omega, by omega, rfl, HS.out⟩
                    case round =>
                      obtain ⟨k, hk16, hk, rfl, S⟩ := hrel
                      have HT := Lib.hid S
                      clear S HS
                      by_cases hlk : k < 64
                      · have hlkz : (k : Int) < 64 := by omega
                        have c2 := HT.out.cell (k := k - 2) (by omega)
                        have c7 := HT.out.cell (k := k - 7) (by omega)
                        have c15 := HT.out.cell (k := k - 15) (by omega)
                        have c16 := HT.out.cell (k := k - 16) (by omega)
                        rw [show wTo Y k (k - 2) = wOf Y (k - 2) by simp [wTo]; omega] at c2
                        rw [show wTo Y k (k - 7) = wOf Y (k - 7) by simp [wTo]; omega] at c7
                        rw [show wTo Y k (k - 15) = wOf Y (k - 15) by simp [wTo]; omega] at c15
                        rw [show wTo Y k (k - 16) = wOf Y (k - 16) by simp [wTo]; omega] at c16
                        have hnw := wOf_hi Y k hk16
                        have HNW := Lib.hid hnw
                        clear hnw
                        generalize wOf Y (k - 2) = y at *
                        generalize wOf Y (k - 7) = b7 at *
                        generalize wOf Y (k - 15) = x at *
                        generalize wOf Y (k - 16) = b16 at *
                        have w2 : IntKind.i64.wrap ((k : Int) - 2) = k - 2 := IntWalk.i64_in _ (by omega)
                        have w7 : IntKind.i64.wrap ((k : Int) - 7) = k - 7 := IntWalk.i64_in _ (by omega)
                        have w15 : IntKind.i64.wrap ((k : Int) - 15) = k - 15 := IntWalk.i64_in _ (by omega)
                        have w16 : IntKind.i64.wrap ((k : Int) - 16) = k - 16 := IntWalk.i64_in _ (by omega)
                        have t2 : ((k : Int) - 2).toNat = k - 2 := by omega
                        have t7 : ((k : Int) - 7).toNat = k - 7 := by omega
                        have t15 : ((k : Int) - 15).toNat = k - 15 := by omega
                        have t16 : ((k : Int) - 16).toNat = k - 16 := by omega
                        have p2 : 0 ≤ (k : Int) - 2 := by omega
                        have p7 : 0 ≤ (k : Int) - 7 := by omega
                        have p15 : 0 ≤ (k : Int) - 15 := by omega
                        have p16 : 0 ≤ (k : Int) - 16 := by omega
                        have g2 : (2 : Int) ≤ k := by omega
                        have g7 : (7 : Int) ≤ k := by omega
                        have g15 : (15 : Int) ≤ k := by omega
                        have g16 : (16 : Int) ≤ k := by omega
                        have q2 : (k : Int) - 2 < 64 := by omega
                        have q7 : (k : Int) - 7 < 64 := by omega
                        have q15 : (k : Int) - 15 < 64 := by omega
                        have q16 : (k : Int) - 16 < 64 := by omega
                        have s3 : ∀ x : UInt32, Op.shift .shr .u32 (n32 x) .u64 3 = pure (.int .u32 (n32 (x >>> 3))) := fun x => shr_u32 x 3 (by omega) _ _ rfl
                        have s10 : ∀ x : UInt32, Op.shift .shr .u32 (n32 x) .u64 10 = pure (.int .u32 (n32 (x >>> 10))) := fun x => shr_u32 x 10 (by omega) _ _ rfl
                        have T1 : Hid (∀ w n, _) := turn_quiet x 7 25 (by decide) (by decide) (by decide) 7 rfl
                        have T2 : Hid (∀ w n, _) := turn_quiet x 18 14 (by decide) (by decide) (by decide) 18 rfl
                        have T3 : Hid (∀ w n, _) := turn_quiet y 17 15 (by decide) (by decide) (by decide) 17 rfl
                        have T4 : Hid (∀ w n, _) := turn_quiet y 19 13 (by decide) (by decide) (by decide) 19 rfl
                        go_wp2
                        go_quiet (fail)
                        have c7' : (wr.drewN nq).cell? ⟨wb.heap.size, k - 7, none⟩ = some (.int .u32 (n32 b7)) := c7
                        have c16' : (wr.drewN nq).cell? ⟨wb.heap.size, k - 16, none⟩ = some (.int .u32 (n32 b16)) := c16
                        have HT2 := Lib.hid (HT.out.drew nq)
                        clear c2 c7 c15 c16 HT
                        revert HT2 c7' c16'
                        generalize wr.drewN nq = wq
                        intro c7' c16' HT2
                        go_wp2
                        refine wp_region_qtail_lit 32 (by kernel_rfl) (by kernel_rfl) ?_
                        simp only [List.take_succ_cons, List.take_zero, List.drop_succ_cons, List.drop_zero]
                        iterate 8 quiet_step (fail)
                        quiet_step (exact T1.out _ _)
                        quiet_step (fail)
                        quiet_step (exact T2.out _ _)
                        iterate 12 quiet_step (fail)
                        quiet_step (exact T3.out _ _)
                        quiet_step (fail)
                        quiet_step (exact T4.out _ _)
                        repeat (quiet_step (fail))
                        refine wpQuiet_nil ?_
                        intro w' hw'
                        obtain ⟨nq2, rfl⟩ := hw'
                        have hx := (HT2.out.drew nq2).step (k := k) (by omega) (wTo Y (k + 1)) (fun x' h => wTo_other Y k x' h)
                        rw [show wTo Y (k + 1) k = wOf Y k by simp [wTo], HNW.out] at hx
                        have HX := Lib.hid hx
                        have fr : (wq.drewN nq2).frozen? ⟨wb.heap.size, k, none⟩ = false := HT2.out.free k
                        have ce := (HT2.out.drew nq2).cell (k := k) (by omega)
                        clear hx HT2 c7' c16' w2 w7 w15 w16 t2 t7 t15 t16 p2 p7 p15 p16 q2 q7 q15 q16 g2 g7 g15 g16 T1 T2 T3 T4 s3 s10
                        as_aux_lemma =>
                          go_wp2
                          go_roundw
                          case rel => first | exact ⟨k + 1, by omega, by omega, by go_num, HX.out⟩ | ((repeat apply Exists.intro); exact ⟨⟨k + 1, by omega, by omega, by go_num, HX.out⟩, rfl⟩)
                          case measure => simp [intOf]; omega
                      · obtain rfl : k = 64 := by omega
                        rw [show ((64 : Nat) : Int) = (64 : Int) from rfl]
                        have M1 := Lib.hid (HM.out.keep HT.out.below)
                        have ROW := Lib.hid HT.out.row
                        have BB := Lib.hid HT.out.below
                        clear HT HM hk16 hk hlk
                        have H8 := Lib.hid (RdV_row8 M1.out.rf.hrow)
                        have hws : wb.heap.size < wr.heap.size := (Array.getElem?_eq_some_iff.1 ROW.out).1
                        go_wp2_with (refine wpList_app rfl _ _ 57 rfl wr.heap.size 56 i32 (.int .u32 0) 4 Tryd.underlying57 hi32 hy0 hy1 hy2 rfl (.slice none 0 0) 0 [] rfl (World.ownsRow_nil _ _ _ _) _ (words8 (absorb s0 P j)) rfl H8.out ?c12 ?c13 (by omega) (Nat.le_refl _) ?_)
                        case c12 => exact words8_one _
                        case c13 => simp [words8, St.cells]
                        intro v7 w7 hown hgr
                        have hb7 : Below wr.heap.size wr w7 := below_grown hgr (Nat.le_refl _) (fun k hk => by cases hk)
                        have V0 : Hid (RfV wr (absorb s0 P j) Y (.int .i64 0) v7 w7) := rfv_start (by simpa [words8, St.cells] using hown) (Nat.le_refl _) hb7
                        clear hown hgr hb7 H8
                        generalize wr = wz at *
                        go_wp2
                        go_loopw [16, 15, 17, 18, 19, 20, 21] (fun i v _ _ _ _ _ wv => RfV wz (absorb s0 P j) Y i v wv) (fun i _ _ _ _ _ _ _ => 64 - (intOf i).toNat)
                        case atStart => exact V0.out
                        case round =>
                          obtain ⟨k, hk, rfl, hb, vb, vc, rfl, hvc, hvz, hcs⟩ := hrel
                          have HB := Lib.hid hb
                          clear hb V0
                          by_cases hlk : k < 64
                          · have hrkz : (k : Int) < 64 := by omega
                            have ck : wr.cell? ⟨w.heap.size + 2, k, none⟩ = some (.int .u32 (n32 (kOf k))) := (HB.out.cell (p := ⟨w.heap.size + 2, k, none⟩) M1.out.rf.lt).trans (rowF_cell M1.out.rf.krow hlk)
                            have cw : wr.cell? ⟨wb.heap.size, k, none⟩ = some (.int .u32 (n32 (wOf Y k))) := by
                              have h1 := (HB.out.cell (p := ⟨wb.heap.size, k, none⟩) hws).trans (rowF_cell ROW.out hlk)
                              rwa [show wTo Y 64 k = wOf Y k by simp [wTo, hlk]] at h1
                            have hrn : rounds (absorb s0 P j) Y (k + 1) = (rounds (absorb s0 P j) Y k).round (kOf k) (wOf Y k) := rfl
                            have HRN := Lib.hid hrn
                            clear hrn
                            generalize rounds (absorb s0 P j) Y k = t at *
                            generalize kOf k = kk at *
                            generalize wOf Y k = ww at *
                            have HQ : Hid (RfQ wz vb (w.heap.size + 2) wb.heap.size k t kk ww wr) := ⟨HB.out, hcs 0 (by omega), hcs 1 (by omega), hcs 2 (by omega), hcs 3 (by omega), hcs 4 (by omega), hcs 5 (by omega), hcs 6 (by omega), hcs 7 (by omega), ck, cw⟩
                            have T6 : Hid (∀ w n, _) := turn_quiet t.e 6 26 (by decide) (by decide) (by decide) 6 rfl
                            have T11 : Hid (∀ w n, _) := turn_quiet t.e 11 21 (by decide) (by decide) (by decide) 11 rfl
                            have T25 : Hid (∀ w n, _) := turn_quiet t.e 25 7 (by decide) (by decide) (by decide) 25 rfl
                            have T2 : Hid (∀ w n, _) := turn_quiet t.a 2 30 (by decide) (by decide) (by decide) 2 rfl
                            have T13 : Hid (∀ w n, _) := turn_quiet t.a 13 19 (by decide) (by decide) (by decide) 13 rfl
                            have T22 : Hid (∀ w n, _) := turn_quiet t.a 22 10 (by decide) (by decide) (by decide) 22 rfl
                            clear hcs ck cw HB
                            have c4 := HQ.out.c4
                            go_wp2
                            refine wp_region_quiet_lit (by kernel_rfl) (by kernel_rfl) ?_
                            iterate 3 go_big_quiet_step (fail)
                            go_big_quiet_step (exact T6.out _ _)
                            iterate 3 go_big_quiet_step (fail)
                            go_big_quiet_step (exact T11.out _ _)
                            iterate 4 go_big_quiet_step (fail)
                            go_big_quiet_step (exact T25.out _ _)
                            repeat (go_big_quiet_step (fail))
                            refine wpQuiet_nil ?_
                            intro w' hw'
                            obtain ⟨nq, rfl⟩ := hw'
                            have HQ2 := Lib.hid (HQ.out.drew nq)
                            clear HQ c4
                            revert HQ2
                            generalize wr.drewN nq = wr
                            intro HQ
                            generalize hs1 : rotr t.e 6 ^^^ rotr t.e 11 ^^^ rotr t.e 25 = s1
                            have Hs1 := Lib.hid hs1
                            clear hs1
                            have c4 := HQ.out.c4
                            have c5 := HQ.out.c5
                            have c6 := HQ.out.c6
                            go_wp2
                            refine wp_region_quiet_lit (by kernel_rfl) (by kernel_rfl) ?_
                            repeat (go_big_quiet_step (fail))
                            refine wpQuiet_nil ?_
                            intro w' hw'
                            obtain ⟨nq, rfl⟩ := hw'
                            have HQ2 := Lib.hid (HQ.out.drew nq)
                            clear HQ c4 c5 c6
                            revert HQ2
                            generalize wr.drewN nq = wr
                            intro HQ
                            have c7 := HQ.out.c7
                            have ck := HQ.out.ck
                            have cw := HQ.out.cw
                            go_wp2
                            refine wp_region_quiet_lit (by kernel_rfl) (by kernel_rfl) ?_
                            repeat (go_big_quiet_step (fail))
                            refine wpQuiet_nil ?_
                            intro w' hw'
                            obtain ⟨nq, rfl⟩ := hw'
                            have HQ2 := Lib.hid (HQ.out.drew nq)
                            clear HQ c7 ck cw
                            revert HQ2
                            generalize wr.drewN nq = wr
                            intro HQ
                            have c0 := HQ.out.c0
                            go_wp2
                            refine wp_region_quiet_lit (by kernel_rfl) (by kernel_rfl) ?_
                            iterate 3 go_big_quiet_step (fail)
                            go_big_quiet_step (exact T2.out _ _)
                            iterate 3 go_big_quiet_step (fail)
                            go_big_quiet_step (exact T13.out _ _)
                            iterate 4 go_big_quiet_step (fail)
                            go_big_quiet_step (exact T22.out _ _)
                            repeat (go_big_quiet_step (fail))
                            refine wpQuiet_nil ?_
                            intro w' hw'
                            obtain ⟨nq, rfl⟩ := hw'
                            have HQ2 := Lib.hid (HQ.out.drew nq)
                            clear HQ c0
                            revert HQ2
                            generalize wr.drewN nq = wr
                            intro HQ
                            generalize hss0 : rotr t.a 2 ^^^ rotr t.a 13 ^^^ rotr t.a 22 = ss0
                            have Hss0 := Lib.hid hss0
                            clear hss0
                            have c0 := HQ.out.c0
                            have c1 := HQ.out.c1
                            have c2 := HQ.out.c2
                            go_wp2
                            refine wp_region_quiet_lit (by kernel_rfl) (by kernel_rfl) ?_
                            repeat (go_big_quiet_step (fail))
                            refine wpQuiet_nil ?_
                            intro w' hw'
                            obtain ⟨nq, rfl⟩ := hw'
                            have HQ2 := Lib.hid (HQ.out.drew nq)
                            clear HQ c0 c1 c2
                            revert HQ2
                            generalize wr.drewN nq = wr
                            intro HQ
                            generalize hmj : t.a &&& t.b ^^^ t.a &&& t.c ^^^ t.b &&& t.c = mj
                            have Hmj := Lib.hid hmj
                            clear hmj
                            have c0 := HQ.out.c0
                            have c1 := HQ.out.c1
                            have c2 := HQ.out.c2
                            have c3 := HQ.out.c3
                            have c4 := HQ.out.c4
                            have c5 := HQ.out.c5
                            have c6 := HQ.out.c6
                            go_wp2
                            refine wp_region_qtail_lit 28 (by kernel_rfl) (by kernel_rfl) ?_
                            simp only [List.take_succ_cons, List.take_zero, List.drop_succ_cons, List.drop_zero]
                            repeat (go_big_quiet_step (fail))
                            refine wpQuiet_nil ?_
                            intro w' hw'
                            obtain ⟨nq, rfl⟩ := hw'
                            have HRV := Lib.hid (rfv_round hlk (HQ.out.drew nq).below HRN.out Hs1.out Hss0.out Hmj.out)
                            clear HQ HRN Hs1 Hss0 Hmj c0 c1 c2 c3 c4 c5 c6 T6 T11 T25 T2 T13 T22
                            revert HRV
                            generalize wr.drewN nq = wr
                            intro HRV
                            refine wpList_words8 rfl _ _ _ _ _ _ _ _ rfl _ _ _ _ _ _ _ _ rfl rfl rfl rfl rfl rfl rfl rfl ?_
                            as_aux_lemma =>
                              go_wp2
                              exact ⟨HRV.out, by simp [intOf]; omega⟩
                          · obtain rfl : k = 64 := (by omega)
                            rw [show ((64 : Nat) : Int) = (64 : Int) from rfl]
                            have hm : mixOf (absorb s0 P j) Y = (absorb s0 P j).plus (rounds (absorb s0 P j) Y 64) := rfl
                            rw [← HNX.out] at hm
                            have hw1 := M1.out.rf.lt
                            have R0 : Hid (RfH w wz P (.slice (some ⟨pb, 0, none⟩) P.length pc) (absorb s0 P j) (rounds (absorb s0 P j) Y 64) vb 0 wr) := by
                              have h := M1.out.keep HB.out
                              exact ⟨⟨⟨h.rf.res, by rw [h.rf.hrow]; exact congrArg (fun c => some (Obj.cells c 56 (0, 0))) (rowF_congr fun x _ => by simp [addTo]), h.rf.krow, h.rf.below⟩, h.own⟩, hcs⟩
                            have HMX := Lib.hid hm
                            have hv1 : w.heap.size + 1 < vb := by omega
                            clear hm hcs HB M1 ROW BB HNX hk hlk hw1 hws
                            generalize rounds (absorb s0 P j) Y 64 = t at *
                            generalize absorb s0 P j = s at *
                            go_wp2
                            go_loopw [22] (fun i wv => ∃ q : Nat, q ≤ 8 ∧ i = .int .i64 q ∧ RfH w wz P (.slice (some ⟨pb, 0, none⟩) P.length pc) s t vb q wv) (fun i _ => 8 - (intOf i).toNat)
                            case atStart => exact ⟨0, by omega, rfl, R0.out⟩
                            case round =>
                              obtain ⟨q, hq, rfl, M⟩ := hrel
                              have HR := Lib.hid M
                              clear M R0
                              by_cases hlq : q < 8
                              · have hlqz : (q : Int) < 8 := by omega
                                have ch : wr.cell? ⟨w.heap.size + 1, q, none⟩ = some (.int .u32 (n32 (s.fn q))) := by
                                  have h1 := rowF_cell HR.out.rf.rf.hrow hlq
                                  rwa [show addTo s t q q = s.fn q by simp [addTo]] at h1
                                have cv := HR.out.cells q hlq
                                have HR2 := Lib.hid (fun n => (HR.out.drew n).step hlq hv1)
                                have fr : wr.frozen? ⟨w.heap.size + 1, q, none⟩ = false := frozen_of_row wr _ _ _ _ HR.out.rf.rf.hrow
                                have FR := Lib.hid fr
                                have CH := Lib.hid ch
                                clear fr HR
                                generalize hsq : s.fn q = a at *
                                generalize htq : t.fn q = b at *
                                clear hsq htq
                                go_wp2
                                refine wp_region_qtail_lit 10 (by kernel_rfl) (by kernel_rfl) ?_
                                simp only [List.take_succ_cons, List.take_zero, List.drop_succ_cons, List.drop_zero]
                                repeat (quiet_step (fail))
                                refine wpQuiet_nil ?_
                                intro w' hw'
                                obtain ⟨nq, rfl⟩ := hw'
                                have fr : (wr.drewN nq).frozen? ⟨w.heap.size + 1, q, none⟩ = false := FR.out
                                have ce : (wr.drewN nq).cell? ⟨w.heap.size + 1, q, none⟩ = _ := CH.out
                                have HX := Lib.hid (HR2.out nq)
                                clear ch cv HR2 FR CH
                                go_wp2
                                go_roundw
                                case rel => first | exact ⟨q + 1, by omega, by go_num, HX.out⟩ | ((repeat apply Exists.intro); exact ⟨⟨q + 1, by omega, by go_num, HX.out⟩, rfl⟩)
                                case measure => simp [intOf]; omega
                              · obtain rfl : q = 8 := by omega
                                rw [show ((8 : Nat) : Int) = (8 : Int) from rfl]
                                have HE : Hid (RfB w P (.slice (some ⟨pb, 0, none⟩) P.length pc) (absorb s0 P (j + 1)).fn wr) := by rw [HMX.out]; exact HR.out.ends
                                clear HR HMX
                                go_wp2
                                go_roundw
                                case rel => first | exact ⟨j + 1, by omega, by go_num, HE.out⟩ | ((repeat apply Exists.intro); exact ⟨⟨j + 1, by omega, by go_num, HE.out⟩, rfl⟩)
                                case measure => simp [intOf]; omega
            · have hPe : 64 * j = P.length := by omega
              have hjn : P.length / 64 = j := by omega
              rw [hjn] at HSF
              have hge : ¬ ((64 * j : Nat) : Int) < P.length := by omega
              have hlw : w.heap.size + 3 ≤ wr.heap.size := HM.out.rf.lt
              have W0 := Lib.hid (RfU.start HM.out.rf)
              generalize absorb s0 P j = st at *
              clear HM hj hlt hjn hm64 hple hPe
              go_wp2_with fail
              rw [litB32]
              revert W0
              generalize wr.alloc (.cells (rowG (fun _ => 0) 32) 33) = wz
              intro W0
              generalize wr = wb at *
              go_wp2
              go_loopw [24] (fun i wv => ∃ k : Nat, k ≤ 32 ∧ i = .int .i64 k ∧ RfU w wb st k wv) (fun i _ => 32 - (intOf i).toNat)
              case atStart => exact ⟨0, by omega, rfl, W0.out⟩
              case round =>
                obtain ⟨k, hk, rfl, M⟩ := hrel
                have HU := Lib.hid M
                clear M W0
                by_cases hlk : k < 32
                · have hlkz : (k : Int) < 32 := by omega
                  have hq8 : k / 4 < 8 := by omega
                  have ch := rowF_cell HU.out.rf.hrow hq8
                  have hx := HU.out.step hlk hlw
                  rw [← digest_byte st k hlk, ← n8_shr _ _ (by omega)] at hx
                  have HX := Lib.hid hx
                  have fr := frozen_of_row wr _ k _ _ HU.out.out
                  have ce := rowG_cell HU.out.out hlk
                  clear hx HU
                  generalize (if k < k then byteAt (digest st) k else 0) = ob at ce
                  have hq : (k : Int).tdiv 4 = ((k / 4 : Nat) : Int) := by rw [Int.tdiv_eq_ediv_of_nonneg (by omega)]; omega
                  have hr : (k : Int).tmod 4 = ((k % 4 : Nat) : Int) := by rw [Int.tmod_eq_emod_of_nonneg (by omega)]; omega
                  go_wp2
                  exact ⟨⟨k + 1, by omega, by go_num, HX.out⟩, by simp [intOf]; omega⟩
                · obtain rfl : k = 32 := by omega
                  rw [show ((32 : Nat) : Int) = (32 : Int) from rfl]
                  have hoo := HU.out.ends
                  have ho := HU.out.rf.res
                  have HB := Lib.hid HU.out.rf.below
                  have hdl := digest_len st
                  rw [← HSF.out] at hoo hdl
                  obtain ⟨d, hd⟩ : ∃ d, d = sha l := ⟨_, rfl⟩
                  rw [← hd] at hoo hdl
                  have HDD := Lib.hid hd
                  have HL := Lib.hid hdl; have HOO := Lib.hid hoo; have HO := Lib.hid ho
                  clear hdl hoo ho HU HSF hd
                  go_wp2_with (first | refine wpList_load_row rfl _ _ rfl wb.heap.size rfl 33 (aB d) (0, 0) _ HOO.out Tryd.underlying33 rfl (aB_info HL.out) ?_ | refine wpList_store_row rfl _ _ _ rfl w.heap.size (aB d) rfl rfl 33 (rowG (fun _ => 0) 32) HO.out (aB_info HL.out) (by rw [aB_size, rowG_size, HL.out]) (aB_one _) ?_)
                  exact bodyPost_ret (v := .agg (aB d)) (results_cell_row rfl _ _ w.heap.size 33 (aB d) (0, 0) _ rfl (setRow_heap _ _ _ _ _ _ HO.out) Tryd.underlying33 rfl (aB_info HL.out)) rfl ⟨by rw [HDD.out], below_setRow HB.out (Nat.le_refl _) _⟩
    · have hcond : ((N : Int) % 64 != 56) = true := by
        simp; intro h; exact hjp (hstop.1 (by omega))
      have hj2 : j + 1 ≤ padN l.length := by omega
      have O := Lib.hid (HO.out.alloc (.cells #[.int .u8 0] 5))
      have M3 := Lib.hid (HM.out.keep ((Below.refl _ _).alloc HM.out.lt (.cells #[.int .u8 0] 5)))
      revert O HNX
      generalize l ++ [128] ++ List.replicate j (0 : UInt8) = X
      intro HNX O
      clear hstop hN HO HM
      go_wp2_with (refine wpList_app rfl _ _ 25 rfl (w.heap.size + 3) 5 i0 (.int .u8 0) 1 Tryd.underlying25 hi hz0 hz1 hz2 rfl (.slice qa N qc) _ _ rfl O.out _ [.int .u8 0] rfl (RdV_one _ _ _) ?c6 ?c7 (by omega) ?c8 ?_)
      case c6 => intro u hu; rw [List.mem_singleton.1 hu]; rfl
      case c7 => simp; omega
      case c8 => exact M3.out.lt
      intro v5 w5 hown hgr
      have hob := World.ownsRow.lt O.out
      have M5 := Lib.hid (M3.out.keep (below_grown hgr M3.out.lt (fun k hk => (hob k hk).1)))
      have e1 : X.map vB ++ [Value.int .u8 0] = (l ++ [128] ++ List.replicate (j + 1) 0).map vB := by rw [← HNX.out, List.map_append]; rfl
      rw [e1, show N + 1 = l.length + 1 + (j + 1) by rw [HN.out]; omega] at hown
      have P5 : Hid (RfP w l v5 w5) := ⟨j + 1, hj2, M5.out, hown⟩
      have hsl : sliceLen v5 = l.length + 1 + (j + 1) := by
        obtain ⟨a, n, c, h⟩ := RdV.slice (RdV_of_owns hown)
        subst h
        have := (RdV.le (RdV_of_owns hown)).1
        simp at this
        simp only [sliceLen]; omega
      have HSL := Lib.hid hsl
      clear hown hgr hob O M3 e1 hsl M5
      go_wp2
      exact ⟨P5.out, by rw [HSL.out]; simp only [sliceLen]; have := HN.out; omega⟩
end Go.Proofs.YtkpcmgacjhjllaaDoor
