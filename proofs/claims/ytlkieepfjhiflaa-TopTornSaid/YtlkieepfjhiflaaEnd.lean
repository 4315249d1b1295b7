/- The contract of sha's end: the digest behind the last bytes. Conditions: fewer than 64 bytes left, a length below 2^60. -/
import Derived.Test.YtlkieepfjhiflaaWrite
import Derived.Test.YtlkieepfjhiflaaAppZ
namespace Go.Proofs.Ytlkieepfjhiflaa
open Go.RowKit

def lenByte (n i : Nat) : UInt8 := UInt8.ofNat (n * 8 / 2 ^ (56 - 8 * i))
def lenBytes (n k : Nat) : List UInt8 := (List.range k).map (lenByte n)
def padTo (rest : List UInt8) (n : Nat) : List UInt8 := rest ++ [128] ++ List.replicate ((119 - rest.length) % 64) 0 ++ lenBytes n 8
def finOf (s : St) (rest : List UInt8) (n : Nat) : St := absorb s (padTo rest n) ((padTo rest n).length / 64)
def wordBytes (x : UInt32) : List UInt8 := [(x >>> 24).toUInt8, (x >>> 16).toUInt8, (x >>> 8).toUInt8, x.toUInt8]
def digest (s : St) : List UInt8 := wordBytes s.a ++ wordBytes s.b ++ wordBytes s.c ++ wordBytes s.d ++ wordBytes s.e ++ wordBytes s.f ++ wordBytes s.g ++ wordBytes s.h
theorem digest_len (s : St) : (digest s).length = 32 := by simp [digest, wordBytes]
theorem pad_len (rest : List UInt8) (n : Nat) (h : rest.length < 64) : (padTo rest n).length % 64 = 0 ∧ (padTo rest n).length ≤ 128 := by
  simp [padTo, lenBytes]; omega
theorem digest_at (s : St) (k j : Nat) (hk : k < 8) (hj : j < 4) : byteAt (digest s) (4 * k + j) = byteAt (wordBytes (s.fn k)) j := by
  match k, hk, j, hj with
  | 0, _, 0, _ | 0, _, 1, _ | 0, _, 2, _ | 0, _, 3, _ | 1, _, 0, _ | 1, _, 1, _ | 1, _, 2, _ | 1, _, 3, _ | 2, _, 0, _ | 2, _, 1, _ | 2, _, 2, _ | 2, _, 3, _ | 3, _, 0, _ | 3, _, 1, _ | 3, _, 2, _ | 3, _, 3, _
  | 4, _, 0, _ | 4, _, 1, _ | 4, _, 2, _ | 4, _, 3, _ | 5, _, 0, _ | 5, _, 1, _ | 5, _, 2, _ | 5, _, 3, _ | 6, _, 0, _ | 6, _, 1, _ | 6, _, 2, _ | 6, _, 3, _ | 7, _, 0, _ | 7, _, 1, _ | 7, _, 2, _ | 7, _, 3, _ => rfl

/-- A row of n bytes. -/
def rowG (f : Nat → UInt8) (n : Nat) : Array Value := ((List.range n).map fun i => Value.int .u8 (n8 (f i))).toArray
theorem rowG_get (f : Nat → UInt8) (n i : Nat) (h : i < n) : (rowG f n)[i]? = some (.int .u8 (n8 (f i))) := by simp [rowG, h]
theorem rowG_size (f : Nat → UInt8) (n : Nat) : (rowG f n).size = n := by simp [rowG]
theorem rowG_set (f g : Nat → UInt8) (n i : Nat) (h : i < n) (hg : ∀ j, j ≠ i → g j = f j) : (rowG f n).setIfInBounds i (.int .u8 (n8 (g i))) = rowG g n := by
  apply Array.ext'
  simp only [rowG, Array.toList_setIfInBounds]
  apply List.ext_getElem?
  intro j
  simp only [List.getElem?_set, List.getElem?_map]
  by_cases hj : i = j
  · subst hj; simp [h]
  · by_cases hjn : j < n
    · simp [hj, hjn, hg j (Ne.symm hj)]
    · simp [hj, hjn]
theorem rowG_cell {w : World} {g t : Nat} {fr : Nat × Nat} {f : Nat → UInt8} {n i : Nat} (hg : w.heap[g]? = some (.cells (rowG f n) t fr)) (h : i < n) : w.cell? ⟨g, i, none⟩ = some (.int .u8 (n8 (f i))) := by
  rw [cell_of_row w g i _ t fr hg, rowG_get f n i h]
theorem rowG_one (f : Nat → UInt8) (n : Nat) : (rowG f n).all (·.oneCell') = true := by
  apply Array.all_eq_true_iff_forall_mem.2
  intro v hv
  simp only [rowG, List.mem_toArray, List.mem_map] at hv
  obtain ⟨i, _, rfl⟩ := hv
  rfl
/-- Bytes as an array's cells. -/
def aB (l : List UInt8) : Array Value := (l.map vB).toArray
theorem rowG_list (l : List UInt8) (n : Nat) (h : l.length = n) : rowG (byteAt l) n = aB l := by
  apply Array.ext'
  simp only [rowG, aB]
  apply List.ext_getElem?
  intro j
  by_cases hj : j < n
  · simp [hj, byteAt, vB, h]
  · simp [hj, h]

structure EndW (w wr : World) (s : St) (out : Nat → UInt8) : Prop where
  below : Below w.heap.size w wr
  hbox : wr.heap[w.heap.size]? = some (.cells s.cells 84 (0, 0))
  outb : wr.heap[w.heap.size + 1]? = some (.cells (rowG out 32) 33 (0, 0))
  kk : wr.heap[w.heap.size + 2]? = some (.cells (rowF kOf 64) 115 (0, 0))
section
variable {w wr : World} {s : St} {out : Nat → UInt8}
theorem EndW.lt (M : EndW w wr s out) : w.heap.size + 2 < wr.heap.size := (Array.getElem?_eq_some_iff.1 M.kk).1
theorem EndW.keep {w1 : World} (M : EndW w wr s out) (hb : Below (w.heap.size + 3) wr w1) : EndW w w1 s out :=
  ⟨M.below.trans (hb.mono (by omega)), (hb.block _ (by omega)).trans M.hbox, (hb.block _ (by omega)).trans M.outb, (hb.block _ (by omega)).trans M.kk⟩
theorem EndW.below' {w1 : World} (M : EndW w wr s out) (hb : Below wr.heap.size wr w1) : EndW w w1 s out := M.keep (hb.mono (by have := M.lt; omega))
theorem EndW.grown {w1 : World} {row : Option Nat} (M : EndW w wr s out) (hg : wr.grownBy w1 row) (hr : ∀ k, row = some k → w.heap.size + 3 ≤ k) : EndW w w1 s out :=
  M.keep (below_grown hg (by have := M.lt; omega) hr)
theorem EndW.hash (M : EndW w wr s out) (r : St) : EndW w (wr.setRow w.heap.size r.cells) r out := by
  refine ⟨below_setRow M.below (Nat.le_refl _) _, setRow_heap wr _ _ _ _ _ M.hbox, ?_, ?_⟩
  · rw [setRow_other _ _ _ _ (by omega)]; exact M.outb
  · rw [setRow_other _ _ _ _ (by omega)]; exact M.kk
theorem EndW.byte (M : EndW w wr s out) {k : Nat} (hk : k < 32) (g : Nat → UInt8) (hg : ∀ j, j ≠ k → g j = out j) : EndW w (wr.setCell ⟨w.heap.size + 1, k, none⟩ (.int .u8 (n8 (g k)))) s g := by
  refine ⟨M.below.setCell (by show w.heap.size ≤ w.heap.size + 1; omega) _, ?_, ?_, ?_⟩
  · rw [heap_setCell_other _ _ _ _ (by show w.heap.size ≠ w.heap.size + 1; omega)]; exact M.hbox
  · rw [heap_setCell_same _ _ _ _ _ _ M.outb, rowG_set out g 32 k hk hg]
  · rw [heap_setCell_other _ _ _ _ (by show w.heap.size + 2 ≠ w.heap.size + 1; omega)]; exact M.kk
end

theorem litB32 : (#[Value.int IntKind.u8 0, Value.int IntKind.u8 0, Value.int IntKind.u8 0, Value.int IntKind.u8 0, Value.int IntKind.u8 0, Value.int IntKind.u8 0, Value.int IntKind.u8 0, Value.int IntKind.u8 0, Value.int IntKind.u8 0, Value.int IntKind.u8 0, Value.int IntKind.u8 0, Value.int IntKind.u8 0, Value.int IntKind.u8 0, Value.int IntKind.u8 0, Value.int IntKind.u8 0, Value.int IntKind.u8 0, Value.int IntKind.u8 0, Value.int IntKind.u8 0, Value.int IntKind.u8 0, Value.int IntKind.u8 0, Value.int IntKind.u8 0, Value.int IntKind.u8 0, Value.int IntKind.u8 0, Value.int IntKind.u8 0, Value.int IntKind.u8 0, Value.int IntKind.u8 0, Value.int IntKind.u8 0, Value.int IntKind.u8 0, Value.int IntKind.u8 0, Value.int IntKind.u8 0, Value.int IntKind.u8 0, Value.int IntKind.u8 0] : Array Value) = rowG (fun _ => 0) 32 := by kernel_rfl
theorem end_start (w : World) (s : St) : EndW w (((w.alloc (.cells s.cells 84)).alloc (.cells (rowG (fun _ => 0) 32) 33)).alloc (.cells (rowF kOf 64) 115)) s (fun _ => 0) := by
  refine ⟨(((Below.refl _ _).alloc (Nat.le_refl _) _).alloc (by simp) _).alloc (by simp; omega) _, ?_, ?_, ?_⟩
  · rw [Below.heap_alloc _ _ _ (by simp; omega), heap_alloc2_old]
  · rw [Below.heap_alloc _ _ _ (by simp), heap_alloc2_new]
  · have e : w.heap.size + 2 = ((w.alloc (.cells s.cells 84)).alloc (.cells (rowG (fun _ => 0) 32) 33)).heap.size := by simp
    rw [e, heap_alloc_new]
theorem lenBytes_succ (n k : Nat) : lenBytes n (k + 1) = lenBytes n k ++ [lenByte n k] := by simp [lenBytes, List.range_succ]
theorem lenByte_is (n i : Nat) : n8 (lenByte n i) = (n * 8 / 2 ^ (56 - 8 * i) : Nat) % 256 := by
  simp only [lenByte, n8, UInt8.toNat_ofNat']; omega

theorem owns_from {w : World} {B B' : Nat} {e : TypeId} {v : Value} {n : Nat} {xs : List Value} (h : w.ownsRow B e 1 v n xs) (hB : B' ≤ B) : w.ownsRow B' e 1 v n xs := by
  obtain ⟨h1, h2⟩ := h
  refine ⟨h1, ?_⟩
  rcases h2 with h2 | ⟨g, cap, cur, hv, hg, rest⟩
  · exact .inl h2
  · exact .inr ⟨g, cap, cur, hv, by omega, rest⟩
def EndI (w : World) (s : St) (base : List UInt8) (n : Nat) (i v : Value) (wr : World) : Prop := ∃ k : Nat, k ≤ 8 ∧ i = .int .i64 k ∧ EndW w wr s (fun _ => 0) ∧ wr.ownsRow (w.heap.size + 3) 5 1 v (base ++ lenBytes n k).length ((base ++ lenBytes n k).map vB)

theorem RdB.keepW {w : World} {v : Value} {l : List UInt8} {b t : Nat} {s r : St} (h : RdB w v l) (hb : w.heap[b]? = some (.cells s.cells t (0, 0))) : RdB (w.setRow b r.cells) v l := by
  rcases h with h | ⟨ad, cap, rfl, hle, hc⟩
  · exact .inl h
  · refine .inr ⟨ad, cap, rfl, hle, fun j u hj => ?_⟩
    obtain ⟨b', off, rfl, hcell⟩ := hc j u hj
    refine ⟨b', off, rfl, ?_⟩
    by_cases e : b' = b
    · subst e
      exfalso
      rw [cell_of_row w b' _ _ _ _ hb] at hcell
      simp only [List.getElem?_map] at hj
      cases hl : l[j]? with
      | none => rw [hl] at hj; cases hj
      | some y =>
        rw [hl] at hj
        simp only [Option.map_some, Option.some.injEq] at hj
        rw [← hj, ← St.row] at hcell
        by_cases hk : off + j < 8
        · rw [rowF_get _ _ _ hk] at hcell; simp [vB] at hcell
        · rw [Array.getElem?_eq_none (by rw [rowF_size]; omega)] at hcell; cases hcell
    · rw [World.cell?_of_block (w := w) (w' := w.setRow b r.cells) (setRow_other w b b' _ e)]; exact hcell
theorem aB_one (l : List UInt8) : (aB l).all (·.oneCell') = true := by
  apply Array.all_eq_true_iff_forall_mem.2
  intro v hv
  exact vB_one l v (by simpa [aB] using hv)
theorem idx8 (s : St) (k : Nat) (hk : k < 8) (w : World) : (Instr.index 84 (.agg s.cells) (.int .i64 k)).run Try.prog w = .ok (.int .u32 (n32 (s.fn k))) w := by
  have h : k = 0 ∨ k = 1 ∨ k = 2 ∨ k = 3 ∨ k = 4 ∨ k = 5 ∨ k = 6 ∨ k = 7 := by omega
  clear hk
  rcases h with rfl | rfl | rfl | rfl | rfl | rfl | rfl | rfl <;> (show _ = _; kernel_rfl)
def EndO (w : World) (s : St) (i : Value) (wr : World) : Prop := ∃ k : Nat, k ≤ 8 ∧ i = .int .i64 k ∧ EndW w wr s (fun i => if i < 4 * k then byteAt (digest s) i else 0)
theorem rowG_cut (l : List UInt8) : rowG (fun i => if i < 4 * 8 then byteAt l i else 0) 32 = rowG (byteAt l) 32 :=
  congrArg List.toArray (List.map_congr_left fun i hi => by
    have : i < 4 * 8 := by have := List.mem_range.1 hi; omega
    simp [this])
/-- A word's four bytes, stored. -/
theorem EndW.word {w wr : World} {s : St} {k : Nat} (M : EndW w wr s (fun i => if i < 4 * k then byteAt (digest s) i else 0)) (hk : k < 8) :
    EndW w ((((wr.setCell ⟨w.heap.size + 1, 4 * k, none⟩ (.int .u8 (n8 (s.fn k >>> 24).toUInt8))).setCell ⟨w.heap.size + 1, 4 * k + 1, none⟩ (.int .u8 (n8 (s.fn k >>> 16).toUInt8))).setCell ⟨w.heap.size + 1, 4 * k + 2, none⟩ (.int .u8 (n8 (s.fn k >>> 8).toUInt8))).setCell ⟨w.heap.size + 1, 4 * k + 3, none⟩ (.int .u8 (n8 (s.fn k).toUInt8))) s (fun i => if i < 4 * (k + 1) then byteAt (digest s) i else 0) := by
  have e : ∀ j, j < 4 → byteAt (digest s) (4 * k + j) = byteAt (wordBytes (s.fn k)) j := fun j hj => digest_at s k j hk hj
  have step : ∀ (j : Nat) (wx : World), j < 4 → EndW w wx s (fun i => if i < 4 * k + j then byteAt (digest s) i else 0) →
      EndW w (wx.setCell ⟨w.heap.size + 1, 4 * k + j, none⟩ (.int .u8 (n8 (byteAt (wordBytes (s.fn k)) j)))) s (fun i => if i < 4 * k + j + 1 then byteAt (digest s) i else 0) := by
    intro j wx hj Mx
    have h := Mx.byte (k := 4 * k + j) (by omega) (fun i => if i < 4 * k + j + 1 then byteAt (digest s) i else 0) (fun i hi => by
      by_cases h1 : i < 4 * k + j
      · simp [h1, show i < 4 * k + j + 1 by omega]
      · simp [h1, show ¬ i < 4 * k + j + 1 by omega])
    simp only [if_pos (Nat.lt_succ_self (4 * k + j)), e j hj] at h
    exact h
  have m0 := step 0 _ (by omega) M
  have m1 := step 1 _ (by omega) m0
  have m2 := step 2 _ (by omega) m1
  have m3 := step 3 _ (by omega) m2
  exact m3
def EndL (w : World) (s : St) (P : List UInt8) (v : Value) (wr : World) : Prop := ∃ j, 64 * j ≤ P.length ∧ RdB wr v (P.drop (64 * j)) ∧ EndW w wr (absorb s P j) (fun _ => 0)
theorem EndL.rd' {w : World} {s : St} {P : List UInt8} {v : Value} {wr : World} (h : EndL w s P v wr) : ∃ a n c, v = .slice a n c := by obtain ⟨j, _, h, _⟩ := h; exact RdV.slice h

set_option maxRecDepth 100000 in
set_option maxHeartbeats 1000000 in
theorem end_any (w : World) (s : St) (v : Value) (rest : List UInt8) (n : Nat) (hv : RdB w v rest) (hl : rest.length < 64) (hn : n ≤ 1152921504606846975) :
    Calls Try.prog 39 #[.agg s.cells, v, .int .i64 n] w fun e w' => e = .returned (.agg (aB (digest (finOf s rest n)))) ∧ Below w.heap.size w w' := by
  obtain ⟨va, vc, rfl, _⟩ := hv.open
  obtain ⟨i0, hi, hz0, hz1, hz2⟩ := info_parts info_u8
  have HV := Lib.hid hv
  clear hv
  go_enter Try.func39, Try.ntmps39
  go_wp2_with fail
  refine (rounds_any _).mono ?_
  rintro e w1 ⟨rfl, rfl⟩
  go_wp2_with fail
  rw [litB32]
  have M0 := Lib.hid (end_start w s)
  revert M0
  generalize ((w.alloc (.cells s.cells 84)).alloc (.cells (rowG (fun _ => 0) 32) 33)).alloc (.cells (rowF kOf 64) 115) = w1
  intro M0
  refine (clone_any w1 _ rest (RdV.below HV.out M0.out.below) (by omega)).mono ?_
  rintro e w2 ⟨r, rfl, hown, hb⟩
  have M := Lib.hid (M0.out.below' hb)
  have hlt := M0.out.lt
  have hown2 : w2.ownsRow (w.heap.size + 3) 5 1 r rest.length (rest.map vB) := owns_from hown (by omega)
  have O := Lib.hid (hown2.alloc (.cells #[.int .u8 128] 5))
  have M2 := Lib.hid (M.out.below' ((Below.refl _ _).alloc (Nat.le_refl _) (.cells #[.int .u8 128] 5)))
  clear hown hown2 hb M0 M
  go_wp2_with (refine wpList_app rfl _ _ 22 rfl (w.heap.size + 3) 5 i0 (.int .u8 0) 1 Try.underlying22 hi hz0 hz1 hz2 rfl r _ _ rfl O.out _ [.int .u8 128] rfl (RdV_one _ _ _) ?c1 ?c2 (by omega) ?c3 ?_)
  case c1 => intro u hu; rw [List.mem_singleton.1 hu]; rfl
  case c2 => simp; omega
  case c3 => have := M2.out.lt; omega
  intro v3 w3 hown hgr
  have hob := World.ownsRow.lt O.out
  have M3 := Lib.hid (M2.out.grown hgr (fun k hk => (hob k hk).1))
  have e1 : rest.map vB ++ [Value.int .u8 128] = (rest ++ [128]).map vB := by simp [vB]; rfl
  rw [e1] at hown
  have O3 := Lib.hid hown
  clear hown hgr hob O M2 hlt e1
  go_wp2_with (refine wpList_appZ rfl _ _ 22 3 rfl (w.heap.size + 3) 5 i0 (.int .u8 0) .i64 .i64 1 Try.underlying22 Try.underlying3 hi hz0 hz1 hz2 rfl rfl v3 _ _ rfl O3.out ((119 - rest.length) % 64) _ ?c4 rfl ?c5 (by omega) ?c6 ?_)
  case c4 => omega
  case c5 => omega
  case c6 => have := M3.out.lt; omega
  intro v4 w4 hown hgr
  have hob := World.ownsRow.lt O3.out
  have M4 := Lib.hid (M3.out.grown hgr (fun k hk => (hob k hk).1))
  obtain ⟨base, hbase⟩ : ∃ base, base = rest ++ [128] ++ List.replicate ((119 - rest.length) % 64) 0 := ⟨_, rfl⟩
  have hbl : base.length = rest.length + 1 + (119 - rest.length) % 64 := by rw [hbase]; simp; omega
  have e0 : Value.int .u8 0 = vB 0 := rfl
  have e1 : rest.map vB ++ vB 128 :: List.replicate ((119 - rest.length) % 64) (Value.int .u8 0) = base.map vB := by rw [hbase, e0]; simp
  rw [e1, ← hbl] at hown
  have hpad : padTo rest n = base ++ lenBytes n 8 := by rw [padTo, hbase]
  have O4 := Lib.hid hown
  have HP := Lib.hid hpad
  have HBL := Lib.hid hbl
  clear hown hgr hob O3 M3 e0 e1 hbase hpad hbl HV
  go_wp2
  go_loopw [23, 8, 9] (fun i v _ wr => EndI w s base n i v wr) (fun i _ _ _ => 8 - (intOf i).toNat)
  case atStart => exact ⟨0, by omega, rfl, M4.out, by simpa [lenBytes] using O4.out⟩
  case round =>
    obtain ⟨k, hk, rfl, M, O⟩ := hrel
    have HM := Lib.hid M; have HO := Lib.hid O
    clear M O
    have hbl := HBL.out
    by_cases hlt : k < 8
    · have e8 : (n : Int) * 8 = ((n * 8 : Nat) : Int) := by omega
      have hb : n8 (lenByte n k) = (n : Int) * 8 / 2 ^ (56 - 8 * k) % 256 := by
        rw [lenByte_is]; simp
      have HE := Lib.hid hb
      clear hb e8
      obtain ⟨X, hX⟩ : ∃ X, X = base ++ lenBytes n k := ⟨_, rfl⟩
      have hXn : base ++ lenBytes n (k + 1) = X ++ [lenByte n k] := by rw [lenBytes_succ, hX, List.append_assoc]
      have hXl : X.length ≤ 200 := by rw [hX]; simp [lenBytes]; omega
      rw [← hX] at HO
      have O := Lib.hid (HO.out.alloc (.cells #[.int .u8 ((n : Int) * 8 / 2 ^ (56 - 8 * k) % 256)] 5))
      have M2 := Lib.hid (HM.out.below' ((Below.refl _ _).alloc (Nat.le_refl _) (.cells #[.int .u8 ((n : Int) * 8 / 2 ^ (56 - 8 * k) % 256)] 5)))
      have HXN := Lib.hid hXn
      clear hXn hX HO HM hbl
      go_wp2_with (refine wpList_app rfl _ _ 22 rfl (w.heap.size + 3) 5 i0 (.int .u8 0) 1 Try.underlying22 hi hz0 hz1 hz2 rfl u8 _ _ rfl O.out _ [.int .u8 ((n : Int) * 8 / 2 ^ (56 - 8 * k) % 256)] rfl (RdV_one _ _ _) ?c1 ?c2 (by omega) ?c3 ?_)
      case c1 => intro u hu; rw [List.mem_singleton.1 hu]; rfl
      case c2 => simp; omega
      case c3 => have := M2.out.lt; omega
      intro v5 w5 hown hgr
      have hob := World.ownsRow.lt O.out
      have M5 := Lib.hid (M2.out.grown hgr (fun k hk => (hob k hk).1))
      have e1 : X.map vB ++ [Value.int .u8 ((n : Int) * 8 / 2 ^ (56 - 8 * k) % 256)] = (X ++ [lenByte n k]).map vB := by rw [← HE.out]; simp [vB]
      rw [e1, ← HXN.out] at hown
      have e2 : X.length + 1 = (base ++ lenBytes n (k + 1)).length := by rw [HXN.out]; simp
      rw [e2] at hown
      have O5 := Lib.hid hown
      clear hown hgr hob O M2 e1 e2 HE
      go_wp2
      go_roundw
      case rel => first | exact ⟨k + 1, by omega, by go_num, M5.out, O5.out⟩ | ((repeat apply Exists.intro); exact ⟨⟨k + 1, by omega, by go_num, M5.out, O5.out⟩, rfl⟩)
      case measure => simp [intOf]; omega
    · obtain rfl : k = 8 := by omega
      rw [show ((8 : Nat) : Int) = (8 : Int) from rfl]
      rw [← HP.out] at HO
      have hpl := pad_len rest n hl
      have HI : Hid (EndL w s (padTo rest n) u8 wr) := ⟨0, by omega, by rw [Nat.mul_zero, List.drop_zero]; exact RdV_of_owns HO.out, HM.out⟩
      clear HP HBL hbl HO HM M4 O4
      obtain ⟨P, hP⟩ : ∃ P, P = padTo rest n := ⟨_, rfl⟩
      have HPP := Lib.hid hP
      rw [← hP] at HI hpl
      clear hP
      obtain ⟨va5, n5, vc5, rfl⟩ := EndL.rd' HI.out
      go_wp2
      go_loopw [8] (fun v wr => EndL w s P v wr) (fun v _ => sliceLen v)
      case atStart => exact HI.out
      case round =>
        obtain ⟨j, hj, hrd, M⟩ := hrel
        obtain ⟨a4, c4, rfl, hc4⟩ := hrd.open
        have hle4 := (RdV.le hrd).2
        have hlen : (P.drop (64 * j)).length = P.length - 64 * j := List.length_drop
        obtain ⟨Y, hY⟩ : ∃ Y, Y = P.drop (64 * j) := ⟨_, rfl⟩
        have HR := Lib.hid hrd; have HM := Lib.hid M
        clear hrd M
        simp only [← hY] at hc4 hle4 hlen HR ⊢
        have HY := Lib.hid hY; have HL := Lib.hid hlen
        clear hlen
        by_cases h64 : 64 ≤ Y.length
        · obtain ⟨b4, o4, rfl⟩ : ∃ b4 o4, a4 = some ⟨b4, o4, none⟩ := by obtain ⟨b4, o4, h, _⟩ := hc4 0 (by omega); exact ⟨_, _, h⟩
          clear hc4 hY
          have hbox := HM.out.hbox
          obtain ⟨sj, hs⟩ : ∃ sj, sj = absorb s P j := ⟨_, rfl⟩
          rw [← hs] at HM hbox
          have HSJ := Lib.hid hs
          clear hs
          go_wp2_with (refine wpList_load_row rfl _ _ rfl w.heap.size rfl 84 sj.cells (0, 0) _ hbox Try.underlying84 rfl (by kernel_rfl) ?_)
          refine (mix_any wr sj (w.heap.size + 1 + 1) _ Y HR.out h64 (by have := HL.out; have := hpl.2; omega) HM.out.kk).mono ?_
          rintro e w5 ⟨rfl, hb5⟩
          have hsn : mixOf sj Y = absorb s P (j + 1) := by rw [absorb_one, ← HSJ.out, ← HY.out]
          have M5 := HM.out.below' hb5
          have hx : EndL w s P (.slice (some ⟨b4, o4 + 64, none⟩) (Y.length - 64) (c4 - 64)) (w5.setRow w.heap.size (mixOf sj Y).cells) ∧ (Y.length = 64 → ∀ ad c, EndL w s P (.slice (some ad) 0 c) (w5.setRow w.heap.size (mixOf sj Y).cells)) := by
            have hM := M5.hash (mixOf sj Y)
            have hgr : Below wr.heap.size wr (w5.setRow w.heap.size (mixOf sj Y).cells) ∨ True := .inr trivial
            clear hgr
            have he : Y.drop 64 = P.drop (64 * (j + 1)) := by rw [HY.out, List.drop_drop]; congr 1
            have hlw := HL.out
            have h5 : RdB w5 (.slice (some ⟨b4, o4, none⟩) Y.length c4) Y := RdV.below HR.out hb5
            have h6 : RdB (w5.setRow w.heap.size (mixOf sj Y).cells) (.slice (some ⟨b4, o4, none⟩) Y.length c4) Y := RdB.keepW h5 M5.hbox
            constructor
            · refine ⟨j + 1, by omega, ?_, by rw [← hsn]; exact hM⟩
              have h7 := RdV.drop h6 64 (by simp; omega)
              rw [← List.map_drop, he] at h7
              exact h7
            · intro h64' ad c
              refine ⟨j + 1, by omega, ?_, by rw [← hsn]; exact hM⟩
              rw [← he, List.drop_of_length_le (by omega)]
              exact RdV.dry
          have HX := Lib.hid hx
          have hbox5 := M5.hbox
          clear hx hsn HSJ M5 HM hb5 hbox
          revert hbox5 HX
          generalize mixOf sj Y = sr
          intro HX hbox5
          as_aux_lemma =>
            by_cases hcap : c4 = 64
            · subst hcap
              have hy64 : Y.length = 64 := by omega
              go_wp2_with (refine wpList_store_row rfl _ _ _ rfl w.heap.size sr.cells rfl rfl 84 sj.cells ?hbx (by kernel_rfl) rfl (St.one sr) ?_)
              case hbx => exact hbox5
              first | exact ⟨HX.out.2 hy64 _ _, by simp [sliceLen]; omega⟩ | (refine ⟨?_, by simp [sliceLen]; omega⟩; (repeat apply Exists.intro); exact ⟨HX.out.2 hy64 _ _, rfl⟩)
            · go_wp2_with (refine wpList_store_row rfl _ _ _ rfl w.heap.size sr.cells rfl rfl 84 sj.cells ?hbx (by kernel_rfl) rfl (St.one sr) ?_)
              case hbx => exact hbox5
              first | exact ⟨HX.out.1, by simp [sliceLen]; omega⟩ | (refine ⟨?_, by simp [sliceLen]; omega⟩; (repeat apply Exists.intro); exact ⟨HX.out.1, rfl⟩)
        · have hjj : j = P.length / 64 := by have := HL.out; have := hpl.1; omega
          have hy0 : Y.length = 0 := by have := HL.out; have := hpl.1; omega
          have hfin : absorb s P j = finOf s rest n := by rw [finOf, ← HPP.out, hjj]
          rw [hfin] at HM
          have HF := HM
          have hbox := HF.out.hbox
          clear hc4 hY HM HR HY HL HPP hjj hfin hj hle4 h64
          obtain ⟨sf, hsf⟩ : ∃ sf, sf = finOf s rest n := ⟨_, rfl⟩
          rw [← hsf] at HF hbox
          have HSF := Lib.hid hsf
          clear hsf
          as_aux_lemma =>
            go_wp2_with (refine wpList_load_row rfl _ _ rfl w.heap.size rfl 84 sf.cells (0, 0) _ hbox Try.underlying84 rfl (by kernel_rfl) ?_)
            clear hbox hy0
            go_loopw [48, 10, 11] (fun i _ _ wr => EndO w sf i wr) (fun i _ _ _ => 8 - (intOf i).toNat)
            case atStart => exact ⟨0, by omega, rfl, by simpa using HF.out⟩
            case round =>
              obtain ⟨k, hk, rfl, M⟩ := hrel
              have HM := Lib.hid M
              clear M
              by_cases hlt : k < 8
              · have hidx := idx8 sf k hlt
                have b0 := rowG_cell HM.out.outb (show 4 * k < 32 by omega)
                have b1 := rowG_cell HM.out.outb (show 4 * k + 1 < 32 by omega)
                have b2 := rowG_cell HM.out.outb (show 4 * k + 2 < 32 by omega)
                have b3 := rowG_cell HM.out.outb (show 4 * k + 3 < 32 by omega)
                have f0 := frozen_of_row wr _ (4 * k) _ _ HM.out.outb
                have f1 := frozen_of_row wr _ (4 * k + 1) _ _ HM.out.outb
                have f2 := frozen_of_row wr _ (4 * k + 2) _ _ HM.out.outb
                have f3 := frozen_of_row wr _ (4 * k + 3) _ _ HM.out.outb
                have s24 : ∀ x : UInt32, Op.shift .shr .u32 (n32 x) .u64 24 = pure (.int .u32 (n32 (x >>> 24))) := fun x => shr_u32 x 24 (by omega) _ _ rfl
                have s16 : ∀ x : UInt32, Op.shift .shr .u32 (n32 x) .u64 16 = pure (.int .u32 (n32 (x >>> 16))) := fun x => shr_u32 x 16 (by omega) _ _ rfl
                have s8 : ∀ x : UInt32, Op.shift .shr .u32 (n32 x) .u64 8 = pure (.int .u32 (n32 (x >>> 8))) := fun x => shr_u32 x 8 (by omega) _ _ rfl
                have hx := HM.out.word hlt
                have HX := Lib.hid hx
                clear hx
                rw [if_neg (by omega)] at b0 b1 b2 b3
                go_wp2
                go_roundw
                case rel => first | exact ⟨k + 1, by omega, by go_num, HX.out⟩ | ((repeat apply Exists.intro); exact ⟨⟨k + 1, by omega, by go_num, HX.out⟩, rfl⟩)
                case measure => simp [intOf]; omega
              · obtain rfl : k = 8 := by omega
                have ho : wr.heap[w.heap.size + 1]? = some (.cells (aB (digest sf)) 33 (0, 0)) := by
                  rw [HM.out.outb, ← rowG_list (digest sf) 32 (digest_len sf), rowG_cut]
                have hbe := HM.out.below
                have HB2 := Lib.hid hbe
                clear hbe HM
                go_wp2_with (first | refine wpList_load_row rfl _ _ rfl (w.heap.size + 1) rfl 33 (aB (digest sf)) (0, 0) _ ho Try.underlying33 rfl (by kernel_rfl) ?_ | refine wpList_store_row rfl _ _ _ rfl (w.heap.size + 1) (aB (digest sf)) rfl rfl 33 _ ho (by kernel_rfl) rfl (aB_one _) ?_)
                refine bodyPost_ret (v := .agg (aB (digest sf))) (results_cell_row rfl _ _ (w.heap.size + 1) 33 (aB (digest sf)) (0, 0) _ rfl (setRow_heap wr _ _ _ _ _ ho) Try.underlying33 rfl (by kernel_rfl)) rfl ⟨by rw [HSF.out], below_setRow HB2.out (by omega) _⟩
end Go.Proofs.Ytlkieepfjhiflaa
