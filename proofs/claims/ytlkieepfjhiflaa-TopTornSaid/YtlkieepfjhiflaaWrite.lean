/- The contract of a hasher's Write: at whatever bytes taken before, and whatever bytes. -/
import Derived.Test.YtlkieepfjhiflaaHash
namespace Go.Proofs.Ytlkieepfjhiflaa
open Go.RowKit

theorem hCells_at (s : St) (a : Option Addr) (x c m k : Nat) (u : Int) : (hCells s (.slice a x c) m)[k]? ≠ some (.int .u8 u) := by
  match k with
  | 0 | 1 | 2 | 3 | 4 | 5 | 6 | 7 | 8 | 9 => simp [hCells]
  | k + 10 => simp [hCells]
theorem RdB.keepH {w w' : World} {v : Value} {l : List UInt8} {b t x c m : Nat} {fr : Nat × Nat} {s : St} {a : Option Addr} (h : RdB w v l) (hb : w.heap[b]? = some (.cells (hCells s (.slice a x c) m) t fr)) (hg : w.grownBy w' (some b)) : RdB w' v l := by
  rcases h with h | ⟨ad, cap, rfl, hle, hc⟩
  · exact .inl h
  · refine .inr ⟨ad, cap, rfl, hle, fun j u hj => ?_⟩
    obtain ⟨b', off, rfl, hcell⟩ := hc j u hj
    refine ⟨b', off, rfl, hg.cell hcell ?_⟩
    intro e
    have e' : b' = b := Option.some.inj e
    subst e'
    rw [cell_of_row w b' _ _ _ _ hb] at hcell
    simp only [List.getElem?_map] at hj
    cases hl : l[j]? with
    | none => rw [hl] at hj; cases hj
    | some y =>
      rw [hl] at hj
      simp only [Option.map_some, Option.some.injEq] at hj
      rw [← hj] at hcell
      exact hCells_at _ _ _ _ _ _ _ hcell
theorem RdV.slice {w : World} {v : Value} {xs : List Value} (h : RdV w v xs) : ∃ a n c, v = .slice a n c := by
  rcases h with ⟨h, _⟩ | ⟨ad, cap, h, _, _⟩
  · exact ⟨_, _, _, h⟩
  · exact ⟨_, _, _, h⟩

def sliceLen : Value → Nat | .slice _ n _ => n | _ => 0

/-- What a slice shows lies from block B on. -/
def RdF (B : Nat) (v : Value) : Prop := ∀ ad n c, v = .slice (some ad) n c → n ≠ 0 → B ≤ ad.block
theorem RdF_of_owns {w : World} {base : Nat} {e : TypeId} {v : Value} {n : Nat} {xs : List Value} (h : w.ownsRow base e 1 v n xs) : RdF base v := by
  intro ad m c hv _
  obtain ⟨_, h⟩ := h
  rcases h with ⟨rfl, _⟩ | ⟨g, cap, cur, rfl, hb, _⟩
  · cases hv
  · cases hv; exact hb
theorem RdF.mono {B B' : Nat} {v : Value} (h : RdF B v) (hB : B' ≤ B) : RdF B' v := fun ad n c e hn => Nat.le_trans hB (h ad n c e hn)
/-- A hasher whose rest lies from block B on. -/
def IsHF (w : World) (B b : Nat) (all : List UInt8) : Prop :=
  ∃ rest, w.heap[b]? = some (.cells (hCells (stOf all) rest all.length) 86 (0, 0)) ∧ RdB w rest (restOf all) ∧ RdF B rest
theorem IsHF.isH {w : World} {B b : Nat} {all : List UInt8} (h : IsHF w B b all) : IsH w b all := by obtain ⟨r, h1, h2, _⟩ := h; exact ⟨r, h1, h2⟩

structure WrAt (w : World) (b kb : Nat) (s : St) (X : List UInt8) (rest : Value) (n : Nat) (j : Nat) (v : Value) (wr : World) : Prop where
  le : 64 * j ≤ X.length
  rd : RdB wr v (X.drop (64 * j))
  blk : wr.heap[b]? = some (.cells (hCells (absorb s X j) rest n) 86 (0, 0))
  kk : wr.heap[kb]? = some (.cells (rowF kOf 64) 115 (0, 0))
  grown : w.grownBy wr (some b)
  fr : RdF w.heap.size v
def WrI (w : World) (b kb : Nat) (s : St) (X : List UInt8) (rest : Value) (n : Nat) (v : Value) (wr : World) : Prop := ∃ j, WrAt w b kb s X rest n j v wr

theorem there_of_row {w : World} {g o n : Nat} {cur : Array Value} {t : TypeId} (h : w.heap[g]? = some (.cells cur t (0, 0))) (hn : o + n ≤ cur.size) : w.there g o n := fun j hj => by
  constructor
  · rw [cell_of_row w g _ _ _ _ h]; simp; omega
  · exact frozen_of_row w g _ _ _ h
theorem RdV.drop {w : World} {b o n c : Nat} {xs : List Value} (h : RdV w (.slice (some ⟨b, o, none⟩) n c) xs) (k : Nat) (hk : k ≤ xs.length) : RdV w (.slice (some ⟨b, o + k, none⟩) (n - k) (c - k)) (xs.drop k) := by
  rcases h with ⟨h, _⟩ | ⟨ad, cap, h, hle, hc⟩
  · cases h
  · cases h
    refine .inr ⟨_, c - k, by rw [List.length_drop], by rw [List.length_drop]; omega, fun j u hj => ?_⟩
    rw [List.getElem?_drop] at hj
    obtain ⟨b', o', e, hcell⟩ := hc _ u hj
    cases e
    exact ⟨b, o + k, rfl, by rw [Nat.add_assoc]; exact hcell⟩
theorem RdV.dry {w : World} {ad : Addr} {c : Nat} : RdV w (.slice (some ad) 0 c) [] := .inr ⟨ad, c, rfl, by simp, fun j u hj => by simp at hj⟩

theorem put_hash (s r : St) (rest : Value) (n : Nat) : putList (hCells s rest n) 0 r.cells.toList = hCells r rest n := by simp [putList, hCells, St.cells]
theorem put_rest (s : St) (rest v : Value) (n : Nat) : (hCells s rest n).setIfInBounds 8 v = hCells s v n := by simp [hCells]
theorem WrAt.below {w b kb s X rest n j v wr w5} (M : WrAt w b kb s X rest n j v wr) (hb : Below wr.heap.size wr w5) : WrAt w b kb s X rest n j v w5 :=
  ⟨M.le, RdV.below M.rd hb, (hb.block b (Array.getElem?_eq_some_iff.1 M.blk).1).trans M.blk, (hb.block kb (Array.getElem?_eq_some_iff.1 M.kk).1).trans M.kk, grownBy_trans M.grown (grownBy_below hb _), M.fr⟩
/-- The hash stored, the slice cut. -/
theorem WrAt.next {w wr : World} {b kb : Nat} {s : St} {X : List UInt8} {ra : Option Addr} {rn rc n j b4 o4 c4 : Nat} (M : WrAt w b kb s X (.slice ra rn rc) n j (.slice (some ⟨b4, o4, none⟩) (X.drop (64 * j)).length c4) wr) (h : 64 * j + 64 ≤ X.length) (hne : kb ≠ b) :
    ((X.drop (64 * j)).length = 64 → ∀ ad c, WrAt w b kb s X (.slice ra rn rc) n (j + 1) (.slice (some ad) 0 c) (wr.setCells b 0 (absorb s X (j + 1)).cells.toList)) ∧
    WrAt w b kb s X (.slice ra rn rc) n (j + 1) (.slice (some ⟨b4, o4 + 64, none⟩) ((X.drop (64 * j)).length - 64) (c4 - 64)) (wr.setCells b 0 (absorb s X (j + 1)).cells.toList) := by
  have hg := grownBy_setCells b (absorb s X (j + 1)).cells.toList 0 wr
  have hl : (X.drop (64 * j)).length = X.length - 64 * j := List.length_drop
  have he : (X.drop (64 * j)).drop 64 = X.drop (64 * (j + 1)) := by rw [List.drop_drop]; congr 1
  have key : ∀ v, RdB wr v (X.drop (64 * (j + 1))) → RdF w.heap.size v → WrAt w b kb s X (.slice ra rn rc) n (j + 1) v (wr.setCells b 0 (absorb s X (j + 1)).cells.toList) := by
    intro v hv hf
    refine ⟨by omega, RdB.keepH hv M.blk hg, ?_, ?_, grownBy_trans M.grown hg, hf⟩
    · rw [heap_setCells_same b _ _ 0 wr _ M.blk, put_hash]
    · exact (heap_setCells_other b kb hne _ 0 wr).trans M.kk
  constructor
  · intro h64 ad c
    have : X.drop (64 * (j + 1)) = [] := by rw [← he]; exact List.drop_of_length_le (by omega)
    exact key _ (by rw [this]; exact RdV.dry) (fun ad n c e hn => by cases e; exact absurd rfl hn)
  · refine key _ ?_ (fun ad n c e hn => by cases e; exact M.fr ⟨b4, o4, none⟩ _ _ rfl (by omega))
    have := RdV.drop M.rd 64 (by simp; omega)
    rw [← List.map_drop, he] at this
    exact this

set_option maxRecDepth 100000 in
set_option maxHeartbeats 1000000 in
theorem write_from (w : World) (b : Nat) (v : Value) (all more : List UInt8) (hh : IsH w b all) (hv : RdB w v more) (hl : all.length + more.length ≤ 140737488355200) :
    Calls Try.prog 17 #[.pointer (some ⟨b, 0, none⟩), v] w fun e w' => e = .returned (.tuple #[]) ∧ IsHF w' w.heap.size b (all ++ more) ∧ w.grownBy w' (some b) := by
  obtain ⟨rest, hb, hrest⟩ := hh
  obtain ⟨ra, rn, rc, rfl⟩ := RdV.slice hrest
  obtain ⟨va, vc, rfl, _⟩ := hv.open
  have hlt := (Array.getElem?_eq_some_iff.1 hb).1
  have C := fun k => cell_of_row w b k _ _ _ hb
  have c9 : w.cell? ⟨b, 9, none⟩ = some (.int .i64 all.length) := C 9
  have f9 := frozen_of_row w b 9 _ _ hb
  have c8 : w.cell? ⟨b, 8, none⟩ = some (.slice ra rn rc) := C 8
  obtain ⟨i0, hi, hz0, hz1, hz2⟩ := info_parts info_u8
  have HB := Lib.hid hb; have HR := Lib.hid hrest; have HV := Lib.hid hv
  clear C hb hrest hv
  go_enter Try.func17, Try.ntmps17
  go_wp2_with fail
  rw [show (all.length : Int) + more.length = ((all ++ more).length : Nat) by simp]
  have hg0 : w.grownBy (w.setCell ⟨b, 9, none⟩ (.int .i64 ((all ++ more).length : Nat))) (some b) := grownBy_setCell _ _ _ _
  have hb0 : (w.setCell ⟨b, 9, none⟩ (.int .i64 ((all ++ more).length : Nat))).heap[b]? = some (.cells (hCells (stOf all) (.slice ra rn rc) (all ++ more).length) 86 (0, 0)) := heap_setCell_same _ _ _ _ _ _ HB.out
  have hr0 := HR.out.keepH HB.out hg0
  have hv0 := HV.out.keepH HB.out hg0
  have hs0 : (w.setCell ⟨b, 9, none⟩ (.int .i64 ((all ++ more).length : Nat))).heap.size = w.heap.size := by simp [World.setCell]
  have G0 := Lib.hid hg0; have B0 := Lib.hid hb0; have V0 := Lib.hid hv0; have S0 := Lib.hid hs0
  clear hg0 hb0 hv0 hs0 HB HR HV c9 f9 c8
  revert G0 B0 V0 S0 hr0
  generalize w.setCell ⟨b, 9, none⟩ (.int .i64 ((all ++ more).length : Nat)) = wa
  intro hr0 G0 B0 V0 S0
  refine (clone_any wa _ (restOf all) hr0 (by rw [restOf_len]; omega)).mono ?_
  rintro e w1 ⟨r, rfl, hown, hb1⟩
  have hlta : b < wa.heap.size := by rw [S0.out]; exact hlt
  have B1 : Hid (w1.heap[b]? = _) := (hb1.block b hlta).trans B0.out
  have V1 : Hid (RdB w1 _ more) := RdV.below V0.out hb1
  have G1 : Hid (w.grownBy w1 (some b)) := grownBy_trans G0.out (grownBy_below hb1 _)
  have hsz1 : wa.heap.size ≤ w1.heap.size := hb1.size
  have O1 := Lib.hid hown
  have hrest := hr0
  clear hown hb1 hr0 B0 V0 G0
  go_wp2_with (refine wpList_app rfl _ _ 22 rfl wa.heap.size 5 i0 (.int .u8 0) 1 Try.underlying22 hi hz0 hz1 hz2 rfl r _ _ rfl O1.out _ (more.map vB) rfl V1.out ?c1 ?c2 (by omega) hsz1 ?_)
  case c1 => exact vB_one more
  case c2 => have := restOf_len all; simp; omega
  try simp only [List.length_map]
  rw [← List.map_append]
  intro v2 w2 hown hgr
  have hob := World.ownsRow.lt O1.out
  have hb2 : w2.heap[b]? = some (.cells (hCells (stOf all) (.slice ra rn rc) (all ++ more).length) 86 (0, 0)) :=
    (hgr.block b (by omega) (fun e => by have := (hob b e.symm).1; omega)).trans B1.out
  have hg2 : w.grownBy w2 (some b) := by
    have h1 : w.heap.size ≤ w1.heap.size := G1.out.size
    refine ⟨hgr.os.trans G1.out.os, hgr.tape.trans G1.out.tape, hgr.output.trans G1.out.output, Nat.le_trans h1 hgr.size, fun k hk hne => ?_⟩
    refine (hgr.block k (by omega) (fun e => ?_)).trans (G1.out.block k hk hne)
    have := (hob k e.symm).1
    rw [S0.out] at this
    omega
  have hrd2 := RdV_of_owns hown
  have HF2 : Hid (RdF w.heap.size v2) := by rw [← S0.out]; exact RdF_of_owns hown
  have hX : RdB w2 v2 (restOf all ++ more) := hrd2
  have hsz2 : w1.heap.size ≤ w2.heap.size := hgr.size
  have hXl : (restOf all ++ more).length ≤ 140737488355328 := by have := restOf_len all; simp; omega
  have HX := Lib.hid hX; have G2 := Lib.hid hg2; have B2 := Lib.hid hb2
  clear hown hgr hob hb2 hg2 hrd2 hX B1 V1 G1 O1 hrest
  go_wp2_with fail
  refine (rounds_any _).mono ?_
  rintro e w3 ⟨rfl, rfl⟩
  have hst : WrAt w b w2.heap.size (stOf all) (restOf all ++ more) (.slice ra rn rc) (all ++ more).length 0 v2 (w2.alloc (.cells (rowF kOf 64) 115)) := by
    have hal : Below w2.heap.size w2 (w2.alloc (.cells (rowF kOf 64) 115)) := (Below.refl _ _).alloc (Nat.le_refl _) _
    refine ⟨by omega, by rw [Nat.mul_zero, List.drop_zero]; exact RdV.below HX.out hal, ?_, heap_alloc_new _ _, grownBy_trans G2.out (grownBy_below hal _), HF2.out⟩
    rw [hal.block b (by omega)]; exact B2.out
  have HS := Lib.hid hst
  clear hst HX G2 B2
  revert HS
  generalize w2.alloc (.cells (rowF kOf 64) 115) = w3
  intro HS
  have hnb : w2.heap.size ≠ b := by omega
  generalize w2.heap.size = kb at *
  obtain ⟨X, hX⟩ : ∃ X, X = restOf all ++ more := ⟨_, rfl⟩
  rw [← hX] at HS hXl
  have hsl : v2 = .slice (some ⟨0, 0, none⟩) 0 0 ∨ True := .inr trivial
  clear hsl
  obtain ⟨va2, n2, vc2, rfl⟩ := RdV.slice HS.out.rd
  go_wp2
  go_loopw [4] (fun v wr => WrI w b kb (stOf all) X (.slice ra rn rc) (all ++ more).length v wr) (fun v _ => sliceLen v)
  case atStart => exact ⟨0, HS.out⟩
  case round =>
    obtain ⟨j, M⟩ := hrel
    obtain ⟨a4, c4, rfl, hc4⟩ := M.rd.open
    have hle4 := (RdV.le M.rd).2
    have hlen : (X.drop (64 * j)).length = X.length - 64 * j := List.length_drop
    obtain ⟨Y, hY⟩ : ∃ Y, Y = X.drop (64 * j) := ⟨_, rfl⟩
    have HM := Lib.hid M
    clear M
    simp only [← hY] at hc4 hle4 hlen ⊢
    have HY := Lib.hid hY; have HL := Lib.hid hlen
    clear hlen
    by_cases h64 : 64 ≤ Y.length
    · obtain ⟨b4, o4, rfl⟩ : ∃ b4 o4, a4 = some ⟨b4, o4, none⟩ := by obtain ⟨b4, o4, h, _⟩ := hc4 0 (by omega); exact ⟨_, _, h⟩
      have C := fun k => cell_of_row wr b k _ _ _ HM.out.blk
      have FR := fun k => frozen_of_row wr b k _ _ HM.out.blk
      obtain ⟨sj, hs⟩ : ∃ sj, sj = absorb (stOf all) X j := ⟨_, rfl⟩
      simp only [← hs] at C
      have k0 : wr.cell? ⟨b, 0, none⟩ = some (.int .u32 (n32 sj.a)) := (C 0).trans rfl
      have k1 : wr.cell? ⟨b, 1, none⟩ = some (.int .u32 (n32 sj.b)) := (C 1).trans rfl
      have k2 : wr.cell? ⟨b, 2, none⟩ = some (.int .u32 (n32 sj.c)) := (C 2).trans rfl
      have k3 : wr.cell? ⟨b, 3, none⟩ = some (.int .u32 (n32 sj.d)) := (C 3).trans rfl
      have k4 : wr.cell? ⟨b, 4, none⟩ = some (.int .u32 (n32 sj.e)) := (C 4).trans rfl
      have k5 : wr.cell? ⟨b, 5, none⟩ = some (.int .u32 (n32 sj.f)) := (C 5).trans rfl
      have k6 : wr.cell? ⟨b, 6, none⟩ = some (.int .u32 (n32 sj.g)) := (C 6).trans rfl
      have k7 : wr.cell? ⟨b, 7, none⟩ = some (.int .u32 (n32 sj.h)) := (C 7).trans rfl
      have HSJ := Lib.hid hs
      clear C FR hc4 hs hY
      go_wp2_with fail
      refine (mix_any wr sj kb _ Y (by rw [HY.out]; exact HM.out.rd) h64 (by have := HL.out; omega) HM.out.kk).mono ?_
      rintro e w5 ⟨rfl, hb5⟩
      have hm5 : WrAt w b kb (stOf all) X (.slice ra rn rc) (all ++ more).length j (.slice (some ⟨b4, o4, none⟩) (List.drop (64 * j) X).length c4) w5 := HM.out.below hb5
      have hsn : mixOf sj Y = absorb (stOf all) X (j + 1) := by rw [absorb_one, ← HSJ.out, ← HY.out]
      have hth := there_of_row (o := 0) (n := (mixOf sj Y).cells.size) hm5.blk (by show 0 + 8 ≤ 10; omega)
      have hx := hm5.next (by have := HL.out; omega) hnb
      rw [← hsn, ← HY.out] at hx
      have HX := Lib.hid hx
      clear hsn hx
      revert hth HX
      generalize mixOf sj Y = sr
      intro hth HX
      clear HSJ HM hb5 k0 k1 k2 k3 k4 k5 k6 k7 hm5
      as_aux_lemma =>
        by_cases hcap : c4 = 64
        · subst hcap
          have hy64 : Y.length = 64 := by omega
          go_wp2_with (refine wpList_store_mid rfl _ _ _ rfl b 0 sr.cells rfl rfl ?hth (by kernel_rfl) (St.one _) ?_)
          case hth => exact hth
          exact ⟨⟨j + 1, HX.out.1 hy64 _ _⟩, by simp [sliceLen]; omega⟩
        · go_wp2_with (refine wpList_store_mid rfl _ _ _ rfl b 0 sr.cells rfl rfl ?hth (by kernel_rfl) (St.one _) ?_)
          case hth => exact hth
          exact ⟨⟨j + 1, HX.out.2⟩, by simp [sliceLen]; omega⟩
    · have hj : j = X.length / 64 := by have := HL.out; have := HM.out.le; omega
      have k8 : wr.cell? ⟨b, 8, none⟩ = some (.slice ra rn rc) := (cell_of_row wr b 8 _ _ _ HM.out.blk).trans rfl
      have f8 := frozen_of_row wr b 8 _ _ HM.out.blk
      have hblk : (wr.setCell ⟨b, 8, none⟩ (.slice a4 Y.length c4)).heap[b]? = some (.cells (hCells (stOf (all ++ more)) (.slice a4 Y.length c4) (all ++ more).length) 86 (0, 0)) := by
        rw [heap_setCell_same _ _ _ _ _ _ HM.out.blk, ← write_st all more j (by rw [← hX]; exact hj), hX, put_rest]
      have hrd : RdB (wr.setCell ⟨b, 8, none⟩ (.slice a4 Y.length c4)) (.slice a4 Y.length c4) (restOf (all ++ more)) := by
        rw [← write_rest all more j (by rw [← hX]; exact hj), ← hX]
        have h1 := HM.out.rd
        rw [← HY.out] at h1
        rw [← HY.out]
        exact RdB.keepH h1 HM.out.blk (grownBy_setCell _ _ _ _)
      have hgr : w.grownBy (wr.setCell ⟨b, 8, none⟩ (.slice a4 Y.length c4)) (some b) := grownBy_trans HM.out.grown (grownBy_setCell _ _ _ _)
      have hfr := HM.out.fr
      rw [← HY.out] at hfr
      have HFR := Lib.hid hfr
      clear hfr
      have HF := Lib.hid hblk; have HF2 := Lib.hid hrd; have HF3 := Lib.hid hgr
      clear hblk hrd hgr HM hc4 hY hj hX HS
      go_wp2
      go_end0
      exact ⟨rfl, ⟨_, HF.out, HF2.out, HFR.out⟩, HF3.out⟩

theorem write_any (w : World) (b : Nat) (v : Value) (all more : List UInt8) (hh : IsH w b all) (hv : RdB w v more) (hl : all.length + more.length ≤ 140737488355200) :
    Calls Try.prog 17 #[.pointer (some ⟨b, 0, none⟩), v] w fun e w' => e = .returned (.tuple #[]) ∧ IsH w' b (all ++ more) ∧ w.grownBy w' (some b) :=
  (write_from w b v all more hh hv hl).mono fun _ _ h => ⟨h.1, h.2.1.isH, h.2.2⟩
end Go.Proofs.Ytlkieepfjhiflaa
