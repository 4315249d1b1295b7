/- The contract of the reference's Decode, at whatever bytes. -/
import Derived.Test.YtkpcmgacjhjllaaDoorDecode
import Derived.Test.YtkpcmgacjhjllaaDoorWordAt
namespace Go.Proofs.YtkpcmgacjhjllaaDoor
open Go.RowKit

theorem decR_one {R : List UInt8} (h : decW R = none) : decR R = none := by unfold decR; rw [h]
theorem decR_two {R o r : List UInt8} (h : decW R = some (o, r)) (hw : isWord o = false) : decR R = none := by
  unfold decR; rw [h]
  simp only
  split
  · rfl
  · split
    · rfl
    · rw [if_neg]
      unfold rightOf; rw [hw]; simp
theorem decR_three {R o r : List UInt8} (h : decW R = some (o, r)) (h2 : decW r = none) : decR R = none := by
  unfold decR; rw [h]; simp only [h2]
theorem decR_four {R o r a q : List UInt8} (h : decW R = some (o, r)) (h2 : decW r = some (a, q)) (hw : isWord a = false) : decR R = none := by
  unfold decR; rw [h]; simp only [h2]
  split
  · rfl
  · rw [if_neg]
    unfold rightOf; rw [hw]; simp
theorem decR_five {R o r a q : List UInt8} (h : decW R = some (o, r)) (h2 : decW r = some (a, q)) (hw : isWord o = true) (hw2 : isWord a = true) :
    decR R = match q with | [] => none | n :: r3 => if r3.length = 32 * n.toNat ∧ n.toNat ≤ 8 then some (o, a, chunks n.toNat r3) else none := by
  unfold decR; rw [h]; simp only [h2]
  cases q with
  | nil => rfl
  | cons n r3 =>
    simp only [decT]
    by_cases hl : r3.length = 32 * n.toNat
    · rw [if_pos hl]
      simp only [chunks_len]
      have hro : rightOf o a n.toNat = if n.toNat ≤ 8 then 0 else 6 := by unfold rightOf; rw [hw, hw2]; rfl
      rw [hro]
      by_cases h8 : n.toNat ≤ 8
      · rw [if_pos h8, if_pos rfl, if_pos ⟨hl, h8⟩]
      · rw [if_neg h8, if_neg (by omega), if_neg (fun hx => h8 hx.2)]
    · rw [if_neg hl, if_neg (fun hx => hl hx.1)]

theorem decR_end {R o r a : List UInt8} (h : decW R = some (o, r)) (h2 : decW r = some (a, [])) (hw : isWord o = true) (hw2 : isWord a = true) : decR R = none := (decR_five h h2 hw hw2).trans rfl
theorem decR_more {R o r a r3 : List UInt8} {n : UInt8} (h : decW R = some (o, r)) (h2 : decW r = some (a, n :: r3)) (hw : isWord o = true) (hw2 : isWord a = true) :
    decR R = if r3.length = 32 * n.toNat ∧ n.toNat ≤ 8 then some (o, a, chunks n.toNat r3) else none := (decR_five h h2 hw hw2).trans rfl
theorem sign_short {l : List UInt8} (h : l.length < 3) : signB.isPrefixOf l = false := by
  match l, h with
  | [], _ => rfl
  | [x], _ => simp [signB, List.isPrefixOf]
  | [x, y], _ => simp [signB, List.isPrefixOf]
  | x :: y :: z :: r, h => simp only [List.length_cons] at h; omega
theorem sign_three {l : List UInt8} {x y z : UInt8} {r : List UInt8} (hl : l = x :: y :: z :: r) : signB.isPrefixOf l = (x == 68 && y == 77 && z == 1) := by
  subst hl
  simp only [signB, List.isPrefixOf, Bool.and_true]
  rw [Bool.eq_iff_iff]
  simp only [Bool.and_eq_true, beq_iff_eq]
  constructor
  · rintro ⟨h1, h2, h3⟩; exact ⟨⟨h1.symm, h2.symm⟩, h3.symm⟩
  · rintro ⟨⟨h1, h2⟩, h3⟩; exact ⟨h1.symm, h2.symm, h3.symm⟩
/-- What the first three bytes say. -/
theorem sign_at {l : List UInt8} (h : 3 ≤ l.length) : ∃ x y z, l[0]? = some x ∧ l[1]? = some y ∧ l[2]? = some z ∧ (x ≠ 68 → decOf l = none) ∧ (y ≠ 77 → decOf l = none) ∧ (z ≠ 1 → decOf l = none) ∧ (x = 68 → y = 77 → z = 1 → decOf l = decR (l.drop 3)) := by
  match l, h with
  | [], h => simp at h
  | [_], h => simp at h
  | [_, _], h => simp at h
  | x :: y :: z :: r, _ =>
    have e := sign_three (l := x :: y :: z :: r) rfl
    refine ⟨x, y, z, rfl, rfl, rfl, fun hx => decOf_none_of ?_, fun hx => decOf_none_of ?_, fun hx => decOf_none_of ?_, fun h1 h2 h3 => ?_⟩
    · rw [e, beq_eq_false_iff_ne.2 hx]; rfl
    · rw [e, beq_eq_false_iff_ne.2 hx]; simp
    · rw [e, beq_eq_false_iff_ne.2 hx]; simp
    · unfold decOf; rw [e, h1, h2, h3]; rfl
theorem n8_ne (x c : UInt8) (h : x ≠ c) : (n8 x != n8 c) = true := by rw [n8_bne]; simpa using h

/-- The reference's decoding under way: the result's box, the manifest's. -/
structure RefW (w wr : World) (o a : ByteArray) (lv : Value) : Prop where
  below : Below w.heap.size w wr
  box : wr.heap[w.heap.size]? = some (.cells #[.string ⟨#[]⟩, .string ⟨#[]⟩, .slice none 0 0] 24 (0, 0))
  man : wr.heap[w.heap.size + 1]? = some (.cells #[.string o, .string a, lv] 24 (0, 0))
theorem RefW.lt {w wr : World} {o a : ByteArray} {lv : Value} (M : RefW w wr o a lv) : w.heap.size + 1 < wr.heap.size := (Array.getElem?_eq_some_iff.1 M.man).1
theorem RefW.keep {w wr w' : World} {o a : ByteArray} {lv : Value} (M : RefW w wr o a lv) (hb : Below wr.heap.size wr w') : RefW w w' o a lv :=
  ⟨M.below.trans (hb.mono (by have := M.lt; omega)), (hb.block _ (by have := M.lt; omega)).trans M.box, (hb.block _ M.lt).trans M.man⟩
theorem ref_start {w w1 : World} (hb : Below w.heap.size w w1) (hx : w1.heap[w.heap.size]? = some (.cells #[.string ⟨#[]⟩, .string ⟨#[]⟩, .slice none 0 0] 24 (0, 0))) (hs : w1.heap.size = w.heap.size + 1) (o a : ByteArray) :
    RefW w (w1.alloc (.cells #[.string o, .string a, .slice none 0 0] 24)) o a (.slice none 0 0) := by
  have h1 := heap_alloc_new w1 (.cells #[.string o, .string a, .slice none 0 0] 24)
  refine ⟨hb.alloc (by omega) _, ?_, ?_⟩
  · rw [heap_alloc_old _ _ (by omega)]; exact hx
  · rw [hs] at h1; exact h1
theorem OwnH.setRow {w : World} {B : Nat} {v : Value} {hs : List (List UInt8)} (h : OwnH w B v hs) {b : Nat} (hb : b < B) (cs : Array Value) : OwnH (w.setRow b cs) B v hs := by
  have hg : w.grownBy (w.setRow b cs) (some b) := ⟨rfl, rfl, rfl, by simp [World.setRow], fun k _ hne => setRow_other w b k cs (fun e => hne (by rw [e]))⟩
  exact ⟨World.ownsRow.kept h.1 hg (.inr (fun e => by have := (World.ownsRow.lt h.1 _ e).1; omega)), h.2⟩
theorem ref_step {w W w1 : World} {lv v' : Value} {o a : ByteArray} {hs : List (List UInt8)} {j : Nat} {T : List UInt8} (M : RefW w W o a lv)
    (O : W.ownsRow (w.heap.size + 2) 33 32 lv j ((hs.take j).flatten.map vB)) (hT : hs[j]? = some T) (h32 : ∀ y ∈ hs, y.length = 32) (hj : j < 255)
    (q1 : w1.ownsRow (w.heap.size + 2) 33 32 v' (j + 1) ((hs.take j).flatten.map vB ++ T.map vB)) (q2 : W.grownBy w1 lv.ownBlock) :
    RefW w (w1.setCell ⟨w.heap.size + 1, 2, none⟩ v') o a v' ∧ OwnH (w1.setCell ⟨w.heap.size + 1, 2, none⟩ v') (w.heap.size + 2) v' (hs.take (j + 1)) := by
  have hlt := M.lt
  have hown := fun k (hk : lv.ownBlock = some k) => (World.ownsRow.lt O k hk).1
  have hb : Below w.heap.size w w1 := M.below.trans (below_grown q2 (by omega) (fun k hk => by have := hown k hk; omega))
  have hbx : w1.heap[w.heap.size]? = some (.cells #[.string ⟨#[]⟩, .string ⟨#[]⟩, .slice none 0 0] 24 (0, 0)) := (q2.block _ (by omega) (fun e => by have := hown _ e.symm; omega)).trans M.box
  have hwd : w1.heap[w.heap.size + 1]? = some (.cells #[.string o, .string a, lv] 24 (0, 0)) := (q2.block _ hlt (fun e => by have := hown _ e.symm; omega)).trans M.man
  have hjl : j < hs.length := (List.getElem?_eq_some_iff.1 hT).1
  have hTe : hs[j] = T := (List.getElem?_eq_some_iff.1 hT).2
  have htk : hs.take (j + 1) = hs.take j ++ [T] := by rw [List.take_succ_eq_append_getElem hjl, hTe]
  refine ⟨⟨hb.setCell (by show w.heap.size ≤ w.heap.size + 1; omega) _, ?_, ?_⟩, ⟨?_, fun y hy => h32 y (List.mem_of_mem_take hy), by rw [List.length_take]; omega⟩⟩
  · rw [heap_setCell_other _ _ _ _ (by show w.heap.size ≠ w.heap.size + 1; omega)]; exact hbx
  · rw [heap_setCell_same _ _ _ _ _ _ hwd]; rfl
  · have hl : (hs.take (j + 1)).length = j + 1 := by rw [List.length_take]; omega
    rw [hl, htk, List.flatten_append, List.map_append]
    have e : [T].flatten = T := by simp
    rw [e]
    exact World.ownsRow.kept q1 (grown_setCell _ _ _ _) (.inr (fun e => by have := (World.ownsRow.lt q1 _ e).1; omega))
def RefI (w : World) (p n : Nat) (o a : ByteArray) (hs : List (List UInt8)) (k : Value) (wr : World) : Prop :=
  ∃ (j q : Nat) (lv : Value), j ≤ n ∧ k = .int .i64 q ∧ q = p + 1 + 32 * j ∧ RefW w wr o a lv ∧ OwnH wr (w.heap.size + 2) lv (hs.take j)
/-- A hash's box, filled so far. -/
def fillB (T : List UInt8) (k : Nat) : List UInt8 := T.take k ++ List.replicate (32 - k) 0
theorem fillB_zero (T : List UInt8) : fillB T 0 = List.replicate 32 0 := by simp [fillB]
theorem fillB_end (T : List UInt8) (h : T.length = 32) : fillB T 32 = T := by simp [fillB, List.take_of_length_le, h]
theorem fillB_len (T : List UInt8) (h : T.length = 32) (k : Nat) (hk : k ≤ 32) : (fillB T k).length = 32 := by simp [fillB, h]; omega
theorem fillB_set (T : List UInt8) (h : T.length = 32) (k : Nat) (hk : k < 32) (x : UInt8) (hx : T[k]? = some x) : ((fillB T k).map vB).toArray.setIfInBounds k (vB x) = ((fillB T (k + 1)).map vB).toArray := by
  obtain ⟨hkl, hxe⟩ := List.getElem?_eq_some_iff.1 hx
  apply Array.ext'
  simp only [Array.toList_setIfInBounds, List.toList_toArray]
  rw [← List.map_set]
  congr 1
  unfold fillB
  have e1 : (T.take k).length = k := by rw [List.length_take]; omega
  rw [List.set_append_right _ _ (by omega), e1, Nat.sub_self, show 32 - k = (32 - (k + 1)) + 1 by omega, List.replicate_succ, List.set_cons_zero, List.take_succ_eq_append_getElem hkl, hxe]
  simp [-List.take_append_getElem]
/-- The box under way. -/
def FillW (wr wi : World) (T : List UInt8) (k : Nat) : Prop := Below wr.heap.size wr wi ∧ wi.heap[wr.heap.size]? = some (.cells ((fillB T k).map vB).toArray 33 (0, 0))
theorem fill_start (wr : World) (T : List UInt8) : FillW wr (wr.alloc (.cells ((List.replicate 32 0).map vB).toArray 33)) T 0 :=
  ⟨(Below.refl _ _).alloc (Nat.le_refl _) _, by rw [fillB_zero]; exact heap_alloc_new wr _⟩
theorem FillW.next {wr wi : World} {T : List UInt8} {k : Nat} (F : FillW wr wi T k) (h : T.length = 32) (hk : k < 32) (x : UInt8) (hx : T[k]? = some x) : FillW wr (wi.setCell ⟨wr.heap.size, k, none⟩ (.int .u8 (n8 x))) T (k + 1) :=
  ⟨F.1.setCell (Nat.le_refl _) _, by rw [heap_setCell_same _ _ _ _ _ _ F.2, ← fillB_set T h k hk x hx]; rfl⟩
theorem FillW.lt {wr wi : World} {T : List UInt8} {k : Nat} (F : FillW wr wi T k) : wr.heap.size < wi.heap.size := (Array.getElem?_eq_some_iff.1 F.2).1

set_option maxRecDepth 100000 in
set_option maxHeartbeats 4000000 in
theorem decref_any (w : World) (v : Value) (l : List UInt8) (hv : RdB w v l) (hl : l.length ≤ 140737488355328) :
    Calls Tryd.prog 16 #[v] w fun e w' => Below w.heap.size w w' ∧
      ((decOf l = none ∧ e = .returned (.tuple #[mV ⟨#[]⟩ ⟨#[]⟩ (.slice none 0 0), .int .i64 3])) ∨
       ∃ o a hs lv, decOf l = some (o, a, hs) ∧ e = .returned (.tuple #[mV ⟨o.toArray⟩ ⟨a.toArray⟩ lv, .int .i64 0]) ∧ OwnH w' (w.heap.size + 2) lv hs) := by
  have hbl : Below w.heap.size w (w.alloc (.cells #[.string ⟨#[]⟩, .string ⟨#[]⟩, .slice none 0 0] 24)) := (Below.refl _ _).alloc (Nat.le_refl _) _
  have BL := Lib.hid hbl
  have BX := Lib.hid (heap_alloc_new w (.cells #[.string ⟨#[]⟩, .string ⟨#[]⟩, .slice none 0 0] 24))
  have BS : Hid ((w.alloc (.cells #[.string ⟨#[]⟩, .string ⟨#[]⟩, .slice none 0 0] 24)).heap.size = w.heap.size + 1) := by show _ = _; simp
  have HV := Lib.hid (RdV.below hv hbl)
  have HV0 := Lib.hid hv
  obtain ⟨a0, c, rfl, _⟩ := hv.open
  clear hbl hv
  by_cases h3 : l.length < 3
  · have h3z : (l.length : Int) < 3 := by omega
    have HB : Hid (decOf l = none) := decOf_none_of (sign_short h3)
    clear h3 HV HV0 BS
    go_enter Tryd.func16, Tryd.ntmps16
    go_wp2_with (refine wpList_store_row rfl _ _ _ rfl w.heap.size #[.string ⟨#[]⟩, .string ⟨#[]⟩, .slice none 0 0] rfl rfl 24 #[.string ⟨#[]⟩, .string ⟨#[]⟩, .slice none 0 0] BX.out (by kernel_rfl) rfl (by kernel_rfl) ?_)
    exact bodyPost_ret (results_man_tmp rfl _ _ w.heap.size [.string ⟨#[]⟩, .string ⟨#[]⟩, .slice none 0 0] (.int .i64 3) rfl (setRow_heap _ _ _ _ _ _ BX.out) rfl rfl) rfl ⟨below_setRow BL.out (Nat.le_refl _) _, .inl ⟨HB.out, rfl⟩⟩
  · have h3z : ¬ (l.length : Int) < 3 := by omega
    obtain ⟨g, off, rfl, hlc, hcell⟩ := rd_at HV.out (by omega)
    have hcellw : ∀ i x, l[i]? = some x → w.cell? ⟨g, off + i, none⟩ = some (.int .u8 (n8 x)) := fun i x hi => by
      obtain ⟨g', off', e, _, hc⟩ := rd_at HV0.out (by omega)
      cases e
      obtain ⟨hil, hxe⟩ := List.getElem?_eq_some_iff.1 hi
      rw [hc i hil, hxe]
    have HC := Lib.hid hcellw
    obtain ⟨x, y, z, hx, hy, hz, nx, ny, nz, hR⟩ := sign_at (l := l) (by omega)
    have c0 := (BL.out.cell (p := ⟨g, off, none⟩) (block_lt_of_cell (hcellw 0 x hx))).trans (hcellw 0 x hx)
    have c1 := (BL.out.cell (p := ⟨g, off + 1, none⟩) (block_lt_of_cell (hcellw 1 y hy))).trans (hcellw 1 y hy)
    have c2 := (BL.out.cell (p := ⟨g, off + 2, none⟩) (block_lt_of_cell (hcellw 2 z hz))).trans (hcellw 2 z hz)
    clear hcellw hcell hx hy hz
    by_cases hx : x = 68
    · subst hx
      have e0 : n8 68 = 68 := rfl
      rw [e0] at c0
      by_cases hy : y = 77
      · subst hy
        have e1 : n8 77 = 77 := rfl
        rw [e1] at c1
        by_cases hz : z = 1
        · subst hz
          have e2 : n8 1 = 1 := rfl
          rw [e2] at c2
          have HR := Lib.hid (hR rfl rfl rfl)
          clear nx ny nz hR e0 e1 e2
          go_enter Tryd.func16, Tryd.ntmps16
          go_wp2_with fail
          revert BL BX BS HV c0 c1 c2
          generalize w.alloc (.cells #[.string ⟨#[]⟩, .string ⟨#[]⟩, .slice none 0 0] 24) = w1
          intro BL BX BS HV c0 c1 c2
          clear c0 c1 c2
          refine (wordAt_any w1 _ l HV.out hl 3 (by omega)).mono ?_
          rintro e w' ⟨rfl, hw⟩
          rcases hw with ⟨hd1, rfl⟩ | ⟨o, r1, hd1, ho1, rfl, rfl⟩
          · have HB := Lib.hid (HR.out.trans (decR_one hd1))
            clear HR HC HV HV0 BS hd1
            go_wp2_with (refine wpList_store_row rfl _ _ _ rfl w.heap.size #[.string ⟨#[]⟩, .string ⟨#[]⟩, .slice none 0 0] rfl rfl 24 #[.string ⟨#[]⟩, .string ⟨#[]⟩, .slice none 0 0] BX.out (by kernel_rfl) rfl (by kernel_rfl) ?_)
            exact bodyPost_ret (results_man_tmp rfl _ _ w.heap.size [.string ⟨#[]⟩, .string ⟨#[]⟩, .slice none 0 0] (.int .i64 3) rfl (setRow_heap _ _ _ _ _ _ BX.out) rfl rfl) rfl ⟨below_setRow BL.out (Nat.le_refl _) _, .inl ⟨HB.out, rfl⟩⟩
          · cases hwo : isWord o with
            | false =>
              have HB := Lib.hid (HR.out.trans (decR_two hd1 hwo))
              clear HR HC HV HV0 BS hd1 hwo
              go_wp2_with (refine wpList_store_row rfl _ _ _ rfl w.heap.size #[.string ⟨#[]⟩, .string ⟨#[]⟩, .slice none 0 0] rfl rfl 24 #[.string ⟨#[]⟩, .string ⟨#[]⟩, .slice none 0 0] BX.out (by kernel_rfl) rfl (by kernel_rfl) ?_)
              exact bodyPost_ret (results_man_tmp rfl _ _ w.heap.size [.string ⟨#[]⟩, .string ⟨#[]⟩, .slice none 0 0] (.int .i64 3) rfl (setRow_heap _ _ _ _ _ _ BX.out) rfl rfl) rfl ⟨below_setRow BL.out (Nat.le_refl _) _, .inl ⟨HB.out, rfl⟩⟩
            | true =>
              have HD1 := Lib.hid hd1; have HWO := Lib.hid hwo
              clear hd1 hwo
              obtain ⟨p1, hp1⟩ : ∃ p1, p1 = 3 + 1 + o.length := ⟨_, rfl⟩
              rw [← hp1] at HD1 ho1 ⊢
              have HP1 := Lib.hid hp1
              clear hp1
              go_wp2_with fail
              refine (wordAt_any w1 _ l HV.out hl p1 (by omega)).mono ?_
              rintro e w' ⟨rfl, hw⟩
              rcases hw with ⟨hd2, rfl⟩ | ⟨a, r2, hd2, ho2, rfl, rfl⟩
              · have HB := Lib.hid (HR.out.trans (decR_three HD1.out hd2))
                clear HR HC HV HV0 BS hd2 HD1 HWO HP1
                go_wp2_with (refine wpList_store_row rfl _ _ _ rfl w.heap.size #[.string ⟨#[]⟩, .string ⟨#[]⟩, .slice none 0 0] rfl rfl 24 #[.string ⟨#[]⟩, .string ⟨#[]⟩, .slice none 0 0] BX.out (by kernel_rfl) rfl (by kernel_rfl) ?_)
                exact bodyPost_ret (results_man_tmp rfl _ _ w.heap.size [.string ⟨#[]⟩, .string ⟨#[]⟩, .slice none 0 0] (.int .i64 3) rfl (setRow_heap _ _ _ _ _ _ BX.out) rfl rfl) rfl ⟨below_setRow BL.out (Nat.le_refl _) _, .inl ⟨HB.out, rfl⟩⟩
              · cases hwa : isWord a with
                | false =>
                  have HB := Lib.hid (HR.out.trans (decR_four HD1.out hd2 hwa))
                  clear HR HC HV HV0 BS hd2 HD1 HWO HP1 hwa
                  go_wp2_with (refine wpList_store_row rfl _ _ _ rfl w.heap.size #[.string ⟨#[]⟩, .string ⟨#[]⟩, .slice none 0 0] rfl rfl 24 #[.string ⟨#[]⟩, .string ⟨#[]⟩, .slice none 0 0] BX.out (by kernel_rfl) rfl (by kernel_rfl) ?_)
                  exact bodyPost_ret (results_man_tmp rfl _ _ w.heap.size [.string ⟨#[]⟩, .string ⟨#[]⟩, .slice none 0 0] (.int .i64 3) rfl (setRow_heap _ _ _ _ _ _ BX.out) rfl rfl) rfl ⟨below_setRow BL.out (Nat.le_refl _) _, .inl ⟨HB.out, rfl⟩⟩
                | true =>
                  obtain ⟨p2, hp2⟩ : ∃ p2, p2 = p1 + 1 + a.length := ⟨_, rfl⟩
                  rw [← hp2] at hd2 ho2 ⊢
                  clear HP1 hp2
                  by_cases hpl : p2 < l.length
                  · have hplz : ¬ (l.length : Int) ≤ p2 := by omega
                    have hplz2 : (p2 : Int) < l.length := by omega
                    obtain ⟨x, hx⟩ : ∃ x, l[p2]? = some x := ⟨_, List.getElem?_eq_getElem hpl⟩
                    have hdr : l.drop p2 = x :: l.drop (p2 + 1) := by
                      rw [List.drop_eq_getElem_cons hpl]
                      rw [List.getElem?_eq_getElem hpl] at hx
                      injection hx with hx; rw [hx]
                    rw [hdr] at hd2
                    have hr5 := HR.out.trans (decR_more HD1.out hd2 HWO.out hwa)
                    clear hd2 hwa HD1 HWO HR
                    have cx := HC.out p2 x hx
                    have cx1 := (BL.out.cell (p := ⟨g, off + p2, none⟩) (block_lt_of_cell cx)).trans cx
                    have hx255 := x.toNat_lt
                    have hn8 : n8 x = (x.toNat : Int) := rfl
                    obtain ⟨n, hn⟩ : ∃ n, n = x.toNat := ⟨_, rfl⟩
                    rw [hn8, ← hn] at cx1
                    rw [← hn] at hr5 hx255
                    have hdl : (l.drop (p2 + 1)).length = l.length - (p2 + 1) := List.length_drop
                    have wk1 : IntKind.i64.wrap ((p2 : Int) + 1) = p2 + 1 := IntWalk.i64_in _ (by omega)
                    have wk2 : IntKind.i64.wrap (32 * (n : Int)) = 32 * n := IntWalk.i64_in _ (by omega)
                    have wk3 : IntKind.i64.wrap ((p2 : Int) + 1 + 32 * n) = p2 + 1 + 32 * n := IntWalk.i64_in _ (by omega)
                    have wk4 : IntKind.i64.wrap (n : Int) = n := IntWalk.i64_in _ (by omega)
                    clear hdr hx hn8 hn cx
                    by_cases h8 : n ≤ 8
                    · have h8z : ¬ (8 : Int) < n := by omega
                      by_cases hle : l.length = p2 + 1 + 32 * n
                      · have hlez : ((l.length : Int) != p2 + 1 + 32 * n) = false := by simp; omega
                        rw [if_pos ⟨by omega, h8⟩] at hr5
                        have HR5 := Lib.hid hr5
                        clear hr5 HV
                        have hcl := chunks_len n (l.drop (p2 + 1))
                        have hc32 : ∀ y ∈ chunks n (l.drop (p2 + 1)), y.length = 32 := fun y hy => by
                          obtain ⟨i, hi⟩ := List.mem_iff_getElem?.1 hy
                          exact chunks_32 n (l.drop (p2 + 1)) (by omega) i y hi
                        have hcg : ∀ j, j < n → ∃ T, (chunks n (l.drop (p2 + 1)))[j]? = some T ∧ T.length = 32 ∧ ∀ k, k < 32 → ∃ x, T[k]? = some x ∧ l[p2 + 1 + 32 * j + k]? = some x := fun j hj => by
                          refine ⟨_, chunks_get hj, by rw [List.length_take, List.length_drop, hdl]; omega, fun k hk => ⟨l[p2 + 1 + 32 * j + k]'(by omega), ?_, by rw [List.getElem?_eq_getElem]⟩⟩
                          rw [List.getElem?_take, if_pos hk, List.getElem?_drop, List.getElem?_drop, List.getElem?_eq_getElem (by omega)]
                          congr 2; omega
                        have HCL := Lib.hid hcl; have HC32 := Lib.hid hc32; have HCG := Lib.hid hcg
                        have HLE := Lib.hid hle
                        clear hcl hc32 hcg hdl hle
                        generalize chunks n (l.drop (p2 + 1)) = hs at *
                        have hbs := BS.out
                        have M0 := Lib.hid (ref_start BL.out BX.out hbs ⟨o.toArray⟩ ⟨a.toArray⟩)
                        clear BL BX BS
                        go_wp2
                        revert M0
                        generalize w1.alloc (.cells #[.string ⟨o.toArray⟩, .string ⟨a.toArray⟩, .slice none 0 0] 24) = wz
                        intro M0
                        have d1 : decide ((l.length : Int) ≤ p2) = false := by simp; omega
                        have d2 : decide (l.length ≤ p2) = false := by simp; omega
                        have d3 : decide ((8 : Int) < n) = false := by simp; omega
                        simp only [d1, d2, d3, Bool.or_false, Bool.or_self, Bool.false_or]
                        clear cx1 wk2 wk3 wk4 hlez h8z hplz2 hplz d1 d2 d3
                        go_loopw [9] (fun k wr => RefI w p2 n ⟨o.toArray⟩ ⟨a.toArray⟩ hs k wr) (fun k _ => l.length - (intOf k).toNat)
                        case atStart => exact ⟨0, p2 + 1, _, by omega, by go_num, by omega, M0.out, by simpa using OwnH.nil wz (w.heap.size + 2)⟩
                        case round =>
                          rename World => wO
                          obtain ⟨j, q, lv, hj, rfl, hq, M', O'⟩ := hrel
                          have HM := Lib.hid M'; have HO := Lib.hid O'
                          clear M' O' M0
                          by_cases hlj : j < n
                          · have hqz : (q : Int) < l.length := by have := HLE.out; omega
                            obtain ⟨T, hT, htl, hTg⟩ := HCG.out j hlj
                            have hcell : ∀ k, k < 32 → ∃ x, T[k]? = some x ∧ w.cell? ⟨g, off + (q + k), none⟩ = some (.int .u8 (n8 x)) := fun k hk => by
                              obtain ⟨x, h1, h2⟩ := hTg k hk
                              rw [hq]
                              exact ⟨x, h1, HC.out _ x h2⟩
                            have HCE := Lib.hid hcell; have HTL := Lib.hid htl; have HT := Lib.hid hT
                            have F0 := Lib.hid (fill_start wO T)
                            have HQ := Lib.hid hq
                            clear hcell hTg hT htl hq
                            go_wp2_with fail
                            rw [zeros32]
                            revert F0
                            generalize wO.alloc (.cells ((List.replicate 32 0).map vB).toArray 33) = wf
                            intro F0
                            go_loopw [11] (fun i wi => ∃ k : Nat, k ≤ 32 ∧ i = .int .i64 k ∧ FillW wO wi T k) (fun i _ => 32 - (intOf i).toNat)
                            case atStart => exact ⟨0, by omega, rfl, F0.out⟩
                            case round =>
                              obtain ⟨k, hk, rfl, F'⟩ := hrel
                              have F := Lib.hid F'
                              clear F' F0
                              by_cases hlk : k < 32
                              · have hlkz : (k : Int) < 32 := by omega
                                obtain ⟨x, hx, hcx⟩ := HCE.out k hlk
                                obtain ⟨m, hm⟩ : ∃ m, m = q + k := ⟨_, rfl⟩
                                rw [← hm] at hcx
                                have wkm : IntKind.i64.wrap ((q : Int) + k) = m := by rw [IntWalk.i64_in _ (by omega)]; omega
                                have hml : (m : Int) < l.length := by have := HLE.out; have := HQ.out; omega
                                have cx := (HM.out.below.cell (p := ⟨g, off + m, none⟩) (block_lt_of_cell hcx)).trans hcx
                                have cx := (F.out.1.cell (p := ⟨g, off + m, none⟩) (block_lt_of_cell cx)).trans cx
                                have F2 := Lib.hid (F.out.next HTL.out hlk x hx)
                                have ho := (cell_of_row wr wO.heap.size k _ _ _ F.out.2)
                                rw [List.getElem?_toArray, List.getElem?_eq_getElem (by rw [List.length_map, fillB_len T HTL.out k hk]; exact hlk)] at ho
                                have hfz : wr.frozen? ⟨wO.heap.size, k, none⟩ = false := frozen_of_row wr _ _ _ _ F.out.2
                                clear F hcx hx hm
                                go_wp2
                                exact ⟨⟨k + 1, by omega, by go_num, F2.out⟩, by simp [intOf]; omega⟩
                              · obtain rfl : k = 32 := by omega
                                rw [show ((32 : Nat) : Int) = (32 : Int) from rfl]
                                have hbx := F.out.2
                                rw [fillB_end T HTL.out] at hbx
                                have hsz := F.out.lt
                                have hBB : Below wO.heap.size wO (wr.alloc (.cells (T.map vB).toArray 33)) := F.out.1.alloc (by omega) _
                                have c2 : wr.cell? ⟨w.heap.size + 1, 2, none⟩ = some lv := (F.out.1.cell (p := ⟨w.heap.size + 1, 2, none⟩) HM.out.lt).trans ((cell_of_row wO _ 2 _ _ _ HM.out.man).trans rfl)
                                have OA := Lib.hid (HO.out.below hBB).1
                                have MB := Lib.hid (HM.out.keep hBB)
                                have hjl : (hs.take j).length = j := by rw [List.length_take, HCL.out]; omega
                                rw [hjl] at OA
                                have HBS : Hid (w.heap.size + 2 ≤ (wr.alloc (.cells (T.map vB).toArray 33)).heap.size) := by
                                  show _ ≤ _
                                  have := hBB.size; have := HM.out.lt; omega
                                obtain ⟨i0, hi, hz0, hz1, hz2⟩ := info_parts info_hash
                                clear hjl hBB F hsz
                                go_wp2_with (first
                                  | refine wpList_load_row rfl _ _ rfl wO.heap.size rfl 33 (T.map vB).toArray (0, 0) _ hbx Tryd.underlying33 rfl (by rw [hash_size]; simp [HTL.out]) ?_
                                  | refine wpList_buildSlice rfl 22 33 1 _ rfl _ i0 _ Tryd.underlying22 hi hz0 (by rw [hz1]; decide) (by rw [hz1]; decide) (by simp only [hz1, List.map_toArray, List.map_cons, List.map_nil]; exact fill_one T HTL.out _ (by simp)) ?_
                                  | refine wpList_append_own _ rfl _ _ 22 rfl (w.heap.size + 2) 33 i0 _ 32 32 Tryd.underlying22 hi hz0 hz1 hz2 (by simp [Value.cells]) (by decide) _ j _ rfl OA.out ⟨wr.heap.size, 0, none⟩ 1 1 (T.map vB) rfl (by simp [HTL.out]) (World.news_of_block (heap_alloc_new _ _)) (vB_one T) (by simp only [maxLen]; omega) (by omega) HBS.out ?_)
                                intro v' w4 q1 q2 q4
                                obtain ⟨g', cap', rfl⟩ : ∃ g' cap', v' = .slice (some ⟨g', 0, none⟩) (j + 1) cap' := by
                                  rcases q1.2 with ⟨_, h0⟩ | ⟨g', cap', _, hv, _⟩
                                  · omega
                                  · exact ⟨g', cap', hv⟩
                                have hmx := (q2.block _ MB.out.lt (fun e => by have := (World.ownsRow.lt OA.out _ e.symm).1; omega)).trans MB.out.man
                                have fr : w4.frozen? ⟨w.heap.size + 1, 2, none⟩ = false := frozen_of_row w4 _ _ _ _ hmx
                                have ce : w4.cell? ⟨w.heap.size + 1, 2, none⟩ = some _ := (cell_of_row w4 _ 2 _ _ _ hmx).trans rfl
                                have D := Lib.hid (ref_step MB.out OA.out HT.out HC32.out (by omega) (by simpa using q1) q2)
                                have wkq : IntKind.i64.wrap ((q : Int) + 32) = (q + 32 : Nat) := by rw [IntWalk.i64_in _ (by omega)]; omega
                                clear q1 q2 q4 hmx MB OA HBS hbx c2 HM HO
                                go_wp2
                                exact ⟨⟨j + 1, q + 32, _, by omega, by go_num, by have := HQ.out; omega, D.out.1, D.out.2⟩, by have := HLE.out; have := HQ.out; simp [intOf]; omega⟩
                          · obtain rfl : j = n := by omega
                            have hqz : ¬ (q : Int) < l.length := by have := HLE.out; omega
                            have O2 : Hid (OwnH wO (w.heap.size + 2) lv hs) := by
                              have h := HO.out
                              rw [List.take_of_length_le (by rw [HCL.out]; omega)] at h
                              exact h
                            obtain ⟨la, cc, rfl⟩ := O2.out.rd.slice
                            clear HO HCG HC32 hq
                            go_wp2_with (first
                              | refine wpList_load_row rfl _ _ rfl (w.heap.size + 1) rfl 24 #[.string ⟨o.toArray⟩, .string ⟨a.toArray⟩, .slice la hs.length cc] (0, 0) _ HM.out.man Tryd.underlying24 rfl (by kernel_rfl) ?_
                              | refine wpList_store_row rfl _ _ _ rfl w.heap.size #[.string ⟨o.toArray⟩, .string ⟨a.toArray⟩, .slice la hs.length cc] rfl rfl 24 #[.string ⟨#[]⟩, .string ⟨#[]⟩, .slice none 0 0] HM.out.box (by kernel_rfl) rfl (by kernel_rfl) ?_)
                            have hrd := (O2.out.setRow (b := w.heap.size) (by omega) #[.string ⟨o.toArray⟩, .string ⟨a.toArray⟩, .slice la hs.length cc])
                            refine bodyPost_ret (results_man_tmp rfl _ _ w.heap.size [.string ⟨o.toArray⟩, .string ⟨a.toArray⟩, .slice la hs.length cc] (.int .i64 0) rfl (setRow_heap _ _ _ _ _ _ HM.out.box) rfl rfl) rfl ⟨below_setRow HM.out.below (Nat.le_refl _) _, .inr ?_⟩
                            first | exact ⟨o, a, hs, HR5.out, _, rfl, hrd⟩ | exact ⟨o, a, hs, _, HR5.out, rfl, hrd⟩
                      · have hlez : ((l.length : Int) != p2 + 1 + 32 * n) = true := by simp; omega
                        rw [if_neg (by omega)] at hr5
                        have HB := Lib.hid hr5
                        clear hr5 HV HV0 HC BS
                        go_wp2_with (refine wpList_store_row rfl _ _ _ rfl w.heap.size #[.string ⟨#[]⟩, .string ⟨#[]⟩, .slice none 0 0] rfl rfl 24 #[.string ⟨#[]⟩, .string ⟨#[]⟩, .slice none 0 0] BX.out (by kernel_rfl) rfl (by kernel_rfl) ?_)
                        exact bodyPost_ret (results_man_tmp rfl _ _ w.heap.size [.string ⟨#[]⟩, .string ⟨#[]⟩, .slice none 0 0] (.int .i64 3) rfl (setRow_heap _ _ _ _ _ _ BX.out) rfl rfl) rfl ⟨below_setRow BL.out (Nat.le_refl _) _, .inl ⟨HB.out, rfl⟩⟩
                    · have h8z : (8 : Int) < n := by omega
                      rw [if_neg (fun hh => h8 hh.2)] at hr5
                      have HB := Lib.hid hr5
                      clear hr5 HV HV0 HC BS
                      go_wp2_with (refine wpList_store_row rfl _ _ _ rfl w.heap.size #[.string ⟨#[]⟩, .string ⟨#[]⟩, .slice none 0 0] rfl rfl 24 #[.string ⟨#[]⟩, .string ⟨#[]⟩, .slice none 0 0] BX.out (by kernel_rfl) rfl (by kernel_rfl) ?_)
                      exact bodyPost_ret (results_man_tmp rfl _ _ w.heap.size [.string ⟨#[]⟩, .string ⟨#[]⟩, .slice none 0 0] (.int .i64 3) rfl (setRow_heap _ _ _ _ _ _ BX.out) rfl rfl) rfl ⟨below_setRow BL.out (Nat.le_refl _) _, .inl ⟨HB.out, rfl⟩⟩
                  · have hplz : (l.length : Int) ≤ p2 := by omega
                    rw [List.drop_of_length_le (by omega : l.length ≤ p2)] at hd2
                    have HB := Lib.hid (HR.out.trans (decR_end HD1.out hd2 HWO.out hwa))
                    clear hd2 hwa HD1 HWO HR HV HV0 HC BS
                    go_wp2_with (refine wpList_store_row rfl _ _ _ rfl w.heap.size #[.string ⟨#[]⟩, .string ⟨#[]⟩, .slice none 0 0] rfl rfl 24 #[.string ⟨#[]⟩, .string ⟨#[]⟩, .slice none 0 0] BX.out (by kernel_rfl) rfl (by kernel_rfl) ?_)
                    exact bodyPost_ret (results_man_tmp rfl _ _ w.heap.size [.string ⟨#[]⟩, .string ⟨#[]⟩, .slice none 0 0] (.int .i64 3) rfl (setRow_heap _ _ _ _ _ _ BX.out) rfl rfl) rfl ⟨below_setRow BL.out (Nat.le_refl _) _, .inl ⟨HB.out, rfl⟩⟩
        · have q0 : (n8 z != 1) = true := n8_ne z 1 hz
          have HB := Lib.hid (nz hz)
          clear nx ny nz hR h3 HV HV0 HC BS hz
          go_enter Tryd.func16, Tryd.ntmps16
          go_wp2_with (refine wpList_store_row rfl _ _ _ rfl w.heap.size #[.string ⟨#[]⟩, .string ⟨#[]⟩, .slice none 0 0] rfl rfl 24 #[.string ⟨#[]⟩, .string ⟨#[]⟩, .slice none 0 0] BX.out (by kernel_rfl) rfl (by kernel_rfl) ?_)
          exact bodyPost_ret (results_man_tmp rfl _ _ w.heap.size [.string ⟨#[]⟩, .string ⟨#[]⟩, .slice none 0 0] (.int .i64 3) rfl (setRow_heap _ _ _ _ _ _ BX.out) rfl rfl) rfl ⟨below_setRow BL.out (Nat.le_refl _) _, .inl ⟨HB.out, rfl⟩⟩
      · have q0 : (n8 y != 77) = true := n8_ne y 77 hy
        have HB := Lib.hid (ny hy)
        clear nx ny nz hR h3 HV HV0 HC BS hy
        go_enter Tryd.func16, Tryd.ntmps16
        go_wp2_with (refine wpList_store_row rfl _ _ _ rfl w.heap.size #[.string ⟨#[]⟩, .string ⟨#[]⟩, .slice none 0 0] rfl rfl 24 #[.string ⟨#[]⟩, .string ⟨#[]⟩, .slice none 0 0] BX.out (by kernel_rfl) rfl (by kernel_rfl) ?_)
        exact bodyPost_ret (results_man_tmp rfl _ _ w.heap.size [.string ⟨#[]⟩, .string ⟨#[]⟩, .slice none 0 0] (.int .i64 3) rfl (setRow_heap _ _ _ _ _ _ BX.out) rfl rfl) rfl ⟨below_setRow BL.out (Nat.le_refl _) _, .inl ⟨HB.out, rfl⟩⟩
    · have q0 : (n8 x != 68) = true := n8_ne x 68 hx
      have HB := Lib.hid (nx hx)
      clear nx ny nz hR h3 HV HV0 HC BS hx
      go_enter Tryd.func16, Tryd.ntmps16
      go_wp2_with (refine wpList_store_row rfl _ _ _ rfl w.heap.size #[.string ⟨#[]⟩, .string ⟨#[]⟩, .slice none 0 0] rfl rfl 24 #[.string ⟨#[]⟩, .string ⟨#[]⟩, .slice none 0 0] BX.out (by kernel_rfl) rfl (by kernel_rfl) ?_)
      exact bodyPost_ret (results_man_tmp rfl _ _ w.heap.size [.string ⟨#[]⟩, .string ⟨#[]⟩, .slice none 0 0] (.int .i64 3) rfl (setRow_heap _ _ _ _ _ _ BX.out) rfl rfl) rfl ⟨below_setRow BL.out (Nat.le_refl _) _, .inl ⟨HB.out, rfl⟩⟩
end Go.Proofs.YtkpcmgacjhjllaaDoor
