/- The contract of tarfmt.read. -/
import Derived.Test.YtikhdbdbdldbaaaDoorNum
import Derived.Test.YtikhdbdbdldbaaaDoorSumOf
import Derived.Test.YtikhdbdbdldbaaaDoorTxt
import Derived.Test.YtikhdbdbdldbaaaDoorHeader
import Derived.Test.YtikhdbdbdldbaaaDoorKindMap
import Derived.ScopeJumps
import Derived.WalkMore
namespace Go.Proofs.YtikhdbdbdldbaaaDoor
open Go.RowKit

/-- The entry's box at w's end; the header's bytes lie below. -/
structure RdS (w W : World) (a : Addr) (c : Nat) (h : List UInt8) (x0 x1 x2 x3 x4 : Value) : Prop where
  below : Below w.heap.size w W
  row : W.heap[w.heap.size]? = some (.cells #[x0, x1, x2, x3, x4] 31 (0, 0))
  rd : RdB w (.slice (some a) 512 c) h
section
variable {w W W2 : World} {a : Addr} {c : Nat} {h : List UInt8} {x0 x1 x2 x3 x4 : Value}
theorem RdS.keep (H : RdS w W a c h x0 x1 x2 x3 x4) (hb : Below W.heap.size W W2) : RdS w W2 a c h x0 x1 x2 x3 x4 :=
  ⟨H.below.trans (hb.mono H.below.size), (hb.block _ (Array.getElem?_eq_some_iff.1 H.row).1).trans H.row, H.rd⟩
theorem RdS.hd (H : RdS w W a c h x0 x1 x2 x3 x4) : RdB W (.slice (some a) 512 c) h := RdV.below H.rd H.below
theorem RdS.c0 (H : RdS w W a c h x0 x1 x2 x3 x4) : W.cell? ⟨w.heap.size, 0, none⟩ = some x0 := (cell_of_row W _ 0 _ _ _ H.row).trans rfl
theorem RdS.c1 (H : RdS w W a c h x0 x1 x2 x3 x4) : W.cell? ⟨w.heap.size, 1, none⟩ = some x1 := (cell_of_row W _ 1 _ _ _ H.row).trans rfl
theorem RdS.c2 (H : RdS w W a c h x0 x1 x2 x3 x4) : W.cell? ⟨w.heap.size, 2, none⟩ = some x2 := (cell_of_row W _ 2 _ _ _ H.row).trans rfl
theorem RdS.c3 (H : RdS w W a c h x0 x1 x2 x3 x4) : W.cell? ⟨w.heap.size, 3, none⟩ = some x3 := (cell_of_row W _ 3 _ _ _ H.row).trans rfl
theorem RdS.c4 (H : RdS w W a c h x0 x1 x2 x3 x4) : W.cell? ⟨w.heap.size, 4, none⟩ = some x4 := (cell_of_row W _ 4 _ _ _ H.row).trans rfl
theorem RdS.free (H : RdS w W a c h x0 x1 x2 x3 x4) (i : Nat) : W.frozen? ⟨w.heap.size, i, none⟩ = false := by
  unfold World.frozen?
  rw [H.row]
  simp
theorem RdS.set0 (H : RdS w W a c h x0 x1 x2 x3 x4) (v : Value) : RdS w (W.setCell ⟨w.heap.size, 0, none⟩ v) a c h v x1 x2 x3 x4 :=
  ⟨H.below.setCell (p := ⟨w.heap.size, 0, none⟩) (Nat.le_refl _) _, heap_setCell_same W w.heap.size 0 _ _ _ H.row, H.rd⟩
theorem RdS.set1 (H : RdS w W a c h x0 x1 x2 x3 x4) (v : Value) : RdS w (W.setCell ⟨w.heap.size, 1, none⟩ v) a c h x0 v x2 x3 x4 :=
  ⟨H.below.setCell (p := ⟨w.heap.size, 1, none⟩) (Nat.le_refl _) _, heap_setCell_same W w.heap.size 1 _ _ _ H.row, H.rd⟩
theorem RdS.set2 (H : RdS w W a c h x0 x1 x2 x3 x4) (v : Value) : RdS w (W.setCell ⟨w.heap.size, 2, none⟩ v) a c h x0 x1 v x3 x4 :=
  ⟨H.below.setCell (p := ⟨w.heap.size, 2, none⟩) (Nat.le_refl _) _, heap_setCell_same W w.heap.size 2 _ _ _ H.row, H.rd⟩
theorem RdS.eq0 (H : RdS w W a c h x0 x1 x2 x3 x4) {y : Value} (e : x0 = y) : RdS w W a c h y x1 x2 x3 x4 := e ▸ H
theorem RdS.set3 (H : RdS w W a c h x0 x1 x2 x3 x4) (v : Value) : RdS w (W.setCell ⟨w.heap.size, 3, none⟩ v) a c h x0 x1 x2 v x4 :=
  ⟨H.below.setCell (p := ⟨w.heap.size, 3, none⟩) (Nat.le_refl _) _, heap_setCell_same W w.heap.size 3 _ _ _ H.row, H.rd⟩
end
theorem rd_sub {W : World} {b o n c : Nat} {h : List UInt8} (H : RdB W (.slice (some ⟨b, o, none⟩) n c) h) (x m c2 : Nat) (hm : x + m ≤ n) (hc : m ≤ c2) : RdB W (.slice (some ⟨b, o + x, none⟩) m c2) (fld h (x, m)) := by
  rcases H with ⟨h1, h0⟩ | ⟨ad, cap, h1, hle, hcell⟩
  · cases h1
  · simp only [Value.slice.injEq, List.length_map, Option.some.injEq] at h1
    obtain ⟨rfl, hn, rfl⟩ := h1
    have hlen : (fld h (x, m)).length = m := by simp [fld]; omega
    refine .inr ⟨⟨b, o + x, none⟩, c2, by rw [List.length_map, hlen], by rw [List.length_map, hlen]; exact hc, ?_⟩
    intro j u hj
    have hjl : j < m := by
      obtain ⟨hjl, _⟩ := List.getElem?_eq_some_iff.1 hj
      rwa [List.length_map, hlen] at hjl
    refine ⟨b, o + x, rfl, ?_⟩
    have h2 : (h.map vB)[x + j]? = some u := by
      rw [List.getElem?_map] at hj ⊢
      simp only [fld, List.getElem?_take, if_pos hjl, List.getElem?_drop] at hj
      exact hj
    obtain ⟨b', o', e, hcl⟩ := hcell (x + j) u h2
    cases e
    rwa [show o + x + j = o + (x + j) by omega]
theorem rd_at {W : World} {b o n c : Nat} {h : List UInt8} (H : RdB W (.slice (some ⟨b, o, none⟩) n c) h) (j : Nat) (hj : j < h.length) {x : UInt8} (hx : h.getD j 0 = x) : W.cell? ⟨b, o + j, none⟩ = some (vB x) := by
  rcases H with ⟨h1, h0⟩ | ⟨ad, cap, h1, hle, hcell⟩
  · cases h1
  · simp only [Value.slice.injEq, List.length_map, Option.some.injEq] at h1
    obtain ⟨rfl, hn, rfl⟩ := h1
    obtain ⟨b', o', e, hcl⟩ := hcell j (vB x) (by rw [← hx]; simp [List.getD, hj])
    cases e
    exact hcl
theorem results_ent {fn : Func} {p u v : Tmp} (h : fn.results = #[.cell p 31, .tmp u, .tmp v]) (tmps : Array Value) (w : World) (g : Nat) (cs : Array Value) (x y : Value)
    (hp : tmps.getD p undef = .pointer (some ⟨g, 0, none⟩)) (hg : w.heap[g]? = some (.cells cs 31 (0, 0))) (hx : tmps.getD u undef = x) (hy : tmps.getD v undef = y) (hl : cs.size = 5) :
    (results fn tmps).run Tryd.prog w = .ok (.tuple #[.agg cs, x, y]) w := by
  have hi : (Tryd.prog.info? 31).map (·.size) = some cs.size := by rw [hl]; kernel_rfl
  simp only [results, h]
  have hp2 : tmps[p]?.getD undef = .pointer (some ⟨g, 0, none⟩) := by simpa using hp
  have hx2 : tmps[u]?.getD undef = x := by simpa using hx
  have hy2 : tmps[v]?.getD undef = y := by simpa using hy
  simp [Result.andThen, hp2, hx2, hy2, asAddr, run_loadVar_row w g _ _ _ _ _ hg Tryd.underlying31 rfl hi]
theorem textL_some {f s : List UInt8} (h : textL f = some s) : Lib.trimRightB f 0 = s := by
  unfold textL at h
  simp only at h
  split at h
  · simpa using h
  · cases h
theorem bs_some {l : List UInt8} (h : l ≠ []) : (bs l).toList.isEmpty = false := by
  cases l with
  | nil => exact absurd rfl h
  | cons x l => rw [show (bs (x :: l)).toList = x :: l from by rw [ByteArray.toList_eq]; exact bs_list _]; rfl
theorem bs_none : (bs []).toList.isEmpty = true := by rw [ByteArray.toList_eq]; rfl
/-- What a read answers. -/
def readV (h : List UInt8) : Value := match readL h with
  | none => .tuple #[.agg #[.string ⟨#[]⟩, .int .i64 0, .int .i64 0, .string ⟨#[]⟩, .slice none 0 0], .int .i64 0, .bool false]
  | some (e, n) => .tuple #[.agg (eC e (.slice none 0 0)).toArray, .int .i64 (n : Int), .bool true]
/-- A jump to the end: nothing was read. -/
def ReadBad (w : World) (a : Addr) (c : Nat) (h : List UInt8) (a' : Act) (w' : World) : Prop :=
  readL h = none ∧ (∃ x0 x1 x2 x3 x4, RdS w w' a c h x0 x1 x2 x3 x4) ∧ ∃ u : Nat → Value, a' = { tmps := #[u 0, u 1, .pointer (some ⟨w.heap.size, 0, none⟩), u 3, u 4, u 5, u 6, u 7, u 8, u 9, u 10, u 11, u 12, u 13, u 14, u 15, u 16, u 17, u 18, u 19, u 20, u 21, u 22, u 23, u 24, u 25, u 26, u 27, u 28, u 29, u 30, u 31, u 32, u 33, u 34, u 35, u 36, u 37, u 38, u 39, u 40, u 41, u 42, u 43, u 44, u 45, u 46, u 47, u 48, u 49, u 50, u 51, u 52, u 53, u 54, u 55, u 56, u 57, u 58, u 59, u 60, u 61, u 62, u 63, u 64, u 65, u 66, u 67, u 68, u 69, u 70, u 71, u 72, u 73, u 74, u 75, u 76, u 77, u 78, u 79, u 80, u 81, u 82, u 83, u 84, u 85, u 86, u 87, u 88, u 89, u 90, u 91, u 92, u 93, u 94, u 95, u 96, u 97, u 98, u 99, u 100, u 101, u 102, u 103, u 104, u 105, u 106, u 107, u 108, u 109, u 110, u 111, u 112, u 113, u 114, u 115, u 116, u 117, u 118, u 119, u 120, u 121, u 122, u 123, u 124, u 125, u 126, u 127, u 128, u 129, u 130, u 131, u 132, u 133, u 134, u 135, u 136, u 137, u 138, u 139, u 140, u 141, u 142, u 143, u 144, u 145, u 146, u 147, u 148, u 149, u 150, u 151, u 152, u 153, u 154, u 155, u 156, u 157, u 158], defers := [] }
theorem bs_cat (a b : List UInt8) : bs a ++ ⟨#[47]⟩ ++ bs b = bs (a ++ [47] ++ b) := by
  apply ByteArray.ext
  simp [bs]
theorem u_at (a : Act) {F : (Nat → Value) → Act} (h : a = F (fun i => a.tmps.getD i undef)) : ∃ u : Nat → Value, a = F u := ⟨_, h⟩
set_option maxRecDepth 100000 in
set_option maxHeartbeats 40000000 in
theorem read_any (w : World) (b o c : Nat) (h : List UInt8) (hr : RdB w (.slice (some ⟨b, o, none⟩) 512 c) h) (hl : h.length = 512) (hc : 512 ≤ c) (hc2 : c ≤ 9223372036854775807) :
    Calls Tryd.prog 46 #[.slice (some ⟨b, o, none⟩) 512 c] w fun e w' => e = .returned (readV h) ∧ Below w.heap.size w w' := by
  have b0 : (512 : Int) ≤ (c : Int) := by omega
  have b1 : (c : Int) ≤ 9223372036854775807 := by omega
  have HR := Lib.hid hr; have HL := Lib.hid hl
  clear hr hl
  go_enter Tryd.func46, Tryd.ntmps46
  go_wp2_with fail
  refine wp_scope_jumps 0 (ReadBad w ⟨b, o, none⟩ c h) (fun _ _ => 0) rfl ?first ?pass
  case pass =>
    rintro a' w' ⟨hd, ⟨x0, x1, x2, x3, x4, hS⟩, u, rfl⟩
    have HD := Lib.hid hd; have HS := Lib.hid hS
    clear hd hS
    go_wp2_with (refine wpList_store_row rfl _ _ _ rfl w.heap.size #[.string ⟨#[]⟩, .int .i64 0, .int .i64 0, .string ⟨#[]⟩, .slice none 0 0] rfl rfl 31 #[x0, x1, x2, x3, x4] HS.out.row (by kernel_rfl) rfl (by kernel_rfl) ?_)
    simp only [Exit.jump]
    exact bodyPost_ret (results_ent rfl _ _ w.heap.size #[.string ⟨#[]⟩, .int .i64 0, .int .i64 0, .string ⟨#[]⟩, .slice none 0 0] (.int .i64 0) (.bool false) rfl (setRow_heap _ _ _ _ _ _ HS.out.row) rfl rfl rfl) rfl ⟨by unfold readV; rw [HD.out], below_setRow HS.out.below (Nat.le_refl _) _⟩
  case first =>
    have HS0 := Lib.hid (show RdS w (w.alloc (.cells #[.string ⟨#[]⟩, .int .i64 0, .int .i64 0, .string ⟨#[]⟩, .slice none 0 0] 31)) ⟨b, o, none⟩ c h _ _ _ _ _ from ⟨(Below.refl _ _).alloc (Nat.le_refl _) _, heap_alloc_new w _, HR.out⟩)
    revert HS0
    generalize w.alloc (.cells #[.string ⟨#[]⟩, .int .i64 0, .int .i64 0, .string ⟨#[]⟩, .slice none 0 0] 31) = w1
    intro HS0
    have ht := run_text (rd_sub HS0.out.hd 257 8 (c - 257) (by omega) (by omega))
    have h5 : fld h (500, 12) = h.drop 500 := by unfold fld; exact List.take_of_length_le (by simp [HL.out])
    have HZ := Lib.hid (fun W hW => h5 ▸ zeros_any W (.slice (some ⟨b, o + 500, none⟩) 12 (c - 500)) (fld h (500, 12)) hW (by simp [fld]; omega))
    have HD5 := Lib.hid (show ∀ W x0 x1 x2 x3 x4, RdS w W ⟨b, o, none⟩ c h x0 x1 x2 x3 x4 → RdB W (.slice (some ⟨b, o + 500, none⟩) 12 (c - 500)) (fld h (500, 12)) from fun W x0 x1 x2 x3 x4 H => rd_sub H.hd 500 12 (c - 500) (by omega) (by omega))
    have HRD := Lib.hid (show readL h = if fld h (257, 8) ≠ magicL ∨ allZ (h.drop 500) = false then none else if numsL.any (fun p => (numL (fld h p)).isNone) then none else if textsL.any (fun p => (textL (fld h p)).isNone) then none else read1 h from rfl)
    clear h5
    generalize fld h (257, 8) = mg at *
    have hmm : (mg == [117, 115, 116, 97, 114, 0, 48, 48]) = (mg == magicL) := rfl
    by_cases hmg : mg = magicL
    case neg =>
      have hb : (mg == magicL) = false := by simp [hmg]
      rw [hb] at hmm
      have HBAD := Lib.hid (HRD.out.trans (if_pos (.inl hmg)))
      clear hb hmg
      go_wp2_with fail
      go_step3
      exact ⟨rfl, HBAD.out, ⟨_, _, _, _, _, HS0.out⟩, u_at _ rfl⟩
    case pos =>
      subst hmg
      clear hmm
      have ht : (convert 23 9 (.slice (some ⟨b, o + 257, none⟩) 8 (c - 257))).run Tryd.prog w1 = .ok (.string ⟨#[117, 115, 116, 97, 114, 0, 48, 48]⟩) w1 := ht
      go_wp2_with fail
      refine (HZ.out _ (HD5.out _ _ _ _ _ _ HS0.out)).mono ?_
      rintro r w2 ⟨rfl, hb⟩
      have HS1 := Lib.hid (HS0.out.keep hb)
      clear hb HS0 ht HZ HD5
      cases hz : allZ (h.drop 500) with
      | false =>
        have HBAD := Lib.hid (HRD.out.trans (if_pos (.inr hz)))
        clear hz
        go_wp2_with fail
        go_step3
        exact ⟨rfl, HBAD.out, ⟨_, _, _, _, _, HS1.out⟩, u_at _ rfl⟩
      | true =>
        replace HRD := Lib.hid (HRD.out.trans (if_neg (by simp [hz])))
        clear hz
        go_wp2_with fail
        refine (numbers_any w2).mono ?_
        rintro r w3 ⟨g2, rfl, hg2, hn2, hb⟩
        have HS2 := Lib.hid (HS1.out.keep hb)
        have HN2 := Lib.hid hn2
        clear HS1 hb hg2 hn2
        go_wp2_with fail
        go_loopw [28] (fun i wr => ∃ j : Nat, j ≤ 5 ∧ i = .int .i64 (j : Int) ∧ (numsL.take j).any (fun p => (numL (fld h p)).isNone) = false ∧ RdS w wr ⟨b, o, none⟩ c h (.string ⟨#[]⟩) (.int .i64 0) (.int .i64 0) (.string ⟨#[]⟩) (.slice none 0 0) ∧ wr.heap[g2]? = some (.cells (spC numsL).toArray 53 (0, 0))) (fun i _ => (5 - intOf i).toNat)
        case atStart => exact ⟨0, by omega, by simp, by simp, HS2.out, HN2.out⟩
        case round =>
          obtain ⟨j, hj, rfl, hany, hS, hN⟩ := hrel
          have HSr := Lib.hid hS; have HNr := Lib.hid hN; have HA := Lib.hid hany
          clear hS hN HS2 HN2 hany
          by_cases hlt : j < 5
          case pos =>
            obtain ⟨x, n, hx, hn8, hxn, hput⟩ : ∃ x n : Nat, numsL[j]? = some (x, n) ∧ (n = 8 ∨ n = 12) ∧ x + n ≤ 345 ∧ numsL.take (j + 1) = numsL.take j ++ [(x, n)] := by
              have : j = 0 ∨ j = 1 ∨ j = 2 ∨ j = 3 ∨ j = 4 := by omega
              rcases this with rfl | rfl | rfl | rfl | rfl <;> exact ⟨_, _, rfl, by omega, by omega, rfl⟩
            have hrg := span_range HNr.out j (x, n) hx
            have hc0 : wr.cell? ⟨g2, j * 2, none⟩ = some (.int .i64 (x : Int)) := by have := hrg 0 _ rfl; rwa [show 2 * j + 0 = j * 2 by omega] at this
            have hc1 : wr.cell? ⟨g2, j * 2 + 1, none⟩ = some (.int .i64 (n : Int)) := by have := hrg 1 _ rfl; rwa [show 2 * j + 1 = j * 2 + 1 by omega] at this
            clear hrg
            have i0 : (j : Int) < 5 := by omega
            have HP := Lib.hid hput; have HX := Lib.hid (And.intro hn8 hxn)
            have HAT := Lib.hid (show (numsL.take (j + 1)).any (fun p => (numL (fld h p)).isNone) = (numL (fld h (x, n))).isNone by rw [hput, List.any_append, HA.out]; simp)
            have HAL := Lib.hid (show (numL (fld h (x, n))).isNone = true → numsL.any (fun p => (numL (fld h p)).isNone) = true from fun hq => List.any_eq_true.2 ⟨(x, n), List.mem_of_getElem? hx, hq⟩)
            clear hx hput hn8 hxn hlt hj
            go_wp2_with fail
            have HS20 := Lib.hid (HSr.out.keep ((Below.refl wr.heap.size wr).alloc (Nat.le_refl _) (.cells #[.int .i64 (x : Int), .int .i64 (n : Int)] 53)))
            have HN20 := Lib.hid (show (wr.alloc (.cells #[.int .i64 (x : Int), .int .i64 (n : Int)] 53)).heap[g2]? = _ from (((Below.refl wr.heap.size wr).alloc (Nat.le_refl _) (.cells #[.int .i64 (x : Int), .int .i64 (n : Int)] 53)).block g2 (Array.getElem?_eq_some_iff.1 HNr.out).1).trans HNr.out)
            revert HS20 HN20
            generalize wr.alloc (.cells #[.int .i64 (x : Int), .int .i64 (n : Int)] 53) = w20
            intro HS20 HN20
            refine (in_any w20 x n b o c (by have := HX.out; omega) (by have := HX.out; omega) (by omega) (by omega)).mono ?_
            clear hc0 hc1
            rintro r w21 ⟨rfl, hb⟩
            have HS21 := Lib.hid (HS20.out.keep hb)
            have HN21 := Lib.hid ((hb.block g2 (Array.getElem?_eq_some_iff.1 HN20.out).1).trans HN20.out)
            clear HS20 HN20 hb
            go_wp2_with fail
            refine (number_any w21 _ (fld h (x, n)) (rd_sub HS21.out.hd x n n (by have := HX.out; omega) (Nat.le_refl _)) (n - 1) (by have := HX.out; simp [fld, HL.out]; omega) (by have := HX.out; omega)).mono ?_
            rintro r w22 ⟨N, rfl, hN, hNb, hb⟩
            have HS22 := Lib.hid (HS21.out.keep hb)
            have HN22 := Lib.hid ((hb.block g2 (Array.getElem?_eq_some_iff.1 HN21.out).1).trans HN21.out)
            clear HS21 HN21 hb hN hNb
            cases hq : numL (fld h (x, n)) with
            | none =>
              have HBAD := Lib.hid (HRD.out.trans (if_pos (HAL.out (by rw [hq]; rfl))))
              clear hq
              rw [show (none : Option Nat).isSome = false from rfl]
              go_wp2_with fail
              go_step3
              exact ⟨rfl, HBAD.out, ⟨_, _, _, _, _, HS22.out⟩, u_at _ rfl⟩
            | some q =>
              have HA2 := Lib.hid (show (numsL.take (j + 1)).any (fun p => (numL (fld h p)).isNone) = false by rw [HAT.out, hq]; rfl)
              clear hq HA HAT HAL
              rw [show (some q : Option Nat).isSome = true from rfl]
              go_wp2_with fail
              exact ⟨⟨j + 1, by have := HX.out; omega, by simp, HA2.out, HS22.out, HN22.out⟩, by simp [intOf]; omega⟩
          case neg =>
            obtain rfl : j = 5 := by omega
            replace HRD := Lib.hid (HRD.out.trans (if_neg (by have := HA.out; rw [show numsL.take 5 = numsL from rfl] at this; rw [this]; decide)))
            clear HA HNr hlt hj
            go_wp2_with fail
            refine (texts_any wr).mono ?_
            rintro r w4 ⟨g3, rfl, hg3, hn3, hb⟩
            have HS3 := Lib.hid (HSr.out.keep hb)
            have HN3 := Lib.hid hn3
            clear HSr hb hg3 hn3 ht
            go_wp2_with fail
            go_loopw [44] (fun i wr => ∃ j : Nat, j ≤ 2 ∧ i = .int .i64 (j : Int) ∧ (textsL.take j).any (fun p => (textL (fld h p)).isNone) = false ∧ RdS w wr ⟨b, o, none⟩ c h (.string ⟨#[]⟩) (.int .i64 0) (.int .i64 0) (.string ⟨#[]⟩) (.slice none 0 0) ∧ wr.heap[g3]? = some (.cells (spC textsL).toArray 53 (0, 0))) (fun i _ => (2 - intOf i).toNat)
            case atStart => exact ⟨0, by omega, by simp, by simp, HS3.out, HN3.out⟩
            case round =>
              obtain ⟨j, hj, rfl, hany, hS, hN⟩ := hrel
              have HSr := Lib.hid hS; have HNr := Lib.hid hN; have HA := Lib.hid hany
              clear hS hN HS3 HN3 hany
              by_cases hlt : j < 2
              case pos =>
                obtain ⟨x, n, hx, hn8, hxn, hput⟩ : ∃ x n : Nat, textsL[j]? = some (x, n) ∧ n = 32 ∧ x + n ≤ 345 ∧ textsL.take (j + 1) = textsL.take j ++ [(x, n)] := by
                  have : j = 0 ∨ j = 1 := by omega
                  rcases this with rfl | rfl <;> exact ⟨_, _, rfl, rfl, by omega, rfl⟩
                have hrg := span_range HNr.out j (x, n) hx
                have hc0 : wr.cell? ⟨g3, j * 2, none⟩ = some (.int .i64 (x : Int)) := by have := hrg 0 _ rfl; rwa [show 2 * j + 0 = j * 2 by omega] at this
                have hc1 : wr.cell? ⟨g3, j * 2 + 1, none⟩ = some (.int .i64 (n : Int)) := by have := hrg 1 _ rfl; rwa [show 2 * j + 1 = j * 2 + 1 by omega] at this
                clear hrg
                have i0 : (j : Int) < 2 := by omega
                have HP := Lib.hid hput; have HX := Lib.hid (And.intro hn8 hxn)
                have HAT := Lib.hid (show (textsL.take (j + 1)).any (fun p => (textL (fld h p)).isNone) = (textL (fld h (x, n))).isNone by rw [hput, List.any_append, HA.out]; simp)
                have HAL := Lib.hid (show (textL (fld h (x, n))).isNone = true → textsL.any (fun p => (textL (fld h p)).isNone) = true from fun hq => List.any_eq_true.2 ⟨(x, n), List.mem_of_getElem? hx, hq⟩)
                clear hx hput hn8 hxn hlt hj
                go_wp2_with fail
                have HS20 := Lib.hid (HSr.out.keep ((Below.refl wr.heap.size wr).alloc (Nat.le_refl _) (.cells #[.int .i64 (x : Int), .int .i64 (n : Int)] 53)))
                have HN20 := Lib.hid (show (wr.alloc (.cells #[.int .i64 (x : Int), .int .i64 (n : Int)] 53)).heap[g3]? = _ from (((Below.refl wr.heap.size wr).alloc (Nat.le_refl _) (.cells #[.int .i64 (x : Int), .int .i64 (n : Int)] 53)).block g3 (Array.getElem?_eq_some_iff.1 HNr.out).1).trans HNr.out)
                revert HS20 HN20
                generalize wr.alloc (.cells #[.int .i64 (x : Int), .int .i64 (n : Int)] 53) = w20
                intro HS20 HN20
                refine (in_any w20 x n b o c (by have := HX.out; omega) (by have := HX.out; omega) (by omega) (by omega)).mono ?_
                clear hc0 hc1
                rintro r w21 ⟨rfl, hb⟩
                have HS21 := Lib.hid (HS20.out.keep hb)
                have HN21 := Lib.hid ((hb.block g3 (Array.getElem?_eq_some_iff.1 HN20.out).1).trans HN20.out)
                clear HS20 HN20 hb
                go_wp2_with fail
                refine (text_any w21 _ (fld h (x, n)) (rd_sub HS21.out.hd x n n (by have := HX.out; omega) (Nat.le_refl _)) (by have := HX.out; simp [fld]; omega)).mono ?_
                rintro r w22 ⟨rfl, hb⟩
                have HS22 := Lib.hid (HS21.out.keep hb)
                have HN22 := Lib.hid ((hb.block g3 (Array.getElem?_eq_some_iff.1 HN21.out).1).trans HN21.out)
                clear HS21 HN21 hb
                generalize Lib.trimRightB (fld h (x, n)) 0 = tr
                cases hq : textL (fld h (x, n)) with
                | none =>
                  have HBAD := Lib.hid (HRD.out.trans (if_pos (HAL.out (by rw [hq]; rfl))))
                  clear hq
                  rw [show (none : Option (List UInt8)).isSome = false from rfl]
                  go_wp2_with fail
                  go_step3
                  exact ⟨rfl, HBAD.out, ⟨_, _, _, _, _, HS22.out⟩, u_at _ rfl⟩
                | some q =>
                  have HA2 := Lib.hid (show (textsL.take (j + 1)).any (fun p => (textL (fld h p)).isNone) = false by rw [HAT.out, hq]; rfl)
                  clear hq HA HAT HAL
                  rw [show (some q : Option (List UInt8)).isSome = true from rfl]
                  go_wp2_with fail
                  exact ⟨⟨j + 1, by have := HX.out; omega, by simp, HA2.out, HS22.out, HN22.out⟩, by simp [intOf]; omega⟩
              case neg =>
                obtain rfl : j = 2 := by omega
                replace HRD := Lib.hid (HRD.out.trans (if_neg (by have := HA.out; rw [show textsL.take 2 = textsL from rfl] at this; rw [this]; decide)))
                clear HA HNr hlt hj
                go_wp2_with fail
                refine (sum_any _).mono ?_
                rintro r wra ⟨rfl, hb⟩
                have HSa := Lib.hid (HSr.out.keep hb)
                clear hb HSr
                go_wp2_with fail
                refine (in_any wra 148 8 b o c (by omega) (by omega) (by omega) (by omega)).mono ?_
                rintro r wrb ⟨rfl, hb⟩
                have HSb := Lib.hid (HSa.out.keep hb)
                clear hb HSa
                go_wp2_with fail
                refine (sumOf_any wrb _ (fld h (148, 8)) (rd_sub HSb.out.hd 148 8 8 (by omega) (Nat.le_refl _)) (by simp [fld, HL.out])).mono ?_
                rintro r wrc ⟨N, rfl, hN, hNb, hb⟩
                have HSc := Lib.hid (HSb.out.keep hb)
                clear hb HSb
                have b3 : (N : Int) ≤ 8589934592 := by omega
                cases hq : sumL (fld h (148, 8)) with
                | none =>
                  have HBAD := Lib.hid (HRD.out.trans (by unfold read1; rw [hq]))
                  clear hq hN
                  rw [show (none : Option Nat).isSome = false from rfl]
                  go_wp2_with fail
                  go_step3
                  exact ⟨rfl, HBAD.out, ⟨_, _, _, _, _, HSc.out⟩, u_at _ rfl⟩
                | some q =>
                  obtain rfl := hN q hq
                  replace HRD := Lib.hid (HRD.out.trans (show read1 h = if N ≠ sumH h then none else read2 h by unfold read1; rw [hq]))
                  clear hq hN
                  rw [show (some N : Option Nat).isSome = true from rfl]
                  go_wp2_with fail
                  refine (tarSum_any _ _ h HSc.out.hd (by rw [HL.out]; omega)).mono ?_
                  rintro r w6 ⟨rfl, hb⟩
                  have HS6 := Lib.hid (HSc.out.keep hb)
                  clear hb HSc
                  generalize sumH h = sh at *
                  by_cases hs : N = sh
                  case neg =>
                    have HBAD := Lib.hid (HRD.out.trans (if_pos hs))
                    have hne : ((N : Int) != (sh : Int)) = true := by simp; omega
                    have hne2 : ¬ (N : Int) = (sh : Int) := by omega
                    go_wp2_with fail
                    go_step3
                    exact ⟨rfl, HBAD.out, ⟨_, _, _, _, _, HS6.out⟩, u_at _ rfl⟩
                  case pos =>
                    subst hs
                    replace HRD := Lib.hid (HRD.out.trans (if_neg (by simp)))
                    go_wp2_with fail
                    refine (mode_any _).mono ?_
                    rintro r w6a ⟨rfl, hb⟩
                    have HSa := Lib.hid (HS6.out.keep hb)
                    clear hb HS6
                    go_wp2_with fail
                    refine (in_any w6a 100 8 b o c (by omega) (by omega) (by omega) (by omega)).mono ?_
                    rintro r w6b ⟨rfl, hb⟩
                    have HSb := Lib.hid (HSa.out.keep hb)
                    clear hb HSa
                    go_wp2_with fail
                    refine (number_any w6b _ (fld h (100, 8)) (rd_sub HSb.out.hd 100 8 8 (by omega) (Nat.le_refl _)) 7 (by simp [fld, HL.out]) (by omega)).mono ?_
                    rintro r w6c ⟨M, rfl, hN, hMb, hb⟩
                    have HSc := Lib.hid (HSb.out.keep hb)
                    clear hb HSb
                    have b4 : (M : Int) ≤ 8589934592 := by omega
                    have f2 := HSc.out.free 2
                    have k2 := HSc.out.c2
                    have HS7 := Lib.hid (HSc.out.set2 (.int .i64 (M : Int)))
                    clear HSc
                    cases hq : numL (fld h (100, 8)) with
                    | none =>
                      have HBAD := Lib.hid (HRD.out.trans (by unfold read2; rw [hq]))
                      clear hq hN
                      rw [show (none : Option Nat).isSome = false from rfl]
                      go_wp2_with fail
                      go_step3
                      exact ⟨rfl, HBAD.out, ⟨_, _, _, _, _, HS7.out⟩, u_at _ rfl⟩
                    | some q =>
                      obtain rfl := hN q hq
                      replace HRD := Lib.hid (HRD.out.trans (show read2 h = read3 h M by unfold read2; rw [hq]))
                      clear hq hN
                      rw [show (some M : Option Nat).isSome = true from rfl]
                      go_wp2_with fail
                      clear f2 k2
                      refine (size_any _).mono ?_
                      rintro r w7a ⟨rfl, hb⟩
                      have HSa := Lib.hid (HS7.out.keep hb)
                      clear hb HS7
                      go_wp2_with fail
                      refine (in_any w7a 124 12 b o c (by omega) (by omega) (by omega) (by omega)).mono ?_
                      rintro r w7b ⟨rfl, hb⟩
                      have HSb := Lib.hid (HSa.out.keep hb)
                      clear hb HSa
                      go_wp2_with fail
                      refine (number_any w7b _ (fld h (124, 12)) (rd_sub HSb.out.hd 124 12 12 (by omega) (Nat.le_refl _)) 11 (by simp [fld, HL.out]) (by omega)).mono ?_
                      rintro r w7c ⟨n, rfl, hN, hnb, hb⟩
                      have HSc := Lib.hid (HSb.out.keep hb)
                      clear hb HSb
                      have b5 : (n : Int) ≤ 8589934592 := by omega
                      cases hq : numL (fld h (124, 12)) with
                      | none =>
                        have HBAD := Lib.hid (HRD.out.trans (by unfold read3; rw [hq]))
                        clear hq hN
                        rw [show (none : Option Nat).isSome = false from rfl]
                        go_wp2_with fail
                        go_step3
                        exact ⟨rfl, HBAD.out, ⟨_, _, _, _, _, HSc.out⟩, u_at _ rfl⟩
                      | some q =>
                        obtain rfl := hN q hq
                        replace HRD := Lib.hid (HRD.out.trans (show read3 h M = if 70656 < n then none else read4 h M n by unfold read3; rw [hq]))
                        clear hq hN
                        rw [show (some n : Option Nat).isSome = true from rfl]
                        by_cases hs : 70656 < n
                        case pos =>
                          have HBAD := Lib.hid (HRD.out.trans (if_pos hs))
                          have i1 : (70656 : Int) < (n : Int) := by omega
                          go_wp2_with fail
                          go_step3
                          exact ⟨rfl, HBAD.out, ⟨_, _, _, _, _, HSc.out⟩, u_at _ rfl⟩
                        case neg =>
                          have i1 : ¬ (70656 : Int) < (n : Int) := by omega
                          have i2 : (n : Int) ≤ 70656 := by omega
                          replace HRD := Lib.hid (HRD.out.trans (if_neg hs))
                          have HS8 := HSc
                          clear hs HSc
                          go_wp2_with fail
                          refine (name_any _).mono ?_
                          rintro r w8a ⟨rfl, hb⟩
                          have HSa := Lib.hid (HS8.out.keep hb)
                          clear hb HS8
                          go_wp2_with fail
                          refine (in_any w8a 0 100 b o c (by omega) (by omega) (by omega) (by omega)).mono ?_
                          rintro r w8b ⟨rfl, hb⟩
                          have HSb := Lib.hid (HSa.out.keep hb)
                          clear hb HSa
                          go_wp2_with fail
                          refine (text_any w8b _ (fld h (0, 100)) (rd_sub HSb.out.hd 0 100 100 (by omega) (Nat.le_refl _)) (by simp [fld]; omega)).mono ?_
                          rintro r w8c ⟨rfl, hb⟩
                          have HSc := Lib.hid (HSb.out.keep hb)
                          clear hb HSb
                          generalize hT : Lib.trimRightB (fld h (0, 100)) 0 = tr

                          cases hq : textL (fld h (0, 100)) with
                          | none =>
                            have HBAD := Lib.hid (HRD.out.trans (by unfold read4; rw [hq]))
                            clear hq hT
                            rw [show (none : Option (List UInt8)).isSome = false from rfl]
                            go_wp2_with fail
                            go_step3
                            exact ⟨rfl, HBAD.out, ⟨_, _, _, _, _, HSc.out⟩, u_at _ rfl⟩
                          | some rest =>
                            obtain rfl := (textL_some hq).symm.trans hT
                            rw [show (some rest : Option (List UInt8)).isSome = true from rfl]
                            have HQL := Lib.hid (show rest.length ≤ 100 by rw [← hT]; exact Nat.le_trans (trim_len _) (by simp [fld]; omega))
                            replace HRD := Lib.hid (HRD.out.trans (show read4 h M n = if rest = [] then none else read5 h M n rest by unfold read4; rw [hq]))
                            clear hq hT
                            by_cases hs : rest = []
                            case pos =>
                              have HBAD := Lib.hid (HRD.out.trans (if_pos hs))
                              subst hs
                              have hE := bs_none
                              go_wp2_with fail
                              go_step3
                              exact ⟨rfl, HBAD.out, ⟨_, _, _, _, _, HSc.out⟩, u_at _ rfl⟩
                            case neg =>
                              have hE := bs_some hs
                              replace HRD := Lib.hid (HRD.out.trans (if_neg hs))
                              have HS9 := HSc
                              clear hs HSc
                              go_wp2_with fail
                              refine (prefix_any _).mono ?_
                              rintro r w9a ⟨rfl, hb⟩
                              have HSa := Lib.hid (HS9.out.keep hb)
                              clear hb HS9
                              go_wp2_with fail
                              refine (in_any w9a 345 155 b o c (by omega) (by omega) (by omega) (by omega)).mono ?_
                              rintro r w9b ⟨rfl, hb⟩
                              have HSb := Lib.hid (HSa.out.keep hb)
                              clear hb HSa
                              go_wp2_with fail
                              refine (text_any w9b _ (fld h (345, 155)) (rd_sub HSb.out.hd 345 155 155 (by omega) (Nat.le_refl _)) (by simp [fld]; omega)).mono ?_
                              rintro r w9c ⟨rfl, hb⟩
                              have HSc := Lib.hid (HSb.out.keep hb)
                              clear hb HSb
                              generalize hT : Lib.trimRightB (fld h (345, 155)) 0 = tr

                              cases hq : textL (fld h (345, 155)) with
                              | none =>
                                have HBAD := Lib.hid (HRD.out.trans (by unfold read5; rw [hq]))
                                clear hq hT
                                rw [show (none : Option (List UInt8)).isSome = false from rfl]
                                go_wp2_with fail
                                go_step3
                                exact ⟨rfl, HBAD.out, ⟨_, _, _, _, _, HSc.out⟩, u_at _ rfl⟩
                              | some ahead =>
                                obtain rfl := (textL_some hq).symm.trans hT
                                rw [show (some ahead : Option (List UInt8)).isSome = true from rfl]
                                have HAL := Lib.hid (show ahead.length ≤ 155 by rw [← hT]; exact Nat.le_trans (trim_len _) (by simp [fld]; omega))
                                replace HRD := Lib.hid (HRD.out.trans (show read5 h M n rest = read6 h M n rest ahead by unfold read5; rw [hq]))
                                have HS10 := HSc
                                clear HSc
                                clear hq hT
                                go_wp2_with fail
                                refine (link_any _).mono ?_
                                rintro r w10a ⟨rfl, hb⟩
                                have HSa := Lib.hid (HS10.out.keep hb)
                                clear hb HS10
                                go_wp2_with fail
                                refine (in_any w10a 157 100 b o c (by omega) (by omega) (by omega) (by omega)).mono ?_
                                rintro r w10b ⟨rfl, hb⟩
                                have HSb := Lib.hid (HSa.out.keep hb)
                                clear hb HSa
                                go_wp2_with fail
                                refine (text_any w10b _ (fld h (157, 100)) (rd_sub HSb.out.hd 157 100 100 (by omega) (Nat.le_refl _)) (by simp [fld]; omega)).mono ?_
                                rintro r w10c ⟨rfl, hb⟩
                                have HSc := Lib.hid (HSb.out.keep hb)
                                clear hb HSb
                                generalize hT : Lib.trimRightB (fld h (157, 100)) 0 = tr
                                have f3 := HSc.out.free 3
                                have k3 := HSc.out.c3
                                replace HSc := Lib.hid (HSc.out.set3 (.string (bs tr)))
                                cases hq : textL (fld h (157, 100)) with
                                | none =>
                                  have HBAD := Lib.hid (HRD.out.trans (by unfold read6; rw [hq]))
                                  clear hq hT
                                  rw [show (none : Option (List UInt8)).isSome = false from rfl]
                                  go_wp2_with fail
                                  go_step3
                                  exact ⟨rfl, HBAD.out, ⟨_, _, _, _, _, HSc.out⟩, u_at _ rfl⟩
                                | some link =>
                                  obtain rfl := (textL_some hq).symm.trans hT
                                  rw [show (some link : Option (List UInt8)).isSome = true from rfl]
                                  replace HRD := Lib.hid (HRD.out.trans (show read6 h M n rest ahead = read7 h M n rest ahead link by unfold read6; rw [hq]))
                                  clear hq hT
                                  have HS11 := HSc
                                  clear HSc
                                  have f0 := HS11.out.free 0
                                  have k0 := HS11.out.c0
                                  have HS12 := Lib.hid (HS11.out.set0 (.string (bs rest)))
                                  clear HS11
                                  have b6 := bs_size ahead
                                  have b7 := bs_size rest
                                  have HCAT := Lib.hid (bs_cat ahead rest)
                                  have b8 : (bs ahead ++ ⟨#[47]⟩).size = ahead.length + 1 := by rw [ByteArray.size_append, b6]; rfl
                                  have b9 := HAL.out
                                  have b10 := HQL.out
                                  have m8 : ((bs ahead ++ ⟨#[47]⟩).size : Int) ≤ 156 := by omega
                                  have m7 : ((bs rest).size : Int) ≤ 100 := by omega
                                  have m6 : ((bs ahead).size : Int) ≤ 155 := by omega
                                  obtain ⟨x156, hx156⟩ : ∃ x, h.getD 156 0 = x := ⟨_, rfl⟩
                                  have HX := Lib.hid hx156
                                  clear hx156
                                  by_cases ha : ahead = []
                                  case pos =>
                                    have HNM := Lib.hid (show nameL ahead rest = rest by unfold nameL; rw [if_pos ha])
                                    subst ha
                                    have hE2 := bs_none
                                    have HS13 := Lib.hid (HS12.out.eq0 (y := .string (bs (nameL [] rest))) (by rw [HNM.out]))
                                    clear HS12 HNM
                                    go_wp2_with fail
                                    revert HS13
                                    generalize ((w10c.setCell _ _).setCell _ _) = wk
                                    intro HS13
                                    rw [run_makeMap]
                                    have m1 := km1 wk
                                    have m2 := km2 wk
                                    have m3 := km3 wk
                                    have m4 := km4 wk
                                    have m5 := km5 wk
                                    have HS14 := Lib.hid (HS13.out.keep ((Below.refl wk.heap.size wk).alloc (Nat.le_refl _) (.map kM5 5)))
                                    have c156 : (wk.alloc (.map kM5 5)).cell? ⟨b, o + 156, none⟩ = some (vB x156) := rd_at HS14.out.hd 156 (by rw [HL.out]; omega) HX.out
                                    have kl := km_look wk x156
                                    unfold vB n8 at c156
                                    obtain ⟨q, hq⟩ : ∃ q, q = x156.toNat := ⟨_, rfl⟩
                                    rw [← hq] at c156 kl
                                    have f1 := HS14.out.free 1
                                    have k1 := HS14.out.c1
                                    have HS15 := Lib.hid (HS14.out.set1 (.int .i64 (kindL x156)))
                                    have HRE := Lib.hid (show read7 h M n rest [] link = if rightL ⟨nameL [] rest, kindL x156, (M : Int), link, []⟩ = 0 ∧ (n = 0 ∨ kindL x156 = 1) then some (⟨nameL [] rest, kindL x156, (M : Int), link, []⟩, n) else none by unfold read7; rw [HX.out])
                                    have HNL := Lib.hid (show (nameL [] rest).length ≤ 300 by have h1 := HAL.out; have h2 := HQL.out; unfold nameL; split <;> simp at h1 h2 ⊢ <;> omega)
                                    clear HS13 HS14 hq m6 m7 m8 HCAT HX HAL HQL
                                    generalize nameL [] rest = nm at *
                                    generalize kindL x156 = K at *
                                    have e0 := HS15.out.c0; have e1 := HS15.out.c1; have e2 := HS15.out.c2; have e3 := HS15.out.c3; have e4 := HS15.out.c4
                                    go_wp2_with fail
                                    refine (right_any _ ⟨nm, K, (M : Int), link, []⟩ _ none 0 rfl (by have := HNL.out; simp; omega)).mono ?_
                                    rintro r w20 ⟨rfl, hb⟩
                                    have HS20 := Lib.hid (HS15.out.keep hb)
                                    clear hb HS15 e0 e1 e2 e3 e4 m1 m2 m3 m4 m5 c156 kl f1 k1 HNL
                                    generalize hR : rightL ⟨nm, K, (M : Int), link, []⟩ = R at *
                                    have e0 := HS20.out.c0; have e1 := HS20.out.c1; have e2 := HS20.out.c2; have e3 := HS20.out.c3; have e4 := HS20.out.c4
                                    by_cases h0 : R = 0
                                    case pos =>
                                      rw [h0]
                                      by_cases hn0 : n = 0
                                      case pos =>
                                        have HV := Lib.hid (HRD.out.trans (HRE.out.trans (if_pos ⟨h0, .inl hn0⟩)))
                                        clear HRD HRE h0 hR
                                        have i5 : (n : Int) = 0 := by omega
                                        go_wp2_with (refine wpList_store_row rfl _ _ _ rfl w.heap.size #[.string (bs nm), .int .i64 K, .int .i64 (M : Int), .string (bs link), .slice none 0 0] rfl rfl 31 #[.string (bs nm), .int .i64 K, .int .i64 (M : Int), .string (bs link), .slice none 0 0] HS20.out.row (by kernel_rfl) rfl (by kernel_rfl) ?_)
                                        simp only [Exit.jump]
                                        exact bodyPost_ret (results_ent rfl _ _ w.heap.size #[.string (bs nm), .int .i64 K, .int .i64 (M : Int), .string (bs link), .slice none 0 0] (.int .i64 0) (.bool true) rfl (setRow_heap _ _ _ _ _ _ HS20.out.row) rfl rfl rfl) rfl ⟨by unfold readV; rw [HV.out, hn0]; rfl, below_setRow HS20.out.below (Nat.le_refl _) _⟩
                                      case neg =>
                                        have i5 : ¬ (n : Int) = 0 := by omega
                                        have i6 : ((n : Int) == 0) = false := by simp; omega
                                        by_cases hk1 : K = 1
                                        case pos =>
                                          have HV := Lib.hid (HRD.out.trans (HRE.out.trans (if_pos ⟨h0, .inr hk1⟩)))
                                          clear HRD HRE h0 hR hn0
                                          subst hk1
                                          go_wp2_with (refine wpList_store_row rfl _ _ _ rfl w.heap.size #[.string (bs nm), .int .i64 1, .int .i64 (M : Int), .string (bs link), .slice none 0 0] rfl rfl 31 #[.string (bs nm), .int .i64 1, .int .i64 (M : Int), .string (bs link), .slice none 0 0] HS20.out.row (by kernel_rfl) rfl (by kernel_rfl) ?_)
                                          simp only [Exit.jump]
                                          exact bodyPost_ret (results_ent rfl _ _ w.heap.size #[.string (bs nm), .int .i64 1, .int .i64 (M : Int), .string (bs link), .slice none 0 0] (.int .i64 (n : Int)) (.bool true) rfl (setRow_heap _ _ _ _ _ _ HS20.out.row) rfl rfl rfl) rfl ⟨by unfold readV; rw [HV.out]; rfl, below_setRow HS20.out.below (Nat.le_refl _) _⟩
                                        case neg =>
                                          have HV := Lib.hid (HRD.out.trans (HRE.out.trans (if_neg (fun q => q.2.elim hn0 hk1))))
                                          have i7 : (K == 1) = false := by simp; omega
                                          clear HRD HRE h0 hR hn0
                                          go_wp2_with fail
                                          go_step3
                                          go_wp2_with (refine wpList_store_row rfl _ _ _ rfl w.heap.size #[.string ⟨#[]⟩, .int .i64 0, .int .i64 0, .string ⟨#[]⟩, .slice none 0 0] rfl rfl 31 #[.string (bs nm), .int .i64 K, .int .i64 (M : Int), .string (bs link), .slice none 0 0] HS20.out.row (by kernel_rfl) rfl (by kernel_rfl) ?_)
                                          simp only [Exit.jump]
                                          exact bodyPost_ret (results_ent rfl _ _ w.heap.size #[.string ⟨#[]⟩, .int .i64 0, .int .i64 0, .string ⟨#[]⟩, .slice none 0 0] (.int .i64 0) (.bool false) rfl (setRow_heap _ _ _ _ _ _ HS20.out.row) rfl rfl rfl) rfl ⟨by unfold readV; rw [HV.out], below_setRow HS20.out.below (Nat.le_refl _) _⟩
                                    case neg =>
                                      have HV := Lib.hid (HRD.out.trans (HRE.out.trans (if_neg (fun q => h0 q.1))))
                                      have i7 : (R == 0) = false := by simp; omega
                                      clear HRD HRE hR
                                      go_wp2_with fail
                                      go_step3
                                      go_wp2_with (refine wpList_store_row rfl _ _ _ rfl w.heap.size #[.string ⟨#[]⟩, .int .i64 0, .int .i64 0, .string ⟨#[]⟩, .slice none 0 0] rfl rfl 31 #[.string (bs nm), .int .i64 K, .int .i64 (M : Int), .string (bs link), .slice none 0 0] HS20.out.row (by kernel_rfl) rfl (by kernel_rfl) ?_)
                                      simp only [Exit.jump]
                                      exact bodyPost_ret (results_ent rfl _ _ w.heap.size #[.string ⟨#[]⟩, .int .i64 0, .int .i64 0, .string ⟨#[]⟩, .slice none 0 0] (.int .i64 0) (.bool false) rfl (setRow_heap _ _ _ _ _ _ HS20.out.row) rfl rfl rfl) rfl ⟨by unfold readV; rw [HV.out], below_setRow HS20.out.below (Nat.le_refl _) _⟩
                                  case neg =>
                                    have hE2 := bs_some ha
                                    have HNM := Lib.hid (show nameL ahead rest = ahead ++ [47] ++ rest by unfold nameL; rw [if_neg ha])
                                    have g0 := HS12.out.free 0
                                    have d0 := HS12.out.c0
                                    have HS13 := Lib.hid ((HS12.out.set0 (.string (bs ahead ++ ⟨#[47]⟩ ++ bs rest))).eq0 (y := .string (bs (nameL ahead rest))) (by rw [HNM.out, HCAT.out]))
                                    clear HS12 HNM
                                    go_wp2_with fail
                                    revert HS13
                                    generalize (((w10c.setCell _ _).setCell _ _).setCell _ _) = wk
                                    intro HS13
                                    rw [run_makeMap]
                                    have m1 := km1 wk
                                    have m2 := km2 wk
                                    have m3 := km3 wk
                                    have m4 := km4 wk
                                    have m5 := km5 wk
                                    have HS14 := Lib.hid (HS13.out.keep ((Below.refl wk.heap.size wk).alloc (Nat.le_refl _) (.map kM5 5)))
                                    have c156 : (wk.alloc (.map kM5 5)).cell? ⟨b, o + 156, none⟩ = some (vB x156) := rd_at HS14.out.hd 156 (by rw [HL.out]; omega) HX.out
                                    have kl := km_look wk x156
                                    unfold vB n8 at c156
                                    obtain ⟨q, hq⟩ : ∃ q, q = x156.toNat := ⟨_, rfl⟩
                                    rw [← hq] at c156 kl
                                    have f1 := HS14.out.free 1
                                    have k1 := HS14.out.c1
                                    have HS15 := Lib.hid (HS14.out.set1 (.int .i64 (kindL x156)))
                                    have HRE := Lib.hid (show read7 h M n rest ahead link = if rightL ⟨nameL ahead rest, kindL x156, (M : Int), link, []⟩ = 0 ∧ (n = 0 ∨ kindL x156 = 1) then some (⟨nameL ahead rest, kindL x156, (M : Int), link, []⟩, n) else none by unfold read7; rw [HX.out])
                                    have HNL := Lib.hid (show (nameL ahead rest).length ≤ 300 by have h1 := HAL.out; have h2 := HQL.out; unfold nameL; split <;> simp at h1 h2 ⊢ <;> omega)
                                    clear HS13 HS14 hq m6 m7 m8 HCAT HX HAL HQL
                                    generalize nameL ahead rest = nm at *
                                    generalize kindL x156 = K at *
                                    have e0 := HS15.out.c0; have e1 := HS15.out.c1; have e2 := HS15.out.c2; have e3 := HS15.out.c3; have e4 := HS15.out.c4
                                    go_wp2_with fail
                                    refine (right_any _ ⟨nm, K, (M : Int), link, []⟩ _ none 0 rfl (by have := HNL.out; simp; omega)).mono ?_
                                    rintro r w20 ⟨rfl, hb⟩
                                    have HS20 := Lib.hid (HS15.out.keep hb)
                                    clear hb HS15 e0 e1 e2 e3 e4 m1 m2 m3 m4 m5 c156 kl f1 k1 HNL
                                    generalize hR : rightL ⟨nm, K, (M : Int), link, []⟩ = R at *
                                    have e0 := HS20.out.c0; have e1 := HS20.out.c1; have e2 := HS20.out.c2; have e3 := HS20.out.c3; have e4 := HS20.out.c4
                                    by_cases h0 : R = 0
                                    case pos =>
                                      rw [h0]
                                      by_cases hn0 : n = 0
                                      case pos =>
                                        have HV := Lib.hid (HRD.out.trans (HRE.out.trans (if_pos ⟨h0, .inl hn0⟩)))
                                        clear HRD HRE h0 hR
                                        have i5 : (n : Int) = 0 := by omega
                                        go_wp2_with (refine wpList_store_row rfl _ _ _ rfl w.heap.size #[.string (bs nm), .int .i64 K, .int .i64 (M : Int), .string (bs link), .slice none 0 0] rfl rfl 31 #[.string (bs nm), .int .i64 K, .int .i64 (M : Int), .string (bs link), .slice none 0 0] HS20.out.row (by kernel_rfl) rfl (by kernel_rfl) ?_)
                                        simp only [Exit.jump]
                                        exact bodyPost_ret (results_ent rfl _ _ w.heap.size #[.string (bs nm), .int .i64 K, .int .i64 (M : Int), .string (bs link), .slice none 0 0] (.int .i64 0) (.bool true) rfl (setRow_heap _ _ _ _ _ _ HS20.out.row) rfl rfl rfl) rfl ⟨by unfold readV; rw [HV.out, hn0]; rfl, below_setRow HS20.out.below (Nat.le_refl _) _⟩
                                      case neg =>
                                        have i5 : ¬ (n : Int) = 0 := by omega
                                        have i6 : ((n : Int) == 0) = false := by simp; omega
                                        by_cases hk1 : K = 1
                                        case pos =>
                                          have HV := Lib.hid (HRD.out.trans (HRE.out.trans (if_pos ⟨h0, .inr hk1⟩)))
                                          clear HRD HRE h0 hR hn0
                                          subst hk1
                                          go_wp2_with (refine wpList_store_row rfl _ _ _ rfl w.heap.size #[.string (bs nm), .int .i64 1, .int .i64 (M : Int), .string (bs link), .slice none 0 0] rfl rfl 31 #[.string (bs nm), .int .i64 1, .int .i64 (M : Int), .string (bs link), .slice none 0 0] HS20.out.row (by kernel_rfl) rfl (by kernel_rfl) ?_)
                                          simp only [Exit.jump]
                                          exact bodyPost_ret (results_ent rfl _ _ w.heap.size #[.string (bs nm), .int .i64 1, .int .i64 (M : Int), .string (bs link), .slice none 0 0] (.int .i64 (n : Int)) (.bool true) rfl (setRow_heap _ _ _ _ _ _ HS20.out.row) rfl rfl rfl) rfl ⟨by unfold readV; rw [HV.out]; rfl, below_setRow HS20.out.below (Nat.le_refl _) _⟩
                                        case neg =>
                                          have HV := Lib.hid (HRD.out.trans (HRE.out.trans (if_neg (fun q => q.2.elim hn0 hk1))))
                                          have i7 : (K == 1) = false := by simp; omega
                                          clear HRD HRE h0 hR hn0
                                          go_wp2_with fail
                                          go_step3
                                          go_wp2_with (refine wpList_store_row rfl _ _ _ rfl w.heap.size #[.string ⟨#[]⟩, .int .i64 0, .int .i64 0, .string ⟨#[]⟩, .slice none 0 0] rfl rfl 31 #[.string (bs nm), .int .i64 K, .int .i64 (M : Int), .string (bs link), .slice none 0 0] HS20.out.row (by kernel_rfl) rfl (by kernel_rfl) ?_)
                                          simp only [Exit.jump]
                                          exact bodyPost_ret (results_ent rfl _ _ w.heap.size #[.string ⟨#[]⟩, .int .i64 0, .int .i64 0, .string ⟨#[]⟩, .slice none 0 0] (.int .i64 0) (.bool false) rfl (setRow_heap _ _ _ _ _ _ HS20.out.row) rfl rfl rfl) rfl ⟨by unfold readV; rw [HV.out], below_setRow HS20.out.below (Nat.le_refl _) _⟩
                                    case neg =>
                                      have HV := Lib.hid (HRD.out.trans (HRE.out.trans (if_neg (fun q => h0 q.1))))
                                      have i7 : (R == 0) = false := by simp; omega
                                      clear HRD HRE hR
                                      go_wp2_with fail
                                      go_step3
                                      go_wp2_with (refine wpList_store_row rfl _ _ _ rfl w.heap.size #[.string ⟨#[]⟩, .int .i64 0, .int .i64 0, .string ⟨#[]⟩, .slice none 0 0] rfl rfl 31 #[.string (bs nm), .int .i64 K, .int .i64 (M : Int), .string (bs link), .slice none 0 0] HS20.out.row (by kernel_rfl) rfl (by kernel_rfl) ?_)
                                      simp only [Exit.jump]
                                      exact bodyPost_ret (results_ent rfl _ _ w.heap.size #[.string ⟨#[]⟩, .int .i64 0, .int .i64 0, .string ⟨#[]⟩, .slice none 0 0] (.int .i64 0) (.bool false) rfl (setRow_heap _ _ _ _ _ _ HS20.out.row) rfl rfl rfl) rfl ⟨by unfold readV; rw [HV.out], below_setRow HS20.out.below (Nat.le_refl _) _⟩
end Go.Proofs.YtikhdbdbdldbaaaDoor
