/- The contract of tarfmt.header, of an entry that may be printed. -/
import Derived.Test.YtikhdbdbdldbaaaDoorTarRight
import Derived.Test.YtikhdbdbdldbaaaDoorTarSum
import Derived.Test.YtikhdbdbdldbaaaDoorNums
import Derived.Test.YtikhdbdbdldbaaaDoorPut
import Derived.Lib.BufferWrite
namespace Go.Proofs.YtikhdbdbdldbaaaDoor
open Go.RowKit

theorem HRow.rd {w : World} {b : Nat} {L : List UInt8} (h : HRow w b L) (c : Nat) (hc : L.length ≤ c) : RdB w (.slice (some ⟨b, 0, none⟩) L.length c) L :=
  .inr ⟨⟨b, 0, none⟩, c, by simp, by simpa using hc, fun j u hj => ⟨b, 0, rfl, by
    rw [cell_of_row w b (0 + j) _ _ _ h, List.getElem?_toArray, Nat.zero_add]; exact hj⟩⟩
theorem HRow.fr {S : List Nat} {w w' : World} {b : Nat} {L : List UInt8} (h : HRow w b L) (hf : Fr S w w') (hb : b ∉ S) : HRow w' b L := hf.heap hb h
theorem EBox.fr {w w1 w2 : World} {e : EntD} {v : Value} {S : List Nat} (M : EBox w w1 e v) (hf : Fr S w1 w2) (hS : ∀ k ∈ S, w.heap.size < k) : EBox w w2 e v :=
  ⟨M.below.trans (hf.below (by have := M.lt; omega) (fun k hk => by have := hS k hk; omega)), hf.heap (fun h => by have := hS _ h; omega) M.row⟩
/-- A header under way: the entry's box, the header's row. -/
structure HdSt (w wr : World) (e : EntD) (v : Value) (g : Nat) (L : List UInt8) : Prop where
  box : EBox w wr e v
  row : HRow wr g L
  lt : w.heap.size < g
  len : L.length = 512
theorem HdSt.keep {w wr w2 : World} {e : EntD} {v : Value} {g : Nat} {L : List UInt8} (M : HdSt w wr e v g L) (hb : Below wr.heap.size wr w2) : HdSt w w2 e v g L :=
  ⟨M.box.keep hb, (hb.block _ (Array.getElem?_eq_some_iff.1 M.row).1).trans M.row, M.lt, M.len⟩
theorem HdSt.put {w wr w2 : World} {e : EntD} {v : Value} {g : Nat} {L L' : List UInt8} (M : HdSt w wr e v g L) (hf : Fr [g] wr w2) (hr : HRow w2 g L') (hl : L'.length = 512) : HdSt w w2 e v g L' :=
  ⟨M.box.fr hf (fun k hk => by simp at hk; subst hk; exact M.lt), hr, M.lt, hl⟩
theorem splice_len {L D : List UInt8} {o n : Nat} (hL : L.length = n) (h : o + D.length ≤ n) : (splice L o D).length = n := by rw [length_splice _ _ _ (by omega), hL]
theorem run_copy_row_string_at (w : World) (b o1 dLen dCap : Nat) (l L : List UInt8) (hL : HRow w b L) (hle : l.length ≤ dLen) (hfit : o1 + l.length ≤ L.length) (ty : TypeId) :
    (Builtin.copy_ #[23, 9] ty #[.slice (some ⟨b, o1, none⟩) dLen dCap, .string (bs l)]).run Tryd.prog w = .ok (goInt l.length) (w.setRow b ((splice L o1 l).map vB).toArray) := by
  have h := Lib.run_copy_row_string w 23 9 ty 5 b o1 dLen dCap (bs l) (L.map vB).toArray 5 Tryd.underlying23 (by kernel_rfl) hL (by rw [bs_size]; exact hle) (by rw [bs_size]; simpa using hfit)
  rw [bs_size, bs_list] at h
  rw [h]
  congr 3
  have hb : Lib.byteCells l = l.map vB := rfl
  rw [hb]
  unfold splice
  simp
/-- 'copy(f, s)' of a text that fits. -/
theorem wpList_copy_str {w : World} {ops : Array Oper} {rest : List Oper} {o : Oper} {a : Act} {Q : Exit → Act → World → Prop} (hgd : o.guard = none) (d s : Operand)
    (ho : o.op = .call { callee := .builtin .copy, args := #[d, s], argTypes := #[23, 9] }) (b o1 dLen dCap : Nat) (hd : a.eval d = .slice (some ⟨b, o1, none⟩) dLen dCap) (l : List UInt8) (hs : a.eval s = .string (bs l))
    (L : List UInt8) (hL : HRow w b L) (hle : l.length ≤ dLen) (hfit : o1 + l.length ≤ L.length)
    (h : ∀ w', HRow w' b (splice L o1 l) → Fr [b] w w' → wpList Tryd.prog ops Q rest (a.put o.dst (goInt l.length)) w') : wpList Tryd.prog ops Q (o :: rest) a w := by
  obtain ⟨i0, hi, hz0, hz1, hz2⟩ := info_parts info_byte
  have hrun := run_copy_row_string_at w b o1 dLen dCap l L hL hle hfit o.type
  refine wpList_plain hgd fun K hK => ?_
  unfold Oper.wp
  simp [execOp, ho, resolve, invoke, builtin, hd, hs, hrun, Result.andThen]
  exact hK _ _ (h _ (by
    unfold HRow at *
    rw [setRow_heap _ _ _ _ _ _ hL]) ⟨rfl, rfl, rfl, by simp [World.setRow], fun k hk hn => setRow_other w b k _ (by simpa using hn)⟩)
theorem parted_len {l : List UInt8} {p : List UInt8 × List UInt8} (h : partedL l = some p) : p.1.length ≤ 155 ∧ p.2.length ≤ 100 := by
  unfold partedL at h
  split at h
  · rename_i hl
    simp only [Option.some.injEq] at h; subst h; exact ⟨by simp, hl⟩
  · split at h
    · cases h
    · rename_i i hi
      split at h
      · cases h
      · rename_i hc
        simp only [Option.some.injEq] at h; subst h
        have := lastSl_lt hi
        simp only [List.length_take] at this ⊢
        simp only [List.length_drop]
        omega
theorem hrow_of_make {w : World} {B : Nat} {g n : Nat} {xs : List UInt8} (h : w.ownsRow B 5 1 (.slice (some ⟨g, 0, none⟩) n n) n (xs.map vB)) (_ : 0 < n) : HRow w g xs ∧ B ≤ g := by
  obtain ⟨hl, h⟩ := h
  rcases h with ⟨h1, _⟩ | ⟨g', cap, cur, hv, hb, hg, hn, hm, hs, ht⟩
  · cases h1
  · simp only [Value.slice.injEq, Option.some.injEq, Addr.mk.injEq] at hv
    obtain ⟨⟨rfl, _, _⟩, _, rfl⟩ := hv
    refine ⟨?_, hb⟩
    unfold HRow
    rw [hg]
    congr 2
    apply Array.ext'
    simp only [Nat.mul_one] at ht
    rw [← ht, List.take_of_length_le (by simp; omega)]
theorem zerV : (madeCells (Value.int .u8 0).cells (512 * 1)).toList = (zer 512).map vB := by kernel_rfl
set_option maxRecDepth 100000 in
set_option maxHeartbeats 4000000 in
theorem header_any (w : World) (e : EntD) (a : Option Addr) (cap : Nat) (p : List UInt8 × List UInt8) (hp : partedL e.name = some p) (hk : 1 ≤ e.kind) (hk4 : e.kind ≤ 4) (hm : 0 ≤ e.mode) (hm4 : e.mode ≤ 4095) (hd : e.data.length ≤ 70656) (hlk : e.link.length ≤ 100) (hl : e.name.length ≤ 9223372036854775807) :
    Calls Tryd.prog 22 #[eV e (.slice a e.data.length cap)] w fun r w' => ∃ g, r = .returned (.slice (some ⟨g, 0, none⟩) 512 512) ∧ w.heap.size ≤ g ∧ HRow w' g (headerL e) ∧ Below w.heap.size w w' := by
  have hpl := parted_len hp
  have HH := Lib.hid (hdC_eq p e hp hpl.1 hpl.2 hlk)
  have M := Lib.hid (ebox_new w e (.slice a e.data.length cap))
  have HC := Lib.hid (fun w => parted_any w e.name hl)
  rw [show partedV e.name = .tuple #[.string (bs p.1), .string (bs p.2), .bool true] by unfold partedV; rw [hp]] at HC
  have HPL := Lib.hid hpl; have HK := Lib.hid (And.intro hk hk4); obtain ⟨m, hmm⟩ : ∃ m : Nat, e.mode = (m : Int) := ⟨e.mode.toNat, by omega⟩
  have HM := Lib.hid (show m ≤ 4095 ∧ e.mode = (m : Int) ∧ e.mode.toNat = m by omega)
  clear hmm
  have HD := Lib.hid hd; have HLK := Lib.hid hlk
  obtain ⟨i0, hi, hz0, hz1, hz2⟩ := info_parts info_byte
  clear hp hpl hk hk4 hm hm4 hd hlk hl
  unfold eV
  go_enter Tryd.func22, Tryd.ntmps22
  go_wp2_with (refine wpList_make_full _ rfl _ _ 23 rfl w.heap.size 5 i0 (.int .u8 0) 1 Tryd.underlying23 hi hz0 hz1 _ _ 512 512 512 rfl rfl rfl rfl ?b2 ?b3 ?b4 ?_)
  case b2 => rw [hz2]; omega
  case b3 => simp only [maxLen]; omega
  case b4 => simp
  intro w1 hown hgr
  have HS := Lib.hid (show HdSt w w1 e (.slice a e.data.length cap) (w.heap.size + 1) (zer 512) from
    ⟨M.out.keep (below_grown hgr (Nat.le_refl _) (fun k hk => by cases hk)), (hrow_of_make (xs := zer 512) (by rw [← zerV]; exact hown) (by omega)).1, by omega, zer_len 512⟩)
  clear hown hgr M hi hz0 hz1 hz2
  generalize w.heap.size + 1 = g at *
  have k0 := HS.out.box.c0
  go_wp2_with fail
  refine (HC.out w1).mono ?_
  rintro r w2 ⟨rfl, hb⟩
  have HS2 := Lib.hid (HS.out.keep hb)
  clear HS hb k0 HC
  go_wp2_with fail
  refine (prefix_any _).mono ?_
  rintro r w3 ⟨rfl, hb⟩
  have HS3 := Lib.hid (HS2.out.keep hb)
  clear HS2 hb
  go_wp2_with fail
  refine (in_any _ 345 155 g 0 512 (by omega) (by omega) (by omega) (by omega)).mono ?_
  rintro r w4 ⟨rfl, hb⟩
  have HS4 := Lib.hid (HS3.out.keep hb)
  clear HS3 hb
  go_wp2_with (refine wpList_copy_str rfl (.tmp 19) (.tmp 20) rfl g 345 155 155 rfl p.1 rfl (zer 512) HS4.out.row HPL.out.1 (by rw [zer_len]; have := HPL.out.1; omega) ?_)
  intro w5 hr hf
  obtain ⟨L1, hL1⟩ : ∃ L1, L1 = splice (zer 512) 345 p.1 := ⟨_, rfl⟩
  have HS5 := Lib.hid (HS4.out.put hf hr (splice_len (zer_len 512) (by have := HPL.out.1; omega)))
  rw [← hL1] at HS5
  have HL1 := Lib.hid hL1
  clear HS4 hf hr hL1
  go_wp2_with fail
  refine (name_any _).mono ?_
  rintro r w6 ⟨rfl, hb⟩
  have HS6 := Lib.hid (HS5.out.keep hb)
  clear HS5 hb
  go_wp2_with fail
  refine (in_any _ 0 100 g 0 512 (by omega) (by omega) (by omega) (by omega)).mono ?_
  rintro r w7 ⟨rfl, hb⟩
  have HS7 := Lib.hid (HS6.out.keep hb)
  clear HS6 hb
  go_wp2_with (refine wpList_copy_str rfl (.tmp 24) (.tmp 25) rfl g 0 100 100 rfl p.2 rfl L1 HS7.out.row HPL.out.2 (by rw [HS7.out.len]; have := HPL.out.2; omega) ?_)
  intro w8 hr hf
  obtain ⟨L2, hL2⟩ : ∃ L2, L2 = splice L1 0 p.2 := ⟨_, rfl⟩
  have HS8 := Lib.hid (HS7.out.put hf hr (splice_len HS7.out.len (by have := HPL.out.2; omega)))
  rw [← hL2] at HS8
  have HL2 := Lib.hid hL2
  clear HS7 hf hr hL2
  have hne := cl_some w8
  have c3 : ∀ q : ClT w8, q.w.cell? ⟨w.heap.size, 3, none⟩ = some (.string (bs e.link)) := cl_cell HS8.out.box.c3
  have C1 : Hid (∀ q : ClT w8, _) := cl_call (W := w8) (f := 26) (args := #[]) (E := .returned (.agg #[.int .i64 157, .int .i64 100])) (fun wx h => link_any wx)
  have C2 : Hid (∀ q : ClT w8, _) := cl_call (W := w8) (f := 33) (args := #[.agg #[.int .i64 157, .int .i64 100], .slice (some ⟨g, 0, none⟩) 512 512]) (E := .returned (.slice (some ⟨g, 157, none⟩) 100 100)) (fun wx h => by
    have := in_any wx 157 100 g 0 512 (by omega) (by omega) (by omega) (by omega)
    rwa [Nat.zero_add] at this)
  go_wp2_with fail
  refine wp_region_clast (fun q : ClT w8 => q.w) 5 (by kernel_rfl) (by kernel_rfl) (cl_start w8) ?_
  simp only [List.take_succ_cons, List.take_zero, List.drop_succ_cons, List.drop_zero]
  go_big_quiet_step (exact C1.out _)
  go_big_quiet_step (fail)
  go_big_quiet_step (exact C2.out _)
  repeat (go_big_quiet_step (fail))
  refine wpQuiet_nil ?_
  intro w' hw'
  obtain ⟨q, rfl⟩ := hw'
  have HS9 := Lib.hid (HS8.out.keep q.2)
  clear HS8 C1 C2 c3
  revert HS9
  rw [show q.1 = q.w from rfl]
  generalize q.w = w9
  clear q hne
  intro HS9
  go_wp2_with (refine wpList_copy_str rfl (.tmp 29) (.tmp 31) rfl g 157 100 100 rfl e.link rfl L2 HS9.out.row HLK.out (by rw [HS9.out.len]; have := HLK.out; omega) ?_)
  intro w10 hr hf
  obtain ⟨L3, hL3⟩ : ∃ L3, L3 = splice L2 157 e.link := ⟨_, rfl⟩
  have HS10 := Lib.hid (HS9.out.put hf hr (splice_len HS9.out.len (by have := HLK.out; omega)))
  rw [← hL3] at HS10
  have HL3 := Lib.hid hL3
  clear HS9 hf hr hL3
  go_wp2_with (refine wpList_copy_str rfl (.tmp 34) (.const (.string (bs magicL))) rfl g 257 255 255 rfl magicL rfl L3 HS10.out.row (by simp [magicL]) (by rw [HS10.out.len]; simp [magicL]) ?_)
  intro w11 hr hf
  obtain ⟨L4, hL4⟩ : ∃ L4, L4 = splice L3 257 magicL := ⟨_, rfl⟩
  have HS11 := Lib.hid (HS10.out.put hf hr (splice_len HS10.out.len (by simp [magicL])))
  rw [← hL4] at HS11
  have HL4 := Lib.hid hL4
  clear HS10 hf hr hL4
  have hne := cl_some w11
  have c2 : ∀ q : ClT w11, q.w.cell? ⟨w.heap.size, 2, none⟩ = some (.int .i64 (m : Int)) := cl_cell (by rw [← HM.out.2.1]; exact HS11.out.box.c2)
  have C1 : Hid (∀ q : ClT w11, _) := cl_call (W := w11) (f := 36) (args := #[]) (E := .returned (.agg #[.int .i64 100, .int .i64 8])) (fun wx h => mode_any wx)
  have C2 : Hid (∀ q : ClT w11, _) := cl_call (W := w11) (f := 33) (args := #[.agg #[.int .i64 100, .int .i64 8], .slice (some ⟨g, 0, none⟩) 512 512]) (E := .returned (.slice (some ⟨g, 100, none⟩) 8 8)) (fun wx h => by
    have := in_any wx 100 8 g 0 512 (by omega) (by omega) (by omega) (by omega)
    rwa [Nat.zero_add] at this)
  go_wp2_with fail
  refine wp_region_clast (fun q : ClT w11 => q.w) 5 (by kernel_rfl) (by kernel_rfl) (cl_start w11) ?_
  simp only [List.take_succ_cons, List.take_zero, List.drop_succ_cons, List.drop_zero]
  go_big_quiet_step (exact C1.out _)
  go_big_quiet_step (fail)
  go_big_quiet_step (exact C2.out _)
  repeat (go_big_quiet_step (fail))
  refine wpQuiet_nil ?_
  intro w' hw'
  obtain ⟨q, rfl⟩ := hw'
  have HS12 := Lib.hid (HS11.out.keep q.2)
  clear HS11 C1 C2 c2
  revert HS12
  rw [show q.1 = q.w from rfl]
  generalize q.w = w12
  clear q hne
  intro HS12
  go_wp2_with fail
  refine (put_any w12 g 100 8 m L4 HS12.out.row (by omega) (by omega) (by rw [HS12.out.len]; omega) (by have := HM.out; omega)).mono ?_
  rintro r w13 ⟨rfl, hr, hf⟩
  obtain ⟨L5, hL5⟩ : ∃ L5, L5 = splice L4 100 (digs m (8 - 1)) := ⟨_, rfl⟩
  have HS13 := Lib.hid (HS12.out.put hf hr (splice_len HS12.out.len (by rw [digs_len]; omega)))
  rw [← hL5] at HS13
  have HL5 := Lib.hid hL5
  clear HS12 hf hr hL5
  have hne := cl_some w13
  have c4 : ∀ q : ClT w13, q.w.cell? ⟨w.heap.size, 4, none⟩ = some (.slice a e.data.length cap) := cl_cell HS13.out.box.c4
  have C1 : Hid (∀ q : ClT w13, _) := cl_call (W := w13) (f := 37) (args := #[]) (E := .returned (.agg #[.int .i64 124, .int .i64 12])) (fun wx h => size_any wx)
  have C2 : Hid (∀ q : ClT w13, _) := cl_call (W := w13) (f := 33) (args := #[.agg #[.int .i64 124, .int .i64 12], .slice (some ⟨g, 0, none⟩) 512 512]) (E := .returned (.slice (some ⟨g, 124, none⟩) 12 12)) (fun wx h => by
    have := in_any wx 124 12 g 0 512 (by omega) (by omega) (by omega) (by omega)
    rwa [Nat.zero_add] at this)
  go_wp2_with fail
  refine wp_region_clast (fun q : ClT w13 => q.w) 6 (by kernel_rfl) (by kernel_rfl) (cl_start w13) ?_
  simp only [List.take_succ_cons, List.take_zero, List.drop_succ_cons, List.drop_zero]
  go_big_quiet_step (exact C1.out _)
  go_big_quiet_step (fail)
  go_big_quiet_step (exact C2.out _)
  repeat (go_big_quiet_step (fail))
  refine wpQuiet_nil ?_
  intro w' hw'
  obtain ⟨q, rfl⟩ := hw'
  have HS14 := Lib.hid (HS13.out.keep q.2)
  clear HS13 C1 C2 c4
  revert HS14
  rw [show q.1 = q.w from rfl]
  generalize q.w = w14
  clear q hne
  intro HS14
  go_wp2_with fail
  refine (put_any w14 g 124 12 e.data.length L5 HS14.out.row (by omega) (by omega) (by rw [HS14.out.len]; omega) (by have := HD.out; omega)).mono ?_
  rintro r w15 ⟨rfl, hr, hf⟩
  obtain ⟨L6, hL6⟩ : ∃ L6, L6 = splice L5 124 (digs e.data.length (12 - 1)) := ⟨_, rfl⟩
  have HS15 := Lib.hid (HS14.out.put hf hr (splice_len HS14.out.len (by rw [digs_len]; omega)))
  rw [← hL6] at HS15
  have HL6 := Lib.hid hL6
  clear HS14 hf hr hL6
  go_wp2_with fail
  refine (numbers_any w15).mono ?_
  rintro r w16 ⟨g2, rfl, hg2, hn2, hb⟩
  have HS16 := Lib.hid (HS15.out.keep hb)
  have hgn : g ≠ g2 := by have := (Array.getElem?_eq_some_iff.1 HS15.out.row).1; omega
  have HGN := Lib.hid hgn; have HN2 := Lib.hid hn2
  clear HS15 hb hg2 hn2 hgn
  go_wp2_with fail
  go_loopw [51] (fun i wr => ∃ j : Nat, j ≤ 5 ∧ i = .int .i64 (j : Int) ∧ HdSt w wr e (.slice a e.data.length cap) g (put0 L6 (numsL.take j)) ∧ wr.heap[g2]? = some (.cells (spC numsL).toArray 53 (0, 0))) (fun i _ => (5 - intOf i).toNat)
  case atStart => exact ⟨0, by omega, by simp, by simpa [put0] using HS16.out, HN2.out⟩
  case round =>
    obtain ⟨j, hj, rfl, hS, hN⟩ := hrel
    have HSr := Lib.hid hS; have HNr := Lib.hid hN
    clear hS hN HS16 HN2
    by_cases hlt : j < 5
    · obtain ⟨x, n, hx, hn2, hn12, hxn, hput⟩ : ∃ x n : Nat, numsL[j]? = some (x, n) ∧ 2 ≤ n ∧ n ≤ 12 ∧ x + n ≤ 345 ∧ numsL.take (j + 1) = numsL.take j ++ [(x, n)] := by
        have : j = 0 ∨ j = 1 ∨ j = 2 ∨ j = 3 ∨ j = 4 := by omega
        rcases this with rfl | rfl | rfl | rfl | rfl <;> exact ⟨_, _, rfl, by omega, by omega, by omega, rfl⟩
      have hrg := span_range HNr.out j (x, n) hx
      have hc0 : wr.cell? ⟨g2, j * 2, none⟩ = some (.int .i64 (x : Int)) := by have := hrg 0 _ rfl; rwa [show 2 * j + 0 = j * 2 by omega] at this
      have hc1 : wr.cell? ⟨g2, j * 2 + 1, none⟩ = some (.int .i64 (n : Int)) := by have := hrg 1 _ rfl; rwa [show 2 * j + 1 = j * 2 + 1 by omega] at this
      clear hrg
      have i0 : (j : Int) < 5 := by omega
      have HP := Lib.hid hput; have HX := Lib.hid (And.intro hn2 (And.intro hn12 hxn))
      clear hx hput hn2 hn12 hxn hlt hj
      go_wp2_with fail
      have HS20 := Lib.hid (HSr.out.keep ((Below.refl wr.heap.size wr).alloc (Nat.le_refl _) (.cells #[.int .i64 (x : Int), .int .i64 (n : Int)] 53)))
      have HN20 := Lib.hid (show (wr.alloc (.cells #[.int .i64 (x : Int), .int .i64 (n : Int)] 53)).heap[g2]? = _ from (((Below.refl wr.heap.size wr).alloc (Nat.le_refl _) (.cells #[.int .i64 (x : Int), .int .i64 (n : Int)] 53)).block g2 (Array.getElem?_eq_some_iff.1 HNr.out).1).trans HNr.out)
      revert HS20 HN20
      generalize wr.alloc (.cells #[.int .i64 (x : Int), .int .i64 (n : Int)] 53) = w20
      intro HS20 HN20
      have hin := in_any w20 x n g 0 512 (by have := HX.out; omega) (by have := HX.out; omega) (by omega) (by omega)
      rw [Nat.zero_add] at hin
      refine hin.mono ?_
      clear hin hc0 hc1
      rintro r w21 ⟨rfl, hb⟩
      have HS21 := Lib.hid (HS20.out.keep hb)
      have HN21 := Lib.hid ((hb.block g2 (Array.getElem?_eq_some_iff.1 HN20.out).1).trans HN20.out)
      clear HS20 HN20 hb
      go_wp2_with fail
      refine (put_any w21 g x n 0 _ HS21.out.row (by have := HX.out; omega) (by have := HX.out; omega) (by rw [HS21.out.len]; have := HX.out; omega) (by omega)).mono ?_
      rintro r w22 ⟨rfl, hr, hf⟩
      have HS22 := Lib.hid (HS21.out.put hf hr (splice_len HS21.out.len (by rw [digs_len]; have := HX.out; omega)))
      have HN22 := Lib.hid (hf.heap (by simp; exact fun h => HGN.out h.symm) HN21.out)
      rw [show splice (put0 L6 (numsL.take j)) x (digs 0 (n - 1)) = put0 L6 (numsL.take (j + 1)) by rw [HP.out]; simp [put0, List.foldl_append]] at HS22
      clear HS21 HN21 hf hr HP HX HSr HNr
      go_wp2_with fail
      exact ⟨⟨j + 1, by omega, by simp, HS22.out, HN22.out⟩, by simp [intOf]; omega⟩
    · obtain rfl : j = 5 := by omega
      obtain ⟨L7, hL7⟩ : ∃ L7, L7 = put0 L6 numsL := ⟨_, rfl⟩
      have HS17 := Lib.hid (show HdSt w wr e (.slice a e.data.length cap) g L7 by rw [hL7]; exact HSr.out)
      have HL7 := Lib.hid hL7
      have k1 := HS17.out.box.c1
      clear HSr HNr hL7 hlt hj
      go_wp2_with fail
      refine (types_any wr e.kind HK.out.1 HK.out.2).mono ?_
      rintro r w30 ⟨rfl, hb⟩
      have HS30 := Lib.hid (HS17.out.keep hb)
      obtain ⟨kv, hkv⟩ : ∃ kv, vB (kindB e.kind) = .int .u8 kv := ⟨_, rfl⟩
      rw [hkv]
      clear HS17 hb k1
      obtain ⟨old, hcell⟩ : ∃ old, w30.cell? ⟨g, 156, none⟩ = some old := ⟨_, HS30.out.row.cell 156 (by rw [HS30.out.len]; omega)⟩
      have hfree := HS30.out.row.free 156
      obtain ⟨L8, hL8⟩ : ∃ L8, L8 = L7.set 156 (kindB e.kind) := ⟨_, rfl⟩
      have HS31 := Lib.hid (HS30.out.put ((Fr.refl [g] w30).setCell (p := ⟨g, 156, none⟩) (.inl (by simp)) (vB (kindB e.kind))) (HS30.out.row.set 156 (kindB e.kind)) (by rw [List.length_set]; exact HS30.out.len))
      rw [← hL8, hkv] at HS31
      have HL8 := Lib.hid hL8
      clear hL8 HS30 hkv
      go_wp2_with fail
      revert HS31
      generalize w30.setCell ⟨g, 156, none⟩ (.int .u8 kv) = w31
      intro HS31
      clear hcell hfree
      refine (sum_any w31).mono ?_
      rintro r w32 ⟨rfl, hb⟩
      have HS32 := Lib.hid (HS31.out.keep hb)
      clear HS31 hb
      go_wp2_with fail
      refine (in_any _ 148 8 g 0 512 (by omega) (by omega) (by omega) (by omega)).mono ?_
      rintro r w33 ⟨rfl, hb⟩
      have HS33 := Lib.hid (HS32.out.keep hb)
      clear HS32 hb
      go_wp2_with fail
      refine (tarSum_any w33 (.slice (some ⟨g, 0, none⟩) 512 512) L8 (by have h := HS33.out.row.rd 512 (by rw [HS33.out.len]; omega); rw [HS33.out.len] at h; exact h) (by rw [HS33.out.len]; omega)).mono ?_
      rintro r w34 ⟨rfl, hb⟩
      have HS34 := Lib.hid (HS33.out.keep hb)
      clear HS33 hb
      have hs : sumH L8 ≤ 130560 := by rw [← sumTo_512 L8 HS34.out.len]; have := sumTo_le 0 L8; rw [HS34.out.len] at this; omega
      go_wp2_with fail
      refine (put_any w34 g 148 8 (sumH L8) L8 HS34.out.row (by omega) (by omega) (by rw [HS34.out.len]; omega) (by omega)).mono ?_
      rintro r w35 ⟨rfl, hr, hf⟩
      have HS35 := Lib.hid (HS34.out.put hf hr (splice_len HS34.out.len (by rw [digs_len]; omega)))
      clear HS34 hf hr hs
      have HE := Lib.hid (show splice L8 148 (digs (sumH L8) (8 - 1)) = headerL e by
        rw [← HH.out]; unfold hdC hdB hdA
        rw [← HL1.out, ← HL2.out, ← HL3.out, ← HL4.out, HM.out.2.2, ← HL5.out, ← HL6.out, ← HL7.out, ← HL8.out])
      rw [HE.out] at HS35
      clear HE HL1 HL2 HL3 HL4 HL5 HL6 HL7 HL8 HH
      go_wp2_with fail
      go_ret
      exact ⟨g, ret_eq (by simp), Nat.le_of_lt HS35.out.lt, HS35.out.row, HS35.out.box.below⟩
end Go.Proofs.YtikhdbdbdldbaaaDoor
