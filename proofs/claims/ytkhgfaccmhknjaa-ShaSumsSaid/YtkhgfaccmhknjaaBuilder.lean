/- Contracts of a strings.Builder's copyCheck and WriteByte: a builder in a block of the call's own. -/
import Derived.Test.YtkhgfaccmhknjaaCrc
import Derived.Test.YtkhgfaccmhknjaaAppZ
import Derived.Lib.Builder
namespace Go.Proofs.Ytkhgfaccmhknjaa
open Go.RowKit

theorem info_builder : ∃ j, Try.prog.info? 64 = some j ∧ j.size = 2 := by
  have h : (Try.prog.info? 64).map (·.size) = some 2 := by kernel_rfl
  obtain ⟨j, hj, hs⟩ := Option.map_eq_some_iff.1 h
  exact ⟨j, hj, hs⟩
theorem lies_builder : liesAt Try.prog Try.prog.depth 64 (2 / Try.prog.cellsOf 64) 0 64 1 = true := by kernel_rfl

set_option maxHeartbeats 1000000 in
theorem copyCheck_used (b : Nat) (w : World) (h0 : w.cell? ⟨b, 0, none⟩ = some (.pointer (some ⟨b, 0, none⟩))) :
    Calls Try.prog 36 #[.pointer (some ⟨b, 0, none⟩)] w fun e w' => e = .returned (.tuple #[]) ∧ w = w' := by
  obtain ⟨j, hj, hjs⟩ := info_builder
  have HJ := Lib.hid hj; have HS := Lib.hid hjs
  clear hj hjs
  go_enter Try.func36, Try.ntmps36
  go_wp2
  rw [Lib.run_neq_ptr_same w _ Try.underlying62 HJ.out]
  go_wp2
  go_end0
  exact ⟨rfl, rfl⟩

set_option maxHeartbeats 1000000 in
theorem copyCheck_fresh (b : Nat) (w : World) (h0 : w.cell? ⟨b, 0, none⟩ = some (.pointer none)) (hsh : w.shape? b = some (64, 2)) (hfz : w.frozen? ⟨b, 0, none⟩ = false) :
    Calls Try.prog 36 #[.pointer (some ⟨b, 0, none⟩)] w fun e w' => e = .returned (.tuple #[]) ∧ w.setCell ⟨b, 0, none⟩ (.pointer (some ⟨b, 0, none⟩)) = w' := by
  obtain ⟨j, hj, hjs⟩ := info_builder
  have HJ := Lib.hid hj; have HS := Lib.hid hjs
  clear hj hjs
  go_enter Try.func36, Try.ntmps36
  go_wp2
  rw [Lib.run_to_unsafe w ⟨b, 0, none⟩ Try.underlying62 Try.underlying71 HJ.out (by rw [HS.out]; decide) hsh (Nat.zero_lt_succ 1)]
  simp only [Result.andThen]
  rw [Oper.upon_value]
  go_wp2
  rw [run_callFunc_extern Try.func38 (by kernel_rfl) (by kernel_rfl) (by kernel_rfl) (e := Extern.AbiNoEscape.same) (by kernel_rfl)]
  rw [Lib.run_noEscape]
  simp only [Result.andThen]
  rw [Oper.upon_value]
  go_wp2
  rw [Lib.run_from_unsafe w ⟨b, 0, none⟩ Try.underlying71 Try.underlying62 HJ.out hsh lies_builder]
  simp only [Result.andThen]
  rw [Oper.upon_value]
  go_wp2
  go_end0
  exact ⟨rfl, rfl⟩

theorem copyCheck_any (B b : Nat) (bs : List Value) (w : World) (h : Lib.IsBuilder 64 5 B b bs w) :
    Calls Try.prog 36 #[.pointer (some ⟨b, 0, none⟩)] w fun e w' => e = .returned (.tuple #[]) ∧ Lib.BuilderAt 64 5 B b (.pointer (some ⟨b, 0, none⟩)) bs w' ∧ Below B w w' := by
  rcases h with h | h
  · refine (copyCheck_fresh b w h.cell0 h.shape h.frozen0).mono ?_
    rintro e w' ⟨rfl, rfl⟩
    exact ⟨rfl, h.used _, (Below.refl B w).setCell (p := ⟨b, 0, none⟩) h.1 _⟩
  · refine (copyCheck_used b w h.cell0).mono ?_
    rintro e w' ⟨rfl, rfl⟩
    exact ⟨rfl, h, Below.refl B _⟩

set_option maxHeartbeats 1000000 in
theorem writeByte_any (B b : Nat) (l : List UInt8) (c : UInt8) (w : World) (h : Lib.IsBuilder 64 5 B b (l.map vB) w) (hB : B ≤ w.heap.size) (hl : l.length + 1 ≤ 140737488355328) :
    Calls Try.prog 32 #[.pointer (some ⟨b, 0, none⟩), .int .u8 (n8 c)] w fun e w' => e = .returned .nilIface ∧ Lib.IsBuilder 64 5 B b ((l ++ [c]).map vB) w' ∧ Below B w w' := by
  obtain ⟨i0, hi, hz0, hz1, hz2⟩ := info_parts info_u8
  go_enter Try.func32, Try.ntmps32
  go_wp2_with fail
  refine (copyCheck_any B b _ w h).mono ?_
  rintro e w1 ⟨rfl, h1, hb1⟩
  obtain ⟨hBb, v, hbk, hown, hne⟩ := h1
  have k1 : w1.cell? ⟨b, 1, none⟩ = some v := (cell_of_row w1 b 1 _ _ _ hbk).trans rfl
  have hlt := (Array.getElem?_eq_some_iff.1 hbk).1
  have O := Lib.hid (hown.alloc (.cells #[.int .u8 (n8 c)] 5))
  have HB := Lib.hid hb1; have HK := Lib.hid hbk
  have hsz : B ≤ w1.heap.size := Nat.le_trans hB hb1.size
  have hL : (l.map vB).length = l.length := by simp
  rw [hL] at O
  clear hown hb1 hbk h hL
  go_wp2_with (refine wpList_app rfl _ _ 22 rfl B 5 i0 (.int .u8 0) 1 Try.underlying22 hi hz0 hz1 hz2 rfl v _ _ rfl O.out _ [.int .u8 (n8 c)] rfl (RdV_one _ _ _) ?c1 ?c2 (by omega) ?c3 ?_)
  case c1 => intro u hu; rw [List.mem_singleton.1 hu]; rfl
  case c2 => simp; omega
  case c3 => simp; omega
  intro v2 w2 hown hgr
  have e1 : l.map vB ++ [Value.int .u8 (n8 c)] = (l ++ [c]).map vB := by simp [vB]
  have e2 : l.length + 1 = ((l ++ [c]).map vB).length := by simp
  rw [e1, e2] at hown
  have hb2 : w2.heap[b]? = some (.cells #[.pointer (some ⟨b, 0, none⟩), v] 64 (0, 0)) := by
    rw [hgr.block b (by simp; omega) (fun e => hne e.symm), Below.heap_alloc _ _ _ hlt]; exact HK.out
  have d1 : w2.cell? ⟨b, 1, none⟩ = some v := (cell_of_row w2 b 1 _ _ _ hb2).trans rfl
  have f1 := frozen_of_row w2 b 1 _ _ hb2
  have hbelow : Below B w w2 := (HB.out.trans ((Below.refl _ _).alloc hsz _)).grown hgr (by simp; omega) (fun k hk => (World.ownsRow.lt O.out k hk).1)
  have hv2 : v2.ownBlock ≠ some b := by
    intro e
    rcases hown.2 with ⟨rfl, _⟩ | ⟨g, cap, cur, rfl, _, hg, _⟩
    · cases e
    · have : g = b := Option.some.inj e
      subst this
      rw [hb2] at hg
      simp at hg
  obtain ⟨va, vn, vc, rfl⟩ : ∃ va vn vc, v2 = .slice va vn vc := by
    rcases hown.2 with ⟨rfl, _⟩ | ⟨g, cap, cur, rfl, _⟩
    · exact ⟨_, _, _, rfl⟩
    · exact ⟨_, _, _, rfl⟩
  have hfin : Lib.IsBuilder 64 5 B b ((l ++ [c]).map vB) (w2.setCell ⟨b, 1, none⟩ (.slice va vn vc)) := by
    refine .inr ⟨hBb, .slice va vn vc, ?_, ?_, hv2⟩
    · rw [heap_setCell_same _ _ _ _ _ _ hb2]; rfl
    · exact hown.kept (row := some b) ⟨rfl, rfl, rfl, by simp [World.setCell], fun k _ hk => heap_setCell_other _ _ _ _ (fun e => hk (by rw [e]))⟩ (.inr hv2)
  have HF := Lib.hid hfin; have HBL := Lib.hid (hbelow.setCell (p := ⟨b, 1, none⟩) hBb (.slice va vn vc))
  clear hown hgr e1 e2 hb2 hbelow hv2 hfin O HB HK
  go_wp2
  go_ret
  exact ⟨rfl, HF.out, HBL.out⟩
end Go.Proofs.Ytkhgfaccmhknjaa
