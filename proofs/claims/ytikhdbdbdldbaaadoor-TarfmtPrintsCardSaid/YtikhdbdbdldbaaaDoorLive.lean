/- The contract of the laws' live. -/
import Derived.Test.YtikhdbdbdldbaaaDoorLiveLaw
import Derived.Test.YtikhdbdbdldbaaaDoorPrint
import Derived.Test.YtikhdbdbdldbaaaDoorParse
import Derived.Lib.SlBytesConst
import Derived.BigQuiet
namespace Go.Proofs.YtikhdbdbdldbaaaDoor
open Go.RowKit

theorem ans_slice {w : World} {B : Nat} {v : Value} {l : List UInt8} (h : Ans w B v l) (hne : l ≠ []) (hl : l.length ≤ 9223372036854775807) : ∃ g c, v = .slice (some ⟨g, 0, none⟩) l.length c ∧ l.length ≤ c ∧ c ≤ 9223372036854775807 ∧ RdB w v l := by
  rcases h with ⟨_, h⟩ | h
  · exact absurd h hne
  · have hr := h.rd
    rcases h with h | ⟨g, rfl, _, _⟩
    · rcases h.2 with ⟨_, h0⟩ | ⟨g, cap, cur, rfl, _, _, h1, h2, _⟩
      · exact absurd (List.length_eq_zero_iff.1 h0) hne
      · exact ⟨g, cap, rfl, h1, Nat.le_trans h2 (by simp [maxLen]), hr⟩
    · exact ⟨g, l.length, rfl, Nat.le_refl _, hl, hr⟩
theorem rdE_one (W : World) : RdEs ((W.alloc (.cells #[.int .u8 104, .int .u8 105] 5 (2, 3))).alloc (.cells #[.string ⟨#[97]⟩, .int .i64 1, .int .i64 420, .string ⟨#[]⟩, .slice (some ⟨W.heap.size, 0, none⟩) 2 2] 31)) (.slice (some ⟨W.heap.size + 1, 0, none⟩) 1 1) [e0L] := by
  have h1 := rd_new W [104, 105] #[.int .u8 104, .int .u8 105] 5 (2, 3) (by kernel_rfl) 2 rfl
  have h2 := RdV.below h1 ((Below.refl _ (W.alloc (.cells #[.int .u8 104, .int .u8 105] 5 (2, 3)))).alloc (Nat.le_refl _) (.cells #[.string ⟨#[97]⟩, .int .i64 1, .int .i64 420, .string ⟨#[]⟩, .slice (some ⟨W.heap.size, 0, none⟩) 2 2] 31))
  have h3 := heap_alloc_new (W.alloc (.cells #[.int .u8 104, .int .u8 105] 5 (2, 3))) (.cells #[.string ⟨#[97]⟩, .int .i64 1, .int .i64 420, .string ⟨#[]⟩, .slice (some ⟨W.heap.size, 0, none⟩) 2 2] 31)
  rw [World.size_alloc] at h3
  refine ⟨some ⟨W.heap.size + 1, 0, none⟩, 1, rfl, by simp, by omega, fun i e hi => ?_⟩
  obtain rfl : i = 0 := by
    cases i with
    | zero => rfl
    | succ i => simp at hi
  simp at hi
  subst hi
  exact ⟨W.heap.size + 1, 0, .slice (some ⟨W.heap.size, 0, none⟩) 2 2, rfl, fun j u hj => by rw [cell_of_row _ _ _ _ _ _ h3]; simpa [eC, e0L, bs] using hj, h2⟩
set_option maxRecDepth 100000 in
set_option maxHeartbeats 4000000 in
theorem live_any (w : World) :
    Calls Tryd.prog 14 #[] w fun e w' => e = .returned (.bool true) ∧ Below w.heap.size w w' := by
  have kc := fun (w : World) (C : Array Value) (n c : Nat) => Lib.run_convert_bytes_const (P := Tryd.prog) w 23 5 C n c Tryd.underlying23 Tryd.underlying5
  go_enter Tryd.func14, Tryd.ntmps14
  go_wp2_with fail
  refine (print_any w (.slice none 0 0) [] (RdEs.nil w) (fun e he => by simp at he)).mono ?_
  rintro r w1 ⟨bv, rfl, hans, hb⟩
  rw [print_none] at hans
  have HB := Lib.hid hb
  clear hb
  obtain ⟨ba, bc, rfl⟩ : ∃ ba bc, bv = .slice ba 1024 bc := by
    rcases hans with ⟨_, h⟩ | h
    · cases congrArg List.length h
    · obtain ⟨a, c, h2, _⟩ := rd_slice h.rd
      exact ⟨a, c, h2⟩
  rw [show (printL []).2 = 0 from rfl]
  clear hans
  go_wp2_with fail
  have HB1 := Lib.hid (HB.out.trans (((((Below.refl w1.heap.size w1).alloc (Nat.le_refl _) (.cells #[.int .u8 104, .int .u8 105] 5 (2, 3))).alloc (by simp) (.cells #[.string ⟨#[97]⟩, .int .i64 1, .int .i64 420, .string ⟨#[]⟩, .slice (some ⟨w1.heap.size, 0, none⟩) 2 2] 31))).mono HB.out.size))
  refine (print_any _ _ [e0L] (rdE_one w1) (fun e he => by simp at he; subst he; simp [e0L])).mono ?_
  rintro r w3 ⟨cv, rfl, hans, hb⟩
  rw [print_e0] at hans ⊢
  simp only at hans ⊢
  have HB3 := Lib.hid (HB1.out.trans (hb.mono HB1.out.size))
  have t0l := tar0_len
  obtain ⟨g, cc, rfl, hcc, hcc2, hrd⟩ := ans_slice hans (by intro h; rw [h] at t0l; cases t0l) (by rw [tar0_len]; omega)
  have HRD := Lib.hid hrd
  have hc0 : w3.cell? ⟨g, 0, none⟩ = some (.int .u8 97) := rd_at hrd 0 (by rw [tar0_len]; omega) (show tar0.getD 0 0 = 97 by kernel_rfl)
  have HC0 := Lib.hid hc0
  have hlt := block_lt_of_cell hc0
  clear hans hb hrd HB HB1 kc hc0
  go_wp2_with fail
  refine (parse_any w3 ⟨g, 0, none⟩ cc tar0 HRD.out (by rw [tar0_len]; omega) hcc hcc2 rfl).mono ?_
  rintro r w4 ⟨ov, rfl, hes, hb⟩
  rw [parse_tar0] at hes ⊢
  simp only at hes ⊢
  have HB4 := Lib.hid (HB3.out.trans (hb.mono HB3.out.size))
  have c0 : w4.cell? ⟨g, 0, none⟩ = some (.int .u8 97) := (hb.cell (p := ⟨g, 0, none⟩) hlt).trans HC0.out
  obtain ⟨oa, oc, rfl, h1, h2⟩ := hes.slice
  obtain ⟨b, off, da, dc, rfl, d0, d1, d2, d3, d4, hrd⟩ := hes.cells 0 e0L rfl
  have ht := run_text hrd
  rw [show [e0L].length = 1 from rfl]
  clear hes hb HB3 HRD HC0 hlt
  go_wp2_with fail
  rw [show (e0L.data == [104, 105]) = true from rfl]
  exact bodyPost_ret (v := .bool true) (by simp [results, Tryd.results14, go_sem]) rfl ⟨rfl, HB4.out⟩
end Go.Proofs.YtikhdbdbdldbaaaDoor
