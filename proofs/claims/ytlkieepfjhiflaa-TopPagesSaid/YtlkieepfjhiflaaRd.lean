/- The contract of (*Disk).Read, at a sector of which no write waits. -/
import Derived.Test.YtlkieepfjhiflaaWf
namespace Go.Proofs.Ytlkieepfjhiflaa
open Go.RowKit Go.ChangeMaps

/-- A safe sector's header. -/
theorem DiskAt.safe {w : World} {g bs bm : Nat} {F O S : List Value} {T : List Ent} (D : DiskAt w g bs bm F O S T) {n : Nat} {v : Value} (h : S[n]? = some v) : w.cell? ⟨bs, n, none⟩ = some v := by
  obtain ⟨cs, r1, r2, r3⟩ := D.row
  rw [cell_of_row w bs n _ _ _ r1]
  rw [← r2, List.getElem?_take] at h
  split at h
  · simpa using h
  · cases h
set_option maxRecDepth 100000 in
set_option maxHeartbeats 4000000 in
theorem readS_any (w : World) {g bs bm : Nat} {F O S : List Value} {T : List Ent} (D : DiskAt w g bs bm F O S T) (_ : S.length ≤ 4096) (n : Nat) (a : Option Addr) (ln c : Nat) (h : S[n]? = some (.slice a ln c)) (hk : ∀ e ∈ T, e.k ≠ n) :
    Calls Try.prog 35 #[.pointer (some ⟨g, 2, none⟩), .int .i64 (n : Int)] w fun e w' => e = .returned (.slice a ln c) ∧ w = w' := by
  obtain ⟨fv, lv, sc, hbox, hF, hL, hsc⟩ := D.box
  obtain ⟨c0, c1, c2, c3⟩ := cells_disk hbox
  obtain ⟨cl, hmap, _⟩ := D.map
  have hlk := run_look_none hmap n hk
  have hn : n < S.length := (List.getElem?_eq_some_iff.1 h).1
  have b0 : (0 : Int) ≤ (n : Int) := by omega
  have b1 : (n : Int) < (S.length : Int) := by omega
  have hc := D.safe h
  clear D hk hmap hbox hF hL h
  go_enter Try.func35, Try.ntmps35
  go_wp2_with fail
  go_ret
  exact ⟨rfl, rfl⟩
set_option maxRecDepth 100000 in
set_option maxHeartbeats 4000000 in
theorem dread_any (w : World) {g bs bm : Nat} {F O S : List Value} {T : List Ent} (D : DiskAt w g bs bm F O S T) (hS : S.length ≤ 4096) (n : Nat) (v : Value) (h : S[n]? = some v) (hk : ∀ e ∈ T, e.k ≠ n) (l : List UInt8) (hv : RdB w v l) (hl : l.length = 512) :
    Calls Try.prog 11 #[.pointer (some ⟨g, 0, none⟩), .int .i64 (n : Int)] w fun e w' => ∃ q c, e = .returned (.tuple #[.slice (some ⟨q, 0, none⟩) 512 c, .int .i64 0]) ∧ w.heap.size ≤ q ∧ w'.ownsRow w.heap.size 5 1 (.slice (some ⟨q, 0, none⟩) 512 c) 512 (l.map vB) ∧ Below w.heap.size w w' := by
  obtain ⟨fv, lv, sc, hbox, hF, hL, hsc⟩ := D.box
  obtain ⟨c0, c1, c2, c3⟩ := cells_disk hbox
  obtain ⟨fa, fc, rfl, hfc, _⟩ := hF.open
  have hlen := D.len
  have hn : n < S.length := (List.getElem?_eq_some_iff.1 h).1
  have b0 : (0 : Int) ≤ (n : Int) := by omega
  have b1 : (n : Int) < (F.length : Int) := by omega
  have b2 : n < F.length := by omega
  obtain ⟨va, vc, rfl, _⟩ := RdB.open hv
  have HD := Lib.hid D; have HK := Lib.hid hk; have HV := Lib.hid hv; have HL := Lib.hid hl; have HH := Lib.hid h
  clear D hk hv hbox hF hL hlen hn hl h
  go_enter Try.func11, Try.ntmps11
  go_wp2_with fail
  refine (readS_any _ HD.out hS n _ _ _ HH.out HK.out).mono ?_
  rintro e w1 ⟨rfl, rfl⟩
  go_wp2_with fail
  refine (clone_any _ _ l HV.out (by have := HL.out; omega)).mono ?_
  rintro e w1 ⟨r, rfl, hown, hb⟩
  rw [HL.out] at hown
  have hsh : ∃ q c, r = .slice (some ⟨q, 0, none⟩) 512 c ∧ w.heap.size ≤ q := by
    rcases hown.2 with ⟨_, h0⟩ | ⟨q, c, _, rfl, hq, _⟩
    · omega
    · exact ⟨q, c, rfl, hq⟩
  obtain ⟨q, c, rfl, hq⟩ := hsh
  have HO := Lib.hid hown; have HB := Lib.hid hb
  clear hown hb
  go_wp2_with fail
  go_ret2
  exact ⟨q, c, rfl, hq, HO.out, HB.out⟩
end Go.Proofs.Ytlkieepfjhiflaa
