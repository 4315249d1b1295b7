/- Contracts of (*Disk).Write, Flush, Read. -/
import Derived.Test.YtlkieepfjhiflaaDo
import Derived.Test.YtlkieepfjhiflaaObj
namespace Go.Proofs.Ytlkieepfjhiflaa
open Go.RowKit Go.ChangeMaps

/-- The op of a write. -/
def wOp (n : Nat) (v : Value) : Value := .iface 74 (.agg #[.int .i64 (n : Int), v])
def fOp : Value := .iface 76 (.agg #[])
/-- A sector's bytes, in no block of a disk's own. -/
def Dat (S : List Nat) (w : World) (v : Value) (l : List UInt8) : Prop := RdN 5 S w v (l.map vB)
theorem Dat.rd {S : List Nat} {w : World} {v : Value} {l : List UInt8} (h : Dat S w v l) : RdB w v l := RdN.rd h

set_option maxRecDepth 100000 in
set_option maxHeartbeats 4000000 in
theorem dwrite_any (w : World) {g bs bm : Nat} {F O S : List Value} {T : List Ent} (D : DiskAt w g bs bm F O S T) (hS : S.length ≤ 4096) (hO : O.length ≤ 1000000) (n : Nat) (hn : n < S.length) (hk : ∀ e ∈ T, e.k < n) (v : Value) (l : List UInt8) (hv : RdB w v l) (hl : l.length = 512) :
    Calls Try.prog 8 #[.pointer (some ⟨g, 0, none⟩), .int .i64 (n : Int), v] w fun e w' => e = .returned (.int .i64 0) ∧ Fr [g, bs, bm] w w' ∧ ∃ e0 : Ent, e0.k = n ∧ Dat [g, bs, bm] w' e0.v l ∧ DiskAt w' g bs bm F (O ++ [wOp n e0.v]) S (T ++ [e0]) := by
  obtain ⟨fv, lv, sc, hbox, hF, hL, hsc⟩ := D.box
  obtain ⟨c0, c1, c2, c3⟩ := cells_disk hbox
  obtain ⟨fa, fc, rfl, hfc, _⟩ := hF.open
  have hlen := D.len
  have b0 : (0 : Int) ≤ (n : Int) := by omega
  have b1 : (n : Int) < (F.length : Int) := by omega
  have b2 : n < F.length := by omega
  have hl5 : (l.length : Int) = 512 := by omega
  obtain ⟨va, vc, rfl, _⟩ := RdB.open hv
  have HD := Lib.hid D; have HK := Lib.hid hk; have HV := Lib.hid hv; have HL := Lib.hid hl; have HN := Lib.hid hn
  clear D hk hv hbox hF hL hlen hn
  rw [hl]
  go_enter Try.func8, Try.ntmps8
  go_wp2_with fail
  refine (clone_any _ _ l (by have := HV.out; rw [HL.out] at this; exact this) (by have := HL.out; omega)).mono ?_
  rintro e w1 ⟨r, rfl, hown, hb⟩
  have hF1 : Fr [] w w1 := Fr.of_below hb
  rw [HL.out] at hown
  have hsh : ∃ q c, r = .slice (some ⟨q, 0, none⟩) 512 c := by
    rcases hown.2 with ⟨_, h0⟩ | ⟨q, c, _, rfl, _⟩
    · omega
    · exact ⟨q, c, rfl⟩
  obtain ⟨q, c, rfl⟩ := hsh
  have hd : Dat [g, bs, bm] w1 (.slice (some ⟨q, 0, none⟩) 512 c) l := RdN_of_owns hown (fun k hk => by have := HD.out.lt; simp at hk; omega)
  have D1 := HD.out.fr hF1 (by simp)
  have HD1 := Lib.hid D1; have Hd := Lib.hid hd; have HF1 := Lib.hid hF1
  clear hown hb hF1 hd D1 c0 c1 c2 c3
  go_wp2_with fail
  refine (doWrite_any _ HD1.out hS hO n HN.out HK.out _ _ _).mono ?_
  rintro e w2 ⟨rfl, hF2, e0, h1, h2, h3⟩
  have hd2 : Dat [g, bs, bm] w2 e0.v l := by rw [h2]; exact RdN.fr Hd.out hF2 (fun k hk => .inl hk)
  have hres : Fr [g, bs, bm] w w2 ∧ ∃ e0 : Ent, e0.k = n ∧ Dat [g, bs, bm] w2 e0.v l ∧ DiskAt w2 g bs bm F (O ++ [wOp n e0.v]) S (T ++ [e0]) :=
    ⟨(HF1.out.mono (by simp)).trans hF2, e0, h1, hd2, by rw [← h2] at h3; exact h3⟩
  have HR := Lib.hid hres
  clear hF2 h1 h2 h3 hd2 hres
  go_wp2_with fail
  go_ret
  exact ⟨rfl, HR.out⟩
set_option maxRecDepth 100000 in
set_option maxHeartbeats 4000000 in
theorem dflush_any (w : World) {g bs bm : Nat} {F O S : List Value} {T : List Ent} (D : DiskAt w g bs bm F O S T) (hS : S.length ≤ 4096) (hO : O.length ≤ 1000000) :
    Calls Try.prog 9 #[.pointer (some ⟨g, 0, none⟩)] w fun e w' => e = .returned (.int .i64 0) ∧ Fr [g, bs, bm] w w' ∧ DiskAt w' g bs bm F (O ++ [fOp]) (flu S T) [] := by
  have HD := Lib.hid D
  clear D
  go_enter Try.func9, Try.ntmps9
  go_wp2_with fail
  refine (doFlush_any _ HD.out hS hO).mono ?_
  rintro e w2 ⟨rfl, hres⟩
  have HR := Lib.hid hres
  clear hres
  go_wp2_with fail
  go_ret
  exact ⟨rfl, HR.out⟩
end Go.Proofs.Ytlkieepfjhiflaa
