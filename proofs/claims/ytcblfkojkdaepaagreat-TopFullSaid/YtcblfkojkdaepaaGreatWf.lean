/- The byte type's row of the program's table. -/
import Derived.Test.YtcblfkojkdaepaaGreatDk
import Derived.Great.BuildSlice
import Derived.WalkSpells
import Derived.Test.YtcblfkojkdaepaaGreatDo
namespace Go.Proofs.YtcblfkojkdaepaaGreat
open Go.RowKit

/-- The byte type's row of the program's table. -/
theorem info_u8 : (Tryz.prog.info? 5).map (fun i => (i.zero, i.size, i.bytes)) = some (some (.int .u8 0), 1, 1) := by kernel_rfl

end Go.Proofs.YtcblfkojkdaepaaGreat
/- The contract of bytes.Clone: at whatever world. -/
namespace Go.Proofs.YtcblfkojkdaepaaGreat
open Go.RowKit

theorem grownBy_below {w w' : World} (h : Below w.heap.size w w') (row : Option Nat) : w.grownBy w' row :=
  ⟨h.os, h.tape, h.output, h.size, fun k hk _ => h.block k hk⟩

set_option maxHeartbeats 1000000 in
theorem clone_any (w : World) (v : Value) (l : List UInt8) (hv : RdB w v l) (hl : l.length ≤ 140737488355328) :
    Calls Tryz.prog 55 #[v] w fun e w' => ∃ r, e = .returned r ∧ w'.ownsRow w.heap.size 5 1 r l.length (l.map vB) ∧ Below w.heap.size w w' := by
  have q22 : ∀ (w : World) (a : Option Addr) (n c n' c' : Nat), (binOp .eql 46 (.slice a n c) (.slice none n' c')).run Tryz.prog w = .ok (.bool a.isNone) w := fun w a n c n' c' => Lib.run_eql_slice_nil w _ _ a n c n' c' Tryz.underlying46
  rcases hv with ⟨rfl, hnil⟩ | ⟨ad, cap, rfl, hle, hc⟩
  · have hl0 : l = [] := by simpa using hnil
    subst hl0
    go_enter Tryz.func55, Tryz.ntmps55
    go_wp2
    go_ret
    exact ⟨_, rfl, World.ownsRow_nil _ _ _ _, Below.refl _ _⟩
  · obtain ⟨i0, hi, hz0, hz1, hz2⟩ := info_parts info_u8
    have hrd : RdV (w.alloc (.cells #[] 5)) (.slice (some ad) (l.map vB).length cap) (l.map vB) := by
      have h0 : RdV w (.slice (some ad) (l.map vB).length cap) (l.map vB) := .inr ⟨ad, cap, rfl, hle, hc⟩
      exact h0.below ((Below.refl _ _).alloc (Nat.le_refl _) _)
    have HV := Lib.hid hrd
    clear hc hrd hle
    simp only [List.length_map] at HV ⊢
    go_enter Tryz.func55, Tryz.ntmps55
    go_wp2_with (refine wpList_app rfl _ _ 46 rfl w.heap.size 5 i0 (.int .u8 0) 1 Tryz.underlying46 hi hz0 hz1 hz2 rfl _ 0 [] rfl (World.ownsRow_made w #[] 0 (Nat.le_refl _) (Nat.zero_le _) rfl) _ (l.map vB) rfl HV.out ?c1 ?c2 (by omega) (by simp) ?_)
    case c1 => exact vB_one l
    case c2 => simp; omega
    try simp only [List.length_map, Nat.zero_add, List.nil_append]
    intro v' w' hown hgr
    have hb := ((Below.refl w.heap.size w).alloc (Nat.le_refl _) (.cells #[] 5)).grown hgr (by simp) (by intro k hk; simp [Value.ownBlock] at hk; omega)
    have HO := Lib.hid hown; have HB := Lib.hid hb
    clear hown hgr hb
    go_wp2
    go_ret
    exact ⟨v', rfl, HO.out, HB.out⟩
end Go.Proofs.YtcblfkojkdaepaaGreat
/- Contracts of (*Disk).Write, Flush, Read. -/
namespace Go.Proofs.YtcblfkojkdaepaaGreat
open Go.RowKit Go.ChangeMaps

/-- The op of a write. -/
def wOp (n : Nat) (v : Value) : Value := .iface 139 (.agg #[.int .i64 (n : Int), v])
def fOp : Value := .iface 140 (.agg #[])
/-- A sector's bytes, in no block of a disk's own. -/
def Dat (S : List Nat) (w : World) (v : Value) (l : List UInt8) : Prop := RdN 5 S w v (l.map vB)
theorem Dat.rd {S : List Nat} {w : World} {v : Value} {l : List UInt8} (h : Dat S w v l) : RdB w v l := RdN.rd h

set_option maxRecDepth 100000 in
set_option maxHeartbeats 4000000 in
theorem dwrite_any (w : World) {g bs bm : Nat} {F O S : List Value} {T : List Ent} (D : DiskAt w g bs bm F O S T) (hS : S.length ≤ 4096) (hO : O.length ≤ 1000000) (n : Nat) (hn : n < S.length) (hk : ∀ e ∈ T, e.k < n) (v : Value) (l : List UInt8) (hv : RdB w v l) (hl : l.length = 512) :
    Calls Tryz.prog 50 #[.pointer (some ⟨g, 0, none⟩), .int .i64 (n : Int), v] w fun e w' => e = .returned (.int .i64 0) ∧ Fr [g, bs, bm] w w' ∧ ∃ e0 : Ent, e0.k = n ∧ Dat [g, bs, bm] w' e0.v l ∧ DiskAt w' g bs bm F (O ++ [wOp n e0.v]) S (T ++ [e0]) := by
  obtain ⟨fv, lv, sc, hbox, hF, hL, hsc⟩ := D.box
  obtain ⟨c0, c1, c2, c3⟩ := cells_disk hbox
  obtain ⟨fa, fc, rfl, hfc, _⟩ := hF.open
  have hlen := D.len
  have b0 : (0 : Int) ≤ (n : Int) := by omega
  have b1 : (n : Int) < (F.length : Int) := by omega
  have b2 : n < F.length := by omega
  have hl5 : (l.length : Int) = 512 := by omega
  obtain ⟨va, vc, rfl, _⟩ := RdB.open hv
  have HD := Lib.hid D; have HK := Lib.hid hk; have HV := Lib.hid hv; have HL := Lib.hid hl; have HN := Lib.hid hn
  clear D hk hv hbox hF hL hlen hn
  rw [hl]
  go_enter Tryz.func50, Tryz.ntmps50
  go_wp2_with fail
  refine (clone_any _ _ l (by have := HV.out; rw [HL.out] at this; exact this) (by have := HL.out; omega)).mono ?_
  rintro e w1 ⟨r, rfl, hown, hb⟩
  have hF1 : Fr [] w w1 := Fr.of_below hb
  rw [HL.out] at hown
  have hsh : ∃ q c, r = .slice (some ⟨q, 0, none⟩) 512 c := by
    rcases hown.2 with ⟨_, h0⟩ | ⟨q, c, _, rfl, _⟩
    · omega
    · exact ⟨q, c, rfl⟩
  obtain ⟨q, c, rfl⟩ := hsh
  have hd : Dat [g, bs, bm] w1 (.slice (some ⟨q, 0, none⟩) 512 c) l := RdN_of_owns hown (fun k hk => by have := HD.out.lt; simp at hk; omega)
  have D1 := HD.out.fr hF1 (by simp)
  have HD1 := Lib.hid D1; have Hd := Lib.hid hd; have HF1 := Lib.hid hF1
  clear hown hb hF1 hd D1 c0 c1 c2 c3
  go_wp2_with fail
  refine (doWrite_any _ HD1.out hS hO n HN.out HK.out _ _ _).mono ?_
  rintro e w2 ⟨rfl, hF2, e0, h1, h2, h3⟩
  have hd2 : Dat [g, bs, bm] w2 e0.v l := by rw [h2]; exact RdN.fr Hd.out hF2 (fun k hk => .inl hk)
  have hres : Fr [g, bs, bm] w w2 ∧ ∃ e0 : Ent, e0.k = n ∧ Dat [g, bs, bm] w2 e0.v l ∧ DiskAt w2 g bs bm F (O ++ [wOp n e0.v]) S (T ++ [e0]) :=
    ⟨(HF1.out.mono (by simp)).trans hF2, e0, h1, hd2, by rw [← h2] at h3; exact h3⟩
  have HR := Lib.hid hres
  clear hF2 h1 h2 h3 hd2 hres
  go_wp2_with fail
  go_ret
  exact ⟨rfl, HR.out⟩
set_option maxRecDepth 100000 in
set_option maxHeartbeats 4000000 in
theorem dflush_any (w : World) {g bs bm : Nat} {F O S : List Value} {T : List Ent} (D : DiskAt w g bs bm F O S T) (hS : S.length ≤ 4096) (hO : O.length ≤ 1000000) :
    Calls Tryz.prog 51 #[.pointer (some ⟨g, 0, none⟩)] w fun e w' => e = .returned (.int .i64 0) ∧ Fr [g, bs, bm] w w' ∧ DiskAt w' g bs bm F (O ++ [fOp]) (flu S T) [] := by
  have HD := Lib.hid D
  clear D
  go_enter Tryz.func51, Tryz.ntmps51
  go_wp2_with fail
  refine (doFlush_any _ HD.out hS hO).mono ?_
  rintro e w2 ⟨rfl, hres⟩
  have HR := Lib.hid hres
  clear hres
  go_wp2_with fail
  go_ret
  exact ⟨rfl, HR.out⟩
end Go.Proofs.YtcblfkojkdaepaaGreat
