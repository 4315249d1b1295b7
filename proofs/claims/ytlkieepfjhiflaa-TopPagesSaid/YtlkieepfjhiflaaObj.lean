/- Contracts of sha.rounds, sha.New, bytes.Clone: at whatever world. -/
import Derived.Test.YtlkieepfjhiflaaMix
import Derived.Test.YtlkieepfjhiflaaCopy
import Derived.Great.BuildSlice
import Derived.WalkSpells
namespace Go.Proofs.Ytlkieepfjhiflaa
open Go.RowKit

def s0 : St := ⟨0x6a09e667, 0xbb67ae85, 0x3c6ef372, 0xa54ff53a, 0x510e527f, 0x9b05688c, 0x1f83d9ab, 0x5be0cd19⟩

set_option maxRecDepth 100000 in
set_option maxHeartbeats 1000000 in
theorem rounds_any (w : World) :
    Calls Try.prog 37 #[] w fun e w' => e = .returned (.pointer (some ⟨w.heap.size, 0, none⟩)) ∧ w.alloc (.cells (rowF kOf 64) 115) = w' := by
  have hr : ∀ cs : Array Value, cs = rowF kOf 64 → w.alloc (.cells (rowF kOf 64) 115) = w.alloc (.cells cs 115) := fun cs h => by rw [h]
  have HR := Lib.hid hr; clear hr
  go_enter Try.func37, Try.ntmps37
  go_wp2
  go_ret
  exact ⟨rfl, HR.out _ (by kernel_rfl)⟩

/-- A hasher's block: the running hash, the rest, how many bytes. -/
def hCells (s : St) (rest : Value) (n : Nat) : Array Value := #[.int .u32 (n32 s.a), .int .u32 (n32 s.b), .int .u32 (n32 s.c), .int .u32 (n32 s.d), .int .u32 (n32 s.e), .int .u32 (n32 s.f), .int .u32 (n32 s.g), .int .u32 (n32 s.h), rest, .int .i64 n]

set_option maxRecDepth 100000 in
set_option maxHeartbeats 1000000 in
theorem new_any (w : World) :
    Calls Try.prog 15 #[] w fun e w' => e = .returned (.pointer (some ⟨w.heap.size, 0, none⟩)) ∧ w.alloc (.cells (hCells s0 (.slice none 0 0) 0) 86) = w' := by
  have hr : ∀ cs : Array Value, cs = hCells s0 (.slice none 0 0) 0 → w.alloc (.cells (hCells s0 (.slice none 0 0) 0) 86) = w.alloc (.cells cs 86) := fun cs h => by rw [h]
  have HR := Lib.hid hr; clear hr
  go_enter Try.func15, Try.ntmps15
  go_wp2
  go_ret
  exact ⟨rfl, HR.out _ (by kernel_rfl)⟩

theorem grownBy_below {w w' : World} (h : Below w.heap.size w w') (row : Option Nat) : w.grownBy w' row :=
  ⟨h.os, h.tape, h.output, h.size, fun k hk _ => h.block k hk⟩

set_option maxHeartbeats 1000000 in
theorem clone_any (w : World) (v : Value) (l : List UInt8) (hv : RdB w v l) (hl : l.length ≤ 140737488355328) :
    Calls Try.prog 32 #[v] w fun e w' => ∃ r, e = .returned r ∧ w'.ownsRow w.heap.size 5 1 r l.length (l.map vB) ∧ Below w.heap.size w w' := by
  have q22 : ∀ (w : World) (a : Option Addr) (n c n' c' : Nat), (binOp .eql 22 (.slice a n c) (.slice none n' c')).run Try.prog w = .ok (.bool a.isNone) w := fun w a n c n' c' => Lib.run_eql_slice_nil w _ _ a n c n' c' Try.underlying22
  rcases hv with ⟨rfl, hnil⟩ | ⟨ad, cap, rfl, hle, hc⟩
  · have hl0 : l = [] := by simpa using hnil
    subst hl0
    go_enter Try.func32, Try.ntmps32
    go_wp2
    go_ret
    exact ⟨_, rfl, World.ownsRow_nil _ _ _ _, Below.refl _ _⟩
  · obtain ⟨i0, hi, hz0, hz1, hz2⟩ := info_parts info_u8
    have hrd : RdV (w.alloc (.cells #[] 5)) (.slice (some ad) (l.map vB).length cap) (l.map vB) := by
      have h0 : RdV w (.slice (some ad) (l.map vB).length cap) (l.map vB) := .inr ⟨ad, cap, rfl, hle, hc⟩
      exact h0.below ((Below.refl _ _).alloc (Nat.le_refl _) _)
    have HV := Lib.hid hrd
    clear hc hrd hle
    simp only [List.length_map] at HV ⊢
    go_enter Try.func32, Try.ntmps32
    go_wp2_with (refine wpList_app rfl _ _ 22 rfl w.heap.size 5 i0 (.int .u8 0) 1 Try.underlying22 hi hz0 hz1 hz2 rfl _ 0 [] rfl (World.ownsRow_made w #[] 0 (Nat.le_refl _) (Nat.zero_le _) rfl) _ (l.map vB) rfl HV.out ?c1 ?c2 (by omega) (by simp) ?_)
    case c1 => exact vB_one l
    case c2 => simp; omega
    try simp only [List.length_map, Nat.zero_add, List.nil_append]
    intro v' w' hown hgr
    have hb := ((Below.refl w.heap.size w).alloc (Nat.le_refl _) (.cells #[] 5)).grown hgr (by simp) (by intro k hk; simp [Value.ownBlock] at hk; omega)
    have HO := Lib.hid hown; have HB := Lib.hid hb
    clear hown hgr hb
    go_wp2
    go_ret
    exact ⟨v', rfl, HO.out, HB.out⟩
end Go.Proofs.Ytlkieepfjhiflaa
