/- Contracts of the reference's SameBytes and Copy, at whatever bytes. -/
import Derived.Test.YtikhdbdbdldbaaaDoorBase
namespace Go.Proofs.YtikhdbdbdldbaaaDoor
open Go.RowKit

/-- The byte type's row of the program's table. -/
theorem info_u8 : (Tryd.prog.info? 5).map (fun i => (i.zero, i.size, i.bytes)) = some (some (.int .u8 0), 1, 1) := by kernel_rfl

set_option maxHeartbeats 400000 in
theorem copy_any (w : World) (v : Value) (l : List UInt8) (hv : RdB w v l) (hl : l.length ≤ 140737488355328) :
    Calls Tryd.prog 20 #[v] w fun e w' => ∃ r, e = .returned r ∧ w'.ownsRow w.heap.size 5 1 r l.length (l.map vB) ∧ Below w.heap.size w w' := by
  obtain ⟨i0, hi, hz0, hz1, hz2⟩ := info_parts info_u8
  have HV := Lib.hid hv
  clear hv
  go_enter Tryd.func20, Tryd.ntmps20
  go_wp2_with (refine wpList_app rfl _ _ 23 rfl w.heap.size 5 i0 (.int .u8 0) 1 Tryd.underlying23 hi hz0 hz1 hz2 rfl _ 0 [] rfl (World.ownsRow_nil _ _ _ _) v (l.map vB) rfl HV.out ?c1 ?c2 (by omega) (by omega) ?_)
  case c1 => exact vB_one l
  case c2 => simp; omega
  try simp only [List.length_map, Nat.zero_add, List.nil_append]
  intro v' w' hown hgr
  have hb := below_grown hgr (Nat.le_refl _) (fun k hk => by cases hk)
  have HO := Lib.hid hown; have HB := Lib.hid hb
  clear hown hgr hb
  go_wp2
  go_ret
  exact ⟨v', rfl, HO.out, HB.out⟩

set_option maxHeartbeats 400000 in
theorem same_any (w : World) (v1 v2 : Value) (l m : List UInt8) (hv1 : RdB w v1 l) (hv2 : RdB w v2 m) (hl : l.length ≤ 140737488355328) (hm : m.length ≤ 140737488355328) :
    Calls Tryd.prog 15 #[v1, v2] w fun e w' => e = .returned (.bool (decide (l = m))) ∧ ∃ n, w' = w.drewN n := by
  obtain ⟨a1, c1, rfl, hc1⟩ := hv1.open
  obtain ⟨a2, c2, rfl, hc2⟩ := hv2.open
  have H1 := Lib.hid hc1
  have H2 := Lib.hid hc2
  clear hc1 hc2 hv1 hv2
  by_cases hlen : l.length = m.length
  · have hne : ((l.length : Int) != m.length) = false := by simp [hlen]
    have HL := Lib.hid hlen
    clear hlen
    go_enter Tryd.func15, Tryd.ntmps15
    go_wp2
    go_loopw [5] (fun i wr => ∃ k : Nat, k ≤ l.length ∧ i = .int .i64 k ∧ Hid (l.take k = m.take k) ∧ ∃ n, wr = w.drewN n) (fun i _ => l.length - (intOf i).toNat)
    case atStart => exact ⟨0, by omega, rfl, rfl, 0, rfl⟩
    case round =>
      obtain ⟨k, hk, rfl, hp, n, rfl⟩ := hrel
      by_cases hlt : k < l.length
      · have hlt2 : k < m.length := by have := HL.out; omega
        obtain ⟨b1, o1, ha1, g1⟩ := H1.out k hlt
        obtain ⟨b2, o2, ha2, g2⟩ := H2.out k hlt2
        have hq := n8_bne l[k] m[k]
        cases hb : (l[k] != m[k]) with
        | true =>
          rw [hb] at hq
          have hno : decide (l = m) = false := by
            rw [decide_eq_false_iff_not]; rintro rfl; simp at hb
          have HN := Lib.hid hno; clear hno hb
          go_wp2
          go_quiet (fail)
          go_wp2
          go_ret
          exact ⟨by rw [HN.out]; rfl, drewN_two _ _ _⟩
        | false =>
          rw [hb] at hq
          have hst : Hid (l.take (k + 1) = m.take (k + 1)) := by
            have h2 : l[k] = m[k] := by simpa using hb
            show l.take (k + 1) = m.take (k + 1)
            rw [List.take_succ_eq_append_getElem hlt, List.take_succ_eq_append_getElem hlt2, hp.out, h2]
          clear hb
          go_wp2
          go_quiet (fail)
          go_wp2
          go_roundw
          case rel => exact ⟨k + 1, by omega, by go_num, hst, _, rfl⟩
          case measure => simp [intOf]; omega
      · have hyes : decide (l = m) = true := by
          rw [decide_eq_true_eq]
          have h1 := hp.out
          have := HL.out
          rwa [List.take_of_length_le (by omega), List.take_of_length_le (by omega)] at h1
        have HN := Lib.hid hyes; clear hyes
        go_wp2
        go_ret
        exact ⟨by rw [HN.out]; rfl, _, rfl⟩
  · have hne : ((l.length : Int) != m.length) = true := by simp; omega
    have hno : decide (l = m) = false := by
      rw [decide_eq_false_iff_not]; rintro rfl; exact hlen rfl
    have HN := Lib.hid hno; clear hno hlen
    go_enter Tryd.func15, Tryd.ntmps15
    go_wp2
    go_ret
    exact ⟨by rw [HN.out]; rfl, 0, rfl⟩

end Go.Proofs.YtikhdbdbdldbaaaDoor
