/- 'string(b)', and the theorems' sameBytes. -/
import Derived.Test.YtlkieepfjhiflaaCopy
import Derived.Laws.BytesArg
import Derived.Lib.AppendStr
import Derived.Deep.MidRow
namespace Go.Proofs.Ytlkieepfjhiflaa
open Go.RowKit

theorem ofNat_n8 (b : UInt8) : UInt8.ofNat (n8 b).toNat = b := by simp [n8]
/-- 'string(b)'. -/
theorem run_text {w : World} {v : Value} {l : List UInt8} (h : RdB w v l) : (convert 22 9 v).run Try.prog w = .ok (.string ⟨l.toArray⟩) w := by
  rcases h with ⟨rfl, h0⟩ | ⟨ad, cap, rfl, _, hc⟩
  · obtain rfl : l = [] := by simpa using h0
    exact run_convert_bytes_nil w 22 5 Try.underlying22 Try.underlying5 0 0 9 Try.underlying9
  · have hl : (loadCells ad (l.map vB).length).run Try.prog w = .ok ((l.map n8).map (Value.int .u8)).toArray w := by
      have h1 := run_loadCells_list (P := Try.prog) w ad (l.map vB) (fun j u hj => by
        obtain ⟨b, off, rfl, hcell⟩ := hc j u hj
        rw [Addr.add_mid]; exact hcell)
      rw [h1, List.map_map]; rfl
    rw [run_convert_bytes_string w 22 9 5 _ _ _ Try.underlying22 Try.underlying5 Try.underlying9, run_bytesToString w ad _ cap _ hl, foldl_push_bytes, List.map_map]
    have e : (fun n : Int => UInt8.ofNat n.toNat) ∘ n8 = id := by funext b; exact ofNat_n8 b
    rw [e, List.map_id]
    congr 3
    simp [ByteArray.empty, ByteArray.emptyWithCapacity]
    rfl
set_option maxHeartbeats 1000000 in
theorem sameT_any (w : World) (v1 v2 : Value) (l m : List UInt8) (h1 : RdB w v1 l) (h2 : RdB w v2 m) :
    Calls Try.prog 16 #[v1, v2] w fun e w' => e = .returned (.bool (decide (l = m))) ∧ w = w' := by
  have t1 := run_text h1
  have t2 := run_text h2
  obtain ⟨a1, c1, rfl, _⟩ := RdB.open h1
  obtain ⟨a2, c2, rfl, _⟩ := RdB.open h2
  have hr : ∀ r : Bool, r = decide (l = m) → Ending.returned (.bool r) = .returned (.bool (decide (l = m))) := fun r h => by rw [h]
  have HR := Lib.hid hr
  clear h1 h2 hr
  go_enter Try.func16, Try.ntmps16
  go_wp2_with fail
  go_ret
  exact ⟨HR.out _ (by rw [Bool.eq_iff_iff]; simp), rfl⟩
end Go.Proofs.Ytlkieepfjhiflaa
