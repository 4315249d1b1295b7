/- The contract of the reference's IsWord, at whatever text. -/
import Derived.Test.YtkpcmgacjhjllaaDoorWord
namespace Go.Proofs.YtkpcmgacjhjllaaDoor
open Go.RowKit

theorem wordB_iff (x : UInt8) : wordB x = true ↔ (97 ≤ x.toNat ∧ x.toNat ≤ 122) ∨ (48 ≤ x.toNat ∧ x.toNat ≤ 57) ∨ x.toNat = 45 := by
  have h : ∀ n : Fin 256, wordB (UInt8.ofNat n.val) = true ↔ (97 ≤ n.val ∧ n.val ≤ 122) ∨ (48 ≤ n.val ∧ n.val ≤ 57) ∨ n.val = 45 := by decide +kernel
  have := h ⟨x.toNat, x.toNat_lt⟩
  simpa using this
theorem ba_get (s : ByteArray) (i : Nat) (h : i < s.size) : s.data.toList[i]? = some s[i] := by
  cases s with | mk d =>
  show d.toList[i]? = some d[i]
  rw [Array.getElem?_toList]
  exact Array.getElem?_eq_getElem h
theorem all_take {s : ByteArray} {k : Nat} (hk : k < s.size) (h : (s.data.toList.take k).all wordB = true) (hb : wordB s[k] = true) : (s.data.toList.take (k + 1)).all wordB = true := by
  rw [List.take_add_one, ba_get s k hk, List.all_append, h]
  simp [hb]
theorem isWord_bad {s : ByteArray} {k : Nat} (hk : k < s.size) (hb : wordB s[k] = false) : isWord s.data.toList = false := by
  have h : s.data.toList.all wordB = false := by
    rw [List.all_eq_false]
    exact ⟨s[k], List.mem_of_getElem? (ba_get s k hk), by rw [hb]; simp⟩
  unfold isWord
  rw [h]; rfl

set_option maxRecDepth 100000 in
set_option maxHeartbeats 1000000 in
theorem iswordref_any (s : ByteArray) (hs : s.size ≤ 9223372036854775807) (w : World) :
    Calls Tryd.prog 24 #[.string s] w fun e w' => e = .returned (.bool (isWord s.data.toList)) ∧ w = w' := by
  go_enter Tryd.func24, Tryd.ntmps24
  go_wp2
  go_loopw [3, 4] (fun i _ wr => ∃ k : Nat, k ≤ s.size ∧ i = .int .i64 k ∧ Hid ((s.data.toList.take k).all wordB = true) ∧ w = wr) (fun i _ _ => s.size - (intOf i).toNat)
  case atStart => exact ⟨0, by omega, rfl, rfl, rfl⟩
  case round =>
    obtain ⟨k, hk, rfl, hp, rfl⟩ := hrel
    by_cases hlt : k < s.size
    · have hltz : (k : Int) < s.size := by omega
      cases hb : wordB s[k] with
      | true =>
        have hq := (wordB_iff s[k]).1 hb
        have hst : Hid ((s.data.toList.take (k + 1)).all wordB = true) := all_take hlt hp.out hb
        clear hb hp
        have hcs : ((s[k].toNat : Int) == 45) = true ∨ ((s[k].toNat : Int) == 45) = false := by cases ((s[k].toNat : Int) == 45) <;> simp
        go_wp2
        all_goals first
          | exact ⟨⟨k + 1, by omega, by go_num, hst, trivial⟩, by simp [intOf]; omega⟩
          | (exfalso; simp only [Bool.not_eq_true', Bool.not_eq_false', decide_eq_true_eq, decide_eq_false_iff_not, beq_iff_eq, beq_eq_false_iff_ne, ne_eq] at *; omega)
      | false =>
        have hq : ¬ ((97 ≤ s[k].toNat ∧ s[k].toNat ≤ 122) ∨ (48 ≤ s[k].toNat ∧ s[k].toNat ≤ 57) ∨ s[k].toNat = 45) := fun h => by rw [(wordB_iff s[k]).2 h] at hb; cases hb
        have hw := isWord_bad hlt hb
        have HW := Lib.hid hw
        clear hb hw
        go_wp2
        all_goals first
          | (go_ret; exact ⟨by rw [HW.out]; rfl, rfl⟩)
          | (exfalso; simp only [Bool.not_eq_true', Bool.not_eq_false', decide_eq_true_eq, decide_eq_false_iff_not, beq_iff_eq, beq_eq_false_iff_ne, ne_eq] at *; omega)
    · obtain rfl : k = s.size := by omega
      have hall : s.data.toList.all wordB = true := by
        have h1 := hp.out
        have e : s.data.toList.take s.size = s.data.toList := List.take_length
        rwa [e] at h1
      have hw : isWord s.data.toList = (decide ((1 : Int) ≤ s.size) && decide ((s.size : Int) ≤ 24)) := by
        unfold isWord
        rw [hall]
        congr 1
        · simp only [Bool.true_and]; rw [decide_eq_decide]; show 1 ≤ s.size ↔ _; omega
        · rw [decide_eq_decide]; show s.size ≤ 24 ↔ _; omega
      have HW := Lib.hid hw
      clear hw hall hp hk hlt
      by_cases h1 : (1 : Int) ≤ s.size
      · go_wp2
        go_ret
        exact ⟨by rw [HW.out, decide_eq_true h1]; rfl, rfl⟩
      · go_wp2
        go_ret
        exact ⟨by rw [HW.out, decide_eq_false (show ¬ (1 : Int) ≤ s.size by omega)]; rfl, rfl⟩
end Go.Proofs.YtkpcmgacjhjllaaDoor
