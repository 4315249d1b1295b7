/- The last slash: the plain list and the library's function. -/
import Derived.Test.YtikhdbdbdldbaaaDoorTarLaw
import Derived.Lib.LastIndexByte
namespace Go.Proofs.YtikhdbdbdldbaaaDoor
theorem lastSl_snoc (l : List UInt8) (x : UInt8) : lastSl (l ++ [x]) = if x = 47 then some l.length else lastSl l := by
  induction l with
  | nil => by_cases h : x = 47 <;> simp [lastSl, h]
  | cons y l ih =>
    rw [List.cons_append]
    unfold lastSl
    rw [ih]
    by_cases h : x = 47
    · simp [h]
    · simp [h]
theorem lastSl_lt {l : List UInt8} {i : Nat} (h : lastSl l = some i) : i < l.length := by
  induction l generalizing i with
  | nil => cases h
  | cons y l ih =>
    unfold lastSl at h
    cases hl : lastSl l with
    | some j =>
      rw [hl] at h
      simp only [Option.some.injEq] at h
      have := ih hl
      subst h
      simp; omega
    | none =>
      rw [hl] at h
      simp only at h
      split at h
      · simp only [Option.some.injEq] at h; subst h; simp
      · cases h
theorem last_lib (s : ByteArray) : ∀ k, k ≤ s.size → Lib.lastIdx s 47 k = match lastSl (s.data.toList.take k) with | none => -1 | some i => (i : Int)
  | 0, _ => by simp [Lib.lastIdx, lastSl]
  | k + 1, hk => by
    have hlt : k < s.data.toList.length := by
      have : s.size = s.data.toList.length := (Array.length_toList (xs := s.data)).symm
      omega
    have e : s.data[k]! = s.data.toList[k] := by
      rw [getElem!_pos s.data k (by simpa only [Array.length_toList] using hlt)]; simp
    rw [List.take_succ_eq_append_getElem hlt, lastSl_snoc]
    unfold Lib.lastIdx
    rw [e]
    by_cases h : s.data.toList[k] = 47
    · have h2 : ((s.data.toList[k].toNat : Nat) : Int) = 47 := by rw [h]; rfl
      rw [if_pos h2, if_pos h]
      simp; omega
    · have h2 : ¬ ((s.data.toList[k].toNat : Nat) : Int) = 47 := fun q => h (by
        apply UInt8.toNat_inj.1
        have : s.data.toList[k].toNat = 47 := by omega
        rw [this]; rfl)
      rw [if_neg h2, if_neg h]
      exact last_lib s k (by omega)
theorem parted_lib (s : ByteArray) : Lib.lastIndexByte s 47 = match lastSl s.data.toList with | none => -1 | some i => (i : Int) := by
  have h := last_lib s s.size (Nat.le_refl _)
  have e : s.data.toList.take s.size = s.data.toList := List.take_of_length_le (Nat.le_of_eq (Array.length_toList (xs := s.data)))
  rw [e] at h
  exact h
end Go.Proofs.YtikhdbdbdldbaaaDoor
