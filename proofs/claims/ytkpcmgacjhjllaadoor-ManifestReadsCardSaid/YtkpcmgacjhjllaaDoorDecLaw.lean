/- What the bytes of a manifest say: a plain function, and its law against what Encode writes. -/
import Derived.Test.YtkpcmgacjhjllaaDoorApart
namespace Go.Proofs.YtkpcmgacjhjllaaDoor
open Go.RowKit

/-- A word with its length ahead. -/
def decW : List UInt8 → Option (List UInt8 × List UInt8)
  | [] => none
  | x :: r => if r.length < x.toNat then none else some (r.take x.toNat, r.drop x.toNat)
def chunks : Nat → List UInt8 → List (List UInt8)
  | 0, _ => []
  | n + 1, r => r.take 32 :: chunks n (r.drop 32)
def decT : List UInt8 → Option (List (List UInt8))
  | [] => none
  | n :: r => if r.length = 32 * n.toNat then some (chunks n.toNat r) else none
def decR (r : List UInt8) : Option (List UInt8 × List UInt8 × List (List UInt8)) :=
  match decW r with
  | none => none
  | some (o, r1) =>
    match decW r1 with
    | none => none
    | some (a, r2) =>
      match decT r2 with
      | none => none
      | some hs => if rightOf o a hs.length = 0 then some (o, a, hs) else none
def signB : List UInt8 := [68, 77, 1]
def decOf (l : List UInt8) : Option (List UInt8 × List UInt8 × List (List UInt8)) := if signB.isPrefixOf l then decR (l.drop 3) else none
theorem chunks_len (n : Nat) : ∀ r, (chunks n r).length = n := by
  induction n with
  | zero => intro r; rfl
  | succ n ih => intro r; simp [chunks, ih]
theorem chunks_32 (n : Nat) : ∀ (r : List UInt8), r.length = 32 * n → ∀ (i : Nat) x, (chunks n r)[i]? = some x → x.length = 32 := by
  induction n with
  | zero => intro r _ i x h; simp [chunks] at h
  | succ n ih =>
    intro r hr i x h
    cases i with
    | zero => simp [chunks] at h; rw [← h, List.length_take]; omega
    | succ i => exact ih (r.drop 32) (by rw [List.length_drop]; omega) i x (by simpa [chunks] using h)
theorem chunks_flatten (n : Nat) : ∀ (r : List UInt8), r.length = 32 * n → (chunks n r).flatten = r := by
  induction n with
  | zero => intro r hr; have : r = [] := List.eq_nil_of_length_eq_zero (by omega); rw [this]; rfl
  | succ n ih =>
    intro r hr
    simp only [chunks, List.flatten_cons]
    rw [ih (r.drop 32) (by rw [List.length_drop]; omega), List.take_append_drop]
theorem chunks_of : ∀ (hs : List (List UInt8)), (∀ (i : Nat) x, hs[i]? = some x → x.length = 32) → chunks hs.length hs.flatten = hs
  | [], _ => rfl
  | x :: hs, h => by
    have h0 := h 0 x rfl
    simp only [chunks, List.length_cons, List.flatten_cons]
    rw [List.take_left' h0, List.drop_left' h0, chunks_of hs (fun i y hi => h (i + 1) y hi)]
theorem decW_cons (a r : List UInt8) (ha : a.length ≤ 255) : decW (UInt8.ofNat a.length :: (a ++ r)) = some (a, r) := by
  have e : (UInt8.ofNat a.length).toNat = a.length := by rw [UInt8.toNat_ofNat']; omega
  simp only [decW, e]
  rw [if_neg (by simp), List.take_left' rfl, List.drop_left' rfl]
theorem decW_some {r a r' : List UInt8} (h : decW r = some (a, r')) : a.length ≤ 255 ∧ r = UInt8.ofNat a.length :: (a ++ r') := by
  cases r with
  | nil => cases h
  | cons x r =>
    simp only [decW] at h
    split at h
    · cases h
    · have hx := x.toNat_lt
      rename_i hlt
      simp only [Option.some.injEq, Prod.mk.injEq] at h
      have hl : a.length = x.toNat := by rw [← h.1, List.length_take]; omega
      refine ⟨by omega, ?_⟩
      rw [hl, ← h.1, ← h.2, List.take_append_drop]
      simp
/-- What is encoded is decoded as it was. -/
theorem dec_enc {o a : ByteArray} {hs : List (List UInt8)} (h1 : rightOf o.data.toList a.data.toList hs.length = 0) (hl : ∀ (i : Nat) x, hs[i]? = some x → x.length = 32) :
    decOf (encOf o a hs) = some (o.data.toList, a.data.toList, hs) := by
  obtain ⟨p1, p2, p3⟩ := rightOf_zero h1
  have := isWord_len p1; have := isWord_len p2
  rw [encOf_shape]
  unfold decOf
  rw [if_pos (by simp [signB])]
  have e3 : List.drop 3 (68 :: 77 :: 1 :: UInt8.ofNat o.data.toList.length :: (o.data.toList ++ UInt8.ofNat a.data.toList.length :: (a.data.toList ++ UInt8.ofNat hs.length :: hs.flatten))) = UInt8.ofNat o.data.toList.length :: (o.data.toList ++ UInt8.ofNat a.data.toList.length :: (a.data.toList ++ UInt8.ofNat hs.length :: hs.flatten)) := rfl
  have en : (UInt8.ofNat hs.length).toNat = hs.length := by rw [UInt8.toNat_ofNat']; omega
  have ef : ∀ l : List (List UInt8), (∀ (i : Nat) x, l[i]? = some x → x.length = 32) → l.flatten.length = 32 * l.length := by
    intro l
    induction l with
    | nil => intro _; rfl
    | cons x l ih => intro hx; simp only [List.flatten_cons, List.length_append, List.length_cons]; rw [ih (fun i y hi => hx (i + 1) y hi), hx 0 x rfl]; omega
  simp only [e3, decR, decW_cons _ _ (show o.data.toList.length ≤ 255 by omega), decW_cons _ _ (show a.data.toList.length ≤ 255 by omega), decT, en, ef hs hl, if_true, chunks_of hs hl, h1]
/-- What is decoded is encoded so. -/
theorem enc_dec {l o a : List UInt8} {hs : List (List UInt8)} (h : decOf l = some (o, a, hs)) :
    rightOf o a hs.length = 0 ∧ (∀ (i : Nat) x, hs[i]? = some x → x.length = 32) ∧ encOf ⟨o.toArray⟩ ⟨a.toArray⟩ hs = l := by
  unfold decOf at h
  split at h
  · rename_i hp
    obtain ⟨l', hl'⟩ := List.isPrefixOf_iff_prefix.1 hp
    have e3 : l.drop 3 = l' := by rw [← hl']; rfl
    rw [e3] at h
    unfold decR at h
    split at h
    · cases h
    · rename_i o' r1 h1
      split at h
      · cases h
      · rename_i a' r2 h2
        split at h
        · cases h
        · rename_i hs' h3
          split at h
          · rename_i h4
            simp only [Option.some.injEq, Prod.mk.injEq] at h
            obtain ⟨rfl, rfl, rfl⟩ := h
            obtain ⟨_, e1⟩ := decW_some h1
            obtain ⟨_, e2⟩ := decW_some h2
            cases r2 with
            | nil => cases h3
            | cons n r3 =>
              simp only [decT] at h3
              split at h3
              · rename_i h5
                simp only [Option.some.injEq] at h3
                subst h3
                refine ⟨h4, chunks_32 _ _ h5, ?_⟩
                rw [encOf_shape, chunks_len, chunks_flatten _ _ h5, ← hl', e1, e2]
                simp [signB]
              · cases h3
          · cases h
  · cases h
theorem decOf_none_of {l : List UInt8} (h : signB.isPrefixOf l = false) : decOf l = none := by unfold decOf; rw [h]; rfl
end Go.Proofs.YtkpcmgacjhjllaaDoor
