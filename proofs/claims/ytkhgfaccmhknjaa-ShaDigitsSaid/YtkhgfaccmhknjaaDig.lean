/- Digits read again: plain. -/
import Derived.Test.YtkhgfaccmhknjaaHex
namespace Go.Proofs.Ytkhgfaccmhknjaa
open Go.RowKit

def okc (c : UInt8) : Bool := (48 ≤ c && c ≤ 57) || (97 ≤ c && c ≤ 102)
def dv (c : UInt8) : UInt8 := if c ≤ 57 then c - 48 else c - 97 + 10
def dvI (c : UInt8) : Int := if okc c then n8 (dv c) else -1

theorem all_u8 {p : UInt8 → Prop} [DecidablePred p] (h : ∀ i : Fin 256, p (UInt8.ofNat i.val)) (x : UInt8) : p x := by
  have := h ⟨x.toNat, x.toNat_lt⟩
  simpa using this
theorem all_low {p : UInt8 → Prop} [DecidablePred p] (h : ∀ i : Fin 16, p (UInt8.ofNat i.val)) (x : UInt8) (hx : x.toNat < 16) : p x := by
  have := h ⟨x.toNat, hx⟩
  simpa using this
theorem dvI_is (c : UInt8) : Lib.indexByte digits c = dvI c := by
  have : ∀ i : Fin 256, Lib.indexByte digits (UInt8.ofNat i.val) = dvI (UInt8.ofNat i.val) := by decide +kernel
  exact all_u8 (p := fun c => Lib.indexByte digits c = dvI c) this c
theorem dv_lt (c : UInt8) (h : okc c = true) : (dv c).toNat < 16 := by
  have : ∀ i : Fin 256, okc (UInt8.ofNat i.val) = true → (dv (UInt8.ofNat i.val)).toNat < 16 := by decide +kernel
  exact all_u8 (p := fun c => okc c = true → (dv c).toNat < 16) this c h
theorem digit_dv (c : UInt8) (h : okc c = true) : hexDigit (dv c) = c := by
  have : ∀ i : Fin 256, okc (UInt8.ofNat i.val) = true → hexDigit (dv (UInt8.ofNat i.val)) = UInt8.ofNat i.val := by decide +kernel
  exact all_u8 (p := fun c => okc c = true → hexDigit (dv c) = c) this c h
theorem dv_digit (x : UInt8) (hx : x.toNat < 16) : okc (hexDigit x) = true ∧ dv (hexDigit x) = x := by
  have : ∀ i : Fin 16, okc (hexDigit (UInt8.ofNat i.val)) = true ∧ dv (hexDigit (UInt8.ofNat i.val)) = UInt8.ofNat i.val := by decide +kernel
  exact all_low (p := fun x => okc (hexDigit x) = true ∧ dv (hexDigit x) = x) this x hx
theorem halves (x : UInt8) : (x >>> 4) <<< 4 ||| (x &&& 15) = x := by
  have : ∀ i : Fin 256, ((UInt8.ofNat i.val) >>> 4) <<< 4 ||| ((UInt8.ofNat i.val) &&& 15) = UInt8.ofNat i.val := by decide +kernel
  exact all_u8 (p := fun x => (x >>> 4) <<< 4 ||| (x &&& 15) = x) this x
theorem join_low (x y : UInt8) (hx : x.toNat < 16) (hy : y.toNat < 16) : (x <<< 4 ||| y) >>> 4 = x ∧ (x <<< 4 ||| y) &&& 15 = y := by
  have : ∀ i j : Fin 16, ((UInt8.ofNat i.val) <<< 4 ||| (UInt8.ofNat j.val)) >>> 4 = UInt8.ofNat i.val ∧ ((UInt8.ofNat i.val) <<< 4 ||| (UInt8.ofNat j.val)) &&& 15 = UInt8.ofNat j.val := by decide +kernel
  have := this ⟨x.toNat, hx⟩ ⟨y.toNat, hy⟩
  simpa using this
theorem or_i64 (x y : UInt8) (hx : x.toNat < 16) (hy : y.toNat < 16) : bits BinOp.or .i64 (n8 x * 16) (n8 y) = n8 (x <<< 4 ||| y) := by
  have : ∀ i j : Fin 16, bits BinOp.or .i64 (n8 (UInt8.ofNat i.val) * 16) (n8 (UInt8.ofNat j.val)) = n8 ((UInt8.ofNat i.val) <<< 4 ||| (UInt8.ofNat j.val)) := by decide +kernel
  have := this ⟨x.toNat, hx⟩ ⟨y.toNat, hy⟩
  simpa using this
theorem shl_i64 (x : UInt8) (hx : x.toNat < 16) : Op.shift .shl .i64 (n8 x) .u64 4 = pure (.int .i64 (n8 x * 16)) := by
  have h1 : (n8 x) ≤ 255 := n8_hi x
  have h0 := n8_lo x
  rw [shift_shl _ _ _ _ (by omega) (by simp [IntKind.bits])]
  congr 2
  have e : (2 : Int) ^ (4 : Int).toNat = 16 := rfl
  rw [e]
  exact IntWalk.i64_in _ (by omega)

/-- The text is one of 64 digits. -/
def goodHex (t : List UInt8) : Bool := t.length == 64 && t.all okc
def pairAt (t : List UInt8) (i : Nat) : UInt8 := dv (byteAt t (2 * i)) <<< 4 ||| dv (byteAt t (2 * i + 1))
def bytesHex (t : List UInt8) : List UInt8 := (List.range 32).map (pairAt t)
def zero32 : List UInt8 := List.replicate 32 0
def unhex (t : List UInt8) : List UInt8 := if goodHex t then bytesHex t else zero32
def unhexE (t : List UInt8) : Int := if goodHex t then 0 else 3
theorem unhex_len (t : List UInt8) : (unhex t).length = 32 := by unfold unhex; split <;> simp [bytesHex, zero32]

theorem bad_at {t : List UInt8} {k : Nat} (hk : k < t.length) (h : okc (byteAt t k) = false) : goodHex t = false := by
  have e : byteAt t k = t[k] := by simp [byteAt, hk]
  rw [e] at h
  have : t.all okc = false := by
    rw [List.all_eq_false]
    exact ⟨t[k], List.getElem_mem hk, by simp [h]⟩
  simp [goodHex, this]
theorem good_all {t : List UInt8} (hl : t.length = 64) (h : ∀ k, k < 64 → okc (byteAt t k) = true) : goodHex t = true := by
  unfold goodHex
  rw [hl, List.all_eq_true.2 (fun c hc => ?_)]
  · rfl
  · obtain ⟨k, hk, rfl⟩ := List.getElem_of_mem hc
    have := h k (by omega)
    rwa [show byteAt t k = t[k] by simp [byteAt, hk]] at this
theorem good_at {t : List UInt8} (h : goodHex t = true) : t.length = 64 ∧ ∀ k, k < 64 → okc (byteAt t k) = true := by
  simp only [goodHex, Bool.and_eq_true, beq_iff_eq, List.all_eq_true] at h
  refine ⟨h.1, fun k hk => ?_⟩
  have hk' : k < t.length := by omega
  rw [show byteAt t k = t[k] by simp [byteAt, hk']]
  exact h.2 _ (List.getElem_mem hk')

theorem hexOf_at (l : List UInt8) (k : Nat) (h : k < l.length) : byteAt (hexOf l) (2 * k) = hexDigit (byteAt l k >>> 4) ∧ byteAt (hexOf l) (2 * k + 1) = hexDigit (byteAt l k &&& 15) := by
  induction l generalizing k with
  | nil => simp at h
  | cons x l ih =>
    have e : hexOf (x :: l) = hexDigit (x >>> 4) :: hexDigit (x &&& 15) :: hexOf l := rfl
    cases k with
    | zero => exact ⟨rfl, rfl⟩
    | succ k =>
      have := ih k (by simpa using h)
      rw [e]
      exact this
/-- What is written in digits is read again. -/
theorem unhex_hex (l : List UInt8) (h : l.length = 32) : goodHex (hexOf l) = true ∧ unhex (hexOf l) = l := by
  have hg : goodHex (hexOf l) = true := by
    refine good_all (by rw [hexOf_len]; omega) fun k hk => ?_
    rcases Nat.mod_two_eq_zero_or_one k with h2 | h2
    · obtain ⟨j, rfl⟩ : ∃ j, k = 2 * j := ⟨k / 2, by omega⟩
      rw [(hexOf_at l j (by omega)).1]
      exact (dv_digit _ (lt16_shr _)).1
    · obtain ⟨j, rfl⟩ : ∃ j, k = 2 * j + 1 := ⟨k / 2, by omega⟩
      rw [(hexOf_at l j (by omega)).2]
      exact (dv_digit _ (lt16_and _)).1
  refine ⟨hg, ?_⟩
  unfold unhex
  rw [if_pos hg]
  refine List.ext_getElem (by simp [bytesHex, h]) fun k h1 h2 => ?_
  simp only [bytesHex, List.getElem_map, List.getElem_range, pairAt]
  rw [(hexOf_at l k h2).1, (hexOf_at l k h2).2, (dv_digit _ (lt16_shr _)).2, (dv_digit _ (lt16_and _)).2, halves]
  simp [byteAt, h2]
/-- A text of digits is what is written of what is read. -/
theorem hex_unhex {t : List UInt8} (h : goodHex t = true) : hexOf (unhex t) = t := by
  obtain ⟨hl, hok⟩ := good_at h
  have hu : unhex t = bytesHex t := by unfold unhex; rw [if_pos h]
  rw [hu]
  have hbl : (bytesHex t).length = 32 := by simp [bytesHex]
  refine List.ext_getElem (by rw [hexOf_len]; omega) fun k h1 h2 => ?_
  have e1 : (hexOf (bytesHex t))[k] = byteAt (hexOf (bytesHex t)) k := by simp [byteAt, h1]
  have e2 : t[k] = byteAt t k := by simp [byteAt, h2]
  rw [e1, e2]
  have hb : ∀ j, j < 32 → byteAt (bytesHex t) j = pairAt t j := fun j hj => by simp [byteAt, bytesHex, hj]
  rcases Nat.mod_two_eq_zero_or_one k with hm | hm
  · obtain ⟨j, rfl⟩ : ∃ j, k = 2 * j := ⟨k / 2, by omega⟩
    rw [(hexOf_at _ j (by omega)).1, hb j (by omega), pairAt, (join_low _ _ (dv_lt _ (hok _ (by omega))) (dv_lt _ (hok _ (by omega)))).1, digit_dv _ (hok _ (by omega))]
  · obtain ⟨j, rfl⟩ : ∃ j, k = 2 * j + 1 := ⟨k / 2, by omega⟩
    rw [(hexOf_at _ j (by omega)).2, hb j (by omega), pairAt, (join_low _ _ (dv_lt _ (hok _ (by omega))) (dv_lt _ (hok _ (by omega)))).2, digit_dv _ (hok _ (by omega))]
end Go.Proofs.Ytkhgfaccmhknjaa
