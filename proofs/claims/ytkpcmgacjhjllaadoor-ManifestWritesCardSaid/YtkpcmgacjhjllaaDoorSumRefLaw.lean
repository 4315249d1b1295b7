/- Plain laws for the reference's SHA-256. -/
import Derived.Test.YtkpcmgacjhjllaaDoorSum
namespace Go.Proofs.YtkpcmgacjhjllaaDoor

def padN (n : Nat) : Nat := (119 - n % 64) % 64
/-- The message made full. -/
def padAll (l : List UInt8) : List UInt8 := l ++ [128] ++ List.replicate (padN l.length) 0 ++ lenBytes l.length 8
theorem padN_stop (n j : Nat) (h : j ≤ padN n) : (n + 1 + j) % 64 = 56 ↔ j = padN n := by
  unfold padN at *
  omega
theorem lenBytes_len (n k : Nat) : (lenBytes n k).length = k := by simp [lenBytes]
theorem padAll_len (l : List UInt8) : (padAll l).length % 64 = 0 := by
  have := (padN_stop l.length (padN l.length) (Nat.le_refl _)).2 rfl
  simp only [padAll, List.length_append, List.length_replicate, lenBytes_len, List.length_cons, List.length_nil]
  omega
theorem padAll_le (l : List UInt8) : (padAll l).length ≤ l.length + 72 := by
  have : padN l.length < 64 := Nat.mod_lt _ (by omega)
  simp only [padAll, List.length_append, List.length_replicate, lenBytes_len, List.length_cons, List.length_nil]
  omega
theorem sha_full (l : List UInt8) : sha l = digest (absorb s0 (padAll l) ((padAll l).length / 64)) := by
  have hr := restOf_len l
  have e1 : padAll l = l ++ ([128] ++ List.replicate (padN l.length) 0 ++ lenBytes l.length 8) := by simp [padAll]
  have e2 : padTo (restOf l) l.length = restOf l ++ ([128] ++ List.replicate (padN l.length) 0 ++ lenBytes l.length 8) := by
    simp only [padTo, padN, hr, List.append_assoc]
  unfold sha finOf
  rw [e2, write_st l _ _ rfl, e1]
  rfl

theorem ch_eq (e f g : UInt32) : (e &&& f) ^^^ (~~~ e &&& g) = g ^^^ e &&& (f ^^^ g) := by
  rw [← UInt32.toBitVec_inj]
  simp only [UInt32.toBitVec_and, UInt32.toBitVec_xor, UInt32.toBitVec_not]
  ext i hi
  simp only [BitVec.getElem_and, BitVec.getElem_xor, BitVec.getElem_not]
  cases e.toBitVec[i] <;> cases f.toBitVec[i] <;> cases g.toBitVec[i] <;> rfl
theorem maj_eq (a b c : UInt32) : (a &&& b) ^^^ (a &&& c) ^^^ (b &&& c) = a &&& b ||| c &&& (a ||| b) := by
  rw [← UInt32.toBitVec_inj]
  simp only [UInt32.toBitVec_and, UInt32.toBitVec_xor, UInt32.toBitVec_or]
  ext i hi
  simp only [BitVec.getElem_and, BitVec.getElem_xor, BitVec.getElem_or]
  cases a.toBitVec[i] <;> cases b.toBitVec[i] <;> cases c.toBitVec[i] <;> rfl
/-- The reference's round is the same one. -/
def t1Of (s : St) (k w : UInt32) : UInt32 := s.h + bs1 s.e + ((s.e &&& s.f) ^^^ (~~~ s.e &&& s.g)) + k + w
def majOf (s : St) : UInt32 := (s.a &&& s.b) ^^^ (s.a &&& s.c) ^^^ (s.b &&& s.c)
theorem round_ref (s : St) (k w : UInt32) : (⟨t1Of s k w + bs0 s.a + majOf s, s.a, s.b, s.c, s.d + t1Of s k w, s.e, s.f, s.g⟩ : St) = s.round k w := by
  have h1 : t1Of s k w = tOf s k w := by unfold t1Of tOf; rw [ch_eq]
  have h2 : t1Of s k w + bs0 s.a + majOf s = tOf s k w + uOf s := by
    rw [h1, UInt32.add_assoc]
    unfold uOf majOf
    rw [maj_eq]
  rw [h2, h1]
  rfl

/-- The first j bytes of a word. -/
def partWord (l : List UInt8) (i : Nat) : Nat → UInt32
  | 0 => 0
  | j + 1 => partWord l i j <<< 8 ||| (byteAt l (4 * i + j)).toUInt32
theorem shl_or8 (x y : UInt32) : (x ||| y) <<< 8 = x <<< 8 ||| y <<< 8 := by
  rw [← UInt32.toBitVec_inj]
  simp only [UInt32.toBitVec_shiftLeft, UInt32.toBitVec_or]
  exact BitVec.shiftLeft_or_distrib ..
theorem shl_8_8 (x : UInt32) : x <<< 8 <<< 8 = x <<< 16 ∧ x <<< 16 <<< 8 = x <<< 24 := by
  constructor
  · rw [← UInt32.toBitVec_inj]
    simp only [UInt32.toBitVec_shiftLeft]
    exact (BitVec.shiftLeft_add x.toBitVec 8 8).symm
  · rw [← UInt32.toBitVec_inj]
    simp only [UInt32.toBitVec_shiftLeft]
    exact (BitVec.shiftLeft_add x.toBitVec 16 8).symm
theorem partWord_four (l : List UInt8) (i : Nat) : partWord l i 4 = wordAt l i := by
  have z : (0 : UInt32) <<< 8 = 0 := by decide
  simp only [partWord, wordAt, z, UInt32.zero_or, shl_or8, (shl_8_8 _).1, (shl_8_8 _).2, Nat.add_zero]
theorem digest_byte (s : St) (i : Nat) (h : i < 32) : (s.fn (i / 4) >>> UInt32.ofNat (24 - 8 * (i % 4))).toUInt8 = byteAt (digest s) i := by
  have h1 := digest_at s (i / 4) (i % 4) (by omega) (by omega)
  have h2 : 4 * (i / 4) + i % 4 = i := by omega
  rw [h2] at h1
  rw [h1]
  have h3 : i % 4 = 0 ∨ i % 4 = 1 ∨ i % 4 = 2 ∨ i % 4 = 3 := by omega
  have z : s.fn (i / 4) >>> (0 : UInt32) = s.fn (i / 4) := by
    rw [← UInt32.toBitVec_inj]; simp
  rcases h3 with e | e | e | e <;> rw [e]
  · rfl
  · rfl
  · rfl
  · show (s.fn (i / 4) >>> (0 : UInt32)).toUInt8 = _
    rw [z]; rfl
end Go.Proofs.YtkpcmgacjhjllaaDoor
