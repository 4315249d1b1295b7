/- SHA-256 in plain Lean: no program in sight. -/
import Derived.Test.YtlkieepfjhiflaaRot
namespace Go.Proofs.Ytlkieepfjhiflaa

structure St where
  a : UInt32
  b : UInt32
  c : UInt32
  d : UInt32
  e : UInt32
  f : UInt32
  g : UInt32
  h : UInt32
deriving DecidableEq

def St.cells (s : St) : Array Value := #[.int .u32 (n32 s.a), .int .u32 (n32 s.b), .int .u32 (n32 s.c), .int .u32 (n32 s.d), .int .u32 (n32 s.e), .int .u32 (n32 s.f), .int .u32 (n32 s.g), .int .u32 (n32 s.h)]

def bs1 (x : UInt32) : UInt32 := rotr x 6 ^^^ rotr x 11 ^^^ rotr x 25
def bs0 (x : UInt32) : UInt32 := rotr x 2 ^^^ rotr x 13 ^^^ rotr x 22
def ss0 (x : UInt32) : UInt32 := rotr x 7 ^^^ rotr x 18 ^^^ x >>> 3
def ss1 (x : UInt32) : UInt32 := rotr x 17 ^^^ rotr x 19 ^^^ x >>> 10

def tOf (s : St) (k w : UInt32) : UInt32 := s.h + bs1 s.e + (s.g ^^^ s.e &&& (s.f ^^^ s.g)) + k + w
def uOf (s : St) : UInt32 := bs0 s.a + (s.a &&& s.b ||| s.c &&& (s.a ||| s.b))
def St.round (s : St) (k w : UInt32) : St := ⟨tOf s k w + uOf s, s.a, s.b, s.c, s.d + tOf s k w, s.e, s.f, s.g⟩

def kTab : List UInt32 := [
  0x428a2f98, 0x71374491, 0xb5c0fbcf, 0xe9b5dba5, 0x3956c25b, 0x59f111f1, 0x923f82a4, 0xab1c5ed5,
  0xd807aa98, 0x12835b01, 0x243185be, 0x550c7dc3, 0x72be5d74, 0x80deb1fe, 0x9bdc06a7, 0xc19bf174,
  0xe49b69c1, 0xefbe4786, 0x0fc19dc6, 0x240ca1cc, 0x2de92c6f, 0x4a7484aa, 0x5cb0a9dc, 0x76f988da,
  0x983e5152, 0xa831c66d, 0xb00327c8, 0xbf597fc7, 0xc6e00bf3, 0xd5a79147, 0x06ca6351, 0x14292967,
  0x27b70a85, 0x2e1b2138, 0x4d2c6dfc, 0x53380d13, 0x650a7354, 0x766a0abb, 0x81c2c92e, 0x92722c85,
  0xa2bfe8a1, 0xa81a664b, 0xc24b8b70, 0xc76c51a3, 0xd192e819, 0xd6990624, 0xf40e3585, 0x106aa070,
  0x19a4c116, 0x1e376c08, 0x2748774c, 0x34b0bcb5, 0x391c0cb3, 0x4ed8aa4a, 0x5b9cca4f, 0x682e6ff3,
  0x748f82ee, 0x78a5636f, 0x84c87814, 0x8cc70208, 0x90befffa, 0xa4506ceb, 0xbef9a3f7, 0xc67178f2]
def kOf (i : Nat) : UInt32 := kTab.getD i 0

/-- The 16 words of a block of bytes. -/
def byteAt (l : List UInt8) (i : Nat) : UInt8 := l.getD i 0
def wordAt (l : List UInt8) (i : Nat) : UInt32 :=
  (byteAt l (4 * i)).toUInt32 <<< 24 ||| (byteAt l (4 * i + 1)).toUInt32 <<< 16 ||| (byteAt l (4 * i + 2)).toUInt32 <<< 8 ||| (byteAt l (4 * i + 3)).toUInt32

/-- The schedule's first n words. -/
def wsl (l : List UInt8) : Nat → List UInt32
  | 0 => []
  | n + 1 => (fun q => q ++ [if n < 16 then wordAt l n else q.getD (n - 16) 0 + ss0 (q.getD (n - 15) 0) + q.getD (n - 7) 0 + ss1 (q.getD (n - 2) 0)]) (wsl l n)
def wOf (l : List UInt8) (i : Nat) : UInt32 := (wsl l (i + 1)).getD i 0

theorem wsl_len (l : List UInt8) (n : Nat) : (wsl l n).length = n := by
  induction n with
  | zero => rfl
  | succ n ih => simp [wsl, ih]
theorem wsl_at (l : List UInt8) (n i : Nat) (h : i < n) : (wsl l n).getD i 0 = wOf l i := by
  induction n with
  | zero => omega
  | succ n ih =>
    by_cases hi : i = n
    · subst hi; rfl
    · have hlt : i < n := by omega
      rw [← ih hlt]
      simp only [wsl, List.getD_eq_getElem?_getD]
      rw [List.getElem?_append_left (by rw [wsl_len]; exact hlt)]
theorem wOf_lo (l : List UInt8) (i : Nat) (h : i < 16) : wOf l i = wordAt l i := by
  have := wsl_len l i
  simp [wOf, wsl, List.getD_eq_getElem?_getD, this, h]
theorem wOf_hi (l : List UInt8) (i : Nat) (h : 16 ≤ i) : wOf l i = wOf l (i - 16) + ss0 (wOf l (i - 15)) + wOf l (i - 7) + ss1 (wOf l (i - 2)) := by
  have hl := wsl_len l i
  have h1 : wOf l i = (wsl l i).getD (i - 16) 0 + ss0 ((wsl l i).getD (i - 15) 0) + (wsl l i).getD (i - 7) 0 + ss1 ((wsl l i).getD (i - 2) 0) := by
    have hn : ¬ i < 16 := by omega
    show (wsl l (i + 1)).getD i 0 = _
    simp only [wsl, if_neg hn]
    rw [List.getD_eq_getElem?_getD, List.getElem?_append_right (by omega), hl]
    simp
  rw [h1, wsl_at l i _ (by omega), wsl_at l i _ (by omega), wsl_at l i _ (by omega), wsl_at l i _ (by omega)]

/-- The hash behind n rounds. -/
def rounds (s : St) (l : List UInt8) : Nat → St
  | 0 => s
  | n + 1 => (rounds s l n).round (kOf n) (wOf l n)
def St.plus (s t : St) : St := ⟨s.a + t.a, s.b + t.b, s.c + t.c, s.d + t.d, s.e + t.e, s.f + t.f, s.g + t.g, s.h + t.h⟩
/-- A block of 64 bytes mixed into a hash. -/
def mixOf (s : St) (l : List UInt8) : St := s.plus (rounds s l 64)

end Go.Proofs.Ytlkieepfjhiflaa
