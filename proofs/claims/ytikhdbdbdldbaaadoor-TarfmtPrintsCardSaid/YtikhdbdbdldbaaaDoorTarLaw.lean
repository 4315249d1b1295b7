/- Tars in plain lists: what an entry's header is. No program, no condition. -/
import Derived.Test.YtikhdbdbdldbaaaDoorBase
namespace Go.Proofs.YtikhdbdbdldbaaaDoor

/-- An entry. -/
structure EntD where
  name : List UInt8
  kind : Int
  mode : Int
  link : List UInt8
  data : List UInt8
/-- The last place of a slash among bytes. -/
def lastSl : List UInt8 → Option Nat
  | [] => none
  | x :: l => match lastSl l with
    | some i => some (i + 1)
    | none => if x = 47 then some 0 else none
/-- A name's prefix, and the rest. -/
def partedL (s : List UInt8) : Option (List UInt8 × List UInt8) :=
  if s.length ≤ 100 then some ([], s) else
  match lastSl (s.take (min (s.length - 1) 156)) with
  | none => none
  | some i => if i < 1 ∨ 100 < s.length - i - 1 then none else some (s.take i, s.drop (i + 1))
def plainL (s : List UInt8) (most : Nat) : Bool := decide (s ≠ [] ∧ s.length ≤ most ∧ ∀ x ∈ s, x ≠ 0)
/-- May it be printed? -/
def rightL (e : EntD) : Int :=
  if e.kind < 1 ∨ 4 < e.kind ∨ e.mode < 0 ∨ 4095 < e.mode then 2
  else if plainL e.name 255 = false ∨ (partedL e.name).isNone = true then 8
  else if (decide (e.kind = 3 ∨ e.kind = 4) != decide (e.link ≠ [])) = true ∨ ((e.kind = 3 ∨ e.kind = 4) ∧ plainL e.link 100 = false) ∨ (e.kind ≠ 1 ∧ e.data ≠ []) then 3
  else if 70656 < e.data.length then 6 else 0
/-- A header's sum. -/
def sumH (h : List UInt8) : Nat := if h.length = 512 then ((h.take 148).map (·.toNat)).sum + 256 + ((h.drop 156).map (·.toNat)).sum else 0
/-- Digits of a number: m of them. -/
def digs (n : Nat) : Nat → List UInt8
  | 0 => []
  | m + 1 => digs (n / 8) m ++ [UInt8.ofNat (48 + n % 8)]
theorem digs_len (m : Nat) : ∀ n, (digs n m).length = m := by
  induction m with
  | zero => intro n; rfl
  | succ m ih => intro n; simp [digs, ih]
def zer (n : Nat) : List UInt8 := List.replicate n 0
def octF (n k : Nat) : List UInt8 := digs n (k - 1) ++ [0]
def txtF (l : List UInt8) (k : Nat) : List UInt8 := l ++ zer (k - l.length)
def kindB (k : Int) : UInt8 := if k = 1 then 48 else if k = 2 then 53 else if k = 3 then 50 else 49
def magicL : List UInt8 := [0x75, 0x73, 0x74, 0x61, 0x72, 0, 0x30, 0x30]
/-- What stands ahead of the sum's field, and what stands behind it. -/
def headA (rest : List UInt8) (mode size : Nat) : List UInt8 := txtF rest 100 ++ octF mode 8 ++ octF 0 8 ++ octF 0 8 ++ octF size 12 ++ octF 0 12
def headB (k : Int) (link ahead : List UInt8) : List UInt8 := [kindB k] ++ txtF link 100 ++ magicL ++ zer 32 ++ zer 32 ++ octF 0 8 ++ octF 0 8 ++ txtF ahead 155 ++ zer 12
/-- An entry's header. -/
def headerL (e : EntD) : List UInt8 :=
  let p := (partedL e.name).getD ([], [])
  let a := headA p.2 e.mode.toNat e.data.length
  let b := headB e.kind e.link p.1
  a ++ octF (sumH (a ++ zer 8 ++ b)) 8 ++ b
def filledL (n : Nat) : Nat := (n + 511) / 512 * 512
def bodyL (e : EntD) : List UInt8 := headerL e ++ e.data ++ zer (filledL e.data.length - e.data.length)
def firstBad : List EntD → Option Int
  | [] => none
  | e :: l => if rightL e = 0 then firstBad l else some (rightL e)
/-- Is there room? -/
def roomL : List EntD → Nat → Bool
  | [], _ => true
  | e :: l, all => let a := all + 512 + filledL e.data.length; if 60000 < a then false else roomL l a
/-- Entries as a tar, and the error. -/
def printL (l : List EntD) : List UInt8 × Int :=
  match firstBad l with
  | some f => ([], f)
  | none => if 256 < l.length then ([], 6) else if roomL l 1024 then ((l.map bodyL).flatten ++ zer 1024, 0) else ([], 6)
end Go.Proofs.YtikhdbdbdldbaaaDoor
