/- Tars in plain lists: what is read of a header's bytes, and of a tar's. No program, no condition. -/
import Derived.Test.YtikhdbdbdldbaaaDoorHdrLaw
import Derived.Lib.TrimByte
namespace Go.Proofs.YtikhdbdbdldbaaaDoor

/-- Digits, read on from n. -/
def octN : List UInt8 → Nat → Option Nat
  | [], n => some n
  | x :: l, n => if x.toNat < 48 ∨ 55 < x.toNat then none else octN l (n * 8 + (x.toNat - 48))
theorem octN_snoc (l : List UInt8) (x : UInt8) : ∀ n, octN (l ++ [x]) n = match octN l n with | none => none | some m => if x.toNat < 48 ∨ 55 < x.toNat then none else some (m * 8 + (x.toNat - 48)) := by
  induction l with
  | nil => intro n; simp [octN]
  | cons y l ih =>
    intro n
    simp only [List.cons_append, octN]
    by_cases h : y.toNat < 48 ∨ 55 < y.toNat
    · rw [if_pos h, if_pos h]
    · rw [if_neg h, if_neg h]; exact ih _
theorem octN_lt (l : List UInt8) : ∀ n m, octN l n = some m → m < (n + 1) * 8 ^ l.length := by
  induction l with
  | nil => intro n m h; simp [octN] at h; subst h; simp
  | cons y l ih =>
    intro n m h
    simp only [octN] at h
    split at h
    · cases h
    · rename_i hy
      have h2 := ih _ _ h
      simp only [List.length_cons, Nat.pow_succ]
      have h3 : n * 8 + (y.toNat - 48) + 1 ≤ (n + 1) * 8 := by omega
      calc m < (n * 8 + (y.toNat - 48) + 1) * 8 ^ l.length := h2
        _ ≤ (n + 1) * 8 * 8 ^ l.length := Nat.mul_le_mul_right _ h3
        _ = (n + 1) * (8 ^ l.length * 8) := by rw [Nat.mul_assoc, Nat.mul_comm 8]
theorem octN_none {l : List UInt8} {j : Nat} (h : octN (l.take j) 0 = none) : octN l 0 = none := by
  have : ∀ (a b : List UInt8) (n : Nat), octN a n = none → octN (a ++ b) n = none := by
    intro a
    induction a with
    | nil => intro b n h; cases h
    | cons y a ih =>
      intro b n h
      simp only [List.cons_append, octN] at h ⊢
      split at h
      · rw [if_pos ‹_›]
      · rw [if_neg ‹_›]; exact ih _ _ h
  rw [← List.take_append_drop j l]
  exact this _ _ _ h
/-- A field's number: digits, then 0 or a blank. -/
def numL (f : List UInt8) : Option Nat :=
  match octN (f.take (f.length - 1)) 0 with
  | none => none
  | some n => if f.getD (f.length - 1) 0 = 0 ∨ f.getD (f.length - 1) 0 = 32 then some n else none
/-- A field's text: noughts behind it, none in it. -/
def textL (f : List UInt8) : Option (List UInt8) :=
  let s := Lib.trimRightB f 0
  if ∀ x ∈ s, x ≠ 0 then some s else none
/-- The sum's field. -/
def sumL (f : List UInt8) : Option Nat := if f.getD 6 0 = 0 ∧ f.getD 7 0 = 32 then numL (f.take 7) else numL f
def fld (h : List UInt8) (p : Nat × Nat) : List UInt8 := (h.drop p.1).take p.2
def allZ (l : List UInt8) : Bool := l.all (· == 0)
/-- The kinds' signs, read. -/
def kindL (x : UInt8) : Int := if x = 48 ∨ x = 0 then 1 else if x = 49 then 4 else if x = 50 then 3 else if x = 53 then 2 else 0
def nameL (ahead rest : List UInt8) : List UInt8 := if ahead = [] then rest else ahead ++ [47] ++ rest
def read7 (h : List UInt8) (m n : Nat) (rest ahead link : List UInt8) : Option (EntD × Nat) :=
  let e : EntD := ⟨nameL ahead rest, kindL (h.getD 156 0), (m : Int), link, []⟩
  if rightL e = 0 ∧ (n = 0 ∨ e.kind = 1) then some (e, n) else none
def read6 (h : List UInt8) (m n : Nat) (rest ahead : List UInt8) : Option (EntD × Nat) :=
  match textL (fld h (157, 100)) with
  | none => none
  | some link => read7 h m n rest ahead link
def read5 (h : List UInt8) (m n : Nat) (rest : List UInt8) : Option (EntD × Nat) :=
  match textL (fld h (345, 155)) with
  | none => none
  | some ahead => read6 h m n rest ahead
def read4 (h : List UInt8) (m n : Nat) : Option (EntD × Nat) :=
  match textL (fld h (0, 100)) with
  | none => none
  | some rest => if rest = [] then none else read5 h m n rest
def read3 (h : List UInt8) (m : Nat) : Option (EntD × Nat) :=
  match numL (fld h (124, 12)) with
  | none => none
  | some n => if 70656 < n then none else read4 h m n
def read2 (h : List UInt8) : Option (EntD × Nat) :=
  match numL (fld h (100, 8)) with
  | none => none
  | some m => read3 h m
def read1 (h : List UInt8) : Option (EntD × Nat) :=
  match sumL (fld h (148, 8)) with
  | none => none
  | some s => if s ≠ sumH h then none else read2 h
/-- A header's entry (without its data), and its size. -/
def readL (h : List UInt8) : Option (EntD × Nat) :=
  if fld h (257, 8) ≠ magicL ∨ allZ (h.drop 500) = false then none else
  if numsL.any (fun p => (numL (fld h p)).isNone) then none else
  if textsL.any (fun p => (textL (fld h p)).isNone) then none else read1 h
/-- What is yielded: an entry and where it stands; or where something is wrong. -/
structure PlD where
  e : EntD
  at_ : Nat
  ok : Bool
def badP (a : Nat) : PlD := ⟨⟨[], 0, 0, [], []⟩, a, false⟩
/-- One step at a place: nothing more; something wrong; an entry, and how many bytes it has. -/
inductive StepP where
  | done
  | bad
  | ent (e : EntD) (n : Nat)
def stepE (rest : List UInt8) : Option (EntD × Nat) → StepP
  | none => .bad
  | some (e, n) => if rest.length < 512 + filledL n ∨ allZ ((rest.drop (512 + n)).take (filledL n - n)) = false then .bad else .ent { e with data := (rest.drop 512).take n } (512 + filledL n)
def stepL (rest : List UInt8) : StepP :=
  if rest.length < 512 then .bad else
  if allZ (rest.take 512) then (if rest.length < 1024 ∨ rest.length % 512 ≠ 0 ∨ allZ rest = false then .bad else .done) else
  stepE rest (readL (rest.take 512))
/-- All that is yielded, from a place on. -/
def placesL (b : List UInt8) : Nat → Nat → List PlD
  | 0, _ => []
  | k + 1, a => match stepL (b.drop a) with
    | .done => []
    | .bad => [badP a]
    | .ent e n => ⟨e, a, true⟩ :: placesL b k (a + n)
/-- Parsing's loop. -/
def parseP : List PlD → List EntD → List EntD × Int × Nat
  | [], out => (out, 0, 0)
  | p :: ps, out => if p.ok = false ∨ out.length = 256 then ([], 3, p.at_) else parseP ps (out ++ [p.e])
/-- A tar's entries, the error, and the place. -/
def parseL (b : List UInt8) : List EntD × Int × Nat := if 60000 < b.length then ([], 6, 0) else parseP (placesL b (b.length + 1) 0) []
end Go.Proofs.YtikhdbdbdldbaaaDoor
