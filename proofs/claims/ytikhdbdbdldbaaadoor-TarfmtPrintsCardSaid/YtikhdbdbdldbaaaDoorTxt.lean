/- Contracts of tarfmt.text and zeros. -/
import Derived.Test.YtikhdbdbdldbaaaDoorParLaw
import Derived.Test.YtikhdbdbdldbaaaDoorEnts
import Derived.Test.YtikhdbdbdldbaaaDoorShelf
import Derived.BigQuiet
namespace Go.Proofs.YtikhdbdbdldbaaaDoor
open Go.RowKit

theorem trim_len (l : List UInt8) : (Lib.trimRightB l 0).length ≤ l.length := by
  unfold Lib.trimRightB
  rw [List.length_reverse]
  exact Nat.le_trans (List.dropWhile_sublist _).length_le (by simp)
theorem textL_is (f : List UInt8) : textL f = if Lib.indexByte (Lib.trimRightB f 0) 0 < 0 then some (Lib.trimRightB f 0) else none := by
  unfold textL
  have h := indexB (Lib.trimRightB f 0) 0
  by_cases h2 : ∀ x ∈ Lib.trimRightB f 0, x ≠ 0
  · simp only; rw [if_pos h2, if_pos (h.2 h2)]
  · simp only; rw [if_neg h2, if_neg (fun q => h2 (h.1 q))]
set_option maxRecDepth 100000 in
set_option maxHeartbeats 2000000 in
theorem text_any (w : World) (v : Value) (f : List UInt8) (hr : RdB w v f) (hl : f.length ≤ 512) :
    Calls Tryd.prog 54 #[v] w fun e w' => e = .returned (.tuple #[.string (bs (Lib.trimRightB f 0)), .bool (textL f).isSome]) ∧ Below w.heap.size w w' := by
  have HT := Lib.hid (fun W => Tryd.strings_TrimRight_one (bs f) 0 (by decide) W (by rw [bs_size]; omega))
  have HI := Lib.hid (Tryd.strings_IndexByte (bs (Lib.trimRightB f 0)) 0)
  rw [bs_list] at HT HI
  have hc : (convert 23 9 v).run Tryd.prog w = .ok (.string (bs f)) w := run_text hr
  have HP := Lib.hid (textL_is f)
  clear hr
  go_enter Tryd.func54, Tryd.ntmps54
  go_wp2_with fail
  refine (HT.out _).mono ?_
  rintro e w2 ⟨rfl, rfl⟩
  clear HT
  change Hid (∀ w, Calls _ _ #[.string ⟨(Lib.trimRightB f 0).toArray⟩, _] w _) at HI
  go_wp2_with fail
  refine (HI.out _).mono ?_
  rintro e w3 ⟨rfl, rfl⟩
  rw [show (0 : Int).toNat.toUInt8 = 0 from rfl]
  clear HI hc
  have HP2 := Lib.hid (show (textL f).isSome = decide (Lib.indexByte (Lib.trimRightB f 0) 0 < 0) by
    rw [HP.out]; by_cases h : Lib.indexByte (Lib.trimRightB f 0) 0 < 0
    · rw [if_pos h]; simp [h]
    · rw [if_neg h]; simp [h])
  go_wp2_with fail
  exact bodyPost_ret (v := .tuple #[.string (bs (Lib.trimRightB f 0)), .bool (textL f).isSome]) (by rw [HP2.out]; simp [results, Tryd.results54, go_sem]; rfl) rfl ⟨rfl, Below.refl _ _⟩
set_option maxRecDepth 100000 in
set_option maxHeartbeats 2000000 in
theorem isZ_any (w : World) (x : UInt8) : Calls Tryd.prog 51 #[vB x] w fun e w' => e = .returned (.bool (x != 0)) ∧ w' = w := by
  unfold vB n8
  have hx : (x != 0) = decide (x.toNat ≠ 0) := by
    by_cases h : x = 0
    · subst h; rfl
    · have : x.toNat ≠ 0 := fun q => h (UInt8.toNat_inj.1 (by rw [q]; rfl))
      simp [h, this]
  rw [hx]
  generalize x.toNat = q
  clear hx
  go_enter Tryd.func51, Tryd.ntmps51
  go_wp2_with fail
  go_ret
  exact ⟨ret_eq (by by_cases h : q = 0 <;> simp [h]), rfl⟩
/-- Where the first byte that is not 0 stands; -1. -/
def firstNZ : List UInt8 → Int
  | [] => -1
  | x :: l => if x = 0 then (if firstNZ l < 0 then -1 else firstNZ l + 1) else 0
theorem firstNZ_ge (l : List UInt8) : -1 ≤ firstNZ l := by
  induction l with
  | nil => simp [firstNZ]
  | cons x l ih =>
    unfold firstNZ
    split
    · split <;> omega
    · decide
theorem firstNZ_neg (l : List UInt8) : firstNZ l < 0 ↔ allZ l = true := by
  induction l with
  | nil => simp [firstNZ, allZ]
  | cons x l ih =>
    have h1 := firstNZ_ge l
    unfold firstNZ
    simp only [allZ, List.all_cons, Bool.and_eq_true, beq_iff_eq] at ih ⊢
    by_cases h : x = 0
    · rw [if_pos h]
      by_cases h2 : firstNZ l < 0
      · rw [if_pos h2]; simp [h, ih.1 h2]
      · rw [if_neg h2]
        constructor
        · intro q; omega
        · intro q; exact absurd (ih.2 q.2) h2
    · rw [if_neg h]; simp [h]
theorem firstNZ_at {l : List UInt8} {j : Nat} (hj : j < l.length) (h0 : allZ (l.take j) = true) (hx : l[j] ≠ 0) : firstNZ l = (j : Int) := by
  induction l generalizing j with
  | nil => simp at hj
  | cons y l ih =>
    cases j with
    | zero => unfold firstNZ; rw [if_neg (by simpa using hx)]; rfl
    | succ j =>
      simp only [List.take_succ_cons, allZ, List.all_cons, Bool.and_eq_true, beq_iff_eq] at h0
      have h2 := ih (by simpa using hj) h0.2 (by simpa using hx)
      unfold firstNZ
      rw [if_pos h0.1, h2, if_neg (by omega)]; simp
set_option maxRecDepth 100000 in
set_option maxHeartbeats 2000000 in
theorem indexNZ_any (w : World) (v : Value) (l : List UInt8) (hr : RdB w v l) (hl : l.length ≤ 9223372036854775807) :
    Calls Tryd.prog 57 #[v, .func (.func 51) #[] #[]] w fun e w' => e = .returned (.int .i64 (firstNZ l)) ∧ Below w.heap.size w w' := by
  obtain ⟨a, c, rfl, hc⟩ := rd_slice hr
  have HR := Lib.hid hr
  clear hr
  have b0 : (l.length : Int) ≤ 9223372036854775807 := by omega
  go_enter Tryd.func57, Tryd.ntmps57
  go_wp2_with fail
  go_loopw [8] (fun i wr => ∃ j : Nat, j ≤ l.length ∧ i = .int .i64 (j : Int) ∧ allZ (l.take j) = true ∧ Below w.heap.size w wr) (fun i _ => ((l.length : Int) - intOf i).toNat)
  case atStart => exact ⟨0, by omega, by simp, by simp [allZ], Below.refl _ _⟩
  case round =>
    obtain ⟨j, hj, rfl, hz, hB⟩ := hrel
    have HB := Lib.hid hB; have HZ := Lib.hid hz
    clear hB hz
    by_cases hlt : j < l.length
    · obtain ⟨b, off, rfl, hcell⟩ : ∃ b off, a = some ⟨b, off, none⟩ ∧ wr.cell? ⟨b, off + j, none⟩ = some (vB l[j]) := by
        obtain ⟨a', cap', e, hc⟩ := (RdV.below HR.out HB.out).open
        simp only [Value.slice.injEq] at e
        rw [e.1]
        exact hc j _ (by simp [hlt])
      have i0 : (j : Int) < (l.length : Int) := by omega
      have HC := Lib.hid (fun W => isZ_any W l[j])
      have HN := Lib.hid (show l[j] ≠ 0 → firstNZ l = (j : Int) from fun h => firstNZ_at hlt HZ.out h)
      have HZ2 := Lib.hid (show l[j] = 0 → allZ (l.take (j + 1)) = true by
        intro h; rw [List.take_succ_eq_append_getElem hlt]; have := HZ.out; simp only [allZ, List.all_append, List.all_cons, List.all_nil, h] at this ⊢; simp [this])
      unfold vB n8 at hcell HC
      generalize l[j] = x at *
      go_wp2_with fail
      refine (HC.out _).mono ?_
      rintro e w2 ⟨rfl, rfl⟩
      clear HC
      by_cases hx : x = 0
      · have hb : (x != 0) = false := by simp [hx]
        rw [hb]
        have HZ3 := Lib.hid (HZ2.out hx)
        clear hb HN HZ2
        go_wp2_with fail
        exact ⟨⟨j + 1, by omega, by simp, HZ3.out, HB.out⟩, by simp [intOf]; omega⟩
      · have hb : (x != 0) = true := by simp [hx]
        rw [hb]
        have HN2 := Lib.hid (HN.out hx)
        clear hb HN HZ2
        go_wp2_with fail
        exact bodyPost_ret (v := .int .i64 (j : Int)) (by simp [results, Tryd.results57, go_sem]) rfl ⟨by rw [HN2.out], HB.out⟩
    · obtain rfl : j = l.length := by omega
      have hn : firstNZ l = -1 := by
        have h1 := firstNZ_ge l
        have h2 := (firstNZ_neg l).2 (by have := HZ.out; rwa [List.take_length] at this)
        omega
      have HNN := Lib.hid hn
      clear hn
      go_wp2_with fail
      exact bodyPost_ret (v := .int .i64 (-1)) (by simp [results, Tryd.results57, go_sem]) rfl ⟨by rw [HNN.out], HB.out⟩
set_option maxRecDepth 100000 in
set_option maxHeartbeats 2000000 in
theorem zeros_any (w : World) (v : Value) (l : List UInt8) (hr : RdB w v l) (hl : l.length ≤ 9223372036854775807) :
    Calls Tryd.prog 45 #[v] w fun e w' => e = .returned (.bool (allZ l)) ∧ Below w.heap.size w w' := by
  have HC := Lib.hid (show Calls Tryd.prog 50 #[v, .func (.func 51) #[] #[]] w fun e w' => e = .returned (.bool (!allZ l)) ∧ Below w.heap.size w w' by
    have HI := Lib.hid (indexNZ_any w v l hr hl)
    have h1 := firstNZ_ge l
    have h2 := firstNZ_neg l
    have h3 : (!allZ l) = decide (0 ≤ firstNZ l) := by
      by_cases h : firstNZ l < 0
      · rw [h2.1 h]; simp; omega
      · have : allZ l = false := by
          cases hz : allZ l with
          | false => rfl
          | true => exact absurd (h2.2 hz) h
        rw [this]; simp; omega
    rw [h3]
    clear hr h2 h3
    generalize firstNZ l = q at *
    go_enter Tryd.func50, Tryd.ntmps50
    go_wp2_with fail
    refine HI.out.mono ?_
    rintro e w2 ⟨rfl, hb⟩
    have HB := Lib.hid hb
    clear hb
    go_wp2_with fail
    go_ret
    exact ⟨ret_eq (by simp), HB.out⟩)
  clear hr
  generalize allZ l = q at *
  go_enter Tryd.func45, Tryd.ntmps45
  go_wp2_with fail
  refine HC.out.mono ?_
  rintro e w2 ⟨rfl, hb⟩
  have HB := Lib.hid hb
  clear hb
  go_wp2_with fail
  go_ret
  exact ⟨ret_eq (by simp), HB.out⟩
end Go.Proofs.YtikhdbdbdldbaaaDoor
