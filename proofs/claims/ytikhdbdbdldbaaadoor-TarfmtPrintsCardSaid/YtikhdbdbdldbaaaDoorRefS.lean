/- The reference's noZero, part and Sum. -/
import Derived.Test.YtikhdbdbdldbaaaDoorTarSum
import Derived.Test.YtikhdbdbdldbaaaDoorParted
import Derived.Test.YtikhdbdbdldbaaaDoorTarLast
namespace Go.Proofs.YtikhdbdbdldbaaaDoor
open Go.RowKit

theorem run_ch (l : List UInt8) (k : Nat) (hk : k < l.length) (w : World) (i : Int) (hi : i = k) : (Instr.index 9 (.string (bs l)) (.int .i64 i)).run Tryd.prog w = .ok (.int .u8 (n8 l[k])) w := by
  subst hi
  have h : 0 ≤ (k : Int) ∧ (k : Int) < ((bs l).size : Nat) := by rw [bs_size]; omega
  rw [run_index_string w _ _ _ _ Tryd.underlying9, dif_pos h]
  have : l[k] = (bs l)[(k : Int).toNat]'(by simpa [bs_size] using hk) := by
    simp only [Int.toNat_natCast, ByteArray.getElem_eq_getElem_data]
    simp [bs]
  rw [this]
  rfl
/-- Is there no nought among bytes? -/
def nzL (s : List UInt8) : Bool := decide (∀ x ∈ s, x ≠ 0)
set_option maxRecDepth 100000 in
set_option maxHeartbeats 1000000 in
theorem nozero_any (w : World) (s : List UInt8) (hs : s.length ≤ 9223372036854775807) :
    Calls Tryd.prog 27 #[.string (bs s)] w fun e w' => e = .returned (.bool (nzL s)) ∧ Below w.heap.size w w' := by
  have hsz := bs_size s
  have b0 : (s.length : Int) ≤ 9223372036854775807 := by omega
  go_enter Tryd.func27, Tryd.ntmps27
  go_wp2_with fail
  go_loopw [3] (fun i wr => ∃ j : Nat, j ≤ s.length ∧ i = .int .i64 (j : Int) ∧ (∀ x ∈ s.take j, x ≠ 0) ∧ Below w.heap.size w wr) (fun i _ => ((s.length : Int) - intOf i).toNat)
  case atStart => exact ⟨0, by omega, by simp, by simp, Below.refl _ _⟩
  case round =>
    obtain ⟨j, hj, rfl, hz, hB⟩ := hrel
    have HB := Lib.hid hB; have HZ := Lib.hid hz
    clear hB hz
    by_cases hlt : j < s.length
    · have i1 := fun w => run_ch s j hlt w (j : Int) rfl
      have i0 : (j : Int) < (s.length : Int) := by omega
      have HT := Lib.hid (show s.take (j + 1) = s.take j ++ [s[j]] from List.take_succ_eq_append_getElem hlt)
      have HM := Lib.hid (show s[j] ∈ s from List.getElem_mem hlt)
      have hx := (s[j]).toNat_lt
      unfold n8 at i1
      generalize s[j] = x at *
      obtain ⟨p, hp⟩ : ∃ p, p = x.toNat := ⟨_, rfl⟩
      rw [← hp] at i1 hx
      have hx : p < 256 := hx
      have HP := Lib.hid hp
      clear hp
      by_cases h0 : p = 0
      · have hnz : nzL s = false := by
          unfold nzL
          simp only [decide_eq_false_iff_not]
          intro q
          exact q x HM.out (UInt8.toNat_inj.1 (by rw [← HP.out, h0]; rfl))
        have HN := Lib.hid hnz
        subst h0
        clear hnz
        go_wp2_with fail
        go_ret
        exact ⟨by rw [HN.out]; exact ret_eq (by simp), HB.out⟩
      · have i3 : ¬ (p : Int) = 0 := by omega
        have HZ2 := Lib.hid (show ∀ y ∈ s.take (j + 1), y ≠ 0 from by
          rw [HT.out]
          intro y hy
          rcases List.mem_append.1 hy with h | h
          · exact HZ.out y h
          · simp at h
            rw [h]
            intro q
            apply h0
            rw [HP.out, q]; rfl)
        go_wp2_with fail
        exact ⟨⟨j + 1, by omega, by simp, HZ2.out, HB.out⟩, by simp [intOf]; omega⟩
    · obtain rfl : j = s.length := by omega
      have hnz : nzL s = true := by
        unfold nzL
        have := HZ.out
        rw [List.take_length] at this
        simpa using this
      have HN := Lib.hid hnz
      clear hnz
      go_wp2_with fail
      go_ret
      exact ⟨by rw [HN.out]; exact ret_eq (by simp), HB.out⟩
/-- Where a name is parted, as the document's text has it. -/
def partI (s : List UInt8) : Int := if s.length ≤ 100 then 0 else match partedL s with | some p => (p.1.length : Int) | none => -1
theorem lastSl_none_of {l : List UInt8} (h : ∀ x ∈ l, x ≠ 47) : lastSl l = none := by
  induction l with
  | nil => rfl
  | cons x l ih =>
    unfold lastSl
    rw [ih (fun y hy => h y (by simp [hy]))]
    simp only
    rw [if_neg (h x (by simp))]
theorem lastSl_mid (a : List UInt8) (x : UInt8) (b : List UInt8) (hb : ∀ y ∈ b, y ≠ 47) : lastSl (a ++ x :: b) = if x = 47 then some a.length else lastSl a := by
  induction a with
  | nil =>
    show (match lastSl b with | some i => some (i + 1) | none => if x = 47 then some 0 else none) = _
    rw [lastSl_none_of hb]
    rfl
  | cons y a ih =>
    show (match lastSl (a ++ x :: b) with | some i => some (i + 1) | none => if y = 47 then some 0 else none) = _
    rw [ih]
    by_cases h : x = 47
    · rw [if_pos h, if_pos h]; rfl
    · rw [if_neg h, if_neg h]; rfl
theorem part_found {s : List UInt8} (h100 : 100 < s.length) {j : Nat} (hj : 1 ≤ j) (hj2 : j < min (s.length - 1) 156) (hx : s[j]? = some 47) (hno : ∀ i y, j < i → i < min (s.length - 1) 156 → s[i]? = some y → y ≠ 47) :
    partI s = if s.length - j - 1 ≤ 100 then (j : Int) else -1 := by
  have e : s.take (min (s.length - 1) 156) = s.take j ++ 47 :: ((s.take (min (s.length - 1) 156)).drop (j + 1)) := by
    have h1 : (s.take (min (s.length - 1) 156)).take j = s.take j := by rw [List.take_take, Nat.min_eq_left (by omega)]
    have hl : j < (s.take (min (s.length - 1) 156)).length := by rw [List.length_take]; omega
    have h2 : (s.take (min (s.length - 1) 156))[j] = 47 := by
      rw [List.getElem_take]
      exact (List.getElem?_eq_some_iff.1 hx).2
    have h3 := List.drop_eq_getElem_cons hl
    rw [h2] at h3
    rw [← h1, ← h3, List.take_append_drop]
  have hl : lastSl (s.take (min (s.length - 1) 156)) = some j := by
    rw [e, lastSl_mid _ _ _ (fun y hy => by
      obtain ⟨i, hi⟩ := List.getElem?_of_mem hy
      rw [List.getElem?_drop, List.getElem?_take] at hi
      split at hi
      · exact hno _ y (by omega) (by assumption) hi
      · cases hi), if_pos rfl, List.length_take]
    congr 1
    omega
  unfold partI partedL
  rw [if_neg (by omega), if_neg (by omega), hl]
  simp only
  by_cases h : s.length - j - 1 ≤ 100
  · rw [if_neg (by omega), if_pos h]; simp; omega
  · rw [if_pos (by omega), if_neg h]
theorem part_none {s : List UInt8} (h100 : 100 < s.length) (hno : ∀ i y, 0 < i → i < min (s.length - 1) 156 → s[i]? = some y → y ≠ 47) : partI s = -1 := by
  unfold partI partedL
  rw [if_neg (by omega), if_neg (by omega)]
  have hl : lastSl (s.take (min (s.length - 1) 156)) = none ∨ lastSl (s.take (min (s.length - 1) 156)) = some 0 := by
    match s, h100, hno with
    | x :: s', h100, hno =>
      obtain ⟨k, hk⟩ : ∃ k, min ((x :: s').length - 1) 156 = k + 1 := ⟨min ((x :: s').length - 1) 156 - 1, by simp only [List.length_cons] at h100 ⊢; omega⟩
      rw [hk] at hno ⊢
      have := lastSl_mid [] x (s'.take k) (fun y hy => by
        obtain ⟨i, hi⟩ := List.getElem?_of_mem hy
        rw [List.getElem?_take] at hi
        split at hi
        · exact hno (i + 1) y (by omega) (by omega) (by simpa using hi)
        · cases hi)
      rw [List.take_succ_cons]
      rw [List.nil_append] at this
      rw [this]
      by_cases h : x = 47
      · right; rw [if_pos h]; rfl
      · left; rw [if_neg h]; rfl
  rcases hl with h | h
  · rw [h]
  · rw [h]; simp only; rw [if_pos (by omega)]
set_option maxRecDepth 100000 in
set_option maxHeartbeats 1000000 in
theorem part_any (w : World) (s : List UInt8) (hs : s.length ≤ 9223372036854775807) :
    Calls Tryd.prog 28 #[.string (bs s)] w fun e w' => e = .returned (.int .i64 (partI s)) ∧ Below w.heap.size w w' := by
  have hsz := bs_size s
  have b0 : (s.length : Int) ≤ 9223372036854775807 := by omega
  by_cases h100 : s.length ≤ 100
  · have i0 : (s.length : Int) ≤ 100 := by omega
    rw [show partI s = 0 by unfold partI; rw [if_pos h100]]
    go_enter Tryd.func28, Tryd.ntmps28
    go_wp2_with fail
    go_ret
    exact ⟨ret_eq (by simp), Below.refl _ _⟩
  · have i0 : ¬ (s.length : Int) ≤ 100 := by omega
    go_enter Tryd.func28, Tryd.ntmps28
    go_wp2_with fail
    go_loopw [3] (fun i wr => ∃ j : Nat, j < s.length - 1 ∧ i = .int .i64 (j : Int) ∧ (∀ i y, j < i → i < min (s.length - 1) 156 → s[i]? = some y → y ≠ 47) ∧ Below w.heap.size w wr) (fun i _ => (intOf i).toNat)
    case atStart => exact ⟨s.length - 2, by omega, by congr 1; omega, fun i y h1 h2 => by omega, Below.refl _ _⟩
    case round =>
      obtain ⟨j, hj, rfl, hno, hB⟩ := hrel
      have HB := Lib.hid hB; have HNO := Lib.hid hno
      clear hB hno
      by_cases hpos : 0 < j
      · have hlt : j < s.length := by omega
        have i1 := fun w => run_ch s j hlt w (j : Int) rfl
        have i2 : (0 : Int) < (j : Int) := by omega
        have i3 : (j : Int) < (s.length : Int) := by omega
        have hx := (s[j]).toNat_lt
        have HG := Lib.hid (show s[j]? = some s[j] from List.getElem?_eq_getElem hlt)
        unfold n8 at i1
        generalize s[j] = x at *
        obtain ⟨p, hp⟩ : ∃ p, p = x.toNat := ⟨_, rfl⟩
        rw [← hp] at i1 hx
        have hx : p < 256 := hx
        have HP := Lib.hid hp
        clear hp
        by_cases h47 : p = 47
        · have hx47 : x = 47 := UInt8.toNat_inj.1 (by rw [← HP.out, h47]; rfl)
          by_cases h155 : j ≤ 155
          · have i4 : (j : Int) ≤ 155 := by omega
            have hpf := part_found (s := s) (by omega) (j := j) (by omega) (by omega) (by rw [HG.out, hx47]) HNO.out
            subst h47
            by_cases hr : s.length - j - 1 ≤ 100
            · have i5 : (s.length : Int) - (j : Int) - 1 ≤ 100 := by omega
              rw [if_pos hr] at hpf
              have HN := Lib.hid hpf
              clear hpf
              go_wp2_with fail
              go_ret
              exact ⟨by rw [HN.out]; exact ret_eq (by simp), HB.out⟩
            · have i5 : ¬ (s.length : Int) - (j : Int) - 1 ≤ 100 := by omega
              rw [if_neg hr] at hpf
              have HN := Lib.hid hpf
              clear hpf
              go_wp2_with fail
              go_ret
              exact ⟨by rw [HN.out]; exact ret_eq (by simp), HB.out⟩
          · have i4 : ¬ (j : Int) ≤ 155 := by omega
            have HNO2 := Lib.hid (show ∀ i y, j - 1 < i → i < min (s.length - 1) 156 → s[i]? = some y → y ≠ 47 from fun i y h1 h2 h3 => by omega)
            subst h47
            go_wp2_with fail
            exact ⟨⟨j - 1, by omega, by congr 1; omega, HNO2.out, HB.out⟩, by simp [intOf]; omega⟩
        · have i4 : ¬ (p : Int) = 47 := by omega
          have HNO2 := Lib.hid (show ∀ i y, j - 1 < i → i < min (s.length - 1) 156 → s[i]? = some y → y ≠ 47 from fun i y h1 h2 h3 => by
            by_cases e : i = j
            · subst e
              rw [HG.out] at h3
              cases h3
              intro q
              apply h47
              rw [HP.out, q]; rfl
            · exact HNO.out i y (by omega) h2 h3)
          go_wp2_with fail
          exact ⟨⟨j - 1, by omega, by congr 1; omega, HNO2.out, HB.out⟩, by simp [intOf]; omega⟩
      · obtain rfl : j = 0 := by omega
        have HN := Lib.hid (part_none (s := s) (by omega) HNO.out)
        go_wp2_with fail
        go_ret
        exact ⟨by rw [HN.out]; exact ret_eq (by simp), HB.out⟩
set_option maxRecDepth 100000 in
set_option maxHeartbeats 1000000 in
theorem refSum_any (w : World) (v : Value) (h : List UInt8) (hr : RdV w v (h.map vB)) (hlen : h.length ≤ 9223372036854775807) :
    Calls Tryd.prog 17 #[v] w fun e w' => e = .returned (.int .i64 (sumH h : Nat)) ∧ Below w.heap.size w w' := by
  obtain ⟨a, cap, rfl, hle⟩ : ∃ a cap, v = .slice a h.length cap ∧ h.length ≤ cap := by
    rcases hr with ⟨rfl, hx⟩ | ⟨a, cap, rfl, hle, hc⟩
    · simp at hx; subst hx; exact ⟨none, 0, rfl, by simp⟩
    · refine ⟨some a, cap, by simp, by simpa using hle⟩
  have HR := Lib.hid hr
  clear hr
  have b0 : (h.length : Int) ≤ 9223372036854775807 := by omega
  by_cases h5 : h.length = 512
  · have hz : sumH h = sumTo 0 h := (sumTo_512 h h5).symm
    rw [hz]
    have HZ := Lib.hid h5
    have hle2 : 512 ≤ cap := by omega
    have HR := Lib.hid (show RdV w (.slice a 512 cap) (h.map vB) by have := HR.out; rwa [h5] at this)
    rw [h5]
    clear hle h5 hz b0 hlen
    go_enter Tryd.func17, Tryd.ntmps17
    go_wp2_with fail
    go_loopw [3, 4] (fun n i wr => ∃ j : Nat, j ≤ 512 ∧ n = .int .i64 ((sumTo 0 (h.take j) : Nat) : Int) ∧ i = .int .i64 (j : Int) ∧ Below w.heap.size w wr) (fun _ i _ => (512 - intOf i).toNat)
    case atStart => exact ⟨0, by omega, by simp [sumTo], by simp, Below.refl _ _⟩
    case round =>
      obtain ⟨j, hj, rfl, rfl, hB⟩ := hrel
      have HB := Lib.hid hB
      clear hB
      by_cases hlt : j < 512
      · have h5' := HZ.out
        have hj2 : j < h.length := by omega
        obtain ⟨b, off, rfl, hcell⟩ : ∃ b off, a = some ⟨b, off, none⟩ ∧ wr.cell? ⟨b, off + j, none⟩ = some (vB h[j]) := by
          obtain ⟨a', cap', e, hc⟩ := (HR.out.below HB.out).open
          simp only [Value.slice.injEq] at e
          rw [e.1]
          exact hc j _ (by simp [hj2])
        have hx := (h[j]).toNat_lt
        have hs := sumTo_take h j hj2
        have hsl := sumTo_le 0 (h.take j)
        simp only [List.length_take] at hsl
        have hsl2 : sumTo 0 (h.take j) ≤ 130560 := by omega
        have HS := Lib.hid hs
        unfold vB n8 at hcell
        generalize h[j] = x at *
        generalize sumTo 0 (h.take j) = q at *
        obtain ⟨p, hp⟩ : ∃ p, p = x.toNat := ⟨_, rfl⟩
        rw [← hp] at hcell hx
        have hx : p < 256 := hx
        have HP := Lib.hid hp
        have i0 : (j : Int) < 512 := by omega
        have q0 : (q : Int) ≤ 130560 := by omega
        clear hs hsl hsl2 hlt h5' hj2 hp
        by_cases hin : 148 ≤ j
        · by_cases hin2 : j < 156
          · have i1 : (148 : Int) ≤ (j : Int) := by omega
            have i2 : (j : Int) < 156 := by omega
            have HF := Lib.hid (show sumB j x = 32 by unfold sumB; rw [if_pos ⟨hin, hin2⟩])
            clear hin hin2 hx
            go_wp2_with fail
            exact ⟨⟨j + 1, by omega, by rw [HS.out, HF.out]; simp, by simp, HB.out⟩, by simp [intOf]; omega⟩
          · have i1 : (148 : Int) ≤ (j : Int) := by omega
            have i2 : ¬ (j : Int) < 156 := by omega
            have HF := Lib.hid (show sumB j x = p by unfold sumB; rw [if_neg (by omega)]; exact HP.out.symm)
            clear hin hin2
            go_wp2_with fail
            exact ⟨⟨j + 1, by omega, by rw [HS.out, HF.out]; simp, by simp, HB.out⟩, by simp [intOf]; omega⟩
        · have i1 : ¬ (148 : Int) ≤ (j : Int) := by omega
          have HF := Lib.hid (show sumB j x = p by unfold sumB; rw [if_neg (by omega)]; exact HP.out.symm)
          clear hin
          go_wp2_with fail
          exact ⟨⟨j + 1, by omega, by rw [HS.out, HF.out]; simp, by simp, HB.out⟩, by simp [intOf]; omega⟩
      · have hj5 : j = 512 := by omega
        have H2 := HZ.out
        subst hj5
        have HT := Lib.hid (show h.take 512 = h from List.take_of_length_le (by omega))
        rw [HT.out]
        go_wp2_with fail
        go_ret
        exact ⟨ret_eq (by simp), HB.out⟩
  · have hz : sumH h = 0 := by unfold sumH; rw [if_neg h5]
    rw [hz]
    have hN : ¬ (h.length : Int) = 512 := by omega
    go_enter Tryd.func17, Tryd.ntmps17
    go_wp2_with fail
    go_ret
    exact ⟨ret_eq (by simp), Below.refl _ _⟩
end Go.Proofs.YtikhdbdbdldbaaaDoor
