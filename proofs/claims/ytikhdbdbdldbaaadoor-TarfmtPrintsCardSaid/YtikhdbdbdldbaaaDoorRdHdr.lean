/- What is read of an entry's own header: the entry. Plain lists. -/
import Derived.Test.YtikhdbdbdldbaaaDoorEnts
import Derived.Test.YtikhdbdbdldbaaaDoorClone
namespace Go.Proofs.YtikhdbdbdldbaaaDoor

theorem octN_digs (m : Nat) : ∀ (n k : Nat) (l : List UInt8), n < 8 ^ m → octN (digs n m ++ l) k = octN l (k * 8 ^ m + n) := by
  induction m with
  | zero => intro n k l h; simp at h; subst h; simp [digs]
  | succ m ih =>
    intro n k l h
    have h1 : n / 8 < 8 ^ m := by rw [Nat.pow_succ] at h; omega
    simp only [digs, List.append_assoc, List.cons_append, List.nil_append]
    rw [ih (n / 8) k _ h1]
    have h2 : (UInt8.ofNat (48 + n % 8)).toNat = 48 + n % 8 := by rw [UInt8.toNat_ofNat']; omega
    simp only [octN, h2]
    rw [if_neg (by omega)]
    congr 1
    rw [Nat.pow_succ, ← Nat.mul_assoc, Nat.add_mul]
    omega
theorem octF_len2 (n k : Nat) (hk : 1 ≤ k) : (octF n k).length = k := by unfold octF; simp [digs_len]; omega
theorem numL_octF (n k : Nat) (hk : 1 ≤ k) (h : n < 8 ^ (k - 1)) : numL (octF n k) = some n := by
  unfold numL
  rw [octF_len2 n k hk]
  have e1 : (octF n k).take (k - 1) = digs n (k - 1) := by unfold octF; rw [List.take_left' (digs_len _ _)]
  have e2 : (octF n k).getD (k - 1) 0 = 0 := by unfold octF; simp [List.getD, digs_len]
  rw [e1, e2]
  have h2 := octN_digs (k - 1) n 0 [] h
  rw [List.append_nil] at h2
  rw [h2]
  simp [octN]
theorem sumL_octF (n : Nat) (h : n < 8 ^ 7) : sumL (octF n 8) = some n := by
  unfold sumL
  rw [if_neg ?_]
  · exact numL_octF n 8 (by omega) h
  · intro q
    have h6 : (octF n 8).getD 6 0 = UInt8.ofNat (48 + n % 8) := by
      unfold octF
      simp only [Nat.add_one_sub_one, digs]
      simp [List.getD]
    rw [h6] at q
    have := congrArg UInt8.toNat q.1
    rw [UInt8.toNat_ofNat'] at this
    simp at this
    omega
theorem trim_zer (l : List UInt8) (k : Nat) (h : ∀ x ∈ l, x ≠ 0) : Lib.trimRightB (l ++ zer k) 0 = l := by
  unfold Lib.trimRightB zer
  rw [List.reverse_append, List.reverse_replicate]
  have h1 : ∀ (k : Nat) (m : List UInt8), (List.replicate k (0 : UInt8) ++ m).dropWhile (· == 0) = m.dropWhile (· == 0) := by
    intro k
    induction k with
    | zero => intro m; rfl
    | succ k ih => intro m; rw [List.replicate_succ, List.cons_append, List.dropWhile_cons_of_pos (by rfl)]; exact ih m
  rw [h1]
  have h2 : l.reverse.dropWhile (· == 0) = l.reverse := by
    cases hr : l.reverse with
    | nil => rfl
    | cons x m =>
      have hx : x ∈ l := by rw [← List.mem_reverse, hr]; simp
      rw [List.dropWhile_cons_of_neg (by simpa using h x hx)]
  rw [h2, List.reverse_reverse]
theorem textL_txtF (l : List UInt8) (k : Nat) (h : ∀ x ∈ l, x ≠ 0) : textL (txtF l k) = some l := by
  unfold textL txtF
  rw [trim_zer l _ h]
  simp only
  rw [if_pos h]
theorem textL_zer (k : Nat) : textL (zer k) = some [] := by
  have h := textL_txtF [] k (by simp)
  simpa [txtF] using h
theorem txtF_len2 (l : List UInt8) (k : Nat) (h : l.length ≤ k) : (txtF l k).length = k := by unfold txtF zer; simp; omega
theorem fld_seg (pre s post : List UInt8) (x n : Nat) (hx : pre.length = x) (hn : s.length = n) : fld (pre ++ (s ++ post)) (x, n) = s := by
  subst hx; subst hn
  unfold fld
  simp
theorem kindL_B (k : Int) (h : 1 ≤ k) (h4 : k ≤ 4) : kindL (kindB k) = k := by
  have : k = 1 ∨ k = 2 ∨ k = 3 ∨ k = 4 := by omega
  rcases this with rfl | rfl | rfl | rfl <;> rfl
theorem lastSl_at {l : List UInt8} {i : Nat} (h : lastSl l = some i) : l[i]? = some 47 := by
  induction l generalizing i with
  | nil => cases h
  | cons y l ih =>
    unfold lastSl at h
    cases hl : lastSl l with
    | some j =>
      rw [hl] at h
      simp only [Option.some.injEq] at h
      subst h
      simpa using ih hl
    | none =>
      rw [hl] at h
      simp only at h
      split at h
      · rename_i hy
        simp only [Option.some.injEq] at h
        subst h; subst hy; rfl
      · cases h
theorem parted_name {s : List UInt8} {p : List UInt8 × List UInt8} (h : partedL s = some p) (hne : s ≠ []) : nameL p.1 p.2 = s ∧ p.2 ≠ [] ∧ (∀ x ∈ p.1, x ∈ s) ∧ (∀ x ∈ p.2, x ∈ s) := by
  unfold partedL at h
  split at h
  · simp only [Option.some.injEq] at h
    subst h
    exact ⟨by simp [nameL], hne, by simp, fun x hx => hx⟩
  · rename_i h100
    split at h
    · cases h
    · rename_i i hi
      split at h
      · cases h
      · rename_i hi2
        simp only [Option.some.injEq] at h
        subst h
        have hlt := lastSl_lt hi
        have hat := lastSl_at hi
        simp only [List.length_take] at hlt
        rw [List.getElem?_take] at hat
        split at hat
        · have hil : i < s.length := by omega
          have hsi : s[i] = 47 := by rw [List.getElem?_eq_getElem hil] at hat; simpa using hat
          refine ⟨?_, ?_, fun x hx => List.mem_of_mem_take hx, fun x hx => List.mem_of_mem_drop hx⟩
          · unfold nameL
            rw [if_neg (by intro q; have := congrArg List.length q; rw [List.length_take, List.length_nil] at this; omega)]
            rw [List.append_assoc]
            show s.take i ++ (47 :: s.drop (i + 1)) = s
            rw [← hsi, ← List.drop_eq_getElem_cons hil, List.take_append_drop]
          · intro q
            have := congrArg List.length q
            simp at this
            omega
        · cases hat
theorem plain_all {s : List UInt8} {m : Nat} (h : plainL s m = true) : s ≠ [] ∧ s.length ≤ m ∧ ∀ x ∈ s, x ≠ 0 := by simpa [plainL] using h
section
variable {e : EntD} {p : List UInt8 × List UInt8}
/-- The header's fields, one behind the other. -/
def hdF (e : EntD) (p : List UInt8 × List UInt8) (S : Nat) : List UInt8 := txtF p.2 100 ++ (octF e.mode.toNat 8 ++ (octF 0 8 ++ (octF 0 8 ++ (octF e.data.length 12 ++ (octF 0 12 ++ (octF S 8 ++ ([kindB e.kind] ++ (txtF e.link 100 ++ (magicL ++ (zer 32 ++ (zer 32 ++ (octF 0 8 ++ (octF 0 8 ++ (txtF p.1 155 ++ (zer 12)))))))))))))))
theorem header_hdF (hp : partedL e.name = some p) : headerL e = hdF e p (sumH (headA p.2 e.mode.toNat e.data.length ++ zer 8 ++ headB e.kind e.link p.1)) := by
  unfold headerL hdF
  rw [hp]
  simp only [Option.getD_some, headA, headB, List.append_assoc]
theorem f_name (h1 : p.1.length ≤ 155) (h2 : p.2.length ≤ 100) (hl : e.link.length ≤ 100) (S : Nat) : fld (hdF e p S) (0, 100) = txtF p.2 100 := by
  have q1 := txtF_len2 _ _ h1; have q2 := txtF_len2 _ _ h2; have q3 := txtF_len2 _ _ hl
  have o : ∀ n, (octF n 8).length = 8 := fun n => octF_len2 n 8 (by omega)
  have o2 : ∀ n, (octF n 12).length = 12 := fun n => octF_len2 n 12 (by omega)
  have hh : hdF e p S = ([]) ++ (txtF p.2 100 ++ (octF e.mode.toNat 8 ++ octF 0 8 ++ octF 0 8 ++ octF e.data.length 12 ++ octF 0 12 ++ octF S 8 ++ [kindB e.kind] ++ txtF e.link 100 ++ magicL ++ zer 32 ++ zer 32 ++ octF 0 8 ++ octF 0 8 ++ txtF p.1 155 ++ zer 12)) := by unfold hdF; simp only [List.append_assoc, List.nil_append]
  rw [hh]
  exact fld_seg _ _ _ _ _ (by simp) (by simp [q2])
theorem f_mode (h1 : p.1.length ≤ 155) (h2 : p.2.length ≤ 100) (hl : e.link.length ≤ 100) (S : Nat) : fld (hdF e p S) (100, 8) = octF e.mode.toNat 8 := by
  have q1 := txtF_len2 _ _ h1; have q2 := txtF_len2 _ _ h2; have q3 := txtF_len2 _ _ hl
  have o : ∀ n, (octF n 8).length = 8 := fun n => octF_len2 n 8 (by omega)
  have o2 : ∀ n, (octF n 12).length = 12 := fun n => octF_len2 n 12 (by omega)
  have hh : hdF e p S = (txtF p.2 100) ++ (octF e.mode.toNat 8 ++ (octF 0 8 ++ octF 0 8 ++ octF e.data.length 12 ++ octF 0 12 ++ octF S 8 ++ [kindB e.kind] ++ txtF e.link 100 ++ magicL ++ zer 32 ++ zer 32 ++ octF 0 8 ++ octF 0 8 ++ txtF p.1 155 ++ zer 12)) := by unfold hdF; simp only [List.append_assoc]
  rw [hh]
  exact fld_seg _ _ _ _ _ (by simp [q2]) (by simp [o])
theorem f_n1 (h1 : p.1.length ≤ 155) (h2 : p.2.length ≤ 100) (hl : e.link.length ≤ 100) (S : Nat) : fld (hdF e p S) (108, 8) = octF 0 8 := by
  have q1 := txtF_len2 _ _ h1; have q2 := txtF_len2 _ _ h2; have q3 := txtF_len2 _ _ hl
  have o : ∀ n, (octF n 8).length = 8 := fun n => octF_len2 n 8 (by omega)
  have o2 : ∀ n, (octF n 12).length = 12 := fun n => octF_len2 n 12 (by omega)
  have hh : hdF e p S = (txtF p.2 100 ++ octF e.mode.toNat 8) ++ (octF 0 8 ++ (octF 0 8 ++ octF e.data.length 12 ++ octF 0 12 ++ octF S 8 ++ [kindB e.kind] ++ txtF e.link 100 ++ magicL ++ zer 32 ++ zer 32 ++ octF 0 8 ++ octF 0 8 ++ txtF p.1 155 ++ zer 12)) := by unfold hdF; simp only [List.append_assoc]
  rw [hh]
  exact fld_seg _ _ _ _ _ (by simp [q2, o]) (by simp [o])
theorem f_n2 (h1 : p.1.length ≤ 155) (h2 : p.2.length ≤ 100) (hl : e.link.length ≤ 100) (S : Nat) : fld (hdF e p S) (116, 8) = octF 0 8 := by
  have q1 := txtF_len2 _ _ h1; have q2 := txtF_len2 _ _ h2; have q3 := txtF_len2 _ _ hl
  have o : ∀ n, (octF n 8).length = 8 := fun n => octF_len2 n 8 (by omega)
  have o2 : ∀ n, (octF n 12).length = 12 := fun n => octF_len2 n 12 (by omega)
  have hh : hdF e p S = (txtF p.2 100 ++ octF e.mode.toNat 8 ++ octF 0 8) ++ (octF 0 8 ++ (octF e.data.length 12 ++ octF 0 12 ++ octF S 8 ++ [kindB e.kind] ++ txtF e.link 100 ++ magicL ++ zer 32 ++ zer 32 ++ octF 0 8 ++ octF 0 8 ++ txtF p.1 155 ++ zer 12)) := by unfold hdF; simp only [List.append_assoc]
  rw [hh]
  exact fld_seg _ _ _ _ _ (by simp [q2, o]) (by simp [o])
theorem f_size (h1 : p.1.length ≤ 155) (h2 : p.2.length ≤ 100) (hl : e.link.length ≤ 100) (S : Nat) : fld (hdF e p S) (124, 12) = octF e.data.length 12 := by
  have q1 := txtF_len2 _ _ h1; have q2 := txtF_len2 _ _ h2; have q3 := txtF_len2 _ _ hl
  have o : ∀ n, (octF n 8).length = 8 := fun n => octF_len2 n 8 (by omega)
  have o2 : ∀ n, (octF n 12).length = 12 := fun n => octF_len2 n 12 (by omega)
  have hh : hdF e p S = (txtF p.2 100 ++ octF e.mode.toNat 8 ++ octF 0 8 ++ octF 0 8) ++ (octF e.data.length 12 ++ (octF 0 12 ++ octF S 8 ++ [kindB e.kind] ++ txtF e.link 100 ++ magicL ++ zer 32 ++ zer 32 ++ octF 0 8 ++ octF 0 8 ++ txtF p.1 155 ++ zer 12)) := by unfold hdF; simp only [List.append_assoc]
  rw [hh]
  exact fld_seg _ _ _ _ _ (by simp [q2, o]) (by simp [o2])
theorem f_n3 (h1 : p.1.length ≤ 155) (h2 : p.2.length ≤ 100) (hl : e.link.length ≤ 100) (S : Nat) : fld (hdF e p S) (136, 12) = octF 0 12 := by
  have q1 := txtF_len2 _ _ h1; have q2 := txtF_len2 _ _ h2; have q3 := txtF_len2 _ _ hl
  have o : ∀ n, (octF n 8).length = 8 := fun n => octF_len2 n 8 (by omega)
  have o2 : ∀ n, (octF n 12).length = 12 := fun n => octF_len2 n 12 (by omega)
  have hh : hdF e p S = (txtF p.2 100 ++ octF e.mode.toNat 8 ++ octF 0 8 ++ octF 0 8 ++ octF e.data.length 12) ++ (octF 0 12 ++ (octF S 8 ++ [kindB e.kind] ++ txtF e.link 100 ++ magicL ++ zer 32 ++ zer 32 ++ octF 0 8 ++ octF 0 8 ++ txtF p.1 155 ++ zer 12)) := by unfold hdF; simp only [List.append_assoc]
  rw [hh]
  exact fld_seg _ _ _ _ _ (by simp [q2, o, o2]) (by simp [o2])
theorem f_sum (h1 : p.1.length ≤ 155) (h2 : p.2.length ≤ 100) (hl : e.link.length ≤ 100) (S : Nat) : fld (hdF e p S) (148, 8) = octF S 8 := by
  have q1 := txtF_len2 _ _ h1; have q2 := txtF_len2 _ _ h2; have q3 := txtF_len2 _ _ hl
  have o : ∀ n, (octF n 8).length = 8 := fun n => octF_len2 n 8 (by omega)
  have o2 : ∀ n, (octF n 12).length = 12 := fun n => octF_len2 n 12 (by omega)
  have hh : hdF e p S = (txtF p.2 100 ++ octF e.mode.toNat 8 ++ octF 0 8 ++ octF 0 8 ++ octF e.data.length 12 ++ octF 0 12) ++ (octF S 8 ++ ([kindB e.kind] ++ txtF e.link 100 ++ magicL ++ zer 32 ++ zer 32 ++ octF 0 8 ++ octF 0 8 ++ txtF p.1 155 ++ zer 12)) := by unfold hdF; simp only [List.append_assoc]
  rw [hh]
  exact fld_seg _ _ _ _ _ (by simp [q2, o, o2]) (by simp [o])
theorem f_kind (h1 : p.1.length ≤ 155) (h2 : p.2.length ≤ 100) (hl : e.link.length ≤ 100) (S : Nat) : fld (hdF e p S) (156, 1) = [kindB e.kind] := by
  have q1 := txtF_len2 _ _ h1; have q2 := txtF_len2 _ _ h2; have q3 := txtF_len2 _ _ hl
  have o : ∀ n, (octF n 8).length = 8 := fun n => octF_len2 n 8 (by omega)
  have o2 : ∀ n, (octF n 12).length = 12 := fun n => octF_len2 n 12 (by omega)
  have hh : hdF e p S = (txtF p.2 100 ++ octF e.mode.toNat 8 ++ octF 0 8 ++ octF 0 8 ++ octF e.data.length 12 ++ octF 0 12 ++ octF S 8) ++ ([kindB e.kind] ++ (txtF e.link 100 ++ magicL ++ zer 32 ++ zer 32 ++ octF 0 8 ++ octF 0 8 ++ txtF p.1 155 ++ zer 12)) := by unfold hdF; simp only [List.append_assoc]
  rw [hh]
  exact fld_seg _ _ _ _ _ (by simp [q2, o, o2]) (by simp)
theorem f_link (h1 : p.1.length ≤ 155) (h2 : p.2.length ≤ 100) (hl : e.link.length ≤ 100) (S : Nat) : fld (hdF e p S) (157, 100) = txtF e.link 100 := by
  have q1 := txtF_len2 _ _ h1; have q2 := txtF_len2 _ _ h2; have q3 := txtF_len2 _ _ hl
  have o : ∀ n, (octF n 8).length = 8 := fun n => octF_len2 n 8 (by omega)
  have o2 : ∀ n, (octF n 12).length = 12 := fun n => octF_len2 n 12 (by omega)
  have hh : hdF e p S = (txtF p.2 100 ++ octF e.mode.toNat 8 ++ octF 0 8 ++ octF 0 8 ++ octF e.data.length 12 ++ octF 0 12 ++ octF S 8 ++ [kindB e.kind]) ++ (txtF e.link 100 ++ (magicL ++ zer 32 ++ zer 32 ++ octF 0 8 ++ octF 0 8 ++ txtF p.1 155 ++ zer 12)) := by unfold hdF; simp only [List.append_assoc]
  rw [hh]
  exact fld_seg _ _ _ _ _ (by simp [q2, o, o2]) (by simp [q3])
theorem f_magic (h1 : p.1.length ≤ 155) (h2 : p.2.length ≤ 100) (hl : e.link.length ≤ 100) (S : Nat) : fld (hdF e p S) (257, 8) = magicL := by
  have q1 := txtF_len2 _ _ h1; have q2 := txtF_len2 _ _ h2; have q3 := txtF_len2 _ _ hl
  have o : ∀ n, (octF n 8).length = 8 := fun n => octF_len2 n 8 (by omega)
  have o2 : ∀ n, (octF n 12).length = 12 := fun n => octF_len2 n 12 (by omega)
  have hh : hdF e p S = (txtF p.2 100 ++ octF e.mode.toNat 8 ++ octF 0 8 ++ octF 0 8 ++ octF e.data.length 12 ++ octF 0 12 ++ octF S 8 ++ [kindB e.kind] ++ txtF e.link 100) ++ (magicL ++ (zer 32 ++ zer 32 ++ octF 0 8 ++ octF 0 8 ++ txtF p.1 155 ++ zer 12)) := by unfold hdF; simp only [List.append_assoc]
  rw [hh]
  exact fld_seg _ _ _ _ _ (by simp [q2, q3, o, o2]) (by simp [magicL])
theorem f_t1 (h1 : p.1.length ≤ 155) (h2 : p.2.length ≤ 100) (hl : e.link.length ≤ 100) (S : Nat) : fld (hdF e p S) (265, 32) = zer 32 := by
  have q1 := txtF_len2 _ _ h1; have q2 := txtF_len2 _ _ h2; have q3 := txtF_len2 _ _ hl
  have o : ∀ n, (octF n 8).length = 8 := fun n => octF_len2 n 8 (by omega)
  have o2 : ∀ n, (octF n 12).length = 12 := fun n => octF_len2 n 12 (by omega)
  have hh : hdF e p S = (txtF p.2 100 ++ octF e.mode.toNat 8 ++ octF 0 8 ++ octF 0 8 ++ octF e.data.length 12 ++ octF 0 12 ++ octF S 8 ++ [kindB e.kind] ++ txtF e.link 100 ++ magicL) ++ (zer 32 ++ (zer 32 ++ octF 0 8 ++ octF 0 8 ++ txtF p.1 155 ++ zer 12)) := by unfold hdF; simp only [List.append_assoc]
  rw [hh]
  exact fld_seg _ _ _ _ _ (by simp [q2, q3, o, o2, magicL]) (by simp [zer])
theorem f_t2 (h1 : p.1.length ≤ 155) (h2 : p.2.length ≤ 100) (hl : e.link.length ≤ 100) (S : Nat) : fld (hdF e p S) (297, 32) = zer 32 := by
  have q1 := txtF_len2 _ _ h1; have q2 := txtF_len2 _ _ h2; have q3 := txtF_len2 _ _ hl
  have o : ∀ n, (octF n 8).length = 8 := fun n => octF_len2 n 8 (by omega)
  have o2 : ∀ n, (octF n 12).length = 12 := fun n => octF_len2 n 12 (by omega)
  have hh : hdF e p S = (txtF p.2 100 ++ octF e.mode.toNat 8 ++ octF 0 8 ++ octF 0 8 ++ octF e.data.length 12 ++ octF 0 12 ++ octF S 8 ++ [kindB e.kind] ++ txtF e.link 100 ++ magicL ++ zer 32) ++ (zer 32 ++ (octF 0 8 ++ octF 0 8 ++ txtF p.1 155 ++ zer 12)) := by unfold hdF; simp only [List.append_assoc]
  rw [hh]
  exact fld_seg _ _ _ _ _ (by simp [q2, q3, o, o2, zer, magicL]) (by simp [zer])
theorem f_n4 (h1 : p.1.length ≤ 155) (h2 : p.2.length ≤ 100) (hl : e.link.length ≤ 100) (S : Nat) : fld (hdF e p S) (329, 8) = octF 0 8 := by
  have q1 := txtF_len2 _ _ h1; have q2 := txtF_len2 _ _ h2; have q3 := txtF_len2 _ _ hl
  have o : ∀ n, (octF n 8).length = 8 := fun n => octF_len2 n 8 (by omega)
  have o2 : ∀ n, (octF n 12).length = 12 := fun n => octF_len2 n 12 (by omega)
  have hh : hdF e p S = (txtF p.2 100 ++ octF e.mode.toNat 8 ++ octF 0 8 ++ octF 0 8 ++ octF e.data.length 12 ++ octF 0 12 ++ octF S 8 ++ [kindB e.kind] ++ txtF e.link 100 ++ magicL ++ zer 32 ++ zer 32) ++ (octF 0 8 ++ (octF 0 8 ++ txtF p.1 155 ++ zer 12)) := by unfold hdF; simp only [List.append_assoc]
  rw [hh]
  exact fld_seg _ _ _ _ _ (by simp [q2, q3, o, o2, zer, magicL]) (by simp [o])
theorem f_n5 (h1 : p.1.length ≤ 155) (h2 : p.2.length ≤ 100) (hl : e.link.length ≤ 100) (S : Nat) : fld (hdF e p S) (337, 8) = octF 0 8 := by
  have q1 := txtF_len2 _ _ h1; have q2 := txtF_len2 _ _ h2; have q3 := txtF_len2 _ _ hl
  have o : ∀ n, (octF n 8).length = 8 := fun n => octF_len2 n 8 (by omega)
  have o2 : ∀ n, (octF n 12).length = 12 := fun n => octF_len2 n 12 (by omega)
  have hh : hdF e p S = (txtF p.2 100 ++ octF e.mode.toNat 8 ++ octF 0 8 ++ octF 0 8 ++ octF e.data.length 12 ++ octF 0 12 ++ octF S 8 ++ [kindB e.kind] ++ txtF e.link 100 ++ magicL ++ zer 32 ++ zer 32 ++ octF 0 8) ++ (octF 0 8 ++ (txtF p.1 155 ++ zer 12)) := by unfold hdF; simp only [List.append_assoc]
  rw [hh]
  exact fld_seg _ _ _ _ _ (by simp [q2, q3, o, o2, zer, magicL]) (by simp [o])
theorem f_prefix (h1 : p.1.length ≤ 155) (h2 : p.2.length ≤ 100) (hl : e.link.length ≤ 100) (S : Nat) : fld (hdF e p S) (345, 155) = txtF p.1 155 := by
  have q1 := txtF_len2 _ _ h1; have q2 := txtF_len2 _ _ h2; have q3 := txtF_len2 _ _ hl
  have o : ∀ n, (octF n 8).length = 8 := fun n => octF_len2 n 8 (by omega)
  have o2 : ∀ n, (octF n 12).length = 12 := fun n => octF_len2 n 12 (by omega)
  have hh : hdF e p S = (txtF p.2 100 ++ octF e.mode.toNat 8 ++ octF 0 8 ++ octF 0 8 ++ octF e.data.length 12 ++ octF 0 12 ++ octF S 8 ++ [kindB e.kind] ++ txtF e.link 100 ++ magicL ++ zer 32 ++ zer 32 ++ octF 0 8 ++ octF 0 8) ++ (txtF p.1 155 ++ (zer 12)) := by unfold hdF; simp only [List.append_assoc]
  rw [hh]
  exact fld_seg _ _ _ _ _ (by simp [q2, q3, o, o2, zer, magicL]) (by simp [q1])
theorem f_end (h1 : p.1.length ≤ 155) (h2 : p.2.length ≤ 100) (hl : e.link.length ≤ 100) (S : Nat) : fld (hdF e p S) (500, 12) = zer 12 := by
  have q1 := txtF_len2 _ _ h1; have q2 := txtF_len2 _ _ h2; have q3 := txtF_len2 _ _ hl
  have o : ∀ n, (octF n 8).length = 8 := fun n => octF_len2 n 8 (by omega)
  have o2 : ∀ n, (octF n 12).length = 12 := fun n => octF_len2 n 12 (by omega)
  have hh : hdF e p S = (txtF p.2 100 ++ octF e.mode.toNat 8 ++ octF 0 8 ++ octF 0 8 ++ octF e.data.length 12 ++ octF 0 12 ++ octF S 8 ++ [kindB e.kind] ++ txtF e.link 100 ++ magicL ++ zer 32 ++ zer 32 ++ octF 0 8 ++ octF 0 8 ++ txtF p.1 155) ++ (zer 12 ++ ([])) := by unfold hdF; simp only [List.append_assoc, List.append_nil]
  rw [hh]
  exact fld_seg _ _ _ _ _ (by simp [q1, q2, q3, o, o2, zer, magicL]) (by simp [zer])
theorem f_end2 (h1 : p.1.length ≤ 155) (h2 : p.2.length ≤ 100) (hl : e.link.length ≤ 100) (S : Nat) : (hdF e p S).length = 512 := by
  have q1 := txtF_len2 _ _ h1; have q2 := txtF_len2 _ _ h2; have q3 := txtF_len2 _ _ hl
  have o : ∀ n, (octF n 8).length = 8 := fun n => octF_len2 n 8 (by omega)
  have o2 : ∀ n, (octF n 12).length = 12 := fun n => octF_len2 n 12 (by omega)
  unfold hdF
  simp [q1, q2, q3, o, o2, zer, magicL]
end
theorem sumH_mid (a s1 s2 b : List UInt8) (ha : a.length = 148) (h1 : s1.length = 8) (h2 : s2.length = 8) (hb : b.length = 356) : sumH (a ++ s1 ++ b) = sumH (a ++ s2 ++ b) := by
  have hA : ∀ s : List UInt8, s.length = 8 → (a ++ s ++ b).length = 512 := fun s hs => by simp [ha, hs, hb]
  have h3 : ∀ s : List UInt8, s.length = 8 → (a ++ s ++ b).take 148 = a := fun s hs => by rw [List.append_assoc]; exact List.take_left' ha
  have h4 : ∀ s : List UInt8, s.length = 8 → (a ++ s ++ b).drop 156 = b := fun s hs => by exact List.drop_left' (by simp [ha, hs])
  unfold sumH
  rw [if_pos (hA s1 h1), if_pos (hA s2 h2), h3 s1 h1, h3 s2 h2, h4 s1 h1, h4 s2 h2]
theorem sumH_le (h : List UInt8) : sumH h ≤ 130560 := by
  by_cases hl : h.length = 512
  · rw [← sumTo_512 h hl]; have := sumTo_le 0 h; rw [hl] at this; omega
  · unfold sumH; rw [if_neg hl]; omega
theorem parted_lens {s : List UInt8} {p : List UInt8 × List UInt8} (h : partedL s = some p) : p.1.length ≤ 155 ∧ p.2.length ≤ 100 := parted_len h
theorem link_ok {e : EntD} (h : rightL e = 0) : ∀ x ∈ e.link, x ≠ 0 := by
  unfold rightL at h
  split at h; · cases h
  split at h; · cases h
  split at h; · cases h
  rename_i h3
  simp only [not_or] at h3
  by_cases hk : e.kind = 3 ∨ e.kind = 4
  · have h5 : plainL e.link 100 = true := by
      have := h3.2.1
      simp only [not_and] at this
      simpa using this hk
    exact (plain_all h5).2.2
  · have h6 : e.link = [] := by
      have := h3.1
      rw [decide_eq_false hk] at this
      simpa using this
    rw [h6]; simp
theorem right_data {e : EntD} (h : rightL e = 0) (d : List UInt8) (hd : d.length ≤ 70656) (hk : d = [] ∨ e.kind = 1) : rightL { e with data := d } = 0 := by
  unfold rightL at h ⊢
  split at h; · cases h
  rename_i h1
  split at h; · cases h
  rename_i h2
  split at h; · cases h
  rename_i h3
  rw [if_neg h1, if_neg h2, if_neg ?_, if_neg (by simp; omega)]
  intro q
  apply h3
  rcases q with q | q | q
  · exact .inl q
  · exact .inr (.inl q)
  · rcases hk with hk | hk
    · exact absurd hk q.2
    · exact absurd hk q.1
theorem data_kind {e : EntD} (h : rightL e = 0) : e.data.length = 0 ∨ e.kind = 1 := by
  unfold rightL at h
  split at h; · cases h
  split at h; · cases h
  split at h; · cases h
  rename_i h3
  simp only [not_or] at h3
  by_cases hk : e.kind = 1
  · exact .inr hk
  · have := h3.2.2
    simp only [not_and] at this
    exact .inl (by have := this hk; simp at this; simp [this])
/-- The header of an entry that may be printed is read as that entry, without its data. -/
theorem read_header {e : EntD} (h : rightL e = 0) : readL (headerL e) = some ({ e with data := [] }, e.data.length) := by
  have hr := right_ok h
  obtain ⟨p, hp⟩ := Option.isSome_iff_exists.1 hr.2.2.2.1
  obtain ⟨hpn, hpl, hpz⟩ := plain_all hr.2.2.1
  obtain ⟨hn1, hn2, hn3, hn4⟩ := parted_name hp hpn
  obtain ⟨h1, h2⟩ := parted_lens hp
  have hl := hr.2.2.2.2.2
  have hlz := link_ok h
  have hz1 : ∀ x ∈ p.1, x ≠ 0 := fun x hx => hpz x (hn3 x hx)
  have hz2 : ∀ x ∈ p.2, x ≠ 0 := fun x hx => hpz x (hn4 x hx)
  have hm : (e.mode.toNat : Int) = e.mode := by omega
  have hm2 : e.mode.toNat < 8 ^ 7 := by omega
  have hd2 : e.data.length < 8 ^ 11 := by have := hr.2.2.2.2.1; omega
  have hE := header_hdF hp
  generalize hS : sumH (headA p.2 e.mode.toNat e.data.length ++ zer 8 ++ headB e.kind e.link p.1) = S at hE
  have hS2 : S ≤ 130560 := by rw [← hS]; exact sumH_le _
  have hsum : sumH (headerL e) = S := by
    rw [← hS]
    unfold headerL
    rw [hp]
    simp only [Option.getD_some]
    exact sumH_mid _ _ _ _ (headA_len h2 _ _) (octF_len _ _ (by omega)) (by simp [zer]) (headB_len hl h1)
  have hlen : (hdF e p S).length = 512 := f_end2 h1 h2 hl S
  have hk156 : (hdF e p S).getD 156 0 = kindB e.kind := by
    have hk := f_kind h1 h2 hl S
    have h0 := congrArg (fun l => l.getD 0 0) hk
    simp only [fld, List.getD] at h0 ⊢
    rw [List.getElem?_take, if_pos (by omega), List.getElem?_drop] at h0
    simpa using h0
  have hend : (hdF e p S).drop 500 = zer 12 := by
    have := f_end h1 h2 hl S
    unfold fld at this
    rwa [List.take_of_length_le (by simp [hlen])] at this
  rw [hE]
  rw [hE] at hsum
  unfold readL
  rw [if_neg (by rw [f_magic h1 h2 hl, hend]; simp [allZ, zer]), if_neg ?_, if_neg ?_]
  · unfold read1
    rw [f_sum h1 h2 hl, sumL_octF S (by omega)]
    simp only
    rw [hsum, if_neg (by simp)]
    unfold read2
    rw [f_mode h1 h2 hl, numL_octF _ 8 (by omega) hm2]
    simp only
    unfold read3
    rw [f_size h1 h2 hl, numL_octF _ 12 (by omega) hd2]
    simp only
    rw [if_neg (by have := hr.2.2.2.2.1; omega)]
    unfold read4
    rw [f_name h1 h2 hl, textL_txtF _ _ hz2]
    simp only
    rw [if_neg hn2]
    unfold read5
    rw [f_prefix h1 h2 hl, textL_txtF _ _ hz1]
    simp only
    unfold read6
    rw [f_link h1 h2 hl, textL_txtF _ _ hlz]
    simp only
    unfold read7
    rw [hk156, kindL_B _ hr.1.1 hr.1.2, hn1, hm]
    simp only
    have hr0 := right_data h [] (by simp) (.inl rfl)
    rw [if_pos ⟨hr0, (data_kind h).imp (fun q => q) (fun q => q)⟩]
  · simp only [textsL, List.any_cons, List.any_nil, f_t1 h1 h2 hl, f_t2 h1 h2 hl, textL_zer]
    decide
  · simp only [numsL, List.any_cons, List.any_nil, f_n1 h1 h2 hl, f_n2 h1 h2 hl, f_n3 h1 h2 hl, f_n4 h1 h2 hl, f_n5 h1 h2 hl, numL_octF 0 8 (by omega) (by omega), numL_octF 0 12 (by omega) (by omega)]
    decide
end Go.Proofs.YtikhdbdbdldbaaaDoor
