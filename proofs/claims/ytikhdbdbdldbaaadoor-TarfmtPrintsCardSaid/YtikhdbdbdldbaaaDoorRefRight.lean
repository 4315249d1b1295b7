/- The reference's Right, at whatever entry. -/
import Derived.Test.YtikhdbdbdldbaaaDoorRefO
namespace Go.Proofs.YtikhdbdbdldbaaaDoor
open Go.RowKit

theorem partI_neg (s : List UInt8) : partI s < 0 ↔ (partedL s).isNone = true := by
  unfold partI
  split
  · rename_i h
    unfold partedL
    rw [if_pos h]
    simp
  · split <;> rename_i h <;> rw [h]
    · simp
    · simp
section
variable {e : EntD}
theorem rl_range (h : e.kind < 1 ∨ 4 < e.kind ∨ e.mode < 0 ∨ 4095 < e.mode) : rightL e = 2 := by unfold rightL; rw [if_pos h]
theorem rl_name (h0 : 1 ≤ e.kind ∧ e.kind ≤ 4 ∧ 0 ≤ e.mode ∧ e.mode ≤ 4095) (h : plainL e.name 255 = false ∨ partI e.name < 0) : rightL e = 8 := by
  unfold rightL
  rw [if_neg (by omega), if_pos (h.imp id (partI_neg _).1)]
theorem rl_name_ok {r : Int} (h0 : 1 ≤ e.kind ∧ e.kind ≤ 4 ∧ 0 ≤ e.mode ∧ e.mode ≤ 4095) (h1 : plainL e.name 255 = true) (h2 : ¬ partI e.name < 0)
    (h : (if (decide (e.kind = 3 ∨ e.kind = 4) != decide (e.link ≠ [])) = true ∨ ((e.kind = 3 ∨ e.kind = 4) ∧ plainL e.link 100 = false) ∨ (e.kind ≠ 1 ∧ e.data ≠ []) then (3 : Int) else if 70656 < e.data.length then 6 else 0) = r) : rightL e = r := by
  unfold rightL
  rw [if_neg (by omega), if_neg (fun q => q.elim (fun q => by rw [h1] at q; cases q) (fun q => h2 ((partI_neg _).2 q)))]
  exact h
theorem plain_false {s : List UInt8} {m : Nat} (h : s.length < 1 ∨ m < s.length ∨ nzL s = false) : plainL s m = false := by
  unfold plainL
  rw [decide_eq_false_iff_not]
  rintro ⟨h1, h2, h3⟩
  rcases h with h | h | h
  · exact h1 (List.length_eq_zero_iff.1 (by omega))
  · omega
  · unfold nzL at h
    rw [decide_eq_false_iff_not] at h
    exact h h3
theorem plain_true {s : List UInt8} {m : Nat} (h1 : 1 ≤ s.length) (h2 : s.length ≤ m) (h3 : nzL s = true) : plainL s m = true := by
  unfold plainL
  rw [decide_eq_true_iff]
  unfold nzL at h3
  rw [decide_eq_true_iff] at h3
  exact ⟨fun q => by rw [q] at h1; simp at h1, h2, h3⟩
end
set_option maxRecDepth 100000 in
set_option maxHeartbeats 1000000 in
theorem refright_range (w : World) (e : EntD) (a : Option Addr) (cap : Nat) (h : e.kind < 1 ∨ 4 < e.kind ∨ e.mode < 0 ∨ 4095 < e.mode) :
    Calls Tryd.prog 13 #[eV e (.slice a e.data.length cap)] w fun r w' => r = .returned (.int .i64 (rightL e)) ∧ Below w.heap.size w w' := by
  rw [rl_range h]
  unfold eV
  have HB := Lib.hid (ebox_new w e (.slice a e.data.length cap)).below
  rcases (by omega : e.kind < 1 ∨ (¬ e.kind < 1 ∧ 4 < e.kind) ∨ (¬ e.kind < 1 ∧ ¬ 4 < e.kind ∧ e.mode < 0) ∨ (¬ e.kind < 1 ∧ ¬ 4 < e.kind ∧ ¬ e.mode < 0 ∧ 4095 < e.mode)) with h1 | ⟨h1, h2⟩ | ⟨h1, h2, h3⟩ | ⟨h1, h2, h3, h4⟩
  all_goals
    clear h
    go_enter Tryd.func13, Tryd.ntmps13
    go_wp2_with fail
    go_ret
    exact ⟨ret_eq (by simp), HB.out⟩
set_option maxRecDepth 100000 in
set_option maxHeartbeats 1000000 in
theorem refright_name (w : World) (e : EntD) (a : Option Addr) (cap : Nat) (h0 : 1 ≤ e.kind ∧ e.kind ≤ 4 ∧ 0 ≤ e.mode ∧ e.mode ≤ 4095) (hl : e.name.length ≤ 9223372036854775807)
    (h : e.name.length < 1 ∨ 255 < e.name.length ∨ nzL e.name = false ∨ partI e.name < 0) :
    Calls Tryd.prog 13 #[eV e (.slice a e.data.length cap)] w fun r w' => r = .returned (.int .i64 (rightL e)) ∧ Below w.heap.size w w' := by
  have hR : rightL e = 8 := rl_name h0 (by
    rcases h with h | h | h | h
    · exact .inl (plain_false (.inl h))
    · exact .inl (plain_false (.inr (.inl h)))
    · exact .inl (plain_false (.inr (.inr h)))
    · exact .inr h)
  rw [hR]
  clear hR
  unfold eV
  have M := Lib.hid (ebox_new w e (.slice a e.data.length cap))
  have hsz := bs_size e.name
  obtain ⟨g1, g2, g3, g4⟩ := h0
  have n1 : ¬ e.kind < 1 := by omega
  have n2 : ¬ 4 < e.kind := by omega
  have n3 : ¬ e.mode < 0 := by omega
  have n4 : ¬ 4095 < e.mode := by omega
  by_cases l1 : e.name.length < 1
  · have c1 : (e.name.length : Int) < 1 := by omega
    clear h
    go_enter Tryd.func13, Tryd.ntmps13
    go_wp2_with fail
    go_ret
    exact ⟨ret_eq (by simp), M.out.below⟩
  by_cases l2 : 255 < e.name.length
  · have c1 : ¬ (e.name.length : Int) < 1 := by omega
    have c2 : (255 : Int) < (e.name.length : Int) := by omega
    clear h
    go_enter Tryd.func13, Tryd.ntmps13
    go_wp2_with fail
    go_ret
    exact ⟨ret_eq (by simp), M.out.below⟩
  have c1 : ¬ (e.name.length : Int) < 1 := by omega
  have c2 : ¬ (255 : Int) < (e.name.length : Int) := by omega
  cases hnz : nzL e.name with
  | false =>
    clear h
    go_enter Tryd.func13, Tryd.ntmps13
    go_wp2_with fail
    revert M
    generalize w.alloc (.cells #[.string (bs e.name), .int .i64 e.kind, .int .i64 e.mode, .string (bs e.link), .slice a e.data.length cap] 31) = w1
    intro M
    refine (nozero_any w1 e.name (by omega)).mono ?_
    rintro r w2 ⟨rfl, hb⟩
    rw [hnz]
    have M2 := Lib.hid (M.out.keep hb)
    clear M hb
    have k0 := M2.out.c0
    go_wp2_with fail
    go_ret
    exact ⟨ret_eq (by simp), M2.out.below⟩
  | true =>
    have hp : partI e.name < 0 := by
      rcases h with h | h | h | h
      · omega
      · omega
      · rw [hnz] at h; cases h
      · exact h
    clear h
    go_enter Tryd.func13, Tryd.ntmps13
    go_wp2_with fail
    revert M
    generalize w.alloc (.cells #[.string (bs e.name), .int .i64 e.kind, .int .i64 e.mode, .string (bs e.link), .slice a e.data.length cap] 31) = w1
    intro M
    refine (nozero_any w1 e.name (by omega)).mono ?_
    rintro r w2 ⟨rfl, hb⟩
    rw [hnz]
    have M2 := Lib.hid (M.out.keep hb)
    clear M hb
    have k0 := M2.out.c0
    go_wp2_with fail
    refine (part_any w2 e.name (by omega)).mono ?_
    rintro r w3 ⟨rfl, hb⟩
    have M3 := Lib.hid (M2.out.keep hb)
    clear M2 hb k0
    have k0 := M3.out.c0; have k1 := M3.out.c1; have k2 := M3.out.c2; have k3 := M3.out.c3; have k4 := M3.out.c4
    generalize partI e.name = pi at *
    go_wp2_with fail
    go_ret
    exact ⟨ret_eq (by simp), M3.out.below⟩
set_option maxRecDepth 100000 in
set_option maxHeartbeats 1000000 in
theorem refright_k3a (w : World) (e : EntD) (a : Option Addr) (cap : Nat) (hk : e.kind = 3) (m0 : 0 ≤ e.mode) (m1 : e.mode ≤ 4095) (l1 : 1 ≤ e.name.length) (l2 : e.name.length ≤ 255) (hnz : nzL e.name = true) (hp : ¬ partI e.name < 0)
    (hlk : e.link.length < 1 ∨ 100 < e.link.length) :
    Calls Tryd.prog 13 #[eV e (.slice a e.data.length cap)] w fun r w' => r = .returned (.int .i64 (rightL e)) ∧ Below w.heap.size w w' := by
  have HR := Lib.hid (show rightL e = 3 from rl_name_ok (by omega) (plain_true l1 l2 hnz) hp (by
    rw [if_pos (.inr (.inl ⟨by omega, plain_false (by omega)⟩))]))
  have HNZ := Lib.hid hnz
  unfold eV
  have M := Lib.hid (ebox_new w e (.slice a e.data.length cap))
  have hsz := bs_size e.name
  have hsz2 := bs_size e.link
  have hemp := bs_empty e.link
  have n3 : ¬ e.mode < 0 := by omega
  have n4 : ¬ 4095 < e.mode := by omega
  have c1 : ¬ (e.name.length : Int) < 1 := by omega
  have c2 : ¬ (255 : Int) < (e.name.length : Int) := by omega
  rw [hk] at M
  rw [hk]
  clear hnz
  rcases hlk with hlk | hlk
  all_goals
    have c3 := hlk
    go_enter Tryd.func13, Tryd.ntmps13
    go_wp2_with fail
    revert M
    generalize w.alloc (.cells #[.string (bs e.name), .int .i64 3, .int .i64 e.mode, .string (bs e.link), .slice a e.data.length cap] 31) = w1
    intro M
    refine (nozero_any w1 e.name (by omega)).mono ?_
    rintro r w2 ⟨rfl, hb⟩
    rw [HNZ.out]
    have M2 := Lib.hid (M.out.keep hb)
    clear M hb
    have k0 := M2.out.c0
    go_wp2_with fail
    refine (part_any w2 e.name (by omega)).mono ?_
    rintro r w3 ⟨rfl, hb⟩
    have M3 := Lib.hid (M2.out.keep hb)
    clear M2 hb k0
    have k1 := M3.out.c1; have k3 := M3.out.c3; have k4 := M3.out.c4
    rw [hk] at k1
    generalize partI e.name = pi at *
    go_wp2_with fail
    go_ret
    exact ⟨by rw [HR.out]; exact ret_eq (by simp), M3.out.below⟩
set_option maxRecDepth 100000 in
set_option maxHeartbeats 1000000 in
theorem refright_k3b (w : World) (e : EntD) (a : Option Addr) (cap : Nat) (hk : e.kind = 3) (m0 : 0 ≤ e.mode) (m1 : e.mode ≤ 4095) (l1 : 1 ≤ e.name.length) (l2 : e.name.length ≤ 255) (hnz : nzL e.name = true) (hp : ¬ partI e.name < 0)
    (hlk : 1 ≤ e.link.length) (hlk2 : e.link.length ≤ 100) (hlz : nzL e.link = false) :
    Calls Tryd.prog 13 #[eV e (.slice a e.data.length cap)] w fun r w' => r = .returned (.int .i64 (rightL e)) ∧ Below w.heap.size w w' := by
  have HR := Lib.hid (show rightL e = 3 from rl_name_ok (by omega) (plain_true l1 l2 hnz) hp (by
    rw [if_pos (.inr (.inl ⟨by omega, plain_false (.inr (.inr hlz))⟩))]))
  have HNZ := Lib.hid hnz
  unfold eV
  have M := Lib.hid (ebox_new w e (.slice a e.data.length cap))
  have hsz := bs_size e.name
  have hsz2 := bs_size e.link
  have hemp := bs_empty e.link
  have n3 : ¬ e.mode < 0 := by omega
  have n4 : ¬ 4095 < e.mode := by omega
  have c1 : ¬ (e.name.length : Int) < 1 := by omega
  have c2 : ¬ (255 : Int) < (e.name.length : Int) := by omega
  have c3 : ¬ (e.link.length : Int) < 1 := by omega
  have c4 : ¬ (100 : Int) < (e.link.length : Int) := by omega
  rw [hk] at M
  rw [hk]
  clear hnz
  go_enter Tryd.func13, Tryd.ntmps13
  go_wp2_with fail
  revert M
  generalize w.alloc (.cells #[.string (bs e.name), .int .i64 3, .int .i64 e.mode, .string (bs e.link), .slice a e.data.length cap] 31) = w1
  intro M
  refine (nozero_any w1 e.name (by omega)).mono ?_
  rintro r w2 ⟨rfl, hb⟩
  rw [HNZ.out]
  have M2 := Lib.hid (M.out.keep hb)
  clear M hb
  have k0 := M2.out.c0
  go_wp2_with fail
  refine (part_any w2 e.name (by omega)).mono ?_
  rintro r w3 ⟨rfl, hb⟩
  have M3 := Lib.hid (M2.out.keep hb)
  clear M2 hb k0
  have k1 := M3.out.c1; have k3 := M3.out.c3; have k4 := M3.out.c4
  rw [hk] at k1
  generalize partI e.name = pi at *
  go_wp2_with fail
  refine (nozero_any w3 e.link (by omega)).mono ?_
  rintro r w4 ⟨rfl, hb⟩
  rw [hlz]
  have M4 := Lib.hid (M3.out.keep hb)
  clear M3 hb k1 k3 k4
  have k1 := M4.out.c1; have k4 := M4.out.c4
  rw [hk] at k1
  go_wp2_with fail
  go_ret
  exact ⟨by rw [HR.out]; exact ret_eq (by simp), M4.out.below⟩
set_option maxRecDepth 100000 in
set_option maxHeartbeats 1000000 in
theorem refright_k3c (w : World) (e : EntD) (a : Option Addr) (cap : Nat) (hk : e.kind = 3) (m0 : 0 ≤ e.mode) (m1 : e.mode ≤ 4095) (l1 : 1 ≤ e.name.length) (l2 : e.name.length ≤ 255) (hnz : nzL e.name = true) (hp : ¬ partI e.name < 0)
    (hlk : 1 ≤ e.link.length) (hlk2 : e.link.length ≤ 100) (hlz : nzL e.link = true) (hd : 0 < e.data.length) :
    Calls Tryd.prog 13 #[eV e (.slice a e.data.length cap)] w fun r w' => r = .returned (.int .i64 (rightL e)) ∧ Below w.heap.size w w' := by
  have HR := Lib.hid (show rightL e = 3 from rl_name_ok (by omega) (plain_true l1 l2 hnz) hp (by
    rw [if_pos (.inr (.inr ⟨by omega, fun q => by rw [q] at hd; simp at hd⟩))]))
  have HNZ := Lib.hid hnz
  unfold eV
  have M := Lib.hid (ebox_new w e (.slice a e.data.length cap))
  have hsz := bs_size e.name
  have hsz2 := bs_size e.link
  have hemp := bs_empty e.link
  have n3 : ¬ e.mode < 0 := by omega
  have n4 : ¬ 4095 < e.mode := by omega
  have c1 : ¬ (e.name.length : Int) < 1 := by omega
  have c2 : ¬ (255 : Int) < (e.name.length : Int) := by omega
  have c3 : ¬ (e.link.length : Int) < 1 := by omega
  have c4 : ¬ (100 : Int) < (e.link.length : Int) := by omega
  have c5 : (0 : Int) < (e.data.length : Int) := by omega
  rw [hk] at M
  rw [hk]
  clear hnz
  go_enter Tryd.func13, Tryd.ntmps13
  go_wp2_with fail
  revert M
  generalize w.alloc (.cells #[.string (bs e.name), .int .i64 3, .int .i64 e.mode, .string (bs e.link), .slice a e.data.length cap] 31) = w1
  intro M
  refine (nozero_any w1 e.name (by omega)).mono ?_
  rintro r w2 ⟨rfl, hb⟩
  rw [HNZ.out]
  have M2 := Lib.hid (M.out.keep hb)
  clear M hb
  have k0 := M2.out.c0
  go_wp2_with fail
  refine (part_any w2 e.name (by omega)).mono ?_
  rintro r w3 ⟨rfl, hb⟩
  have M3 := Lib.hid (M2.out.keep hb)
  clear M2 hb k0
  have k1 := M3.out.c1; have k3 := M3.out.c3; have k4 := M3.out.c4
  rw [hk] at k1
  generalize partI e.name = pi at *
  go_wp2_with fail
  refine (nozero_any w3 e.link (by omega)).mono ?_
  rintro r w4 ⟨rfl, hb⟩
  rw [hlz]
  have M4 := Lib.hid (M3.out.keep hb)
  clear M3 hb k1 k3 k4
  have k1 := M4.out.c1; have k4 := M4.out.c4
  rw [hk] at k1
  go_wp2_with fail
  go_ret
  exact ⟨by rw [HR.out]; exact ret_eq (by simp), M4.out.below⟩
set_option maxRecDepth 100000 in
set_option maxHeartbeats 1000000 in
theorem refright_k3d (w : World) (e : EntD) (a : Option Addr) (cap : Nat) (hk : e.kind = 3) (m0 : 0 ≤ e.mode) (m1 : e.mode ≤ 4095) (l1 : 1 ≤ e.name.length) (l2 : e.name.length ≤ 255) (hnz : nzL e.name = true) (hp : ¬ partI e.name < 0)
    (hlk : 1 ≤ e.link.length) (hlk2 : e.link.length ≤ 100) (hlz : nzL e.link = true) (hd : e.data.length = 0) :
    Calls Tryd.prog 13 #[eV e (.slice a e.data.length cap)] w fun r w' => r = .returned (.int .i64 (rightL e)) ∧ Below w.heap.size w w' := by
  have HR := Lib.hid (show rightL e = 0 from rl_name_ok (by omega) (plain_true l1 l2 hnz) hp (by
    have q : decide (e.kind = 3 ∨ e.kind = 4) = true := by rw [hk]; rfl
    have q2 : decide (e.link ≠ []) = true := decide_eq_true (fun q => by rw [q] at hlk; simp at hlk)
    have hp2 := plain_true hlk hlk2 hlz
    rw [q, q2, if_neg (fun q => q.elim (fun q => by cases q) (fun q => q.elim (fun q => by rw [hp2] at q; cases q.2) (fun q => q.2 (List.length_eq_zero_iff.1 hd)))), if_neg (by omega)]))
  have HNZ := Lib.hid hnz
  unfold eV
  have M := Lib.hid (ebox_new w e (.slice a e.data.length cap))
  have hsz := bs_size e.name
  have hsz2 := bs_size e.link
  have hemp := bs_empty e.link
  have n3 : ¬ e.mode < 0 := by omega
  have n4 : ¬ 4095 < e.mode := by omega
  have c1 : ¬ (e.name.length : Int) < 1 := by omega
  have c2 : ¬ (255 : Int) < (e.name.length : Int) := by omega
  have c3 : ¬ (e.link.length : Int) < 1 := by omega
  have c4 : ¬ (100 : Int) < (e.link.length : Int) := by omega
  rw [hk] at M
  rw [hk]
  clear hnz
  rw [hd] at M ⊢
  go_enter Tryd.func13, Tryd.ntmps13
  go_wp2_with fail
  revert M
  generalize w.alloc (.cells #[.string (bs e.name), .int .i64 3, .int .i64 e.mode, .string (bs e.link), .slice a 0 cap] 31) = w1
  intro M
  refine (nozero_any w1 e.name (by omega)).mono ?_
  rintro r w2 ⟨rfl, hb⟩
  rw [HNZ.out]
  have M2 := Lib.hid (M.out.keep hb)
  clear M hb
  have k0 := M2.out.c0
  go_wp2_with fail
  refine (part_any w2 e.name (by omega)).mono ?_
  rintro r w3 ⟨rfl, hb⟩
  have M3 := Lib.hid (M2.out.keep hb)
  clear M2 hb k0
  have k1 := M3.out.c1; have k3 := M3.out.c3; have k4 := M3.out.c4
  rw [hk] at k1
  generalize partI e.name = pi at *
  go_wp2_with fail
  refine (nozero_any w3 e.link (by omega)).mono ?_
  rintro r w4 ⟨rfl, hb⟩
  rw [hlz]
  have M4 := Lib.hid (M3.out.keep hb)
  clear M3 hb k1 k3 k4
  have k1 := M4.out.c1; have k4 := M4.out.c4
  rw [hk] at k1
  go_wp2_with fail
  go_ret
  exact ⟨by rw [HR.out]; exact ret_eq (by simp), M4.out.below⟩
set_option maxRecDepth 100000 in
set_option maxHeartbeats 1000000 in
theorem refright_k4a (w : World) (e : EntD) (a : Option Addr) (cap : Nat) (hk : e.kind = 4) (m0 : 0 ≤ e.mode) (m1 : e.mode ≤ 4095) (l1 : 1 ≤ e.name.length) (l2 : e.name.length ≤ 255) (hnz : nzL e.name = true) (hp : ¬ partI e.name < 0)
    (hlk : e.link.length < 1 ∨ 100 < e.link.length) :
    Calls Tryd.prog 13 #[eV e (.slice a e.data.length cap)] w fun r w' => r = .returned (.int .i64 (rightL e)) ∧ Below w.heap.size w w' := by
  have HR := Lib.hid (show rightL e = 3 from rl_name_ok (by omega) (plain_true l1 l2 hnz) hp (by
    rw [if_pos (.inr (.inl ⟨by omega, plain_false (by omega)⟩))]))
  have HNZ := Lib.hid hnz
  unfold eV
  have M := Lib.hid (ebox_new w e (.slice a e.data.length cap))
  have hsz := bs_size e.name
  have hsz2 := bs_size e.link
  have hemp := bs_empty e.link
  have n3 : ¬ e.mode < 0 := by omega
  have n4 : ¬ 4095 < e.mode := by omega
  have c1 : ¬ (e.name.length : Int) < 1 := by omega
  have c2 : ¬ (255 : Int) < (e.name.length : Int) := by omega
  rw [hk] at M
  rw [hk]
  clear hnz
  rcases hlk with hlk | hlk
  all_goals
    have c3 := hlk
    go_enter Tryd.func13, Tryd.ntmps13
    go_wp2_with fail
    revert M
    generalize w.alloc (.cells #[.string (bs e.name), .int .i64 4, .int .i64 e.mode, .string (bs e.link), .slice a e.data.length cap] 31) = w1
    intro M
    refine (nozero_any w1 e.name (by omega)).mono ?_
    rintro r w2 ⟨rfl, hb⟩
    rw [HNZ.out]
    have M2 := Lib.hid (M.out.keep hb)
    clear M hb
    have k0 := M2.out.c0
    go_wp2_with fail
    refine (part_any w2 e.name (by omega)).mono ?_
    rintro r w3 ⟨rfl, hb⟩
    have M3 := Lib.hid (M2.out.keep hb)
    clear M2 hb k0
    have k1 := M3.out.c1; have k3 := M3.out.c3; have k4 := M3.out.c4
    rw [hk] at k1
    generalize partI e.name = pi at *
    go_wp2_with fail
    go_ret
    exact ⟨by rw [HR.out]; exact ret_eq (by simp), M3.out.below⟩
set_option maxRecDepth 100000 in
set_option maxHeartbeats 1000000 in
theorem refright_k4b (w : World) (e : EntD) (a : Option Addr) (cap : Nat) (hk : e.kind = 4) (m0 : 0 ≤ e.mode) (m1 : e.mode ≤ 4095) (l1 : 1 ≤ e.name.length) (l2 : e.name.length ≤ 255) (hnz : nzL e.name = true) (hp : ¬ partI e.name < 0)
    (hlk : 1 ≤ e.link.length) (hlk2 : e.link.length ≤ 100) (hlz : nzL e.link = false) :
    Calls Tryd.prog 13 #[eV e (.slice a e.data.length cap)] w fun r w' => r = .returned (.int .i64 (rightL e)) ∧ Below w.heap.size w w' := by
  have HR := Lib.hid (show rightL e = 3 from rl_name_ok (by omega) (plain_true l1 l2 hnz) hp (by
    rw [if_pos (.inr (.inl ⟨by omega, plain_false (.inr (.inr hlz))⟩))]))
  have HNZ := Lib.hid hnz
  unfold eV
  have M := Lib.hid (ebox_new w e (.slice a e.data.length cap))
  have hsz := bs_size e.name
  have hsz2 := bs_size e.link
  have hemp := bs_empty e.link
  have n3 : ¬ e.mode < 0 := by omega
  have n4 : ¬ 4095 < e.mode := by omega
  have c1 : ¬ (e.name.length : Int) < 1 := by omega
  have c2 : ¬ (255 : Int) < (e.name.length : Int) := by omega
  have c3 : ¬ (e.link.length : Int) < 1 := by omega
  have c4 : ¬ (100 : Int) < (e.link.length : Int) := by omega
  rw [hk] at M
  rw [hk]
  clear hnz
  go_enter Tryd.func13, Tryd.ntmps13
  go_wp2_with fail
  revert M
  generalize w.alloc (.cells #[.string (bs e.name), .int .i64 4, .int .i64 e.mode, .string (bs e.link), .slice a e.data.length cap] 31) = w1
  intro M
  refine (nozero_any w1 e.name (by omega)).mono ?_
  rintro r w2 ⟨rfl, hb⟩
  rw [HNZ.out]
  have M2 := Lib.hid (M.out.keep hb)
  clear M hb
  have k0 := M2.out.c0
  go_wp2_with fail
  refine (part_any w2 e.name (by omega)).mono ?_
  rintro r w3 ⟨rfl, hb⟩
  have M3 := Lib.hid (M2.out.keep hb)
  clear M2 hb k0
  have k1 := M3.out.c1; have k3 := M3.out.c3; have k4 := M3.out.c4
  rw [hk] at k1
  generalize partI e.name = pi at *
  go_wp2_with fail
  refine (nozero_any w3 e.link (by omega)).mono ?_
  rintro r w4 ⟨rfl, hb⟩
  rw [hlz]
  have M4 := Lib.hid (M3.out.keep hb)
  clear M3 hb k1 k3 k4
  have k1 := M4.out.c1; have k4 := M4.out.c4
  rw [hk] at k1
  go_wp2_with fail
  go_ret
  exact ⟨by rw [HR.out]; exact ret_eq (by simp), M4.out.below⟩
set_option maxRecDepth 100000 in
set_option maxHeartbeats 1000000 in
theorem refright_k4c (w : World) (e : EntD) (a : Option Addr) (cap : Nat) (hk : e.kind = 4) (m0 : 0 ≤ e.mode) (m1 : e.mode ≤ 4095) (l1 : 1 ≤ e.name.length) (l2 : e.name.length ≤ 255) (hnz : nzL e.name = true) (hp : ¬ partI e.name < 0)
    (hlk : 1 ≤ e.link.length) (hlk2 : e.link.length ≤ 100) (hlz : nzL e.link = true) (hd : 0 < e.data.length) :
    Calls Tryd.prog 13 #[eV e (.slice a e.data.length cap)] w fun r w' => r = .returned (.int .i64 (rightL e)) ∧ Below w.heap.size w w' := by
  have HR := Lib.hid (show rightL e = 3 from rl_name_ok (by omega) (plain_true l1 l2 hnz) hp (by
    rw [if_pos (.inr (.inr ⟨by omega, fun q => by rw [q] at hd; simp at hd⟩))]))
  have HNZ := Lib.hid hnz
  unfold eV
  have M := Lib.hid (ebox_new w e (.slice a e.data.length cap))
  have hsz := bs_size e.name
  have hsz2 := bs_size e.link
  have hemp := bs_empty e.link
  have n3 : ¬ e.mode < 0 := by omega
  have n4 : ¬ 4095 < e.mode := by omega
  have c1 : ¬ (e.name.length : Int) < 1 := by omega
  have c2 : ¬ (255 : Int) < (e.name.length : Int) := by omega
  have c3 : ¬ (e.link.length : Int) < 1 := by omega
  have c4 : ¬ (100 : Int) < (e.link.length : Int) := by omega
  have c5 : (0 : Int) < (e.data.length : Int) := by omega
  rw [hk] at M
  rw [hk]
  clear hnz
  go_enter Tryd.func13, Tryd.ntmps13
  go_wp2_with fail
  revert M
  generalize w.alloc (.cells #[.string (bs e.name), .int .i64 4, .int .i64 e.mode, .string (bs e.link), .slice a e.data.length cap] 31) = w1
  intro M
  refine (nozero_any w1 e.name (by omega)).mono ?_
  rintro r w2 ⟨rfl, hb⟩
  rw [HNZ.out]
  have M2 := Lib.hid (M.out.keep hb)
  clear M hb
  have k0 := M2.out.c0
  go_wp2_with fail
  refine (part_any w2 e.name (by omega)).mono ?_
  rintro r w3 ⟨rfl, hb⟩
  have M3 := Lib.hid (M2.out.keep hb)
  clear M2 hb k0
  have k1 := M3.out.c1; have k3 := M3.out.c3; have k4 := M3.out.c4
  rw [hk] at k1
  generalize partI e.name = pi at *
  go_wp2_with fail
  refine (nozero_any w3 e.link (by omega)).mono ?_
  rintro r w4 ⟨rfl, hb⟩
  rw [hlz]
  have M4 := Lib.hid (M3.out.keep hb)
  clear M3 hb k1 k3 k4
  have k1 := M4.out.c1; have k4 := M4.out.c4
  rw [hk] at k1
  go_wp2_with fail
  go_ret
  exact ⟨by rw [HR.out]; exact ret_eq (by simp), M4.out.below⟩
set_option maxRecDepth 100000 in
set_option maxHeartbeats 1000000 in
theorem refright_k4d (w : World) (e : EntD) (a : Option Addr) (cap : Nat) (hk : e.kind = 4) (m0 : 0 ≤ e.mode) (m1 : e.mode ≤ 4095) (l1 : 1 ≤ e.name.length) (l2 : e.name.length ≤ 255) (hnz : nzL e.name = true) (hp : ¬ partI e.name < 0)
    (hlk : 1 ≤ e.link.length) (hlk2 : e.link.length ≤ 100) (hlz : nzL e.link = true) (hd : e.data.length = 0) :
    Calls Tryd.prog 13 #[eV e (.slice a e.data.length cap)] w fun r w' => r = .returned (.int .i64 (rightL e)) ∧ Below w.heap.size w w' := by
  have HR := Lib.hid (show rightL e = 0 from rl_name_ok (by omega) (plain_true l1 l2 hnz) hp (by
    have q : decide (e.kind = 3 ∨ e.kind = 4) = true := by rw [hk]; rfl
    have q2 : decide (e.link ≠ []) = true := decide_eq_true (fun q => by rw [q] at hlk; simp at hlk)
    have hp2 := plain_true hlk hlk2 hlz
    rw [q, q2, if_neg (fun q => q.elim (fun q => by cases q) (fun q => q.elim (fun q => by rw [hp2] at q; cases q.2) (fun q => q.2 (List.length_eq_zero_iff.1 hd)))), if_neg (by omega)]))
  have HNZ := Lib.hid hnz
  unfold eV
  have M := Lib.hid (ebox_new w e (.slice a e.data.length cap))
  have hsz := bs_size e.name
  have hsz2 := bs_size e.link
  have hemp := bs_empty e.link
  have n3 : ¬ e.mode < 0 := by omega
  have n4 : ¬ 4095 < e.mode := by omega
  have c1 : ¬ (e.name.length : Int) < 1 := by omega
  have c2 : ¬ (255 : Int) < (e.name.length : Int) := by omega
  have c3 : ¬ (e.link.length : Int) < 1 := by omega
  have c4 : ¬ (100 : Int) < (e.link.length : Int) := by omega
  rw [hk] at M
  rw [hk]
  clear hnz
  rw [hd] at M ⊢
  go_enter Tryd.func13, Tryd.ntmps13
  go_wp2_with fail
  revert M
  generalize w.alloc (.cells #[.string (bs e.name), .int .i64 4, .int .i64 e.mode, .string (bs e.link), .slice a 0 cap] 31) = w1
  intro M
  refine (nozero_any w1 e.name (by omega)).mono ?_
  rintro r w2 ⟨rfl, hb⟩
  rw [HNZ.out]
  have M2 := Lib.hid (M.out.keep hb)
  clear M hb
  have k0 := M2.out.c0
  go_wp2_with fail
  refine (part_any w2 e.name (by omega)).mono ?_
  rintro r w3 ⟨rfl, hb⟩
  have M3 := Lib.hid (M2.out.keep hb)
  clear M2 hb k0
  have k1 := M3.out.c1; have k3 := M3.out.c3; have k4 := M3.out.c4
  rw [hk] at k1
  generalize partI e.name = pi at *
  go_wp2_with fail
  refine (nozero_any w3 e.link (by omega)).mono ?_
  rintro r w4 ⟨rfl, hb⟩
  rw [hlz]
  have M4 := Lib.hid (M3.out.keep hb)
  clear M3 hb k1 k3 k4
  have k1 := M4.out.c1; have k4 := M4.out.c4
  rw [hk] at k1
  go_wp2_with fail
  go_ret
  exact ⟨by rw [HR.out]; exact ret_eq (by simp), M4.out.below⟩
set_option maxRecDepth 100000 in
set_option maxHeartbeats 1000000 in
theorem refright_k1a (w : World) (e : EntD) (a : Option Addr) (cap : Nat) (hk : e.kind = 1) (m0 : 0 ≤ e.mode) (m1 : e.mode ≤ 4095) (l1 : 1 ≤ e.name.length) (l2 : e.name.length ≤ 255) (hnz : nzL e.name = true) (hp : ¬ partI e.name < 0)
    (hlk : e.link ≠ []) :
    Calls Tryd.prog 13 #[eV e (.slice a e.data.length cap)] w fun r w' => r = .returned (.int .i64 (rightL e)) ∧ Below w.heap.size w w' := by
  have HR := Lib.hid (show rightL e = 3 from rl_name_ok (by omega) (plain_true l1 l2 hnz) hp (by
    have q : decide (e.kind = 3 ∨ e.kind = 4) = false := by rw [hk]; rfl
    rw [q, decide_eq_true hlk, if_pos (.inl rfl)]))
  have HNZ := Lib.hid hnz
  unfold eV
  have M := Lib.hid (ebox_new w e (.slice a e.data.length cap))
  have hsz := bs_size e.name
  have hsz2 := bs_size e.link
  have hemp := bs_empty e.link
  have n3 : ¬ e.mode < 0 := by omega
  have n4 : ¬ 4095 < e.mode := by omega
  have c1 : ¬ (e.name.length : Int) < 1 := by omega
  have c2 : ¬ (255 : Int) < (e.name.length : Int) := by omega
  have c3 : decide (e.link = []) = false := decide_eq_false hlk
  rw [hk] at M
  rw [hk]
  clear hnz
  go_enter Tryd.func13, Tryd.ntmps13
  go_wp2_with fail
  revert M
  generalize w.alloc (.cells #[.string (bs e.name), .int .i64 1, .int .i64 e.mode, .string (bs e.link), .slice a e.data.length cap] 31) = w1
  intro M
  refine (nozero_any w1 e.name (by omega)).mono ?_
  rintro r w2 ⟨rfl, hb⟩
  rw [HNZ.out]
  have M2 := Lib.hid (M.out.keep hb)
  clear M hb
  have k0 := M2.out.c0
  go_wp2_with fail
  refine (part_any w2 e.name (by omega)).mono ?_
  rintro r w3 ⟨rfl, hb⟩
  have M3 := Lib.hid (M2.out.keep hb)
  clear M2 hb k0
  have k1 := M3.out.c1; have k3 := M3.out.c3; have k4 := M3.out.c4
  rw [hk] at k1
  generalize partI e.name = pi at *
  go_wp2_with fail
  go_ret
  exact ⟨by rw [HR.out]; exact ret_eq (by simp), M3.out.below⟩
set_option maxRecDepth 100000 in
set_option maxHeartbeats 1000000 in
theorem refright_k1b (w : World) (e : EntD) (a : Option Addr) (cap : Nat) (hk : e.kind = 1) (m0 : 0 ≤ e.mode) (m1 : e.mode ≤ 4095) (l1 : 1 ≤ e.name.length) (l2 : e.name.length ≤ 255) (hnz : nzL e.name = true) (hp : ¬ partI e.name < 0)
    (hlk : e.link = []) (hd : 70656 < e.data.length) :
    Calls Tryd.prog 13 #[eV e (.slice a e.data.length cap)] w fun r w' => r = .returned (.int .i64 (rightL e)) ∧ Below w.heap.size w w' := by
  have HR := Lib.hid (show rightL e = 6 from rl_name_ok (by omega) (plain_true l1 l2 hnz) hp (by
    have q : decide (e.kind = 3 ∨ e.kind = 4) = false := by rw [hk]; rfl
    have q2 : decide (e.link ≠ []) = false := decide_eq_false (fun q => q hlk)
    rw [q, q2, if_neg (fun q => q.elim (fun q => by cases q) (fun q => q.elim (fun q => by have := q.1; omega) (fun q => q.1 hk))), if_pos hd]))
  have HNZ := Lib.hid hnz
  unfold eV
  have M := Lib.hid (ebox_new w e (.slice a e.data.length cap))
  have hsz := bs_size e.name
  have hsz2 := bs_size e.link
  have hemp := bs_empty e.link
  have n3 : ¬ e.mode < 0 := by omega
  have n4 : ¬ 4095 < e.mode := by omega
  have c1 : ¬ (e.name.length : Int) < 1 := by omega
  have c2 : ¬ (255 : Int) < (e.name.length : Int) := by omega
  have hemp0 : (bs []).toList.isEmpty = true := by rw [bs_empty]; rfl
  have c5 : (70656 : Int) < (e.data.length : Int) := by omega
  rw [hk] at M
  rw [hk]
  clear hnz
  have HLK := Lib.hid hlk
  rw [hlk] at M ⊢
  clear hlk hemp hsz2
  go_enter Tryd.func13, Tryd.ntmps13
  go_wp2_with fail
  revert M
  generalize w.alloc (.cells #[.string (bs e.name), .int .i64 1, .int .i64 e.mode, .string (bs []), .slice a e.data.length cap] 31) = w1
  intro M
  refine (nozero_any w1 e.name (by omega)).mono ?_
  rintro r w2 ⟨rfl, hb⟩
  rw [HNZ.out]
  have M2 := Lib.hid (M.out.keep hb)
  clear M hb
  have k0 := M2.out.c0
  go_wp2_with fail
  refine (part_any w2 e.name (by omega)).mono ?_
  rintro r w3 ⟨rfl, hb⟩
  have M3 := Lib.hid (M2.out.keep hb)
  clear M2 hb k0
  have k1 := M3.out.c1; have k3 := M3.out.c3; have k4 := M3.out.c4
  rw [hk] at k1; rw [HLK.out] at k3
  generalize partI e.name = pi at *
  go_wp2_with fail
  go_ret
  exact ⟨by rw [HR.out]; exact ret_eq (by simp), M3.out.below⟩
set_option maxRecDepth 100000 in
set_option maxHeartbeats 1000000 in
theorem refright_k1c (w : World) (e : EntD) (a : Option Addr) (cap : Nat) (hk : e.kind = 1) (m0 : 0 ≤ e.mode) (m1 : e.mode ≤ 4095) (l1 : 1 ≤ e.name.length) (l2 : e.name.length ≤ 255) (hnz : nzL e.name = true) (hp : ¬ partI e.name < 0)
    (hlk : e.link = []) (hd : e.data.length ≤ 70656) :
    Calls Tryd.prog 13 #[eV e (.slice a e.data.length cap)] w fun r w' => r = .returned (.int .i64 (rightL e)) ∧ Below w.heap.size w w' := by
  have HR := Lib.hid (show rightL e = 0 from rl_name_ok (by omega) (plain_true l1 l2 hnz) hp (by
    have q : decide (e.kind = 3 ∨ e.kind = 4) = false := by rw [hk]; rfl
    have q2 : decide (e.link ≠ []) = false := decide_eq_false (fun q => q hlk)
    rw [q, q2, if_neg (fun q => q.elim (fun q => by cases q) (fun q => q.elim (fun q => by have := q.1; omega) (fun q => q.1 hk))), if_neg (by omega)]))
  have HNZ := Lib.hid hnz
  unfold eV
  have M := Lib.hid (ebox_new w e (.slice a e.data.length cap))
  have hsz := bs_size e.name
  have hsz2 := bs_size e.link
  have hemp := bs_empty e.link
  have n3 : ¬ e.mode < 0 := by omega
  have n4 : ¬ 4095 < e.mode := by omega
  have c1 : ¬ (e.name.length : Int) < 1 := by omega
  have c2 : ¬ (255 : Int) < (e.name.length : Int) := by omega
  have hemp0 : (bs []).toList.isEmpty = true := by rw [bs_empty]; rfl
  have c5 : ¬ (70656 : Int) < (e.data.length : Int) := by omega
  rw [hk] at M
  rw [hk]
  clear hnz
  have HLK := Lib.hid hlk
  rw [hlk] at M ⊢
  clear hlk hemp hsz2
  go_enter Tryd.func13, Tryd.ntmps13
  go_wp2_with fail
  revert M
  generalize w.alloc (.cells #[.string (bs e.name), .int .i64 1, .int .i64 e.mode, .string (bs []), .slice a e.data.length cap] 31) = w1
  intro M
  refine (nozero_any w1 e.name (by omega)).mono ?_
  rintro r w2 ⟨rfl, hb⟩
  rw [HNZ.out]
  have M2 := Lib.hid (M.out.keep hb)
  clear M hb
  have k0 := M2.out.c0
  go_wp2_with fail
  refine (part_any w2 e.name (by omega)).mono ?_
  rintro r w3 ⟨rfl, hb⟩
  have M3 := Lib.hid (M2.out.keep hb)
  clear M2 hb k0
  have k1 := M3.out.c1; have k3 := M3.out.c3; have k4 := M3.out.c4
  rw [hk] at k1; rw [HLK.out] at k3
  generalize partI e.name = pi at *
  go_wp2_with fail
  go_ret
  exact ⟨by rw [HR.out]; exact ret_eq (by simp), M3.out.below⟩
set_option maxRecDepth 100000 in
set_option maxHeartbeats 1000000 in
theorem refright_k2a (w : World) (e : EntD) (a : Option Addr) (cap : Nat) (hk : e.kind = 2) (m0 : 0 ≤ e.mode) (m1 : e.mode ≤ 4095) (l1 : 1 ≤ e.name.length) (l2 : e.name.length ≤ 255) (hnz : nzL e.name = true) (hp : ¬ partI e.name < 0)
    (hlk : e.link ≠ []) :
    Calls Tryd.prog 13 #[eV e (.slice a e.data.length cap)] w fun r w' => r = .returned (.int .i64 (rightL e)) ∧ Below w.heap.size w w' := by
  have HR := Lib.hid (show rightL e = 3 from rl_name_ok (by omega) (plain_true l1 l2 hnz) hp (by
    have q : decide (e.kind = 3 ∨ e.kind = 4) = false := by rw [hk]; rfl
    rw [q, decide_eq_true hlk, if_pos (.inl rfl)]))
  have HNZ := Lib.hid hnz
  unfold eV
  have M := Lib.hid (ebox_new w e (.slice a e.data.length cap))
  have hsz := bs_size e.name
  have hsz2 := bs_size e.link
  have hemp := bs_empty e.link
  have n3 : ¬ e.mode < 0 := by omega
  have n4 : ¬ 4095 < e.mode := by omega
  have c1 : ¬ (e.name.length : Int) < 1 := by omega
  have c2 : ¬ (255 : Int) < (e.name.length : Int) := by omega
  have c3 : decide (e.link = []) = false := decide_eq_false hlk
  rw [hk] at M
  rw [hk]
  clear hnz
  go_enter Tryd.func13, Tryd.ntmps13
  go_wp2_with fail
  revert M
  generalize w.alloc (.cells #[.string (bs e.name), .int .i64 2, .int .i64 e.mode, .string (bs e.link), .slice a e.data.length cap] 31) = w1
  intro M
  refine (nozero_any w1 e.name (by omega)).mono ?_
  rintro r w2 ⟨rfl, hb⟩
  rw [HNZ.out]
  have M2 := Lib.hid (M.out.keep hb)
  clear M hb
  have k0 := M2.out.c0
  go_wp2_with fail
  refine (part_any w2 e.name (by omega)).mono ?_
  rintro r w3 ⟨rfl, hb⟩
  have M3 := Lib.hid (M2.out.keep hb)
  clear M2 hb k0
  have k1 := M3.out.c1; have k3 := M3.out.c3; have k4 := M3.out.c4
  rw [hk] at k1
  generalize partI e.name = pi at *
  go_wp2_with fail
  go_ret
  exact ⟨by rw [HR.out]; exact ret_eq (by simp), M3.out.below⟩
set_option maxRecDepth 100000 in
set_option maxHeartbeats 1000000 in
theorem refright_k2b (w : World) (e : EntD) (a : Option Addr) (cap : Nat) (hk : e.kind = 2) (m0 : 0 ≤ e.mode) (m1 : e.mode ≤ 4095) (l1 : 1 ≤ e.name.length) (l2 : e.name.length ≤ 255) (hnz : nzL e.name = true) (hp : ¬ partI e.name < 0)
    (hlk : e.link = []) (hd : 0 < e.data.length) :
    Calls Tryd.prog 13 #[eV e (.slice a e.data.length cap)] w fun r w' => r = .returned (.int .i64 (rightL e)) ∧ Below w.heap.size w w' := by
  have HR := Lib.hid (show rightL e = 3 from rl_name_ok (by omega) (plain_true l1 l2 hnz) hp (by
    have q : decide (e.kind = 3 ∨ e.kind = 4) = false := by rw [hk]; rfl
    have q2 : decide (e.link ≠ []) = false := decide_eq_false (fun q => q hlk)
    rw [if_pos (.inr (.inr ⟨by omega, fun q => by rw [q] at hd; simp at hd⟩))]))
  have HNZ := Lib.hid hnz
  unfold eV
  have M := Lib.hid (ebox_new w e (.slice a e.data.length cap))
  have hsz := bs_size e.name
  have hsz2 := bs_size e.link
  have hemp := bs_empty e.link
  have n3 : ¬ e.mode < 0 := by omega
  have n4 : ¬ 4095 < e.mode := by omega
  have c1 : ¬ (e.name.length : Int) < 1 := by omega
  have c2 : ¬ (255 : Int) < (e.name.length : Int) := by omega
  have hemp0 : (bs []).toList.isEmpty = true := by rw [bs_empty]; rfl
  have c5 : (0 : Int) < (e.data.length : Int) := by omega
  rw [hk] at M
  rw [hk]
  clear hnz
  have HLK := Lib.hid hlk
  rw [hlk] at M ⊢
  clear hlk hemp hsz2
  go_enter Tryd.func13, Tryd.ntmps13
  go_wp2_with fail
  revert M
  generalize w.alloc (.cells #[.string (bs e.name), .int .i64 2, .int .i64 e.mode, .string (bs []), .slice a e.data.length cap] 31) = w1
  intro M
  refine (nozero_any w1 e.name (by omega)).mono ?_
  rintro r w2 ⟨rfl, hb⟩
  rw [HNZ.out]
  have M2 := Lib.hid (M.out.keep hb)
  clear M hb
  have k0 := M2.out.c0
  go_wp2_with fail
  refine (part_any w2 e.name (by omega)).mono ?_
  rintro r w3 ⟨rfl, hb⟩
  have M3 := Lib.hid (M2.out.keep hb)
  clear M2 hb k0
  have k1 := M3.out.c1; have k3 := M3.out.c3; have k4 := M3.out.c4
  rw [hk] at k1; rw [HLK.out] at k3
  generalize partI e.name = pi at *
  go_wp2_with fail
  go_ret
  exact ⟨by rw [HR.out]; exact ret_eq (by simp), M3.out.below⟩
set_option maxRecDepth 100000 in
set_option maxHeartbeats 1000000 in
theorem refright_k2c (w : World) (e : EntD) (a : Option Addr) (cap : Nat) (hk : e.kind = 2) (m0 : 0 ≤ e.mode) (m1 : e.mode ≤ 4095) (l1 : 1 ≤ e.name.length) (l2 : e.name.length ≤ 255) (hnz : nzL e.name = true) (hp : ¬ partI e.name < 0)
    (hlk : e.link = []) (hd : e.data.length = 0) :
    Calls Tryd.prog 13 #[eV e (.slice a e.data.length cap)] w fun r w' => r = .returned (.int .i64 (rightL e)) ∧ Below w.heap.size w w' := by
  have HR := Lib.hid (show rightL e = 0 from rl_name_ok (by omega) (plain_true l1 l2 hnz) hp (by
    have q : decide (e.kind = 3 ∨ e.kind = 4) = false := by rw [hk]; rfl
    have q2 : decide (e.link ≠ []) = false := decide_eq_false (fun q => q hlk)
    rw [q, q2, if_neg (fun q => q.elim (fun q => by cases q) (fun q => q.elim (fun q => by have := q.1; omega) (fun q => q.2 (List.length_eq_zero_iff.1 hd)))), if_neg (by omega)]))
  have HNZ := Lib.hid hnz
  unfold eV
  have M := Lib.hid (ebox_new w e (.slice a e.data.length cap))
  have hsz := bs_size e.name
  have hsz2 := bs_size e.link
  have hemp := bs_empty e.link
  have n3 : ¬ e.mode < 0 := by omega
  have n4 : ¬ 4095 < e.mode := by omega
  have c1 : ¬ (e.name.length : Int) < 1 := by omega
  have c2 : ¬ (255 : Int) < (e.name.length : Int) := by omega
  have hemp0 : (bs []).toList.isEmpty = true := by rw [bs_empty]; rfl
  rw [hk] at M
  rw [hk]
  clear hnz
  rw [hd] at M ⊢
  have HLK := Lib.hid hlk
  rw [hlk] at M ⊢
  clear hlk hemp hsz2
  go_enter Tryd.func13, Tryd.ntmps13
  go_wp2_with fail
  revert M
  generalize w.alloc (.cells #[.string (bs e.name), .int .i64 2, .int .i64 e.mode, .string (bs []), .slice a 0 cap] 31) = w1
  intro M
  refine (nozero_any w1 e.name (by omega)).mono ?_
  rintro r w2 ⟨rfl, hb⟩
  rw [HNZ.out]
  have M2 := Lib.hid (M.out.keep hb)
  clear M hb
  have k0 := M2.out.c0
  go_wp2_with fail
  refine (part_any w2 e.name (by omega)).mono ?_
  rintro r w3 ⟨rfl, hb⟩
  have M3 := Lib.hid (M2.out.keep hb)
  clear M2 hb k0
  have k1 := M3.out.c1; have k3 := M3.out.c3; have k4 := M3.out.c4
  rw [hk] at k1; rw [HLK.out] at k3
  generalize partI e.name = pi at *
  go_wp2_with fail
  go_ret
  exact ⟨by rw [HR.out]; exact ret_eq (by simp), M3.out.below⟩
/-- The document's answer: may an entry be printed? -/
theorem refright_any (w : World) (e : EntD) (v : Value) (a : Option Addr) (cap : Nat) (hv : v = .slice a e.data.length cap) (hl : e.name.length ≤ 9223372036854775807) :
    Calls Tryd.prog 13 #[eV e v] w fun r w' => r = .returned (.int .i64 (rightL e)) ∧ Below w.heap.size w w' := by
  subst hv
  by_cases h : e.kind < 1 ∨ 4 < e.kind ∨ e.mode < 0 ∨ 4095 < e.mode
  · exact refright_range w e a cap h
  by_cases hn : e.name.length < 1 ∨ 255 < e.name.length ∨ nzL e.name = false ∨ partI e.name < 0
  · exact refright_name w e a cap (by omega) hl hn
  have l1 : 1 ≤ e.name.length := by omega
  have l2 : e.name.length ≤ 255 := by omega
  have hp : ¬ partI e.name < 0 := by omega
  have hnz : nzL e.name = true := by
    cases hz : nzL e.name with
    | true => rfl
    | false => exact absurd (.inr (.inr (.inl hz))) hn
  have m0 : 0 ≤ e.mode := by omega
  have m1 : e.mode ≤ 4095 := by omega
  rcases (by omega : e.kind = 1 ∨ e.kind = 2 ∨ e.kind = 3 ∨ e.kind = 4) with hk | hk | hk | hk
  · by_cases hlk : e.link = []
    · by_cases hd : 70656 < e.data.length
      · exact refright_k1b w e a cap hk m0 m1 l1 l2 hnz hp hlk hd
      · exact refright_k1c w e a cap hk m0 m1 l1 l2 hnz hp hlk (by omega)
    · exact refright_k1a w e a cap hk m0 m1 l1 l2 hnz hp hlk
  · by_cases hlk : e.link = []
    · by_cases hd : 0 < e.data.length
      · exact refright_k2b w e a cap hk m0 m1 l1 l2 hnz hp hlk hd
      · exact refright_k2c w e a cap hk m0 m1 l1 l2 hnz hp hlk (by omega)
    · exact refright_k2a w e a cap hk m0 m1 l1 l2 hnz hp hlk
  · by_cases hlk : e.link.length < 1 ∨ 100 < e.link.length
    · exact refright_k3a w e a cap hk m0 m1 l1 l2 hnz hp hlk
    · cases hlz : nzL e.link with
      | false => exact refright_k3b w e a cap hk m0 m1 l1 l2 hnz hp (by omega) (by omega) hlz
      | true =>
        by_cases hd : 0 < e.data.length
        · exact refright_k3c w e a cap hk m0 m1 l1 l2 hnz hp (by omega) (by omega) hlz hd
        · exact refright_k3d w e a cap hk m0 m1 l1 l2 hnz hp (by omega) (by omega) hlz (by omega)
  · by_cases hlk : e.link.length < 1 ∨ 100 < e.link.length
    · exact refright_k4a w e a cap hk m0 m1 l1 l2 hnz hp hlk
    · cases hlz : nzL e.link with
      | false => exact refright_k4b w e a cap hk m0 m1 l1 l2 hnz hp (by omega) (by omega) hlz
      | true =>
        by_cases hd : 0 < e.data.length
        · exact refright_k4c w e a cap hk m0 m1 l1 l2 hnz hp (by omega) (by omega) hlz hd
        · exact refright_k4d w e a cap hk m0 m1 l1 l2 hnz hp (by omega) (by omega) hlz (by omega)
end Go.Proofs.YtikhdbdbdldbaaaDoor
