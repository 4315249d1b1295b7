/- The contract of tarfmt.Right, at whatever entry. (Printed by wip/gen/genright.py.) -/
import Derived.Test.YtikhdbdbdldbaaaDoorParted
import Derived.Test.YtikhdbdbdldbaaaDoorCl
namespace Go.Proofs.YtikhdbdbdldbaaaDoor
open Go.RowKit

/-- An entry by value. -/
def eV (e : EntD) (v : Value) : Value := .agg #[.string (bs e.name), .int .i64 e.kind, .int .i64 e.mode, .string (bs e.link), v]
/-- An entry's box behind what was there before. -/
structure EBox (w w1 : World) (e : EntD) (v : Value) : Prop where
  below : Below w.heap.size w w1
  row : w1.heap[w.heap.size]? = some (.cells #[.string (bs e.name), .int .i64 e.kind, .int .i64 e.mode, .string (bs e.link), v] 31 (0, 0))
section
variable {w w1 w2 : World} {e : EntD} {v : Value}
theorem EBox.lt (M : EBox w w1 e v) : w.heap.size < w1.heap.size := (Array.getElem?_eq_some_iff.1 M.row).1
theorem EBox.c0 (M : EBox w w1 e v) : w1.cell? ⟨w.heap.size, 0, none⟩ = some (.string (bs e.name)) := (cell_of_row w1 _ 0 _ _ _ M.row).trans rfl
theorem EBox.c1 (M : EBox w w1 e v) : w1.cell? ⟨w.heap.size, 1, none⟩ = some (.int .i64 e.kind) := (cell_of_row w1 _ 1 _ _ _ M.row).trans rfl
theorem EBox.c2 (M : EBox w w1 e v) : w1.cell? ⟨w.heap.size, 2, none⟩ = some (.int .i64 e.mode) := (cell_of_row w1 _ 2 _ _ _ M.row).trans rfl
theorem EBox.c3 (M : EBox w w1 e v) : w1.cell? ⟨w.heap.size, 3, none⟩ = some (.string (bs e.link)) := (cell_of_row w1 _ 3 _ _ _ M.row).trans rfl
theorem EBox.c4 (M : EBox w w1 e v) : w1.cell? ⟨w.heap.size, 4, none⟩ = some v := (cell_of_row w1 _ 4 _ _ _ M.row).trans rfl
theorem EBox.keep (M : EBox w w1 e v) (hb : Below w1.heap.size w1 w2) : EBox w w2 e v :=
  ⟨M.below.trans (hb.mono (by have := M.lt; omega)), (hb.block _ M.lt).trans M.row⟩
end
theorem ebox_new (w : World) (e : EntD) (v : Value) : EBox w (w.alloc (.cells #[.string (bs e.name), .int .i64 e.kind, .int .i64 e.mode, .string (bs e.link), v] 31)) e v :=
  ⟨(Below.refl _ _).alloc (Nat.le_refl _) _, heap_alloc_new w _⟩
theorem partedV_tup (l : List UInt8) : ∃ a b, partedV l = .tuple #[.string a, .string b, .bool (partedL l).isSome] := by
  unfold partedV
  split <;> rename_i h <;> rw [h] <;> exact ⟨_, _, rfl⟩
theorem bs_empty (l : List UInt8) : (bs l).toList.isEmpty = decide (l = []) := by
  rw [ByteArray.toList_eq, bs_list]
  cases l <;> simp

set_option maxRecDepth 100000 in
set_option maxHeartbeats 1000000 in
theorem right_k0 (w : World) (e : EntD) (a : Option Addr) (cap : Nat) (hl : e.name.length ≤ 9223372036854775807) (hk : e.kind < 1) :
    Calls Tryd.prog 12 #[eV e (.slice a e.data.length cap)] w fun r w' => r = .returned (.int .i64 (rightL e)) ∧ Below w.heap.size w w' := by
  have HR := Lib.hid (show rightL e = 2 by unfold rightL; rw [if_pos (by omega)])
  have n1 : ¬ e.kind = 3 := by omega
  have n2 : ¬ e.kind = 4 := by omega
  have M := Lib.hid (ebox_new w e (.slice a e.data.length cap))
  obtain ⟨pa, pb, hpv⟩ := partedV_tup e.name
  have HC := Lib.hid (fun w => parted_any w e.name hl)
  rw [hpv] at HC
  clear hpv
  unfold eV
  go_enter Tryd.func12, Tryd.ntmps12
  go_wp2_with fail
  revert M
  generalize w.alloc (.cells #[.string (bs e.name), .int .i64 e.kind, .int .i64 e.mode, .string (bs e.link), .slice a e.data.length cap] 31) = w1
  intro M
  refine (HC.out w1).mono ?_
  rintro r w2 ⟨rfl, hb⟩
  have M2 := Lib.hid (M.out.keep hb)
  clear M hb
  have k1 := M2.out.c1; have k2 := M2.out.c2
  go_wp2_with fail
  go_ret
  exact ⟨by rw [HR.out]; rfl, M2.out.below⟩
set_option maxRecDepth 100000 in
set_option maxHeartbeats 1000000 in
theorem right_k5 (w : World) (e : EntD) (a : Option Addr) (cap : Nat) (hl : e.name.length ≤ 9223372036854775807) (hk : 4 < e.kind) :
    Calls Tryd.prog 12 #[eV e (.slice a e.data.length cap)] w fun r w' => r = .returned (.int .i64 (rightL e)) ∧ Below w.heap.size w w' := by
  have HR := Lib.hid (show rightL e = 2 by unfold rightL; rw [if_pos (by omega)])
  have n1 : ¬ e.kind = 3 := by omega
  have n2 : ¬ e.kind = 4 := by omega
  have n3 : ¬ e.kind < 1 := by omega
  have M := Lib.hid (ebox_new w e (.slice a e.data.length cap))
  obtain ⟨pa, pb, hpv⟩ := partedV_tup e.name
  have HC := Lib.hid (fun w => parted_any w e.name hl)
  rw [hpv] at HC
  clear hpv
  unfold eV
  go_enter Tryd.func12, Tryd.ntmps12
  go_wp2_with fail
  revert M
  generalize w.alloc (.cells #[.string (bs e.name), .int .i64 e.kind, .int .i64 e.mode, .string (bs e.link), .slice a e.data.length cap] 31) = w1
  intro M
  refine (HC.out w1).mono ?_
  rintro r w2 ⟨rfl, hb⟩
  have M2 := Lib.hid (M.out.keep hb)
  clear M hb
  have k1 := M2.out.c1; have k2 := M2.out.c2
  go_wp2_with fail
  go_ret
  exact ⟨by rw [HR.out]; rfl, M2.out.below⟩
set_option maxRecDepth 100000 in
set_option maxHeartbeats 1000000 in
theorem right_m1 (w : World) (e : EntD) (a : Option Addr) (cap : Nat) (hl : e.name.length ≤ 9223372036854775807) (hk : e.kind = 1) (hm : e.mode < 0) :
    Calls Tryd.prog 12 #[eV e (.slice a e.data.length cap)] w fun r w' => r = .returned (.int .i64 (rightL e)) ∧ Below w.heap.size w w' := by
  have HR := Lib.hid (show rightL e = 2 by unfold rightL; rw [if_pos (by omega)])
  have HK := Lib.hid hk
  clear hk
  have M := Lib.hid (ebox_new w e (.slice a e.data.length cap))
  obtain ⟨pa, pb, hpv⟩ := partedV_tup e.name
  have HC := Lib.hid (fun w => parted_any w e.name hl)
  rw [hpv] at HC
  clear hpv
  unfold eV
  go_enter Tryd.func12, Tryd.ntmps12
  go_wp2_with fail
  revert M
  generalize w.alloc (.cells #[.string (bs e.name), .int .i64 e.kind, .int .i64 e.mode, .string (bs e.link), .slice a e.data.length cap] 31) = w1
  intro M
  refine (HC.out w1).mono ?_
  rintro r w2 ⟨rfl, hb⟩
  have M2 := Lib.hid (M.out.keep hb)
  clear M hb
  have k1 := M2.out.c1; have k2 := M2.out.c2
  rw [HK.out] at k1
  go_wp2_with fail
  go_ret
  exact ⟨by rw [HR.out]; rfl, M2.out.below⟩
set_option maxRecDepth 100000 in
set_option maxHeartbeats 1000000 in
theorem right_n1 (w : World) (e : EntD) (a : Option Addr) (cap : Nat) (hl : e.name.length ≤ 9223372036854775807) (hk : e.kind = 1) (hm : 4095 < e.mode) :
    Calls Tryd.prog 12 #[eV e (.slice a e.data.length cap)] w fun r w' => r = .returned (.int .i64 (rightL e)) ∧ Below w.heap.size w w' := by
  have HR := Lib.hid (show rightL e = 2 by unfold rightL; rw [if_pos (by omega)])
  have HK := Lib.hid hk
  clear hk
  have m0 : ¬ e.mode < 0 := by omega
  have M := Lib.hid (ebox_new w e (.slice a e.data.length cap))
  obtain ⟨pa, pb, hpv⟩ := partedV_tup e.name
  have HC := Lib.hid (fun w => parted_any w e.name hl)
  rw [hpv] at HC
  clear hpv
  unfold eV
  go_enter Tryd.func12, Tryd.ntmps12
  go_wp2_with fail
  revert M
  generalize w.alloc (.cells #[.string (bs e.name), .int .i64 e.kind, .int .i64 e.mode, .string (bs e.link), .slice a e.data.length cap] 31) = w1
  intro M
  refine (HC.out w1).mono ?_
  rintro r w2 ⟨rfl, hb⟩
  have M2 := Lib.hid (M.out.keep hb)
  clear M hb
  have k1 := M2.out.c1; have k2 := M2.out.c2
  rw [HK.out] at k1
  go_wp2_with fail
  go_ret
  exact ⟨by rw [HR.out]; rfl, M2.out.below⟩
set_option maxRecDepth 100000 in
set_option maxHeartbeats 1000000 in
theorem right_ok1 (w : World) (e : EntD) (a : Option Addr) (cap : Nat) (hl : e.name.length ≤ 9223372036854775807) (hk : e.kind = 1) (m0 : 0 ≤ e.mode) (m1 : e.mode ≤ 4095) :
    Calls Tryd.prog 12 #[eV e (.slice a e.data.length cap)] w fun r w' => r = .returned (.int .i64 (rightL e)) ∧ Below w.heap.size w w' := by
  have HK := Lib.hid hk
  have HM := Lib.hid (And.intro m0 m1)
  have M := Lib.hid (ebox_new w e (.slice a e.data.length cap))
  obtain ⟨pa, pb, hpv⟩ := partedV_tup e.name
  have HC := Lib.hid (fun w => parted_any w e.name hl)
  rw [hpv] at HC
  obtain ⟨ok, hok⟩ : ∃ ok, ok = (partedL e.name).isSome := ⟨_, rfl⟩
  rw [← hok] at HC
  have HOK := Lib.hid hok
  clear hok hk
  clear hpv
  unfold eV
  go_enter Tryd.func12, Tryd.ntmps12
  go_wp2_with fail
  revert M
  generalize w.alloc (.cells #[.string (bs e.name), .int .i64 e.kind, .int .i64 e.mode, .string (bs e.link), .slice a e.data.length cap] 31) = w1
  intro M
  refine (HC.out w1).mono ?_
  rintro r w2 ⟨rfl, hb⟩
  have M2 := Lib.hid (M.out.keep hb)
  clear M hb
  have k1 := M2.out.c1; have k2 := M2.out.c2
  rw [HK.out] at k1
  have k0 := M2.out.c0
  have rN := run_spanN
  go_wp2_with fail
  refine (plain_any w2 e.name 255 (by omega)).mono ?_
  rintro r w3 ⟨rfl, hb⟩
  have M3 := Lib.hid (M2.out.keep hb)
  clear M2 hb k0 k1 k2
  have HFST := Lib.hid (show ¬ (e.kind < 1 ∨ 4 < e.kind ∨ e.mode < 0 ∨ 4095 < e.mode) by have h1 := HM.out; have h2 := HK.out; omega)
  clear m0 m1
  cases hp : plainL e.name 255 with
  | false =>
    clear HC
    have HR := Lib.hid (show rightL e = 8 by unfold rightL; rw [if_neg HFST.out, if_pos (.inl hp)])
    clear hp
    go_wp2_with fail
    go_ret
    exact ⟨by rw [HR.out]; rfl, M3.out.below⟩
  | true =>
    have HP := Lib.hid hp
    clear hp HC
    cases ok with
    | false =>
      have HR := Lib.hid (show rightL e = 8 by unfold rightL; rw [if_neg HFST.out, if_pos (.inr (by rw [Option.isNone_iff_eq_none]; simpa using HOK.out.symm))])
      go_wp2_with fail
      go_ret
      exact ⟨by rw [HR.out]; rfl, M3.out.below⟩
    | true =>
      have HSEC := Lib.hid (show ¬ (plainL e.name 255 = false ∨ (partedL e.name).isNone = true) by rw [HP.out]; exact fun q => q.elim (fun h => by cases h) (fun h => by rw [Option.isNone_iff_eq_none] at h; have := HOK.out; rw [h] at this; cases this))
      have c1 : ∀ q : ClT w3, q.w.cell? ⟨w.heap.size, 1, none⟩ = some (.int .i64 1) := cl_cell (by rw [← HK.out]; exact M3.out.c1)
      have c3 : ∀ q : ClT w3, q.w.cell? ⟨w.heap.size, 3, none⟩ = some (.string (bs e.link)) := cl_cell M3.out.c3
      have c4 : ∀ q : ClT w3, q.w.cell? ⟨w.heap.size, 4, none⟩ = some (.slice a e.data.length cap) := cl_cell M3.out.c4
      have hne := cl_some w3
      by_cases hlk : e.link = []
      · have hE : (bs e.link).toList.isEmpty = true := by rw [bs_empty]; simp [hlk]
        by_cases hd : 70656 < e.data.length
        · have i1 : (70656 : Int) < (e.data.length : Int) := by omega
          have HR := Lib.hid (show rightL e = 6 by unfold rightL; rw [if_neg HFST.out, if_neg HSEC.out, HK.out, if_neg (by simp [hlk]), if_pos hd])
          clear hlk hd
          go_wp2_with fail
          refine wp_region_class (fun q : ClT w3 => q.w) (by kernel_rfl) (by kernel_rfl) (cl_start w3) ?_
          repeat (go_big_quiet_step (fail))
          refine wpQuiet_nil ?_
          intro w' hw'
          obtain ⟨q, rfl⟩ := hw'
          have M4 := Lib.hid (M3.out.keep q.2)
          have c4q := c4 q
          clear c1 c3 c4
          go_wp2_with fail
          go_ret
          exact ⟨by rw [HR.out]; rfl, M4.out.below⟩
        · have i1 : ¬ (70656 : Int) < (e.data.length : Int) := by omega
          have HR := Lib.hid (show rightL e = 0 by unfold rightL; rw [if_neg HFST.out, if_neg HSEC.out, HK.out, if_neg (by simp [hlk]), if_neg hd])
          clear hlk hd
          go_wp2_with fail
          refine wp_region_class (fun q : ClT w3 => q.w) (by kernel_rfl) (by kernel_rfl) (cl_start w3) ?_
          repeat (go_big_quiet_step (fail))
          refine wpQuiet_nil ?_
          intro w' hw'
          obtain ⟨q, rfl⟩ := hw'
          have M4 := Lib.hid (M3.out.keep q.2)
          have c4q := c4 q
          clear c1 c3 c4
          go_wp2_with fail
          go_ret
          exact ⟨by rw [HR.out]; rfl, M4.out.below⟩
      · have hE : (bs e.link).toList.isEmpty = false := by rw [bs_empty]; simp [hlk]
        have HR := Lib.hid (show rightL e = 3 by unfold rightL; rw [if_neg HFST.out, if_neg HSEC.out, HK.out, if_pos (by simp [hlk])])
        clear hlk
        go_wp2_with fail
        refine wp_region_class (fun q : ClT w3 => q.w) (by kernel_rfl) (by kernel_rfl) (cl_start w3) ?_
        repeat (go_big_quiet_step (fail))
        refine wpQuiet_nil ?_
        intro w' hw'
        obtain ⟨q, rfl⟩ := hw'
        have M4 := Lib.hid (M3.out.keep q.2)
        have c4q := c4 q
        clear c1 c3 c4
        go_wp2_with fail
        go_ret
        exact ⟨by rw [HR.out]; rfl, M4.out.below⟩
set_option maxRecDepth 100000 in
set_option maxHeartbeats 1000000 in
theorem right_m2 (w : World) (e : EntD) (a : Option Addr) (cap : Nat) (hl : e.name.length ≤ 9223372036854775807) (hk : e.kind = 2) (hm : e.mode < 0) :
    Calls Tryd.prog 12 #[eV e (.slice a e.data.length cap)] w fun r w' => r = .returned (.int .i64 (rightL e)) ∧ Below w.heap.size w w' := by
  have HR := Lib.hid (show rightL e = 2 by unfold rightL; rw [if_pos (by omega)])
  have HK := Lib.hid hk
  clear hk
  have M := Lib.hid (ebox_new w e (.slice a e.data.length cap))
  obtain ⟨pa, pb, hpv⟩ := partedV_tup e.name
  have HC := Lib.hid (fun w => parted_any w e.name hl)
  rw [hpv] at HC
  clear hpv
  unfold eV
  go_enter Tryd.func12, Tryd.ntmps12
  go_wp2_with fail
  revert M
  generalize w.alloc (.cells #[.string (bs e.name), .int .i64 e.kind, .int .i64 e.mode, .string (bs e.link), .slice a e.data.length cap] 31) = w1
  intro M
  refine (HC.out w1).mono ?_
  rintro r w2 ⟨rfl, hb⟩
  have M2 := Lib.hid (M.out.keep hb)
  clear M hb
  have k1 := M2.out.c1; have k2 := M2.out.c2
  rw [HK.out] at k1
  go_wp2_with fail
  go_ret
  exact ⟨by rw [HR.out]; rfl, M2.out.below⟩
set_option maxRecDepth 100000 in
set_option maxHeartbeats 1000000 in
theorem right_n2 (w : World) (e : EntD) (a : Option Addr) (cap : Nat) (hl : e.name.length ≤ 9223372036854775807) (hk : e.kind = 2) (hm : 4095 < e.mode) :
    Calls Tryd.prog 12 #[eV e (.slice a e.data.length cap)] w fun r w' => r = .returned (.int .i64 (rightL e)) ∧ Below w.heap.size w w' := by
  have HR := Lib.hid (show rightL e = 2 by unfold rightL; rw [if_pos (by omega)])
  have HK := Lib.hid hk
  clear hk
  have m0 : ¬ e.mode < 0 := by omega
  have M := Lib.hid (ebox_new w e (.slice a e.data.length cap))
  obtain ⟨pa, pb, hpv⟩ := partedV_tup e.name
  have HC := Lib.hid (fun w => parted_any w e.name hl)
  rw [hpv] at HC
  clear hpv
  unfold eV
  go_enter Tryd.func12, Tryd.ntmps12
  go_wp2_with fail
  revert M
  generalize w.alloc (.cells #[.string (bs e.name), .int .i64 e.kind, .int .i64 e.mode, .string (bs e.link), .slice a e.data.length cap] 31) = w1
  intro M
  refine (HC.out w1).mono ?_
  rintro r w2 ⟨rfl, hb⟩
  have M2 := Lib.hid (M.out.keep hb)
  clear M hb
  have k1 := M2.out.c1; have k2 := M2.out.c2
  rw [HK.out] at k1
  go_wp2_with fail
  go_ret
  exact ⟨by rw [HR.out]; rfl, M2.out.below⟩
set_option maxRecDepth 100000 in
set_option maxHeartbeats 1000000 in
theorem right_ok2 (w : World) (e : EntD) (a : Option Addr) (cap : Nat) (hl : e.name.length ≤ 9223372036854775807) (hk : e.kind = 2) (m0 : 0 ≤ e.mode) (m1 : e.mode ≤ 4095) :
    Calls Tryd.prog 12 #[eV e (.slice a e.data.length cap)] w fun r w' => r = .returned (.int .i64 (rightL e)) ∧ Below w.heap.size w w' := by
  have HK := Lib.hid hk
  have HM := Lib.hid (And.intro m0 m1)
  have M := Lib.hid (ebox_new w e (.slice a e.data.length cap))
  obtain ⟨pa, pb, hpv⟩ := partedV_tup e.name
  have HC := Lib.hid (fun w => parted_any w e.name hl)
  rw [hpv] at HC
  obtain ⟨ok, hok⟩ : ∃ ok, ok = (partedL e.name).isSome := ⟨_, rfl⟩
  rw [← hok] at HC
  have HOK := Lib.hid hok
  clear hok hk
  clear hpv
  unfold eV
  go_enter Tryd.func12, Tryd.ntmps12
  go_wp2_with fail
  revert M
  generalize w.alloc (.cells #[.string (bs e.name), .int .i64 e.kind, .int .i64 e.mode, .string (bs e.link), .slice a e.data.length cap] 31) = w1
  intro M
  refine (HC.out w1).mono ?_
  rintro r w2 ⟨rfl, hb⟩
  have M2 := Lib.hid (M.out.keep hb)
  clear M hb
  have k1 := M2.out.c1; have k2 := M2.out.c2
  rw [HK.out] at k1
  have k0 := M2.out.c0
  have rN := run_spanN
  go_wp2_with fail
  refine (plain_any w2 e.name 255 (by omega)).mono ?_
  rintro r w3 ⟨rfl, hb⟩
  have M3 := Lib.hid (M2.out.keep hb)
  clear M2 hb k0 k1 k2
  have HFST := Lib.hid (show ¬ (e.kind < 1 ∨ 4 < e.kind ∨ e.mode < 0 ∨ 4095 < e.mode) by have h1 := HM.out; have h2 := HK.out; omega)
  clear m0 m1
  cases hp : plainL e.name 255 with
  | false =>
    clear HC
    have HR := Lib.hid (show rightL e = 8 by unfold rightL; rw [if_neg HFST.out, if_pos (.inl hp)])
    clear hp
    go_wp2_with fail
    go_ret
    exact ⟨by rw [HR.out]; rfl, M3.out.below⟩
  | true =>
    have HP := Lib.hid hp
    clear hp HC
    cases ok with
    | false =>
      have HR := Lib.hid (show rightL e = 8 by unfold rightL; rw [if_neg HFST.out, if_pos (.inr (by rw [Option.isNone_iff_eq_none]; simpa using HOK.out.symm))])
      go_wp2_with fail
      go_ret
      exact ⟨by rw [HR.out]; rfl, M3.out.below⟩
    | true =>
      have HSEC := Lib.hid (show ¬ (plainL e.name 255 = false ∨ (partedL e.name).isNone = true) by rw [HP.out]; exact fun q => q.elim (fun h => by cases h) (fun h => by rw [Option.isNone_iff_eq_none] at h; have := HOK.out; rw [h] at this; cases this))
      have c1 : ∀ q : ClT w3, q.w.cell? ⟨w.heap.size, 1, none⟩ = some (.int .i64 2) := cl_cell (by rw [← HK.out]; exact M3.out.c1)
      have c3 : ∀ q : ClT w3, q.w.cell? ⟨w.heap.size, 3, none⟩ = some (.string (bs e.link)) := cl_cell M3.out.c3
      have c4 : ∀ q : ClT w3, q.w.cell? ⟨w.heap.size, 4, none⟩ = some (.slice a e.data.length cap) := cl_cell M3.out.c4
      have hne := cl_some w3
      by_cases hlk : e.link = []
      · have hE : (bs e.link).toList.isEmpty = true := by rw [bs_empty]; simp [hlk]
        by_cases hd : e.data = []
        · have hD : e.data.length = 0 := by rw [hd]; rfl
          have HR := Lib.hid (show rightL e = 0 by unfold rightL; rw [if_neg HFST.out, if_neg HSEC.out, HK.out, if_neg (by simp [hlk, hd]), if_neg (by rw [hd]; simp)])
          clear hlk hd
          go_wp2_with fail
          refine wp_region_class (fun q : ClT w3 => q.w) (by kernel_rfl) (by kernel_rfl) (cl_start w3) ?_
          repeat (go_big_quiet_step (fail))
          refine wpQuiet_nil ?_
          intro w' hw'
          obtain ⟨q, rfl⟩ := hw'
          have M4 := Lib.hid (M3.out.keep q.2)
          have c4q := c4 q
          clear c1 c3 c4
          go_wp2_with fail
          go_ret
          exact ⟨by rw [HR.out]; rfl, M4.out.below⟩
        · have i1 : (0 : Int) < (e.data.length : Int) := by have := List.length_pos_iff.2 hd; omega
          have HR := Lib.hid (show rightL e = 3 by unfold rightL; rw [if_neg HFST.out, if_neg HSEC.out, HK.out, if_pos (by simp [hlk, hd])])
          clear hlk hd
          go_wp2_with fail
          refine wp_region_class (fun q : ClT w3 => q.w) (by kernel_rfl) (by kernel_rfl) (cl_start w3) ?_
          repeat (go_big_quiet_step (fail))
          refine wpQuiet_nil ?_
          intro w' hw'
          obtain ⟨q, rfl⟩ := hw'
          have M4 := Lib.hid (M3.out.keep q.2)
          have c4q := c4 q
          clear c1 c3 c4
          go_wp2_with fail
          go_ret
          exact ⟨by rw [HR.out]; rfl, M4.out.below⟩
      · have hE : (bs e.link).toList.isEmpty = false := by rw [bs_empty]; simp [hlk]
        have HR := Lib.hid (show rightL e = 3 by unfold rightL; rw [if_neg HFST.out, if_neg HSEC.out, HK.out, if_pos (by simp [hlk])])
        clear hlk
        go_wp2_with fail
        refine wp_region_class (fun q : ClT w3 => q.w) (by kernel_rfl) (by kernel_rfl) (cl_start w3) ?_
        repeat (go_big_quiet_step (fail))
        refine wpQuiet_nil ?_
        intro w' hw'
        obtain ⟨q, rfl⟩ := hw'
        have M4 := Lib.hid (M3.out.keep q.2)
        have c4q := c4 q
        clear c1 c3 c4
        go_wp2_with fail
        go_ret
        exact ⟨by rw [HR.out]; rfl, M4.out.below⟩
set_option maxRecDepth 100000 in
set_option maxHeartbeats 1000000 in
theorem right_m3 (w : World) (e : EntD) (a : Option Addr) (cap : Nat) (hl : e.name.length ≤ 9223372036854775807) (hk : e.kind = 3) (hm : e.mode < 0) :
    Calls Tryd.prog 12 #[eV e (.slice a e.data.length cap)] w fun r w' => r = .returned (.int .i64 (rightL e)) ∧ Below w.heap.size w w' := by
  have HR := Lib.hid (show rightL e = 2 by unfold rightL; rw [if_pos (by omega)])
  have HK := Lib.hid hk
  clear hk
  have M := Lib.hid (ebox_new w e (.slice a e.data.length cap))
  obtain ⟨pa, pb, hpv⟩ := partedV_tup e.name
  have HC := Lib.hid (fun w => parted_any w e.name hl)
  rw [hpv] at HC
  clear hpv
  unfold eV
  go_enter Tryd.func12, Tryd.ntmps12
  go_wp2_with fail
  revert M
  generalize w.alloc (.cells #[.string (bs e.name), .int .i64 e.kind, .int .i64 e.mode, .string (bs e.link), .slice a e.data.length cap] 31) = w1
  intro M
  refine (HC.out w1).mono ?_
  rintro r w2 ⟨rfl, hb⟩
  have M2 := Lib.hid (M.out.keep hb)
  clear M hb
  have k1 := M2.out.c1; have k2 := M2.out.c2
  rw [HK.out] at k1
  go_wp2_with fail
  go_ret
  exact ⟨by rw [HR.out]; rfl, M2.out.below⟩
set_option maxRecDepth 100000 in
set_option maxHeartbeats 1000000 in
theorem right_n3 (w : World) (e : EntD) (a : Option Addr) (cap : Nat) (hl : e.name.length ≤ 9223372036854775807) (hk : e.kind = 3) (hm : 4095 < e.mode) :
    Calls Tryd.prog 12 #[eV e (.slice a e.data.length cap)] w fun r w' => r = .returned (.int .i64 (rightL e)) ∧ Below w.heap.size w w' := by
  have HR := Lib.hid (show rightL e = 2 by unfold rightL; rw [if_pos (by omega)])
  have HK := Lib.hid hk
  clear hk
  have m0 : ¬ e.mode < 0 := by omega
  have M := Lib.hid (ebox_new w e (.slice a e.data.length cap))
  obtain ⟨pa, pb, hpv⟩ := partedV_tup e.name
  have HC := Lib.hid (fun w => parted_any w e.name hl)
  rw [hpv] at HC
  clear hpv
  unfold eV
  go_enter Tryd.func12, Tryd.ntmps12
  go_wp2_with fail
  revert M
  generalize w.alloc (.cells #[.string (bs e.name), .int .i64 e.kind, .int .i64 e.mode, .string (bs e.link), .slice a e.data.length cap] 31) = w1
  intro M
  refine (HC.out w1).mono ?_
  rintro r w2 ⟨rfl, hb⟩
  have M2 := Lib.hid (M.out.keep hb)
  clear M hb
  have k1 := M2.out.c1; have k2 := M2.out.c2
  rw [HK.out] at k1
  go_wp2_with fail
  go_ret
  exact ⟨by rw [HR.out]; rfl, M2.out.below⟩
set_option maxRecDepth 100000 in
set_option maxHeartbeats 1000000 in
theorem right_ok3 (w : World) (e : EntD) (a : Option Addr) (cap : Nat) (hl : e.name.length ≤ 9223372036854775807) (hk : e.kind = 3) (m0 : 0 ≤ e.mode) (m1 : e.mode ≤ 4095) :
    Calls Tryd.prog 12 #[eV e (.slice a e.data.length cap)] w fun r w' => r = .returned (.int .i64 (rightL e)) ∧ Below w.heap.size w w' := by
  have HK := Lib.hid hk
  have HM := Lib.hid (And.intro m0 m1)
  have M := Lib.hid (ebox_new w e (.slice a e.data.length cap))
  obtain ⟨pa, pb, hpv⟩ := partedV_tup e.name
  have HC := Lib.hid (fun w => parted_any w e.name hl)
  rw [hpv] at HC
  obtain ⟨ok, hok⟩ : ∃ ok, ok = (partedL e.name).isSome := ⟨_, rfl⟩
  rw [← hok] at HC
  have HOK := Lib.hid hok
  clear hok hk
  clear hpv
  unfold eV
  go_enter Tryd.func12, Tryd.ntmps12
  go_wp2_with fail
  revert M
  generalize w.alloc (.cells #[.string (bs e.name), .int .i64 e.kind, .int .i64 e.mode, .string (bs e.link), .slice a e.data.length cap] 31) = w1
  intro M
  refine (HC.out w1).mono ?_
  rintro r w2 ⟨rfl, hb⟩
  have M2 := Lib.hid (M.out.keep hb)
  clear M hb
  have k1 := M2.out.c1; have k2 := M2.out.c2
  rw [HK.out] at k1
  have k0 := M2.out.c0
  have rN := run_spanN
  go_wp2_with fail
  refine (plain_any w2 e.name 255 (by omega)).mono ?_
  rintro r w3 ⟨rfl, hb⟩
  have M3 := Lib.hid (M2.out.keep hb)
  clear M2 hb k0 k1 k2
  have HFST := Lib.hid (show ¬ (e.kind < 1 ∨ 4 < e.kind ∨ e.mode < 0 ∨ 4095 < e.mode) by have h1 := HM.out; have h2 := HK.out; omega)
  clear m0 m1
  cases hp : plainL e.name 255 with
  | false =>
    clear HC
    have HR := Lib.hid (show rightL e = 8 by unfold rightL; rw [if_neg HFST.out, if_pos (.inl hp)])
    clear hp
    go_wp2_with fail
    go_ret
    exact ⟨by rw [HR.out]; rfl, M3.out.below⟩
  | true =>
    have HP := Lib.hid hp
    clear hp HC
    cases ok with
    | false =>
      have HR := Lib.hid (show rightL e = 8 by unfold rightL; rw [if_neg HFST.out, if_pos (.inr (by rw [Option.isNone_iff_eq_none]; simpa using HOK.out.symm))])
      go_wp2_with fail
      go_ret
      exact ⟨by rw [HR.out]; rfl, M3.out.below⟩
    | true =>
      have HSEC := Lib.hid (show ¬ (plainL e.name 255 = false ∨ (partedL e.name).isNone = true) by rw [HP.out]; exact fun q => q.elim (fun h => by cases h) (fun h => by rw [Option.isNone_iff_eq_none] at h; have := HOK.out; rw [h] at this; cases this))
      have c1 : ∀ q : ClT w3, q.w.cell? ⟨w.heap.size, 1, none⟩ = some (.int .i64 3) := cl_cell (by rw [← HK.out]; exact M3.out.c1)
      have c3 : ∀ q : ClT w3, q.w.cell? ⟨w.heap.size, 3, none⟩ = some (.string (bs e.link)) := cl_cell M3.out.c3
      have c4 : ∀ q : ClT w3, q.w.cell? ⟨w.heap.size, 4, none⟩ = some (.slice a e.data.length cap) := cl_cell M3.out.c4
      have hne := cl_some w3
      by_cases hlk : e.link = []
      · have hE : (bs e.link).toList.isEmpty = true := by rw [bs_empty]; simp [hlk]
        have HR := Lib.hid (show rightL e = 3 by unfold rightL; rw [if_neg HFST.out, if_neg HSEC.out, HK.out, if_pos (by simp [hlk])])
        clear hlk
        go_wp2_with fail
        refine wp_region_class (fun q : ClT w3 => q.w) (by kernel_rfl) (by kernel_rfl) (cl_start w3) ?_
        repeat (go_big_quiet_step (fail))
        refine wpQuiet_nil ?_
        intro w' hw'
        obtain ⟨q, rfl⟩ := hw'
        have M4 := Lib.hid (M3.out.keep q.2)
        have c4q := c4 q
        clear c1 c3 c4
        go_wp2_with fail
        go_ret
        exact ⟨by rw [HR.out]; rfl, M4.out.below⟩
      · have hE : (bs e.link).toList.isEmpty = false := by rw [bs_empty]; simp [hlk]
        have C1 : Hid (∀ q : ClT w3, _) := cl_call (W := w3) (f := 26) (args := #[]) (E := .returned (.agg #[.int .i64 157, .int .i64 100])) (fun wx h => link_any wx)
        have C2 : Hid (∀ q : ClT w3, _) := cl_call (W := w3) (f := 25) (args := #[.string (bs e.link), .int .i64 100]) (E := .returned (.bool (plainL e.link 100))) (fun wx h => plain_any wx e.link 100 (by omega))
        cases hpl : plainL e.link 100 with
        | false =>
          rw [hpl] at C2
          have HR := Lib.hid (show rightL e = 3 by unfold rightL; rw [if_neg HFST.out, if_neg HSEC.out, HK.out, if_pos (by simp [hpl])])
          clear hlk hpl
          go_wp2_with fail
          refine wp_region_class (fun q : ClT w3 => q.w) (by kernel_rfl) (by kernel_rfl) (cl_start w3) ?_
          repeat (go_big_quiet_step (exact C1.out _))
          go_big_quiet_step (exact C2.out _)
          repeat (go_big_quiet_step (fail))
          refine wpQuiet_nil ?_
          intro w' hw'
          obtain ⟨q, rfl⟩ := hw'
          have M4 := Lib.hid (M3.out.keep q.2)
          have c4q := c4 q
          clear c1 c3 c4
          go_wp2_with fail
          go_ret
          exact ⟨by rw [HR.out]; rfl, M4.out.below⟩
        | true =>
          rw [hpl] at C2
          by_cases hd : e.data = []
          · have hD : e.data.length = 0 := by rw [hd]; rfl
            have HR := Lib.hid (show rightL e = 0 by unfold rightL; rw [if_neg HFST.out, if_neg HSEC.out, HK.out, if_neg (by simp [hlk, hd, hpl]), if_neg (by rw [hd]; simp)])
            clear hlk hd hpl
            go_wp2_with fail
            refine wp_region_class (fun q : ClT w3 => q.w) (by kernel_rfl) (by kernel_rfl) (cl_start w3) ?_
            repeat (go_big_quiet_step (exact C1.out _))
            go_big_quiet_step (exact C2.out _)
            repeat (go_big_quiet_step (fail))
            refine wpQuiet_nil ?_
            intro w' hw'
            obtain ⟨q, rfl⟩ := hw'
            have M4 := Lib.hid (M3.out.keep q.2)
            have c4q := c4 q
            clear c1 c3 c4
            go_wp2_with fail
            go_ret
            exact ⟨by rw [HR.out]; rfl, M4.out.below⟩
          · have i1 : (0 : Int) < (e.data.length : Int) := by have := List.length_pos_iff.2 hd; omega
            have HR := Lib.hid (show rightL e = 3 by unfold rightL; rw [if_neg HFST.out, if_neg HSEC.out, HK.out, if_pos (by simp [hlk, hd, hpl])])
            clear hlk hd hpl
            go_wp2_with fail
            refine wp_region_class (fun q : ClT w3 => q.w) (by kernel_rfl) (by kernel_rfl) (cl_start w3) ?_
            repeat (go_big_quiet_step (exact C1.out _))
            go_big_quiet_step (exact C2.out _)
            repeat (go_big_quiet_step (fail))
            refine wpQuiet_nil ?_
            intro w' hw'
            obtain ⟨q, rfl⟩ := hw'
            have M4 := Lib.hid (M3.out.keep q.2)
            have c4q := c4 q
            clear c1 c3 c4
            go_wp2_with fail
            go_ret
            exact ⟨by rw [HR.out]; rfl, M4.out.below⟩
set_option maxRecDepth 100000 in
set_option maxHeartbeats 1000000 in
theorem right_m4 (w : World) (e : EntD) (a : Option Addr) (cap : Nat) (hl : e.name.length ≤ 9223372036854775807) (hk : e.kind = 4) (hm : e.mode < 0) :
    Calls Tryd.prog 12 #[eV e (.slice a e.data.length cap)] w fun r w' => r = .returned (.int .i64 (rightL e)) ∧ Below w.heap.size w w' := by
  have HR := Lib.hid (show rightL e = 2 by unfold rightL; rw [if_pos (by omega)])
  have HK := Lib.hid hk
  clear hk
  have M := Lib.hid (ebox_new w e (.slice a e.data.length cap))
  obtain ⟨pa, pb, hpv⟩ := partedV_tup e.name
  have HC := Lib.hid (fun w => parted_any w e.name hl)
  rw [hpv] at HC
  clear hpv
  unfold eV
  go_enter Tryd.func12, Tryd.ntmps12
  go_wp2_with fail
  revert M
  generalize w.alloc (.cells #[.string (bs e.name), .int .i64 e.kind, .int .i64 e.mode, .string (bs e.link), .slice a e.data.length cap] 31) = w1
  intro M
  refine (HC.out w1).mono ?_
  rintro r w2 ⟨rfl, hb⟩
  have M2 := Lib.hid (M.out.keep hb)
  clear M hb
  have k1 := M2.out.c1; have k2 := M2.out.c2
  rw [HK.out] at k1
  go_wp2_with fail
  go_ret
  exact ⟨by rw [HR.out]; rfl, M2.out.below⟩
set_option maxRecDepth 100000 in
set_option maxHeartbeats 1000000 in
theorem right_n4 (w : World) (e : EntD) (a : Option Addr) (cap : Nat) (hl : e.name.length ≤ 9223372036854775807) (hk : e.kind = 4) (hm : 4095 < e.mode) :
    Calls Tryd.prog 12 #[eV e (.slice a e.data.length cap)] w fun r w' => r = .returned (.int .i64 (rightL e)) ∧ Below w.heap.size w w' := by
  have HR := Lib.hid (show rightL e = 2 by unfold rightL; rw [if_pos (by omega)])
  have HK := Lib.hid hk
  clear hk
  have m0 : ¬ e.mode < 0 := by omega
  have M := Lib.hid (ebox_new w e (.slice a e.data.length cap))
  obtain ⟨pa, pb, hpv⟩ := partedV_tup e.name
  have HC := Lib.hid (fun w => parted_any w e.name hl)
  rw [hpv] at HC
  clear hpv
  unfold eV
  go_enter Tryd.func12, Tryd.ntmps12
  go_wp2_with fail
  revert M
  generalize w.alloc (.cells #[.string (bs e.name), .int .i64 e.kind, .int .i64 e.mode, .string (bs e.link), .slice a e.data.length cap] 31) = w1
  intro M
  refine (HC.out w1).mono ?_
  rintro r w2 ⟨rfl, hb⟩
  have M2 := Lib.hid (M.out.keep hb)
  clear M hb
  have k1 := M2.out.c1; have k2 := M2.out.c2
  rw [HK.out] at k1
  go_wp2_with fail
  go_ret
  exact ⟨by rw [HR.out]; rfl, M2.out.below⟩
set_option maxRecDepth 100000 in
set_option maxHeartbeats 1000000 in
theorem right_ok4 (w : World) (e : EntD) (a : Option Addr) (cap : Nat) (hl : e.name.length ≤ 9223372036854775807) (hk : e.kind = 4) (m0 : 0 ≤ e.mode) (m1 : e.mode ≤ 4095) :
    Calls Tryd.prog 12 #[eV e (.slice a e.data.length cap)] w fun r w' => r = .returned (.int .i64 (rightL e)) ∧ Below w.heap.size w w' := by
  have HK := Lib.hid hk
  have HM := Lib.hid (And.intro m0 m1)
  have M := Lib.hid (ebox_new w e (.slice a e.data.length cap))
  obtain ⟨pa, pb, hpv⟩ := partedV_tup e.name
  have HC := Lib.hid (fun w => parted_any w e.name hl)
  rw [hpv] at HC
  obtain ⟨ok, hok⟩ : ∃ ok, ok = (partedL e.name).isSome := ⟨_, rfl⟩
  rw [← hok] at HC
  have HOK := Lib.hid hok
  clear hok hk
  clear hpv
  unfold eV
  go_enter Tryd.func12, Tryd.ntmps12
  go_wp2_with fail
  revert M
  generalize w.alloc (.cells #[.string (bs e.name), .int .i64 e.kind, .int .i64 e.mode, .string (bs e.link), .slice a e.data.length cap] 31) = w1
  intro M
  refine (HC.out w1).mono ?_
  rintro r w2 ⟨rfl, hb⟩
  have M2 := Lib.hid (M.out.keep hb)
  clear M hb
  have k1 := M2.out.c1; have k2 := M2.out.c2
  rw [HK.out] at k1
  have k0 := M2.out.c0
  have rN := run_spanN
  go_wp2_with fail
  refine (plain_any w2 e.name 255 (by omega)).mono ?_
  rintro r w3 ⟨rfl, hb⟩
  have M3 := Lib.hid (M2.out.keep hb)
  clear M2 hb k0 k1 k2
  have HFST := Lib.hid (show ¬ (e.kind < 1 ∨ 4 < e.kind ∨ e.mode < 0 ∨ 4095 < e.mode) by have h1 := HM.out; have h2 := HK.out; omega)
  clear m0 m1
  cases hp : plainL e.name 255 with
  | false =>
    clear HC
    have HR := Lib.hid (show rightL e = 8 by unfold rightL; rw [if_neg HFST.out, if_pos (.inl hp)])
    clear hp
    go_wp2_with fail
    go_ret
    exact ⟨by rw [HR.out]; rfl, M3.out.below⟩
  | true =>
    have HP := Lib.hid hp
    clear hp HC
    cases ok with
    | false =>
      have HR := Lib.hid (show rightL e = 8 by unfold rightL; rw [if_neg HFST.out, if_pos (.inr (by rw [Option.isNone_iff_eq_none]; simpa using HOK.out.symm))])
      go_wp2_with fail
      go_ret
      exact ⟨by rw [HR.out]; rfl, M3.out.below⟩
    | true =>
      have HSEC := Lib.hid (show ¬ (plainL e.name 255 = false ∨ (partedL e.name).isNone = true) by rw [HP.out]; exact fun q => q.elim (fun h => by cases h) (fun h => by rw [Option.isNone_iff_eq_none] at h; have := HOK.out; rw [h] at this; cases this))
      have c1 : ∀ q : ClT w3, q.w.cell? ⟨w.heap.size, 1, none⟩ = some (.int .i64 4) := cl_cell (by rw [← HK.out]; exact M3.out.c1)
      have c3 : ∀ q : ClT w3, q.w.cell? ⟨w.heap.size, 3, none⟩ = some (.string (bs e.link)) := cl_cell M3.out.c3
      have c4 : ∀ q : ClT w3, q.w.cell? ⟨w.heap.size, 4, none⟩ = some (.slice a e.data.length cap) := cl_cell M3.out.c4
      have hne := cl_some w3
      by_cases hlk : e.link = []
      · have hE : (bs e.link).toList.isEmpty = true := by rw [bs_empty]; simp [hlk]
        have HR := Lib.hid (show rightL e = 3 by unfold rightL; rw [if_neg HFST.out, if_neg HSEC.out, HK.out, if_pos (by simp [hlk])])
        clear hlk
        go_wp2_with fail
        refine wp_region_class (fun q : ClT w3 => q.w) (by kernel_rfl) (by kernel_rfl) (cl_start w3) ?_
        repeat (go_big_quiet_step (fail))
        refine wpQuiet_nil ?_
        intro w' hw'
        obtain ⟨q, rfl⟩ := hw'
        have M4 := Lib.hid (M3.out.keep q.2)
        have c4q := c4 q
        clear c1 c3 c4
        go_wp2_with fail
        go_ret
        exact ⟨by rw [HR.out]; rfl, M4.out.below⟩
      · have hE : (bs e.link).toList.isEmpty = false := by rw [bs_empty]; simp [hlk]
        have C1 : Hid (∀ q : ClT w3, _) := cl_call (W := w3) (f := 26) (args := #[]) (E := .returned (.agg #[.int .i64 157, .int .i64 100])) (fun wx h => link_any wx)
        have C2 : Hid (∀ q : ClT w3, _) := cl_call (W := w3) (f := 25) (args := #[.string (bs e.link), .int .i64 100]) (E := .returned (.bool (plainL e.link 100))) (fun wx h => plain_any wx e.link 100 (by omega))
        cases hpl : plainL e.link 100 with
        | false =>
          rw [hpl] at C2
          have HR := Lib.hid (show rightL e = 3 by unfold rightL; rw [if_neg HFST.out, if_neg HSEC.out, HK.out, if_pos (by simp [hpl])])
          clear hlk hpl
          go_wp2_with fail
          refine wp_region_class (fun q : ClT w3 => q.w) (by kernel_rfl) (by kernel_rfl) (cl_start w3) ?_
          repeat (go_big_quiet_step (exact C1.out _))
          go_big_quiet_step (exact C2.out _)
          repeat (go_big_quiet_step (fail))
          refine wpQuiet_nil ?_
          intro w' hw'
          obtain ⟨q, rfl⟩ := hw'
          have M4 := Lib.hid (M3.out.keep q.2)
          have c4q := c4 q
          clear c1 c3 c4
          go_wp2_with fail
          go_ret
          exact ⟨by rw [HR.out]; rfl, M4.out.below⟩
        | true =>
          rw [hpl] at C2
          by_cases hd : e.data = []
          · have hD : e.data.length = 0 := by rw [hd]; rfl
            have HR := Lib.hid (show rightL e = 0 by unfold rightL; rw [if_neg HFST.out, if_neg HSEC.out, HK.out, if_neg (by simp [hlk, hd, hpl]), if_neg (by rw [hd]; simp)])
            clear hlk hd hpl
            go_wp2_with fail
            refine wp_region_class (fun q : ClT w3 => q.w) (by kernel_rfl) (by kernel_rfl) (cl_start w3) ?_
            repeat (go_big_quiet_step (exact C1.out _))
            go_big_quiet_step (exact C2.out _)
            repeat (go_big_quiet_step (fail))
            refine wpQuiet_nil ?_
            intro w' hw'
            obtain ⟨q, rfl⟩ := hw'
            have M4 := Lib.hid (M3.out.keep q.2)
            have c4q := c4 q
            clear c1 c3 c4
            go_wp2_with fail
            go_ret
            exact ⟨by rw [HR.out]; rfl, M4.out.below⟩
          · have i1 : (0 : Int) < (e.data.length : Int) := by have := List.length_pos_iff.2 hd; omega
            have HR := Lib.hid (show rightL e = 3 by unfold rightL; rw [if_neg HFST.out, if_neg HSEC.out, HK.out, if_pos (by simp [hlk, hd, hpl])])
            clear hlk hd hpl
            go_wp2_with fail
            refine wp_region_class (fun q : ClT w3 => q.w) (by kernel_rfl) (by kernel_rfl) (cl_start w3) ?_
            repeat (go_big_quiet_step (exact C1.out _))
            go_big_quiet_step (exact C2.out _)
            repeat (go_big_quiet_step (fail))
            refine wpQuiet_nil ?_
            intro w' hw'
            obtain ⟨q, rfl⟩ := hw'
            have M4 := Lib.hid (M3.out.keep q.2)
            have c4q := c4 q
            clear c1 c3 c4
            go_wp2_with fail
            go_ret
            exact ⟨by rw [HR.out]; rfl, M4.out.below⟩
theorem right_any (w : World) (e : EntD) (v : Value) (a : Option Addr) (cap : Nat) (hv : v = .slice a e.data.length cap) (hl : e.name.length ≤ 9223372036854775807) :
    Calls Tryd.prog 12 #[eV e v] w fun r w' => r = .returned (.int .i64 (rightL e)) ∧ Below w.heap.size w w' := by
  subst hv
  by_cases h1 : e.kind < 1
  · exact right_k0 w e a cap hl h1
  by_cases h2 : 4 < e.kind
  · exact right_k5 w e a cap hl h2
  by_cases m0 : e.mode < 0
  · have h : e.kind = 1 ∨ e.kind = 2 ∨ e.kind = 3 ∨ e.kind = 4 := by omega
    rcases h with h | h | h | h
    · exact right_m1 w e a cap hl h m0
    · exact right_m2 w e a cap hl h m0
    · exact right_m3 w e a cap hl h m0
    · exact right_m4 w e a cap hl h m0
  by_cases m1 : 4095 < e.mode
  · have h : e.kind = 1 ∨ e.kind = 2 ∨ e.kind = 3 ∨ e.kind = 4 := by omega
    rcases h with h | h | h | h
    · exact right_n1 w e a cap hl h m1
    · exact right_n2 w e a cap hl h m1
    · exact right_n3 w e a cap hl h m1
    · exact right_n4 w e a cap hl h m1
  have h : e.kind = 1 ∨ e.kind = 2 ∨ e.kind = 3 ∨ e.kind = 4 := by omega
  rcases h with h | h | h | h
  · exact right_ok1 w e a cap hl h (by omega) (by omega)
  · exact right_ok2 w e a cap hl h (by omega) (by omega)
  · exact right_ok3 w e a cap hl h (by omega) (by omega)
  · exact right_ok4 w e a cap hl h (by omega) (by omega)
end Go.Proofs.YtikhdbdbdldbaaaDoor
