/- The contract of the reference's UnHex. -/
import Derived.Test.YtkhgfaccmhknjaaUnHex
namespace Go.Proofs.Ytkhgfaccmhknjaa
open Go.RowKit

theorem n8_or (x y : UInt8) : bits BinOp.or .u8 (n8 x) (n8 y) = n8 (x ||| y) := by
  have h1 := x.toNat_lt; have h2 := y.toNat_lt
  have h := bits_nat .u8 8 (by decide) (fun n h0 h1 => wraps_u8 n h0 h1) x.toNat y.toNat h1 h2
  unfold n8
  rw [h.2, UInt8.toNat_or]
theorem n8_shl4 (x : UInt8) : Op.shift .shl .u8 (n8 x) .u64 4 = pure (.int .u8 (n8 (x <<< 4))) := by
  rw [shift_shl _ _ _ _ (by omega) (by simp [IntKind.bits])]
  congr 2
  have : ∀ i : Fin 256, IntKind.u8.wrap (n8 (UInt8.ofNat i.val) * 2 ^ (4 : Int).toNat) = n8 ((UInt8.ofNat i.val) <<< 4) := by decide +kernel
  exact all_u8 (p := fun x => IntKind.u8.wrap (n8 x * 2 ^ (4 : Int).toNat) = n8 (x <<< 4)) this x
def letterP (c : UInt8) : Prop := (48 ≤ n8 c ∧ n8 c ≤ 57 ∧ okc c = true ∧ (n8 c - 48) % 256 = n8 (dv c)) ∨
    (97 ≤ n8 c ∧ n8 c ≤ 102 ∧ ¬ n8 c ≤ 57 ∧ okc c = true ∧ ((n8 c - 97) % 256 + 10) % 256 = n8 (dv c)) ∨
    (¬ (48 ≤ n8 c ∧ n8 c ≤ 57) ∧ ¬ (97 ≤ n8 c ∧ n8 c ≤ 102) ∧ okc c = false)
instance : DecidablePred letterP := fun c => by unfold letterP; infer_instance
theorem letter_all : ∀ i : Fin 256, letterP (UInt8.ofNat i.val) := by decide +kernel
/-- The three kinds of letters. -/
theorem letter (c : UInt8) : letterP c := all_u8 (p := letterP) letter_all c

/-- The hash when k letters are read. -/
def halfAt (t : List UInt8) (k j : Nat) : UInt8 := if 2 * j + 1 < k then pairAt t j else if 2 * j < k then dv (byteAt t (2 * j)) else 0
theorem half_step (t : List UInt8) (k : Nat) : halfAt t (k + 1) (k / 2) = halfAt t k (k / 2) <<< 4 ||| dv (byteAt t k) := by
  have z : (0 : UInt8) <<< 4 = 0 := by decide
  rcases Nat.mod_two_eq_zero_or_one k with h | h
  · obtain ⟨j, rfl⟩ : ∃ j, k = 2 * j := ⟨k / 2, by omega⟩
    have e : 2 * j / 2 = j := by omega
    simp only [e, halfAt]
    rw [if_neg (by omega), if_pos (by omega), if_neg (by omega), if_neg (by omega), z, UInt8.zero_or]
  · obtain ⟨j, rfl⟩ : ∃ j, k = 2 * j + 1 := ⟨k / 2, by omega⟩
    have e : (2 * j + 1) / 2 = j := by omega
    simp only [e, halfAt]
    rw [if_pos (by omega), if_neg (by omega), if_pos (by omega)]
    rfl
theorem half_other (t : List UInt8) (k j : Nat) (h : j ≠ k / 2) : halfAt t (k + 1) j = halfAt t k j := by
  simp only [halfAt]
  by_cases h1 : 2 * j + 1 < k
  · rw [if_pos h1, if_pos (by omega)]
  · by_cases h2 : 2 * j < k
    · omega
    · rw [if_neg h1, if_neg h2, if_neg (by omega), if_neg (by omega)]
theorem half_zero (t : List UInt8) : halfAt t 0 = fun _ => 0 := by funext j; simp [halfAt]
theorem half_end (t : List UInt8) : rowG (halfAt t 64) 32 = rowG (fun j => if j < 32 then pairAt t j else 0) 32 := by
  simp only [rowG]
  refine congrArg List.toArray (List.map_congr_left fun i hi => ?_)
  have : i < 32 := by simpa using hi
  rw [halfAt, if_pos (by omega), if_pos this]
def UrI (w : World) (t : List UInt8) (i : Value) (wr : World) : Prop :=
  ∃ k : Nat, k ≤ 64 ∧ i = .int .i64 k ∧ (∀ j, j < k → okc (byteAt t j) = true) ∧ UnW w wr (halfAt t k)

set_option maxRecDepth 100000 in
set_option maxHeartbeats 2000000 in
theorem unref_any (w : World) (s : ByteArray) :
    Calls Try.prog 22 #[.string s] w fun e w' => e = .returned (.tuple #[.agg (aB (unhex s.data.toList)), .int .i64 (unhexE s.data.toList)]) ∧ Below w.heap.size w w' := by
  have hlen : s.data.toList.length = s.size := by rw [Array.length_toList]; rfl
  by_cases h64 : s.size = 64
  · have hq : ((s.size : Int) != 64) = false := by simp [h64]
    have hi := run_char s
    generalize ht : s.data.toList = t at *
    have H64 := Lib.hid h64; have HLEN := Lib.hid (hlen.trans h64); have HT := Lib.hid ht
    have HI := Lib.hid hi
    clear h64 hlen ht hi
    go_enter Try.func22, Try.ntmps22
    go_wp2_with fail
    rw [litB32]
    have M0 := Lib.hid (un_start w)
    revert M0
    generalize (w.alloc (.cells (rowG (fun _ => 0) 32) 26)).alloc (.cells (rowG (fun _ => 0) 32) 26) = w1
    intro M0
    rw [← half_zero t] at M0
    go_loopw [5, 6] (fun i _ wr => UrI w t i wr) (fun i _ _ => 64 - (intOf i).toNat)
    case atStart => exact ⟨0, by omega, rfl, fun j hj => absurd hj (by omega), M0.out⟩
    case round =>
      obtain ⟨k, hk, rfl, hok, M⟩ := hrel
      have HM := Lib.hid M; have HOK := Lib.hid hok
      clear M hok
      by_cases hlt : k < 64
      · have i1 := fun w => HI.out k (by have := H64.out; omega) w (k : Int) rfl
        have HBAD : Hid (okc (byteAt t k) = false → goodHex t = false) := fun h => bad_at (by rw [HLEN.out]; omega) h
        have HNX : Hid (okc (byteAt t k) = true → ∀ j, j < k + 1 → okc (byteAt t j) = true) := by
          intro h1 j hj
          by_cases e1 : j = k
          · rw [e1]; exact h1
          · exact HOK.out j (by omega)
        have hj : k / 2 < 32 := by omega
        have hst := half_step t k
        have M3 := fun z (hz : z = halfAt t (k + 1) (k / 2)) => hz ▸ HM.out.byte hj (halfAt t (k + 1)) (half_other t k)
        have ho := rowG_cell HM.out.box hj
        have hfz : wr.frozen? ⟨w.heap.size + 1, k / 2, none⟩ = false := by simp [World.frozen?, HM.out.box]
        have hor := n8_or (halfAt t k (k / 2) <<< 4) (dv (byteAt t k))
        rw [← hst] at hor
        have hsh := n8_shl4 (halfAt t k (k / 2))
        have M3 := M3 _ rfl
        have e1 : (k : Int) / 2 = (k / 2 : Nat) := by omega
        have wk1 : IntKind.i64.wrap ((k / 2 : Nat) : Int) = (k / 2 : Nat) := IntWalk.i64_in _ (by omega)
        have hl := letter (byteAt t k)
        unfold letterP at hl
        generalize halfAt t (k + 1) (k / 2) = z at *
        generalize halfAt t k (k / 2) = zo at *
        generalize zo <<< 4 = zs at *
        generalize dv (byteAt t k) = d at *
        generalize byteAt t k = c at *
        generalize k / 2 = j at *
        have HM3 := Lib.hid M3
        have hoR := HM.out.res
        have HBL := Lib.hid HM.out.below
        clear M3 HM hst hq
        rcases hl with ⟨l1, l2, l3, l4⟩ | ⟨l1, l2, l3, l4, l5⟩ | ⟨l1, l2, l3⟩
        · have HOK2 := Lib.hid (HNX.out l3)
          have l5 : IntKind.u8.wrap (n8 c - 48) = n8 d := by rw [IntKind.wrap_u8, l4]
          clear HNX HBAD l3
          go_wp2
          exact ⟨⟨k + 1, by omega, by go_num, HOK2.out, HM3.out⟩, by simp [intOf]; omega⟩
        · have HOK2 := Lib.hid (HNX.out l4)
          have l6 : IntKind.u8.wrap ((n8 c - 97) % 256 + 10) = n8 d := by rw [IntKind.wrap_u8, l5]
          have l7 : IntKind.u8.wrap (n8 c - 97) = (n8 c - 97) % 256 := by rw [IntKind.wrap_u8]
          have l8 : 48 ≤ n8 c := by omega
          clear HNX HBAD l4
          go_wp2
          exact ⟨⟨k + 1, by omega, by go_num, HOK2.out, HM3.out⟩, by simp [intOf]; omega⟩
        · have HG := Lib.hid (HBAD.out l3)
          clear HNX HBAD l3 HM3 hor hsh ho
          by_cases h1 : 48 ≤ n8 c
          · have h2 : ¬ n8 c ≤ 57 := fun h => l1 ⟨h1, h⟩
            by_cases h3 : 97 ≤ n8 c
            · have h4 : ¬ n8 c ≤ 102 := fun h => l2 ⟨h3, h⟩
              clear l1 l2
              go_wp2_with (refine wpList_store_row rfl _ _ _ rfl w.heap.size _ rfl rfl 26 (rowG (fun _ => 0) 32) hoR (by kernel_rfl) (by kernel_rfl) (by kernel_rfl) ?_)
              rw [litB32]
              exact bodyPost_ret (results_row_tmp rfl _ _ w.heap.size 26 (rowG (fun _ => 0) 32) (0, 0) (.int .i64 3) rfl (setRow_heap _ _ _ _ _ _ hoR) rfl (rowG_info _)) rfl ⟨congrArg Ending.returned (bad_res HG.out), below_setRow HBL.out (Nat.le_refl _) _⟩
            · clear l1 l2
              go_wp2_with (refine wpList_store_row rfl _ _ _ rfl w.heap.size _ rfl rfl 26 (rowG (fun _ => 0) 32) hoR (by kernel_rfl) (by kernel_rfl) (by kernel_rfl) ?_)
              rw [litB32]
              exact bodyPost_ret (results_row_tmp rfl _ _ w.heap.size 26 (rowG (fun _ => 0) 32) (0, 0) (.int .i64 3) rfl (setRow_heap _ _ _ _ _ _ hoR) rfl (rowG_info _)) rfl ⟨congrArg Ending.returned (bad_res HG.out), below_setRow HBL.out (Nat.le_refl _) _⟩
          · have h3 : ¬ 97 ≤ n8 c := by omega
            clear l1 l2
            go_wp2_with (refine wpList_store_row rfl _ _ _ rfl w.heap.size _ rfl rfl 26 (rowG (fun _ => 0) 32) hoR (by kernel_rfl) (by kernel_rfl) (by kernel_rfl) ?_)
            rw [litB32]
            exact bodyPost_ret (results_row_tmp rfl _ _ w.heap.size 26 (rowG (fun _ => 0) 32) (0, 0) (.int .i64 3) rfl (setRow_heap _ _ _ _ _ _ hoR) rfl (rowG_info _)) rfl ⟨congrArg Ending.returned (bad_res HG.out), below_setRow HBL.out (Nat.le_refl _) _⟩
      · obtain rfl : k = 64 := by omega
        rw [show ((64 : Nat) : Int) = (64 : Int) from rfl]
        have HG := Lib.hid (good_all HLEN.out (fun j hj => HOK.out j (by omega)))
        have ho := HM.out.res
        have hb := HM.out.box
        have HBL := Lib.hid HM.out.below
        rw [half_end] at hb
        clear HM HOK hlt hk
        go_wp2_with (first | refine wpList_load_row rfl _ _ rfl (w.heap.size + 1) rfl 26 (rowG (fun j => if j < 32 then pairAt t j else 0) 32) (0, 0) _ hb Try.underlying26 rfl (rowG_info _) ?_ | refine wpList_store_row rfl _ _ _ rfl w.heap.size (rowG (fun j => if j < 32 then pairAt t j else 0) 32) rfl rfl 26 (rowG (fun _ => 0) 32) ho (rowG_info _) (by rw [rowG_size, rowG_size]) (rowG_one _ _) ?_)
        exact bodyPost_ret (results_row_tmp rfl _ _ w.heap.size 26 (rowG (fun j => if j < 32 then pairAt t j else 0) 32) (0, 0) (.int .i64 0) rfl (setRow_heap _ _ _ _ _ _ ho) rfl (rowG_info _)) rfl ⟨congrArg Ending.returned (good_res HG.out), below_setRow HBL.out (Nat.le_refl _) _⟩
  · have hq : ((s.size : Int) != 64) = true := by simp; omega
    have hg : goodHex s.data.toList = false := by simp only [goodHex, hlen, beq_eq_false_iff_ne.2 h64, Bool.false_and]
    have HG := Lib.hid hg
    clear hg hlen h64
    go_enter Try.func22, Try.ntmps22
    iterate 10 go_step
    rw [litB32]
    have hoR : (w.alloc (.cells (rowG (fun _ => 0) 32) 26)).heap[w.heap.size]? = some (.cells (rowG (fun _ => 0) 32) 26 (0, 0)) := heap_alloc_new w _
    have HBL := Lib.hid ((Below.refl w.heap.size w).alloc (Nat.le_refl _) (.cells (rowG (fun _ => 0) 32) 26))
    revert hoR HBL
    generalize w.alloc (.cells (rowG (fun _ => 0) 32) 26) = w1
    intro hoR HBL
    go_wp2_with (refine wpList_store_row rfl _ _ _ rfl w.heap.size _ rfl rfl 26 (rowG (fun _ => 0) 32) hoR (by kernel_rfl) (by kernel_rfl) (by kernel_rfl) ?_)
    rw [litB32]
    exact bodyPost_ret (results_row_tmp rfl _ _ w.heap.size 26 (rowG (fun _ => 0) 32) (0, 0) (.int .i64 3) rfl (setRow_heap _ _ _ _ _ _ hoR) rfl (rowG_info _)) rfl ⟨congrArg Ending.returned (bad_res HG.out), below_setRow HBL.out (Nat.le_refl _) _⟩
end Go.Proofs.Ytkhgfaccmhknjaa
