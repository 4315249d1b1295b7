/- The contract of sha's mix: a block of 64 bytes, at whatever hash. (Laid by wip/gen/gen_mix.py.) -/
import Derived.Test.YtlkieepfjhiflaaMix
namespace Go.Proofs.Ytlkieepfjhiflaa
open Go.RowKit

theorem rot_any (x : UInt32) (k : Int) (n m : Nat) (hk : k = -(n : Int)) (h0 : 0 < n) (h1 : 0 < m) (hm : n + m = 32) (w : World) :
    Calls Try.prog 55 #[.int .u32 (n32 x), .int .i64 k] w fun e w' => e = .returned (.int .u32 (n32 (rotr x n))) ∧ w' = w := by
  subst hk
  exact (rot_go x n m h0 h1 hm w).mono fun e w' ⟨h, h'⟩ => ⟨h, h'.symm⟩

def MixI (w : World) (s : St) (l : List UInt8) (i : Value) (wr : World) : Prop := ∃ k : Nat, k ≤ 64 ∧ i = .int .i64 k ∧ MixW w wr 3 s.fn (fun i => if i < k then wOf l i else 0)
def MixJ (w : World) (s t : St) (l : List UInt8) (i : Value) (wr : World) : Prop := ∃ k : Nat, k ≤ 8 ∧ i = .int .i64 k ∧ MixV w wr (fun i => if i < k then s.fn i + t.fn i else s.fn i) (wOf l) t
def MixR (w : World) (s : St) (l : List UInt8) (i : Value) (wr : World) : Prop := ∃ k : Nat, 1 ≤ k ∧ k < 64 ∧ i = .int .i64 k ∧ MixV w wr s.fn (wOf l) (rounds s l k)

theorem lit8 : (#[Value.int IntKind.u32 0, Value.int IntKind.u32 0, Value.int IntKind.u32 0, Value.int IntKind.u32 0, Value.int IntKind.u32 0, Value.int IntKind.u32 0, Value.int IntKind.u32 0, Value.int IntKind.u32 0] : Array Value) = rowF (fun _ => 0) 8 := by kernel_rfl
theorem lit64 : (#[Value.int IntKind.u32 0, Value.int IntKind.u32 0, Value.int IntKind.u32 0, Value.int IntKind.u32 0, Value.int IntKind.u32 0, Value.int IntKind.u32 0, Value.int IntKind.u32 0, Value.int IntKind.u32 0, Value.int IntKind.u32 0, Value.int IntKind.u32 0, Value.int IntKind.u32 0, Value.int IntKind.u32 0, Value.int IntKind.u32 0, Value.int IntKind.u32 0, Value.int IntKind.u32 0, Value.int IntKind.u32 0, Value.int IntKind.u32 0, Value.int IntKind.u32 0, Value.int IntKind.u32 0, Value.int IntKind.u32 0, Value.int IntKind.u32 0, Value.int IntKind.u32 0, Value.int IntKind.u32 0, Value.int IntKind.u32 0, Value.int IntKind.u32 0, Value.int IntKind.u32 0, Value.int IntKind.u32 0, Value.int IntKind.u32 0, Value.int IntKind.u32 0, Value.int IntKind.u32 0, Value.int IntKind.u32 0, Value.int IntKind.u32 0, Value.int IntKind.u32 0, Value.int IntKind.u32 0, Value.int IntKind.u32 0, Value.int IntKind.u32 0, Value.int IntKind.u32 0, Value.int IntKind.u32 0, Value.int IntKind.u32 0, Value.int IntKind.u32 0, Value.int IntKind.u32 0, Value.int IntKind.u32 0, Value.int IntKind.u32 0, Value.int IntKind.u32 0, Value.int IntKind.u32 0, Value.int IntKind.u32 0, Value.int IntKind.u32 0, Value.int IntKind.u32 0, Value.int IntKind.u32 0, Value.int IntKind.u32 0, Value.int IntKind.u32 0, Value.int IntKind.u32 0, Value.int IntKind.u32 0, Value.int IntKind.u32 0, Value.int IntKind.u32 0, Value.int IntKind.u32 0, Value.int IntKind.u32 0, Value.int IntKind.u32 0, Value.int IntKind.u32 0, Value.int IntKind.u32 0, Value.int IntKind.u32 0, Value.int IntKind.u32 0, Value.int IntKind.u32 0, Value.int IntKind.u32 0] : Array Value) = rowF (fun _ => 0) 64 := by kernel_rfl
theorem St.one (s : St) : s.cells.all (·.oneCell') = true := rowF_one s.fn 8
theorem rows_fn (s : St) : rowF s.fn 8 = s.cells := rfl
theorem mix_sched {w wr : World} {m : Nat} {p : Nat → UInt32} {l : List UInt8} (M : MixW w wr m p (fun i => if i < 64 then wOf l i else 0)) : MixW w wr m p (wOf l) := by
  refine ⟨M.below, M.size, M.hbox, M.out, ?_⟩
  rw [M.row]
  have : rowF (fun i => if i < 64 then wOf l i else 0) 64 = rowF (wOf l) 64 :=
    congrArg List.toArray (List.map_congr_left fun i hi => by simp [List.mem_range.1 hi])
  rw [this]
theorem mix_new {w wr : World} {p f : Nat → UInt32} {cs : Array Value} (M : MixW w wr 3 p f) : (wr.alloc (.cells cs 84)).heap[w.heap.size + 3]? = some (.cells cs 84 (0, 0)) := by
  rw [← M.size]; exact heap_alloc_new _ _
theorem mix_begin {w wr : World} {p f : Nat → UInt32} {cs : Array Value} (M : MixW w wr 3 p f) (s : St) : MixV w ((wr.alloc (.cells cs 84)).setRow (w.heap.size + 3) s.cells) p f s := by
  have h1 := setRow_heap (wr.alloc (.cells cs 84)) (w.heap.size + 3) cs s.cells _ _ (mix_new M)
  refine ⟨M.keep ?_ ?_, h1⟩
  · exact below_setRow ((Below.refl _ _).alloc (by rw [M.size]; omega) _) (by omega) _
  · simp [World.setRow, M.size]
theorem St.src {w : World} {g : Nat} {t : TypeId} {s : St} (h : w.heap[g]? = some (.cells s.cells t (0, 0))) : ∀ (j : Nat) (v : Value), [Value.int .u32 (n32 s.a), .int .u32 (n32 s.b), .int .u32 (n32 s.c), .int .u32 (n32 s.d), .int .u32 (n32 s.e), .int .u32 (n32 s.f), .int .u32 (n32 s.g)][j]? = some v → w.cell? ((⟨g, 0, none⟩ : Addr).add j) = some v := by
  intro j v hj
  have hadd : (⟨g, 0, none⟩ : Addr).add j = ⟨g, j, none⟩ := by unfold Addr.add; split <;> simp_all
  rw [hadd, cell_of_row w g j _ _ _ h]
  match j, hj with
  | 0, hj | 1, hj | 2, hj | 3, hj | 4, hj | 5, hj | 6, hj => exact hj
theorem St.ones (a b c d e f g : UInt32) : ∀ v ∈ [Value.int .u32 (n32 a), .int .u32 (n32 b), .int .u32 (n32 c), .int .u32 (n32 d), .int .u32 (n32 e), .int .u32 (n32 f), .int .u32 (n32 g)], v.oneCell' = true := by
  intro v hv
  simp only [List.mem_cons, List.not_mem_nil, or_false] at hv
  rcases hv with rfl | rfl | rfl | rfl | rfl | rfl | rfl <;> rfl
/-- What a jump's frame is: its own slots, read off. -/
theorem jump_at (R : Value → World → Prop) (n : Nat) (a : Act) (w : World) (hR : R (a.tmps.getD n undef) w) {F : (Nat → Value) → Act} (h : a = F (fun i => a.tmps.getD i undef)) : ∃ u : Nat → Value, R (u n) w ∧ a = F u := ⟨_, hR, h⟩
theorem MixV.stepH {w wr : World} {s r : St} {f : Nat → UInt32} {k : Nat} (M : MixV w wr (fun i => if i < k then s.fn i + r.fn i else s.fn i) f r) (n : Nat) (hk : k < 8) :
    MixV w ((wr.drewN n).setCell ⟨w.heap.size, k, none⟩ (.int .u32 (n32 (s.fn k + r.fn k)))) (fun i => if i < k + 1 then s.fn i + r.fn i else s.fn i) f r := by
  have h := (M.base.drew n).stepH hk (fun i => if i < k + 1 then s.fn i + r.fn i else s.fn i) (fun j hj => by
    by_cases h1 : j < k
    · simp [h1, show j < k + 1 by omega]
    · simp [h1, show ¬ j < k + 1 by omega])
  simp only [if_pos (Nat.lt_succ_self k)] at h
  refine ⟨h, ?_⟩
  rw [heap_setCell_other _ _ _ _ (by show w.heap.size + 3 ≠ w.heap.size; omega)]
  exact M.vrow
theorem mix_done {w wr : World} {s r : St} {f : Nat → UInt32} (M : MixV w wr (fun i => if i < 8 then s.fn i + r.fn i else s.fn i) f r) : wr.heap[w.heap.size]? = some (.cells (s.plus r).cells 84 (0, 0)) := by
  rw [M.base.hbox]; rfl
theorem mix_start (w : World) (s : St) (l : List UInt8) : MixW w (((w.alloc (.cells s.cells 84)).alloc (.cells (rowF (fun _ => 0) 8) 84)).alloc (.cells (rowF (fun _ => 0) 64) 115)) 3 s.fn (fun i => if i < 0 then wOf l i else 0) := by
  have h0 : (fun i => if i < 0 then wOf l i else 0) = (fun _ => (0 : UInt32)) := by funext i; simp
  rw [h0]
  refine ⟨(((Below.refl _ _).alloc (Nat.le_refl _) _).alloc (by simp) _).alloc (by simp; omega) _, by simp, ?_, ?_, ?_⟩
  · rw [Below.heap_alloc _ _ _ (by simp; omega), heap_alloc2_old, rows_fn]
  · rw [Below.heap_alloc _ _ _ (by simp), heap_alloc2_new]
  · have e : w.heap.size + 1 + 1 = ((w.alloc (.cells s.cells 84)).alloc (.cells (rowF (fun _ => 0) 8) 84)).heap.size := by simp
    rw [e, heap_alloc_new]

set_option maxRecDepth 100000 in
set_option maxHeartbeats 4000000 in
theorem mix_any (w : World) (s : St) (kb : Nat) (v : Value) (l : List UInt8) (hv : RdB w v l) (h64 : 64 ≤ l.length) (hl : l.length ≤ 140737488355328)
   (hk : w.heap[kb]? = some (.cells (rowF kOf 64) 115 (0, 0))) :
    Calls Try.prog 38 #[.agg s.cells, .pointer (some ⟨kb, 0, none⟩), v] w fun e w' => e = .returned (.agg (mixOf s l).cells) ∧ Below w.heap.size w w' := by
  obtain ⟨a, cap, rfl, hc⟩ := hv.open
  obtain ⟨b, off, rfl, _⟩ := hc 0 (by omega)
  have hb : ∀ i, i < 64 → w.cell? ⟨b, off + i, none⟩ = some (.int .u8 (n8 (byteAt l i))) := by
    intro i hi
    obtain ⟨b', off', ha, hcell⟩ := hc i (by omega)
    cases ha
    rw [hcell]
    simp [byteAt, show i < l.length by omega]
  have HB := Lib.hid hb; clear hb hc hv
  have HK := Lib.hid hk; clear hk
  go_enter Try.func38, Try.ntmps38
  go_wp2
  refine wp_scope_jumps 0 (fun a' w' => ∃ u : Nat → Value, MixR w s l (u 12) w' ∧ a' = { tmps := #[.agg s.cells, .pointer (some ⟨kb, 0, none⟩), .slice (some ⟨b, off, none⟩) l.length cap, .pointer (some ⟨w.heap.size, 0, none⟩), undef, undef, .pointer (some ⟨w.heap.size + 1, 0, none⟩), .pointer (some ⟨w.heap.size + 1 + 1, 0, none⟩), u 8, u 9, u 10, .pointer (some ⟨w.heap.size + 3, 0, none⟩), u 12, u 13, u 14, u 15, u 16, u 17, u 18, u 19, u 20, u 21, u 22, u 23, u 24, u 25, u 26, u 27, u 28, u 29, u 30, u 31, u 32, u 33, u 34, u 35, u 36, u 37, u 38, u 39, u 40, u 41, u 42, u 43, u 44, u 45, u 46, u 47, u 48, u 49, u 50, u 51, u 52, u 53, u 54, u 55, u 56, u 57, u 58, u 59, u 60, u 61, u 62, u 63, u 64, u 65, u 66, u 67, u 68, u 69, u 70, u 71, u 72, u 73, u 74, u 75, u 76, u 77, u 78, u 79, u 80, u 81, u 82, u 83, u 84, u 85, u 86, u 87, u 88, u 89, u 90, u 91, u 92, u 93, u 94, u 95, u 96, u 97, u 98, u 99, u 100, u 101, u 102, u 103, u 104, u 105, u 106, u 107, u 108, u 109, u 110, u 111, u 112, u 113, u 114, u 115, u 116, u 117, u 118, u 119, u 120, u 121, u 122, u 123, u 124, u 125, u 126, u 127, u 128, u 129, u 130, u 131, u 132, u 133, u 134, u 135, u 136, u 137, u 138, u 139, u 140, u 141, u 142, u 143, u 144, u 145, u 146, u 147, u 148, u 149, u 150, u 151, u 152, u 153, u 154, u 155, u 156, u 157, u 158, u 159, u 160, u 161, u 162, u 163, u 164, u 165, u 166, u 167, u 168, u 169, u 170, u 171, u 172, u 173, u 174, u 175, u 176, u 177, u 178, u 179, u 180, u 181, u 182, u 183, u 184, u 185, u 186, u 187, u 188, u 189, u 190, u 191, u 192, u 193, u 194, u 195, u 196, u 197, u 198, u 199, u 200, u 201], defers := [] }) (fun a' _ => 64 - (intOf (a'.tmps.getD 12 undef)).toNat) rfl ?_ ?_
  · go_wp2
    go_loopw [18, 8, 9, 10] (fun i _ _ _ wr => MixI w s l i wr) (fun i _ _ _ _ => 64 - (intOf i).toNat)
    case atStart =>
      refine ⟨0, by omega, rfl, ?_⟩
      rw [lit8, lit64]; exact mix_start w s l
    case round =>
      obtain ⟨k, hk, rfl, M⟩ := hrel
      have HM := Lib.hid M
      clear M
      by_cases hlt : k < 64
      · by_cases h16 : k < 16
        · have g0 := HB.out (4 * k) (by omega)
          have g1 := HB.out (4 * k + 1) (by omega)
          have g2 := HB.out (4 * k + 2) (by omega)
          have g3 := HB.out (4 * k + 3) (by omega)
          rw [← HM.out.below.cell (block_lt_of_cell g0)] at g0
          rw [← HM.out.below.cell (block_lt_of_cell g1)] at g1
          rw [← HM.out.below.cell (block_lt_of_cell g2)] at g2
          rw [← HM.out.below.cell (block_lt_of_cell g3)] at g3
          go_wp2
          have w0 : IntKind.i64.wrap (4 * (k : Int)) = 4 * k := IntWalk.i64_in _ (by omega)
          have w1 : IntKind.i64.wrap (4 * (k : Int) + 1) = 4 * k + 1 := IntWalk.i64_in _ (by omega)
          have w2 : IntKind.i64.wrap (4 * (k : Int) + 2) = 4 * k + 2 := IntWalk.i64_in _ (by omega)
          have w3 : IntKind.i64.wrap (4 * (k : Int) + 3) = 4 * k + 3 := IntWalk.i64_in _ (by omega)
          have t0 : (4 * (k : Int)).toNat = 4 * k := by omega
          have t1 : (4 * (k : Int) + 1).toNat = 4 * k + 1 := by omega
          have t2 : (4 * (k : Int) + 2).toNat = 4 * k + 2 := by omega
          have t3 : (4 * (k : Int) + 3).toNat = 4 * k + 3 := by omega
          have p0 : 0 ≤ 4 * (k : Int) := by omega
          have p1 : 0 ≤ 4 * (k : Int) + 1 := by omega
          have p2 : 0 ≤ 4 * (k : Int) + 2 := by omega
          have p3 : 0 ≤ 4 * (k : Int) + 3 := by omega
          have q0 : 4 * (k : Int) < l.length := by omega
          have q1 : 4 * (k : Int) + 1 < l.length := by omega
          have q2 : 4 * (k : Int) + 2 < l.length := by omega
          have q3 : 4 * (k : Int) + 3 < l.length := by omega
          have s24 : ∀ x : UInt32, Op.shift .shl .u32 (n32 x) .u64 24 = pure (.int .u32 (n32 (x <<< 24))) := fun x => shl_u32 x 24 (by omega) _ _ rfl
          have s16 : ∀ x : UInt32, Op.shift .shl .u32 (n32 x) .u64 16 = pure (.int .u32 (n32 (x <<< 16))) := fun x => shl_u32 x 16 (by omega) _ _ rfl
          have s8 : ∀ x : UInt32, Op.shift .shl .u32 (n32 x) .u64 8 = pure (.int .u32 (n32 (x <<< 8))) := fun x => shl_u32 x 8 (by omega) _ _ rfl
          refine wp_region_qtail_lit 35 (by kernel_rfl) (by kernel_rfl) ?_
          simp only [List.take_succ_cons, List.take_zero, List.drop_succ_cons, List.drop_zero]
          repeat (quiet_step (fail))
          refine wpQuiet_nil ?_
          intro w' hw'
          obtain ⟨nq, rfl⟩ := hw'
          as_aux_lemma =>
            have fr := HM.out.free k
            have ce := HM.out.cell hlt
            have hx := (HM.out.drew nq).step hlt (fun i => if i < k + 1 then wOf l i else 0) (fun j hj => by
              by_cases h1 : j < k
              · simp [h1, show j < k + 1 by omega]
              · simp [h1, show ¬ j < k + 1 by omega])
            simp only [if_pos (Nat.lt_succ_self k), wOf_lo l k h16] at hx
            have HX := Lib.hid hx
            clear hx
            clear w0 w1 w2 w3 t0 t1 t2 t3 p0 p1 p2 p3 q0 q1 q2 q3 g0 g1 g2 g3
            go_wp2
            go_roundw
            case rel => first | exact ⟨k + 1, by omega, by go_num, HX.out⟩ | ((repeat apply Exists.intro); exact ⟨⟨k + 1, by omega, by go_num, HX.out⟩, rfl⟩)
            case measure => simp [intOf]; omega
        · have c15 := HM.out.cell (show k - 15 < 64 by omega)
          have c2 := HM.out.cell (show k - 2 < 64 by omega)
          have c16 := HM.out.cell (show k - 16 < 64 by omega)
          have c7 := HM.out.cell (show k - 7 < 64 by omega)
          rw [if_pos (by omega)] at c15 c2 c16 c7
          go_wp2
          have w15 : IntKind.i64.wrap ((k : Int) - 15) = k - 15 := IntWalk.i64_in _ (by omega)
          have w2 : IntKind.i64.wrap ((k : Int) - 2) = k - 2 := IntWalk.i64_in _ (by omega)
          have w16 : IntKind.i64.wrap ((k : Int) - 16) = k - 16 := IntWalk.i64_in _ (by omega)
          have w7 : IntKind.i64.wrap ((k : Int) - 7) = k - 7 := IntWalk.i64_in _ (by omega)
          have t15 : ((k : Int) - 15).toNat = k - 15 := by omega
          have t2 : ((k : Int) - 2).toNat = k - 2 := by omega
          have t16 : ((k : Int) - 16).toNat = k - 16 := by omega
          have t7 : ((k : Int) - 7).toNat = k - 7 := by omega
          have l15 : (15 : Int) ≤ k := by omega
          have l2 : (2 : Int) ≤ k := by omega
          have l16 : (16 : Int) ≤ k := by omega
          have l7 : (7 : Int) ≤ k := by omega
          have q15 : (k : Int) - 15 < 64 := by omega
          have q2 : (k : Int) - 2 < 64 := by omega
          have q16 : (k : Int) - 16 < 64 := by omega
          have q7 : (k : Int) - 7 < 64 := by omega
          have s3 : ∀ x : UInt32, Op.shift .shr .u32 (n32 x) .u64 3 = pure (.int .u32 (n32 (x >>> 3))) := fun x => shr_u32 x 3 (by omega) _ _ rfl
          have s10 : ∀ x : UInt32, Op.shift .shr .u32 (n32 x) .u64 10 = pure (.int .u32 (n32 (x >>> 10))) := fun x => shr_u32 x 10 (by omega) _ _ rfl
          go_quiet ((go_at_call 55; first | exact Calls.quiet_of_same (rot_any _ _ 7 25 (by decide) (by decide) (by decide) (by decide) _) | exact Calls.quiet_of_same (rot_any _ _ 18 14 (by decide) (by decide) (by decide) (by decide) _)))
          as_aux_lemma =>
            have M2 := Lib.hid (HM.out.drew nq)
            clear HM c15 c2 c16 c7
            revert M2; generalize wr.drewN nq = wr; intro HM
            have c2 := HM.out.cell (show k - 2 < 64 by omega)
            rw [if_pos (by omega)] at c2
            go_wp2
            go_quiet ((go_at_call 55; first | exact Calls.quiet_of_same (rot_any _ _ 17 15 (by decide) (by decide) (by decide) (by decide) _) | exact Calls.quiet_of_same (rot_any _ _ 19 13 (by decide) (by decide) (by decide) (by decide) _)))
            as_aux_lemma =>
              have M2 := Lib.hid (HM.out.drew nq)
              clear HM c2
              revert M2; generalize wr.drewN nq = wr; intro HM
              have c16 := HM.out.cell (show k - 16 < 64 by omega)
              have c7 := HM.out.cell (show k - 7 < 64 by omega)
              rw [if_pos (by omega)] at c16 c7
              go_wp2
              refine wp_region_qtail_lit 15 (by kernel_rfl) (by kernel_rfl) ?_
              simp only [List.take_succ_cons, List.take_zero, List.drop_succ_cons, List.drop_zero]
              repeat (quiet_step (fail))
              refine wpQuiet_nil ?_
              intro w' hw'
              obtain ⟨nz, rfl⟩ := hw'
              as_aux_lemma =>

                have fr := HM.out.free k
                have ce := HM.out.cell hlt
                have hx := (HM.out.drew nz).step hlt (fun i => if i < k + 1 then wOf l i else 0) (fun j hj => by
                  by_cases h1 : j < k
                  · simp [h1, show j < k + 1 by omega]
                  · simp [h1, show ¬ j < k + 1 by omega])
                simp only [if_pos (Nat.lt_succ_self k)] at hx
                rw [wOf_hi l k (by omega)] at hx
                have HX := Lib.hid hx
                clear hx
                clear w15 w2 w16 w7 t15 t2 t16 t7 l15 l2 l16 l7 q15 q2 q16 q7 c16 c7
                go_wp2
                go_roundw
                case rel => first | exact ⟨k + 1, by omega, by go_num, HX.out⟩ | ((repeat apply Exists.intro); exact ⟨⟨k + 1, by omega, by go_num, HX.out⟩, rfl⟩)
                case measure => simp [intOf]; omega
      · obtain rfl : k = 64 := by omega
        have hf : MixW w wr 3 s.fn (wOf l) := mix_sched HM.out
        have HM := Lib.hid hf
        clear hf
        have hbox := HM.out.hbox
        have hsz := HM.out.size
        rw [St.row] at hbox
        go_wp2_with (first | refine wpList_load_row rfl _ _ rfl w.heap.size rfl 84 s.cells (0, 0) _ hbox Try.underlying84 rfl (by kernel_rfl) ?_ | refine wpList_store_row rfl _ _ _ rfl (w.heap.size + 3) s.cells rfl rfl 84 _ (mix_new HM.out) (by kernel_rfl) rfl (St.one s) ?_)
        have MV := Lib.hid (mix_begin (cs := #[Value.int IntKind.u32 0, Value.int IntKind.u32 0, Value.int IntKind.u32 0, Value.int IntKind.u32 0, Value.int IntKind.u32 0, Value.int IntKind.u32 0, Value.int IntKind.u32 0, Value.int IntKind.u32 0]) HM.out s)
        clear HM hbox hsz hlt hk
        revert MV
        generalize (wr.alloc (Obj.cells #[Value.int IntKind.u32 0, Value.int IntKind.u32 0, Value.int IntKind.u32 0, Value.int IntKind.u32 0, Value.int IntKind.u32 0, Value.int IntKind.u32 0, Value.int IntKind.u32 0, Value.int IntKind.u32 0] 84)).setRow (w.heap.size + 3) s.cells = wv
        intro HM
        go_step3
        go_wp2

        have C := fun j => cell_of_row wv _ j _ _ _ HM.out.vrow
        have c0 : wv.cell? ⟨w.heap.size + 3, 0, none⟩ = some (.int .u32 (n32 s.a)) := C 0
        have c1 : wv.cell? ⟨w.heap.size + 3, 1, none⟩ = some (.int .u32 (n32 s.b)) := C 1
        have c2 : wv.cell? ⟨w.heap.size + 3, 2, none⟩ = some (.int .u32 (n32 s.c)) := C 2
        have c3 : wv.cell? ⟨w.heap.size + 3, 3, none⟩ = some (.int .u32 (n32 s.d)) := C 3
        have c4 : wv.cell? ⟨w.heap.size + 3, 4, none⟩ = some (.int .u32 (n32 s.e)) := C 4
        have c5 : wv.cell? ⟨w.heap.size + 3, 5, none⟩ = some (.int .u32 (n32 s.f)) := C 5
        have c6 : wv.cell? ⟨w.heap.size + 3, 6, none⟩ = some (.int .u32 (n32 s.g)) := C 6
        have c7 : wv.cell? ⟨w.heap.size + 3, 7, none⟩ = some (.int .u32 (n32 s.h)) := C 7
        clear C
        go_quiet ((go_at_call 55; first | exact Calls.quiet_of_same (rot_any _ _ 6 26 (by decide) (by decide) (by decide) (by decide) _) | exact Calls.quiet_of_same (rot_any _ _ 11 21 (by decide) (by decide) (by decide) (by decide) _) | exact Calls.quiet_of_same (rot_any _ _ 25 7 (by decide) (by decide) (by decide) (by decide) _)))
        as_aux_lemma =>
          have M2 := Lib.hid (HM.out.drew nq)
          clear HM c0 c1 c2 c3 c4 c5 c6 c7
          revert M2; generalize wv.drewN nq = wv; intro HM

          have C := fun j => cell_of_row wv _ j _ _ _ HM.out.vrow
          have c0 : wv.cell? ⟨w.heap.size + 3, 0, none⟩ = some (.int .u32 (n32 s.a)) := C 0
          have c1 : wv.cell? ⟨w.heap.size + 3, 1, none⟩ = some (.int .u32 (n32 s.b)) := C 1
          have c2 : wv.cell? ⟨w.heap.size + 3, 2, none⟩ = some (.int .u32 (n32 s.c)) := C 2
          have c3 : wv.cell? ⟨w.heap.size + 3, 3, none⟩ = some (.int .u32 (n32 s.d)) := C 3
          have c4 : wv.cell? ⟨w.heap.size + 3, 4, none⟩ = some (.int .u32 (n32 s.e)) := C 4
          have c5 : wv.cell? ⟨w.heap.size + 3, 5, none⟩ = some (.int .u32 (n32 s.f)) := C 5
          have c6 : wv.cell? ⟨w.heap.size + 3, 6, none⟩ = some (.int .u32 (n32 s.g)) := C 6
          have c7 : wv.cell? ⟨w.heap.size + 3, 7, none⟩ = some (.int .u32 (n32 s.h)) := C 7
          clear C
          have ck := HM.out.base.cell (show 0 < 64 by omega)
          have cc : wv.cell? ⟨kb, 0, none⟩ = some (.int .u32 (n32 (kOf 0))) := by
            rw [HM.out.base.below.cell (show kb < w.heap.size from (Array.getElem?_eq_some_iff.1 HK.out).1)]
            exact rowF_cell HK.out (by omega)
          go_wp2
          go_quiet (fail)
          clear ck cc
          as_aux_lemma =>
            have M2 := Lib.hid (HM.out.drew nq)
            clear HM c0 c1 c2 c3 c4 c5 c6 c7
            revert M2; generalize wv.drewN nq = wv; intro HM

            have C := fun j => cell_of_row wv _ j _ _ _ HM.out.vrow
            have c0 : wv.cell? ⟨w.heap.size + 3, 0, none⟩ = some (.int .u32 (n32 s.a)) := C 0
            have c1 : wv.cell? ⟨w.heap.size + 3, 1, none⟩ = some (.int .u32 (n32 s.b)) := C 1
            have c2 : wv.cell? ⟨w.heap.size + 3, 2, none⟩ = some (.int .u32 (n32 s.c)) := C 2
            have c3 : wv.cell? ⟨w.heap.size + 3, 3, none⟩ = some (.int .u32 (n32 s.d)) := C 3
            have c4 : wv.cell? ⟨w.heap.size + 3, 4, none⟩ = some (.int .u32 (n32 s.e)) := C 4
            have c5 : wv.cell? ⟨w.heap.size + 3, 5, none⟩ = some (.int .u32 (n32 s.f)) := C 5
            have c6 : wv.cell? ⟨w.heap.size + 3, 6, none⟩ = some (.int .u32 (n32 s.g)) := C 6
            have c7 : wv.cell? ⟨w.heap.size + 3, 7, none⟩ = some (.int .u32 (n32 s.h)) := C 7
            clear C
            go_wp2
            go_quiet ((go_at_call 55; first | exact Calls.quiet_of_same (rot_any _ _ 2 30 (by decide) (by decide) (by decide) (by decide) _) | exact Calls.quiet_of_same (rot_any _ _ 13 19 (by decide) (by decide) (by decide) (by decide) _) | exact Calls.quiet_of_same (rot_any _ _ 22 10 (by decide) (by decide) (by decide) (by decide) _)))
            as_aux_lemma =>
              have M2 := Lib.hid (HM.out.drew nq)
              clear HM c0 c1 c2 c3 c4 c5 c6 c7
              revert M2; generalize wv.drewN nq = wv; intro HM

              have C := fun j => cell_of_row wv _ j _ _ _ HM.out.vrow
              have c0 : wv.cell? ⟨w.heap.size + 3, 0, none⟩ = some (.int .u32 (n32 s.a)) := C 0
              have c1 : wv.cell? ⟨w.heap.size + 3, 1, none⟩ = some (.int .u32 (n32 s.b)) := C 1
              have c2 : wv.cell? ⟨w.heap.size + 3, 2, none⟩ = some (.int .u32 (n32 s.c)) := C 2
              have c3 : wv.cell? ⟨w.heap.size + 3, 3, none⟩ = some (.int .u32 (n32 s.d)) := C 3
              have c4 : wv.cell? ⟨w.heap.size + 3, 4, none⟩ = some (.int .u32 (n32 s.e)) := C 4
              have c5 : wv.cell? ⟨w.heap.size + 3, 5, none⟩ = some (.int .u32 (n32 s.f)) := C 5
              have c6 : wv.cell? ⟨w.heap.size + 3, 6, none⟩ = some (.int .u32 (n32 s.g)) := C 6
              have c7 : wv.cell? ⟨w.heap.size + 3, 7, none⟩ = some (.int .u32 (n32 s.h)) := C 7
              clear C
              go_wp2
              refine wp_region_qtail_lit 2 (by kernel_rfl) (by kernel_rfl) ?_
              simp only [List.take_succ_cons, List.take_zero, List.drop_succ_cons, List.drop_zero]
              repeat (quiet_step (fail))
              refine wpQuiet_nil ?_
              intro w' hw'
              obtain ⟨nq, rfl⟩ := hw'
              as_aux_lemma =>
                have M2 := Lib.hid (HM.out.drew nq)
                clear HM c0 c1 c2 c3 c4 c5 c6 c7
                revert M2; generalize wv.drewN nq = wv; intro HM
                have hv := HM.out.vrow
                refine wpList_copy_own rfl _ _ 117 117 rfl 35 Try.underlying117 (by kernel_rfl) (w.heap.size + 3) 1 7 7 ⟨w.heap.size + 3, 0, none⟩ 7 8 rfl rfl s.cells 84 hv [.int .u32 (n32 s.a), .int .u32 (n32 s.b), .int .u32 (n32 s.c), .int .u32 (n32 s.d), .int .u32 (n32 s.e), .int .u32 (n32 s.f), .int .u32 (n32 s.g)] rfl (St.src hv) (by show 1 + 7 ≤ 8; omega) (St.ones _ _ _ _ _ _ _) ?_
                obtain ⟨X, hX⟩ : ∃ X, X = (s.cells.toList.take 1 ++ ([Value.int .u32 (n32 s.a), .int .u32 (n32 s.b), .int .u32 (n32 s.c), .int .u32 (n32 s.d), .int .u32 (n32 s.e), .int .u32 (n32 s.f), .int .u32 (n32 s.g)] ++ s.cells.toList.drop (1 + [Value.int .u32 (n32 s.a), .int .u32 (n32 s.b), .int .u32 (n32 s.c), .int .u32 (n32 s.d), .int .u32 (n32 s.e), .int .u32 (n32 s.f), .int .u32 (n32 s.g)].length))).toArray := ⟨_, rfl⟩
                rw [← hX]
                have MR := Lib.hid (HM.out.round (kOf 0) (wOf l 0) X hX)
                have C := fun j => cell_of_row (wv.setRow (w.heap.size + 3) X) _ j _ _ _ (setRow_heap wv _ _ _ _ _ hv)
                have d4 : (wv.setRow (w.heap.size + 3) X).cell? ⟨w.heap.size + 3, 4, none⟩ = some (.int .u32 (n32 s.d)) := (C 4).trans (by rw [hX]; rfl)
                have d0 : (wv.setRow (w.heap.size + 3) X).cell? ⟨w.heap.size + 3, 0, none⟩ = some (.int .u32 (n32 s.a)) := (C 0).trans (by rw [hX]; rfl)
                have f4 := frozen_of_row (wv.setRow (w.heap.size + 3) X) _ 4 _ _ (setRow_heap wv _ _ _ _ _ hv)
                have f0 := frozen_of_row (wv.setRow (w.heap.size + 3) X) _ 0 _ _ (setRow_heap wv _ _ _ _ _ hv)
                clear C hv hX HM
                revert MR d4 d0 f4 f0
                generalize wv.setRow (w.heap.size + 3) X = wv
                intro MR d4 d0 f4 f0

                go_wp2
                go_step3
                refine ⟨rfl, ?_⟩
                exact jump_at (MixR w s l) 12 _ _ ⟨1, by omega, by omega, rfl, MR.out⟩ (by kernel_rfl)
  · rintro a' wv ⟨u, hrel, rfl⟩
    obtain ⟨k, hk1, hlt, hu12, M⟩ := hrel
    rw [hu12]
    clear hu12
    have hnx : rounds s l (k + 1) = (rounds s l k).round (kOf k) (wOf l k) := rfl
    have HN := Lib.hid hnx; clear hnx
    have HM := Lib.hid M; clear M
    generalize rounds s l k = t at *
    have qk : (k : Int) < 64 := by omega
    go_wp2

    have C := fun j => cell_of_row wv _ j _ _ _ HM.out.vrow
    have c0 : wv.cell? ⟨w.heap.size + 3, 0, none⟩ = some (.int .u32 (n32 t.a)) := C 0
    have c1 : wv.cell? ⟨w.heap.size + 3, 1, none⟩ = some (.int .u32 (n32 t.b)) := C 1
    have c2 : wv.cell? ⟨w.heap.size + 3, 2, none⟩ = some (.int .u32 (n32 t.c)) := C 2
    have c3 : wv.cell? ⟨w.heap.size + 3, 3, none⟩ = some (.int .u32 (n32 t.d)) := C 3
    have c4 : wv.cell? ⟨w.heap.size + 3, 4, none⟩ = some (.int .u32 (n32 t.e)) := C 4
    have c5 : wv.cell? ⟨w.heap.size + 3, 5, none⟩ = some (.int .u32 (n32 t.f)) := C 5
    have c6 : wv.cell? ⟨w.heap.size + 3, 6, none⟩ = some (.int .u32 (n32 t.g)) := C 6
    have c7 : wv.cell? ⟨w.heap.size + 3, 7, none⟩ = some (.int .u32 (n32 t.h)) := C 7
    clear C
    go_quiet ((go_at_call 55; first | exact Calls.quiet_of_same (rot_any _ _ 6 26 (by decide) (by decide) (by decide) (by decide) _) | exact Calls.quiet_of_same (rot_any _ _ 11 21 (by decide) (by decide) (by decide) (by decide) _) | exact Calls.quiet_of_same (rot_any _ _ 25 7 (by decide) (by decide) (by decide) (by decide) _)))
    as_aux_lemma =>
      have M2 := Lib.hid (HM.out.drew nq)
      clear HM c0 c1 c2 c3 c4 c5 c6 c7
      revert M2; generalize wv.drewN nq = wv; intro HM

      have C := fun j => cell_of_row wv _ j _ _ _ HM.out.vrow
      have c0 : wv.cell? ⟨w.heap.size + 3, 0, none⟩ = some (.int .u32 (n32 t.a)) := C 0
      have c1 : wv.cell? ⟨w.heap.size + 3, 1, none⟩ = some (.int .u32 (n32 t.b)) := C 1
      have c2 : wv.cell? ⟨w.heap.size + 3, 2, none⟩ = some (.int .u32 (n32 t.c)) := C 2
      have c3 : wv.cell? ⟨w.heap.size + 3, 3, none⟩ = some (.int .u32 (n32 t.d)) := C 3
      have c4 : wv.cell? ⟨w.heap.size + 3, 4, none⟩ = some (.int .u32 (n32 t.e)) := C 4
      have c5 : wv.cell? ⟨w.heap.size + 3, 5, none⟩ = some (.int .u32 (n32 t.f)) := C 5
      have c6 : wv.cell? ⟨w.heap.size + 3, 6, none⟩ = some (.int .u32 (n32 t.g)) := C 6
      have c7 : wv.cell? ⟨w.heap.size + 3, 7, none⟩ = some (.int .u32 (n32 t.h)) := C 7
      clear C
      have ck := HM.out.base.cell (show k < 64 by omega)
      have cc : wv.cell? ⟨kb, k, none⟩ = some (.int .u32 (n32 (kOf k))) := by
        rw [HM.out.base.below.cell (show kb < w.heap.size from (Array.getElem?_eq_some_iff.1 HK.out).1)]
        exact rowF_cell HK.out (by omega)
      go_wp2
      go_quiet (fail)
      clear ck cc
      as_aux_lemma =>
        have M2 := Lib.hid (HM.out.drew nq)
        clear HM c0 c1 c2 c3 c4 c5 c6 c7
        revert M2; generalize wv.drewN nq = wv; intro HM

        have C := fun j => cell_of_row wv _ j _ _ _ HM.out.vrow
        have c0 : wv.cell? ⟨w.heap.size + 3, 0, none⟩ = some (.int .u32 (n32 t.a)) := C 0
        have c1 : wv.cell? ⟨w.heap.size + 3, 1, none⟩ = some (.int .u32 (n32 t.b)) := C 1
        have c2 : wv.cell? ⟨w.heap.size + 3, 2, none⟩ = some (.int .u32 (n32 t.c)) := C 2
        have c3 : wv.cell? ⟨w.heap.size + 3, 3, none⟩ = some (.int .u32 (n32 t.d)) := C 3
        have c4 : wv.cell? ⟨w.heap.size + 3, 4, none⟩ = some (.int .u32 (n32 t.e)) := C 4
        have c5 : wv.cell? ⟨w.heap.size + 3, 5, none⟩ = some (.int .u32 (n32 t.f)) := C 5
        have c6 : wv.cell? ⟨w.heap.size + 3, 6, none⟩ = some (.int .u32 (n32 t.g)) := C 6
        have c7 : wv.cell? ⟨w.heap.size + 3, 7, none⟩ = some (.int .u32 (n32 t.h)) := C 7
        clear C
        go_wp2
        go_quiet ((go_at_call 55; first | exact Calls.quiet_of_same (rot_any _ _ 2 30 (by decide) (by decide) (by decide) (by decide) _) | exact Calls.quiet_of_same (rot_any _ _ 13 19 (by decide) (by decide) (by decide) (by decide) _) | exact Calls.quiet_of_same (rot_any _ _ 22 10 (by decide) (by decide) (by decide) (by decide) _)))
        as_aux_lemma =>
          have M2 := Lib.hid (HM.out.drew nq)
          clear HM c0 c1 c2 c3 c4 c5 c6 c7
          revert M2; generalize wv.drewN nq = wv; intro HM

          have C := fun j => cell_of_row wv _ j _ _ _ HM.out.vrow
          have c0 : wv.cell? ⟨w.heap.size + 3, 0, none⟩ = some (.int .u32 (n32 t.a)) := C 0
          have c1 : wv.cell? ⟨w.heap.size + 3, 1, none⟩ = some (.int .u32 (n32 t.b)) := C 1
          have c2 : wv.cell? ⟨w.heap.size + 3, 2, none⟩ = some (.int .u32 (n32 t.c)) := C 2
          have c3 : wv.cell? ⟨w.heap.size + 3, 3, none⟩ = some (.int .u32 (n32 t.d)) := C 3
          have c4 : wv.cell? ⟨w.heap.size + 3, 4, none⟩ = some (.int .u32 (n32 t.e)) := C 4
          have c5 : wv.cell? ⟨w.heap.size + 3, 5, none⟩ = some (.int .u32 (n32 t.f)) := C 5
          have c6 : wv.cell? ⟨w.heap.size + 3, 6, none⟩ = some (.int .u32 (n32 t.g)) := C 6
          have c7 : wv.cell? ⟨w.heap.size + 3, 7, none⟩ = some (.int .u32 (n32 t.h)) := C 7
          clear C
          go_wp2
          refine wp_region_qtail_lit 2 (by kernel_rfl) (by kernel_rfl) ?_
          simp only [List.take_succ_cons, List.take_zero, List.drop_succ_cons, List.drop_zero]
          repeat (quiet_step (fail))
          refine wpQuiet_nil ?_
          intro w' hw'
          obtain ⟨nq, rfl⟩ := hw'
          as_aux_lemma =>
            have M2 := Lib.hid (HM.out.drew nq)
            clear HM c0 c1 c2 c3 c4 c5 c6 c7
            revert M2; generalize wv.drewN nq = wv; intro HM
            have hv := HM.out.vrow
            refine wpList_copy_own rfl _ _ 117 117 rfl 35 Try.underlying117 (by kernel_rfl) (w.heap.size + 3) 1 7 7 ⟨w.heap.size + 3, 0, none⟩ 7 8 rfl rfl t.cells 84 hv [.int .u32 (n32 t.a), .int .u32 (n32 t.b), .int .u32 (n32 t.c), .int .u32 (n32 t.d), .int .u32 (n32 t.e), .int .u32 (n32 t.f), .int .u32 (n32 t.g)] rfl (St.src hv) (by show 1 + 7 ≤ 8; omega) (St.ones _ _ _ _ _ _ _) ?_
            obtain ⟨X, hX⟩ : ∃ X, X = (t.cells.toList.take 1 ++ ([Value.int .u32 (n32 t.a), .int .u32 (n32 t.b), .int .u32 (n32 t.c), .int .u32 (n32 t.d), .int .u32 (n32 t.e), .int .u32 (n32 t.f), .int .u32 (n32 t.g)] ++ t.cells.toList.drop (1 + [Value.int .u32 (n32 t.a), .int .u32 (n32 t.b), .int .u32 (n32 t.c), .int .u32 (n32 t.d), .int .u32 (n32 t.e), .int .u32 (n32 t.f), .int .u32 (n32 t.g)].length))).toArray := ⟨_, rfl⟩
            rw [← hX]
            have MR := Lib.hid (HM.out.round (kOf k) (wOf l k) X hX)
            have C := fun j => cell_of_row (wv.setRow (w.heap.size + 3) X) _ j _ _ _ (setRow_heap wv _ _ _ _ _ hv)
            have d4 : (wv.setRow (w.heap.size + 3) X).cell? ⟨w.heap.size + 3, 4, none⟩ = some (.int .u32 (n32 t.d)) := (C 4).trans (by rw [hX]; rfl)
            have d0 : (wv.setRow (w.heap.size + 3) X).cell? ⟨w.heap.size + 3, 0, none⟩ = some (.int .u32 (n32 t.a)) := (C 0).trans (by rw [hX]; rfl)
            have f4 := frozen_of_row (wv.setRow (w.heap.size + 3) X) _ 4 _ _ (setRow_heap wv _ _ _ _ _ hv)
            have f0 := frozen_of_row (wv.setRow (w.heap.size + 3) X) _ 0 _ _ (setRow_heap wv _ _ _ _ _ hv)
            clear C hv hX HM
            revert MR d4 d0 f4 f0
            generalize wv.setRow (w.heap.size + 3) X = wv
            intro MR d4 d0 f4 f0

            by_cases hnx : k + 1 < 64
            ·
              as_aux_lemma =>
                go_wp2
                go_step3
                refine ⟨rfl, ⟨?_, ?_⟩⟩
                · exact jump_at (MixR w s l) 12 _ _ ⟨k + 1, by omega, hnx, rfl, by rw [HN.out]; exact MR.out⟩ (by kernel_rfl)
                · simp [intOf]; omega
            · obtain rfl : k = 63 := by omega
              go_wp2
              generalize hwf : World.setCell (World.setCell wv _ _) _ _ = wf
              have hm : MixV w wf s.fn (wOf l) (rounds s l 64) := by rw [HN.out, ← hwf]; exact MR.out
              have HM := Lib.hid hm
              clear HN MR d4 d0 f4 f0 qk hm hnx hk1 hlt hwf
              generalize ht : rounds s l 64 = r at *
              have HT := Lib.hid ht
              clear ht
              as_aux_lemma =>
                go_loopw [189, 17] (fun i _ wr => MixJ w s r l i wr) (fun i _ _ => 8 - (intOf i).toNat)
                case atStart => exact ⟨0, by omega, rfl, by simpa using HM.out⟩
                case round =>
                  obtain ⟨k, hk, rfl, M⟩ := hrel
                  have HM := Lib.hid M
                  clear M
                  by_cases hlt : k < 8
                  ·
                    as_aux_lemma =>
                      have b1 := rowF_cell HM.out.base.hbox hlt
                      rw [if_neg (Nat.lt_irrefl k)] at b1
                      have b2 := rowF_cell (show wr.heap[w.heap.size + 3]? = some (.cells (rowF r.fn 8) 84 (0, 0)) from HM.out.vrow) hlt
                      have qk : (k : Int) < 8 := by omega
                      go_wp2
                      refine wp_region_qtail_lit 8 (by kernel_rfl) (by kernel_rfl) ?_
                      simp only [List.take_succ_cons, List.take_zero, List.drop_succ_cons, List.drop_zero]
                      repeat (quiet_step (fail))
                      refine wpQuiet_nil ?_
                      intro w' hw'
                      obtain ⟨nq, rfl⟩ := hw'
                      have fr := frozen_of_row wr _ k _ _ HM.out.base.hbox
                      have hx := HM.out.stepH nq hlt
                      have HX := Lib.hid hx
                      clear hx
                      go_wp2
                      go_roundw
                      case rel => first | exact ⟨k + 1, by omega, by go_num, HX.out⟩ | ((repeat apply Exists.intro); exact ⟨⟨k + 1, by omega, by go_num, HX.out⟩, rfl⟩)
                      case measure => simp [intOf]; omega
                  ·
                    as_aux_lemma =>
                      obtain rfl : k = 8 := by omega
                      have hb := mix_done HM.out
                      have ho := HM.out.base.out
                      have hbe := HM.out.base.below
                      have HB2 := Lib.hid hbe
                      clear hbe HM
                      go_wp2_with (first | refine wpList_load_row rfl _ _ rfl w.heap.size rfl 84 (s.plus r).cells (0, 0) _ hb Try.underlying84 rfl (by kernel_rfl) ?_ | refine wpList_store_row rfl _ _ _ rfl (w.heap.size + 1) (s.plus r).cells rfl rfl 84 _ ho (by kernel_rfl) rfl (St.one _) ?_)
                      simp only [Exit.jump]
                      refine bodyPost_ret (v := .agg (mixOf s l).cells) (results_cell_row rfl _ _ (w.heap.size + 1) 84 (s.plus r).cells (0, 0) _ rfl (setRow_heap wr _ _ _ _ _ ho) Try.underlying84 rfl (by kernel_rfl) |>.trans ?_) rfl ⟨rfl, below_setRow HB2.out (by omega) _⟩
                      rw [mixOf, HT.out]

end Go.Proofs.Ytlkieepfjhiflaa

