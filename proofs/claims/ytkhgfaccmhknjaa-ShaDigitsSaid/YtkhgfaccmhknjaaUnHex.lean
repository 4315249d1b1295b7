/- The contract of sha.UnHex. -/
import Derived.Test.YtkhgfaccmhknjaaDig
namespace Go.Proofs.Ytkhgfaccmhknjaa
open Go.RowKit

theorem n8_nat (x : UInt8) : (n8 x).toNat.toUInt8 = x := by
  unfold n8
  rw [Int.toNat_natCast]
  exact UInt8.toNat_inj.1 (by simp)
theorem index_quiet (w : World) (n : Nat) (x : UInt8) :
    Calls Try.prog 31 #[.string ⟨#[48, 49, 50, 51, 52, 53, 54, 55, 56, 57, 97, 98, 99, 100, 101, 102]⟩, .int .u8 (n8 x)] (w.drewN n) fun e w'' => e = .returned (.int .i64 (dvI x)) ∧ ∃ m, w'' = w.drewN m := by
  refine Calls.quiet_of_same ((Try.strings_IndexByte _ _ _).mono fun e w' h => ⟨h.1.trans ?_, h.2⟩)
  rw [n8_nat, ← dvI_is]
  rfl
theorem run_char (s : ByteArray) (k : Nat) (hk : k < s.size) (w : World) (i : Int) (hi : i = k) : (Instr.index 9 (.string s) (.int .i64 i)).run Try.prog w = .ok (.int .u8 (n8 (byteAt s.data.toList k))) w := by
  subst hi
  have h : 0 ≤ (k : Int) ∧ (k : Int) < (s.size : Nat) := by omega
  rw [run_index_string w _ _ _ _ Try.underlying9, dif_pos h]
  have : byteAt s.data.toList k = s[(k : Int).toNat]'(by simpa using hk) := by
    simp only [Int.toNat_natCast]
    have hk' : k < s.data.size := hk
    simp [byteAt, ByteArray.getElem_eq_getElem_data, Array.getElem?_eq_getElem hk']
  rw [this]
  rfl

/-- The result's box and the hash's, zeros but for what is read. -/
structure UnW (w wr : World) (f : Nat → UInt8) : Prop where
  res : wr.heap[w.heap.size]? = some (.cells (rowG (fun _ => 0) 32) 26 (0, 0))
  box : wr.heap[w.heap.size + 1]? = some (.cells (rowG f 32) 26 (0, 0))
  below : Below w.heap.size w wr
def UnI (w : World) (t : List UInt8) (i : Value) (wr : World) : Prop :=
  ∃ k : Nat, k ≤ 32 ∧ i = .int .i64 k ∧ (∀ j, j < 2 * k → okc (byteAt t j) = true) ∧ UnW w wr (fun j => if j < k then pairAt t j else 0)

theorem results_row_tmp {fn : Func} {p u : Tmp} (h : fn.results = #[.cell p 26, .tmp u]) (tmps : Array Value) (w : World) (g : Nat) (t : TypeId) (cs : Array Value) (fr : Nat × Nat) (x : Value)
    (hp : tmps.getD p undef = .pointer (some ⟨g, 0, none⟩)) (hg : w.heap[g]? = some (.cells cs t fr)) (hx : tmps.getD u undef = x)
    (hi : (Try.prog.info? 26).map (·.size) = some cs.size) :
    (results fn tmps).run Try.prog w = .ok (.tuple #[.agg cs, x]) w := by
  rw [results_cell_tmp h, hp, hx]
  simp [asAddr, run_loadVar_row w g t _ cs fr _ hg Try.underlying26 rfl hi]
theorem UnW.lt {w wr : World} {f : Nat → UInt8} (M : UnW w wr f) : w.heap.size + 1 < wr.heap.size := (Array.getElem?_eq_some_iff.1 M.box).1
theorem UnW.drew {w wr : World} {f : Nat → UInt8} (M : UnW w wr f) (n : Nat) : UnW w (wr.drewN n) f :=
  ⟨M.res, M.box, ⟨M.below.os, M.below.tape, M.below.output, M.below.size, M.below.block⟩⟩
theorem UnW.byte {w wr : World} {f : Nat → UInt8} (M : UnW w wr f) {k : Nat} (hk : k < 32) (g : Nat → UInt8) (hg : ∀ j, j ≠ k → g j = f j) :
    UnW w (wr.setCell ⟨w.heap.size + 1, k, none⟩ (.int .u8 (n8 (g k)))) g := by
  refine ⟨(heap_setCell_other wr ⟨w.heap.size + 1, k, none⟩ w.heap.size _ (by simp)).trans M.res, ?_, M.below.setCell (by simp) _⟩
  rw [heap_setCell_same wr (w.heap.size + 1) k _ _ _ M.box, rowG_set f g 32 k hk hg]
theorem un_start (w : World) : UnW w ((w.alloc (.cells (rowG (fun _ => 0) 32) 26)).alloc (.cells (rowG (fun _ => 0) 32) 26)) (fun _ => 0) :=
  ⟨heap_alloc2_old _ _ _, heap_alloc2_new _ _ _, ((Below.refl _ _).alloc (Nat.le_refl _) _).alloc (by simp) _⟩
theorem zero_row : rowG (fun _ => 0) 32 = aB zero32 := by kernel_rfl
theorem zero_len : zero32.length = 32 := by simp [zero32]
theorem row_pairs (t : List UInt8) : rowG (fun j => if j < 32 then pairAt t j else 0) 32 = aB (bytesHex t) := by
  simp only [rowG, aB, bytesHex, List.map_map]
  refine congrArg List.toArray (List.map_congr_left fun i hi => ?_)
  have : i < 32 := by simpa using hi
  simp [this, vB]
theorem bad_res {t : List UInt8} (h : goodHex t = false) : (.tuple #[.agg (rowG (fun _ => 0) 32), .int .i64 3] : Value) = .tuple #[.agg (aB (unhex t)), .int .i64 (unhexE t)] := by
  rw [zero_row]; simp [unhex, unhexE, h]
theorem good_res {t : List UInt8} (h : goodHex t = true) : (.tuple #[.agg (rowG (fun j => if j < 32 then pairAt t j else 0) 32), .int .i64 0] : Value) = .tuple #[.agg (aB (unhex t)), .int .i64 (unhexE t)] := by
  rw [row_pairs]; simp [unhex, unhexE, h]
theorem rowG_info (f : Nat → UInt8) : (Try.prog.info? 26).map (·.size) = some (rowG f 32).size := by rw [rowG_size]; exact hash_info

set_option maxRecDepth 100000 in
set_option maxHeartbeats 2000000 in
theorem unhex_any (w : World) (s : ByteArray) :
    Calls Try.prog 21 #[.string s] w fun e w' => e = .returned (.tuple #[.agg (aB (unhex s.data.toList)), .int .i64 (unhexE s.data.toList)]) ∧ Below w.heap.size w w' := by
  have hlen : s.data.toList.length = s.size := by rw [Array.length_toList]; rfl
  by_cases h64 : s.size = 64
  · have hq : ((s.size : Int) != 64) = false := by simp [h64]
    have hi := run_char s
    generalize ht : s.data.toList = t at *
    have H64 := Lib.hid h64; have HLEN := Lib.hid (hlen.trans h64); have HT := Lib.hid ht
    have HI := Lib.hid hi
    clear h64 hlen ht hi
    go_enter Try.func21, Try.ntmps21
    go_wp2_with fail
    rw [litB32]
    have M0 := Lib.hid (un_start w)
    revert M0
    generalize (w.alloc (.cells (rowG (fun _ => 0) 32) 26)).alloc (.cells (rowG (fun _ => 0) 32) 26) = w1
    intro M0
    go_loopw [12] (fun i wr => UnI w t i wr) (fun i _ => 32 - (intOf i).toNat)
    case atStart => exact ⟨0, by omega, rfl, fun j hj => absurd hj (by omega), by simpa using M0.out⟩
    case round =>
      obtain ⟨k, hk, rfl, hok, M⟩ := hrel
      have HM := Lib.hid M; have HOK := Lib.hid hok
      clear M hok
      by_cases hlt : k < 32
      · have i1 := HI.out (2 * k) (by have := H64.out; omega)
        have i2 := HI.out (2 * k + 1) (by have := H64.out; omega)
        have i1 := fun w => i1 w (2 * (k : Int)) (by omega)
        have i2 := fun w => i2 w (2 * (k : Int) + 1) (by omega)
        have wk1 : IntKind.i64.wrap (2 * (k : Int)) = 2 * k := IntWalk.i64_in _ (by omega)
        have wk2 : IntKind.i64.wrap (2 * (k : Int) + 1) = 2 * k + 1 := IntWalk.i64_in _ (by omega)
        have hB : pairAt t k = dv (byteAt t (2 * k)) <<< 4 ||| dv (byteAt t (2 * k + 1)) := rfl
        have HBAD1 : Hid (okc (byteAt t (2 * k)) = false → goodHex t = false) := fun h => bad_at (by rw [HLEN.out]; omega) h
        have HBAD2 : Hid (okc (byteAt t (2 * k + 1)) = false → goodHex t = false) := fun h => bad_at (by rw [HLEN.out]; omega) h
        have HNX : Hid (okc (byteAt t (2 * k)) = true → okc (byteAt t (2 * k + 1)) = true → ∀ j, j < 2 * (k + 1) → okc (byteAt t j) = true) := by
          intro h1 h2 j hj
          by_cases e1 : j = 2 * k
          · rw [e1]; exact h1
          · by_cases e2 : j = 2 * k + 1
            · rw [e2]; exact h2
            · exact HOK.out j (by omega)
        have HB := Lib.hid hB
        generalize byteAt t (2 * k) = x at *
        generalize byteAt t (2 * k + 1) = y at *
        have q1 := fun wr n => index_quiet wr n x
        have q2 := fun wr n => index_quiet wr n y
        have Q1 := Lib.hid q1; have Q2 := Lib.hid q2
        clear q1 q2 hB hq
        go_wp2
        refine wp_region_quiet_lit (by kernel_rfl) (by kernel_rfl) ?_
        iterate 4 quiet_step (fail)
        quiet_step (exact Q1.out _ _)
        iterate 5 quiet_step (fail)
        quiet_step (exact Q2.out _ _)
        repeat (quiet_step (fail))
        refine wpQuiet_nil ?_
        intro w' hw'
        obtain ⟨nq, rfl⟩ := hw'
        have M2 := Lib.hid (HM.out.drew nq)
        clear HM Q1 Q2 i1 i2 wk1 wk2
        revert M2
        generalize wr.drewN nq = wq
        intro M2
        cases hx : okc x with
        | false =>
          have hd : dvI x = -1 := by simp [dvI, hx]
          rw [hd]
          have HG := Lib.hid (HBAD1.out hx)
          clear hx hd HBAD1 HBAD2 HNX
          have ho := M2.out.res
          have HBL := Lib.hid M2.out.below
          clear M2
          go_wp2_with (refine wpList_store_row rfl _ _ _ rfl w.heap.size _ rfl rfl 26 (rowG (fun _ => 0) 32) ho (by kernel_rfl) (by kernel_rfl) (by kernel_rfl) ?_)
          rw [litB32]
          exact bodyPost_ret (results_row_tmp rfl _ _ w.heap.size 26 (rowG (fun _ => 0) 32) (0, 0) (.int .i64 3) rfl (setRow_heap _ _ _ _ _ _ ho) rfl (rowG_info _)) rfl ⟨congrArg Ending.returned (bad_res HG.out), below_setRow HBL.out (Nat.le_refl _) _⟩
        | true =>
          have hd : dvI x = n8 (dv x) := by simp [dvI, hx]
          rw [hd]
          have hx0 : ¬ (n8 (dv x) < 0) := by have := n8_lo (dv x); omega
          cases hy : okc y with
          | false =>
            have hd : dvI y = -1 := by simp [dvI, hy]
            rw [hd]
            have HG := Lib.hid (HBAD2.out hy)
            clear hx hy hd HBAD1 HBAD2 HNX
            have ho := M2.out.res
            have HBL := Lib.hid M2.out.below
            clear M2
            go_wp2_with (refine wpList_store_row rfl _ _ _ rfl w.heap.size _ rfl rfl 26 (rowG (fun _ => 0) 32) ho (by kernel_rfl) (by kernel_rfl) (by kernel_rfl) ?_)
            rw [litB32]
            exact bodyPost_ret (results_row_tmp rfl _ _ w.heap.size 26 (rowG (fun _ => 0) 32) (0, 0) (.int .i64 3) rfl (setRow_heap _ _ _ _ _ _ ho) rfl (rowG_info _)) rfl ⟨congrArg Ending.returned (bad_res HG.out), below_setRow HBL.out (Nat.le_refl _) _⟩
          | true =>
            have hd : dvI y = n8 (dv y) := by simp [dvI, hy]
            rw [hd]
            have hy0 : ¬ (n8 (dv y) < 0) := by have := n8_lo (dv y); omega
            have hor := or_i64 (dv x) (dv y) (dv_lt x hx) (dv_lt y hy)
            have hsh := shl_i64 (dv x) (dv_lt x hx)
            have HOK2 := Lib.hid (HNX.out hx hy)
            rw [← HB.out] at hor
            clear hx hy hd HBAD1 HBAD2 HNX
            have M3 := M2.out.byte hlt (fun j => if j < k + 1 then pairAt t j else 0) (fun j hj => by
              by_cases h1 : j < k
              · simp [h1, show j < k + 1 by omega]
              · simp [h1, show ¬ j < k + 1 by omega])
            simp only [Nat.lt_succ_self, if_true] at M3
            have M3 := Lib.hid M3
            have ho := rowG_cell M2.out.box hlt
            have hlow := n8_lo (pairAt t k)
            have hw8 : n8 (pairAt t k) % 256 = n8 (pairAt t k) := by have := n8_hi (pairAt t k); omega
            have hw9 : IntKind.u8.wrap (n8 (pairAt t k)) = n8 (pairAt t k) := by rw [IntKind.wrap_u8, hw8]
            have hfz : wq.frozen? ⟨w.heap.size + 1, k, none⟩ = false := by simp [World.frozen?, M2.out.box]
            generalize pairAt t k = z at *
            generalize n8 (dv x) = zx at *
            generalize n8 (dv y) = zy at *
            clear M2 HB
            go_wp2
            exact ⟨⟨k + 1, by omega, by go_num, HOK2.out, M3.out⟩, by simp [intOf]; omega⟩
      · obtain rfl : k = 32 := by omega
        rw [show ((32 : Nat) : Int) = (32 : Int) from rfl]
        have HG := Lib.hid (good_all HLEN.out (fun j hj => HOK.out j (by omega)))
        have ho := HM.out.res
        have hb := HM.out.box
        have HBL := Lib.hid HM.out.below
        clear HM HOK hlt hk
        go_wp2_with (first | refine wpList_load_row rfl _ _ rfl (w.heap.size + 1) rfl 26 (rowG (fun j => if j < 32 then pairAt t j else 0) 32) (0, 0) _ hb Try.underlying26 rfl (rowG_info _) ?_ | refine wpList_store_row rfl _ _ _ rfl w.heap.size (rowG (fun j => if j < 32 then pairAt t j else 0) 32) rfl rfl 26 (rowG (fun _ => 0) 32) ho (rowG_info _) (by rw [rowG_size, rowG_size]) (rowG_one _ _) ?_)
        exact bodyPost_ret (results_row_tmp rfl _ _ w.heap.size 26 (rowG (fun j => if j < 32 then pairAt t j else 0) 32) (0, 0) (.int .i64 0) rfl (setRow_heap _ _ _ _ _ _ ho) rfl (rowG_info _)) rfl ⟨congrArg Ending.returned (good_res HG.out), below_setRow HBL.out (Nat.le_refl _) _⟩
  · have hq : ((s.size : Int) != 64) = true := by simp; omega
    have hg : goodHex s.data.toList = false := by simp only [goodHex, hlen, beq_eq_false_iff_ne.2 h64, Bool.false_and]
    have HG := Lib.hid hg
    clear hg hlen h64
    go_enter Try.func21, Try.ntmps21
    iterate 16 go_step
    rw [litB32]
    have M0 := Lib.hid (un_start w)
    revert M0
    generalize (w.alloc (.cells (rowG (fun _ => 0) 32) 26)).alloc (.cells (rowG (fun _ => 0) 32) 26) = w1
    intro M0
    have ho := M0.out.res
    have hb := M0.out.box
    have HBL := Lib.hid M0.out.below
    clear M0
    go_wp2_with (first | refine wpList_load_row rfl _ _ rfl (w.heap.size + 1) rfl 26 (rowG (fun _ => 0) 32) (0, 0) _ hb Try.underlying26 rfl (rowG_info _) ?_ | refine wpList_store_row rfl _ _ _ rfl w.heap.size (rowG (fun _ => 0) 32) rfl rfl 26 (rowG (fun _ => 0) 32) ho (rowG_info _) rfl (rowG_one _ _) ?_)
    exact bodyPost_ret (results_row_tmp rfl _ _ w.heap.size 26 (rowG (fun _ => 0) 32) (0, 0) (.int .i64 3) rfl (setRow_heap _ _ _ _ _ _ ho) rfl (rowG_info _)) rfl ⟨congrArg Ending.returned (bad_res HG.out), below_setRow HBL.out (Nat.le_refl _) _⟩
end Go.Proofs.Ytkhgfaccmhknjaa
