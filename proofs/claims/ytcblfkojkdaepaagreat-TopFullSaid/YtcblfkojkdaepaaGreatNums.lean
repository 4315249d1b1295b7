/- The page that names the disk; the numbers. -/
import Derived.Test.YtcblfkojkdaepaaGreatWriteF
import Derived.Lib.LazyBuf
namespace Go.Proofs.YtcblfkojkdaepaaGreat
open Go.RowKit Go.ChangeMaps
set_option maxRecDepth 100000 in
set_option maxHeartbeats 1000000 in
theorem newS_any (w : World) (mb : Nat) :
    Calls Tryz.prog 8 #[.pointer (some ⟨mb, 0, none⟩)] w fun e w' => e = .returned (.tuple #[.pointer (some ⟨w.heap.size, 0, none⟩), .int .i64 0]) ∧ w' = w.alloc (.cells #[.pointer (some ⟨mb, 0, none⟩)] 74) := by
  go_enter Tryz.func8, Tryz.ntmps8
  go_wp2_with fail
  go_ret2
  exact ⟨rfl, rfl⟩
/-- A page of one's own, whatever it holds. -/
def PgX (w : World) (B q : Nat) : Prop := ∃ L, PgO w B q 512 L
theorem PgX.cell {w : World} {B q : Nat} (h : PgX w B q) (j : Nat) (hj : j < 512) : ∃ v, w.cell? ⟨q, j, none⟩ = some (.int .u8 v) := by
  obtain ⟨L, h⟩ := h
  have hl := h.len
  exact ⟨_, h.cell j _ (List.getElem?_eq_getElem (by omega))⟩
theorem PgX.free {w : World} {B q : Nat} (h : PgX w B q) (j : Nat) : w.frozen? ⟨q, j, none⟩ = false := h.elim fun _ h => h.free j
theorem PgX.put {w : World} {B q : Nat} (h : PgX w B q) (j : Nat) (v : UInt8) : PgX (w.setCell ⟨q, j, none⟩ (vB v)) B q := h.elim fun _ h => ⟨_, h.set j v⟩
theorem vB_mod (v : Int) (h : 0 ≤ v ∧ v < 256) : (.int .u8 v : Value) = vB (UInt8.ofNat v.toNat) := by
  show _ = Value.int .u8 (n8 (UInt8.ofNat v.toNat))
  unfold n8
  rw [UInt8.toNat_ofNat']
  congr 1
  omega
set_option maxRecDepth 100000 in
set_option maxHeartbeats 4000000 in
theorem super_any (w : World) :
    Calls Tryz.prog 23 #[.int .i64 59, .int .i64 16] w fun e w' => ∃ q, e = .returned (.slice (some ⟨q, 0, none⟩) 512 512) ∧ w.heap.size ≤ q ∧ PgX w' w.heap.size q ∧ Fr [] w w' := by
  have hmk := run_makeSec w
  have P1 := PgO.new w
  have A1 := (Fr.refl [] w).alloc (.cells zRow 5)
  have hz : ∀ w, (Go.sizeOf 5).run Tryz.prog w = .ok 1 w := fun w => by kernel_rfl
  have hcp := fun (ty : TypeId) => run_copy_string (P := Tryz.prog) (w.alloc (.cells zRow 5)) 46 9 ty 5 w.heap.size 0 512 512 ⟨#[68, 85, 78, 49]⟩ Tryz.underlying46 hz (by decide) (fun j hj => by rw [P1.cell (0 + j) 0 (by have : j < 4 := hj; rw [show zBytes = List.replicate 512 0 from rfl, List.getElem?_replicate, if_pos (by omega)])]; rfl) (fun j _ => P1.free _)
  obtain ⟨P2, F2⟩ := PgO.sets' [68, 85, 78, 49] 0 _ _ P1 (by simp)
  obtain ⟨w2, hw2⟩ : ∃ w2, w2 = (w.alloc (.cells zRow 5)).setCells w.heap.size 0 ([68, 85, 78, 49].map vB) := ⟨_, rfl⟩
  have hcp2 : ∀ ty, (Builtin.copy_ #[46, 9] ty #[.slice (some ⟨w.heap.size, 0, none⟩) 512 512, .string ⟨#[68, 85, 78, 49]⟩]).run Tryz.prog (w.alloc (.cells zRow 5)) = .ok (.int .i64 4) w2 := fun ty => by rw [hcp ty, hw2]; rfl
  rw [← hw2] at P2 F2
  have HP2 := Lib.hid (show PgX w2 w.heap.size w.heap.size from ⟨_, P2⟩)
  have HF2 := Lib.hid (show Fr [] w w2 from A1.then F2 (fun k hk => .inr (by simp at hk; omega)))
  clear hcp P1 P2 F2 A1 hw2 hz
  go_enter Tryz.func23, Tryz.ntmps23
  go_wp2_with fail
  have A3 := (Fr.refl [] w2).alloc (.cells #[.int .i64 59, .int .i64 16] 3)
  have N3 := heap_alloc_new w2 (.cells #[.int .i64 59, .int .i64 16] 3)
  have hq2 : w.heap.size < w2.heap.size := by
    obtain ⟨v, hv⟩ := HP2.out.cell 0 (by omega)
    exact block_lt_of_cell hv
  have P3 : PgX (w2.alloc (.cells #[.int .i64 59, .int .i64 16] 3)) w.heap.size w.heap.size := HP2.out.elim fun _ h => ⟨_, h.kept A3 (by simp)⟩
  have F3 := HF2.out.trans A3
  clear A3 HP2 HF2 hcp2
  generalize w2.alloc (.cells #[.int .i64 59, .int .i64 16] 3) = w3 at *
  obtain ⟨nb, hnb⟩ : ∃ b, b = w2.heap.size := ⟨_, rfl⟩
  rw [← hnb] at N3 hq2 ⊢
  obtain ⟨q, hq⟩ : ∃ b, b = w.heap.size := ⟨_, rfl⟩
  rw [← hq] at P3 hq2 ⊢
  have HQ := Lib.hid hq; have HQ2 := Lib.hid hq2
  clear hnb hq hq2 hmk
  go_loopw [16] (fun tv wr => ∃ t : Nat, t ≤ 2 ∧ tv = .int .i64 (t : Int) ∧ PgX wr q q ∧ wr.heap[nb]? = some (.cells #[.int .i64 59, .int .i64 16] 3 (0, 0)) ∧ Fr [] w wr) (fun tv _ => ((2 : Int) - intOf tv).toNat)
  case atStart => exact ⟨0, by omega, rfl, P3, N3, F3⟩
  case round =>
    obtain ⟨t, ht, rfl, hP, hN, hF⟩ := hrel
    clear P3 N3 F3
    have ht3 : t = 0 ∨ t = 1 ∨ t = 2 := by omega
    have HP := Lib.hid hP; have HN := Lib.hid hN; have HF := Lib.hid hF
    rcases ht3 with rfl | rfl | rfl
    · have c := (cell_of_row _ _ 0 _ _ _ hN).trans (rfl : _ = some (Value.int .i64 59))
      clear hP hN hF
      go_wp2_with fail
      go_loopw [21] (fun kv wr2 => ∃ k : Nat, k ≤ 4 ∧ kv = .int .i64 (k : Int) ∧ PgX wr2 q q ∧ wr2.heap[nb]? = some (.cells #[.int .i64 59, .int .i64 16] 3 (0, 0)) ∧ Fr [] w wr2) (fun kv _ => ((4 : Int) - intOf kv).toNat)
      case atStart => exact ⟨0, by omega, rfl, HP.out, HN.out, HF.out⟩
      case round =>
        obtain ⟨k, hk, rfl, hP, hN, hF⟩ := hrel
        clear HP HN HF c
        have hk5 : k = 0 ∨ k = 1 ∨ k = 2 ∨ k = 3 ∨ k = 4 := by omega
        have HP := Lib.hid hP; have HN := Lib.hid hN; have HF := Lib.hid hF
        rcases hk5 with rfl | rfl | rfl | rfl | rfl
        · obtain ⟨v, hv⟩ := hP.cell 4 (by omega)
          have hf := hP.free 4
          have P4 := hP.put 4 0
          have N4 := ((Fr.refl [q] _).setCell (p := ⟨q, 4, none⟩) (.inl (by simp)) (vB 0)).heap (by have := HQ2.out; simp; omega) hN
          have F4 := hF.setCell (p := ⟨q, 4, none⟩) (.inr (by have := HQ.out; simp; omega)) (vB 0)
          rw [show vB 0 = .int .u8 0 from rfl] at P4 N4 F4
          have HP4 := Lib.hid P4; have HN4 := Lib.hid N4; have HF4 := Lib.hid F4
          clear P4 N4 F4 hP hN hF
          go_wp2_with fail
          exact ⟨⟨0 + 1, by omega, rfl, HP4.out, HN4.out, HF4.out⟩, by simp [intOf]⟩
        · obtain ⟨v, hv⟩ := hP.cell 5 (by omega)
          have hf := hP.free 5
          have P4 := hP.put 5 0
          have N4 := ((Fr.refl [q] _).setCell (p := ⟨q, 5, none⟩) (.inl (by simp)) (vB 0)).heap (by have := HQ2.out; simp; omega) hN
          have F4 := hF.setCell (p := ⟨q, 5, none⟩) (.inr (by have := HQ.out; simp; omega)) (vB 0)
          rw [show vB 0 = .int .u8 0 from rfl] at P4 N4 F4
          have HP4 := Lib.hid P4; have HN4 := Lib.hid N4; have HF4 := Lib.hid F4
          clear P4 N4 F4 hP hN hF
          go_wp2_with fail
          exact ⟨⟨1 + 1, by omega, rfl, HP4.out, HN4.out, HF4.out⟩, by simp [intOf]⟩
        · obtain ⟨v, hv⟩ := hP.cell 6 (by omega)
          have hf := hP.free 6
          have P4 := hP.put 6 0
          have N4 := ((Fr.refl [q] _).setCell (p := ⟨q, 6, none⟩) (.inl (by simp)) (vB 0)).heap (by have := HQ2.out; simp; omega) hN
          have F4 := hF.setCell (p := ⟨q, 6, none⟩) (.inr (by have := HQ.out; simp; omega)) (vB 0)
          rw [show vB 0 = .int .u8 0 from rfl] at P4 N4 F4
          have HP4 := Lib.hid P4; have HN4 := Lib.hid N4; have HF4 := Lib.hid F4
          clear P4 N4 F4 hP hN hF
          go_wp2_with fail
          exact ⟨⟨2 + 1, by omega, rfl, HP4.out, HN4.out, HF4.out⟩, by simp [intOf]⟩
        · obtain ⟨v, hv⟩ := hP.cell 7 (by omega)
          have hf := hP.free 7
          have P4 := hP.put 7 59
          have N4 := ((Fr.refl [q] _).setCell (p := ⟨q, 7, none⟩) (.inl (by simp)) (vB 59)).heap (by have := HQ2.out; simp; omega) hN
          have F4 := hF.setCell (p := ⟨q, 7, none⟩) (.inr (by have := HQ.out; simp; omega)) (vB 59)
          rw [show vB 59 = .int .u8 59 from rfl] at P4 N4 F4
          have HP4 := Lib.hid P4; have HN4 := Lib.hid N4; have HF4 := Lib.hid F4
          clear P4 N4 F4 hP hN hF
          go_wp2_with fail
          exact ⟨⟨3 + 1, by omega, rfl, HP4.out, HN4.out, HF4.out⟩, by simp [intOf]⟩
        · clear hP hN hF
          go_wp2_with fail
          exact ⟨⟨0 + 1, by omega, rfl, HP.out, HN.out, HF.out⟩, by simp [intOf]⟩
    · have c := (cell_of_row _ _ 1 _ _ _ hN).trans (rfl : _ = some (Value.int .i64 16))
      clear hP hN hF
      go_wp2_with fail
      go_loopw [21] (fun kv wr2 => ∃ k : Nat, k ≤ 4 ∧ kv = .int .i64 (k : Int) ∧ PgX wr2 q q ∧ wr2.heap[nb]? = some (.cells #[.int .i64 59, .int .i64 16] 3 (0, 0)) ∧ Fr [] w wr2) (fun kv _ => ((4 : Int) - intOf kv).toNat)
      case atStart => exact ⟨0, by omega, rfl, HP.out, HN.out, HF.out⟩
      case round =>
        obtain ⟨k, hk, rfl, hP, hN, hF⟩ := hrel
        clear HP HN HF c
        have hk5 : k = 0 ∨ k = 1 ∨ k = 2 ∨ k = 3 ∨ k = 4 := by omega
        have HP := Lib.hid hP; have HN := Lib.hid hN; have HF := Lib.hid hF
        rcases hk5 with rfl | rfl | rfl | rfl | rfl
        · obtain ⟨v, hv⟩ := hP.cell 8 (by omega)
          have hf := hP.free 8
          have P4 := hP.put 8 0
          have N4 := ((Fr.refl [q] _).setCell (p := ⟨q, 8, none⟩) (.inl (by simp)) (vB 0)).heap (by have := HQ2.out; simp; omega) hN
          have F4 := hF.setCell (p := ⟨q, 8, none⟩) (.inr (by have := HQ.out; simp; omega)) (vB 0)
          rw [show vB 0 = .int .u8 0 from rfl] at P4 N4 F4
          have HP4 := Lib.hid P4; have HN4 := Lib.hid N4; have HF4 := Lib.hid F4
          clear P4 N4 F4 hP hN hF
          go_wp2_with fail
          exact ⟨⟨0 + 1, by omega, rfl, HP4.out, HN4.out, HF4.out⟩, by simp [intOf]⟩
        · obtain ⟨v, hv⟩ := hP.cell 9 (by omega)
          have hf := hP.free 9
          have P4 := hP.put 9 0
          have N4 := ((Fr.refl [q] _).setCell (p := ⟨q, 9, none⟩) (.inl (by simp)) (vB 0)).heap (by have := HQ2.out; simp; omega) hN
          have F4 := hF.setCell (p := ⟨q, 9, none⟩) (.inr (by have := HQ.out; simp; omega)) (vB 0)
          rw [show vB 0 = .int .u8 0 from rfl] at P4 N4 F4
          have HP4 := Lib.hid P4; have HN4 := Lib.hid N4; have HF4 := Lib.hid F4
          clear P4 N4 F4 hP hN hF
          go_wp2_with fail
          exact ⟨⟨1 + 1, by omega, rfl, HP4.out, HN4.out, HF4.out⟩, by simp [intOf]⟩
        · obtain ⟨v, hv⟩ := hP.cell 10 (by omega)
          have hf := hP.free 10
          have P4 := hP.put 10 0
          have N4 := ((Fr.refl [q] _).setCell (p := ⟨q, 10, none⟩) (.inl (by simp)) (vB 0)).heap (by have := HQ2.out; simp; omega) hN
          have F4 := hF.setCell (p := ⟨q, 10, none⟩) (.inr (by have := HQ.out; simp; omega)) (vB 0)
          rw [show vB 0 = .int .u8 0 from rfl] at P4 N4 F4
          have HP4 := Lib.hid P4; have HN4 := Lib.hid N4; have HF4 := Lib.hid F4
          clear P4 N4 F4 hP hN hF
          go_wp2_with fail
          exact ⟨⟨2 + 1, by omega, rfl, HP4.out, HN4.out, HF4.out⟩, by simp [intOf]⟩
        · obtain ⟨v, hv⟩ := hP.cell 11 (by omega)
          have hf := hP.free 11
          have P4 := hP.put 11 16
          have N4 := ((Fr.refl [q] _).setCell (p := ⟨q, 11, none⟩) (.inl (by simp)) (vB 16)).heap (by have := HQ2.out; simp; omega) hN
          have F4 := hF.setCell (p := ⟨q, 11, none⟩) (.inr (by have := HQ.out; simp; omega)) (vB 16)
          rw [show vB 16 = .int .u8 16 from rfl] at P4 N4 F4
          have HP4 := Lib.hid P4; have HN4 := Lib.hid N4; have HF4 := Lib.hid F4
          clear P4 N4 F4 hP hN hF
          go_wp2_with fail
          exact ⟨⟨3 + 1, by omega, rfl, HP4.out, HN4.out, HF4.out⟩, by simp [intOf]⟩
        · clear hP hN hF
          go_wp2_with fail
          exact ⟨⟨1 + 1, by omega, rfl, HP.out, HN.out, HF.out⟩, by simp [intOf]⟩
    · clear hP hN hF
      go_wp2_with fail
      go_ret
      exact ⟨q, rfl, by rw [HQ.out]; exact Nat.le_refl _, by rw [← HQ.out]; exact HP.out, HF.out⟩
end Go.Proofs.YtcblfkojkdaepaaGreat
/- The numbers below n. -/
namespace Go.Proofs.YtcblfkojkdaepaaGreat
open Go.RowKit Go.ChangeMaps
def numL (n : Nat) : List Value := (List.range n).map fun (k : Nat) => Value.int .i64 (k : Int)
theorem numL_succ (n : Nat) : numL (n + 1) = numL n ++ [.int .i64 (n : Int)] := by simp [numL, List.range_succ]
theorem wpList_numA {w : World} {ops : Array Oper} {rest : List Oper} {o : Oper} {a : Act} {Q : Exit → Act → World → Prop} (hgd : o.guard = none) (s x : Operand)
    (ho : o.op = .call { callee := .builtin .append, args := #[s, x], argTypes := #[48, 48] })
    (base : Nat) (v : Value) (k : Nat) (hs : a.eval s = v) (hown : w.ownsRow base 3 1 v k (numL k)) (b : Nat) (hx : a.eval x = .slice (some ⟨b, 0, none⟩) 1 1) (hb : w.heap[b]? = some (.cells #[.int .i64 (k : Int)] 3 (0, 0))) (hl : k ≤ 1000) (hbase : base ≤ w.heap.size)
    (h : ∀ v' w', w'.ownsRow base 3 1 v' (k + 1) (numL (k + 1)) → w.grownBy w' v.ownBlock → wpList Tryz.prog ops Q rest (a.put o.dst v') w') : wpList Tryz.prog ops Q (o :: rest) a w := by
  obtain ⟨i0, hi, hz0, hz1, hz2⟩ := info_parts info_int
  refine wpList_append_own w hgd s x 48 ho base 3 i0 (.int .i64 0) 1 8 Tryz.underlying48 hi hz0 hz1 hz2 rfl (by decide) v k (numL k) hs hown ⟨b, 0, none⟩ 1 1 [.int .i64 (k : Int)] hx rfl (fun j u hj => by
    rw [show (⟨b, 0, none⟩ : Addr).add j = ⟨b, j, none⟩ by unfold Addr.add; split <;> simp_all]
    rw [cell_of_row w b j _ _ _ hb]; simpa using hj) (fun u hu => by simp at hu; subst hu; rfl) (by simp only [maxLen]; omega) (by omega) hbase ?_
  intro v' w' q1 q2 _
  exact h v' w' (by rw [numL_succ]; exact q1) q2
set_option maxRecDepth 100000 in
set_option maxHeartbeats 2000000 in
theorem numbers_any (w : World) (n : Nat) (hn : n ≤ 41) :
    Calls Tryz.prog 26 #[.int .i64 (n : Int)] w fun e w' => ∃ v, e = .returned v ∧ w'.ownsRow w.heap.size 3 1 v n (numL n) ∧ Fr [] w w' := by
  have HO0 := Lib.hid (show w.ownsRow w.heap.size 3 1 (.slice none 0 0) 0 (numL 0) from ⟨rfl, .inl ⟨rfl, rfl⟩⟩)
  go_enter Tryz.func26, Tryz.ntmps26
  go_wp2_with fail
  go_loopw [6, 3] (fun kv v wr => ∃ k : Nat, k ≤ n ∧ kv = .int .i64 (k : Int) ∧ wr.ownsRow w.heap.size 3 1 v k (numL k) ∧ Fr [] w wr) (fun kv _ _ => ((n : Int) - intOf kv).toNat)
  case atStart => exact ⟨0, by omega, rfl, HO0.out, Fr.refl _ _⟩
  case round =>
    obtain ⟨k, hk, rfl, hO, hF⟩ := hrel
    clear HO0
    by_cases hlt : k < n
    · have hltI : (k : Int) < (n : Int) := by omega
      have A1 := (Fr.refl [] wr).alloc (.cells #[.int .i64 (k : Int)] 3)
      have N1 := heap_alloc_new wr (.cells #[.int .i64 (k : Int)] 3)
      have hO1 := own_keep (S := []) hO A1 (by simp)
      have HO1 := Lib.hid hO1; have HN1 := Lib.hid N1; have HF1 := Lib.hid (hF.trans A1); have HO := Lib.hid hO
      clear hO hF A1 N1 hO1
      go_wp2_with (refine wpList_numA rfl _ _ rfl w.heap.size _ k rfl HO1.out wr.heap.size rfl HN1.out (by omega) HF1.out.size ?_; intro v' w' hown hgr; (have HW := Lib.hid hown); (have HG := Lib.hid hgr); clear hown hgr)
      have hF2 := HF1.out.grown HG.out (fun b hb => .inr (by
        rcases HO.out.2 with ⟨h0, _⟩ | ⟨g, cp, cur, h0, hbg, _⟩
        · rw [h0] at hb; cases hb
        · rw [h0] at hb; cases hb; exact hbg))
      exact ⟨⟨k + 1, by omega, by simp, HW.out, hF2⟩, by simp [intOf]; omega⟩
    · obtain rfl : k = n := by omega
      have HO := Lib.hid hO; have HF := Lib.hid hF
      clear hO hF
      go_wp2_with fail
      go_ret
      exact ⟨_, rfl, HO.out, HF.out⟩
end Go.Proofs.YtcblfkojkdaepaaGreat
