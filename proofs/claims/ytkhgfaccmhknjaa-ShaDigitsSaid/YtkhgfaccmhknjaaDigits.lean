/- The law ShaDigits. -/
import Derived.Test.YtkhgfaccmhknjaaLive
import Derived.Test.YtkhgfaccmhknjaaEqHash
import Derived.Test.YtkhgfaccmhknjaaHexRef
namespace Go.Proofs.Ytkhgfaccmhknjaa
open Go.RowKit

structure DigW (w : World) (b5 b7 b9 : Nat) (l x : List UInt8) (w' : World) : Prop where
  r0 : w'.heap[w.heap.size]? = some (.cells (aB l) 26 (0, 0))
  r5 : w'.heap[b5]? = some (.cells (aB x) 26 (0, 0))
  r7 : w'.heap[b7]? = some (.cells (aB x) 26 (0, 0))
  r9 : w'.heap[b9]? = some (.cells (aB l) 26 (0, 0))
  below : Below w.heap.size w w'
theorem kept_row {w w' : World} {b : Nat} {o : Obj} (h : w.heap[b]? = some o) (hb : Below w.heap.size w w') : w'.heap[b]? = some o :=
  (hb.block b (Array.getElem?_eq_some_iff.1 h).1).trans h
theorem DigW.keep {w w' w'' : World} {b5 b7 b9 : Nat} {l x : List UInt8} (M : DigW w b5 b7 b9 l x w') (hb : Below w'.heap.size w' w'') : DigW w b5 b7 b9 l x w'' :=
  ⟨kept_row M.r0 hb, kept_row M.r5 hb, kept_row M.r7 hb, kept_row M.r9 hb, M.below.trans (hb.mono M.below.size)⟩
theorem new_row (w : World) (cs : Array Value) (x : List UInt8) :
    ((w.alloc (.cells cs 26)).setRow w.heap.size (aB x)).heap[w.heap.size]? = some (.cells (aB x) 26 (0, 0)) ∧ Below w.heap.size w ((w.alloc (.cells cs 26)).setRow w.heap.size (aB x)) :=
  ⟨setRow_heap _ _ _ _ _ _ (heap_alloc_new w _), below_setRow ((Below.refl _ _).alloc (Nat.le_refl _) _) (Nat.le_refl _) _⟩
theorem load_row_at (w : World) (b : Nat) (x : List UInt8) (hx : x.length = 32) (h : w.heap[b]? = some (.cells (aB x) 26 (0, 0))) :
    (loadVar 26 ⟨b, 0, none⟩).run Try.prog w = .ok (.agg (aB x)) w :=
  run_loadVar_row w b _ _ (aB x) (0, 0) _ h Try.underlying26 rfl (aB_info hx)

/-- The worlds that hold the four hashes. -/
def DigT (w : World) (b5 b7 b9 : Nat) (l x : List UInt8) : Type := { w' : World // DigW w b5 b7 b9 l x w' }

theorem wpQuiet_load {P : Program} {ops : Array Oper} {C : World → Prop} {Q : Act → Prop} {rest : List Oper} {o : Oper} {a : Act} (ty : TypeId) (x : Operand) (b : Nat) (cs : Array Value) (hld : ∀ w, C w → (loadVar ty ⟨b, 0, none⟩).run P w = .ok (.agg cs) w)
    (hw : Region.wanted o (yielded ops a.tmps) = true) (ho : o.op = .load ty x) (hx : a.eval x = .pointer (some ⟨b, 0, none⟩))
    (h : wpQuiet P ops C Q rest (a.put o.dst (.agg cs))) : wpQuiet P ops C Q (o :: rest) a := by
  unfold wpQuiet
  rw [if_pos hw]
  refine ⟨.agg cs, fun w hC => ?_, h⟩
  unfold Oper.quietAt execOp
  simp only [ho, hx, Instr.loadAt, Instr.sureAddr, Sem.run_bind, Sem.run_pure, Result.andThen_ok, hld w hC]
  exact ⟨rfl, rfl⟩
theorem wp_region_class {T : Type} (f : T → World) {P : Program} {id : Nat} {Q : Exit → Act → World → Prop} {a : Act} {w : World} {l : List Oper} (hm : P.follows .mixedOrders = true) (hB : Region.lexB .any l.toArray = true)
    (hC : ∃ q, { w with drawn := w.drawn + 1 } = f q)
    (h : wpQuiet P l.toArray (fun w' => ∃ q, w' = f q) (fun a' => ∀ w', (∃ q, w' = f q) → Q .normal a' w') l a) : (Code.region id l.toArray true).wp P Q a w :=
  wp_region_quiet (C := fun w' => ∃ q, w' = f q) hm hB hC (by simpa using h)
def DigT.w {w : World} {b5 b7 b9 : Nat} {l x : List UInt8} (q : DigT w b5 b7 b9 l x) : World := q.1

set_option maxRecDepth 100000 in
set_option maxHeartbeats 2000000 in
theorem digits_core (w : World) (l : List UInt8) (hl : l.length = 32) (s : ByteArray) (x : List UInt8) (hxl : x.length = 32) (ec : Int) (hcase : (ec = 0 ∧ (⟨(hexOf x).toArray⟩ : ByteArray) = s) ∨ ec = 3)
    (U1 : ∀ w, Calls Try.prog 21 #[.string s] w fun e w' => e = .returned (.tuple #[.agg (aB x), .int .i64 ec]) ∧ Below w.heap.size w w')
    (U2 : ∀ w, Calls Try.prog 22 #[.string s] w fun e w' => e = .returned (.tuple #[.agg (aB x), .int .i64 ec]) ∧ Below w.heap.size w w')
    (U3 : ∀ w, Calls Try.prog 21 #[.string ⟨(hexOf l).toArray⟩] w fun e w' => e = .returned (.tuple #[.agg (aB l), .int .i64 0]) ∧ Below w.heap.size w w') :
    Calls Try.prog 8 #[.agg (aB l), .string s] w fun e w' => e = .returned (.bool true) ∧ Below w.heap.size w w' := by
  have HL := Lib.hid hl; have HX := Lib.hid hxl; have V1 := Lib.hid U1; have V2 := Lib.hid U2; have V3 := Lib.hid U3; have HC := Lib.hid hcase
  clear hl hxl U1 U2 U3 hcase
  go_enter Try.func8, Try.ntmps8
  go_wp2_with fail
  have R0 : Hid ((w.alloc (.cells (aB l) 26)).heap[w.heap.size]? = some (.cells (aB l) 26 (0, 0))) := heap_alloc_new w _
  have B0 := Lib.hid ((Below.refl w.heap.size w).alloc (Nat.le_refl _) (.cells (aB l) 26))
  revert R0 B0
  generalize w.alloc (.cells (aB l) 26) = w1
  intro R0 B0
  refine (V1.out w1).mono ?_
  rintro e w2 ⟨rfl, hb2⟩
  have R0' := Lib.hid (kept_row R0.out hb2)
  have B0' := Lib.hid (B0.out.trans (hb2.mono B0.out.size))
  clear hb2 R0 B0
  have R0 := R0'; clear R0'
  have B0 := B0'; clear B0'
  go_wp2_with (refine wpList_store_row rfl _ _ _ rfl w2.heap.size (aB x) rfl rfl 26 _ (heap_alloc_new w2 _) (aB_info HX.out) (by rw [aB_size, HX.out]; rfl) (aB_one _) ?_)
  rw [litB32]
  have hnr := new_row w2 (rowG (fun _ => 0) 32) x
  have R5 := Lib.hid hnr.1
  have R0' := Lib.hid (kept_row R0.out hnr.2)
  have B0' := Lib.hid (B0.out.trans (hnr.2.mono B0.out.size))
  clear hnr R0 B0
  revert R5 R0' B0'
  generalize (w2.alloc (.cells (rowG (fun _ => 0) 32) 26)).setRow w2.heap.size (aB x) = w3
  generalize w2.heap.size = bw3
  intro R5 R0 B0
  refine (V2.out w3).mono ?_
  rintro e w4 ⟨rfl, hb2⟩
  have R0' := Lib.hid (kept_row R0.out hb2)
  have R5' := Lib.hid (kept_row R5.out hb2)
  have B0' := Lib.hid (B0.out.trans (hb2.mono B0.out.size))
  clear hb2 R0 R5 B0
  have R0 := R0'; clear R0'
  have R5 := R5'; clear R5'
  have B0 := B0'; clear B0'
  go_wp2_with (first | refine wpList_store_row rfl _ _ _ rfl w4.heap.size (aB x) rfl rfl 26 _ (heap_alloc_new w4 _) (aB_info HX.out) (by rw [aB_size, HX.out]; rfl) (aB_one _) ?_ | refine wpList_load_row rfl _ _ rfl w.heap.size rfl 26 (aB l) (0, 0) _ (kept_row R0.out (new_row w4 _ x).2) Try.underlying26 rfl (aB_info HL.out) ?_)
  rw [litB32]
  have hnr := new_row w4 (rowG (fun _ => 0) 32) x
  have R7 := Lib.hid hnr.1
  have R0' := Lib.hid (kept_row R0.out hnr.2)
  have R5' := Lib.hid (kept_row R5.out hnr.2)
  have B0' := Lib.hid (B0.out.trans (hnr.2.mono B0.out.size))
  clear hnr R0 R5 B0
  revert R7 R0' R5' B0'
  generalize (w4.alloc (.cells (rowG (fun _ => 0) 32) 26)).setRow w4.heap.size (aB x) = w5
  generalize w4.heap.size = bw5
  intro R7 R0 R5 B0
  refine (hex_any w5 l HL.out).mono ?_
  rintro e w6 ⟨rfl, hb2⟩
  have R0' := Lib.hid (kept_row R0.out hb2)
  have R5' := Lib.hid (kept_row R5.out hb2)
  have R7' := Lib.hid (kept_row R7.out hb2)
  have B0' := Lib.hid (B0.out.trans (hb2.mono B0.out.size))
  clear hb2 R0 R5 R7 B0
  have R0 := R0'; clear R0'
  have R5 := R5'; clear R5'
  have R7 := R7'; clear R7'
  have B0 := B0'; clear B0'
  go_wp2_with fail
  refine (V3.out w6).mono ?_
  rintro e w7 ⟨rfl, hb2⟩
  have R0' := Lib.hid (kept_row R0.out hb2)
  have R5' := Lib.hid (kept_row R5.out hb2)
  have R7' := Lib.hid (kept_row R7.out hb2)
  have B0' := Lib.hid (B0.out.trans (hb2.mono B0.out.size))
  clear hb2 R0 R5 R7 B0
  have R0 := R0'; clear R0'
  have R5 := R5'; clear R5'
  have R7 := R7'; clear R7'
  have B0 := B0'; clear B0'
  go_wp2_with (refine wpList_store_row rfl _ _ _ rfl w7.heap.size (aB l) rfl rfl 26 _ (heap_alloc_new w7 _) (aB_info HL.out) (by rw [aB_size, HL.out]; rfl) (aB_one _) ?_)
  rw [litB32]
  have hnr := new_row w7 (rowG (fun _ => 0) 32) l
  have R9 := Lib.hid hnr.1
  have R0' := Lib.hid (kept_row R0.out hnr.2)
  have R5' := Lib.hid (kept_row R5.out hnr.2)
  have R7' := Lib.hid (kept_row R7.out hnr.2)
  have B0' := Lib.hid (B0.out.trans (hnr.2.mono B0.out.size))
  clear hnr R0 R5 R7 B0
  revert R9 R0' R5' R7' B0'
  generalize (w7.alloc (.cells (rowG (fun _ => 0) 32) 26)).setRow w7.heap.size (aB l) = w8
  generalize w7.heap.size = bw8
  intro R9 R0 R5 R7 B0
  have M : Hid (DigW w bw3 bw5 bw8 l x w8) := ⟨R0.out, R5.out, R7.out, R9.out, B0.out⟩
  clear R0 R5 R7 R9 B0 V1 V2 V3
  have hne : Nonempty (DigT w bw3 bw5 bw8 l x) := ⟨⟨w8, M.out⟩⟩
  have l0 : Hid (∀ w' : World, (∃ q : DigT w bw3 bw5 bw8 l x, w' = q.w) → (loadVar 26 ⟨w.heap.size, 0, none⟩).run Try.prog w' = .ok (.agg (aB l)) w') := fun w' ⟨q, hq⟩ => by subst hq; exact load_row_at _ _ _ HL.out q.2.r0
  have l5 : Hid (∀ w' : World, (∃ q : DigT w bw3 bw5 bw8 l x, w' = q.w) → (loadVar 26 ⟨bw3, 0, none⟩).run Try.prog w' = .ok (.agg (aB x)) w') := fun w' ⟨q, hq⟩ => by subst hq; exact load_row_at _ _ _ HX.out q.2.r5
  have l7 : Hid (∀ w' : World, (∃ q : DigT w bw3 bw5 bw8 l x, w' = q.w) → (loadVar 26 ⟨bw5, 0, none⟩).run Try.prog w' = .ok (.agg (aB x)) w') := fun w' ⟨q, hq⟩ => by subst hq; exact load_row_at _ _ _ HX.out q.2.r7
  have l9 : Hid (∀ w' : World, (∃ q : DigT w bw3 bw5 bw8 l x, w' = q.w) → (loadVar 26 ⟨bw8, 0, none⟩).run Try.prog w' = .ok (.agg (aB l)) w') := fun w' ⟨q, hq⟩ => by subst hq; exact load_row_at _ _ _ HL.out q.2.r9
  have eqx : ∀ w, (Op.equalIn 10000 26 (.agg (aB x)) (.agg (aB x))).run Try.prog w = .ok true w := fun w => by rw [run_equalIn_hash w x x HX.out HX.out]; simp
  have eql : ∀ w, (Op.equalIn 10000 26 (.agg (aB l)) (.agg (aB l))).run Try.prog w = .ok true w := fun w => by rw [run_equalIn_hash w l l HL.out HL.out]; simp
  have C1 : Hid (∀ q : DigT w bw3 bw5 bw8 l x, Calls Try.prog 10 #[] q.w fun e w' => e = .returned (.bool true) ∧ ∃ q' : DigT w bw3 bw5 bw8 l x, w' = q'.w) :=
    fun q => (live_any q.w).mono fun e w' h => ⟨h.1, ⟨w', q.2.keep h.2⟩, rfl⟩
  have C2 : Hid (∀ q : DigT w bw3 bw5 bw8 l x, Calls Try.prog 23 #[.agg (aB l)] q.w fun e w' => e = .returned (.string ⟨(hexOf l).toArray⟩) ∧ ∃ q' : DigT w bw3 bw5 bw8 l x, w' = q'.w) :=
    fun q => (hex_any q.w l HL.out).mono fun e w' h => ⟨h.1, ⟨w', q.2.keep h.2⟩, rfl⟩
  have C3 : Hid (∀ q : DigT w bw3 bw5 bw8 l x, Calls Try.prog 24 #[.agg (aB l)] q.w fun e w' => e = .returned (.string ⟨(hexOf l).toArray⟩) ∧ ∃ q' : DigT w bw3 bw5 bw8 l x, w' = q'.w) :=
    fun q => (hexref_any q.w l HL.out).mono fun e w' h => ⟨h.1, ⟨w', q.2.keep h.2⟩, rfl⟩
  have C4 : Hid (ec = 0 → ∀ q : DigT w bw3 bw5 bw8 l x, Calls Try.prog 23 #[.agg (aB x)] q.w fun e w' => e = .returned (.string s) ∧ ∃ q' : DigT w bw3 bw5 bw8 l x, w' = q'.w) := by
    intro h0 q
    rcases HC.out with ⟨_, h⟩ | h
    · exact (hex_any q.w x HX.out).mono fun e w' h' => ⟨h'.1.trans (by rw [h]), ⟨w', q.2.keep h'.2⟩, rfl⟩
    · omega
  have hC : ∃ q : DigT w bw3 bw5 bw8 l x, { w8 with drawn := w8.drawn + 1 } = q.w :=
    ⟨⟨{ w8 with drawn := w8.drawn + 1 }, M.out.r0, M.out.r5, M.out.r7, M.out.r9, ⟨M.out.below.os, M.out.below.tape, M.out.below.output, M.out.below.size, M.out.below.block⟩⟩, rfl⟩
  have hec : ec = 0 ∨ ec = 3 := by rcases HC.out with h | h; exact .inl h.1; exact .inr h
  generalize hexOf l = hl at *
  clear HC M
  rcases hec with rfl | rfl
  · have C4 := Lib.hid (C4.out rfl)
    refine wp_region_class (fun q : DigT w bw3 bw5 bw8 l x => q.w) (by kernel_rfl) (by kernel_rfl) hC ?_
    quiet_step (exact C1.out _)
    quiet_step (fail)
    refine wpQuiet_load _ _ bw3 (aB x) l5.out (by kernel_rfl) rfl rfl ?_
    refine wpQuiet_load _ _ bw5 (aB x) l7.out (by kernel_rfl) rfl rfl ?_
    iterate 12 quiet_step (fail)
    refine wpQuiet_load _ _ bw8 (aB l) l9.out (by kernel_rfl) rfl rfl ?_
    refine wpQuiet_load _ _ w.heap.size (aB l) l0.out (by kernel_rfl) rfl rfl ?_
    iterate 3 quiet_step (fail)
    refine wpQuiet_load _ _ w.heap.size (aB l) l0.out (by kernel_rfl) rfl rfl ?_
    quiet_step (exact C2.out _)
    refine wpQuiet_load _ _ w.heap.size (aB l) l0.out (by kernel_rfl) rfl rfl ?_
    quiet_step (exact C3.out _)
    iterate 6 quiet_step (fail)
    refine wpQuiet_load _ _ bw3 (aB x) l5.out (by kernel_rfl) rfl rfl ?_
    quiet_step (exact C4.out _)
    repeat (quiet_step (fail))
    refine wpQuiet_nil ?_
    intro w' hw'
    obtain ⟨q, rfl⟩ := hw'
    have HB := Lib.hid q.2.below
    go_wp2
    go_ret
    exact ⟨rfl, HB.out⟩
  · refine wp_region_class (fun q : DigT w bw3 bw5 bw8 l x => q.w) (by kernel_rfl) (by kernel_rfl) hC ?_
    quiet_step (exact C1.out _)
    quiet_step (fail)
    refine wpQuiet_load _ _ bw3 (aB x) l5.out (by kernel_rfl) rfl rfl ?_
    refine wpQuiet_load _ _ bw5 (aB x) l7.out (by kernel_rfl) rfl rfl ?_
    iterate 12 quiet_step (fail)
    refine wpQuiet_load _ _ bw8 (aB l) l9.out (by kernel_rfl) rfl rfl ?_
    refine wpQuiet_load _ _ w.heap.size (aB l) l0.out (by kernel_rfl) rfl rfl ?_
    iterate 3 quiet_step (fail)
    refine wpQuiet_load _ _ w.heap.size (aB l) l0.out (by kernel_rfl) rfl rfl ?_
    quiet_step (exact C2.out _)
    refine wpQuiet_load _ _ w.heap.size (aB l) l0.out (by kernel_rfl) rfl rfl ?_
    quiet_step (exact C3.out _)
    iterate 6 quiet_step (fail)
    repeat (quiet_step (fail))
    refine wpQuiet_nil ?_
    intro w' hw'
    obtain ⟨q, rfl⟩ := hw'
    have HB := Lib.hid q.2.below
    go_wp2
    go_ret
    exact ⟨rfl, HB.out⟩

theorem digits_any (w : World) (l : List UInt8) (hl : l.length = 32) (s : ByteArray) :
    Calls Try.prog 8 #[.agg (aB l), .string s] w fun e w' => e = .returned (.bool true) ∧ Below w.heap.size w w' := by
  obtain ⟨hg, hu⟩ := unhex_hex l hl
  refine digits_core w l hl s (unhex s.data.toList) (unhex_len _) (unhexE s.data.toList) ?_ (fun w => unhex_any w s) (fun w => unref_any w s) (fun w => ?_)
  · by_cases h : goodHex s.data.toList = true
    · refine .inl ⟨by simp [unhexE, h], ?_⟩
      rw [hex_unhex h]
    · exact .inr (by simp [unhexE, h])
  · have h := unhex_any w ⟨(hexOf l).toArray⟩
    have e1 : unhex (ByteArray.mk (hexOf l).toArray).data.toList = l := hu
    have e2 : unhexE (ByteArray.mk (hexOf l).toArray).data.toList = 0 := by unfold unhexE; rw [if_pos hg]
    rw [e1, e2] at h
    exact h
end Go.Proofs.Ytkhgfaccmhknjaa
