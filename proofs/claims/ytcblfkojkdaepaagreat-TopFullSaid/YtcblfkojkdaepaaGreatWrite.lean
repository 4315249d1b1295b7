/- A file is made. -/
import Derived.Test.YtcblfkojkdaepaaGreatTry
import Derived.Laws.CopyOwn
namespace Go.Proofs.YtcblfkojkdaepaaGreat
open Go.RowKit Go.ChangeMaps
theorem made_agg (i : Nat) : ((((((((((((((((Tryz.zeroCells93.setIfInBounds 0 (.int .i64 1)).setIfInBounds 1 (.int .i64 420)).setIfInBounds 2 (.int .i64 1)).setIfInBounds 3 (.int .i64 0)).setIfInBounds 4 (.int .i64 0)).setIfInBounds 5 (.int .i64 0)).setIfInBounds 6 (.int .i64 0)).setIfInBounds 7 (.int .i64 0)).setIfInBounds 8 (.int .i64 0)).setIfInBounds 9 (.int .i64 0)).setIfInBounds 10 (.int .i64 0)).setIfInBounds 11 (.int .i64 0)).setIfInBounds 12 (.int .i64 0)).setIfInBounds 13 (.int .i64 0)).setIfInBounds 14 (.int .i64 0)).setIfInBounds 15 (.int .i64 (i : Int))) = opR (opN i) := by kernel_rfl
section
variable {K : Kx} {A S : List Nat} {w : World} {N dm mb sb : Nat} {pg cur : Nat → List UInt8}
/-- What a made file leaves. -/
def MadeF (i0 b3 : Nat) (cur c : Nat → List UInt8) (w : World) : Prop := i0 < 16 ∧ w.heap[b3]? = some (.cells #[.int .i64 (i0 : Int)] 3 (0, 0)) ∧ c 1 = bmL (i0 + 1) ∧ c 2 = cur 2 ∧ ∀ t, t < 64 → (c (3 + i0 / 8))[i0 % 8 * 64 + t]? = encI[t]?
set_option maxRecDepth 100000 in
set_option maxHeartbeats 2000000 in
theorem make1_any [KAny K] (x : CX K A w N S pg cur dm) (m : MpAt w K mb) (so : SoAt w sb mb) (i0 b0 b1 b2 b3 : Nat) (hi : i0 ≤ 16) (_hi1 : 1 ≤ i0) (hc : cur 1 = bmL i0)
    (h0 : w.heap[b0]? = some (.cells #[.pointer (some ⟨sb, 0, none⟩)] 36 (0, 0))) (h1 : w.heap[b1]? = some (.cells #[.int .i64 1] 44 (0, 0))) (h2 : w.heap[b2]? = some (.cells #[.int .i64 420] 3 (0, 0))) (h3 : w.heap[b3]? = some (.cells #[.int .i64 0] 3 (0, 0))) (hb2 : b2 ∉ S) (hb3 : b3 ∉ S) (hb3p : b3 ≠ K.p) (h23 : b2 ≠ b3) :
    Calls Tryz.prog 32 #[.pointer (some ⟨b0, 0, none⟩), .pointer (some ⟨b3, 0, none⟩), .pointer (some ⟨b1, 0, none⟩), .pointer (some ⟨b2, 0, none⟩)] w fun e w2 => (e = .returned (.tuple #[]) ∧ ∃ c, StpB K A N pg [b3] S w w2 c ∧ MadeF i0 b3 cur c w2) ∨ (e = .panicked [{ v := faultV, recovered := false }] ∧ (i0 = 16 ∧ w2.heap[b3]? = some (.cells #[.int .i64 0] 3 (0, 0))) ∧ ∃ c, StpB K A N pg [b3] S w w2 c) := by
  have HIN := Lib.hid (inode_any x m i0 hi hc)
  have c0 := so.c0
  have k0 := (cell_of_row _ b0 0 _ _ _ h0).trans (rfl : _ = some (Value.pointer (some ⟨sb, 0, none⟩)))
  have HB0 := Lib.hid (x.ne h0 (by decide) (by decide) (fun e => absurd e (by decide)) (by decide))
  have HB1 := Lib.hid (x.ne h1 (by decide) (by decide) (fun e => absurd e (by decide)) (by decide))
  have HX := Lib.hid x; have HM := Lib.hid m; have HSO := Lib.hid so
  have H0 := Lib.hid h0; have H1 := Lib.hid h1; have H2 := Lib.hid h2; have H3 := Lib.hid h3; have HB2 := Lib.hid hb2; have HB3 := Lib.hid hb3; have HB3P := Lib.hid hb3p; have H23 := Lib.hid h23
  clear x m so hc h0 h1 h2 h3 hb2 hb3 hb3p h23
  go_enter Tryz.func32, Tryz.ntmps32
  go_wp2_with fail
  refine HIN.out.mono ?_
  rintro e w2 (⟨hlt, rfl, hs⟩ | ⟨hlt, rfl, hs⟩)
  · have g0 := hs.1.heap HB0.out H0.out
    have g1 := hs.1.heap HB1.out H1.out
    have g2 := hs.1.heap HB2.out H2.out
    have g3 := hs.1.heap HB3.out H3.out
    have F3 : Fr [b3] w2 (w2.setCell ⟨b3, 0, none⟩ (.int .i64 (i0 : Int))) := (Fr.refl [b3] w2).setCell (p := ⟨b3, 0, none⟩) (.inl (by simp)) _
    have r3 := heap_setCell_same w2 b3 0 _ _ (.int .i64 (i0 : Int)) g3
    have r0 := F3.heap (by simpa using ne_ty g0 g3 (by decide)) g0
    have r1 := F3.heap (by simpa using ne_ty g1 g3 (by decide)) g1
    have r2 := F3.heap (by simpa using H23.out) g2
    have k3 := (cell_of_row _ b3 0 _ _ _ g3).trans (rfl : _ = some (Value.int .i64 0))
    have f3 := frozen_of_row w2 b3 0 _ _ g3
    have kk0 := (cell_of_row _ b0 0 _ _ _ r0).trans (rfl : _ = some (Value.pointer (some ⟨sb, 0, none⟩)))
    have kk1 := (cell_of_row _ b1 0 _ _ _ r1).trans (rfl : _ = some (Value.int .i64 1))
    have kk2 := (cell_of_row _ b2 0 _ _ _ r2).trans (rfl : _ = some (Value.int .i64 420))
    have kk3 := (cell_of_row _ b3 0 _ _ _ r3).trans (rfl : _ = some (Value.int .i64 (i0 : Int)))
    have h3l := (Array.getElem?_eq_some_iff.1 H3.out).1
    have s3 := (hs.toB [b3]).turn (List.mem_singleton.2 rfl) F3 h3l HB3.out HB3P.out (Bok.of g3 (fun e => absurd e (by decide)) (by decide) (fun e => absurd e (by decide)))
    obtain ⟨S4, dm4, x4, hn4, hnx4⟩ := s3.open
    have m4 := HM.out.stpB HX.out (by simpa using ne_ty HM.out H3.out (by decide)) s3
    have so4 := HSO.out.stpB HX.out (by simpa using ne_ty HSO.out H3.out (by decide)) s3
    have HSV := Lib.hid (save_any x4 m4 so4 i0 hlt (opN i0) (opN_len i0) (opN_opl i0 hlt).num (opN_opl i0 hlt).kind (opN_bnd i0 hlt) 0 (opN_pg i0 10 (by omega)) (.inl rfl))
    have HNX := Lib.hid (fun (w' : World) (c' : Nat → List UInt8) (h : Stp K A N pg S4 _ w' c') => hnx4 h)
    have HR3 := Lib.hid r3
    have HN4 := Lib.hid (hn4 b3 h3l HB3.out)
    clear g0 g1 g2 g3 F3 r0 r1 r2 r3 hs s3 x4 hn4 hnx4 m4 so4 HIN c0 k0
    go_wp2_with fail
    rw [made_agg]
    refine HSV.out.mono ?_
    rintro e w5 ⟨rfl, c5, hs5, hc1, hc2, henc⟩
    have HS5 := Lib.hid (HNX.out _ _ hs5)
    have h35 := hs5.1.heap HN4.out HR3.out
    have HMF := Lib.hid (show MadeF i0 b3 cur c5 w5 from ⟨hlt, h35, by rw [hc1]; unfold updF; rw [if_pos rfl], by rw [hc2]; unfold updF; rw [if_neg (by omega)], henc trivial⟩)
    clear HSV HNX hs5 h35 hc1 hc2 henc
    go_wp2_with fail
    go_end0
    exact .inl ⟨rfl, _, HS5.out, HMF.out⟩
  · have h3 := hs.1.heap HB3.out H3.out
    have HS := Lib.hid hs; have HH3 := Lib.hid h3
    clear hs HIN c0 k0 h3
    go_wp2_with fail
    simp only [bodyPost]
    exact ⟨trivial, .inr ⟨rfl, ⟨hlt, HH3.out⟩, _, HS.out.toB [b3]⟩⟩
theorem heap_more {w : World} {b : Nat} {o : Obj} (h : w.heap[b]? = some o) (o' : Obj) : (w.alloc o').heap[b]? = some o := ((Fr.refl [] w).alloc o').heap (by simp) h
theorem alloc4 (w : World) (o0 o1 o2 o3 : Obj) : ((((w.alloc o0).alloc o1).alloc o2).alloc o3).heap[w.heap.size]? = some o0 ∧ ((((w.alloc o0).alloc o1).alloc o2).alloc o3).heap[w.heap.size + 1]? = some o1 ∧ ((((w.alloc o0).alloc o1).alloc o2).alloc o3).heap[w.heap.size + 2]? = some o2 ∧ ((((w.alloc o0).alloc o1).alloc o2).alloc o3).heap[w.heap.size + 3]? = some o3 := by
  have z1 : (w.alloc o0).heap.size = w.heap.size + 1 := by simp
  have z2 : ((w.alloc o0).alloc o1).heap.size = w.heap.size + 2 := by simp
  have z3 : (((w.alloc o0).alloc o1).alloc o2).heap.size = w.heap.size + 3 := by simp
  have h0 := heap_alloc_new w o0
  have h1 := heap_alloc_new (w.alloc o0) o1
  have h2 := heap_alloc_new ((w.alloc o0).alloc o1) o2
  have h3 := heap_alloc_new (((w.alloc o0).alloc o1).alloc o2) o3
  rw [z1] at h1
  rw [z2] at h2
  rw [z3] at h3
  exact ⟨heap_more (heap_more (heap_more h0 _) _) _, heap_more (heap_more h1 _) _, heap_more h2 _, h3⟩
theorem MadeF.kept {i0 b3 : Nat} {c : Nat → List UInt8} {w w' : World} {U : List Nat} (h : MadeF i0 b3 cur c w) (hf : Fr U w w') (hU : b3 ∉ U) : MadeF i0 b3 cur c w' := ⟨h.1, hf.heap hU h.2.1, h.2.2⟩
set_option maxRecDepth 100000 in
set_option maxHeartbeats 4000000 in
theorem make_any [KAny K] (x : CX K A w N S pg cur dm) (m : MpAt w K mb) (so : SoAt w sb mb) (i0 : Nat) (hi : i0 ≤ 16) (hi1 : 1 ≤ i0) (hc : cur 1 = bmL i0) :
    Calls Tryz.prog 11 #[.pointer (some ⟨sb, 0, none⟩), .int .i64 1, .int .i64 420] w fun e w' => (e = .returned (.tuple #[.int .i64 (i0 : Int), .int .i64 0]) ∧ i0 < 16 ∧ ∃ c, Stp K A N pg S w w' c ∧ c 1 = bmL (i0 + 1) ∧ c 2 = cur 2 ∧ ∀ t, t < 64 → (c (3 + i0 / 8))[i0 % 8 * 64 + t]? = encI[t]?) ∨ (e = .returned (.tuple #[.int .i64 0, .int .i64 7]) ∧ i0 = 16 ∧ Stp (Kz K) A N pg S w w' pg) := by
  have hmf : ∀ (fn : Fn) (first cap : Array Value) (w : World), (Instr.makeFunc fn first cap).run Tryz.prog w = .ok (.func fn first cap) w := fun _ _ _ _ => rfl
  obtain ⟨w1, hw1⟩ : ∃ w1, w1 = (((w.alloc (.cells #[.pointer (some ⟨sb, 0, none⟩)] 36)).alloc (.cells #[.int .i64 1] 44)).alloc (.cells #[.int .i64 420] 3)).alloc (.cells #[.int .i64 0] 3) := ⟨_, rfl⟩
  have A1 : Fr [] w w1 := by rw [hw1]; exact ((((Fr.refl [] w).alloc _).alloc _).alloc _).alloc _
  have z : w1.heap.size = w.heap.size + 4 := by rw [hw1]; simp
  obtain ⟨r0, r1, r2, r3⟩ := alloc4 w (.cells #[.pointer (some ⟨sb, 0, none⟩)] 36) (.cells #[.int .i64 1] 44) (.cells #[.int .i64 420] 3) (.cells #[.int .i64 0] 3)
  rw [← hw1] at r0 r1 r2 r3
  have x1 := x.fr0 A1
  have m1 := m.fr A1 (by simp)
  have so1 := so.fr A1 (by simp)
  have hSl : ∀ b, w.heap.size ≤ b → b ∉ S := fun b hb hm => by have := x.lt b hm; omega
  have hpl := x.plt
  have HTR := Lib.hid (try_any (Bx := [w.heap.size + 3]) x1 m1 so1 32 #[.pointer (some ⟨w.heap.size, 0, none⟩), .pointer (some ⟨w.heap.size + 3, 0, none⟩), .pointer (some ⟨w.heap.size + 1, 0, none⟩), .pointer (some ⟨w.heap.size + 2, 0, none⟩)] (MadeF i0 (w.heap.size + 3) cur) (fun w2 => i0 = 16 ∧ w2.heap[w.heap.size + 3]? = some (.cells #[.int .i64 0] 3 (0, 0))) (fun b hb => by simp at hb; subst hb; exact hSl _ (by omega)) (fun w2 w3 U h hf hU => ⟨h.1, hf.heap (hU _ (by simp)) h.2⟩) (fun args w => enter_of Tryz.func32 (by kernel_rfl) (by rfl) args w)
    (by simpa using ne_ty m1 r3 (by decide)) (by simpa using ne_ty so1 r3 (by decide)) (by simp; omega) (fun c w2 w3 h hf => h.kept hf (by simp; omega))
    (fun W hF => make1_any (x1.fr0 hF) (m1.fr hF (by simp)) (so1.fr hF (by simp)) i0 _ _ _ _ hi hi1 hc (hF.heap (by simp) r0) (hF.heap (by simp) r1) (hF.heap (by simp) r2) (hF.heap (by simp) r3) (hSl _ (by omega)) (hSl _ (by omega)) (by omega) (by omega)))
  have k0 := (cell_of_row _ _ 0 _ _ _ r0).trans (rfl : _ = some (Value.pointer (some ⟨sb, 0, none⟩)))
  have k1 := (cell_of_row _ _ 0 _ _ _ r1).trans (rfl : _ = some (Value.int .i64 1))
  have k2 := (cell_of_row _ _ 0 _ _ _ r2).trans (rfl : _ = some (Value.int .i64 420))
  have HA1 := Lib.hid A1; have HZ := Lib.hid z; have HR3 := Lib.hid r3
  have HMD := Lib.hid (mode_any w1)
  have HB3S := Lib.hid (hSl (w.heap.size + 3) (by omega)); have HB3P := Lib.hid (show w.heap.size + 3 ≠ K.p by omega)
  clear x m so A1 z r0 r1 r2 r3 x1 m1 so1 hSl hpl hc
  go_enter Tryz.func11, Tryz.ntmps11
  rw [hw1] at k0 k1 k2
  go_wp2_with fail
  rw [← hw1]
  rw [← hw1] at k0 k1 k2
  clear hw1
  refine HMD.out.mono ?_
  rintro e w1' ⟨rfl, rfl⟩
  clear HMD k1 k2
  obtain ⟨b3, hb3⟩ : ∃ b, b = w.heap.size + 3 := ⟨_, rfl⟩
  rw [← hb3] at HTR HR3 HB3S HB3P ⊢
  have HB3 := Lib.hid hb3
  clear hb3
  go_wp2_with fail
  refine HTR.out.mono ?_
  rintro e w2 (⟨rfl, c, hs, hq⟩ | ⟨rfl, h16, hs⟩)
  · have k3 := (cell_of_row _ b3 0 _ _ _ hq.2.1).trans (rfl : _ = some (Value.int .i64 (i0 : Int)))
    have f3 := frozen_of_row w2 b3 0 _ _ hq.2.1
    have F3 : Fr [b3] w2 (w2.setCell ⟨b3, 0, none⟩ (.int .i64 (i0 : Int))) := (Fr.refl [b3] w2).setCell (p := ⟨b3, 0, none⟩) (.inl (by simp)) _
    have HS := Lib.hid hs; have HQ := Lib.hid hq; have HF3 := Lib.hid F3
    clear hs hq F3 HTR k0
    go_wp2_with fail
    have hk := heap_setCell_same w2 b3 0 _ _ (.int .i64 (i0 : Int)) HQ.out.2.1
    have kk := (cell_of_row _ b3 0 _ _ _ hk).trans (rfl : _ = some (Value.int .i64 (i0 : Int)))
    refine bodyPost_ret (v := .tuple #[.int .i64 (i0 : Int), .int .i64 0]) (by simp [results, Tryz.results11, go_sem, kk]) rfl ?_
    have hfin := (HS.out.turn (List.mem_singleton.2 rfl) HF3.out (by have := HZ.out; have := HB3.out; omega) HB3S.out HB3P.out (Bok.of HQ.out.2.1 (fun e => absurd e (by decide)) (by decide) (fun e => absurd e (by decide)))).close HA1.out (fun b hb => by simp at hb; subst hb; have := HB3.out; omega)
    exact .inl ⟨rfl, HQ.out.1, c, hfin, HQ.out.2.2⟩
  · have k3 := (cell_of_row _ b3 0 _ _ _ h16.2).trans (rfl : _ = some (Value.int .i64 0))
    have f3 := frozen_of_row w2 b3 0 _ _ h16.2
    have F3 : Fr [b3] w2 (w2.setCell ⟨b3, 0, none⟩ (.int .i64 0)) := (Fr.refl [b3] w2).setCell (p := ⟨b3, 0, none⟩) (.inl (by simp)) _
    have h4 := heap_setCell_same w2 b3 0 _ _ (.int .i64 0) h16.2
    have k4 := (cell_of_row _ b3 0 _ _ _ h4).trans (rfl : _ = some (Value.int .i64 0))
    have f4 := frozen_of_row (w2.setCell ⟨b3, 0, none⟩ (.int .i64 0)) b3 0 _ _ h4
    have F4 : Fr [b3] w2 ((w2.setCell ⟨b3, 0, none⟩ (.int .i64 0)).setCell ⟨b3, 0, none⟩ (.int .i64 0)) := F3.setCell (p := ⟨b3, 0, none⟩) (.inl (by simp)) _
    have h5 := heap_setCell_same _ b3 0 _ _ (.int .i64 0) h4
    have HS := Lib.hid hs; have HF3 := Lib.hid F4; have H5 := Lib.hid h5; have H16 := Lib.hid h16
    clear hs F3 F4 h4 h5 h16 HTR k0
    go_wp2_with fail
    have kk := (cell_of_row _ b3 0 _ _ _ H5.out).trans (rfl : _ = some (Value.int .i64 0))
    refine bodyPost_ret (v := .tuple #[.int .i64 0, .int .i64 7]) (by simp [results, Tryz.results11, go_sem, kk]) rfl ?_
    have hfin := (HS.out.turn (List.mem_singleton.2 rfl) HF3.out (by have := HZ.out; have := HB3.out; omega) HB3S.out HB3P.out (Bok.of H16.out.2 (fun e => absurd e (by decide)) (by decide) (fun e => absurd e (by decide)))).close HA1.out (fun b hb => by simp at hb; subst hb; have := HB3.out; omega)
    exact .inr ⟨rfl, H16.out.1, hfin⟩
end
end Go.Proofs.YtcblfkojkdaepaaGreat
/- Bytes of zero are written into a file that has just been made. -/
namespace Go.Proofs.YtcblfkojkdaepaaGreat
open Go.RowKit Go.ChangeMaps
theorem wpList_copyP {w : World} {ops : Array Oper} {rest : List Oper} {o : Oper} {a : Act} {Q : Exit → Act → World → Prop} (hgd : o.guard = none) (d s : Operand)
    (ho : o.op = .call { callee := .builtin .copy, args := #[d, s], argTypes := #[46, 46] }) (B q cap gb off cnt c : Nat) (L : List UInt8)
    (hd : a.eval d = .slice (some ⟨q, 0, none⟩) 512 cap) (hs : a.eval s = .slice (some ⟨gb, off, none⟩) cnt c) (hP : PgO w B q cap L) (hsrc : ∀ j, j < cnt → w.cell? ⟨gb, off + j, none⟩ = some (vB 0))
    (h : ∀ w' L', PgO w' B q cap L' → Fr [q] w w' → wpList Tryz.prog ops Q rest (a.put o.dst (.int .i64 ((Nat.min cnt 512 : Nat) : Int))) w') : wpList Tryz.prog ops Q (o :: rest) a w := by
  have hsz : (Tryz.prog.info? 5).map (·.size) = some 1 := by kernel_rfl
  have hL := hP.len
  have hcap := hP.cap
  obtain ⟨h1, h2⟩ := hP
  rcases h2 with ⟨h2, _⟩ | ⟨g, cap', cur, hv, hb, hg, hn, hm, hcs, ht⟩
  · simp at h2
  simp only [Value.slice.injEq, Option.some.injEq, Addr.mk.injEq, and_true, true_and] at hv
  obtain ⟨rfl, rfl⟩ := hv
  have hk : Nat.min cnt 512 ≤ 512 := Nat.min_le_right _ _
  have hk2 : Nat.min cnt 512 ≤ cnt := Nat.min_le_left _ _
  rw [Nat.mul_one] at ht hcs
  refine wpList_copy_own hgd d s _ _ ho 5 Tryz.underlying46 hsz q 0 512 cap ⟨gb, off, none⟩ cnt c hd hs cur _ hg (List.replicate (Nat.min cnt 512) (vB 0)) (by rw [List.length_replicate]) ?_ ?_ ?_ ?_
  · intro j v hj
    rw [List.getElem?_replicate] at hj
    split at hj
    · simp only [Option.some.injEq] at hj
      rw [← hj, Addr.add_mid]
      exact hsrc j (by omega)
    · cases hj
  · rw [List.length_replicate]; omega
  · intro v hv
    rw [List.eq_of_mem_replicate hv]; rfl
  · rw [List.length_replicate, List.take_zero, List.nil_append, Nat.zero_add]
    refine h _ (List.replicate (Nat.min cnt 512) 0 ++ L.drop (Nat.min cnt 512)) ⟨by simp; omega, .inr ⟨q, cap, _, rfl, hb, setRow_heap w q cur _ _ _ hg, hn, hm, ?_, ?_⟩⟩ ⟨rfl, rfl, rfl, by simp [World.setRow], fun k hk hn => setRow_other w q k _ (by simpa using hn)⟩
    · simp; omega
    · rw [Nat.mul_one, List.map_append, List.map_replicate, List.map_drop, ← ht, List.take_append, List.length_replicate, List.take_of_length_le (by simp; omega), List.drop_take]
section
variable {K : Kx} {A S : List Nat} {w : World} {N dm mb sb : Nat} {pg cur : Nat → List UInt8}
theorem StpB.more {Bx Bx' : List Nat} {wi : World} (s : StpB K A N pg Bx S w wi cur) (h : ∀ b ∈ Bx, b ∈ Bx') : StpB K A N pg Bx' S w wi cur := by
  obtain ⟨f, r⟩ := s
  exact ⟨f.mono (fun k hk => .inl (by rcases List.mem_append.1 hk with hk | hk; exact List.mem_append_left _ (h k hk); exact List.mem_append_right _ hk)), r⟩
theorem zrowN_at {w : World} {gb n : Nat} (h : w.heap[gb]? = some (.cells (zRowN n) 5 (0, 0))) (a j : Nat) (hj : a + j < n) : w.cell? ⟨gb, a + j, none⟩ = some (vB 0) := by
  rw [cell_of_row _ _ _ _ _ _ h]
  unfold zRowN
  rw [List.getElem?_toArray, List.getElem?_map, List.getElem?_replicate, if_pos hj]; rfl
theorem needs_tk (n : Nat) : needs n = tk (pgs n) := by unfold needs tk; split <;> split <;> omega
end
end Go.Proofs.YtcblfkojkdaepaaGreat
