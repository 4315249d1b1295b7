/- The contract of (*Log).setHead. -/
import Derived.Test.YtcblfkojkdaepaaGreatDp
import Derived.Great.BuildSlice
import Derived.Lib.AppendZeros
namespace Go.Proofs.YtcblfkojkdaepaaGreat
open Go.RowKit Go.ChangeMaps

/-- A row of bytes, whole. -/
def RowB (w : World) (b : Nat) (L : List UInt8) : Prop := w.heap[b]? = some (.cells (L.map vB).toArray 5 (0, 0))
theorem RowB.rd {w : World} {b : Nat} {L : List UInt8} (h : RowB w b L) (n c : Nat) (hn : n ≤ L.length) (hc : n ≤ c) : RdB w (.slice (some ⟨b, 0, none⟩) n c) (L.take n) :=
  .inr ⟨⟨b, 0, none⟩, c, by simp [Nat.min_eq_left hn], by simp; omega, fun j u hj => ⟨b, 0, rfl, by
    rw [cell_of_row w b (0 + j) _ _ _ h, Nat.zero_add]
    rw [List.map_take, List.getElem?_take] at hj
    split at hj
    · simpa using hj
    · cases hj⟩⟩
theorem RowB.cell {w : World} {b : Nat} {L : List UInt8} (h : RowB w b L) (i : Nat) (x : UInt8) (hi : L[i]? = some x) : w.cell? ⟨b, i, none⟩ = some (vB x) := by
  rw [cell_of_row w b i _ _ _ h]; simp [hi]
theorem RowB.free {w : World} {b : Nat} {L : List UInt8} (h : RowB w b L) (i : Nat) : w.frozen? ⟨b, i, none⟩ = false := by unfold RowB at h; simp [World.frozen?, h]
theorem RowB.set {w : World} {b : Nat} {L : List UInt8} (h : RowB w b L) (i : Nat) (x : UInt8) : RowB (w.setCell ⟨b, i, none⟩ (vB x)) b (L.set i x) := by
  unfold RowB
  rw [heap_setCell_same w b i _ _ (vB x) h]
  simp [List.map_set]
theorem RowB.fr {w w' : World} {b : Nat} {L : List UInt8} {U : List Nat} (h : RowB w b L) (hf : Fr U w w') (hU : b ∉ U) : RowB w' b L := hf.heap hU h
theorem run_make4 (w : World) : (Instr.makeSlice 46 (.int .i64 4) (.int .i64 512)).run Tryz.prog w = .ok (.slice (some ⟨w.heap.size, 0, none⟩) 4 512) (w.alloc (.cells zRow 5)) := by
  obtain ⟨i0, hi, hz0, hz1, hz2⟩ := info_parts info_u8
  have h := run_make (P := Tryz.prog) w 46 5 i0 (.int .u8 0) Tryz.underlying46 hi hz0 .i64 .i64 4 512 (by omega) (by omega) (by rw [hz2]; omega) (by omega)
  rw [h, hz1]
  have e1 : (Value.int IntKind.u8 0).cells = #[.int .u8 0] := rfl
  have e2 := made_zN 512
  rw [e1, show ((512 : Int).toNat * 1) = 512 * 1 from rfl, e2]
  rfl
/-- Two bytes behind a row's first n, within the row. -/
theorem wpList_row2 {w : World} {ops : Array Oper} {rest : List Oper} {o : Oper} {a : Act} {Q : Exit → Act → World → Prop} (hgd : o.guard = none) (s x : Operand)
    (ho : o.op = .call { callee := .builtin .append, args := #[s, x], argTypes := #[46, 46] }) (g n c : Nat) (L : List UInt8) (p q : UInt8) (hs : a.eval s = .slice (some ⟨g, 0, none⟩) n c) (hR : RowB w g L) (b : Nat) (hx : a.eval x = .slice (some ⟨b, 0, none⟩) 2 2) (hy : RowB w b [p, q])
    (hn : n + 2 ≤ L.length) (hc : n + 2 ≤ c)
    (h : ∀ w', RowB w' g (L.take n ++ [p, q] ++ L.drop (n + 2)) → Fr [g] w w' → wpList Tryz.prog ops Q rest (a.put o.dst (.slice (some ⟨g, 0, none⟩) (n + 2) c)) w') : wpList Tryz.prog ops Q (o :: rest) a w := by
  obtain ⟨i0, hi, hz0, hz1, hz2⟩ := info_parts info_u8
  have hr := run_append_room (P := Tryz.prog) w 46 o.type 5 i0 Tryz.underlying46 hi g n c _ hR ⟨b, 0, none⟩ 2 2 [vB p, vB q] (by rw [hz1]; rfl) (fun j u hj => by
    rw [show (⟨b, 0, none⟩ : Addr).add j = ⟨b, j, none⟩ by unfold Addr.add; split <;> simp_all]
    rw [cell_of_row w b j _ _ _ hy]
    simpa using hj) (fun u hu => by simp at hu; rcases hu with rfl | rfl <;> rfl) hc (by rw [hz1]; simp; omega)
  refine Lib.wpList_append_run w hgd s x _ _ ho _ _ hs hx _ _ hr (h _ ?_ ⟨rfl, rfl, rfl, by simp, fun k _ hk => setRow_other w g k _ (fun e => hk (by simp [e]))⟩)
  unfold RowB
  rw [setRow_heap w g _ _ _ _ hR, hz1]
  simp
theorem fill2 (x y : Int) : Instr.fill (fun i => some (i * 1, 1)) ((Array.range (2 * 1)).map ((Value.int .u8 0).cells[· % (Value.int .u8 0).cells.size]!)) [(0, .int .u8 x), (1, .int .u8 y)] = some #[.int .u8 x, .int .u8 y] := by kernel_rfl
theorem wpList_lit2 {ops : Array Oper} {rest : List Oper} {o : Oper} {a : Act} {w : World} {Q : Exit → Act → World → Prop} (hg : o.guard = none) (o0 o1 : Operand)
    (ho : o.op = .buildSlice 46 2 #[(0, o0), (1, o1)]) (p q : UInt8) (z0 z1 : Int) (h0 : a.eval o0 = .int .u8 z0) (h1 : a.eval o1 = .int .u8 z1) (hp : z0 = n8 p) (hq : z1 = n8 q)
    (h : ∀ wx, Fr [] w wx → RowB wx w.heap.size [p, q] → wpList Tryz.prog ops Q rest (a.put o.dst (.slice (some ⟨w.heap.size, 0, none⟩) 2 2)) wx) : wpList Tryz.prog ops Q (o :: rest) a w := by
  subst hp; subst hq
  obtain ⟨i0, hi, hz0, hz1, hz2⟩ := info_parts info_u8
  refine wpList_buildSlice hg 46 5 2 _ ho (#[vB p, vB q]) i0 (.int .u8 0) Tryz.underlying46 hi hz0 (by rw [hz1]; decide) (by rw [hz1]; decide) ?hf (h _ ((Fr.refl _ _).alloc _) (heap_alloc_new w _))
  simp only [hz1, List.map_toArray, List.map_cons, List.map_nil, h0, h1]
  exact fill2 _ _
/-- What stands in the head's row when j numbers are written. -/
def hdJ (ns : List Nat) (j : Nat) : List UInt8 := [0x44, 0x4e, UInt8.ofNat (ns.length / 256), UInt8.ofNat ns.length] ++ ((ns.take j).map fun n => [UInt8.ofNat (n / 256), UInt8.ofNat n]).flatten ++ List.replicate (512 - (4 + 2 * j)) 0
theorem hd_two (l : List Nat) : (l.map fun n => [UInt8.ofNat (n / 256), UInt8.ofNat n]).flatten.length = 2 * l.length := by
  induction l with
  | nil => rfl
  | cons x l ih => simp only [List.map_cons, List.flatten_cons, List.length_append, ih, List.length_cons, List.length_nil]; omega
theorem hdJ_len (ns : List Nat) (j : Nat) (hj : j ≤ ns.length) (h : ns.length ≤ 100) : (hdJ ns j).length = 512 := by
  unfold hdJ
  simp only [List.length_append, hd_two, List.length_take, List.length_replicate, List.length_cons, List.length_nil]
  omega
theorem hdJ_step (ns : List Nat) (j n : Nat) (hj : ns[j]? = some n) (h : ns.length ≤ 100) : (hdJ ns j).take (4 + 2 * j) ++ [UInt8.ofNat (n / 256), UInt8.ofNat n] ++ (hdJ ns j).drop (4 + 2 * j + 2) = hdJ ns (j + 1) := by
  have hl := (List.getElem?_eq_some_iff.1 hj).1
  obtain ⟨A, hA⟩ : ∃ A, A = [0x44, 0x4e, UInt8.ofNat (ns.length / 256), UInt8.ofNat ns.length] ++ ((ns.take j).map fun n => [UInt8.ofNat (n / 256), UInt8.ofNat n]).flatten := ⟨_, rfl⟩
  have hAl : A.length = 4 + 2 * j := by
    rw [hA]
    simp only [List.length_append, hd_two, List.length_take, List.length_cons, List.length_nil]
    omega
  have e1 : hdJ ns j = A ++ List.replicate (512 - (4 + 2 * j)) 0 := by rw [hA]; rfl
  have e2 : hdJ ns (j + 1) = A ++ [UInt8.ofNat (n / 256), UInt8.ofNat n] ++ List.replicate (512 - (4 + 2 * j + 2)) 0 := by
    rw [hA]; unfold hdJ
    rw [List.take_add_one, hj]
    simp [Nat.mul_add]
    omega
  rw [e1, e2, ← hAl, List.take_left, List.drop_append, List.drop_eq_nil_of_le (by omega), List.nil_append, List.drop_replicate]
  congr 2
  omega
theorem hdJ_full (ns : List Nat) : hdJ ns ns.length = hdB ns := by
  unfold hdJ hdB hdL
  rw [List.take_length]
theorem hd_hi (n : Nat) (h : n < 65536) : n8 (UInt8.ofNat (n / 256)) = ((n / 256 : Nat) : Int) := by unfold n8; rw [UInt8.toNat_ofNat']; omega
theorem hd_lo (n : Nat) : n8 (UInt8.ofNat n) = ((n % 256 : Nat) : Int) := by unfold n8; rw [UInt8.toNat_ofNat']
set_option maxRecDepth 100000 in
set_option maxHeartbeats 4000000 in
theorem setHead_any (w : World) {p g bs bm s : Nat} {F : List Value} {ops : List (Option (Nat × Value))} (L : LogAt w p g s) (D : DiskP w g bs bm F ops) (hp : p ∉ [g, bs, bm]) (h0 : (play F ops).2 = []) (hF : F.length ≤ 4096) (hF0 : 0 < F.length) (hO : ops.length ≤ 100000) (nv : Value) (ns : List Nat) (hn : RdV w nv (ns.map fun (n : Nat) => Value.int .i64 (n : Int))) (hl : ns.length ≤ 100) (hb : ∀ n ∈ ns, n < 65536) :
    Calls Tryz.prog 52 #[.pointer (some ⟨p, 0, none⟩), nv] w fun e w' => e = .returned (.tuple #[]) ∧ Fr [g, bs, bm] w w' ∧ ∃ u, (∃ a k c, u = .slice a k c) ∧ Dat [g, bs, bm] w' u (hdB ns) ∧ DiskP w' g bs bm F (ops ++ [some (0, u), none]) := by
  obtain ⟨na, nc, e, hnr⟩ := hn.open
  rw [List.length_map] at e
  subst e
  have HL := Lib.hid L; have HD := Lib.hid D; have HN := Lib.hid hn; have HNR := Lib.hid hnr; have HBN := Lib.hid hb
  have hmk := run_make4
  have l0 : (ns.length : Int) ≤ 100 := by omega
  clear L D hn hnr hb
  go_enter Tryz.func52, Tryz.ntmps52
  go_upto_region 1 with fail
  have R0 := Lib.hid (show RowB (w.alloc (.cells zRow 5)) w.heap.size zBytes from heap_alloc_new w _)
  have F0 := Lib.hid ((Fr.refl [] w).alloc (.cells zRow 5))
  have G0 := Lib.hid (show w.heap.size < (w.alloc (.cells zRow 5)).heap.size by simp)
  clear hmk
  revert R0 F0 G0
  generalize w.alloc (.cells zRow 5) = W1
  intro R0 F0 G0
  obtain ⟨gr, hgr⟩ : ∃ x, x = w.heap.size := ⟨_, rfl⟩
  rw [← hgr] at R0 G0 ⊢
  have HG := Lib.hid hgr
  clear hgr
  have c0 : W1.cell? ⟨gr, 0, none⟩ = some (.int .u8 0) := R0.out.cell 0 0 rfl
  have c1 : W1.cell? ⟨gr, 1, none⟩ = some (.int .u8 0) := R0.out.cell 1 0 rfl
  have c2 : W1.cell? ⟨gr, 2, none⟩ = some (.int .u8 0) := R0.out.cell 2 0 rfl
  have c3 : W1.cell? ⟨gr, 3, none⟩ = some (.int .u8 0) := R0.out.cell 3 0 rfl
  have f0 := R0.out.free 0; have f1 := R0.out.free 1; have f2 := R0.out.free 2; have f3 := R0.out.free 3
  go_upto_region 2 with fail
  have RS := (((R0.out.set 0 0x44).set 1 0x4e).set 2 (UInt8.ofNat (ns.length / 256))).set 3 (UInt8.ofNat ns.length)
  have z4 : zBytes = 0 :: 0 :: 0 :: 0 :: List.replicate 508 0 := rfl
  have z5 : (((zBytes.set 0 0x44).set 1 0x4e).set 2 (UInt8.ofNat (ns.length / 256))).set 3 (UInt8.ofNat ns.length) = hdJ ns 0 := by
    rw [z4]; simp [hdJ]
  rw [z5] at RS
  unfold vB at RS
  rw [hd_hi _ (by omega), hd_lo, Nat.mod_eq_of_lt (by omega), Int.natCast_ediv] at RS
  have R1 := Lib.hid (show RowB ((((W1.setCell ⟨gr, 0, none⟩ (.int .u8 68)).setCell ⟨gr, 1, none⟩ (.int .u8 78)).setCell ⟨gr, 2, none⟩ (.int .u8 ((ns.length : Int) / 256))).setCell ⟨gr, 3, none⟩ (.int .u8 (ns.length : Int))) gr (hdJ ns 0) from RS)
  have F1 := Lib.hid (((((F0.out.setCell (p := ⟨gr, 0, none⟩) (.inr (by show w.heap.size ≤ gr; have := HG.out; omega)) (.int .u8 68)).setCell (p := ⟨gr, 1, none⟩) (.inr (by show w.heap.size ≤ gr; have := HG.out; omega)) (.int .u8 78)).setCell (p := ⟨gr, 2, none⟩) (.inr (by show w.heap.size ≤ gr; have := HG.out; omega)) (.int .u8 ((ns.length : Int) / 256))).setCell (p := ⟨gr, 3, none⟩) (.inr (by show w.heap.size ≤ gr; have := HG.out; omega)) (.int .u8 (ns.length : Int))))
  clear RS z4 z5 c0 c1 c2 c3 f0 f1 f2 f3 R0 F0 G0
  revert R1 F1
  generalize (((W1.setCell ⟨gr, 0, none⟩ (.int .u8 68)).setCell ⟨gr, 1, none⟩ (.int .u8 78)).setCell ⟨gr, 2, none⟩ (.int .u8 ((ns.length : Int) / 256))).setCell ⟨gr, 3, none⟩ (.int .u8 (ns.length : Int)) = W2
  intro R1 F1
  go_wp2_with fail
  go_loopw [4, 25] (fun b i wr => ∃ j : Nat, j ≤ ns.length ∧ b = .slice (some ⟨gr, 0, none⟩) (4 + 2 * j) 512 ∧ i = .int .i64 (j : Int) ∧ RowB wr gr (hdJ ns j) ∧ Fr [] w wr) (fun _ i _ => ((ns.length : Int) - intOf i).toNat)
  case atStart => exact ⟨0, by omega, rfl, by simp, R1.out, F1.out⟩
  case round =>
    obtain ⟨j, hj, rfl, rfl, hR, hF1⟩ := hrel
    have HR := Lib.hid hR; have HF := Lib.hid hF1
    clear hR hF1
    by_cases hlt : j < ns.length
    · obtain ⟨n, hnj⟩ : ∃ n, ns[j]? = some n := ⟨ns[j], List.getElem?_eq_getElem hlt⟩
      have hn6 := HBN.out n (List.mem_of_getElem? hnj)
      obtain ⟨b, off, rfl, hcell⟩ := HNR.out j (.int .i64 (n : Int)) (by rw [List.getElem?_map, hnj]; rfl)
      have hc : wr.cell? ⟨b, off + j, none⟩ = some (.int .i64 (n : Int)) := HF.out.cell (p := ⟨b, off + j, none⟩) (by simp) hcell
      have i0 : (j : Int) < (ns.length : Int) := by omega
      have HJ := Lib.hid hnj
      have n0 : (n : Int) < 65536 := by omega
      clear hcell hnj
      go_wp2_with (refine wpList_lit2 rfl (.tmp 32) (.tmp 34) rfl (UInt8.ofNat (n / 256)) (UInt8.ofNat n) ((n : Int) / 256) ((n : Int) % 256) rfl rfl ?h1 ?h2 ?_)
      case h1 => rw [hd_hi n hn6, Int.natCast_ediv]; rfl
      case h2 => rw [hd_lo n, Int.natCast_emod]; rfl
      intro wx hfx hrx
      have HX := Lib.hid hrx; have HFX := Lib.hid hfx
      have HRX := Lib.hid (HR.out.fr hfx (by simp))
      clear hfx hrx HR
      refine wpList_row2 rfl (.tmp 29) (.tmp 35) rfl gr (4 + 2 * j) 512 (hdJ ns j) _ _ rfl HRX.out wr.heap.size rfl HX.out (by rw [hdJ_len ns j hj hl]; omega) (by omega) ?_
      intro wy hry hfy
      have HY := Lib.hid (show RowB wy gr (hdJ ns (j + 1)) from hdJ_step ns j n HJ.out hl ▸ hry)
      have HFY := Lib.hid ((HF.out.trans (HFX.out.then (Fr.refl [] wx) (by simp) |>.mono (by simp))).then hfy (fun x hx => .inr (by simp at hx; rw [hx, HG.out]; exact Nat.le_refl _)))
      clear hry hfy HX HFX HRX HF hc
      go_wp2_with fail
      exact ⟨⟨j + 1, by omega, by simp; omega, by simp, HY.out, HFY.out⟩, by simp [intOf]; omega⟩
    · obtain rfl : j = ns.length := by omega
      have HRD := Lib.hid (show RdB wr (.slice (some ⟨gr, 0, none⟩) 512 512) (hdB ns) by
        have h := HR.out.rd 512 512 (by rw [hdJ_len ns _ hj hl]; omega) (by omega)
        rwa [List.take_of_length_le (by rw [hdJ_len ns _ hj hl]; omega), hdJ_full] at h)
      have HLB := Lib.hid (show (hdB ns).length = 512 by rw [← hdJ_full]; exact hdJ_len ns _ (Nat.le_refl _) hl)
      have hc := HF.out.cell (by simp) HL.out.c0
      have hc2 := cell_dr hc
      have HDW := Lib.hid (show Calls Tryz.prog 50 #[.pointer (some ⟨g, 0, none⟩), .int .i64 0, .slice (some ⟨gr, 0, none⟩) 512 512] wr.drew fun e w' => e = .returned (.int .i64 0) ∧ Fr [g, bs, bm] wr.drew w' ∧ ∃ u, (∃ a k c, u = .slice a k c) ∧ Dat [g, bs, bm] w' u (hdB ns) ∧ DiskP w' g bs bm F (ops ++ [some (0, u)]) from
        dpw_any wr.drew (HD.out.fr (HF.out.trans (Fr.drew _)) (by simp)) hF (by omega) 0 hF0 (by rw [h0]; simp) _ (hdB ns) (HRD.out.below ((Fr.drew (S := []) wr).below (Nat.le_refl _) (by simp))) HLB.out)
      have l4 : (4 : Int) + 2 * (ns.length : Int) ≤ 512 := by omega
      clear HR HRD HNR HN R1 F1
      go_wp2_with fail
      go_region_with (refine HDW.out.mono ?_; rintro r w5 ⟨rfl, hf5, u, hu, hd, D5⟩; (have HF5 := Lib.hid hf5); (have HU := Lib.hid hu); (have HDU := Lib.hid hd); (have HD5 := Lib.hid D5); clear hf5 hu hd D5)
      have hc5 : w5.cell? ⟨p, 0, none⟩ = some (.pointer (some ⟨g, 0, none⟩)) := HF5.out.cell (p := ⟨p, 0, none⟩) hp hc2
      clear hc hc2 HDW l4
      go_wp2_with fail
      refine (dpf_any w5 HD5.out hF (by simp; omega)).mono ?_
      rintro r w6 ⟨rfl, hf6, D6⟩
      have HR6 := Lib.hid (show Fr [g, bs, bm] w w6 ∧ ∃ u, (∃ a k c, u = .slice a k c) ∧ Dat [g, bs, bm] w6 u (hdB ns) ∧ DiskP w6 g bs bm F (ops ++ [some (0, u), none]) from
        ⟨(((HF.out.trans (Fr.drew _)).mono (by simp)).trans HF5.out).trans hf6, u, HU.out, RdN.fr HDU.out hf6 (fun k hk => .inl hk), by rw [List.append_assoc] at D6; exact D6⟩)
      clear hf6 D6 hc5 HF5 HU HDU HD5 HF
      go_wp2_with fail
      go_end0
      exact ⟨rfl, HR6.out⟩
end Go.Proofs.YtcblfkojkdaepaaGreat
