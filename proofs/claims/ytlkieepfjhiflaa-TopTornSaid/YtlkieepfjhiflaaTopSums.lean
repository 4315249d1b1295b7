/- The contract of TopSums: at whatever bytes and number. -/
import Derived.Test.YtlkieepfjhiflaaNew
import Derived.Test.YtlkieepfjhiflaaCrash
import Derived.Test.YtlkieepfjhiflaaEqHash
import Derived.Test.YtlkieepfjhiflaaCrc
import Derived.Laws.CopyOwn
import Derived.RegionTactic
namespace Go.Proofs.Ytlkieepfjhiflaa
open Go.RowKit Go.ChangeMaps

/-- A row of N bytes with l's first ones. -/
def padB (N : Nat) (l : List UInt8) : List UInt8 := l.take N ++ List.replicate (N - l.length) 0
theorem padB_len (N : Nat) (l : List UInt8) : (padB N l).length = N := by simp [padB]; omega
theorem splice_pad (N : Nat) (l : List UInt8) : splice ((List.replicate N (0 : UInt8)).map vB) 0 ((l.take N).map vB) = (padB N l).map vB := by
  unfold splice padB
  rw [List.take_zero, List.nil_append, List.length_map, Nat.zero_add, ← List.map_drop, ← List.map_append, List.drop_replicate, List.length_take]
  congr 2
  congr 1
  omega
/-- 'copy(x, a)': x a row of zeros of one's own. -/
theorem wpList_copyB {w : World} {ops : Array Oper} {rest : List Oper} {o : Oper} {a : Act} {Q : Exit → Act → World → Prop} (hgd : o.guard = none) (d s : Operand)
    (ho : o.op = .call { callee := .builtin .copy, args := #[d, s], argTypes := #[22, 22] }) (g N : Nat) (v : Value) (l : List UInt8)
    (hd : a.eval d = .slice (some ⟨g, 0, none⟩) N N) (hs : a.eval s = v) (hg : w.heap[g]? = some (.cells (zRowN N) 5 (0, 0))) (hv : RdB w v l)
    (h : ∀ w' (k : Value), w'.heap[g]? = some (.cells ((padB N l).map vB).toArray 5 (0, 0)) → Fr [g] w w' → wpList Try.prog ops Q rest (a.put o.dst k) w') : wpList Try.prog ops Q (o :: rest) a w := by
  have hsz : (Try.prog.info? 5).map (·.size) = some 1 := by kernel_rfl
  obtain ⟨sa, sc, rfl, hc⟩ := RdV.open hv
  rw [List.length_map] at hs
  by_cases h0 : Nat.min l.length N = 0
  · refine wpList_copy_nothing hgd d s _ _ ho 5 Try.underlying22 hsz _ sa N N l.length sc hd hs h0 ?_
    refine h w _ ?_ (Fr.refl _ _)
    rw [hg]
    have e : zRowN N = ((padB N l).map vB).toArray := by
      rw [← splice_pad]
      have : l.take N = [] := List.eq_nil_of_length_eq_zero (by rw [List.length_take]; have : min N l.length = Nat.min l.length N := Nat.min_comm _ _; omega)
      rw [this]
      simp [splice, zRowN]
    rw [e]
  · have hpos : 0 < l.length := by
      rcases Nat.eq_zero_or_pos l.length with h | h
      · rw [h] at h0; simp at h0
      · exact h
    obtain ⟨b, off, rfl, _⟩ := hc 0 (vB l[0]) (by simp [hpos])
    refine wpList_copy_own hgd d s _ _ ho 5 Try.underlying22 hsz g 0 N N ⟨b, off, none⟩ l.length sc hd hs (zRowN N) _ hg ((l.take N).map vB) (by rw [List.length_map, List.length_take]; exact Nat.min_comm _ _) ?_ ?_ (vB_one _) ?_
    · intro j u hj
      rw [List.map_take, List.getElem?_take] at hj
      split at hj
      · obtain ⟨b', off', e, hcell⟩ := hc j u hj
        cases e
        rw [Addr.add_mid]; exact hcell
      · cases hj
    · have : (zRowN N).size = N := by simp [zRowN]
      rw [this, List.length_map, List.length_take]
      omega
    · refine h _ _ ?_ ?_
      · have hr := setRow_heap w g (zRowN N) ((zRowN N).toList.take 0 ++ ((l.take N).map vB ++ (zRowN N).toList.drop (0 + ((l.take N).map vB).length))).toArray 5 _ hg
        rw [hr, ← splice_pad]
        rfl
      · exact ⟨rfl, rfl, rfl, by simp [World.setRow], fun k hk hn => setRow_other w g k _ (by simpa using hn)⟩
/-- Two rows of bytes, made. -/
def Two (w wc : World) (X Y : List UInt8) (s t : Value) : Prop := ∃ bx by_ : Nat, s = .slice (some ⟨bx, 0, none⟩) 512 512 ∧ t = .slice (some ⟨by_, 0, none⟩) 512 512 ∧ bx ≠ by_ ∧ w.heap.size ≤ bx ∧ w.heap.size ≤ by_ ∧
  wc.heap[bx]? = some (.cells (X.map vB).toArray 5 (0, 0)) ∧ wc.heap[by_]? = some (.cells (Y.map vB).toArray 5 (0, 0)) ∧ Fr [] w wc
theorem two_blocks (w : World) (A B : Obj) : ((w.alloc A).alloc B).heap[w.heap.size]? = some A ∧ ((w.alloc A).alloc B).heap[w.heap.size + 1]? = some B ∧ Fr [] w ((w.alloc A).alloc B) := by
  refine ⟨?_, ?_, ((Fr.refl _ _).alloc _).alloc _⟩
  · exact ((Fr.refl [] (w.alloc A)).alloc B).heap (by simp) (heap_alloc_new w A)
  · have := heap_alloc_new (w.alloc A) B
    simpa using this
theorem two_a (w : World) : Two w ((w.alloc (.cells zRow 5)).alloc (.cells zRow 5)).drew zBytes zBytes (.slice (some ⟨w.heap.size, 0, none⟩) 512 512) (.slice (some ⟨w.heap.size + 1, 0, none⟩) 512 512) := by
  obtain ⟨h1, h2, h3⟩ := two_blocks w (.cells zRow 5) (.cells zRow 5)
  exact ⟨_, _, rfl, rfl, by omega, by omega, by omega, h1, h2, h3.trans (Fr.drew _)⟩
theorem two_b (w : World) : Two w ((w.alloc (.cells zRow 5)).alloc (.cells zRow 5)).drew zBytes zBytes (.slice (some ⟨w.heap.size + 1, 0, none⟩) 512 512) (.slice (some ⟨w.heap.size, 0, none⟩) 512 512) := by
  obtain ⟨h1, h2, h3⟩ := two_blocks w (.cells zRow 5) (.cells zRow 5)
  exact ⟨_, _, rfl, rfl, by omega, by omega, by omega, h2, h1, h3.trans (Fr.drew _)⟩
theorem row_dat {w : World} {b N : Nat} {l : List UInt8} {S : List Nat} (h : w.heap[b]? = some (.cells (l.map vB).toArray 5 (0, 0))) (hS : b ∉ S) (hl : l.length = N) : Dat S w (.slice (some ⟨b, 0, none⟩) N N) l := by
  subst hl
  refine .inr ⟨b, 0, l.length, by simp, by simp, hS, ⟨_, _, h⟩, fun j u hj => ?_⟩
  rw [cell_of_row w b (0 + j) _ _ _ h, Nat.zero_add, List.getElem?_toArray]; exact hj
/-- The disk behind a write, a flush, and a write; what the second one's sectors are. -/
theorem sum_eq_self (d : List UInt8) (h : d.length = 32) (w : World) : (Op.equalIn 10000 33 (.agg (aB d)) (.agg (aB d))).run Try.prog w = .ok true w := by
  rw [run_equalIn_hash w _ _ h h]; simp
set_option maxRecDepth 100000 in
set_option maxHeartbeats 16000000 in
theorem topSums_any (w : World) (va vb : Value) (la lb : List UInt8) (ha : RdB w va la) (hb : RdB w vb lb) (n : Nat) (hn : n < 256) :
    Calls Try.prog 3 #[va, vb, .int .u8 (n : Int)] w fun e w' => e = .returned (.bool true) ∧ Below w.heap.size w w' := by
  have HA := Lib.hid ha; have HB := Lib.hid hb
  obtain ⟨aa, ac, rfl, _⟩ := RdB.open ha
  obtain ⟨ba, bc, rfl, _⟩ := RdB.open hb
  clear ha hb
  have k0 : (0 : Int) ≤ (n : Int) := by omega
  have hm2 := run_makeSec
  by_cases hkeep : 128 ≤ n
  · have kk : (128 : Int) ≤ (n : Int) := by omega
    go_enter Try.func3, Try.ntmps3
    go_wp2_with fail
    refine (new_disk _ 6 (by omega) (by omega)).mono ?_
    rintro e w1 ⟨g, bs, bm, F, rfl, D1, hF, hdat, hb1, h1, h2, h3⟩
    have HD1 := Lib.hid D1; have HF := Lib.hid hF; have HB1 := Lib.hid hb1
    clear D1 hF hdat hb1
    go_wp2_with fail
    go_upto_region 5 with fail
    go_cut [10, 11] (fun s t wc => Two w1 wc zBytes zBytes s t)
    case first =>
      go_region
      all_goals (go_wp2_with fail; go_meet; first | exact two_a w1 | exact two_b w1)
    case rest =>
    obtain ⟨bx, by_, rfl, rfl, hne, hx0, hy0, hx, hy, hfr⟩ := hcut
    have hlt := HD1.out.lt
    have HX := Lib.hid hx; have HY := Lib.hid hy; have HFR := Lib.hid hfr
    clear hx hy hfr hm2
    go_wp2_with (refine wpList_copyB rfl (.tmp 31) (.tmp 32) rfl bx 512 _ la rfl rfl HX.out (RdV.below HA.out (HB1.out.trans ((HFR.out.below (Nat.le_refl _) (by simp)).mono HB1.out.size))) ?_)
    intro w3 kx hx3 hf3
    have HF3 := Lib.hid (HFR.out.then hf3 (fun x hx => .inr (by simp at hx; omega)))
    have HX3 := Lib.hid hx3; have HY3 := Lib.hid (hf3.heap (b := by_) (by simpa using fun q => hne q.symm) HY.out)
    clear hx3 hf3 HX HY HFR
    go_wp2_with (refine wpList_copyB rfl (.tmp 34) (.tmp 35) rfl by_ 512 _ lb rfl rfl HY3.out (RdV.below HB.out (HB1.out.trans ((HF3.out.below (Nat.le_refl _) (by simp)).mono HB1.out.size))) ?_)
    intro w4 ky hy4 hf4
    have HF4 := Lib.hid (HF3.out.then hf4 (fun x hx => .inr (by simp at hx; omega)))
    have HY4 := Lib.hid hy4; have HX4 := Lib.hid (hf4.heap (b := bx) (by simpa using hne) HX3.out)
    clear hy4 hf4 HX3 HY3 HF3
    have D4 := HD1.out.fr HF4.out (by simp)
    have HS6 := Lib.hid (show F.length = 6 from HF.out)
    have X4 := Lib.hid (row_dat (S := [g, bs, bm]) HX4.out (by simp; omega) (padB_len 512 la))
    have Y4 := Lib.hid (row_dat (S := [g, bs, bm]) HY4.out (by simp; omega) (padB_len 512 lb))
    have HB4 := Lib.hid (HB1.out.trans ((HF4.out.below (Nat.le_refl _) (by simp)).mono HB1.out.size))
    have HD4 := Lib.hid D4
    clear D4 HX4 HY4 HF4 HD1 HB1 hx0 hy0 hlt
    obtain ⟨k, hk, hk6⟩ : ∃ k : Nat, (n : Int) % 6 = (k : Int) ∧ k < 6 := ⟨n % 6, by omega, by omega⟩
    have n255 : (n : Int) ≤ 255 := by omega
    go_wp2_with fail
    refine (dwrite_any _ HD4.out (by have := HS6.out; omega) (by simp) k (by have := HS6.out; omega) (by simp) _ (padB 512 la) X4.out.rd (padB_len _ _)).mono ?_
    rintro e w5 ⟨rfl, f5, e1, hk1, hd1, D5⟩
    have hs5 : ∀ x ∈ [g, bs, bm], w.heap.size ≤ x := by intro x hx; simp at hx; omega
    have HB5 := Lib.hid (HB4.out.trans (f5.below (B := w.heap.size) HB4.out.size hs5))
    have X5 := Lib.hid (RdN.fr X4.out f5 (fun x hx => .inl hx)); have Y5 := Lib.hid (RdN.fr Y4.out f5 (fun x hx => .inl hx))
    have HD5 := Lib.hid D5; have Hd1 := Lib.hid hd1; have HK1 := Lib.hid hk1
    clear D5 hd1 hk1 f5 HD4 X4 Y4 HB4
    go_wp2_with fail
    refine (dflush_any _ HD5.out (by have := HS6.out; omega) (by simp)).mono ?_
    rintro e w6 ⟨rfl, f6, D6⟩
    have HB6 := Lib.hid (HB5.out.trans (f6.below (B := w.heap.size) HB5.out.size hs5))
    have X6 := Lib.hid (RdN.fr X5.out f6 (fun x hx => .inl hx)); have Y6 := Lib.hid (RdN.fr Y5.out f6 (fun x hx => .inl hx))
    have HD6 := Lib.hid D6; have Hd6 := Lib.hid (RdN.fr Hd1.out f6 (fun x hx => .inl hx))
    clear D6 f6 HD5 X5 Y5 HB5 Hd1
    go_wp2_with fail
    refine (dwrite_any _ HD6.out (by rw [flu_length]; have := HS6.out; omega) (by simp) k (by rw [flu_length]; have := HS6.out; omega) (by simp) _ (padB 512 lb) (RdN.rd Y6.out) (padB_len _ _)).mono ?_
    rintro e w7 ⟨rfl, f7, e2, hk2, hd2, D7⟩
    have HB7 := Lib.hid (HB6.out.trans (f7.below (B := w.heap.size) HB6.out.size hs5))
    have X7 := Lib.hid (RdN.fr X6.out f7 (fun x hx => .inl hx)); have Y7 := Lib.hid (RdN.fr Y6.out f7 (fun x hx => .inl hx))
    have HD7 := Lib.hid D7; have Hd7 := Lib.hid (RdN.fr Hd6.out f7 (fun x hx => .inl hx)); have Hd2 := Lib.hid hd2; have HK2 := Lib.hid hk2
    clear D7 f7 HD6 X6 Y6 HB6 Hd6 hd2 hk2
    go_wp2_with fail
    refine (crash_any _ HD7.out (by rw [flu_length]; have := HS6.out; omega) (by rw [flu_length]; have := HS6.out; omega) (by simp) _ [] (.inl ⟨rfl, rfl⟩) (by simp) (by simp)).mono ?_
    rintro e w8 ⟨gc, bsc, bmc, rfl, DC, hb8, hgc1, hgc2, hgc3⟩
    have HB8 := Lib.hid (HB7.out.trans (hb8.mono HB7.out.size))
    have HD8 := Lib.hid (HD7.out.fr (Fr.of_below (S := []) hb8) (by simp))
    have Y8 := Lib.hid (RdV.below (RdN.rd Y7.out) hb8); have Hd8 := Lib.hid (RdV.below (RdN.rd Hd2.out) hb8)
    clear DC hb8 hgc1 hgc2 hgc3 HD7 X7 Y7 HB7 Hd7 Hd2
    go_wp2_with fail
    refine (crash_any _ (HD8.out.fr ((Fr.refl [] w8).alloc _) (by simp)) (by rw [flu_length]; have := HS6.out; omega) (by rw [flu_length]; have := HS6.out; omega) (by simp) _ [1] (rd_one w8 (.int .i64 1) 3) (by simp) (by simp)).mono ?_
    rintro e w8b ⟨gd, bsd, bmd, rfl, DC, hb8, hgc1, hgc2, hgc3⟩
    have hba8 : Below w8.heap.size w8 (w8.alloc (.cells #[.int .i64 1] 3)) := (Below.refl _ _).alloc (Nat.le_refl _) _
    have hb88 : Below w8.heap.size w8 w8b := hba8.trans (hb8.mono (by simp))
    have HC := Lib.hid DC
    have Y8b := Lib.hid (RdV.below Y8.out hb88); have HVD := Lib.hid (show RdB w8b e2.v (padB 512 lb) from RdV.below Hd8.out hb88)
    have HV := Lib.hid (show (flu (flu F ([] ++ [e1])) (keepE [1] ([] ++ [e2])))[k]? = some e2.v by
      rw [← HK2.out]
      exact flu_at (by simp [keepE]) e2 (by simp [keepE]) (by rw [flu_length, HK2.out]; have := HS6.out; omega))
    have HBW := Lib.hid (HB8.out.trans (hb88.mono HB8.out.size))
    clear DC hb8 hb88 hba8 hgc1 hgc2 hgc3 HD8 Y8 Hd8
    go_wp2_with fail
    refine (dread_any _ HC.out (by simp only [flu_length]; have := HS6.out; omega) k _ HV.out (by simp) (padB 512 lb) HVD.out (padB_len _ _)).mono ?_
    rintro e w9 ⟨q, qc, rfl, _, hown, hb9⟩
    have HG := Lib.hid (RdV_of_owns hown)
    have HO := Lib.hid (show RdB w9 _ (padB 512 lb) from RdV.below Y8b.out hb9)
    have HB9 := Lib.hid (HBW.out.trans (hb9.mono HBW.out.size))
    clear hown hb9
    go_wp2_with fail
    refine (sum_any _ _ (padB 512 lb) HG.out (by rw [padB_len]; omega)).mono ?_
    rintro e wa ⟨rfl, hba⟩
    have HG2 := Lib.hid (RdV.below HG.out hba)
    have HO2 := Lib.hid (RdV.below HO.out hba)
    have HBA := Lib.hid (HB9.out.trans (hba.mono HB9.out.size))
    clear hba
    go_wp2_with fail
    refine (sum_any _ _ (padB 512 lb) HO2.out (by rw [padB_len]; omega)).mono ?_
    rintro e wb ⟨rfl, hbb⟩
    have HG3 := Lib.hid (RdV.below HG2.out hbb)
    have HO3 := Lib.hid (RdV.below HO2.out hbb)
    have HBB := Lib.hid (HBA.out.trans (hbb.mono HBA.out.size))
    have eqd := sum_eq_self (sha (padB 512 lb)) (sha_len _)
    clear hbb
    go_wp2_with fail
    refine (crc_any _ _ (padB 512 lb) HG3.out (by rw [padB_len]; omega)).mono ?_
    rintro e w' ⟨rfl, rfl⟩
    go_wp2_with fail
    refine (crc_any _ _ (padB 512 lb) HO3.out (by rw [padB_len]; omega)).mono ?_
    rintro e w' ⟨rfl, rfl⟩
    go_wp2_with fail
    go_ret
    exact ⟨rfl, HBB.out⟩
  · have kk : (n : Int) < 128 := by omega
    go_enter Try.func3, Try.ntmps3
    go_wp2_with fail
    refine (new_disk _ 6 (by omega) (by omega)).mono ?_
    rintro e w1 ⟨g, bs, bm, F, rfl, D1, hF, hdat, hb1, h1, h2, h3⟩
    have HD1 := Lib.hid D1; have HF := Lib.hid hF; have HB1 := Lib.hid hb1
    clear D1 hF hdat hb1
    go_wp2_with fail
    go_upto_region 5 with fail
    go_cut [10, 11] (fun s t wc => Two w1 wc zBytes zBytes s t)
    case first =>
      go_region
      all_goals (go_wp2_with fail; go_meet; first | exact two_a w1 | exact two_b w1)
    case rest =>
    obtain ⟨bx, by_, rfl, rfl, hne, hx0, hy0, hx, hy, hfr⟩ := hcut
    have hlt := HD1.out.lt
    have HX := Lib.hid hx; have HY := Lib.hid hy; have HFR := Lib.hid hfr
    clear hx hy hfr hm2
    go_wp2_with (refine wpList_copyB rfl (.tmp 31) (.tmp 32) rfl bx 512 _ la rfl rfl HX.out (RdV.below HA.out (HB1.out.trans ((HFR.out.below (Nat.le_refl _) (by simp)).mono HB1.out.size))) ?_)
    intro w3 kx hx3 hf3
    have HF3 := Lib.hid (HFR.out.then hf3 (fun x hx => .inr (by simp at hx; omega)))
    have HX3 := Lib.hid hx3; have HY3 := Lib.hid (hf3.heap (b := by_) (by simpa using fun q => hne q.symm) HY.out)
    clear hx3 hf3 HX HY HFR
    go_wp2_with (refine wpList_copyB rfl (.tmp 34) (.tmp 35) rfl by_ 512 _ lb rfl rfl HY3.out (RdV.below HB.out (HB1.out.trans ((HF3.out.below (Nat.le_refl _) (by simp)).mono HB1.out.size))) ?_)
    intro w4 ky hy4 hf4
    have HF4 := Lib.hid (HF3.out.then hf4 (fun x hx => .inr (by simp at hx; omega)))
    have HY4 := Lib.hid hy4; have HX4 := Lib.hid (hf4.heap (b := bx) (by simpa using hne) HX3.out)
    clear hy4 hf4 HX3 HY3 HF3
    have D4 := HD1.out.fr HF4.out (by simp)
    have HS6 := Lib.hid (show F.length = 6 from HF.out)
    have X4 := Lib.hid (row_dat (S := [g, bs, bm]) HX4.out (by simp; omega) (padB_len 512 la))
    have Y4 := Lib.hid (row_dat (S := [g, bs, bm]) HY4.out (by simp; omega) (padB_len 512 lb))
    have HB4 := Lib.hid (HB1.out.trans ((HF4.out.below (Nat.le_refl _) (by simp)).mono HB1.out.size))
    have HD4 := Lib.hid D4
    clear D4 HX4 HY4 HF4 HD1 HB1 hx0 hy0 hlt
    obtain ⟨k, hk, hk6⟩ : ∃ k : Nat, (n : Int) % 6 = (k : Int) ∧ k < 6 := ⟨n % 6, by omega, by omega⟩
    have n255 : (n : Int) ≤ 255 := by omega
    go_wp2_with fail
    refine (dwrite_any _ HD4.out (by have := HS6.out; omega) (by simp) k (by have := HS6.out; omega) (by simp) _ (padB 512 la) X4.out.rd (padB_len _ _)).mono ?_
    rintro e w5 ⟨rfl, f5, e1, hk1, hd1, D5⟩
    have hs5 : ∀ x ∈ [g, bs, bm], w.heap.size ≤ x := by intro x hx; simp at hx; omega
    have HB5 := Lib.hid (HB4.out.trans (f5.below (B := w.heap.size) HB4.out.size hs5))
    have X5 := Lib.hid (RdN.fr X4.out f5 (fun x hx => .inl hx)); have Y5 := Lib.hid (RdN.fr Y4.out f5 (fun x hx => .inl hx))
    have HD5 := Lib.hid D5; have Hd1 := Lib.hid hd1; have HK1 := Lib.hid hk1
    clear D5 hd1 hk1 f5 HD4 X4 Y4 HB4
    go_wp2_with fail
    refine (dflush_any _ HD5.out (by have := HS6.out; omega) (by simp)).mono ?_
    rintro e w6 ⟨rfl, f6, D6⟩
    have HB6 := Lib.hid (HB5.out.trans (f6.below (B := w.heap.size) HB5.out.size hs5))
    have X6 := Lib.hid (RdN.fr X5.out f6 (fun x hx => .inl hx)); have Y6 := Lib.hid (RdN.fr Y5.out f6 (fun x hx => .inl hx))
    have HD6 := Lib.hid D6; have Hd6 := Lib.hid (RdN.fr Hd1.out f6 (fun x hx => .inl hx))
    clear D6 f6 HD5 X5 Y5 HB5 Hd1
    go_wp2_with fail
    refine (dwrite_any _ HD6.out (by rw [flu_length]; have := HS6.out; omega) (by simp) k (by rw [flu_length]; have := HS6.out; omega) (by simp) _ (padB 512 lb) (RdN.rd Y6.out) (padB_len _ _)).mono ?_
    rintro e w7 ⟨rfl, f7, e2, hk2, hd2, D7⟩
    have HB7 := Lib.hid (HB6.out.trans (f7.below (B := w.heap.size) HB6.out.size hs5))
    have X7 := Lib.hid (RdN.fr X6.out f7 (fun x hx => .inl hx)); have Y7 := Lib.hid (RdN.fr Y6.out f7 (fun x hx => .inl hx))
    have HD7 := Lib.hid D7; have Hd7 := Lib.hid (RdN.fr Hd6.out f7 (fun x hx => .inl hx)); have Hd2 := Lib.hid hd2; have HK2 := Lib.hid hk2
    clear D7 f7 HD6 X6 Y6 HB6 Hd6 hd2 hk2
    go_wp2_with fail
    refine (crash_any _ HD7.out (by rw [flu_length]; have := HS6.out; omega) (by rw [flu_length]; have := HS6.out; omega) (by simp) _ [] (.inl ⟨rfl, rfl⟩) (by simp) (by simp)).mono ?_
    rintro e w8 ⟨gc, bsc, bmc, rfl, DC, hb8, hgc1, hgc2, hgc3⟩
    have HB8 := Lib.hid (HB7.out.trans (hb8.mono HB7.out.size))
    have HC := Lib.hid DC
    have Y8 := Lib.hid (RdV.below (RdN.rd X7.out) hb8); have HVD := Lib.hid (show RdB w8 e1.v (padB 512 la) from RdV.below (RdN.rd Hd7.out) hb8)
    have HV := Lib.hid (show (flu (flu F ([] ++ [e1])) (keepE [] ([] ++ [e2])))[k]? = some e1.v by
      rw [keepE_nil, flu_nil, ← HK1.out]
      exact flu_at (by simp) e1 (by simp) (by rw [HK1.out]; have := HS6.out; omega))
    have HBW := HB8
    clear DC hb8 hgc1 hgc2 hgc3 HD7 X7 Y7 HB7 Hd7 Hd2
    go_wp2_with fail

    refine (dread_any _ HC.out (by simp only [flu_length]; have := HS6.out; omega) k _ HV.out (by simp) (padB 512 la) HVD.out (padB_len _ _)).mono ?_
    rintro e w9 ⟨q, qc, rfl, _, hown, hb9⟩
    have HG := Lib.hid (RdV_of_owns hown)
    have HO := Lib.hid (show RdB w9 _ (padB 512 la) from RdV.below Y8.out hb9)
    have HB9 := Lib.hid (HBW.out.trans (hb9.mono HBW.out.size))
    clear hown hb9
    go_wp2_with fail
    refine (sum_any _ _ (padB 512 la) HG.out (by rw [padB_len]; omega)).mono ?_
    rintro e wa ⟨rfl, hba⟩
    have HG2 := Lib.hid (RdV.below HG.out hba)
    have HO2 := Lib.hid (RdV.below HO.out hba)
    have HBA := Lib.hid (HB9.out.trans (hba.mono HB9.out.size))
    clear hba
    go_wp2_with fail
    refine (sum_any _ _ (padB 512 la) HO2.out (by rw [padB_len]; omega)).mono ?_
    rintro e wb ⟨rfl, hbb⟩
    have HG3 := Lib.hid (RdV.below HG2.out hbb)
    have HO3 := Lib.hid (RdV.below HO2.out hbb)
    have HBB := Lib.hid (HBA.out.trans (hbb.mono HBA.out.size))
    have eqd := sum_eq_self (sha (padB 512 la)) (sha_len _)
    clear hbb
    go_wp2_with fail
    refine (crc_any _ _ (padB 512 la) HG3.out (by rw [padB_len]; omega)).mono ?_
    rintro e w' ⟨rfl, rfl⟩
    go_wp2_with fail
    refine (crc_any _ _ (padB 512 la) HO3.out (by rw [padB_len]; omega)).mono ?_
    rintro e w' ⟨rfl, rfl⟩
    go_wp2_with fail
    go_ret
    exact ⟨rfl, HBB.out⟩
end Go.Proofs.Ytlkieepfjhiflaa
