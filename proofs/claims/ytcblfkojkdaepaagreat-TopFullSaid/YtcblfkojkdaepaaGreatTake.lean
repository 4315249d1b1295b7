/- How many pages and inodes are free. -/
import Derived.Test.YtcblfkojkdaepaaGreatMapC
import Derived.Deep.LoopGhost
namespace Go.Proofs.YtcblfkojkdaepaaGreat
open Go.RowKit Go.ChangeMaps

def eP : Ent := ⟨2, .complex .f64 4607182418800017408 0, .complex .f64 4607182418800017408 0, 0⟩
def eI : Ent := ⟨1, .complex .f64 0 4607182418800017408, .complex .f64 0 4607182418800017408, 1⟩
theorem add_re (a b : Nat) (ha : a < 60) (hb : b ≤ 60) (w : World) : (binOp .add 79 (.complex .f64 (fb a) (fb b)) (.complex .f64 4607182418800017408 0)).run Tryz.prog w = .ok (.complex .f64 (fb (a + 1)) (fb b)) w := by
  have h1 := fb_succ ⟨a, ha⟩
  have h2 := fb_zero ⟨b, by omega⟩
  simp only at h1 h2
  exact run_complex_sum w .add (.inl rfl) _ _ _ _ _ _ _ _ (by simp [cSumBits, h1, h2])
theorem add_im (a b : Nat) (ha : a ≤ 60) (hb : b < 60) (w : World) : (binOp .add 79 (.complex .f64 (fb a) (fb b)) (.complex .f64 0 4607182418800017408)).run Tryz.prog w = .ok (.complex .f64 (fb a) (fb (b + 1))) w := by
  have h1 := fb_zero ⟨a, by omega⟩
  have h2 := fb_succ ⟨b, hb⟩
  simp only at h1 h2
  exact run_complex_sum w .add (.inl rfl) _ _ _ _ _ _ _ _ (by simp [cSumBits, h1, h2])
theorem lit_map (w : World) : ∃ o1 o2, (Instr.mapUpdate 125 (.map (some w.heap.size)) (.int .i64 2) (.complex .f64 4607182418800017408 0)).run Tryz.prog (w.alloc (.map #[] 0)) = .ok () (setBlock (w.alloc (.map #[] 0)) w.heap.size o1) ∧
    (Instr.mapUpdate 125 (.map (some w.heap.size)) (.int .i64 1) (.complex .f64 0 4607182418800017408)).run Tryz.prog (setBlock (w.alloc (.map #[] 0)) w.heap.size o1) = .ok () (setBlock (setBlock (w.alloc (.map #[] 0)) w.heap.size o1) w.heap.size o2) ∧
    (setBlock (setBlock (w.alloc (.map #[] 0)) w.heap.size o1) w.heap.size o2).heap[w.heap.size]? = some (.map ([eP, eI].map Ent.obj).toArray 2) ∧ Fr [] w (setBlock (setBlock (w.alloc (.map #[] 0)) w.heap.size o1) w.heap.size o2) := by
  have A1 := (Fr.refl [] w).alloc (.map #[] 0)
  have R1 : (w.alloc (.map #[] 0)).heap[w.heap.size]? = some (.map (([] : List Ent).map Ent.obj).toArray 0) := heap_alloc_new w (.map #[] 0)
  have u1 := run_pc_update R1 2 (by simp) (.complex .f64 4607182418800017408 0) (.complex .f64 4607182418800017408 0)
  have R2 : (setBlock (w.alloc (.map #[] 0)) w.heap.size (.map ([eP].map Ent.obj).toArray 1)).heap[w.heap.size]? = _ := heap_setBlock R1
  have u2 := run_pc_update R2 1 (by simp [eP]) (.complex .f64 0 4607182418800017408) (.complex .f64 0 4607182418800017408)
  have R3 := heap_setBlock (o' := .map ([eP, eI].map Ent.obj).toArray 2) R2
  exact ⟨_, _, u1, u2, R3, (A1.setBlock (.inr (Nat.le_refl _)) _).setBlock (.inr (Nat.le_refl _)) _⟩
theorem StpB.toNil {K : Kx} {A Bx S : List Nat} {w1 wi : World} {N : Nat} {pg cur : Nat → List UInt8} (s : StpB K A N pg Bx S w1 wi cur) (h : ∀ b ∈ Bx, False) : StpB K A N pg [] S w1 wi cur := ⟨s.1.mono (fun k hk => .inl ((List.mem_append.1 hk).elim (fun h' => (h k h').elim) (fun h' => List.mem_append_right _ h'))), s.2⟩
section
variable {K : Kx} {A S : List Nat} {w : World} {N dm mb : Nat} {pg cur : Nat → List UInt8}
def cnP (p0 : Nat) (L : List Ent) : Nat := if 2 ∈ L.map (·.k) then 59 - p0 else 0
def cnI (i0 : Nat) (L : List Ent) : Nat := if 1 ∈ L.map (·.k) then 16 - i0 else 0
theorem cnP_in (p0 : Nat) {L : List Ent} (_ : eP.k ∉ L.map (·.k)) : cnP p0 (L ++ [eP]) = 59 - p0 := by unfold cnP; rw [if_pos (by simp [eP])]
theorem cnI_in (i0 : Nat) {L : List Ent} (_ : eI.k ∉ L.map (·.k)) : cnI i0 (L ++ [eI]) = 16 - i0 := by unfold cnI; rw [if_pos (by simp [eI])]
theorem cnP_out (p0 : Nat) {L : List Ent} (h : eP.k ∉ L.map (·.k)) : cnP p0 L = 0 := if_neg h
theorem cnI_out (i0 : Nat) {L : List Ent} (h : eI.k ∉ L.map (·.k)) : cnI i0 L = 0 := if_neg h
theorem cnI_app (i0 : Nat) (L : List Ent) : cnI i0 (L ++ [eP]) = cnI i0 L := by unfold cnI; simp [eP]
theorem cnP_app (p0 : Nat) (L : List Ent) : cnP p0 (L ++ [eI]) = cnP p0 L := by unfold cnP; simp [eI]
set_option maxRecDepth 100000 in
set_option maxHeartbeats 4000000 in
theorem both_any (x : CX K A w N S pg cur dm) (m : MpAt w K mb) (i0 p0 : Nat) (hi : i0 ≤ 16) (hp : p0 ≤ 59) (hc1 : cur 1 = bmL i0) (hc2 : cur 2 = bmL p0) :
    Calls Tryz.prog 29 #[.pointer (some ⟨mb, 0, none⟩)] w fun e w' => e = .returned (.complex .f64 (fb (59 - p0)) (fb (16 - i0))) ∧ Stp K A N pg S w w' cur := by
  have hmm := @run_makeMap Tryz.prog
  obtain ⟨o1, o2, u1, u2, R3, F3⟩ := lit_map w
  have hrg := run_range_map (P := Tryz.prog) _ 125 3 79 w.heap.size _ 2 Tryz.underlying125 R3
  have HX := Lib.hid x; have HM := Lib.hid m; have HC1 := Lib.hid hc1; have HC2 := Lib.hid hc2
  have HR3 := Lib.hid R3; have HF3 := Lib.hid F3
  have HSZ3 := Lib.hid (show (setBlock (setBlock (w.alloc (.map #[] 0)) w.heap.size o1) w.heap.size o2).heap.size = w.heap.size + 1 by simp [setBlock])
  clear x m hc1 hc2 R3 F3
  go_enter Tryz.func29, Tryz.ntmps29
  go_wp2_with fail
  have W4 := Lib.hid (show StpB K A N pg [(setBlock (setBlock (w.alloc (.map #[] 0)) w.heap.size o1) w.heap.size o2).heap.size] S ((setBlock (setBlock (w.alloc (.map #[] 0)) w.heap.size o1) w.heap.size o2).alloc (.mapIter (some w.heap.size) 2 #[] 2)) ((setBlock (setBlock (w.alloc (.map #[] 0)) w.heap.size o1) w.heap.size o2).alloc (.mapIter (some w.heap.size) 2 #[] 2)) cur from StpB.refl (HX.out.fr0 (HF3.out.alloc _)) _)
  have RG := Lib.hid (show Rng ((setBlock (setBlock (w.alloc (.map #[] 0)) w.heap.size o1) w.heap.size o2).alloc (.mapIter (some w.heap.size) 2 #[] 2)) (setBlock (setBlock (w.alloc (.map #[] 0)) w.heap.size o1) w.heap.size o2).heap.size w.heap.size 2 [eP, eI] [] from
    ⟨heap_alloc_new _ _, ((Fr.refl [] _).alloc _).heap (by simp) HR3.out, by simp [eP, eI], by simp [eP, eI], by simp, by rw [HSZ3.out]; omega⟩)
  have HF4 := Lib.hid (HF3.out.alloc (.mapIter (some w.heap.size) 2 #[] 2))
  have HM4 := Lib.hid (HM.out.fr HF4.out (by simp))
  have HX4 := Lib.hid (HX.out.fr0 HF4.out)
  have HRL := Lib.hid (show (setBlock (setBlock (w.alloc (.map #[] 0)) w.heap.size o1) w.heap.size o2).heap.size < ((setBlock (setBlock (w.alloc (.map #[] 0)) w.heap.size o1) w.heap.size o2).alloc (.mapIter (some w.heap.size) 2 #[] 2)).heap.size ∧ (setBlock (setBlock (w.alloc (.map #[] 0)) w.heap.size o1) w.heap.size o2).heap.size ∉ S ∧ w.heap.size < ((setBlock (setBlock (w.alloc (.map #[] 0)) w.heap.size o1) w.heap.size o2).alloc (.mapIter (some w.heap.size) 2 #[] 2)).heap.size ∧ w.heap.size ∉ S from
    ⟨by simp, fun hm => by have := HX.out.lt _ hm; rw [HSZ3.out] at this; omega, by simp only [World.size_alloc]; rw [HSZ3.out]; omega, fun hm => by have := HX.out.lt _ hm; omega⟩)
  have HRP := Lib.hid (show (setBlock (setBlock (w.alloc (.map #[] 0)) w.heap.size o1) w.heap.size o2).heap.size ≠ K.p ∧ w.heap.size ≤ (setBlock (setBlock (w.alloc (.map #[] 0)) w.heap.size o1) w.heap.size o2).heap.size by have := HX.out.plt; rw [HSZ3.out]; omega)
  clear u1 u2 hrg HR3 HF3 HSZ3 hmm
  generalize (setBlock (setBlock (w.alloc (.map #[] 0)) w.heap.size o1) w.heap.size o2).alloc (.mapIter (some w.heap.size) 2 #[] 2) = w4 at *
  generalize (setBlock (setBlock (w.alloc (.map #[] 0)) w.heap.size o1) w.heap.size o2).heap.size = r at *
  obtain ⟨mp, hmp⟩ : ∃ b, b = w.heap.size := ⟨_, rfl⟩
  rw [← hmp] at RG HRL HRP ⊢
  have HMP := Lib.hid hmp
  clear hmp
  go_loopg [3] (toCome [eP, eI] []) (fun k out wr => ∃ L, Rng wr r mp 2 [eP, eI] L ∧ toCome [eP, eI] L = k ∧ out = .complex .f64 (fb (cnP p0 L)) (fb (cnI i0 L)) ∧ StpB K A N pg [r] S w4 wr cur)
  case atStart => exact ⟨[], RG.out, rfl, rfl, W4.out⟩
  clear RG W4
  case round =>
    obtain ⟨L, hRG, hk, rfl, hS⟩ := hrel
    have HRG0 := Lib.hid hRG; have HK := Lib.hid hk; have HS0 := Lib.hid hS
    clear hRG hk hS
    go_wp2_with (refine wpList_next_ents rfl (.tmp 10) rfl rfl HRG0.out ?c1 ?c2)
    case c1 =>
      intro hallP hallI
      have hF := HS0.out.close HF4.out (fun b hb => by simp at hb; subst hb; have := HRP.out; have := HMP.out; omega)
      have HF := Lib.hid hF
      have hP : cnP p0 L = 59 - p0 := by exact if_pos (List.mem_map.2 ⟨eP, hallP, rfl⟩ : 2 ∈ L.map (·.k))
      have hI : cnI i0 L = 16 - i0 := by exact if_pos (List.mem_map.2 ⟨eI, hallI, rfl⟩ : 1 ∈ L.map (·.k))
      rw [hP, hI]
      clear hF hP hI hallP hallI
      go_wp2_with fail
      go_ret
      exact ⟨rfl, HF.out⟩
    case c2 =>
      intro e w1 he hnL hR hF hlt hen
      have s1 := HS0.out.turn (List.mem_singleton.2 rfl) hF HRL.out.1 HRL.out.2.1 HRP.out.1 (fun cs t fr e => by rw [HRG0.out.it] at e; cases e)
      obtain ⟨Si, dmi, xi, hnS, hnx⟩ := s1.open
      have mi := HM4.out.stpB HX4.out (fun hm => by
        have h1 : mb = r := by simpa using hm
        have h2 : mb < w.heap.size := (Array.getElem?_eq_some_iff.1 (show w.heap[mb]? = _ from HM.out)).1
        have := HRP.out; have := HMP.out; omega) s1
      have HRG := Lib.hid hR; have HLT := Lib.hid hlt
      have HNL := Lib.hid (show e.k ∉ L.map (·.k) from fun hm => by
        obtain ⟨y, hy, q⟩ := List.mem_map.1 hm
        have h1 := HRG0.out.sub y hy
        exact hnL (key_one (T := [eP, eI]) (by simp [eP, eI]) h1 (by simpa using he) q ▸ hy))
      have hcase : e = eP ∨ e = eI := by simpa using he
      clear he hnL hR hF hlt s1 HRG0 HS0
      rcases hcase with rfl | rfl
      · have hen' : (Instr.entry (.pointer (some ⟨r, 0, none⟩))).run Tryz.prog w1 = .ok (.tuple #[.int .i64 2, .complex .f64 4607182418800017408 0]) w1 := hen
        clear hen
        have HRD := Lib.hid (aread_any xi mi 2 (.inr rfl))
        have HNX := Lib.hid (fun (A' : List Nat) (w' : World) (c' : Nat → List UInt8) (h : Stp K A' N pg Si w1 w' c') => hnx h)
        have hrS := hnS r HRL.out.1 HRL.out.2.1
        have hbS := hnS mp HRL.out.2.2.1 HRL.out.2.2.2
        have HRS := Lib.hid (And.intro hrS hbS)
        clear xi mi hnx hnS hrS hbS
        go_wp2_with fail
        refine HRD.out.mono ?_
        rintro e w2 ⟨q, cap, rfl, hq, ho, hs⟩
        rw [HC2.out] at ho
        rw [show ((bcnt 2 : Nat) : Int) = 59 from rfl]
        have A3 := (Fr.refl [] w2).alloc (.cells #[.slice (some ⟨q, 0, none⟩) 512 cap, .int .i64 59] 127)
        have R3 := heap_alloc_new w2 (.cells #[.slice (some ⟨q, 0, none⟩) 512 cap, .int .i64 59] 127)
        have HO3 := Lib.hid (RdV_of_owns (own_keep ho A3 (by simp)))
        have HS3 := Lib.hid (((HNX.out _ _ _ hs).anti (A' := A) (fun k hk => List.mem_cons_of_mem _ hk)).fr0 A3)
        have HRG3 := Lib.hid ((HRG.out.fr hs.1 HRS.out.1 HRS.out.2).fr A3 (by simp) (by simp))
        have k0 : (w2.alloc (.cells #[.slice (some ⟨q, 0, none⟩) 512 cap, .int .i64 59] 127)).cell? ⟨w2.heap.size, 0, none⟩ = some (.slice (some ⟨q, 0, none⟩) 512 cap) := (cell_of_row _ _ 0 _ _ _ R3).trans rfl
        have k1 : (w2.alloc (.cells #[.slice (some ⟨q, 0, none⟩) 512 cap, .int .i64 59] 127)).cell? ⟨w2.heap.size, 1, none⟩ = some (.int .i64 59) := (cell_of_row _ _ 1 _ _ _ R3).trans rfl
        have HR3b := Lib.hid R3
        clear A3 R3 hs ho hq HRD HNX HRG
        go_wp2_with fail
        generalize w2.alloc (.cells #[.slice (some ⟨q, 0, none⟩) 512 cap, .int .i64 59] 127) = w3 at *
        generalize w2.heap.size = bx at *
        obtain ⟨ob0, hob0⟩ : ∃ o, o = cnI i0 L := ⟨_, rfl⟩
        have hob60 : ob0 ≤ 60 := by rw [hob0]; first | (unfold cnI; split <;> omega) | (unfold cnP; split <;> omega)
        have HOB := Lib.hid hob0
        rw [← hob0, cnP_out p0 HNL.out]
        clear hob0
        go_loopw [21, 3] (fun iv out wx => ∃ i : Nat, i ≤ 59 ∧ iv = .int .i64 (i : Int) ∧ out = .complex .f64 (fb (i - p0)) (fb ob0) ∧ Fr [] w3 wx) (fun iv _ _ => (59 - intOf iv).toNat)
        case atStart => exact ⟨0, by omega, by simp, by simp, Fr.refl _ _⟩
        case round =>
          obtain ⟨i, hi, rfl, rfl, hF⟩ := hrel
          by_cases hlt : i < 59
          · have hbx := hF.heap (by simp) HR3b.out
            have k0' : wr.cell? ⟨bx, 0, none⟩ = some (.slice (some ⟨q, 0, none⟩) 512 cap) := (cell_of_row _ _ 0 _ _ _ hbx).trans rfl
            have k1' : wr.cell? ⟨bx, 1, none⟩ = some (.int .i64 59) := (cell_of_row _ _ 1 _ _ _ hbx).trans rfl
            have HAT := Lib.hid (at_any wr (.slice (some ⟨q, 0, none⟩) 512 cap) p0 i 59 (HO3.out.below (hF.below (Nat.le_refl _) (by simp))) (by omega))
            have HF := Lib.hid hF
            have j0 : (i : Int) < 59 := by omega
            clear hF hbx k0 k1
            go_wp2_with fail
            refine HAT.out.mono ?_
            rintro e w5 ⟨rfl, hb5⟩
            have HF5 := Lib.hid (HF.out.trans (Fr.of_below (S := []) hb5))
            clear hb5 HAT HF
            by_cases hset : i < p0
            · rw [show decide (i < p0) = true from decide_eq_true hset]
              go_wp2_with fail
              exact ⟨⟨i + 1, by omega, by simp, by rw [show i + 1 - p0 = i - p0 by omega], HF5.out⟩, by simp [intOf]; omega⟩
            · rw [show decide (i < p0) = false from decide_eq_false hset]
              have hadd := add_re (i - p0) ob0 (by omega) hob60
              rw [show i - p0 + 1 = i + 1 - p0 by omega] at hadd
              go_wp2_with fail
              exact ⟨⟨i + 1, by omega, by simp, rfl, HF5.out⟩, by simp [intOf]; omega⟩
          · obtain rfl : i = 59 := by omega
            have HRG4 := Lib.hid (HRG3.out.fr hF (by simp) (by simp))
            have HS4 := Lib.hid (HS3.out.fr0 hF)
            have HOO := Lib.hid hob60
            clear hF k0 k1 hob60
            go_wp2_with fail
            go_roundg (toCome [eP, eI] (L ++ [eP]))
            case measure => have := HLT.out; have := HK.out; omega
            case rel => exact ⟨L ++ [eP], HRG4.out, rfl, by rw [HOB.out, cnP_in p0 HNL.out, cnI_app], HS4.out⟩
      · have hen' : (Instr.entry (.pointer (some ⟨r, 0, none⟩))).run Tryz.prog w1 = .ok (.tuple #[.int .i64 1, .complex .f64 0 4607182418800017408]) w1 := hen
        clear hen
        have HRD := Lib.hid (aread_any xi mi 1 (.inl rfl))
        have HNX := Lib.hid (fun (A' : List Nat) (w' : World) (c' : Nat → List UInt8) (h : Stp K A' N pg Si w1 w' c') => hnx h)
        have hrS := hnS r HRL.out.1 HRL.out.2.1
        have hbS := hnS mp HRL.out.2.2.1 HRL.out.2.2.2
        have HRS := Lib.hid (And.intro hrS hbS)
        clear xi mi hnx hnS hrS hbS
        go_wp2_with fail
        refine HRD.out.mono ?_
        rintro e w2 ⟨q, cap, rfl, hq, ho, hs⟩
        rw [HC1.out] at ho
        rw [show ((bcnt 1 : Nat) : Int) = 16 from rfl]
        have A3 := (Fr.refl [] w2).alloc (.cells #[.slice (some ⟨q, 0, none⟩) 512 cap, .int .i64 16] 127)
        have R3 := heap_alloc_new w2 (.cells #[.slice (some ⟨q, 0, none⟩) 512 cap, .int .i64 16] 127)
        have HO3 := Lib.hid (RdV_of_owns (own_keep ho A3 (by simp)))
        have HS3 := Lib.hid (((HNX.out _ _ _ hs).anti (A' := A) (fun k hk => List.mem_cons_of_mem _ hk)).fr0 A3)
        have HRG3 := Lib.hid ((HRG.out.fr hs.1 HRS.out.1 HRS.out.2).fr A3 (by simp) (by simp))
        have k0 : (w2.alloc (.cells #[.slice (some ⟨q, 0, none⟩) 512 cap, .int .i64 16] 127)).cell? ⟨w2.heap.size, 0, none⟩ = some (.slice (some ⟨q, 0, none⟩) 512 cap) := (cell_of_row _ _ 0 _ _ _ R3).trans rfl
        have k1 : (w2.alloc (.cells #[.slice (some ⟨q, 0, none⟩) 512 cap, .int .i64 16] 127)).cell? ⟨w2.heap.size, 1, none⟩ = some (.int .i64 16) := (cell_of_row _ _ 1 _ _ _ R3).trans rfl
        have HR3b := Lib.hid R3
        clear A3 R3 hs ho hq HRD HNX HRG
        go_wp2_with fail
        generalize w2.alloc (.cells #[.slice (some ⟨q, 0, none⟩) 512 cap, .int .i64 16] 127) = w3 at *
        generalize w2.heap.size = bx at *
        obtain ⟨ob0, hob0⟩ : ∃ o, o = cnP p0 L := ⟨_, rfl⟩
        have hob60 : ob0 ≤ 60 := by rw [hob0]; first | (unfold cnI; split <;> omega) | (unfold cnP; split <;> omega)
        have HOB := Lib.hid hob0
        rw [← hob0, cnI_out i0 HNL.out]
        clear hob0
        go_loopw [21, 3] (fun iv out wx => ∃ i : Nat, i ≤ 16 ∧ iv = .int .i64 (i : Int) ∧ out = .complex .f64 (fb ob0) (fb (i - i0)) ∧ Fr [] w3 wx) (fun iv _ _ => (16 - intOf iv).toNat)
        case atStart => exact ⟨0, by omega, by simp, by simp, Fr.refl _ _⟩
        case round =>
          obtain ⟨i, hi, rfl, rfl, hF⟩ := hrel
          by_cases hlt : i < 16
          · have hbx := hF.heap (by simp) HR3b.out
            have k0' : wr.cell? ⟨bx, 0, none⟩ = some (.slice (some ⟨q, 0, none⟩) 512 cap) := (cell_of_row _ _ 0 _ _ _ hbx).trans rfl
            have k1' : wr.cell? ⟨bx, 1, none⟩ = some (.int .i64 16) := (cell_of_row _ _ 1 _ _ _ hbx).trans rfl
            have HAT := Lib.hid (at_any wr (.slice (some ⟨q, 0, none⟩) 512 cap) i0 i 16 (HO3.out.below (hF.below (Nat.le_refl _) (by simp))) (by omega))
            have HF := Lib.hid hF
            have j0 : (i : Int) < 16 := by omega
            clear hF hbx k0 k1
            go_wp2_with fail
            refine HAT.out.mono ?_
            rintro e w5 ⟨rfl, hb5⟩
            have HF5 := Lib.hid (HF.out.trans (Fr.of_below (S := []) hb5))
            clear hb5 HAT HF
            by_cases hset : i < i0
            · rw [show decide (i < i0) = true from decide_eq_true hset]
              go_wp2_with fail
              exact ⟨⟨i + 1, by omega, by simp, by rw [show i + 1 - i0 = i - i0 by omega], HF5.out⟩, by simp [intOf]; omega⟩
            · rw [show decide (i < i0) = false from decide_eq_false hset]
              have hadd := add_im ob0 (i - i0) hob60 (by omega)
              rw [show i - i0 + 1 = i + 1 - i0 by omega] at hadd
              go_wp2_with fail
              exact ⟨⟨i + 1, by omega, by simp, rfl, HF5.out⟩, by simp [intOf]; omega⟩
          · obtain rfl : i = 16 := by omega
            have HRG4 := Lib.hid (HRG3.out.fr hF (by simp) (by simp))
            have HS4 := Lib.hid (HS3.out.fr0 hF)
            have HOO := Lib.hid hob60
            clear hF k0 k1 hob60
            go_wp2_with fail
            go_roundg (toCome [eP, eI] (L ++ [eI]))
            case measure => have := HLT.out; have := HK.out; omega
            case rel => exact ⟨L ++ [eI], HRG4.out, rfl, by rw [HOB.out, cnI_in i0 HNL.out, cnP_app], HS4.out⟩
theorem fb_int : ∀ n : Fin 61, floatToIntVal .f64 (fb n.val) .i64 = some (n.val : Int) := by decide +kernel
theorem conv_fb (n : Nat) (hn : n ≤ 60) (w : World) : (convert 81 3 (.float .f64 (fb n))).run Tryz.prog w = .ok (.int .i64 (n : Int)) w :=
  run_convert_float_int w 81 3 .f64 .i64 (fb n) (n : Int) (by rw [Tryz.underlying81]; rfl) Tryz.underlying3 (fb_int ⟨n, by omega⟩)
set_option maxRecDepth 100000 in
set_option maxHeartbeats 1000000 in
theorem free_any (x : CX K A w N S pg cur dm) (m : MpAt w K mb) (i0 p0 : Nat) (hi : i0 ≤ 16) (hp : p0 ≤ 59) (hc1 : cur 1 = bmL i0) (hc2 : cur 2 = bmL p0) :
    Calls Tryz.prog 10 #[.pointer (some ⟨mb, 0, none⟩)] w fun e w' => e = .returned (.tuple #[.int .i64 ((59 - p0 : Nat) : Int), .int .i64 ((16 - i0 : Nat) : Int)]) ∧ Stp K A N pg S w w' cur := by
  have HBO := Lib.hid (both_any x m i0 p0 hi hp hc1 hc2)
  have hv1 := conv_fb (59 - p0) (by omega)
  have hv2 := conv_fb (16 - i0) (by omega)
  obtain ⟨a, ha⟩ : ∃ a, a = 59 - p0 := ⟨_, rfl⟩
  obtain ⟨b, hb⟩ : ∃ b, b = 16 - i0 := ⟨_, rfl⟩
  rw [← ha] at HBO hv1 ⊢
  rw [← hb] at HBO hv2 ⊢
  obtain ⟨fa, hfa⟩ : ∃ f, f = fb a := ⟨_, rfl⟩
  obtain ⟨fc, hfc⟩ : ∃ f, f = fb b := ⟨_, rfl⟩
  rw [← hfa] at HBO hv1
  rw [← hfc] at HBO hv2
  clear x m ha hb hfa hfc hc1 hc2
  go_enter Tryz.func10, Tryz.ntmps10
  go_wp2_with fail
  refine HBO.out.mono ?_
  rintro e w2 ⟨rfl, hs⟩
  have HS := Lib.hid hs
  clear hs HBO
  go_wp2_with fail
  go_ret2
  exact ⟨rfl, HS.out⟩
end
end Go.Proofs.YtcblfkojkdaepaaGreat
/- Numbers in bytes: put, get. -/
namespace Go.Proofs.YtcblfkojkdaepaaGreat
open Go.RowKit Go.ChangeMaps

/-- A page of the caller's own: its block, its capacity, its bytes. -/
def PgO (w : World) (B q cap : Nat) (L : List UInt8) : Prop := w.ownsRow B 5 1 (.slice (some ⟨q, 0, none⟩) 512 cap) 512 (L.map vB)
theorem PgO.len {w : World} {B q cap : Nat} {L : List UInt8} (h : PgO w B q cap L) : L.length = 512 := by have := h.1; simpa using this
theorem PgO.cell {w : World} {B q cap : Nat} {L : List UInt8} (h : PgO w B q cap L) (i : Nat) (x : UInt8) (hi : L[i]? = some x) : w.cell? ⟨q, i, none⟩ = some (vB x) := own_cell h i x hi
theorem PgO.free {w : World} {B q cap : Nat} {L : List UInt8} (h : PgO w B q cap L) (i : Nat) : w.frozen? ⟨q, i, none⟩ = false := World.ownsRow.frozenAt h i
theorem PgO.set {w : World} {B q cap : Nat} {L : List UInt8} (h : PgO w B q cap L) (i : Nat) (x : UInt8) : PgO (w.setCell ⟨q, i, none⟩ (vB x)) B q cap (L.set i x) := by
  have h2 := (World.ownsRow.stored h i (vB x)).1
  rw [← List.map_set] at h2
  exact h2
theorem PgO.kept {w w' : World} {B q cap : Nat} {L : List UInt8} {U : List Nat} (h : PgO w B q cap L) (hf : Fr U w w') (hU : q ∉ U) : PgO w' B q cap L := by
  obtain ⟨h1, h2⟩ := h
  refine ⟨h1, h2.imp id ?_⟩
  rintro ⟨g, cp, cur, hv, hb, hg, r⟩
  simp only [Value.slice.injEq, Option.some.injEq, Addr.mk.injEq, and_true, true_and] at hv
  obtain ⟨rfl, rfl⟩ := hv
  exact ⟨q, cap, cur, rfl, hb, hf.heap hU hg, r⟩
theorem PgO.cap {w : World} {B q cap : Nat} {L : List UInt8} (h : PgO w B q cap L) : 512 ≤ cap := by
  obtain ⟨cs, e, h2, _⟩ := own_kind h
  exact h2
theorem PgO.lt {w : World} {B q cap : Nat} {L : List UInt8} (h : PgO w B q cap L) : q < w.heap.size := by
  obtain ⟨cs, e, _⟩ := own_kind h
  exact (Array.getElem?_eq_some_iff.1 e).1
theorem PgO.rd {w : World} {B q cap : Nat} {L : List UInt8} (h : PgO w B q cap L) : RdB w (.slice (some ⟨q, 0, none⟩) 512 cap) L := RdV_of_owns h
/-- A number's bytes, the highest first. -/
def beB (n v : Nat) : List UInt8 := (List.range n).map fun i => UInt8.ofNat (v / 2 ^ (8 * (n - 1 - i)))
theorem beB_len (n v : Nat) : (beB n v).length = n := by simp [beB]
/-- Bytes put into others. -/
def spl (L : List UInt8) (off : Nat) (bs : List UInt8) : List UInt8 := L.take off ++ bs ++ L.drop (off + bs.length)
theorem spl_len {L : List UInt8} {off : Nat} {bs : List UInt8} (h : off + bs.length ≤ L.length) : (spl L off bs).length = L.length := by simp [spl]; omega
theorem spl_nil (L : List UInt8) (off : Nat) : spl L off [] = L := by simp [spl]
theorem spl_set {L : List UInt8} {off : Nat} {bs : List UInt8} {x : UInt8} (h : off + bs.length < L.length) : (spl L off bs).set (off + bs.length) x = spl L off (bs ++ [x]) := by
  unfold spl
  rw [List.set_append_right _ _ (by simp; omega)]
  have e : off + bs.length - (List.take off L ++ bs).length = 0 := by simp; omega
  rw [e, List.drop_eq_getElem_cons h]
  simp [Nat.add_assoc]
theorem spl_in {L : List UInt8} {off : Nat} {bs : List UInt8} (h : off + bs.length ≤ L.length) (t : Nat) (ht : t < bs.length) : (spl L off bs)[off + t]? = bs[t]? := by
  unfold spl
  rw [List.getElem?_append_left (by simp; omega), List.getElem?_append_right (by simp; omega)]
  congr 1
  simp; omega
theorem spl_out {L : List UInt8} {off : Nat} {bs : List UInt8} (h : off + bs.length ≤ L.length) (t : Nat) (ht : t < off ∨ off + bs.length ≤ t) : (spl L off bs)[t]? = L[t]? := by
  unfold spl
  rcases ht with ht | ht
  · rw [List.getElem?_append_left (by simp; omega), List.getElem?_append_left (by simp; omega), List.getElem?_take, if_pos ht]
  · rw [List.getElem?_append_right (by simp; omega), List.getElem?_drop]
    congr 1
    simp; omega
theorem vB_div (v e : Nat) : vB (UInt8.ofNat (v / 2 ^ e)) = .int .u8 ((v : Int) / 2 ^ e % 256) := by
  show Value.int .u8 (n8 (UInt8.ofNat (v / 2 ^ e))) = _
  unfold n8
  rw [UInt8.toNat_ofNat']
  congr 1
set_option maxRecDepth 100000 in
set_option maxHeartbeats 2000000 in
theorem put_any (w : World) {B q cap : Nat} {L : List UInt8} (h : PgO w B q cap L) (off n c v : Nat) (hn : off + n ≤ 512) (hn4 : n ≤ 4) (hv : v < 4294967296) :
    Calls Tryz.prog 66 #[.slice (some ⟨q, off, none⟩) n c, .int .i64 (v : Int)] w fun e w' => e = .returned (.tuple #[]) ∧ PgO w' B q cap (spl L off (beB n v)) ∧ Fr [q] w w' := by
  have HP := Lib.hid h
  have n0 : (n : Int) ≤ 4 := by omega
  have v0 : (v : Int) < 4294967296 := by omega
  clear h
  go_enter Tryz.func66, Tryz.ntmps66
  go_wp2_with fail
  go_loopw [7] (fun iv wr => ∃ i : Nat, i ≤ n ∧ iv = .int .i64 (i : Int) ∧ PgO wr B q cap (spl L off ((beB n v).take i)) ∧ Fr [q] w wr) (fun iv _ => ((n : Int) - intOf iv).toNat)
  case atStart => exact ⟨0, by omega, by simp, by rw [List.take_zero, spl_nil]; exact HP.out, Fr.refl _ _⟩
  case round =>
    obtain ⟨i, hi, rfl, hP, hF⟩ := hrel
    by_cases hlt : i < n
    · have hL := HP.out.len
      have hbt : ((beB n v).take i).length = i := by rw [List.length_take, beB_len]; omega
      have hold : ∃ x, (spl L off ((beB n v).take i))[off + i]? = some x := ⟨_, List.getElem?_eq_getElem (by rw [spl_len (by rw [hbt]; omega)]; omega)⟩
      obtain ⟨x0, hx0⟩ := hold
      have hcl := hP.cell _ _ hx0
      have hfz := hP.free (off + i)
      obtain ⟨y0, hy0⟩ : ∃ y, vB x0 = .int .u8 y := ⟨_, rfl⟩
      rw [hy0] at hcl
      have hset := hP.set (off + i) (UInt8.ofNat (v / 2 ^ (8 * (n - 1 - i))))
      have hspl := spl_set (L := L) (off := off) (bs := (beB n v).take i) (x := UInt8.ofNat (v / 2 ^ (8 * (n - 1 - i)))) (by rw [hbt]; omega)
      rw [hbt] at hspl
      have hnx : (beB n v)[i]? = some (UInt8.ofNat (v / 2 ^ (8 * (n - 1 - i)))) := by unfold beB; rw [List.getElem?_map, List.getElem?_range hlt]; rfl
      rw [hspl, show (beB n v).take i ++ [UInt8.ofNat (v / 2 ^ (8 * (n - 1 - i)))] = (beB n v).take (i + 1) by rw [List.take_add_one, hnx]; rfl] at hset
      have hF2 := hF.setCell (p := ⟨q, off + i, none⟩) (.inl (by simp)) (vB (UInt8.ofNat (v / 2 ^ (8 * (n - 1 - i)))))
      have HS := Lib.hid hset; have HF := Lib.hid hF2
      have i0 : (i : Int) < (n : Int) := by omega
      clear hset hF2 hP hF hx0 hspl hnx hbt hy0
      go_wp2_with fail
      have hvv := vB_div v (8 * (n - 1 - i))
      rw [hvv] at HS HF
      exact ⟨⟨i + 1, by omega, by simp, HS.out, HF.out⟩, by simp [intOf]; omega⟩
    · obtain rfl : i = n := by omega
      rw [List.take_of_length_le (by rw [beB_len]; omega)] at hP
      have HS := Lib.hid hP; have HF := Lib.hid hF
      clear hP hF
      go_wp2_with fail
      go_end0
      exact ⟨rfl, HS.out, HF.out⟩
/-- The number that bytes are, the highest first. -/
def beV (bs : List UInt8) : Nat := bs.foldl (fun n x => n * 256 + x.toNat) 0
theorem beV_snoc (bs : List UInt8) (x : UInt8) : beV (bs ++ [x]) = beV bs * 256 + x.toNat := by simp [beV]
theorem or_small : ∀ (a : Fin 2) (b : Fin 256), bits BinOp.or IntKind.i64 ((a.val : Int) * 256) (b.val : Int) = ((a.val * 256 + b.val : Nat) : Int) := by decide +kernel
set_option maxRecDepth 100000 in
set_option maxHeartbeats 2000000 in
theorem get_any (w : World) {B q cap : Nat} {L : List UInt8} (h : PgO w B q cap L) (off n c : Nat) (hn : off + n ≤ 512) (hn4 : n ≤ 4) (bs : List UInt8) (hl : bs.length = n) (hbs : ∀ t, t < n → L[off + t]? = bs[t]?) (hsm : ∀ t, t < n → beV (bs.take t) < 2) :
    Calls Tryz.prog 68 #[.slice (some ⟨q, off, none⟩) n c] w fun e w' => e = .returned (.int .i64 (beV bs : Int)) ∧ w' = w := by
  have HP := Lib.hid h; have HBS := Lib.hid hbs; have HSM := Lib.hid hsm
  have n0 : (n : Int) ≤ 4 := by omega
  clear h hbs hsm
  go_enter Tryz.func68, Tryz.ntmps68
  go_wp2_with fail
  go_loopw [8, 3] (fun iv nv wr => ∃ i : Nat, i ≤ n ∧ iv = .int .i64 (i : Int) ∧ nv = .int .i64 (beV (bs.take i) : Int) ∧ wr = w) (fun iv _ _ => ((n : Int) - intOf iv).toNat)
  case atStart => exact ⟨0, by omega, by simp, by simp [beV], rfl⟩
  case round =>
    obtain ⟨i, hi, rfl, rfl, rfl⟩ := hrel
    by_cases hlt : i < n
    · obtain ⟨x, hx⟩ : ∃ x, bs[i]? = some x := ⟨bs[i]'(by omega), List.getElem?_eq_getElem _⟩
      have hcl := HP.out.cell (off + i) x (by rw [HBS.out i hlt]; exact hx)
      have hnx : beV (bs.take (i + 1)) = beV (bs.take i) * 256 + x.toNat := by rw [List.take_add_one, hx]; exact beV_snoc _ _
      have hs2 := HSM.out i hlt
      obtain ⟨a, ha⟩ : ∃ a, a = beV (bs.take i) := ⟨_, rfl⟩
      rw [← ha] at hs2 hnx ⊢
      have hor := or_small ⟨a, hs2⟩ ⟨x.toNat, x.toNat_lt⟩
      simp only at hor
      have hcl2 : wr.cell? ⟨q, off + i, none⟩ = some (.int .u8 (x.toNat : Int)) := hcl
      obtain ⟨y, hy⟩ : ∃ y, y = x.toNat := ⟨_, rfl⟩
      have y8 : (y : Int) < 256 := by have := x.toNat_lt; omega
      rw [← hy] at hcl2 hor hnx
      have i0 : (i : Int) < (n : Int) := by omega
      have a0 : (a : Int) < 2 := by omega
      have HN := Lib.hid hnx
      clear hcl hx hnx ha hy
      go_wp2_with fail
      exact ⟨⟨i + 1, by omega, by simp, by rw [HN.out]; simp, trivial⟩, by simp [intOf]; omega⟩
    · obtain rfl : i = n := by omega
      rw [List.take_of_length_le (by omega)]
      go_wp2_with fail
      go_ret
      exact ⟨ret_eq (by simp), rfl⟩
end Go.Proofs.YtcblfkojkdaepaaGreat
/- A page is written, a page is taken, by a file. -/
namespace Go.Proofs.YtcblfkojkdaepaaGreat
open Go.RowKit Go.ChangeMaps

/-- The store's box. -/
def SoAt (w : World) (sb mb : Nat) : Prop := w.heap[sb]? = some (.cells #[.pointer (some ⟨mb, 0, none⟩)] 74 (0, 0))
theorem SoAt.c0 {w : World} {sb mb : Nat} (h : SoAt w sb mb) : w.cell? ⟨sb, 0, none⟩ = some (.pointer (some ⟨mb, 0, none⟩)) := (cell_of_row _ _ 0 _ _ _ h).trans rfl
theorem SoAt.fr {w w' : World} {sb mb : Nat} {U : List Nat} (h : SoAt w sb mb) (hf : Fr U w w') (hU : sb ∉ U) : SoAt w' sb mb := hf.heap hU h
section
variable {K : Kx} {A S : List Nat} {w : World} {N dm mb sb : Nat} {pg cur : Nat → List UInt8}
theorem SoAt.off (h : SoAt w sb mb) (x : CX K A w N S pg cur dm) : sb ∉ S := x.ne h (by decide) (by decide) (fun e => absurd e (by decide)) (by decide)
theorem SoAt.stpB {A' Bx : List Nat} {w' : World} {cur' : Nat → List UInt8} (h : SoAt w sb mb) (x : CX K A w N S pg cur dm) (hB : sb ∉ Bx) (s : StpB K A' N pg Bx S w w' cur') : SoAt w' sb mb := h.fr s.1 (fun hm => (List.mem_append.1 hm).elim hB (h.off x))
def faultV : Value := .iface 86 (.agg #[])
set_option maxRecDepth 100000 in
set_option maxHeartbeats 1000000 in
theorem iwrite_any [KAny K] (x : CX K A w N S pg cur dm) (m : MpAt w K mb) (so : SoAt w sb mb) (n : Nat) (hn : n < 59) (bv : Value) (l : List UInt8) (hb : RdB w bv l) (hl : l.length = 512) :
    Calls Tryz.prog 41 #[.pointer (some ⟨sb, 0, none⟩), .int .i64 (n : Int), bv] w fun e w' => e = .returned (.tuple #[]) ∧ Stp K A N pg S w w' (updF cur n l) := by
  have HCA := Lib.hid (acache_any w m)
  have HWR := Lib.hid (wrx_any x n hn bv l hb hl)
  have c0 := so.c0
  obtain ⟨ba, bc, hbv, _⟩ := RdB.open hb
  rw [hl] at hbv
  subst hbv
  have HZ := Lib.hid (show ∀ e w', (e = Ending.returned (.int .i64 0) ∧ Stp K A N pg S w w' (updF cur n l)) → (e = Ending.returned (.int .i64 0) ∧ Hid (Stp K A N pg S w w' (updF cur n l))) from fun e w' h => ⟨h.1, Lib.hid h.2⟩)
  have HW2 := Lib.hid (HWR.out.mono HZ.out)
  clear x m so hb HWR HZ hl
  go_enter Tryz.func41, Tryz.ntmps41
  go_wp2_with fail
  refine HCA.out.mono ?_
  rintro e w1 ⟨rfl, rfl⟩
  go_wp2_with fail
  refine HW2.out.mono ?_
  rintro e w2 ⟨rfl, HS⟩
  clear HW2 HCA c0
  go_wp2_with fail
  go_end0
  exact ⟨rfl, HS.out⟩
set_option maxRecDepth 100000 in
set_option maxHeartbeats 1000000 in
theorem take_any [KAny K] (x : CX K A w N S pg cur dm) (m : MpAt w K mb) (so : SoAt w sb mb) (p0 : Nat) (hp5 : 5 ≤ p0) (hp : p0 ≤ 59) (hc : cur 2 = bmL p0) :
    Calls Tryz.prog 69 #[.pointer (some ⟨sb, 0, none⟩)] w fun e w' => (p0 < 59 ∧ e = .returned (.int .i64 (p0 : Int)) ∧ Stp K A N pg S w w' (updF (updF cur 2 (bmL (p0 + 1))) p0 zBytes)) ∨ (p0 = 59 ∧ e = .panicked [{ v := faultV, recovered := false }] ∧ Stp K A N pg S w w' cur) := by
  have HPG := Lib.hid (page_any x m p0 hp5 hp hc)
  have c0 := so.c0
  clear x m so hc
  go_enter Tryz.func69, Tryz.ntmps69
  go_wp2_with fail
  refine HPG.out.mono ?_
  rintro e w1 (⟨h1, rfl, hs⟩ | ⟨h1, rfl, hs⟩)
  · have HS := Lib.hid hs
    clear hs HPG c0
    go_wp2_with fail
    go_ret
    exact .inl ⟨h1, rfl, HS.out⟩
  · have HS := Lib.hid hs
    clear hs HPG c0
    go_wp2_with fail
    simp only [bodyPost]
    exact ⟨trivial, .inr ⟨h1, rfl, HS.out⟩⟩
end
/-- Where page k of a file is named. -/
def slotN (k : Nat) : Nat := if k < 10 then 4 + k else 16 + (k - 10)
set_option maxRecDepth 100000 in
set_option maxHeartbeats 1000000 in
theorem slot_any (w : World) (ob k : Nat) (hk : k < 20) :
    Calls Tryz.prog 38 #[.pointer (some ⟨ob, 0, none⟩), .int .i64 (k : Int)] w fun e w' => e = .returned (.pointer (some ⟨ob, slotN k, none⟩)) ∧ w' = w := by
  go_enter Tryz.func38, Tryz.ntmps38
  by_cases h : k < 10
  · have h' : (k : Int) < 10 := by omega
    go_wp2_with fail
    go_ret
    exact ⟨ret_eq (by simp [slotN, h]), rfl⟩
  · have h' : ¬ (k : Int) < 10 := by omega
    have h2 : (k : Int) < 20 := by omega
    go_wp2_with fail
    go_ret
    exact ⟨ret_eq (by simp [slotN, h]), rfl⟩
end Go.Proofs.YtcblfkojkdaepaaGreat
