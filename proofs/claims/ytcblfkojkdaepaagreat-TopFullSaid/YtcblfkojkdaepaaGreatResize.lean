/- A file grows from nothing. -/
import Derived.Test.YtcblfkojkdaepaaGreatSave
namespace Go.Proofs.YtcblfkojkdaepaaGreat
open Go.RowKit Go.ChangeMaps
/-- An inode in memory: the first k pages have their slots. -/
structure OpL (l : List Int) (i n k : Nat) : Prop where
  len : l.length = 144
  kind : l[0]? = some 1
  size : l[3]? = some (n : Int)
  num : l[15]? = some (i : Int)
  bnd : ∀ (j : Nat) (v : Int), l[j]? = some v → 0 ≤ v ∧ v < 4294967296
  slot : ∀ j, j < k → ∃ p : Nat, l[slotN j]? = some (p : Int) ∧ 5 ≤ p ∧ p < 59
  ind : ∃ q : Nat, l[14]? = some (q : Int) ∧ (q = 0 ∨ 5 ≤ q ∧ q < 59)
theorem set_bnd {l : List Int} (h : ∀ (j : Nat) (v : Int), l[j]? = some v → 0 ≤ v ∧ v < 4294967296) (a : Nat) (p : Nat) (hp : p < 4294967296) : ∀ (j : Nat) (v : Int), (l.set a (p : Int))[j]? = some v → 0 ≤ v ∧ v < 4294967296 := fun j v hv => by
  rw [List.getElem?_set] at hv
  split at hv
  · split at hv
    · simp only [Option.some.injEq] at hv; omega
    · cases hv
  · exact h j v hv
theorem slotN_ne (k : Nat) : slotN k ≠ 0 ∧ slotN k ≠ 3 ∧ slotN k ≠ 14 ∧ slotN k ≠ 15 := by unfold slotN; split <;> omega
theorem slotN_lt (k : Nat) (h : k < 20) : slotN k < 144 := by unfold slotN; split <;> omega
theorem slotN_inj {j k : Nat} (h : slotN j = slotN k) : j = k := by unfold slotN at h; split at h <;> split at h <;> omega
theorem OpL.put {l : List Int} {i n k : Nat} (h : OpL l i n k) (hk : k < 20) (p : Nat) (hp : 5 ≤ p) (hp2 : p < 59) : OpL (l.set (slotN k) (p : Int)) i n (k + 1) := by
  obtain ⟨a, b, c, d⟩ := slotN_ne k
  have hl := h.len
  have hlt := slotN_lt k hk
  refine ⟨by rw [List.length_set]; exact hl, by rw [List.getElem?_set_ne a]; exact h.kind, by rw [List.getElem?_set_ne b]; exact h.size, by rw [List.getElem?_set_ne d]; exact h.num, set_bnd h.bnd _ p (by omega), fun j hj => ?_, by rw [List.getElem?_set_ne c]; exact h.ind⟩
  by_cases e : j = k
  · subst e
    exact ⟨p, by rw [List.getElem?_set_self (by omega)], hp, hp2⟩
  · rw [List.getElem?_set_ne (fun hh => e (slotN_inj hh).symm)]
    exact h.slot j (by omega)
theorem OpL.indp {l : List Int} {i n k : Nat} (h : OpL l i n k) (p : Nat) (hp : 5 ≤ p) (hp2 : p < 59) : OpL (l.set 14 (p : Int)) i n k := by
  have hl := h.len
  refine ⟨by rw [List.length_set]; exact hl, by rw [List.getElem?_set_ne (by omega)]; exact h.kind, by rw [List.getElem?_set_ne (by omega)]; exact h.size, by rw [List.getElem?_set_ne (by omega)]; exact h.num, set_bnd h.bnd _ p (by omega), fun j hj => ?_, p, by rw [List.getElem?_set_self (by omega)], .inr ⟨hp, hp2⟩⟩
  rw [List.getElem?_set_ne (fun hh => (slotN_ne j).2.2.1 hh.symm)]
  exact h.slot j hj
theorem OpL.sz {l : List Int} {i n k : Nat} (h : OpL l i n k) (n' : Nat) (hn : n' < 4294967296) : OpL (l.set 3 (n' : Int)) i n' k := by
  have hl := h.len
  refine ⟨by rw [List.length_set]; exact hl, by rw [List.getElem?_set_ne (by omega)]; exact h.kind, by rw [List.getElem?_set_self (by omega)], by rw [List.getElem?_set_ne (by omega)]; exact h.num, set_bnd h.bnd _ n' hn, fun j hj => ?_, by rw [List.getElem?_set_ne (by omega)]; exact h.ind⟩
  rw [List.getElem?_set_ne (fun hh => (slotN_ne j).2.1 hh.symm)]
  exact h.slot j hj
theorem opN_len (i : Nat) : (opN i).length = 144 := by simp [opN]
theorem opN_bnd (i : Nat) (hi : i < 16) (j : Nat) (v : Int) (hv : (opN i)[j]? = some v) : 0 ≤ v ∧ v < 4294967296 := by
  have hm := List.mem_of_getElem? hv
  unfold opN at hm
  rw [List.mem_append, List.mem_append, List.mem_append] at hm
  rcases hm with ((hm | hm) | hm) | hm
  · simp at hm; omega
  · have := List.eq_of_mem_replicate hm; omega
  · simp at hm; omega
  · have := List.eq_of_mem_replicate hm; omega
theorem opN_opl (i : Nat) (hi : i < 16) : OpL (opN i) i 0 0 := by
  have h0 : (opN i)[0]? = some 1 := rfl
  have h3 : (opN i)[3]? = some ((0 : Nat) : Int) := rfl
  have h15 : (opN i)[15]? = some (i : Int) := rfl
  have h14 : (opN i)[14]? = some ((0 : Nat) : Int) := rfl
  exact ⟨opN_len i, h0, h3, h15, opN_bnd i hi, fun j hj => by omega, 0, h14, .inl rfl⟩
/-- How many pages k pages of a file take. -/
def tk (k : Nat) : Nat := if k ≤ 10 then k else k + 1
theorem tk_next (k : Nat) (h : ¬ k = 10) : tk (k + 1) = tk k + 1 := by unfold tk; split <;> split <;> omega
theorem tk_mono {j k : Nat} (h : j ≤ k) : tk j ≤ tk k := by unfold tk; split <;> split <;> omega
section
variable {K : Kx} {A S : List Nat} {w : World} {N dm mb sb : Nat} {pg cur : Nat → List UInt8}
/-- A page is taken while the inode lies in its box. -/
theorem take_step [KAny K] {wi : World} {ob q0 : Nat} {l w0 : List Int} {c1 : Nat → List UInt8} (s : StpB K A N pg [ob] S w wi c1) (x : CX K A w N S pg cur dm) (m : MpAt w K mb) (so : SoAt w sb mb) (hb : ob < w.heap.size) (hbS : ob ∉ S) (O0 : OpB w ob w0) (O : OpB wi ob l) (h5 : 5 ≤ q0) (h59 : q0 ≤ 59) (hc : c1 2 = bmL q0) :
    Calls Tryz.prog 69 #[.pointer (some ⟨sb, 0, none⟩)] wi fun e w' => OpB w' ob l ∧ ((q0 < 59 ∧ e = .returned (.int .i64 (q0 : Int)) ∧ StpB K A N pg [ob] S w w' (updF (updF c1 2 (bmL (q0 + 1))) q0 zBytes)) ∨ (q0 = 59 ∧ e = .panicked [{ v := faultV, recovered := false }] ∧ StpB K A N pg [ob] S w w' c1)) := by
  obtain ⟨Si, dmi, xi, hn, hnx⟩ := s.open
  have mi := m.stpB x (by simpa using ne_ty m O0.1 (by decide)) s
  have si := so.stpB x (by simpa using ne_ty so O0.1 (by decide)) s
  refine (take_any xi mi si q0 h5 h59 hc).mono ?_
  rintro e w' (⟨h1, rfl, hs⟩ | ⟨h1, rfl, hs⟩)
  · exact ⟨O.fr hs.1 (hn ob hb hbS), .inl ⟨h1, rfl, hnx hs⟩⟩
  · exact ⟨O.fr hs.1 (hn ob hb hbS), .inr ⟨h1, rfl, hnx hs⟩⟩
theorem op_put {wi : World} {ob : Nat} {l : List Int} {c1 : Nat → List UInt8} (s : StpB K A N pg [ob] S w wi c1) (hb : ob < w.heap.size) (hbS : ob ∉ S) (hbp : ob ≠ K.p) (O : OpB wi ob l) (j : Nat) (v : Int) :
    StpB K A N pg [ob] S w (wi.setCell ⟨ob, j, none⟩ (.int .i64 v)) c1 ∧ OpB (wi.setCell ⟨ob, j, none⟩ (.int .i64 v)) ob (l.set j v) :=
  ⟨s.turn (List.mem_singleton.2 rfl) ((Fr.refl [ob] wi).setCell (p := ⟨ob, j, none⟩) (.inl (by simp)) _) hb hbS hbp O.bok, O.set j v⟩
set_option maxRecDepth 100000 in
set_option maxHeartbeats 4000000 in
theorem resize_any [KAny K] (x : CX K A w N S pg cur dm) (m : MpAt w K mb) (so : SoAt w sb mb) (ob i n p0 : Nat) (hO : OpB w ob (opN i)) (hi : i < 16) (hn : 0 < n) (hn6 : n ≤ 6000) (hp5 : 5 ≤ p0) (hp : p0 ≤ 59) (hc : cur 2 = bmL p0) :
    Calls Tryz.prog 37 #[.pointer (some ⟨sb, 0, none⟩), .pointer (some ⟨ob, 0, none⟩), .int .i64 (n : Int)] w fun e w' => ∃ cur' l, StpB K A N pg [ob] S w w' cur' ∧ OpB w' ob l ∧
      ((p0 + tk (pgs n) ≤ 59 ∧ e = .returned (.tuple #[]) ∧ OpL l i n (pgs n) ∧ cur' 1 = cur 1 ∧ cur' 2 = bmL (p0 + tk (pgs n))) ∨ (59 < p0 + tk (pgs n) ∧ e = .panicked [{ v := faultV, recovered := false }])) := by
  have g3 := hO.cell 3 0 rfl
  have HP0 := Lib.hid (pages_n w 0 (by omega))
  have HX := Lib.hid x; have HM := Lib.hid m; have HSO := Lib.hid so; have HO := Lib.hid hO; have HC := Lib.hid hc
  have HBS := Lib.hid (x.ne hO.1 (by decide) (by decide) (fun e => absurd e (by decide)) (by decide))
  have HBP := Lib.hid (x.nep hO.1 (by decide))
  have hpn : pgs n ≤ 12 ∧ 0 < pgs n := by unfold pgs; omega
  clear x m so hO hc
  go_enter Tryz.func37, Tryz.ntmps37
  go_wp2_with fail
  refine HP0.out.mono ?_
  rintro e w' ⟨rfl, rfl⟩
  have HBL := Lib.hid (show ob < w'.heap.size from (Array.getElem?_eq_some_iff.1 HO.out.1).1)
  have HPN := Lib.hid (fun w : World => pages_n w n (by omega))
  rw [show ((pgs 0 : Nat) : Int) = 0 from rfl]
  clear HP0 g3
  go_wp2_with fail
  go_loopw [6] (fun kv wr => ∃ (k : Nat) (l : List Int) (c1 : Nat → List UInt8), k ≤ pgs n ∧ kv = .int .i64 (k : Int) ∧ p0 + tk k ≤ 59 ∧ OpB wr ob l ∧ OpL l i 0 k ∧ StpB K A N pg [ob] S w' wr c1 ∧ c1 1 = cur 1 ∧ c1 2 = bmL (p0 + tk k)) (fun kv _ => ((12 : Int) - intOf kv).toNat)
  case atStart => exact ⟨0, _, cur, by omega, rfl, by simp [tk]; omega, HO.out, opN_opl i hi, StpB.refl HX.out [ob], rfl, by rw [show tk 0 = 0 from rfl]; exact HC.out⟩
  case round =>
    obtain ⟨k, l, c1, hk, rfl, hpk, hO, hL, hS, hc1, hc2⟩ := hrel
    have HO1 := Lib.hid hO; have HL := Lib.hid hL; have HS := Lib.hid hS; have HC1 := Lib.hid hc1; have HC2 := Lib.hid hc2; have HPK := Lib.hid hpk
    clear hO hL hS hc1 hc2 hpk
    have HPW := HPN.out wr
    have HPWH := Lib.hid HPW
    clear HPW
    obtain ⟨pn, hpn2⟩ : ∃ pn, pn = pgs n := ⟨_, rfl⟩
    rw [← hpn2] at HPWH hk hpn ⊢
    have HPE := Lib.hid hpn2
    clear hpn2
    go_wp2_with fail
    refine HPWH.out.mono ?_
    rintro e wr' ⟨rfl, rfl⟩
    clear HPWH
    by_cases hlt : k < pn
    · have hltI : (k : Int) < (pn : Int) := by omega
      have HSL := Lib.hid (fun w : World => slot_any w ob k (by omega))
      by_cases h10 : k = 10
      · subst h10
        obtain ⟨Wd, hWd⟩ : ∃ Wd, Wd = wr'.drew := ⟨_, rfl⟩
        have HTK0 := take_step (HS.out.fr0 (Fr.drew wr')) HX.out HM.out HSO.out HBL.out HBS.out HO.out (HO1.out.fr (Fr.drew (S := []) wr') (by simp)) (q0 := p0 + 10) (by omega) HPK.out HC2.out
        by_cases h59 : p0 + 10 < 59
        · have HTK := Lib.hid (HTK0.mono (R' := fun e w4 => e = .returned (.int .i64 ((p0 + 10 : Nat) : Int)) ∧ OpB w4 ob l ∧ StpB K A N pg [ob] S w' w4 (updF (updF c1 2 (bmL (p0 + 10 + 1))) (p0 + 10) zBytes)) (fun e w4 h => by
            obtain ⟨hO4, ⟨_, he, hS4⟩ | ⟨h', _⟩⟩ := h
            · exact ⟨he, hO4, hS4⟩
            · omega))
          clear HTK0 hWd
          obtain ⟨qa, hqa⟩ : ∃ q, q = p0 + 10 := ⟨_, rfl⟩
          rw [← hqa] at HTK
          have HQA := Lib.hid hqa
          have HH59 := Lib.hid h59
          have HI0 : l[14]? = some (l[14]'(by rw [HL.out.len]; omega)) := List.getElem?_eq_getElem _
          have HI := Lib.hid HI0
          clear hqa h59 HI0
          go_wp2_with fail
          go_region_with (refine HTK.out.mono ?_; rintro e w4 ⟨rfl, hO4, hS4⟩; (have gk := hO4.cell _ _ HI.out); (have fk := hO4.free 14); (have HO4 := Lib.hid hO4); (have HS4 := Lib.hid hS4); clear hO4 hS4)
          clear gk fk HTK HI
          have hc1 : updF (updF c1 2 (bmL (qa + 1))) qa zBytes 1 = cur 1 := by unfold updF; rw [if_neg (by have := HQA.out; omega), if_neg (by omega)]; exact HC1.out
          have hc2 : updF (updF c1 2 (bmL (qa + 1))) qa zBytes 2 = bmL (qa + 1) := by unfold updF; rw [if_neg (by have := HQA.out; omega), if_pos rfl]
          obtain ⟨hS5, hO5⟩ := op_put HS4.out HBL.out HBS.out HBP.out HO4.out 14 (qa : Int)
          have hL5 := HL.out.indp qa (by have := HQA.out; omega) (by have := HQA.out; have := HH59.out; omega)
          generalize updF (updF c1 2 (bmL (qa + 1))) qa zBytes = c2 at *
          generalize l.set 14 (qa : Int) = l2 at *
          generalize w4.setCell ⟨ob, 14, none⟩ (.int .i64 (qa : Int)) = w5 at *
          obtain ⟨q0, hq0⟩ : ∃ q, q = qa + 1 := ⟨_, rfl⟩
          rw [← hq0] at hc2
          clear HC1 HC2 HL HO1 HS HO4 HS4 HPK
          have HQ5 := Lib.hid (show 5 ≤ q0 by have := HQA.out; omega)
          have HPK := Lib.hid (show q0 ≤ 59 by have := HQA.out; have := HH59.out; omega)
          have HQE := Lib.hid (show p0 + tk (10 + 1) = q0 + 1 by rw [show tk (10 + 1) = 12 from rfl]; have := HQA.out; omega)
          have HC1 := Lib.hid hc1; have HC2 := Lib.hid hc2; have HL := Lib.hid hL5; have HO1 := Lib.hid hO5; have HS := Lib.hid hS5
          clear hc1 hc2 hL5 hO5 hS5 hq0
          go_wp2_with fail
          refine (HSL.out _).mono ?_
          rintro e w3 ⟨rfl, rfl⟩
          have HTK := Lib.hid (take_step HS.out HX.out HM.out HSO.out HBL.out HBS.out HO.out HO1.out HQ5.out HPK.out HC2.out)
          go_wp2_with fail
          refine HTK.out.mono ?_
          rintro e w4 ⟨hO4, ⟨h59, rfl, hS4⟩ | ⟨h59, rfl, hS4⟩⟩
          · have hk20 : 10 < 20 := by omega
            have hL5 := HL.out.put hk20 q0 HQ5.out h59
            obtain ⟨hS5, hO5⟩ := op_put hS4 HBL.out HBS.out HBP.out hO4 (slotN 10) (q0 : Int)
            obtain ⟨v0, hv0⟩ : ∃ v, l2[slotN 10]? = some v := ⟨_, List.getElem?_eq_getElem (by rw [HL.out.len]; exact slotN_lt 10 hk20)⟩
            have gk := hO4.cell _ _ hv0
            have fk := hO4.free (slotN 10)
            have hc1 : updF (updF c2 2 (bmL (q0 + 1))) q0 zBytes 1 = cur 1 := by unfold updF; rw [if_neg (by have := HQ5.out; omega), if_neg (by omega)]; exact HC1.out
            have hc2 : updF (updF c2 2 (bmL (q0 + 1))) q0 zBytes 2 = bmL (q0 + 1) := by unfold updF; rw [if_neg (by have := HQ5.out; omega), if_pos rfl]
            have HO5 := Lib.hid hO5; have HL5 := Lib.hid hL5; have HS5 := Lib.hid hS5; have HC15 := Lib.hid hc1; have HC25 := Lib.hid hc2
            have HTKE := Lib.hid HQE.out
            have HP59 := Lib.hid (show p0 + tk (10 + 1) ≤ 59 by rw [HTKE.out]; omega)
            clear hO5 hL5 hS5 hc1 hc2 hO4 hS4 hv0 HTK h59
            go_wp2_with fail
            exact ⟨⟨10 + 1, _, _, by omega, by simp, HP59.out, HO5.out, HL5.out, HS5.out, HC15.out, by rw [HC25.out, HTKE.out]⟩, by simp [intOf] <;> omega⟩
          · have HFI := Lib.hid (show 59 < p0 + tk (pgs n) by have := HQE.out; have := tk_mono (show 10 + 1 ≤ pn by omega); rw [← HPE.out]; omega)
            have HO4 := Lib.hid hO4; have HS4 := Lib.hid hS4
            clear hO4 hS4 HTK h59
            go_wp2_with fail
            simp only [bodyPost]
            exact ⟨trivial, _, _, HS4.out, HO4.out, (by exact .inr ⟨HFI.out, trivial⟩)⟩
        · have HTK := Lib.hid (HTK0.mono (R' := fun e w4 => e = .panicked [{ v := faultV, recovered := false }] ∧ OpB w4 ob l ∧ StpB K A N pg [ob] S w' w4 c1) (fun e w4 h => by
            obtain ⟨hO4, ⟨h', _⟩ | ⟨_, he, hS4⟩⟩ := h
            · omega
            · exact ⟨he, hO4, hS4⟩))
          have HFI := Lib.hid (show 59 < p0 + tk (pgs n) by have := tk_mono (show 10 + 1 ≤ pn by omega); rw [show tk (10 + 1) = 12 from rfl] at this; rw [← HPE.out]; omega)
          clear HTK0 hWd h59
          go_wp2_with fail
          refine wp_region_any (by kernel_rfl) ?_
          change wpAny _ _ _ _ _ _ _ (World.drew _)
          refine wpAny_take (i := 0) (v := ?_) rfl (by kernel_rfl) (by kernel_rfl) (by kernel_rfl) (fun _ _ _ h => h) (Or.inl ⟨by rfl, ?_⟩) ?_
          rotate_left
          · intro w; go_simp; first | done | with_reducible rfl
          refine wpAny_take (i := 1) (v := ?_) rfl (by kernel_rfl) (by kernel_rfl) (by kernel_rfl) (fun _ _ _ h => h) (Or.inl ⟨by rfl, ?_⟩) ?_
          rotate_left
          · intro w; go_simp; first | done | with_reducible rfl
          refine wpAny_take (i := 3) (v := ?_) rfl (by kernel_rfl) (by kernel_rfl) (by kernel_rfl) (fun _ _ _ h => h) (Or.inl ⟨by rfl, ?_⟩) ?_
          rotate_left
          · intro w; go_simp; first | done | with_reducible rfl
          refine wpAny_take (i := 4) (v := ?_) rfl (by kernel_rfl) (by kernel_rfl) (by kernel_rfl) (fun _ _ _ h => h) (Or.inl ⟨by rfl, ?_⟩) ?_
          rotate_left
          · intro w; go_simp; first | done | with_reducible rfl
          refine wpAny_take (i := 5) (v := ?_) rfl (by kernel_rfl) (by kernel_rfl) (by kernel_rfl) (fun _ _ _ h => h) (Or.inl ⟨by rfl, ?_⟩) ?_
          rotate_left
          · intro w; go_simp; first | done | with_reducible rfl
          refine wpAny_ready (rs := [2]) (by kernel_rfl) (by simp) ?_
          refine AllReady.cons rfl (fun K hK => ?_) AllReady.nil
          go_simp
          refine HTK.out.mono ?_
          rintro e w4 ⟨rfl, hO4, hS4⟩
          have HO4 := Lib.hid hO4; have HS4 := Lib.hid hS4
          clear hO4 hS4 HTK
          dsimp only
          simp +zetaDelta only [bodyPost, Exit.inBlock, Exit.then]
          exact ⟨trivial, _, _, HS4.out, HO4.out, (by exact .inr ⟨HFI.out, trivial⟩)⟩
      · have h10I : ¬ (k : Int) = 10 := by omega
        obtain ⟨q0, hq0⟩ : ∃ q, q = p0 + tk k := ⟨_, rfl⟩
        rw [← hq0] at HC2 HPK
        have HQ5 := Lib.hid (show 5 ≤ q0 by omega)
        have HQE := Lib.hid (show p0 + tk (k + 1) = q0 + 1 by have := tk_next k h10; omega)
        clear hq0
        go_wp2_with fail
        refine (HSL.out _).mono ?_
        rintro e w3 ⟨rfl, rfl⟩
        have HTK := Lib.hid (take_step HS.out HX.out HM.out HSO.out HBL.out HBS.out HO.out HO1.out HQ5.out HPK.out HC2.out)
        go_wp2_with fail
        refine HTK.out.mono ?_
        rintro e w4 ⟨hO4, ⟨h59, rfl, hS4⟩ | ⟨h59, rfl, hS4⟩⟩
        · have hk20 : k < 20 := by omega
          have hL5 := HL.out.put hk20 q0 HQ5.out h59
          obtain ⟨hS5, hO5⟩ := op_put hS4 HBL.out HBS.out HBP.out hO4 (slotN k) (q0 : Int)
          obtain ⟨v0, hv0⟩ : ∃ v, l[slotN k]? = some v := ⟨_, List.getElem?_eq_getElem (by rw [HL.out.len]; exact slotN_lt k hk20)⟩
          have gk := hO4.cell _ _ hv0
          have fk := hO4.free (slotN k)
          have hc1 : updF (updF c1 2 (bmL (q0 + 1))) q0 zBytes 1 = cur 1 := by unfold updF; rw [if_neg (by have := HQ5.out; omega), if_neg (by omega)]; exact HC1.out
          have hc2 : updF (updF c1 2 (bmL (q0 + 1))) q0 zBytes 2 = bmL (q0 + 1) := by unfold updF; rw [if_neg (by have := HQ5.out; omega), if_pos rfl]
          have HO5 := Lib.hid hO5; have HL5 := Lib.hid hL5; have HS5 := Lib.hid hS5; have HC15 := Lib.hid hc1; have HC25 := Lib.hid hc2
          have HTKE := Lib.hid HQE.out
          have HP59 := Lib.hid (show p0 + tk (k + 1) ≤ 59 by rw [HTKE.out]; omega)
          clear hO5 hL5 hS5 hc1 hc2 hO4 hS4 hv0 HTK h59
          go_wp2_with fail
          exact ⟨⟨k + 1, _, _, by omega, by simp, HP59.out, HO5.out, HL5.out, HS5.out, HC15.out, by rw [HC25.out, HTKE.out]⟩, by simp [intOf] <;> omega⟩
        · have HFI := Lib.hid (show 59 < p0 + tk (pgs n) by have := HQE.out; have := tk_mono (show k + 1 ≤ pn by omega); rw [← HPE.out]; omega)
          have HO4 := Lib.hid hO4; have HS4 := Lib.hid hS4
          clear hO4 hS4 HTK h59
          go_wp2_with fail
          simp only [bodyPost]
          exact ⟨trivial, _, _, HS4.out, HO4.out, (by exact .inr ⟨HFI.out, trivial⟩)⟩
    · obtain rfl : k = pn := by omega
      have g3 := HO1.out.cell 3 0 HL.out.size
      have HP0 := Lib.hid (pages_n wr' 0 (by omega))
      clear HSO HM
      go_wp2_with fail
      refine HP0.out.mono ?_
      rintro e w3 ⟨rfl, rfl⟩
      rw [show ((pgs 0 : Nat) : Int) = 0 from rfl]
      clear HP0
      have HPW := Lib.hid (HPN.out w3)
      rw [← HPE.out] at HPW
      go_wp2_with fail
      go_loopw [7] (fun kv wr => kv = .int .i64 (-1) ∧ wr = w3) (fun _ _ => 0)
      case atStart => exact ⟨rfl, rfl⟩
      case round =>
        obtain ⟨rfl, rfl⟩ := hrel
        go_wp2_with fail
        refine HPW.out.mono ?_
        rintro e w5 ⟨rfl, rfl⟩
        clear HPW
        have hn0 : ¬ (n : Int) < 0 := by omega
        have hk0 : ¬ (k : Int) ≤ -1 := by omega
        have f3 := HO1.out.free 3
        obtain ⟨hS5, hO5⟩ := op_put HS.out HBL.out HBS.out HBP.out HO1.out 3 (n : Int)
        have HL5 := Lib.hid (HL.out.sz n (by omega))
        have HS5 := Lib.hid hS5; have HO5 := Lib.hid hO5
        clear hS5 hO5
        go_wp2_with fail
        go_end0
        refine ⟨c1, HS5.out, _, HO5.out, .inl ⟨?_, rfl, ?_, HC1.out, ?_⟩⟩
        · rw [← HPE.out]; exact HPK.out
        · rw [← HPE.out]; exact HL5.out
        · rw [← HPE.out]; exact HC2.out
end
end Go.Proofs.YtcblfkojkdaepaaGreat
