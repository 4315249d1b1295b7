/- The contract of (*Disk).Crash. -/
import Derived.Test.YtlkieepfjhiflaaWaiting
import Derived.Test.YtlkieepfjhiflaaRd
import Derived.Test.YtlkieepfjhiflaaTail
namespace Go.Proofs.Ytlkieepfjhiflaa
open Go.RowKit Go.ChangeMaps

/-- Those that are kept: a choice of 1 keeps the one write that waits. -/
def keepE : List Int → List Ent → List Ent
  | k :: K, e :: T => if k = 1 then e :: keepE K T else keepE K T
  | _, _ => []
theorem keepE_nil (T : List Ent) : keepE [] T = [] := by cases T <;> rfl
theorem keepE_sub : ∀ (K : List Int) (T : List Ent), ∀ e ∈ keepE K T, e ∈ T
  | [], T, e, h => by rw [keepE_nil] at h; cases h
  | _ :: _, [], e, h => by cases h
  | k :: K, x :: T, e, h => by
    unfold keepE at h
    split at h
    · rcases List.mem_cons.1 h with rfl | h
      · simp
      · exact List.mem_cons_of_mem _ (keepE_sub K T e h)
    · exact List.mem_cons_of_mem _ (keepE_sub K T e h)
theorem keepE_take : ∀ (K : List Int) (T : List Ent) (j : Nat) (k : Int) (e : Ent), K[j]? = some k → T[j]? = some e → keepE (K.take (j + 1)) T = keepE (K.take j) T ++ (if k = 1 then [e] else [])
  | [], _, _, _, _, h, _ => by simp at h
  | _ :: _, [], _, _, _, _, h => by simp at h
  | k0 :: K, e0 :: T, 0, k, e, h1, h2 => by
    simp at h1 h2; subst h1; subst h2
    simp only [List.take_succ_cons, List.take_zero, keepE]
    split <;> simp
  | k0 :: K, e0 :: T, j + 1, k, e, h1, h2 => by
    have ih := keepE_take K T j k e (by simpa using h1) (by simpa using h2)
    simp only [List.take_succ_cons, keepE]
    split
    · rw [ih]; rfl
    · exact ih
theorem keepE_lt {T : List Ent} (hp : T.Pairwise (fun a b => a.k < b.k)) (K : List Int) (j : Nat) (e : Ent) (he : T[j]? = some e) : ∀ x ∈ keepE (K.take j) T, x.k ≠ e.k := by
  induction T generalizing K j with
  | nil => simp at he
  | cons t T ih =>
    obtain ⟨h0, ht⟩ := List.pairwise_cons.1 hp
    intro x hx
    cases K with
    | nil => simp [keepE] at hx
    | cons k K =>
      cases j with
      | zero => simp [keepE] at hx
      | succ j =>
        simp only [List.take_succ_cons, keepE] at hx
        have he' : T[j]? = some e := by simpa using he
        have hlt := h0 e (List.mem_of_getElem? he')
        split at hx
        · rcases List.mem_cons.1 hx with rfl | hx
          · omega
          · exact ih ht K j he' x hx
        · exact ih ht K j he' x hx
/-- While the choice is taken up: j of it. -/
structure CrI (w3 wr : World) (go : Nat) (S : List Value) (K : List Int) (T : List Ent) (j : Nat) : Prop where
  row : ∃ cs, wr.heap[go]? = some (.cells cs 22 (0, 0)) ∧ cs.toList.take S.length = flu S (keepE (K.take j) T) ∧ S.length ≤ cs.size
  fr : Fr [go] w3 wr
theorem CrI.skip {w3 wr : World} {go : Nat} {S : List Value} {K : List Int} {T : List Ent} {j : Nat} (I : CrI w3 wr go S K T j) {e : Ent} (h1 : K[j]? = some 0) (h2 : T[j]? = some e) : CrI w3 wr go S K T (j + 1) := by
  obtain ⟨cs, r1, r2, r3⟩ := I.row
  refine ⟨⟨cs, r1, ?_, r3⟩, I.fr⟩
  rw [keepE_take K T j 0 e h1 h2, r2]; simp
theorem CrI.take {w3 wr X : World} {go : Nat} {S : List Value} {K : List Int} {T : List Ent} {j : Nat} (I : CrI w3 wr go S K T j) {e : Ent} (h1 : K[j]? = some 1) (h2 : T[j]? = some e) (hp : T.Pairwise (fun a b => a.k < b.k)) (hX : Fr [] wr X) : CrI w3 (X.setCell ⟨go, e.k, none⟩ e.v) go S K T (j + 1) := by
  obtain ⟨cs, r1, r2, r3⟩ := I.row
  have hb := hX.heap (b := go) (by simp) r1
  refine ⟨⟨cs.setIfInBounds e.k e.v, heap_setCell_same _ _ _ _ _ _ hb, ?_, by simpa using r3⟩, (I.fr.then hX (by simp)).trans ((Fr.refl _ _).setCell (.inl (by simp)) _)⟩
  rw [keepE_take K T j 1 e h1 h2, if_pos rfl, flu_snoc S _ e (keepE_lt hp K j e h2), ← r2, Array.toList_setIfInBounds, List.take_set]
theorem CrI.slot {w3 wr : World} {go : Nat} {S : List Value} {K : List Int} {T : List Ent} {j : Nat} (I : CrI w3 wr go S K T j) (i : Nat) (hi : i < S.length) : ∃ old, wr.cell? ⟨go, i, none⟩ = some old ∧ wr.frozen? ⟨go, i, none⟩ = false := by
  obtain ⟨cs, r1, r2, r3⟩ := I.row
  exact ⟨cs[i]'(by omega), by rw [cell_of_row wr go i _ _ _ r1, Array.getElem?_eq_getElem], frozen_of_row wr go _ _ _ r1⟩

theorem DiskAt.rdS {w : World} {g bs bm : Nat} {F O S : List Value} {T : List Ent} (D : DiskAt w g bs bm F O S T) {sc : Nat} (h : S.length ≤ sc) : RdV w (.slice (some ⟨bs, 0, none⟩) S.length sc) S := by
  refine .inr ⟨⟨bs, 0, none⟩, sc, rfl, h, fun j u hj => ⟨bs, 0, rfl, ?_⟩⟩
  rw [Nat.zero_add]; exact D.safe hj
set_option maxRecDepth 100000 in
set_option maxHeartbeats 8000000 in
theorem crash_any (w : World) {g bs bm : Nat} {F O S : List Value} {T : List Ent} (D : DiskAt w g bs bm F O S T) (hS : S.length ≤ 4096) (h0 : 0 < S.length) (hT : T.length ≤ 4096) (kv : Value) (K : List Int) (hkv : RdV w kv (K.map (Value.int .i64))) (hK : K.length ≤ T.length) (hk : ∀ k ∈ K, k = 0 ∨ k = 1) :
    Calls Try.prog 10 #[.pointer (some ⟨g, 0, none⟩), kv] w fun e w' => ∃ g' bs' bm', e = .returned (.tuple #[.pointer (some ⟨g', 0, none⟩), .int .i64 0]) ∧ DiskAt w' g' bs' bm' (flu S (keepE K T)) [] (flu S (keepE K T)) [] ∧ Below w.heap.size w w' ∧ w.heap.size ≤ g' ∧ w.heap.size ≤ bs' ∧ w.heap.size ≤ bm' := by
  obtain ⟨fv, lv, sc, hbox, hF, hL, hsc⟩ := D.box
  obtain ⟨c0, c1, c2, c3⟩ := cells_disk hbox
  obtain ⟨cl, hmap, _⟩ := D.map
  obtain ⟨ka, kc, rfl, hkr⟩ := hkv.open
  have HD := Lib.hid D; have HM := Lib.hid hmap; have HT := Lib.hid hT; have HK := Lib.hid hk; have HR := Lib.hid hkr; have HL := Lib.hid hK; have H0 := Lib.hid h0
  clear D hmap hbox hF hL hT hk hkr hkv hK h0
  simp only [List.length_map]
  go_enter Try.func10, Try.ntmps10
  go_wp2_with fail
  refine (waiting_any _ HD.out hS HT.out).mono ?_
  rintro e w1 ⟨nv, wv, rfl, hb1, hn1, hw1⟩
  obtain ⟨na, nc, rfl, hnr⟩ := (RdV_of_owns hn1).open
  obtain ⟨wa, wc, rfl, hwr⟩ := (RdV_of_owns hw1).open
  simp only [List.length_map]
  have HB1 := Lib.hid hb1; have HNR := Lib.hid hnr; have HWR := Lib.hid hwr
  have g2 : w1.cell? ⟨g, 2, none⟩ = some (.slice (some ⟨bs, 0, none⟩) S.length sc) := (hb1.cell (p := ⟨g, 2, none⟩) HD.out.lt.1).trans c2
  have lk : (K.length : Int) ≤ T.length := by have := HL.out; omega
  clear hb1 hnr hwr hn1 hw1
  go_wp2_with fail
  refine (cloneR_any _ _ S (HD.out.rdS hsc |>.below HB1.out) hS H0.out (fun u hu => HD.out.one u (List.mem_append_right _ hu))).mono ?_
  rintro e w3 ⟨r, rfl, hown, hb3⟩
  rcases hown.2 with ⟨_, h00⟩ | ⟨go, oc, cur, rfl, hgo, hh, hn, hm, hs, ht⟩
  · exact absurd H0.out (by omega)
  have HI0 := Lib.hid (show CrI w3 w3 go S K T 0 from ⟨⟨cur, hh, by rw [List.take_zero, keepE_nil, flu_nil]; simpa using ht, by omega⟩, Fr.refl _ _⟩)
  have HB3 := Lib.hid hb3; have HG := Lib.hid hgo; have HO := Lib.hid (show S.length ≤ oc from hn)
  clear hown hb3 hh hn hm hs ht hgo g2 c0 c1 c2
  go_wp2_with fail
  go_loopw [31, 9, 10] (fun i _ _ wq => ∃ j : Nat, j ≤ K.length ∧ i = .int .i64 j ∧ CrI w3 wq go S K T j) (fun i _ _ _ => K.length - (intOf i).toNat)
  case atStart => exact ⟨0, by omega, rfl, HI0.out⟩
  case round =>
    obtain ⟨j, hj, rfl, hI⟩ := hrel
    have HI := Lib.hid hI
    clear hI
    have j4 : (K.length : Int) ≤ 4096 := by have := HT.out; have := HL.out; omega
    have hfr : Fr [go] w wr := (((Fr.of_below HB1.out).trans (Fr.of_below HB3.out)).trans HI.out.fr)
    have hfr1 : Fr [go] w1 wr := ((Fr.of_below HB3.out).trans HI.out.fr)
    have hgw : w.heap.size ≤ go := Nat.le_trans HB1.out.size HG.out
    by_cases hlt : j < K.length
    · have hlT : j < T.length := by have := HL.out; omega
      obtain ⟨e, he⟩ : ∃ e, T[j]? = some e := ⟨_, List.getElem?_eq_getElem hlT⟩
      obtain ⟨k, hk⟩ : ∃ k, K[j]? = some k := ⟨_, List.getElem?_eq_getElem hlt⟩
      have hmem := List.mem_of_getElem? he
      have HE := Lib.hid he; have HKJ := Lib.hid hk
      obtain ⟨nb, no, hna, hnc⟩ := HNR.out j (.int .i64 (e.k : Int)) (by rw [List.getElem?_map, he]; rfl)
      obtain ⟨wb, wo, hwa, hwc⟩ := HWR.out j (.int .i64 1) (by rw [List.getElem?_map, he]; rfl)
      obtain ⟨kb, ko, hka, hkc⟩ := HR.out j (.int .i64 k) (by rw [List.getElem?_map, hk]; rfl)
      have d1 : wr.cell? ⟨nb, no + j, none⟩ = some (.int .i64 (e.k : Int)) := hfr1.cell (p := ⟨nb, no + j, none⟩) (by have := block_lt_of_cell hnc; have := HG.out; simp at *; omega) hnc
      have d2 : wr.cell? ⟨wb, wo + j, none⟩ = some (.int .i64 1) := hfr1.cell (p := ⟨wb, wo + j, none⟩) (by have := block_lt_of_cell hwc; have := HG.out; simp at *; omega) hwc
      have d3 : wr.cell? ⟨kb, ko + j, none⟩ = some (.int .i64 k) := hfr.cell (p := ⟨kb, ko + j, none⟩) (by have := block_lt_of_cell hkc; simp at *; omega) hkc
      have b0 : (0 : Int) ≤ (j : Int) := by omega
      have b1 : (j : Int) < (K.length : Int) := by omega
      have b2 : (j : Int) < (T.length : Int) := by omega
      have hkk := HK.out k (List.mem_of_getElem? hk)
      subst hna hwa hka
      clear hnc hwc hkc hk he
      rcases hkk with rfl | rfl
      · have HX := Lib.hid (HI.out.skip HKJ.out HE.out)
        clear hfr hfr1
        go_wp2_with fail
        go_roundw
        case rel => exact ⟨j + 1, by omega, by go_num, HX.out⟩
        case measure => simp [intOf]; omega
      · have hme : wr.heap[bm]? = some (.map (T.map Ent.obj).toArray cl) := hfr.heap (by have := HD.out.lt.2.2; simp; omega) HM.out
        have hlk : ∀ q, (Instr.lookup 66 (.map (some bm)) (.int .i64 (e.k : Int)) false).run Try.prog (wr.drewN q) = .ok e.sl (wr.drewN q) := fun q => run_look_some (w := wr.drewN q) hme e hmem HD.out.keys
        have g3 : wr.cell? ⟨g, 3, none⟩ = some (.map (some bm)) := hfr.cell (p := ⟨g, 3, none⟩) (by have := HD.out.lt.1; simp; omega) c3
        have hkS := HD.out.keyLt e hmem
        obtain ⟨old, ho1, ho2⟩ := HI.out.slot e.k hkS
        obtain ⟨b2', off2, cap2, hsl, hcap2, hsc2⟩ : ∃ b2 off2 cap2, e.sl = .slice (some ⟨b2, off2, none⟩) 1 cap2 ∧ 1 ≤ cap2 ∧ wr.cell? ⟨b2, off2, none⟩ = some e.v := by
          rcases HD.out.ents e hmem with ⟨_, h0⟩ | ⟨b2, off2, cap2, h1, h2, _, h4, h5⟩
          · cases h0
          · exact ⟨b2, off2, cap2, h1, h2, hfr.cell (p := ⟨b2, off2, none⟩) (by obtain ⟨_, _, hh⟩ := h4; have := (Array.getElem?_eq_some_iff.1 hh).1; simp; omega) (by simpa using h5 0 e.v rfl)⟩
        obtain ⟨va, vn, vc, hve⟩ := HD.out.oneE e hmem
        have HX := Lib.hid (fun q => HI.out.take HKJ.out HE.out HD.out.keys (Fr.drewN wr q))
        have e0 : (0 : Int) ≤ (e.k : Int) := by omega
        have e1 : (e.k : Int) < (S.length : Int) := by omega
        have hw0 : IntKind.i64.wrap 0 = 0 := rfl
        have bT := HT.out
        clear hfr hfr1 hme hmem
        obtain ⟨ek, esl, ev, eb⟩ := e
        dsimp only at *
        subst hsl hve
        go_wp2_with fail
        refine wp_region_qtail_lit 20 (by kernel_rfl) (by kernel_rfl) ?_
        simp only [List.take_succ_cons, List.take_zero, List.drop_succ_cons, List.drop_zero]
        repeat (quiet_step (fail))
        refine wpQuiet_nil ?_
        intro w4 hw4
        obtain ⟨nq, rfl⟩ := hw4
        have ho3 : (wr.drewN nq).cell? ⟨go, ek, none⟩ = some old := ho1
        have ho4 : (wr.drewN nq).frozen? ⟨go, ek, none⟩ = false := ho2
        go_wp2_with fail
        go_roundw
        case rel => exact ⟨j + 1, by omega, by go_num, HX.out nq⟩
        case measure => simp [intOf]; omega
    · obtain rfl : j = K.length := by omega
      obtain ⟨cs, r1, r2, r3⟩ := HI.out.row
      rw [List.take_length] at r2
      have hrd : RdN 22 [] wr (.slice (some ⟨go, 0, none⟩) (flu S (keepE K T)).length oc) (flu S (keepE K T)) := by
        refine .inr ⟨go, 0, oc, rfl, by rw [flu_length]; exact HO.out, by simp, ⟨_, _, r1⟩, fun i u hi => ?_⟩
        rw [cell_of_row wr go (0 + i) _ _ _ r1, Nat.zero_add]
        rw [← r2, List.getElem?_take] at hi
        split at hi
        · simpa using hi
        · cases hi
      rw [flu_length] at hrd
      have HRD := Lib.hid hrd
      have HFR := Lib.hid (hfr.below (B := w.heap.size) (Nat.le_refl _) (by simpa using hgw))
      clear hrd hfr hfr1 r1 r2 r3
      go_wp2_with fail
      refine (begun_any _ _ (flu S (keepE K T)) HRD.out (by rw [flu_length]; exact hS) (by rw [flu_length]; exact H0.out) ?_).mono ?_
      · intro u hu
        rcases flu_mem hu with hu | ⟨e, he, rfl⟩
        · exact HD.out.one u (List.mem_append_right _ hu)
        · exact HD.out.oneE e (keepE_sub K T e he)
      rintro e w5 ⟨g', bs', bm', rfl, hD, hb, h1, h2, h3⟩
      have hz : w.heap.size ≤ wr.heap.size := HFR.out.size
      have HH := Lib.hid (show DiskAt w5 g' bs' bm' (flu S (keepE K T)) [] (flu S (keepE K T)) [] ∧ Below w.heap.size w w5 ∧ w.heap.size ≤ g' ∧ w.heap.size ≤ bs' ∧ w.heap.size ≤ bm' from ⟨hD, HFR.out.trans (hb.mono hz), by omega, by omega, by omega⟩)
      clear hD hb h1 h2 h3 hz
      go_wp2_with fail
      go_ret2
      exact ⟨g', bs', bm', rfl, HH.out⟩
end Go.Proofs.Ytlkieepfjhiflaa
