/- The reference's header, of an entry that may be printed. (Printed by wip/gen/genrefhdr.py.) -/
import Derived.Test.YtikhdbdbdldbaaaDoorRefRight
import Derived.Test.YtikhdbdbdldbaaaDoorRdHdr
import Derived.Deep.CutRange
import Derived.Great.BuildSlice
namespace Go.Proofs.YtikhdbdbdldbaaaDoor
open Go.RowKit

/-- The header as the reference lays it, but for its sum. -/
def refH (p : List UInt8 × List UInt8) (e : EntD) : List UInt8 :=
  splice (splice (splice (splice ((splice (splice (splice (splice (splice (splice (splice (zer 512) 345 p.1) 0 p.2) 100 (octF e.mode.toNat 8)) 108 (octF 0 8)) 116 (octF 0 8)) 124 (octF e.data.length 12)) 136 (octF 0 12)).set 156 (kindB e.kind)) 157 e.link) 257 magicL) 329 (octF 0 8)) 337 (octF 0 8)
set_option maxRecDepth 10000 in
theorem refH_eq (p : List UInt8 × List UInt8) (e : EntD) (h1 : p.1.length ≤ 155) (h2 : p.2.length ≤ 100) (h3 : e.link.length ≤ 100) :
    refH p e = headA p.2 e.mode.toNat e.data.length ++ zer 8 ++ headB e.kind e.link p.1 := by
  have l1 := txtF_len h1; have l2 := txtF_len h2; have l3 := txtF_len h3
  have o8 := fun v => octF_len v 8 (by omega)
  have o12 := fun v => octF_len v 12 (by omega)
  have e8 : ∀ v, octF v 8 ++ (zer 8).drop (octF v 8).length = octF v 8 := fun v => by rw [o8]; simp [zer]
  have e12 : ∀ v, octF v 12 ++ (zer 12).drop (octF v 12).length = octF v 12 := fun v => by rw [o12]; simp [zer]
  have mg : magicL ++ (zer 8).drop magicL.length = magicL := by simp [magicL, zer]
  have kd : [kindB e.kind] ++ (zer 1).drop [kindB e.kind].length = [kindB e.kind] := by simp [zer]
  have ml : magicL.length = 8 := rfl
  unfold refH
  rw [segs_0]
  unfold segs
  rw [splice_segs p.1 _ 14 (zer 155) 345 rfl (by simp [zer_len]) (by rw [zer_len]; exact h1), fld_txt]
  simp only [List.set_cons_succ, List.set_cons_zero]
  rw [splice_segs p.2 _ 0 (zer 100) 0 rfl (by simp) (by rw [zer_len]; exact h2), fld_txt]
  simp only [List.set_cons_zero]
  rw [splice_segs (octF e.mode.toNat 8) _ 1 (zer 8) 100 rfl (by simp [l2]) (by rw [zer_len, o8]; omega), e8]
  simp only [List.set_cons_succ, List.set_cons_zero]
  rw [splice_segs (octF 0 8) _ 2 (zer 8) 108 rfl (by simp [l2, o8]) (by rw [zer_len, o8]; omega), e8]
  simp only [List.set_cons_succ, List.set_cons_zero]
  rw [splice_segs (octF 0 8) _ 3 (zer 8) 116 rfl (by simp [l2, o8]) (by rw [zer_len, o8]; omega), e8]
  simp only [List.set_cons_succ, List.set_cons_zero]
  rw [splice_segs (octF e.data.length 12) _ 4 (zer 12) 124 rfl (by simp [l2, o8]) (by rw [zer_len, o12]; omega), e12]
  simp only [List.set_cons_succ, List.set_cons_zero]
  rw [splice_segs (octF 0 12) _ 5 (zer 12) 136 rfl (by simp [l2, o8, o12]) (by rw [zer_len, o12]; omega), e12]
  simp only [List.set_cons_succ, List.set_cons_zero]
  rw [set_splice _ _ _ (by simp [zer_len, l1, l2, o8, o12])]
  rw [splice_segs [kindB e.kind] _ 7 (zer 1) 156 rfl (by simp [zer_len, l2, o8, o12]) (by rw [zer_len]; simp), kd]
  simp only [List.set_cons_succ, List.set_cons_zero]
  rw [splice_segs e.link _ 8 (zer 100) 157 rfl (by simp [zer_len, l2, o8, o12]) (by rw [zer_len]; exact h3), fld_txt]
  simp only [List.set_cons_succ, List.set_cons_zero]
  rw [splice_segs magicL _ 9 (zer 8) 257 rfl (by simp [zer_len, l2, l3, o8, o12]) (by rw [zer_len]; exact Nat.le_refl _), mg]
  simp only [List.set_cons_succ, List.set_cons_zero]
  rw [splice_segs (octF 0 8) _ 12 (zer 8) 329 rfl (by simp [zer_len, l2, l3, o8, o12, ml]) (by rw [zer_len, o8]; omega), e8]
  simp only [List.set_cons_succ, List.set_cons_zero]
  rw [splice_segs (octF 0 8) _ 13 (zer 8) 337 rfl (by simp [zer_len, l2, l3, o8, o12, ml]) (by rw [zer_len, o8]; omega), e8]
  simp only [List.set_cons_succ, List.set_cons_zero]
  simp [headA, headB]
theorem refH_sum (p : List UInt8 × List UInt8) (e : EntD) (hp : partedL e.name = some p) (h1 : p.1.length ≤ 155) (h2 : p.2.length ≤ 100) (h3 : e.link.length ≤ 100) : splice (refH p e) 148 (octF (sumH (refH p e)) 8) = headerL e := by
  rw [refH_eq p e h1 h2 h3]
  unfold headerL
  rw [hp]
  simp only [Option.getD_some]
  generalize hs : sumH _ = s
  have hA := headA_len h2 e.mode.toNat e.data.length
  rw [List.append_assoc, show 148 = (headA p.2 e.mode.toNat e.data.length).length + 0 by rw [hA], splice_right, splice_left _ _ _ _ (by rw [octF_len _ _ (by omega), zer_len]; omega)]
  have : splice (zer 8) 0 (octF s 8) = octF s 8 := by
    unfold splice
    rw [octF_len _ _ (by omega)]
    simp [zer]
  rw [this, List.append_assoc]
/-- The kinds' letters, as a row. -/
theorem kind_cell (w : World) (k : Nat) (h1 : 1 ≤ k) (h4 : k ≤ 4) : (w.alloc (.cells #[.int .u8 0, .int .u8 48, .int .u8 53, .int .u8 50, .int .u8 49] 5)).cell? ⟨w.heap.size, k, none⟩ = some (vB (kindB (k : Int))) := by
  refine (cell_of_row _ _ k _ _ _ (heap_alloc_new w _)).trans ?_
  rcases (by omega : k = 1 ∨ k = 2 ∨ k = 3 ∨ k = 4) with rfl | rfl | rfl | rfl <;> rfl
theorem fill5 : Instr.fill (fun i => some (i * 1, 1)) ((Array.range (5 * 1)).map ((Value.int .u8 0).cells[· % (Value.int .u8 0).cells.size]!)) [(0, .int .u8 0), (1, .int .u8 48), (2, .int .u8 53), (3, .int .u8 50), (4, .int .u8 49)] = some #[.int .u8 0, .int .u8 48, .int .u8 53, .int .u8 50, .int .u8 49] := by kernel_rfl
theorem wpList_kinds5 {ops : Array Oper} {rest : List Oper} {o : Oper} {a : Act} {w : World} {Q : Exit → Act → World → Prop} (hg : o.guard = none)
    (ho : o.op = .buildSlice 23 5 #[(0, .const (.int .u8 0)), (1, .const (.int .u8 48)), (2, .const (.int .u8 53)), (3, .const (.int .u8 50)), (4, .const (.int .u8 49))])
    (h : ∀ wx, wx = w.alloc (.cells #[.int .u8 0, .int .u8 48, .int .u8 53, .int .u8 50, .int .u8 49] 5) → wpList Tryd.prog ops Q rest (a.put o.dst (.slice (some ⟨w.heap.size, 0, none⟩) 5 5)) wx) : wpList Tryd.prog ops Q (o :: rest) a w := by
  obtain ⟨i0, hi, hz0, hz1, hz2⟩ := info_parts info_byte
  refine wpList_buildSlice hg 23 5 5 _ ho _ i0 (.int .u8 0) Tryd.underlying23 hi hz0 (by rw [hz1]; decide) (by rw [hz1]; decide) ?hf (h _ rfl)
  have he : ∀ v, a.eval (.const v) = v := fun v => rfl
  simp only [hz1, List.map_toArray, List.map_cons, List.map_nil, he]
  exact fill5
theorem splice_nil (L : List UInt8) (o : Nat) : splice L o [] = L := by simp [splice]
theorem part_is {s : List UInt8} {p : List UInt8 × List UInt8} (hp : partedL s = some p) : (s.length ≤ 100 ∧ partI s = 0 ∧ p = ([], s)) ∨ (100 < s.length ∧ ∃ k, 1 ≤ k ∧ k < s.length ∧ partI s = (k : Int) ∧ p = (s.take k, s.drop (k + 1))) := by
  by_cases h : s.length ≤ 100
  · left
    refine ⟨h, by unfold partI; rw [if_pos h], ?_⟩
    unfold partedL at hp
    rw [if_pos h] at hp
    exact (Option.some.inj hp).symm
  · right
    refine ⟨by omega, ?_⟩
    have hi : partI s = (p.1.length : Int) := by unfold partI; rw [if_neg h, hp]
    unfold partedL at hp
    rw [if_neg h] at hp
    cases hl : lastSl (s.take (min (s.length - 1) 156)) with
    | none => rw [hl] at hp; cases hp
    | some i =>
      rw [hl] at hp
      simp only at hp
      have hlt := lastSl_lt hl
      rw [List.length_take] at hlt
      by_cases hc : i < 1 ∨ 100 < s.length - i - 1
      · rw [if_pos hc] at hp; cases hp
      · rw [if_neg hc] at hp
        obtain rfl := (Option.some.inj hp).symm
        exact ⟨i, by omega, by omega, by rw [hi, List.length_take]; congr 1; omega, rfl⟩
set_option maxRecDepth 100000 in
set_option maxHeartbeats 16000000 in
theorem refheader_any (w : World) (e : EntD) (a : Option Addr) (cap : Nat) (p : List UInt8 × List UInt8) (hp : partedL e.name = some p) (hk : 1 ≤ e.kind) (hk4 : e.kind ≤ 4) (hm : 0 ≤ e.mode) (hm4 : e.mode ≤ 4095) (hd : e.data.length ≤ 70656) (hlk : e.link.length ≤ 100) (hl : e.name.length ≤ 9223372036854775807) :
    Calls Tryd.prog 23 #[eV e (.slice a e.data.length cap)] w fun r w' => ∃ g, r = .returned (.slice (some ⟨g, 0, none⟩) 512 512) ∧ w.heap.size ≤ g ∧ HRow w' g (headerL e) ∧ Below w.heap.size w w' := by
  have hpl := parted_len hp
  have HH := Lib.hid (refH_sum p e hp hpl.1 hpl.2 hlk)
  have M := Lib.hid (ebox_new w e (.slice a e.data.length cap))
  have HPL := Lib.hid hpl
  obtain ⟨kd, hkd⟩ : ∃ kd : Nat, e.kind = (kd : Int) := ⟨e.kind.toNat, by omega⟩
  have HK := Lib.hid (show 1 ≤ kd ∧ kd ≤ 4 ∧ e.kind = (kd : Int) by omega)
  obtain ⟨m, hmm⟩ : ∃ m : Nat, e.mode = (m : Int) := ⟨e.mode.toNat, by omega⟩
  have HM := Lib.hid (show m ≤ 4095 ∧ e.mode = (m : Int) ∧ e.mode.toNat = m by omega)
  have HD := Lib.hid hd; have HLK := Lib.hid hlk
  have HPART := Lib.hid (show (e.name.length ≤ 100 ∧ partI e.name = 0 ∧ p = ([], e.name)) ∨ (100 < e.name.length ∧ ∃ k, 1 ≤ k ∧ k < e.name.length ∧ partI e.name = (k : Int) ∧ p = (e.name.take k, e.name.drop (k + 1))) from part_is hp)
  obtain ⟨i0, hi, hz0, hz1, hz2⟩ := info_parts info_byte
  have hsz := bs_size e.name
  clear hp hpl hk hk4 hm hm4 hd hlk hkd hmm
  unfold eV
  go_enter Tryd.func23, Tryd.ntmps23
  go_wp2_with (refine wpList_make_full _ rfl _ _ 23 rfl w.heap.size 5 i0 (.int .u8 0) 1 Tryd.underlying23 hi hz0 hz1 _ _ 512 512 512 rfl rfl rfl rfl ?b2 ?b3 ?b4 ?_)
  case b2 => rw [hz2]; omega
  case b3 => simp only [maxLen]; omega
  case b4 => simp
  intro w1 hown hgr
  have HS := Lib.hid (show HdSt w w1 e (.slice a e.data.length cap) (w.heap.size + 1) (zer 512) from
    ⟨M.out.keep (below_grown hgr (Nat.le_refl _) (fun k hk => by cases hk)), (hrow_of_make (xs := zer 512) (by rw [← zerV]; exact hown) (by omega)).1, by omega, zer_len 512⟩)
  clear hown hgr M hi hz0 hz1 hz2
  generalize hgg : w.heap.size + 1 = g at *
  have HG := Lib.hid hgg
  clear hgg
  have k0 := HS.out.box.c0
  go_wp2_with fail
  refine (part_any w1 e.name (by omega)).mono ?_
  rintro r w2 ⟨rfl, hb⟩
  have HS0 := Lib.hid (HS.out.keep hb)
  clear HS hb k0
  have k0 := HS0.out.box.c0
  go_upto_if 10 with fail
  obtain ⟨LB, hLB⟩ : ∃ X, X = splice (splice (zer 512) 345 p.1) 0 p.2 := ⟨_, rfl⟩
  have HLB := Lib.hid hLB
  clear hLB
  go_cut [] from 4 to 27 (fun wx => HdSt w wx e (.slice a e.data.length cap) g LB)
  case first =>
    rename_i K0 hK0 J K1 hRJ hMet
    clear hK0
    rcases HPART.out with ⟨h100, hpi, hpe⟩ | ⟨h100, k, hk1, hk2, hpi, hpe⟩
    · have q1 : ¬ (0 : Int) < partI e.name := by rw [hpi]; decide
      have hlx0 : 0 + e.name.length ≤ 512 := by omega
      have HPE := Lib.hid hpe
      have HX := Lib.hid hlx0
      generalize partI e.name = pi at q1 ⊢
      clear hpi hpe h100 hl HPART hlx0
      refine wp_cond_split rfl (fun h => ?_) (fun h => ?_)
      · simp only [decide_eq_true_eq] at h
        exact absurd h q1
      clear h
      go_wp2_with fail
      refine (refput_any _ g 0 (e.name) (zer 512) HS0.out.row HS0.out.len HX.out).mono ?_
      rintro r wp0 ⟨rfl, hr, hf⟩
      obtain ⟨LN, hLN⟩ : ∃ X, X = splice (zer 512) 0 (e.name) := ⟨_, rfl⟩
      have HSB := Lib.hid (HS0.out.put hf hr (splice_len HS0.out.len HX.out))
      rw [← hLN] at HSB
      have HLN := Lib.hid hLN
      clear HS0 hf hr hLN
      have HLB2 := Lib.hid (show LB = LN by rw [HLN.out, HLB.out, HPE.out, splice_nil])
      clear HLB HPE HX
      go_wp2_with fail
      go_meet
      exact HLB2.out ▸ HSB.out
    · have hx1 : (bs e.name).extract 0 k = bs (e.name.take k) := by rw [bs_extract]; rfl
      have hx2 : (bs e.name).extract (k + 1) e.name.length = bs (e.name.drop (k + 1)) := by rw [bs_extract, List.take_of_length_le (Nat.le_refl _)]
      have q1 : (0 : Int) < (k : Int) := by omega
      have q2 : (k : Int) < (e.name.length : Int) := by omega
      have q3 : (e.name.length : Int) ≤ 9223372036854775807 := by omega
      have R1 := Lib.hid (show (e.name.take k).length ≤ 155 by have := HPL.out.1; rwa [hpe] at this)
      have R2 := Lib.hid (show (e.name.drop (k + 1)).length ≤ 100 by have := HPL.out.2; rwa [hpe] at this)
      have HPE := Lib.hid hpe
      rw [hpi]
      clear hpi hpe h100 hl HPART
      refine wp_cond_split rfl (fun h => ?_) (fun h => ?_)
      rotate_left
      · simp only [decide_eq_false_iff_not] at h
        exact absurd q1 h
      clear h
      go_wp2_with fail
      refine (refput_any _ g 345 (e.name.take k) (zer 512) HS0.out.row HS0.out.len (by have := R1.out; omega)).mono ?_
      rintro r wpa ⟨rfl, hr, hf⟩
      obtain ⟨LA, hLA⟩ : ∃ X, X = splice (zer 512) 345 (e.name.take k) := ⟨_, rfl⟩
      have HSA0 := Lib.hid (HS0.out.put hf hr (splice_len HS0.out.len (by have := R1.out; omega)))
      rw [← hLA] at HSA0
      have HLA := Lib.hid hLA
      clear HS0 hf hr hLA
      clear k0
      have k0 := HSA0.out.box.c0
      go_wp2_with fail
      refine (refput_any _ g 0 (e.name.drop (k + 1)) LA HSA0.out.row HSA0.out.len (by have := R2.out; omega)).mono ?_
      rintro r wp0 ⟨rfl, hr, hf⟩
      obtain ⟨LN, hLN⟩ : ∃ X, X = splice LA 0 (e.name.drop (k + 1)) := ⟨_, rfl⟩
      have HSB := Lib.hid (HSA0.out.put hf hr (splice_len HSA0.out.len (by have := R2.out; omega)))
      rw [← hLN] at HSB
      have HLN := Lib.hid hLN
      clear HSA0 hf hr hLN
      have HLB2 := Lib.hid (show LB = LN by rw [HLN.out, HLA.out, HLB.out, HPE.out])
      clear HLB HPE HLN HLA
      go_wp2_with fail
      go_meet
      exact HLB2.out ▸ HSB.out
  case rest =>
  have HSB := Lib.hid hcut
  clear hcut HS0 k0 HPART
  have k2 := HSB.out.box.c2
  rw [HM.out.2.1] at k2
  go_wp2_with fail
  refine (octal_any _ m 8 (by omega) (by omega) (by have := HM.out.1; omega)).mono ?_
  rintro r wo1 ⟨og, rfl, hog, hrow, hb⟩
  have HSBo := Lib.hid (HSB.out.keep hb)
  have rt := run_text (hrow.rd 8 (Nat.le_of_eq (octF_len _ _ (by omega))))
  rw [octF_len _ _ (by omega)] at rt
  clear HSB hb
  go_wp2_with fail
  clear rt hog hrow
  refine (refput_any _ g 100 (octF m 8) LB HSBo.out.row HSBo.out.len (by rw [octF_len _ _ (by omega)]; omega)).mono ?_
  rintro r wp1 ⟨rfl, hr, hf⟩
  obtain ⟨LC, hLC⟩ : ∃ X, X = splice LB 100 (octF m 8) := ⟨_, rfl⟩
  have HSC := Lib.hid (HSBo.out.put hf hr (splice_len HSBo.out.len (by rw [octF_len _ _ (by omega)]; omega)))
  rw [← hLC] at HSC
  have HLC := Lib.hid hLC
  clear HSBo hf hr hLC
  clear k2
  go_wp2_with fail
  refine (octal_any _ 0 8 (by omega) (by omega) (by omega)).mono ?_
  rintro r wo2 ⟨og, rfl, hog, hrow, hb⟩
  have HSCo := Lib.hid (HSC.out.keep hb)
  have rt := run_text (hrow.rd 8 (Nat.le_of_eq (octF_len _ _ (by omega))))
  rw [octF_len _ _ (by omega)] at rt
  clear HSC hb
  go_wp2_with fail
  clear rt hog hrow
  refine (refput_any _ g 108 (octF 0 8) LC HSCo.out.row HSCo.out.len (by rw [octF_len _ _ (by omega)]; omega)).mono ?_
  rintro r wp2 ⟨rfl, hr, hf⟩
  obtain ⟨LD, hLD⟩ : ∃ X, X = splice LC 108 (octF 0 8) := ⟨_, rfl⟩
  have HSD := Lib.hid (HSCo.out.put hf hr (splice_len HSCo.out.len (by rw [octF_len _ _ (by omega)]; omega)))
  rw [← hLD] at HSD
  have HLD := Lib.hid hLD
  clear HSCo hf hr hLD
  go_wp2_with fail
  refine (octal_any _ 0 8 (by omega) (by omega) (by omega)).mono ?_
  rintro r wo3 ⟨og, rfl, hog, hrow, hb⟩
  have HSDo := Lib.hid (HSD.out.keep hb)
  have rt := run_text (hrow.rd 8 (Nat.le_of_eq (octF_len _ _ (by omega))))
  rw [octF_len _ _ (by omega)] at rt
  clear HSD hb
  go_wp2_with fail
  clear rt hog hrow
  refine (refput_any _ g 116 (octF 0 8) LD HSDo.out.row HSDo.out.len (by rw [octF_len _ _ (by omega)]; omega)).mono ?_
  rintro r wp3 ⟨rfl, hr, hf⟩
  obtain ⟨LE, hLE⟩ : ∃ X, X = splice LD 116 (octF 0 8) := ⟨_, rfl⟩
  have HSE := Lib.hid (HSDo.out.put hf hr (splice_len HSDo.out.len (by rw [octF_len _ _ (by omega)]; omega)))
  rw [← hLE] at HSE
  have HLE := Lib.hid hLE
  clear HSDo hf hr hLE
  have k4 := HSE.out.box.c4
  have hdl := HD.out
  go_wp2_with fail
  refine (octal_any _ e.data.length 12 (by omega) (by omega) (by omega)).mono ?_
  rintro r wo4 ⟨og, rfl, hog, hrow, hb⟩
  have HSEo := Lib.hid (HSE.out.keep hb)
  have rt := run_text (hrow.rd 12 (Nat.le_of_eq (octF_len _ _ (by omega))))
  rw [octF_len _ _ (by omega)] at rt
  clear HSE hb
  go_wp2_with fail
  clear rt hog hrow
  refine (refput_any _ g 124 (octF e.data.length 12) LE HSEo.out.row HSEo.out.len (by rw [octF_len _ _ (by omega)]; omega)).mono ?_
  rintro r wp4 ⟨rfl, hr, hf⟩
  obtain ⟨LF, hLF⟩ : ∃ X, X = splice LE 124 (octF e.data.length 12) := ⟨_, rfl⟩
  have HSF := Lib.hid (HSEo.out.put hf hr (splice_len HSEo.out.len (by rw [octF_len _ _ (by omega)]; omega)))
  rw [← hLF] at HSF
  have HLF := Lib.hid hLF
  clear HSEo hf hr hLF
  clear k4 hdl
  go_wp2_with fail
  refine (octal_any _ 0 12 (by omega) (by omega) (by omega)).mono ?_
  rintro r wo5 ⟨og, rfl, hog, hrow, hb⟩
  have HSFo := Lib.hid (HSF.out.keep hb)
  have rt := run_text (hrow.rd 12 (Nat.le_of_eq (octF_len _ _ (by omega))))
  rw [octF_len _ _ (by omega)] at rt
  clear HSF hb
  go_wp2_with fail
  clear rt hog hrow
  refine (refput_any _ g 136 (octF 0 12) LF HSFo.out.row HSFo.out.len (by rw [octF_len _ _ (by omega)]; omega)).mono ?_
  rintro r wp5 ⟨rfl, hr, hf⟩
  obtain ⟨LG, hLG⟩ : ∃ X, X = splice LF 136 (octF 0 12) := ⟨_, rfl⟩
  have HSG := Lib.hid (HSFo.out.put hf hr (splice_len HSFo.out.len (by rw [octF_len _ _ (by omega)]; omega)))
  rw [← hLG] at HSG
  have HLG := Lib.hid hLG
  clear HSFo hf hr hLG
  go_upto_region 12 with fail
  go_step
  go_step
  go_step
  go_step
  refine wpList_kinds5 rfl rfl ?_
  intro wx hwx
  have hcell := kind_cell wp5 kd HK.out.1 HK.out.2.1
  rw [← hwx] at hcell
  have hgs : g < wp5.heap.size := (Array.getElem?_eq_some_iff.1 HSG.out.row).1
  have HSA := Lib.hid (show HdSt w wx e (.slice a e.data.length cap) g LG from hwx ▸ HSG.out.keep ((Below.refl wp5.heap.size wp5).alloc (Nat.le_refl _) (.cells #[.int .u8 0, .int .u8 48, .int .u8 53, .int .u8 50, .int .u8 49] 5)))
  clear hwx HSG
  have k1 := HSA.out.box.c1
  rw [HK.out.2.2] at k1
  have hk1' : (1 : Int) ≤ (kd : Int) := by have := HK.out.1; omega
  have hk4' : (kd : Int) ≤ 4 := by have := HK.out.2.1; omega
  obtain ⟨old, hcell2⟩ : ∃ old, wx.cell? ⟨g, 156, none⟩ = some old := ⟨_, HSA.out.row.cell 156 (by rw [HSA.out.len]; omega)⟩
  have hfree := HSA.out.row.free 156
  obtain ⟨LI, hLI⟩ : ∃ X, X = LG.set 156 (kindB e.kind) := ⟨_, rfl⟩
  have HSI := Lib.hid (HSA.out.put ((Fr.refl [g] wx).setCell (p := ⟨g, 156, none⟩) (.inl (by simp)) (vB (kindB e.kind))) (HSA.out.row.set 156 (kindB e.kind)) (by rw [List.length_set, HSA.out.len]))
  rw [← hLI] at HSI
  have HLI := Lib.hid hLI
  rw [HK.out.2.2] at HSI
  obtain ⟨kb, hkb⟩ : ∃ kb : Int, vB (kindB (kd : Int)) = .int .u8 kb := ⟨_, rfl⟩
  rw [hkb] at HSI hcell
  clear HSA hkb hLI
  have k3 := HSI.out.box.c3
  have hb := bs_size e.link
  go_step
  go_step
  go_step
  go_step
  go_step
  go_step
  go_step
  go_step
  go_step
  go_step
  go_step
  go_step
  go_step
  go_step
  go_step
  go_step
  go_step
  go_step
  go_wp2_with fail
  refine (refput_any _ g 157 (e.link) LI HSI.out.row HSI.out.len (by have := HLK.out; omega)).mono ?_
  rintro r wp6 ⟨rfl, hr, hf⟩
  obtain ⟨LJ, hLJ⟩ : ∃ X, X = splice LI 157 (e.link) := ⟨_, rfl⟩
  have HSJ := Lib.hid (HSI.out.put hf hr (splice_len HSI.out.len (by have := HLK.out; omega)))
  rw [← hLJ] at HSJ
  have HLJ := Lib.hid hLJ
  clear HSI hf hr hLJ
  clear k3 k1 hcell hcell2 hfree hb
  go_wp2_with fail
  refine (refput_any _ g 257 (magicL) LJ HSJ.out.row HSJ.out.len (by decide)).mono ?_
  rintro r wp7 ⟨rfl, hr, hf⟩
  obtain ⟨LK, hLK⟩ : ∃ X, X = splice LJ 257 (magicL) := ⟨_, rfl⟩
  have HSK := Lib.hid (HSJ.out.put hf hr (splice_len HSJ.out.len (by decide)))
  rw [← hLK] at HSK
  have HLK := Lib.hid hLK
  clear HSJ hf hr hLK
  go_wp2_with fail
  refine (octal_any _ 0 8 (by omega) (by omega) (by omega)).mono ?_
  rintro r wo8 ⟨og, rfl, hog, hrow, hb⟩
  have HSKo := Lib.hid (HSK.out.keep hb)
  have rt := run_text (hrow.rd 8 (Nat.le_of_eq (octF_len _ _ (by omega))))
  rw [octF_len _ _ (by omega)] at rt
  clear HSK hb
  go_wp2_with fail
  clear rt hog hrow
  refine (refput_any _ g 329 (octF 0 8) LK HSKo.out.row HSKo.out.len (by rw [octF_len _ _ (by omega)]; omega)).mono ?_
  rintro r wp8 ⟨rfl, hr, hf⟩
  obtain ⟨LM, hLM⟩ : ∃ X, X = splice LK 329 (octF 0 8) := ⟨_, rfl⟩
  have HSM := Lib.hid (HSKo.out.put hf hr (splice_len HSKo.out.len (by rw [octF_len _ _ (by omega)]; omega)))
  rw [← hLM] at HSM
  have HLM := Lib.hid hLM
  clear HSKo hf hr hLM
  go_wp2_with fail
  refine (octal_any _ 0 8 (by omega) (by omega) (by omega)).mono ?_
  rintro r wo9 ⟨og, rfl, hog, hrow, hb⟩
  have HSMo := Lib.hid (HSM.out.keep hb)
  have rt := run_text (hrow.rd 8 (Nat.le_of_eq (octF_len _ _ (by omega))))
  rw [octF_len _ _ (by omega)] at rt
  clear HSM hb
  go_wp2_with fail
  clear rt hog hrow
  refine (refput_any _ g 337 (octF 0 8) LM HSMo.out.row HSMo.out.len (by rw [octF_len _ _ (by omega)]; omega)).mono ?_
  rintro r wp9 ⟨rfl, hr, hf⟩
  obtain ⟨LN, hLN⟩ : ∃ X, X = splice LM 337 (octF 0 8) := ⟨_, rfl⟩
  have HSN := Lib.hid (HSMo.out.put hf hr (splice_len HSMo.out.len (by rw [octF_len _ _ (by omega)]; omega)))
  rw [← hLN] at HSN
  have HLN := Lib.hid hLN
  clear HSMo hf hr hLN
  go_wp2_with fail
  have hrd : RdV wp9 (.slice (some ⟨g, 0, none⟩) 512 512) (LN.map vB) := by
    have h := HSN.out.row.rd 512 (Nat.le_of_eq HSN.out.len)
    rwa [HSN.out.len] at h
  refine (refSum_any wp9 _ LN hrd (by have := HSN.out.len; omega)).mono ?_
  rintro r ws ⟨rfl, hb⟩
  have HSP := Lib.hid (HSN.out.keep hb)
  clear HSN hb hrd
  obtain ⟨sm, hsm⟩ : ∃ x, x = sumH LN := ⟨_, rfl⟩
  rw [← hsm]
  have HSMM := Lib.hid hsm
  have hsb : sm ≤ 1000000 := by have := sumH_le LN; omega
  clear hsm
  go_wp2_with fail
  refine (octal_any _ sm 8 (by omega) (by omega) (by omega)).mono ?_
  rintro r woB ⟨og, rfl, hog, hrow, hb⟩
  have HSPo := Lib.hid (HSP.out.keep hb)
  have rt := run_text (hrow.rd 8 (Nat.le_of_eq (octF_len _ _ (by omega))))
  rw [octF_len _ _ (by omega)] at rt
  clear HSP hb
  go_wp2_with fail
  clear rt hog hrow
  refine (refput_any _ g 148 (octF sm 8) LN HSPo.out.row HSPo.out.len (by rw [octF_len _ _ (by omega)]; omega)).mono ?_
  rintro r wpB ⟨rfl, hr, hf⟩
  obtain ⟨LP, hLP⟩ : ∃ X, X = splice LN 148 (octF sm 8) := ⟨_, rfl⟩
  have HSR := Lib.hid (HSPo.out.put hf hr (splice_len HSPo.out.len (by rw [octF_len _ _ (by omega)]; omega)))
  rw [← hLP] at HSR
  have HLP := Lib.hid hLP
  clear HSPo hf hr hLP
  go_wp2_with fail
  go_ret
  have hN : LN = refH p e := by rw [HLN.out, HLM.out, HLK.out, HLJ.out, HLI.out, HLG.out, HLF.out, HLE.out, HLD.out, HLC.out, HLB.out, ← HM.out.2.2]; rfl
  exact ⟨g, ret_eq (by simp), by rw [← HG.out]; omega, by have h := HSR.out.row; rwa [HLP.out, HSMM.out, hN, HH.out] at h, HSR.out.box.below⟩
end Go.Proofs.YtikhdbdbdldbaaaDoor
