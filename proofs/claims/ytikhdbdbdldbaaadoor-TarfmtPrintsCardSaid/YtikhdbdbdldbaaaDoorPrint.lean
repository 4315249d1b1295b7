/- The contract of tarfmt.Print. -/
import Derived.Test.YtikhdbdbdldbaaaDoorPrS
namespace Go.Proofs.YtikhdbdbdldbaaaDoor
open Go.RowKit

/-- The bytes answered: none, or a row of the call's own. -/
def Ans (w : World) (B : Nat) (v : Value) (l : List UInt8) : Prop := (v = .slice none 0 0 ∧ l = []) ∨ OutB w B v l
theorem hrow_512 {w : World} {g : Nat} {L : List UInt8} (h : HRow w g L) (hl : L.length = 512) : RdB w (.slice (some ⟨g, 0, none⟩) 512 512) L := by
  have := h.rd 512 (by omega)
  rwa [hl] at this
set_option maxRecDepth 100000 in
set_option maxHeartbeats 4000000 in
theorem print_any (w : World) (v : Value) (es : List EntD) (hr : RdEs w v es) (hsz : ∀ e ∈ es, e.name.length ≤ 9223372036854775807) :
    Calls Tryd.prog 10 #[v] w fun r w' => ∃ rv, r = .returned (.tuple #[rv, .int .i64 (printL es).2]) ∧ Ans w' w.heap.size rv (printL es).1 ∧ Below w.heap.size w w' := by
  obtain ⟨a, c, rfl, hc1, hc2⟩ := hr.slice
  have HR := Lib.hid hr; have HSZ := Lib.hid hsz
  have b0 : (es.length : Int) ≤ 9223372036854775807 := by omega
  clear hr hsz
  go_enter Tryd.func10, Tryd.ntmps10
  go_wp2_with fail
  go_loopw [15] (fun i wr => ∃ j : Nat, j ≤ es.length ∧ i = .int .i64 (j : Int) ∧ firstBad (es.take j) = none ∧ Below w.heap.size w wr) (fun i _ => ((es.length : Int) - intOf i).toNat)
  case atStart => exact ⟨0, by omega, by simp, by simp [firstBad], Below.refl _ _⟩
  case round =>
    obtain ⟨j, hj, rfl, hf, hB⟩ := hrel
    have HF := Lib.hid hf; have HB := Lib.hid hB
    clear hf hB
    by_cases hlt : j < es.length
    · obtain ⟨e, he⟩ : ∃ e, es[j]? = some e := ⟨es[j], List.getElem?_eq_getElem hlt⟩
      obtain ⟨b, off, dv, rfl, hrg, hrd⟩ := (HR.out.below HB.out).at j e he
      obtain ⟨da, dc, rfl, _⟩ := rd_slice hrd
      have hne : e.name.length ≤ 9223372036854775807 := HSZ.out e (List.mem_of_getElem? he)
      have hc0 : wr.cell? ⟨b, off + j * 5, none⟩ = some (.string (bs e.name)) := hrg 0 _ rfl
      have hc1 : wr.cell? ⟨b, off + j * 5 + 1, none⟩ = some (.int .i64 e.kind) := hrg 1 _ rfl
      have hc2 : wr.cell? ⟨b, off + j * 5 + 2, none⟩ = some (.int .i64 e.mode) := hrg 2 _ rfl
      have hc3 : wr.cell? ⟨b, off + j * 5 + 3, none⟩ = some (.string (bs e.link)) := hrg 3 _ rfl
      have hc4 : wr.cell? ⟨b, off + j * 5 + 4, none⟩ = some (.slice da e.data.length dc) := hrg 4 _ rfl
      have HE := Lib.hid he
      have i0 : (j : Int) < (es.length : Int) := by omega
      clear hrg hrd he
      go_wp2_with fail
      refine (right_any _ e _ da dc rfl hne).mono ?_
      rintro r w2 ⟨rfl, hb⟩
      have HB2 := Lib.hid (HB.out.trans (((Below.refl wr.heap.size wr).alloc (Nat.le_refl _) _).trans (hb.mono (by simp))|>.mono HB.out.size))
      clear hb hc0 hc1 hc2 hc3 hc4 HB
      by_cases h0 : rightL e = 0
      · have HF2 := Lib.hid (firstBad_take HE.out HF.out)
        rw [if_pos h0] at HF2
        rw [h0]
        clear h0 HF
        go_wp2_with fail
        exact ⟨⟨j + 1, by omega, by simp, HF2.out, HB2.out⟩, by simp [intOf]; omega⟩
      · have hfb := firstBad_take HE.out HF.out
        rw [if_neg h0] at hfb
        have HF2 := Lib.hid (show printL es = ([], rightL e) by unfold printL; rw [firstBad_some hfb])
        have hne0 : ¬ rightL e = 0 := h0
        clear hfb HF h0
        go_wp2_with fail
        exact bodyPost_ret (v := .tuple #[.slice none 0 0, .int .i64 (rightL e)]) (by simp [results, Tryd.results10, go_sem]) rfl ⟨.slice none 0 0, by rw [HF2.out], .inl ⟨rfl, by rw [HF2.out]⟩, HB2.out⟩
    · obtain rfl : j = es.length := by omega
      have HF0 := Lib.hid (show firstBad es = none by have := HF.out; rwa [List.take_length] at this)
      clear HF hj hlt
      by_cases hmax : 256 < es.length
      · have i1 : (256 : Int) < (es.length : Int) := by omega
        have HP := Lib.hid (show printL es = ([], 6) by unfold printL; rw [HF0.out]; simp only; rw [if_pos hmax])
        clear hmax
        go_wp2_with fail
        exact bodyPost_ret (v := .tuple #[.slice none 0 0, .int .i64 6]) (by simp [results, Tryd.results10, go_sem]) rfl ⟨.slice none 0 0, by rw [HP.out], .inl ⟨rfl, by rw [HP.out]⟩, HB.out⟩
      · have i1 : ¬ (256 : Int) < (es.length : Int) := by omega
        have HP := Lib.hid (show printL es = if roomL es 1024 then ((es.map bodyL).flatten ++ zer 1024, 0) else ([], 6) by unfold printL; rw [HF0.out]; simp only; rw [if_neg hmax])
        have HRT := Lib.hid (firstBad_all HF0.out)
        clear HF0 hmax
        go_wp2_with fail
        go_loopw [7, 30] (fun t i wr => ∃ (j A : Nat), j ≤ es.length ∧ t = .int .i64 (A : Int) ∧ i = .int .i64 (j : Int) ∧ A ≤ 60000 ∧ roomL es 1024 = roomL (es.drop j) A ∧ Below w.heap.size w wr) (fun _ i _ => ((es.length : Int) - intOf i).toNat)
        case atStart => exact ⟨0, 1024, by omega, by simp, by simp, by omega, by simp, HB.out⟩
        clear HB
        case round =>
          obtain ⟨j, A, hj, rfl, rfl, hA, hroom, hB⟩ := hrel
          have HB := Lib.hid hB; have HRM := Lib.hid hroom
          clear hB hroom
          by_cases hlt : j < es.length
          · obtain ⟨e, he⟩ : ∃ e, es[j]? = some e := ⟨es[j], List.getElem?_eq_getElem hlt⟩
            obtain ⟨b, off, da, dc, rfl, hc0, hc1, hc2, hc3, hc4, _⟩ := (HR.out.below HB.out).cells j e he
            have hdl : e.data.length ≤ 70656 := (right_ok (HRT.out e (List.mem_of_getElem? he))).2.2.2.2.1
            have hdr : es.drop j = e :: es.drop (j + 1) := by
              have := (List.getElem?_eq_some_iff.1 he).2
              rw [← this]; exact List.drop_eq_getElem_cons hlt
            have HRM2 := Lib.hid (show roomL es 1024 = if 60000 < A + 512 + filledL e.data.length then false else roomL (es.drop (j + 1)) (A + 512 + filledL e.data.length) by rw [HRM.out, hdr]; rfl)
            have i0 : (j : Int) < (es.length : Int) := by omega
            have a0 : (A : Int) ≤ 60000 := by omega
            clear he hdr HRM
            go_wp2_with fail
            refine (filled_any _ e.data.length (by omega)).mono ?_
            rintro r w2 ⟨rfl, hb⟩
            have HB2 := Lib.hid (HB.out.trans (((Below.refl wr.heap.size wr).alloc (Nat.le_refl _) _).trans (hb.mono (by simp))|>.mono HB.out.size))
            have hF : filledL e.data.length ≤ 71168 := by unfold filledL; omega
            clear hb hc0 hc1 hc2 hc3 hc4 HB
            obtain ⟨F, hFF⟩ : ∃ F, F = filledL e.data.length := ⟨_, rfl⟩
            rw [← hFF] at HRM2 hF ⊢
            clear hFF
            by_cases h60 : 60000 < A + 512 + F
            · rw [if_pos h60] at HRM2
              have i2 : (60000 : Int) < (A : Int) + (512 + (F : Int)) := by omega
              have HP2 := Lib.hid (show printL es = ([], 6) by rw [HP.out, HRM2.out]; rfl)
              clear h60 HRM2 HP
              go_wp2_with fail
              exact bodyPost_ret (v := .tuple #[.slice none 0 0, .int .i64 6]) (by simp [results, Tryd.results10, go_sem]) rfl ⟨.slice none 0 0, by rw [HP2.out], .inl ⟨rfl, by rw [HP2.out]⟩, HB2.out⟩
            · rw [if_neg h60] at HRM2
              have i2 : ¬ (60000 : Int) < (A : Int) + (512 + (F : Int)) := by omega
              go_wp2_with fail
              exact ⟨⟨j + 1, A + 512 + F, by omega, by congr 1; omega, by simp, by omega, HRM2.out, HB2.out⟩, by simp [intOf]; omega⟩
          · obtain rfl : j = es.length := by omega
            have HRM2 := Lib.hid (show roomL es 1024 = true by rw [HRM.out, List.drop_length]; rfl)
            rw [HRM2.out] at HP
            clear HRM HRM2 hj hlt
            obtain ⟨i0, hi, hz0, hz1, hz2⟩ := info_parts info_byte
            have a0 : (A : Int) ≤ 60000 := by omega
            go_wp2_with (refine wpList_make_own _ rfl (.const (.int .i64 0)) (.tmp 44) 23 rfl w.heap.size 5 i0 (.int .u8 0) 1 Tryd.underlying23 hi hz0 hz1 _ _ _ A rfl rfl rfl ?b2 ?b3 ?b4 ?_)
            case b2 => omega
            case b3 => simp only [maxLen]; omega
            case b4 => exact HB.out.size
            intro w1 hown hgr
            have HO := Lib.hid (show OwnB w1 w.heap.size (.slice (some ⟨wr.heap.size, 0, none⟩) 0 A) [] from hown)
            have HB1 := Lib.hid (HB.out.trans (below_grown hgr (Nat.le_refl _) (fun k hk => by cases hk)|>.mono HB.out.size))
            have HP2 := Lib.hid (show printL es = ((es.map bodyL).flatten ++ zer 1024, 0) by rw [HP.out]; rfl)
            clear hown hgr HB HP hi hz0 hz1 hz2
            generalize wr.heap.size = gr at *
            go_wp2_with fail
            go_loopw [10, 48] (fun v i wr => ∃ (j : Nat), j ≤ es.length ∧ i = .int .i64 (j : Int) ∧ OwnB wr w.heap.size v ((es.take j).map bodyL).flatten ∧ Below w.heap.size w wr) (fun _ i _ => ((es.length : Int) - intOf i).toNat)
            case atStart => exact ⟨0, by omega, by simp, by simpa using HO.out, HB1.out⟩
            clear HB1 HO
            case round =>
              obtain ⟨j, hj, rfl, hO, hB⟩ := hrel
              have HB := Lib.hid hB; have HO := Lib.hid hO
              clear hB hO
              by_cases hlt : j < es.length
              · obtain ⟨e, he⟩ : ∃ e, es[j]? = some e := ⟨es[j], List.getElem?_eq_getElem hlt⟩
                obtain ⟨b, off, da, dc, rfl, hc0, hc1, hc2, hc3, hc4, _⟩ := (HR.out.below HB.out).cells j e he
                obtain ⟨b', off', da', dc', hx1, hd0, hd1, hd2, hd3, hd4, hrd⟩ := HR.out.cells j e he
                have i0 : (j : Int) < (es.length : Int) := by omega
                have hrd2 : RdB w (.slice da e.data.length dc) e.data := by
                  have h4 := HB.out.cell (p := ⟨b', off' + j * 5 + 4, none⟩) (block_lt_of_cell hd4)
                  simp only [Option.some.injEq, Addr.mk.injEq] at hx1
                  obtain ⟨rfl, rfl, _⟩ := hx1
                  rw [h4, hd4] at hc4
                  simp only [Option.some.injEq, Value.slice.injEq] at hc4
                  obtain ⟨rfl, _, rfl⟩ := hc4
                  exact hrd
                have HPS := Lib.hid (show PrS w (wr.alloc (.cells #[.string (bs e.name), .int .i64 e.kind, .int .i64 e.mode, .string (bs e.link), .slice da e.data.length dc] 31)) wr.heap.size e da dc u10 ((es.take j).map bodyL).flatten from
                  ⟨HB.out.trans (((Below.refl wr.heap.size wr).alloc (Nat.le_refl _) _).mono HB.out.size), heap_alloc_new wr _, HB.out.size, hrd2, own_below HO.out ((Below.refl wr.heap.size wr).alloc (Nat.le_refl _) _)⟩)
                have HE := Lib.hid he
                clear hd0 hd1 hd2 hd3 hd4 hrd hrd2 hx1 HB HO he
                go_wp2_with fail
                clear hc0 hc1 hc2 hc3 hc4
                revert HPS
                generalize wr.alloc (.cells #[.string (bs e.name), .int .i64 e.kind, .int .i64 e.mode, .string (bs e.link), .slice da e.data.length dc] 31) = W1
                intro HPS
                have hok := HRT.out e (List.mem_of_getElem? HE.out)
                obtain ⟨p, hp⟩ := Option.isSome_iff_exists.1 (right_ok hok).2.2.2.1
                have HH := Lib.hid (fun W => header_any W e da dc p hp (right_ok hok).1.1 (right_ok hok).1.2 (right_ok hok).2.1.1 (right_ok hok).2.1.2 (right_ok hok).2.2.2.2.1 (right_ok hok).2.2.2.2.2 (HSZ.out e (List.mem_of_getElem? HE.out)))
                have HHL := Lib.hid (header_len hok); have HBL := Lib.hid (body_len hok); have HDL := Lib.hid (right_ok hok).2.2.2.2.1
                clear hok hp
                have HBO := Lib.hid (show ((es.take j).map bodyL).flatten.length ≤ 72000 * 300 by
                  have h := bodies_len (es := es.take j) (fun x hx => HRT.out x (List.mem_of_mem_take hx))
                  have h2 : (es.take j).length ≤ 256 := by simp; omega
                  omega)
                generalize wr.heap.size = gb at *
                have HPD := Lib.hid HPS.out.drew
                clear HPS
                have k0 := HPD.out.c0; have k1 := HPD.out.c1; have k2 := HPD.out.c2; have k3 := HPD.out.c3; have k4 := HPD.out.c4
                go_region_law (first
                  | (refine step_appB rfl (.tmp 52) (.tmp 54) rfl w.heap.size u10 ((es.take j).map bodyL).flatten (by simp [Act.eval]) HPE.out.own (.slice (some ⟨gh, 0, none⟩) 512 512) (headerL e) (by simp [Act.eval]) HRD.out (by have := HBO.out; have := HHL.out; omega) HPE.out.below.size ?_; intro v1 w6 hown hgr; (have HPF := Lib.hid (HPE.out.app hown hgr)); (have q4 := HPF.out.c4); clear hown hgr)
                  | (refine step_appB rfl (.tmp 55) (.tmp 57) rfl w.heap.size v1 (((es.take j).map bodyL).flatten ++ headerL e) (by simp [Act.eval]) HPF.out.own (.slice da e.data.length dc) e.data (by simp [Act.eval]) HPF.out.rd (by have := HBO.out; have := HHL.out; have := HDL.out; simp only [List.length_append]; omega) HPF.out.below.size ?_; intro v2 w7 hown hgr; (have HPG := Lib.hid (HPF.out.app hown hgr)); clear hown hgr)
                  | (go_simp; go_at_call 22; refine (HH.out _).mono ?_; rintro r w5 ⟨gh, rfl, hgh, hrow, hb⟩; (have HPE := Lib.hid (HPD.out.keep hb)); (have HRD := Lib.hid (hrow_512 hrow HHL.out)); (have k4 := HPE.out.c4); clear hgh hrow hb))
                all_goals (
                  clear k0 k1 k2 k3 k4 q4 HPD HPE HRD HPF
                  go_wp2_with fail
                  have HPH := Lib.hid HPG.out.drew
                  clear HPG
                  have k4 := HPH.out.c4
                  have hfl := filled_le e.data.length
                  have HFL := Lib.hid hfl
                  have d0 := HDL.out
                  have HFC := Lib.hid (fun W => filled_any W e.data.length (by have := HDL.out; omega))
                  obtain ⟨F, hFF⟩ : ∃ F, F = filledL e.data.length := ⟨_, rfl⟩
                  have HFF := Lib.hid hFF
                  rw [← hFF] at HFC HFL hfl
                  clear hFF
                  have f0 : (e.data.length : Int) ≤ (F : Int) := by omega
                  have f1 : (F : Int) ≤ 80000 := by omega
                  have f2 : (e.data.length : Int) ≤ 70656 := by omega
                  go_region_law (first
                    | (refine step_appZB rfl (.tmp 59) (.tmp 67) rfl w.heap.size v2 (((es.take j).map bodyL).flatten ++ headerL e ++ e.data) (by simp [Act.eval, Act.put]) HPI.out.own (F - e.data.length) ((F : Int) - (e.data.length : Int)) (by have := HFL.out; omega) (by have hw : IntKind.i64.wrap ((F : Int) - (e.data.length : Int)) = (F : Int) - (e.data.length : Int) := (by have := HFL.out; have := HDL.out; rw [IntKind.wrap_i64]; omega); simp [Act.eval, Act.put, hw]) (by have := HBO.out; have := HHL.out; have := HDL.out; have := HFL.out; simp only [List.length_append]; omega) HPI.out.below.size ?_; intro v3 w9 hown hgr; (have HPJ := Lib.hid (HPI.out.app hown hgr)); clear hown hgr)
                    | (go_simp; go_at_call 21; refine (HFC.out _).mono ?_; rintro r w8 ⟨rfl, hb⟩; (have HPI := Lib.hid (HPH.out.keep hb)); (have q4 := HPI.out.c4); clear hb))
                  all_goals (
                    clear q4 k4 f0 f1 f2 d0 hfl HPH HPI HFC
                    have hrow : ((es.take j).map bodyL).flatten ++ headerL e ++ e.data ++ zer (F - e.data.length) = ((es.take (j + 1)).map bodyL).flatten := by
                      rw [List.take_add_one, HE.out, HFF.out]
                      simp [bodyL]
                    have HPK := Lib.hid (show OwnB w9 w.heap.size v3 ((es.take (j + 1)).map bodyL).flatten from hrow ▸ HPJ.out.own)
                    have HBK := Lib.hid HPJ.out.below
                    clear hrow HPJ
                    go_wp2_with fail
                    exact ⟨⟨j + 1, by omega, by simp, HPK.out, HBK.out⟩, by simp [intOf]; omega⟩))
              · obtain rfl : j = es.length := by omega
                rw [List.take_length] at HO
                have hbl := bodies_len HRT.out
                have hl : (es.map bodyL).flatten.length + 1024 ≤ 140737488355328 := by omega
                have HL := Lib.hid hl
                clear hbl hl hj hlt
                go_wp2_with (refine wpList_appZB rfl (.tmp 70) (.const (.int .i64 1024)) rfl w.heap.size u10 (es.map bodyL).flatten rfl HO.out 1024 1024 rfl rfl HL.out HB.out.size ?_)
                intro v' w9 hown hgr
                have HB9 := Lib.hid (HB.out.trans (own_grow_below HO.out hgr HB.out.size (Nat.le_refl _)))
                have HOW := Lib.hid hown
                clear hown hgr HB HO
                go_wp2_with fail
                exact bodyPost_ret (v := .tuple #[v', .int .i64 0]) (by simp [results, Tryd.results10, go_sem]) rfl ⟨v', by rw [HP2.out], .inr (by rw [HP2.out]; exact .inl HOW.out), HB9.out⟩
end Go.Proofs.YtikhdbdbdldbaaaDoor
