/- The contract of the reference's Print. -/
import Derived.Test.YtikhdbdbdldbaaaDoorPrint
import Derived.Test.YtikhdbdbdldbaaaDoorRefHdr
namespace Go.Proofs.YtikhdbdbdldbaaaDoor
open Go.RowKit

theorem wpList_appB {w : World} {ops : Array Oper} {rest : List Oper} {o : Oper} {a : Act} {Q : Exit → Act → World → Prop} (hgd : o.guard = none) (s x : Operand)
    (ho : o.op = .call { callee := .builtin .append, args := #[s, x], argTypes := #[23, 23] }) (B : Nat) (v : Value) (l : List UInt8) (hs : a.eval s = v) (hO : OwnB w B v l) (y : Value) (news : List UInt8) (hx : a.eval x = y) (hy : RdB w y news)
    (hl : l.length + news.length ≤ 140737488355328) (hB : B ≤ w.heap.size)
    (h : ∀ v' w', OwnB w' B v' (l ++ news) → w.grownBy w' v.ownBlock → wpList Tryd.prog ops Q rest (a.put o.dst v') w') : wpList Tryd.prog ops Q (o :: rest) a w := by
  obtain ⟨v', w', h1, h2, h3⟩ := run_appB hO hy hl hB o.type
  exact Lib.wpList_append_run w hgd s x _ _ ho v y hs hx v' w' h1 (h v' w' h2 h3)
theorem fill1 : Instr.fill (fun i => some (i * 1, 1)) ((Array.range (1 * 1)).map ((Value.int .u8 0).cells[· % (Value.int .u8 0).cells.size]!)) [(0, .int .u8 0)] = some #[.int .u8 0] := by kernel_rfl
theorem wpList_zero1 {ops : Array Oper} {rest : List Oper} {o : Oper} {a : Act} {w : World} {Q : Exit → Act → World → Prop} (hg : o.guard = none)
    (ho : o.op = .buildSlice 23 1 #[(0, .const (.int .u8 0))])
    (h : ∀ wx, Below w.heap.size w wx → RdB wx (.slice (some ⟨w.heap.size, 0, none⟩) 1 1) [0] → wpList Tryd.prog ops Q rest (a.put o.dst (.slice (some ⟨w.heap.size, 0, none⟩) 1 1)) wx) : wpList Tryd.prog ops Q (o :: rest) a w := by
  obtain ⟨i0, hi, hz0, hz1, hz2⟩ := info_parts info_byte
  refine wpList_buildSlice hg 23 5 1 _ ho _ i0 (.int .u8 0) Tryd.underlying23 hi hz0 (by rw [hz1]; decide) (by rw [hz1]; decide) ?hf (h (w.alloc (.cells #[.int .u8 0] 5)) ((Below.refl _ _).alloc (Nat.le_refl _) _) ?hr)
  case hf =>
    have he : ∀ v, a.eval (.const v) = v := fun v => rfl
    simp only [hz1, List.map_toArray, List.map_cons, List.map_nil, he]
    exact fill1
  case hr =>
    have hrow : HRow (w.alloc (.cells #[.int .u8 0] 5)) w.heap.size [0] := heap_alloc_new w _
    exact hrow.rd 1 (Nat.le_refl _)
def sLen : Value → Nat | .slice _ n _ => n | _ => 0
theorem bodies_512 {es : List EntD} (h : ∀ e ∈ es, rightL e = 0) : ∃ q, (es.map bodyL).flatten.length = 512 * q := by
  induction es with
  | nil => exact ⟨0, rfl⟩
  | cons e es ih =>
    obtain ⟨q, hq⟩ := ih (fun x hx => h x (by simp [hx]))
    have h1 := header_len (h e (by simp))
    refine ⟨q + 1 + (e.data.length + 511) / 512, ?_⟩
    simp only [List.map_cons, List.flatten_cons, List.length_append, hq, bodyL, h1, zer_len]
    unfold filledL
    omega
set_option maxRecDepth 100000 in
set_option maxHeartbeats 4000000 in
theorem refprint_any (w : World) (v : Value) (es : List EntD) (hr : RdEs w v es) (hsz : ∀ e ∈ es, e.name.length ≤ 9223372036854775807) :
    Calls Tryd.prog 11 #[v] w fun r w' => ∃ rv, r = .returned (.tuple #[rv, .int .i64 (printL es).2]) ∧ Ans w' w.heap.size rv (printL es).1 ∧ Below w.heap.size w w' := by
  obtain ⟨a, c, rfl, hc1, hc2⟩ := hr.slice
  have HR := Lib.hid hr; have HSZ := Lib.hid hsz
  have b0 : (es.length : Int) ≤ 9223372036854775807 := by omega
  clear hr hsz
  go_enter Tryd.func11, Tryd.ntmps11
  go_wp2_with fail
  go_loopw [5] (fun i wr => ∃ j : Nat, j ≤ es.length ∧ i = .int .i64 (j : Int) ∧ firstBad (es.take j) = none ∧ Below w.heap.size w wr) (fun i _ => ((es.length : Int) - intOf i).toNat)
  case atStart => exact ⟨0, by omega, by simp, by simp [firstBad], Below.refl _ _⟩
  case round =>
    obtain ⟨j, hj, rfl, hf, hB⟩ := hrel
    have HF := Lib.hid hf; have HB := Lib.hid hB
    clear hf hB
    by_cases hlt : j < es.length
    · obtain ⟨e, he⟩ : ∃ e, es[j]? = some e := ⟨es[j], List.getElem?_eq_getElem hlt⟩
      obtain ⟨b, off, dv, rfl, hrg, hrd⟩ := (HR.out.below HB.out).at j e he
      obtain ⟨da, dc, rfl, _⟩ := rd_slice hrd
      have hne : e.name.length ≤ 9223372036854775807 := HSZ.out e (List.mem_of_getElem? he)
      have hc0 : wr.cell? ⟨b, off + j * 5, none⟩ = some (.string (bs e.name)) := hrg 0 _ rfl
      have hc1 : wr.cell? ⟨b, off + j * 5 + 1, none⟩ = some (.int .i64 e.kind) := hrg 1 _ rfl
      have hc2 : wr.cell? ⟨b, off + j * 5 + 2, none⟩ = some (.int .i64 e.mode) := hrg 2 _ rfl
      have hc3 : wr.cell? ⟨b, off + j * 5 + 3, none⟩ = some (.string (bs e.link)) := hrg 3 _ rfl
      have hc4 : wr.cell? ⟨b, off + j * 5 + 4, none⟩ = some (.slice da e.data.length dc) := hrg 4 _ rfl
      have HE := Lib.hid he
      have i0 : (j : Int) < (es.length : Int) := by omega
      clear hrg hrd he
      go_wp2_with fail
      refine (refright_any _ e _ da dc rfl hne).mono ?_
      rintro r w2 ⟨rfl, hb⟩
      have HB2 := Lib.hid (HB.out.trans (hb.mono HB.out.size))
      clear hb hc0 hc1 hc2 hc3 hc4 HB
      by_cases h0 : rightL e = 0
      · have HF2 := Lib.hid (firstBad_take HE.out HF.out)
        rw [if_pos h0] at HF2
        rw [h0]
        clear h0 HF
        go_wp2_with fail
        exact ⟨⟨j + 1, by omega, by simp, HF2.out, HB2.out⟩, by simp [intOf]; omega⟩
      · have hfb := firstBad_take HE.out HF.out
        rw [if_neg h0] at hfb
        have HF2 := Lib.hid (show printL es = ([], rightL e) by unfold printL; rw [firstBad_some hfb])
        have hne0 : ¬ rightL e = 0 := h0
        clear hfb HF h0
        go_wp2_with fail
        exact bodyPost_ret (v := .tuple #[.slice none 0 0, .int .i64 (rightL e)]) (by simp [results, Tryd.results11, go_sem]) rfl ⟨.slice none 0 0, by rw [HF2.out], .inl ⟨rfl, by rw [HF2.out]⟩, HB2.out⟩
    · obtain rfl : j = es.length := by omega
      have HF0 := Lib.hid (show firstBad es = none by have := HF.out; rwa [List.take_length] at this)
      clear HF hj hlt
      by_cases hmax : 256 < es.length
      · have i1 : (256 : Int) < (es.length : Int) := by omega
        have HP := Lib.hid (show printL es = ([], 6) by unfold printL; rw [HF0.out]; simp only; rw [if_pos hmax])
        clear hmax
        go_wp2_with fail
        exact bodyPost_ret (v := .tuple #[.slice none 0 0, .int .i64 6]) (by simp [results, Tryd.results11, go_sem]) rfl ⟨.slice none 0 0, by rw [HP.out], .inl ⟨rfl, by rw [HP.out]⟩, HB.out⟩
      · have i1 : ¬ (256 : Int) < (es.length : Int) := by omega
        have HP := Lib.hid (show printL es = if roomL es 1024 then ((es.map bodyL).flatten ++ zer 1024, 0) else ([], 6) by unfold printL; rw [HF0.out]; simp only; rw [if_neg hmax])
        have HRT := Lib.hid (firstBad_all HF0.out)
        clear HF0 hmax
        go_wp2_with fail
        go_loopw [4, 7] (fun t i wr => ∃ (j A : Nat), j ≤ es.length ∧ t = .int .i64 (A : Int) ∧ i = .int .i64 (j : Int) ∧ A ≤ 60000 ∧ roomL es 1024 = roomL (es.drop j) A ∧ Below w.heap.size w wr) (fun _ i _ => ((es.length : Int) - intOf i).toNat)
        case atStart => exact ⟨0, 1024, by omega, by simp, by simp, by omega, by simp, HB.out⟩
        clear HB
        case round =>
          obtain ⟨j, A, hj, rfl, rfl, hA, hroom, hB⟩ := hrel
          have HB := Lib.hid hB; have HRM := Lib.hid hroom
          clear hB hroom
          by_cases hlt : j < es.length
          · obtain ⟨e, he⟩ : ∃ e, es[j]? = some e := ⟨es[j], List.getElem?_eq_getElem hlt⟩
            obtain ⟨b, off, da, dc, rfl, hc0, hc1, hc2, hc3, hc4, _⟩ := (HR.out.below HB.out).cells j e he
            have hdl : e.data.length ≤ 70656 := (right_ok (HRT.out e (List.mem_of_getElem? he))).2.2.2.2.1
            have hdr : es.drop j = e :: es.drop (j + 1) := by
              have := (List.getElem?_eq_some_iff.1 he).2
              rw [← this]; exact List.drop_eq_getElem_cons hlt
            have HRM2 := Lib.hid (show roomL es 1024 = if 60000 < A + 512 + filledL e.data.length then false else roomL (es.drop (j + 1)) (A + 512 + filledL e.data.length) by rw [HRM.out, hdr]; rfl)
            have i0 : (j : Int) < (es.length : Int) := by omega
            have a0 : (A : Int) ≤ 60000 := by omega
            obtain ⟨d, hd⟩ : ∃ d, d = e.data.length := ⟨_, rfl⟩
            have d0 : (d : Int) ≤ 70656 := by omega
            have t1 : ((d : Int) + 511).tdiv 512 = ((d : Int) + 511) / 512 := Int.tdiv_eq_ediv_of_nonneg (by omega)
            have HFI := Lib.hid (show ((filledL e.data.length : Nat) : Int) = ((d : Int) + 511) / 512 * 512 by rw [← hd]; unfold filledL; omega)
            rw [← hd] at hc4
            clear hc0 hc1 hc2 hc3 he hdr HRM hdl hd
            by_cases h60 : 60000 < A + 512 + filledL e.data.length
            · have h61 := HRM2.out
              rw [if_pos h60] at h61
              have i2 : (60000 : Int) < (A : Int) + (512 + ((d : Int) + 511) / 512 * 512) := by have := HFI.out; omega
              have HP2 := Lib.hid (show printL es = ([], 6) by rw [HP.out, h61]; rfl)
              clear h60 h61 HRM2 HP
              go_wp2_with fail
              exact bodyPost_ret (v := .tuple #[.slice none 0 0, .int .i64 6]) (by simp [results, Tryd.results11, go_sem]) rfl ⟨.slice none 0 0, by rw [HP2.out], .inl ⟨rfl, by rw [HP2.out]⟩, HB.out⟩
            · have HRM3 := HRM2.out
              rw [if_neg h60] at HRM3
              have HRM3 := Lib.hid HRM3
              have i2 : ¬ (60000 : Int) < (A : Int) + (512 + ((d : Int) + 511) / 512 * 512) := by have := HFI.out; omega
              have H60 := Lib.hid h60
              clear h60 HRM2
              go_wp2_with fail
              exact ⟨⟨j + 1, A + 512 + filledL e.data.length, by omega, by have := HFI.out; congr 1; omega, by simp, by have := H60.out; omega, HRM3.out, HB.out⟩, by simp [intOf]; omega⟩
          · obtain rfl : j = es.length := by omega
            have HRM2 := Lib.hid (show roomL es 1024 = true by rw [HRM.out, List.drop_length]; rfl)
            rw [HRM2.out] at HP
            have HP2 := Lib.hid (show printL es = ((es.map bodyL).flatten ++ zer 1024, 0) by rw [HP.out]; rfl)
            clear HRM HRM2 HP hj hlt
            go_wp2_with fail
            go_loopw [8, 9] (fun v i wr => ∃ (j : Nat), j ≤ es.length ∧ i = .int .i64 (j : Int) ∧ OwnB wr w.heap.size v ((es.take j).map bodyL).flatten ∧ Below w.heap.size w wr) (fun _ i _ => ((es.length : Int) - intOf i).toNat)
            case atStart => exact ⟨0, by omega, by simp, by rw [List.take_zero]; exact World.ownsRow_nil _ _ _ _, HB.out⟩
            clear HB
            case round =>
              obtain ⟨j, hj, rfl, hO, hB⟩ := hrel
              have HB := Lib.hid hB; have HO := Lib.hid hO
              clear hB hO
              by_cases hlt : j < es.length
              · obtain ⟨e, he⟩ : ∃ e, es[j]? = some e := ⟨es[j], List.getElem?_eq_getElem hlt⟩
                obtain ⟨b, off, dv, rfl, hrg, hrd⟩ := HR.out.at j e he
                obtain ⟨da, dc, rfl, _⟩ := rd_slice hrd
                have HRG := Lib.hid hrg; have HRD := Lib.hid hrd
                have i0 : (j : Int) < (es.length : Int) := by omega
                have hok := HRT.out e (List.mem_of_getElem? he)
                have HOK := Lib.hid hok
                have HNM := Lib.hid (HSZ.out e (List.mem_of_getElem? he))
                have HE := Lib.hid he
                have hrw := range_below hrg HB.out
                have hc0 : wr.cell? ⟨b, off + j * 5, none⟩ = some (.string (bs e.name)) := hrw 0 _ rfl
                have hc1 : wr.cell? ⟨b, off + j * 5 + 1, none⟩ = some (.int .i64 e.kind) := hrw 1 _ rfl
                have hc2 : wr.cell? ⟨b, off + j * 5 + 2, none⟩ = some (.int .i64 e.mode) := hrw 2 _ rfl
                have hc3 : wr.cell? ⟨b, off + j * 5 + 3, none⟩ = some (.string (bs e.link)) := hrw 3 _ rfl
                have hc4 : wr.cell? ⟨b, off + j * 5 + 4, none⟩ = some (.slice da e.data.length dc) := hrw 4 _ rfl
                clear hrg hrd he hrw hok
                go_wp2_with fail
                clear hc0 hc1 hc2 hc3 hc4
                obtain ⟨p, hp⟩ := Option.isSome_iff_exists.1 (right_ok HOK.out).2.2.2.1
                refine (refheader_any wr e da dc p hp (right_ok HOK.out).1.1 (right_ok HOK.out).1.2 (right_ok HOK.out).2.1.1 (right_ok HOK.out).2.1.2 (right_ok HOK.out).2.2.2.2.1 (right_ok HOK.out).2.2.2.2.2 HNM.out).mono ?_
                rintro r w5 ⟨gh, rfl, hgh, hrow, hb⟩
                have HB5 := Lib.hid (HB.out.trans (hb.mono HB.out.size))
                have HO5 := Lib.hid (own_below HO.out hb)
                have HHL := Lib.hid (header_len HOK.out)
                have HRH := Lib.hid (hrow_512 hrow HHL.out)
                have HBO := Lib.hid (show ((es.take j).map bodyL).flatten.length ≤ 72000 * 300 by
                  have h := bodies_len (es := es.take j) (fun x hx => HRT.out x (List.mem_of_mem_take hx))
                  have h2 : (es.take j).length ≤ 256 := by simp; omega
                  omega)
                obtain ⟨Y, hY⟩ : ∃ Y, Y = ((es.take j).map bodyL).flatten := ⟨_, rfl⟩
                rw [← hY] at HO5 HBO
                have HY := Lib.hid hY
                clear hp hgh hrow hb HB HO hY
                go_wp2_with (refine wpList_appB rfl (.tmp 53) (.tmp 58) rfl w.heap.size u8 Y rfl HO5.out _ (headerL e) rfl HRH.out (by have := HBO.out; have := HHL.out; omega) HB5.out.size ?_)
                intro v1 w6 hown hgr
                have HB6 := Lib.hid (HB5.out.trans (own_grow_below HO5.out hgr HB5.out.size (Nat.le_refl _)))
                have HO6 := Lib.hid hown
                clear hown hgr HB5 HO5 HRH
                have hrw := range_below HRG.out HB6.out
                have hc4 : w6.cell? ⟨b, off + j * 5 + 4, none⟩ = some (.slice da e.data.length dc) := hrw 4 _ rfl
                have HRD6 := Lib.hid (RdV.below HRD.out HB6.out)
                have HDL := Lib.hid (right_ok HOK.out).2.2.2.2.1
                clear hrw
                go_wp2_with (refine wpList_appB rfl (.tmp 60) (.tmp 65) rfl w.heap.size v1 (Y ++ headerL e) rfl HO6.out _ e.data rfl HRD6.out (by have := HBO.out; have := HHL.out; have := HDL.out; simp only [List.length_append]; omega) HB6.out.size ?_)
                intro v2 w7 hown hgr
                have HB7 := Lib.hid (HB6.out.trans (own_grow_below HO6.out hgr HB6.out.size (Nat.le_refl _)))
                have HO7 := Lib.hid hown
                clear hown hgr HB6 HO6 hc4 HRD6
                obtain ⟨q, hq⟩ := bodies_512 (es := es.take j) (fun x hx => HRT.out x (List.mem_of_mem_take hx))
                obtain ⟨X, hX⟩ : ∃ X, X = Y ++ headerL e ++ e.data := ⟨_, rfl⟩
                have HXL := Lib.hid (show X.length = 512 * q + 512 + e.data.length by rw [hX, List.length_append, List.length_append, HY.out, hq, HHL.out])
                have HXB := Lib.hid (show X.length ≤ 72000 * 301 by rw [hX, List.length_append, List.length_append, HHL.out]; have := HBO.out; have := HDL.out; omega)
                rw [← List.append_assoc, ← hX] at HO7
                have HX := Lib.hid hX
                have HFG := Lib.hid (show e.data.length ≤ filledL e.data.length ∧ filledL e.data.length < e.data.length + 512 ∧ ∃ k, filledL e.data.length = 512 * k from ⟨by unfold filledL; omega, by unfold filledL; omega, (e.data.length + 511) / 512, by unfold filledL; omega⟩)
                clear hX hq
                go_wp2_with fail
                go_loopw [8] (fun v wr => ∃ z : Nat, z ≤ filledL e.data.length - e.data.length ∧ OwnB wr w.heap.size v (X ++ zer z) ∧ Below w.heap.size w wr) (fun v _ => 72000 * 400 - sLen v)
                case atStart => exact ⟨0, by omega, by rw [show zer 0 = [] from rfl, List.append_nil]; exact HO7.out, HB7.out⟩
                clear HO7 HB7
                case round =>
                  obtain ⟨z, hz, hO, hB⟩ := hrel
                  obtain ⟨ra, rc, rfl, _⟩ := rd_slice (RdV_of_owns hO)
                  have HB := Lib.hid hB
                  obtain ⟨n, hn⟩ : ∃ n, n = (X ++ zer z).length := ⟨_, rfl⟩
                  rw [← hn] at hO
                  have HO := Lib.hid hO; have HN := Lib.hid hn
                  rw [← hn]
                  have hn2 : n = X.length + z := by rw [hn, List.length_append, zer_len]
                  have t1 : (n : Int).tmod 512 = (n : Int) % 512 := Int.tmod_eq_emod_of_nonneg (by omega)
                  have n0 : (n : Int) ≤ 9223372036854775807 := by have := HXB.out; have := HFG.out.2.1; omega
                  have HN2 := Lib.hid hn2
                  obtain ⟨F, hF⟩ : ∃ F, F = filledL e.data.length := ⟨_, rfl⟩
                  clear hO hB hn
                  by_cases hz2 : z < filledL e.data.length - e.data.length
                  · have i5 : ¬ (n : Int) % 512 = 0 := by
                      have := HXL.out; obtain ⟨f1, f2, k, f3⟩ := HFG.out; omega
                    have HZ := Lib.hid hz2
                    clear hn2 hz2 hz hF
                    go_wp2_with (refine wpList_zero1 rfl rfl ?_)
                    intro wx hbx hrx
                    have HBX := Lib.hid (HB.out.trans (hbx.mono HB.out.size))
                    have HOX := Lib.hid (show OwnB wx w.heap.size (.slice ra n rc) (X ++ zer z) from by have h := own_below HO.out hbx; rw [HN.out] at h ⊢; exact h)
                    have HRX := Lib.hid hrx
                    clear hbx hrx HB HO
                    go_wp2_with (refine wpList_appB rfl (.tmp 71) (.tmp 72) rfl w.heap.size (.slice ra n rc) (X ++ zer z) rfl HOX.out _ [0] rfl HRX.out (by have := HXB.out; have := HN.out; have := HZ.out; have := HFG.out.2.1; rw [← HN.out, HN2.out]; simp only [List.length_cons, List.length_nil]; omega) HBX.out.size ?_)
                    intro v3 w8 hown hgr
                    have HB8 := Lib.hid (HBX.out.trans (own_grow_below HOX.out hgr HBX.out.size (Nat.le_refl _)))
                    have HO8 := Lib.hid (show OwnB w8 w.heap.size v3 (X ++ zer (z + 1)) by rw [show zer (z + 1) = zer z ++ [0] by unfold zer; exact List.replicate_succ']; exact hown)
                    have HS8 := Lib.hid (show sLen v3 = n + 1 by
                      obtain ⟨_, _, e3, _⟩ := rd_slice (RdV_of_owns HO8.out)
                      rw [e3, HN2.out]
                      simp only [sLen, List.length_append, zer_len]
                      omega)
                    clear hown hgr HBX HOX HRX
                    go_wp2_with fail
                    exact ⟨⟨z + 1, by have := HZ.out; omega, HO8.out, HB8.out⟩, by rw [HS8.out]; have := HN2.out; have := HXB.out; have := HZ.out; have := HFG.out.2.1; simp only [sLen]; omega⟩
                  · have i5 : (n : Int) % 512 = 0 := by
                      have := HXL.out; obtain ⟨f1, f2, k, f3⟩ := HFG.out; omega
                    have hz3 : z = filledL e.data.length - e.data.length := by omega
                    subst hz3
                    have hrow : X ++ zer (filledL e.data.length - e.data.length) = ((es.take (j + 1)).map bodyL).flatten := by
                      rw [List.take_add_one, HE.out, HX.out, HY.out]
                      simp [bodyL]
                    have HO := Lib.hid (show OwnB wr w.heap.size (.slice ra n rc) ((es.take (j + 1)).map bodyL).flatten by have h := HO.out; rwa [hrow] at h)
                    clear hn2 hz hz2 hrow hF
                    go_wp2_with fail
                    exact ⟨⟨j + 1, by omega, by simp, HO.out, HB.out⟩, by simp [intOf]; omega⟩
              · obtain rfl : j = es.length := by omega
                rw [List.take_length] at HO
                have hbl := bodies_len HRT.out
                have hl : (es.map bodyL).flatten.length + 1024 ≤ 140737488355328 := by omega
                have HL := Lib.hid hl
                clear hbl hl hj hlt
                go_wp2_with (refine wpList_appZB rfl (.tmp 74) (.const (.int .i64 1024)) rfl w.heap.size u8 (es.map bodyL).flatten rfl HO.out 1024 1024 rfl rfl HL.out HB.out.size ?_)
                intro v' w9 hown hgr
                have HB9 := Lib.hid (HB.out.trans (own_grow_below HO.out hgr HB.out.size (Nat.le_refl _)))
                have HOW := Lib.hid hown
                clear hown hgr HB HO
                go_wp2_with fail
                exact bodyPost_ret (v := .tuple #[v', .int .i64 0]) (by simp [results, Tryd.results11, go_sem]) rfl ⟨v', by rw [HP2.out], .inr (by rw [HP2.out]; exact .inl HOW.out), HB9.out⟩
end Go.Proofs.YtikhdbdbdldbaaaDoor
