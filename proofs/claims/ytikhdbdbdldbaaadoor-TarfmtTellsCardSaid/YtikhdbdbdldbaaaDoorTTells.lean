/- The law TarfmtTells. -/
import Derived.Test.YtikhdbdbdldbaaaDoorTellLaw
import Derived.Test.YtikhdbdbdldbaaaDoorSameE
namespace Go.Proofs.YtikhdbdbdldbaaaDoor
open Go.RowKit

theorem own_cap {w : World} {B n : Nat} {r : Value} {xs : List Value} (hown : w.ownsRow B 5 1 r n xs) : ∀ a m c, r = .slice a m c → m ≤ c ∧ c ≤ maxLen := by
  intro a m c e
  rcases hown.2 with ⟨rfl, _⟩ | ⟨g, cap, cur, rfl, _, _, h1, h2, _⟩
  · cases e; exact ⟨Nat.le_refl _, by unfold maxLen; omega⟩
  · cases e; exact ⟨h1, h2⟩
set_option maxRecDepth 100000 in
set_option maxHeartbeats 8000000 in
theorem ttells_any (w : World) (v : Value) (es : List EntD) (na nb : Nat) (x : UInt8) (hr : RdEs w v es) (hsz : ∀ e ∈ es, e.name.length ≤ 9223372036854775807) (ha : na ≤ 65535) (hb : nb ≤ 65535) :
    Calls Tryd.prog 6 #[v, .agg #[.int .u16 (na : Int), .int .u16 (nb : Int)], vB x] w fun e w' => e = .returned (.bool true) ∧ Below w.heap.size w w' := by
  have HP := Lib.hid (fun W (hW : Below w.heap.size w W) => print_any W v es (hr.below hW) hsz)
  have HR := Lib.hid hr
  obtain ⟨va, vc, rfl, _, hvc⟩ := hr.slice
  have hln : es.length ≤ 9223372036854775807 := by obtain ⟨_, _, e, h1, h2⟩ := hr.slice; cases e; omega
  have e0 : (es.length : Int) ≤ 9223372036854775807 := by omega
  clear hr hsz
  unfold vB n8
  have hx := x.toNat_lt
  obtain ⟨q, hq⟩ : ∃ q, q = x.toNat := ⟨_, rfl⟩
  rw [← hq]
  have HQ := Lib.hid hq
  rw [← hq] at hx
  have hx : q < 256 := hx
  clear hq
  have a0 : (na : Int) ≤ 65535 := by omega
  have b0 : (nb : Int) ≤ 65535 := by omega
  have HB1 := Lib.hid ((Below.refl w.heap.size w).alloc (Nat.le_refl _) (.cells #[.int .u16 (na : Int), .int .u16 (nb : Int)] 42))
  have hrow := heap_alloc_new w (.cells #[.int .u16 (na : Int), .int .u16 (nb : Int)] 42)
  have c0 : (w.alloc (.cells #[.int .u16 (na : Int), .int .u16 (nb : Int)] 42)).cell? ⟨w.heap.size, 0, none⟩ = some (.int .u16 (na : Int)) := (cell_of_row _ _ 0 _ _ _ hrow).trans rfl
  have c1 : (w.alloc (.cells #[.int .u16 (na : Int), .int .u16 (nb : Int)] 42)).cell? ⟨w.heap.size, 1, none⟩ = some (.int .u16 (nb : Int)) := (cell_of_row _ _ 1 _ _ _ hrow).trans rfl
  clear hrow
  by_cases h0 : (printL es).2 = 0
  case neg =>
    have he := print_err h0
    generalize (printL es).2 = err at *
    generalize (printL es).1 = l at *
    subst he
    have i0 : (err != 0) = true := by simp [h0]
    go_enter Tryd.func6, Tryd.ntmps6
    go_wp2_with fail
    go_quiet (fail)
    have HBQ := Lib.hid (HB1.out.trans ((below_drewN _ nq).mono HB1.out.size))
    clear c0 c1
    go_wp2_with fail
    refine (HP.out _ HBQ.out).mono ?_
    rintro r w1 ⟨rv, rfl, hans, hb⟩
    obtain ⟨ra, rc, rfl⟩ := ans_none hans
    have HB2 := Lib.hid (HBQ.out.trans (hb.mono HBQ.out.size))
    clear hans hb HP HB1 HBQ
    go_wp2_with fail
    refine (live_any _).mono ?_
    rintro r w2 ⟨rfl, hb⟩
    have HB3 := Lib.hid (HB2.out.trans (hb.mono HB2.out.size))
    clear hb HB2
    go_wp2_with fail
    exact bodyPost_ret (v := .bool true) (by simp [results, Tryd.results6, go_sem]) rfl ⟨rfl, HB3.out⟩
  case pos =>
    obtain ⟨hr1, hr2, hr3, hr4⟩ := print_ok h0
    have HT := Lib.hid (fun j e (hj : es[j]? = some e) i x => parse_tells h0 j e hj i x)
    have hL : 1024 ≤ (printL es).1.length := by rw [hr3, List.length_append, zer_len]; omega
    have HBT := Lib.hid (fun j e (hj : es[j]? = some e) => bodsL_take es hr1 j e hj)
    have HBL := Lib.hid (show ∀ j e, es[j]? = some e → (bodsL (es.take j)).length + 512 ≤ (printL es).1.length from fun j e hj => by
      have h1 := bodsL_split es j e hj
      have h2 := body_len (hr1 e (List.mem_of_getElem? hj))
      rw [hr3, h1]
      simp only [List.length_append, h2]
      omega)
    have HR1 := Lib.hid hr1
    rw [h0] at HP
    generalize (printL es).1 = l at *
    obtain ⟨L, hLL⟩ : ∃ L, L = l.length := ⟨_, rfl⟩
    have HLL := Lib.hid hLL
    rw [← hLL] at hr4 hL HBL
    clear hr1 hr3 h0 hLL
    go_enter Tryd.func6, Tryd.ntmps6
    go_wp2_with fail
    go_quiet (fail)
    have HBQ := Lib.hid (HB1.out.trans ((below_drewN _ nq).mono HB1.out.size))
    clear c0 c1
    go_wp2_with fail
    refine (HP.out _ HBQ.out).mono ?_
    rintro r w1 ⟨rv, rfl, hans, hb⟩
    obtain ⟨g, cc, rfl, hcc, hcc2, hrd⟩ := ans_slice hans (by intro q; have := HLL.out; rw [q, List.length_nil] at this; omega) (by have := HLL.out; omega)
    have HB2 := Lib.hid (HBQ.out.trans (hb.mono HBQ.out.size))
    rw [← HLL.out] at hcc hrd ⊢
    have HRD := Lib.hid hrd
    clear hans hb HP HB1 HBQ hrd
    by_cases hes : es.length = 0
    case pos =>
      have i1 : ((es.length : Int) == 0) = true := by simp [hes]
      have i2 : (es.length : Int) = 0 := by omega
      go_wp2_with fail
      refine (live_any _).mono ?_
      rintro r w2 ⟨rfl, hb⟩
      have HB3 := Lib.hid (HB2.out.trans (hb.mono HB2.out.size))
      clear hb HB2
      go_wp2_with fail
      exact bodyPost_ret (v := .bool true) (by simp [results, Tryd.results6, go_sem]) rfl ⟨rfl, HB3.out⟩
    case neg =>
      have i1 : ((es.length : Int) == 0) = false := beq_eq_false_iff_ne.2 (by omega)
      have i2 : ¬ (es.length : Int) = 0 := by omega
      have i3 : (0 : Int) < (es.length : Int) := by omega
      obtain ⟨kk, hkk⟩ : ∃ kk, kk = na % es.length := ⟨_, rfl⟩
      have hkl : kk < es.length := by rw [hkk]; exact Nat.mod_lt _ (by omega)
      have tm : (na : Int).tmod (es.length : Int) = (kk : Int) := by rw [Int.tmod_eq_emod_of_nonneg (by omega), hkk]; rfl
      have kk0 : (kk : Int) < (es.length : Int) := by omega
      clear hkk
      go_wp2_with fail
      go_loopw [11, 12] (fun n i wr => ∃ j : Nat, j ≤ kk ∧ n = .int .i64 ((bodsL (es.take j)).length : Int) ∧ i = .int .i64 (j : Int) ∧ Below w1.heap.size w1 wr) (fun _ i _ => ((es.length : Int) - intOf i).toNat)
      case atStart => exact ⟨0, by omega, by simp [bodsL], by simp, Below.refl _ _⟩
      case round =>
        obtain ⟨j, hj, rfl, rfl, hB⟩ := hrel
        have HB1 := Lib.hid hB
        have HB := Lib.hid (HB2.out.trans (hB.mono HB2.out.size))
        have HRD := Lib.hid (RdV.below HRD.out hB)
        clear hB
        by_cases hlt : j < kk
        · obtain ⟨e, he⟩ : ∃ e, es[j]? = some e := ⟨es[j]'(by omega), List.getElem?_eq_getElem (by omega)⟩
          obtain ⟨b, off, da, dc, rfl, hc0, hc1, hc2, hc3, hc4, _⟩ := ((HR.out.below HB.out)).cells j e he
          have hdl : e.data.length ≤ 70656 := (right_ok (HR1.out e (List.mem_of_getElem? he))).2.2.2.2.1
          have hst := HBT.out j e he
          have hbl := HBL.out j e he
          have hF : filledL e.data.length = (e.data.length + 511) / 512 * 512 := rfl
          rw [hF] at hst
          clear hF he hc0 hc1 hc2 hc3
          obtain ⟨A2, hA2⟩ : ∃ A2, A2 = (bodsL (es.take (j + 1))).length := ⟨_, rfl⟩
          rw [← hA2] at hst
          have HA2 := Lib.hid hA2
          clear hA2
          generalize (bodsL (es.take j)).length = A at *
          generalize e.data.length = D at *
          have td : ((D : Int) + 511).tdiv 512 = (((D + 511) / 512 : Nat) : Int) := by rw [Int.tdiv_eq_ediv_of_nonneg (by omega)]; omega
          obtain ⟨d, hd⟩ : ∃ d, d = (D + 511) / 512 := ⟨_, rfl⟩
          rw [← hd] at td hst
          have hdb : d ≤ 200 := by omega
          clear hd
          have i5 : (j : Int) < (kk : Int) := by omega
          have i6 : (j : Int) < (es.length : Int) := by omega
          go_wp2_with fail
          exact ⟨⟨j + 1, by omega, by rw [← HA2.out, hst]; congr 1, by simp, HB1.out⟩, by simp [intOf]; omega⟩
        · obtain rfl : j = kk := by omega
          obtain ⟨e, he⟩ : ∃ e, es[j]? = some e := ⟨es[j]'(by omega), List.getElem?_eq_getElem (by omega)⟩
          have hbl := HBL.out j e he
          have HT1 := Lib.hid (HT.out j e he)
          generalize (bodsL (es.take j)).length = A at *
          clear he hj hlt HT HBL HBT HR1
          obtain ⟨k, hk⟩ : ∃ k, k = nb % 512 := ⟨_, rfl⟩
          have tk : (nb : Int).tmod 512 = (k : Int) := by rw [Int.tmod_eq_emod_of_nonneg (by omega), hk]; rfl
          have hkl2 : k < 512 := by omega
          clear hk
          have hAk : A + k < l.length := by have := HLL.out; omega
          have hc4 := rd_at (show RdB wr (.slice (some ⟨g, 0, none⟩) l.length cc) l by rw [← HLL.out]; exact HRD.out) (A + k) hAk (show l.getD (A + k) 0 = l[A + k] by simp [List.getD, hAk])
          obtain ⟨p, hp⟩ : ∃ p, p = (l[A + k]'hAk).toNat := ⟨_, rfl⟩
          unfold vB n8 at hc4
          rw [← hp] at hc4
          have hpl : p < 256 := by rw [hp]; exact (l[A + k]'hAk).toNat_lt
          have HPV := Lib.hid hp
          clear hp
          have hL2 : (L : Int) ≤ 60000 := by omega
          have i5 : ¬ (L : Int) < (A : Int) + 512 := by omega
          have i6 : (A : Int) + (k : Int) < (L : Int) := by omega
          by_cases hm : 148 ≤ k ∧ k < 156
          · have i7 : (148 : Int) ≤ (k : Int) := by omega
            have i8 : (k : Int) < 156 := by omega
            go_wp2_with fail
            refine (live_any _).mono ?_
            rintro r w2 ⟨rfl, hb⟩
            have HB3 := Lib.hid (HB.out.trans (hb.mono HB.out.size))
            clear hb HB HB1 HRD
            go_wp2_with fail
            exact bodyPost_ret (v := .bool true) (by simp [results, Tryd.results6, go_sem]) rfl ⟨rfl, HB3.out⟩
          · rw [Nat.zero_add] at hc4
            by_cases hpq : p = q
            · subst hpq
              rcases (by omega : k < 148 ∨ (148 ≤ k ∧ 156 ≤ k)) with h1 | ⟨h1, h2⟩
              · have i7 : ¬ (148 : Int) ≤ (k : Int) := by omega
                go_wp2_with fail
                refine (live_any _).mono ?_
                rintro r w2 ⟨rfl, hb⟩
                have HB3 := Lib.hid (HB.out.trans (hb.mono HB.out.size))
                clear hb HB HB1 HRD
                go_wp2_with fail
                exact bodyPost_ret (v := .bool true) (by simp [results, Tryd.results6, go_sem]) rfl ⟨rfl, HB3.out⟩
              · have i7 : (148 : Int) ≤ (k : Int) := by omega
                have i8 : ¬ (k : Int) < 156 := by omega
                go_wp2_with fail
                refine (live_any _).mono ?_
                rintro r w2 ⟨rfl, hb⟩
                have HB3 := Lib.hid (HB.out.trans (hb.mono HB.out.size))
                clear hb HB HB1 HRD
                go_wp2_with fail
                exact bodyPost_ret (v := .bool true) (by simp [results, Tryd.results6, go_sem]) rfl ⟨rfl, HB3.out⟩
            · have hne : l[A + k]? ≠ some x := by
                rw [List.getElem?_eq_getElem hAk]
                intro h
                apply hpq
                have h3 := Option.some.inj h
                rw [HPV.out, HQ.out, h3]
              have HPA := Lib.hid (HT1.out k x hkl2 hm hne)
              have hpi : ¬ (p : Int) = (q : Int) := by omega
              clear hne HT1
              rcases (by omega : k < 148 ∨ (148 ≤ k ∧ 156 ≤ k)) with h1 | ⟨h1, h2⟩
              · have i7 : ¬ (148 : Int) ≤ (k : Int) := by omega
                go_wp2_with fail
                refine (copy_any wr _ l HRD.out (by have := HLL.out; omega)).mono ?_
                rintro r w2 ⟨r', rfl, hown, hb⟩
                have hcap := own_cap hown
                obtain ⟨gg, cap, rfl, hgb, hcell, hfree, hset⟩ := owned_set hown (i := A + k) hAk
                have hcapm := (hcap _ _ _ rfl).2
                have hcapn := (hcap _ _ _ rfl).1
                have HB3 := Lib.hid (HB.out.trans (hb.mono HB.out.size))
                have HS := Lib.hid (hset 0 x)
                unfold n8 at hcell HS
                rw [← HQ.out] at HS
                have hgb2 : w.heap.size ≤ gg := Nat.le_trans HB.out.size hgb
                have HBS := Lib.hid (HB3.out.setCell (p := ⟨gg, A + k, none⟩) hgb2 (.int .u8 (q : Int)))
                rw [← HLL.out] at HS hcapn ⊢
                clear hown hb hset hgb HB hcap hgb2
                go_wp2_with fail
                have HS1 := Lib.hid (show RdB (w2.setCell ⟨gg, A + k, none⟩ (.int .u8 (q : Int))) (.slice (some ⟨gg, 0, none⟩) L cap) (l.set (A + k) x) from HS.out)
                revert HS1 HBS
                generalize w2.setCell ⟨gg, A + k, none⟩ (.int .u8 (q : Int)) = w3
                intro HBS HS1
                clear HS hcell hfree HB3
                have hll : (l.set (A + k) x).length = L := by rw [List.length_set, ← HLL.out]
                have HPP := Lib.hid (parse_any w3 ⟨gg, 0, none⟩ cap (l.set (A + k) x) (by rw [hll]; exact HS1.out) (by rw [hll]; omega) (by rw [hll]; exact hcapn) hcapm rfl)
                rw [HPA.out, hll] at HPP
                simp only at HPP
                clear hll
                refine HPP.out.mono ?_
                rintro r w4 ⟨ov, rfl, hes2, hb⟩
                obtain ⟨oa, oc, rfl, _, _⟩ := hes2.slice
                have HB4 := Lib.hid (HBS.out.trans (hb.mono HBS.out.size))
                clear hes2 hb HBS HPP HS1
                rw [show ([] : List EntD).length = 0 from rfl]
                go_wp2_with fail
                refine (live_any _).mono ?_
                rintro r w5 ⟨rfl, hb⟩
                have HB5 := Lib.hid (HB4.out.trans (hb.mono HB4.out.size))
                clear hb HB4
                go_wp2_with fail
                exact bodyPost_ret (v := .bool true) (by simp [results, Tryd.results6, go_sem]) rfl ⟨rfl, HB5.out⟩
              · have i7 : (148 : Int) ≤ (k : Int) := by omega
                have i8 : ¬ (k : Int) < 156 := by omega
                go_wp2_with fail
                refine (copy_any wr _ l HRD.out (by have := HLL.out; omega)).mono ?_
                rintro r w2 ⟨r', rfl, hown, hb⟩
                have hcap := own_cap hown
                obtain ⟨gg, cap, rfl, hgb, hcell, hfree, hset⟩ := owned_set hown (i := A + k) hAk
                have hcapm := (hcap _ _ _ rfl).2
                have hcapn := (hcap _ _ _ rfl).1
                have HB3 := Lib.hid (HB.out.trans (hb.mono HB.out.size))
                have HS := Lib.hid (hset 0 x)
                unfold n8 at hcell HS
                rw [← HQ.out] at HS
                have hgb2 : w.heap.size ≤ gg := Nat.le_trans HB.out.size hgb
                have HBS := Lib.hid (HB3.out.setCell (p := ⟨gg, A + k, none⟩) hgb2 (.int .u8 (q : Int)))
                rw [← HLL.out] at HS hcapn ⊢
                clear hown hb hset hgb HB hcap hgb2
                go_wp2_with fail
                have HS1 := Lib.hid (show RdB (w2.setCell ⟨gg, A + k, none⟩ (.int .u8 (q : Int))) (.slice (some ⟨gg, 0, none⟩) L cap) (l.set (A + k) x) from HS.out)
                revert HS1 HBS
                generalize w2.setCell ⟨gg, A + k, none⟩ (.int .u8 (q : Int)) = w3
                intro HBS HS1
                clear HS hcell hfree HB3
                have hll : (l.set (A + k) x).length = L := by rw [List.length_set, ← HLL.out]
                have HPP := Lib.hid (parse_any w3 ⟨gg, 0, none⟩ cap (l.set (A + k) x) (by rw [hll]; exact HS1.out) (by rw [hll]; omega) (by rw [hll]; exact hcapn) hcapm rfl)
                rw [HPA.out, hll] at HPP
                simp only at HPP
                clear hll
                refine HPP.out.mono ?_
                rintro r w4 ⟨ov, rfl, hes2, hb⟩
                obtain ⟨oa, oc, rfl, _, _⟩ := hes2.slice
                have HB4 := Lib.hid (HBS.out.trans (hb.mono HBS.out.size))
                clear hes2 hb HBS HPP HS1
                rw [show ([] : List EntD).length = 0 from rfl]
                go_wp2_with fail
                refine (live_any _).mono ?_
                rintro r w5 ⟨rfl, hb⟩
                have HB5 := Lib.hid (HB4.out.trans (hb.mono HB4.out.size))
                clear hb HB4
                go_wp2_with fail
                exact bodyPost_ret (v := .bool true) (by simp [results, Tryd.results6, go_sem]) rfl ⟨rfl, HB5.out⟩
end Go.Proofs.YtikhdbdbdldbaaaDoor
