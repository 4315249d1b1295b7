/- The law TarfmtPrints. -/
import Derived.Test.YtikhdbdbdldbaaaDoorSameE
import Derived.Test.YtikhdbdbdldbaaaDoorRefPrint
namespace Go.Proofs.YtikhdbdbdldbaaaDoor
open Go.RowKit

theorem ans_rd {w : World} {B : Nat} {v : Value} {l : List UInt8} (h : Ans w B v l) : RdB w v l := by
  rcases h with ⟨rfl, rfl⟩ | h
  · exact .inl ⟨rfl, rfl⟩
  · exact h.rd
theorem print_len (es : List EntD) : (printL es).1.length ≤ 140737488355328 := by
  by_cases h0 : (printL es).2 = 0
  · obtain ⟨_, _, _, h⟩ := print_ok h0
    omega
  · rw [print_err h0]; simp
set_option maxRecDepth 100000 in
set_option maxHeartbeats 4000000 in
theorem tprints_any (w : World) (v v' : Value) (es : List EntD) (h : List UInt8) (hr : RdEs w v es) (hsz : ∀ e ∈ es, e.name.length ≤ 9223372036854775807) (hv : RdB w v' h) (hl : h.length ≤ 9223372036854775807) :
    Calls Tryd.prog 3 #[v, v'] w fun e w' => e = .returned (.bool true) ∧ Below w.heap.size w w' := by
  have HP := Lib.hid (print_any w v es hr hsz)
  have HPL := Lib.hid (print_len es)
  have HR := Lib.hid hr; have HS := Lib.hid hsz; have HV := Lib.hid hv; have HL := Lib.hid hl
  obtain ⟨va, vc, rfl, _, hvc⟩ := hr.slice
  obtain ⟨ha, hc, rfl, _⟩ := rd_slice hv
  have b0 : (es.length : Int) ≤ 9223372036854775807 := by obtain ⟨_, _, _, h1, h2⟩ := hr.slice; omega
  clear hr hsz hv hl
  have HP2 := Lib.hid (fun w1 (hb : Below w.heap.size w w1) => refprint_any w1 _ es (HR.out.below hb) HS.out)
  generalize (printL es).2 = err at *
  generalize (printL es).1 = L at *
  go_enter Tryd.func3, Tryd.ntmps3
  go_wp2_with fail
  refine HP.out.mono ?_
  rintro r w1 ⟨rv, rfl, hans, hb⟩
  have HRD1 := Lib.hid (ans_rd hans)
  have HB1 := Lib.hid hb
  clear hans hb HP
  go_wp2_with fail
  refine (HP2.out w1 HB1.out).mono ?_
  rintro r w2 ⟨rv2, rfl, hans, hb⟩
  have HRD2 := Lib.hid (ans_rd hans)
  have HRD1b := Lib.hid (RdV.below HRD1.out hb)
  have HB2 := Lib.hid (HB1.out.trans (hb.mono HB1.out.size))
  clear hans hb HP2 HRD1 HB1
  go_wp2_with fail
  go_loopw [9, 10] (fun o i wr => ∃ j : Nat, j ≤ es.length ∧ o = .bool true ∧ i = .int .i64 (j : Int) ∧ Below w2.heap.size w2 wr) (fun _ i _ => ((es.length : Int) - intOf i).toNat)
  case atStart => exact ⟨0, by omega, rfl, by simp, Below.refl _ _⟩
  case round =>
    obtain ⟨j, hj, rfl, rfl, hB⟩ := hrel
    have HB := Lib.hid hB
    clear hB
    by_cases hlt : j < es.length
    · obtain ⟨e, he⟩ : ∃ e, es[j]? = some e := ⟨es[j], List.getElem?_eq_getElem hlt⟩
      have i0 : (j : Int) < (es.length : Int) := by omega
      obtain ⟨b, off, dv, rfl, hrg, hrd⟩ := ((HR.out.below HB2.out).below HB.out).at j e he
      obtain ⟨da, dc, rfl, _⟩ := rd_slice hrd
      have hne0 : e.name.length ≤ 9223372036854775807 := HS.out e (List.mem_of_getElem? he)
      have l1 := Lib.hid (show ∀ q : ClT wr, (loadVar 31 ⟨b, off + j * 5, none⟩).run Tryd.prog q.w = .ok (.agg (eC e (.slice da e.data.length dc)).toArray) q.w from fun q => run_loadVar_mid q.w b (off + j * 5) 31 (eC e (.slice da e.data.length dc)) _ (range_below hrg q.2) Tryd.underlying31 rfl entry_size)
      have C1 : Hid (∀ q : ClT wr, _) := cl_call (W := wr) (f := 12) (args := #[eV e (.slice da e.data.length dc)]) (E := .returned (.int .i64 (rightL e))) (fun wx _ => right_any wx e _ da dc rfl hne0)
      have C2 : Hid (∀ q : ClT wr, _) := cl_call (W := wr) (f := 13) (args := #[eV e (.slice da e.data.length dc)]) (E := .returned (.int .i64 (rightL e))) (fun wx _ => refright_any wx e _ da dc rfl hne0)
      have hne := cl_some wr
      clear hrg hrd he hne0
      generalize rightL e = re at *
      have ebeq : (re == re) = true := by simp
      go_wp2_with fail
      refine wp_region_class (fun q : ClT wr => q.w) (by kernel_rfl) (by kernel_rfl) (cl_start wr) ?_
      iterate 5 quiet_step (fail)
      refine wpQuiet_loadAt _ _ b (off + j * 5) _ (fun w' hw' => by obtain ⟨q, rfl⟩ := hw'; exact l1.out q) rfl rfl rfl ?_
      quiet_step (exact C1.out _)
      iterate 3 quiet_step (fail)
      refine wpQuiet_loadAt _ _ b (off + j * 5) _ (fun w' hw' => by obtain ⟨q, rfl⟩ := hw'; exact l1.out q) rfl rfl rfl ?_
      quiet_step (exact C2.out _)
      repeat (quiet_step (fail))
      refine wpQuiet_nil ?_
      intro w' hw'
      obtain ⟨q, rfl⟩ := hw'
      have HB3 := Lib.hid (HB.out.trans (q.2.mono HB.out.size))
      clear C1 C2 l1
      go_wp2_with fail
      exact ⟨⟨j + 1, by omega, rfl, by simp, HB3.out⟩, by simp [intOf]; omega⟩
    · obtain rfl : j = es.length := by omega
      have HRDa := Lib.hid (RdV.below HRD1b.out HB.out); have HRDb := Lib.hid (RdV.below HRD2.out HB.out)
      have HB3 := Lib.hid (HB2.out.trans (HB.out.mono HB2.out.size))
      clear HRD1b HRD2 HB2 HB
      go_wp2_with fail
      refine (live_any _).mono ?_
      rintro r w3 ⟨rfl, hb⟩
      have HRDa2 := Lib.hid (RdV.below HRDa.out hb); have HRDb2 := Lib.hid (RdV.below HRDb.out hb)
      have HB4 := Lib.hid (HB3.out.trans (hb.mono HB3.out.size))
      clear HRDa HRDb HB3 hb
      go_wp2_with fail
      refine (same_any _ _ _ L L HRDa2.out HRDb2.out HPL.out HPL.out).mono ?_
      rintro r w4 ⟨rfl, n, rfl⟩
      rw [show decide (L = L) = true by simp]
      have HB5 := Lib.hid (HB4.out.trans ((below_drewN _ n).mono HB4.out.size))
      clear HB4 HRDa2 HRDb2
      generalize w3.drewN n = w5 at *
      have ebeq : (err == err) = true := by simp
      go_wp2_with fail
      refine (tarSum_any _ _ h (RdV.below HV.out HB5.out) HL.out).mono ?_
      rintro r w6 ⟨rfl, hb⟩
      have HB6 := Lib.hid (HB5.out.trans (hb.mono HB5.out.size))
      clear hb HB5
      go_wp2_with fail
      refine (refSum_any _ _ h (RdV.below HV.out HB6.out) HL.out).mono ?_
      rintro r w7 ⟨rfl, hb⟩
      have HB7 := Lib.hid (HB6.out.trans (hb.mono HB6.out.size))
      clear hb HB6
      go_wp2_with fail
      exact bodyPost_ret (v := .bool true) (by simp [results, Tryd.results3, go_sem]) rfl ⟨rfl, HB7.out⟩
end Go.Proofs.YtikhdbdbdldbaaaDoor
