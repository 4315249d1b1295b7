/- The reference's Same and SameAll at entries that are the same; the law TarfmtBack. -/
import Derived.Test.YtikhdbdbdldbaaaDoorTCuts
namespace Go.Proofs.YtikhdbdbdldbaaaDoor
open Go.RowKit

theorem wpQuiet_loadAt {P : Program} {ops : Array Oper} {C : World → Prop} {Q : Act → Prop} {rest : List Oper} {o : Oper} {a : Act} (ty : TypeId) (x : Operand) (b f : Nat) (cs : Array Value) (hld : ∀ w, C w → (loadVar ty ⟨b, f, none⟩).run P w = .ok (.agg cs) w)
    (hw : Region.wanted o (yielded ops a.tmps) = true) (ho : o.op = .load ty x) (hx : a.eval x = .pointer (some ⟨b, f, none⟩))
    (h : wpQuiet P ops C Q rest (a.put o.dst (.agg cs))) : wpQuiet P ops C Q (o :: rest) a := by
  unfold wpQuiet
  rw [if_pos hw]
  refine ⟨.agg cs, fun w hC => ?_, h⟩
  unfold Oper.quietAt execOp
  simp only [ho, hx, Instr.loadAt, Instr.sureAddr, Sem.run_bind, Sem.run_pure, Result.andThen_ok, hld w hC]
  exact ⟨rfl, rfl⟩
set_option maxRecDepth 100000 in
set_option maxHeartbeats 4000000 in
theorem same_eq (w : World) (e : EntD) (v v' : Value) (hv : RdB w v e.data) (hv' : RdB w v' e.data) (hl : e.data.length ≤ 140737488355328) :
    Calls Tryd.prog 31 #[eV e v, eV e v'] w fun r w' => r = .returned (.bool true) ∧ Below w.heap.size w w' := by
  obtain ⟨a, c, rfl, _⟩ := rd_slice hv
  obtain ⟨a', c', rfl, _⟩ := rd_slice hv'
  have HV := Lib.hid hv; have HV' := Lib.hid hv'
  clear hv hv'
  show Calls Tryd.prog 31 #[.agg #[.string (bs e.name), .int .i64 e.kind, .int .i64 e.mode, .string (bs e.link), .slice a e.data.length c], .agg #[.string (bs e.name), .int .i64 e.kind, .int .i64 e.mode, .string (bs e.link), .slice a' e.data.length c']] w _
  have HB := Lib.hid (((Below.refl w.heap.size w).alloc (Nat.le_refl _) (.cells #[.string (bs e.name), .int .i64 e.kind, .int .i64 e.mode, .string (bs e.link), .slice a e.data.length c] 31)).alloc (by simp) (.cells #[.string (bs e.name), .int .i64 e.kind, .int .i64 e.mode, .string (bs e.link), .slice a' e.data.length c'] 31))
  go_enter Tryd.func31, Tryd.ntmps31
  go_wp2_with fail
  refine (same_any _ _ _ e.data e.data (RdV.below HV.out HB.out) (RdV.below HV'.out HB.out) hl hl).mono ?_
  rintro r w2 ⟨rfl, n, rfl⟩
  rw [show decide (e.data = e.data) = true by simp]
  have HB2 := Lib.hid (HB.out.trans ((below_drewN _ n).mono HB.out.size))
  clear HB HV HV'
  go_wp2_with fail
  exact bodyPost_ret (v := .bool true) (by simp [results, Tryd.results31, go_sem]) rfl ⟨rfl, HB2.out⟩
set_option maxRecDepth 100000 in
set_option maxHeartbeats 4000000 in
theorem sameAll_eq (w : World) (es : List EntD) (v v' : Value) (hv : RdEs w v es) (hv' : RdEs w v' es) (hl : ∀ e ∈ es, e.data.length ≤ 140737488355328) :
    Calls Tryd.prog 19 #[v, v'] w fun r w' => r = .returned (.bool true) ∧ Below w.heap.size w w' := by
  obtain ⟨a, c, rfl, _, _⟩ := hv.slice
  obtain ⟨a', c', rfl, _, hc2⟩ := hv'.slice
  have HV := Lib.hid hv; have HV' := Lib.hid hv'; have HL := Lib.hid hl
  have hlen := hv'.slice
  have b0 : (es.length : Int) ≤ 9223372036854775807 := by obtain ⟨_, _, e, h1, h2⟩ := hlen; omega
  clear hv hv' hl hlen
  go_enter Tryd.func19, Tryd.ntmps19
  go_wp2_with fail
  go_loopw [5] (fun i wr => ∃ j : Nat, j ≤ es.length ∧ i = .int .i64 (j : Int) ∧ Below w.heap.size w wr) (fun i _ => ((es.length : Int) - intOf i).toNat)
  case atStart => exact ⟨0, by omega, by simp, Below.refl _ _⟩
  case round =>
    obtain ⟨j, hj, rfl, hB⟩ := hrel
    have HB := Lib.hid hB
    clear hB
    by_cases hlt : j < es.length
    · obtain ⟨e, he⟩ : ∃ e, es[j]? = some e := ⟨es[j], List.getElem?_eq_getElem hlt⟩
      have i0 : (j : Int) < (es.length : Int) := by omega
      obtain ⟨b, off, dv, rfl, hrg, hrd⟩ := (HV.out.below HB.out).at j e he
      obtain ⟨b', off', dv', rfl, hrg', hrd'⟩ := (HV'.out.below HB.out).at j e he
      have hde := HL.out e (List.mem_of_getElem? he)
      have l1 := Lib.hid (show ∀ q : ClT wr, (loadVar 31 ⟨b, off + j * 5, none⟩).run Tryd.prog q.w = .ok (.agg (eC e dv).toArray) q.w from fun q => run_loadVar_mid q.w b (off + j * 5) 31 (eC e dv) _ (range_below hrg q.2) Tryd.underlying31 rfl entry_size)
      have l2 := Lib.hid (show ∀ q : ClT wr, (loadVar 31 ⟨b', off' + j * 5, none⟩).run Tryd.prog q.w = .ok (.agg (eC e dv').toArray) q.w from fun q => run_loadVar_mid q.w b' (off' + j * 5) 31 (eC e dv') _ (range_below hrg' q.2) Tryd.underlying31 rfl entry_size)
      have C1 : Hid (∀ q : ClT wr, _) := cl_call (W := wr) (f := 31) (args := #[eV e dv, eV e dv']) (E := .returned (.bool true)) (fun wx h => same_eq wx e dv dv' (RdV.below hrd h) (RdV.below hrd' h) hde)
      have hne := cl_some wr
      clear hrg hrg' hrd hrd' hde he
      go_wp2_with fail
      refine wp_region_class (fun q : ClT wr => q.w) (by kernel_rfl) (by kernel_rfl) (cl_start wr) ?_
      iterate 3 quiet_step (fail)
      refine wpQuiet_loadAt _ _ b (off + j * 5) _ (fun w' hw' => by obtain ⟨q, rfl⟩ := hw'; exact l1.out q) (by kernel_rfl) rfl rfl ?_
      iterate 3 quiet_step (fail)
      refine wpQuiet_loadAt _ _ b' (off' + j * 5) _ (fun w' hw' => by obtain ⟨q, rfl⟩ := hw'; exact l2.out q) (by kernel_rfl) rfl rfl ?_
      quiet_step (exact C1.out _)
      repeat (quiet_step (fail))
      refine wpQuiet_nil ?_
      intro w' hw'
      obtain ⟨q, rfl⟩ := hw'
      have HB2 := Lib.hid (HB.out.trans (q.2.mono HB.out.size))
      clear C1 l1 l2
      go_wp2_with fail
      exact ⟨⟨j + 1, by omega, by simp, HB2.out⟩, by simp [intOf]; omega⟩
    · obtain rfl : j = es.length := by omega
      go_wp2_with fail
      go_ret
      exact ⟨ret_eq (by simp), HB.out⟩
set_option maxRecDepth 100000 in
set_option maxHeartbeats 4000000 in
theorem tback_any (w : World) (v : Value) (es : List EntD) (hr : RdEs w v es) (hsz : ∀ e ∈ es, e.name.length ≤ 9223372036854775807) :
    Calls Tryd.prog 4 #[v] w fun e w' => e = .returned (.bool true) ∧ Below w.heap.size w w' := by
  have HP := Lib.hid (print_any w v es hr hsz)
  have HR := Lib.hid hr
  obtain ⟨va, vc, rfl, _, _⟩ := hr.slice
  clear hr hsz
  by_cases h0 : (printL es).2 = 0
  case neg =>
    have he := print_err h0
    generalize (printL es).2 = err at *
    generalize (printL es).1 = l at *
    subst he
    have i0 : (err != 0) = true := by simp [h0]
    go_enter Tryd.func4, Tryd.ntmps4
    go_wp2_with fail
    refine HP.out.mono ?_
    rintro r w1 ⟨rv, rfl, hans, hb⟩
    obtain ⟨ra, rc, rfl⟩ := ans_none hans
    have HB := Lib.hid hb
    clear hans hb HP
    go_wp2_with fail
    refine (live_any _).mono ?_
    rintro r w2 ⟨rfl, hb⟩
    have HB2 := Lib.hid (HB.out.trans (hb.mono HB.out.size))
    clear hb HB
    go_wp2_with fail
    exact bodyPost_ret (v := .bool true) (by simp [results, Tryd.results4, go_sem]) rfl ⟨rfl, HB2.out⟩
  case pos =>
    obtain ⟨hr1, hr2, hr3, hr4⟩ := print_ok h0
    have hpp := parse_print h0
    have hL : 1024 ≤ (printL es).1.length := by rw [hr3, List.length_append, zer_len]; omega
    rw [h0] at HP
    generalize (printL es).1 = l at *
    have HPL := Lib.hid hpp; have HLL := Lib.hid (And.intro hL hr4)
    have HDL := Lib.hid (show ∀ e ∈ es, e.data.length ≤ 140737488355328 from fun e he => by have := (right_ok (hr1 e he)).2.2.2.2.1; omega)
    clear hr1 hr2 hr3 h0 hpp hL hr4
    go_enter Tryd.func4, Tryd.ntmps4
    go_wp2_with fail
    refine HP.out.mono ?_
    rintro r w1 ⟨rv, rfl, hans, hb⟩
    obtain ⟨g, cc, rfl, hcc, hcc2, hrd⟩ := ans_slice hans (by intro q; have := HLL.out; rw [q] at this; simp at this) (by have := HLL.out; omega)
    have HB := Lib.hid hb
    have HPP := Lib.hid (parse_any w1 ⟨g, 0, none⟩ cc l hrd (by have := HLL.out; omega) hcc hcc2 rfl)
    rw [HPL.out] at HPP
    simp only at HPP
    clear hans hb HP hrd hcc hcc2 HPL
    go_wp2_with fail
    refine HPP.out.mono ?_
    rintro r w2 ⟨ov, rfl, hes, hb⟩
    have HB2 := Lib.hid (HB.out.trans (hb.mono HB.out.size))
    have HES := Lib.hid hes
    clear hes hb HB HPP
    go_wp2_with fail
    refine (live_any _).mono ?_
    rintro r w3 ⟨rfl, hb⟩
    have HB3 := Lib.hid (HB2.out.trans (hb.mono HB2.out.size))
    have HES3 := Lib.hid (HES.out.below hb)
    clear hb HB2 HES
    go_wp2_with fail
    refine (sameAll_eq w3 es _ ov (HR.out.below HB3.out) HES3.out HDL.out).mono ?_
    rintro r w4 ⟨rfl, hb⟩
    have HB4 := Lib.hid (HB3.out.trans (hb.mono HB3.out.size))
    clear hb HB3 HES3
    go_wp2_with fail
    exact bodyPost_ret (v := .bool true) (by simp [results, Tryd.results4, go_sem]) rfl ⟨rfl, HB4.out⟩
end Go.Proofs.YtikhdbdbdldbaaaDoor
