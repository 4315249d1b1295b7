/- tarfmt.Parse at whatever bytes: none, too many, or such as Parse's contract speaks of. -/
import Derived.Test.YtikhdbdbdldbaaaDoorSameE
import Derived.Test.YtikhdbdbdldbaaaDoorAgainLaw
namespace Go.Proofs.YtikhdbdbdldbaaaDoor
open Go.RowKit Go.Shelf
attribute [local go_sem] Oper.semAt_some

set_option maxRecDepth 100000 in
set_option maxHeartbeats 4000000 in
theorem parse_big (w : World) (a : Option Addr) (n c : Nat) (hn : 60000 < n) (hn2 : n ≤ 9223372036854775807) :
    Calls Tryd.prog 18 #[.slice a n c] w fun r w' => r = .returned (.tuple #[.slice none 0 0, .int .i64 6, .int .i64 0]) ∧ Below w.heap.size w w' := by
  have b0 : (60000 : Int) < (n : Int) := by omega
  go_enter Tryd.func18, Tryd.ntmps18
  go_wp2_with fail
  have c0 : Boxed (((w.alloc (.cells #[.slice none 0 0] 22)).alloc (.cells #[.int .i64 6] 24)).alloc (.cells #[.int .i64 0] 3)) w.heap.size 22 (.slice none 0 0) := ((Boxed.new w _ _).alloc _).alloc _
  have c1 : Boxed (((w.alloc (.cells #[.slice none 0 0] 22)).alloc (.cells #[.int .i64 6] 24)).alloc (.cells #[.int .i64 0] 3)) (w.heap.size + 1) 24 (.int .i64 6) := by
    have h := (Boxed.new (w.alloc (.cells #[.slice none 0 0] 22)) 24 (.int .i64 6)).alloc (.cells #[.int .i64 0] 3)
    rwa [World.size_alloc] at h
  have c2 : Boxed (((w.alloc (.cells #[.slice none 0 0] 22)).alloc (.cells #[.int .i64 6] 24)).alloc (.cells #[.int .i64 0] 3)) (w.heap.size + 1 + 1) 3 (.int .i64 0) := by
    have h := Boxed.new ((w.alloc (.cells #[.slice none 0 0] 22)).alloc (.cells #[.int .i64 6] 24)) 3 (.int .i64 0)
    rwa [World.size_alloc, World.size_alloc] at h
  exact bodyPost_ret (results_par rfl _ _ w.heap.size _ _ _ rfl rfl rfl c0 c1 c2) rfl ⟨rfl, (((Below.refl _ w).alloc (Nat.le_refl _) _).alloc (by simp) _).alloc (by simp; omega) _⟩
set_option maxRecDepth 100000 in
set_option maxHeartbeats 20000000 in
theorem all1_empty (n : Nat) (l Bn : Nat) (w₀ : World) (ad : Option Addr) (cb : Nat)
    (J Jx : List (PlD × Value) → World → Prop) (W : World)
    (hY : ∀ pre x W1, J pre W1 → YP x W1 → pre.length < 1 → YieldAt Fence.wide (n - 1) Tryd.prog l (encP x) W1 fun e W' =>
      (e = .returned (.bool true) ∧ J (pre ++ [x]) W' ∧ KpP w₀.heap.size W1 W') ∨ (e = .returned (.bool false) ∧ Jx (pre ++ [x]) W'))
    (hBn : W.heap[Bn]? = some (.cells #[.slice ad 0 cb] 23 (0, 0))) (h0 : J [] W) :
    CallsIn Fence.wide n Tryd.prog 44 #[.func (.yield l) #[] #[], .pointer (some ⟨Bn, 0, none⟩)] W fun e W' => (∃ v, e = .returned v) ∧
      ((∃ xs : List (PlD × Value), xs.map (·.1) = placesL [] 1 0 ∧ J xs W') ∨ (∃ pre : List (PlD × Value), pre.map (·.1) <+: placesL [] 1 0 ∧ Jx pre W')) := by
  refine callsIn_of_wp Tryd.func44 rfl trivial ?_ rfl
  simp only [Tryd.ntmps44, List.size_toArray, List.length_cons, List.length_nil, Nat.reduceAdd, Nat.reduceSub, Array.replicate_succ, Array.replicate_zero, List.push_toArray, List.append_toArray, List.nil_append, List.cons_append]
  have hpl : placesL [] 1 0 = [badP 0] := rfl
  obtain ⟨fn, tmps, assign, body, hy, hR⟩ := hY [] (badP 0, .slice none 0 0) W h0 (own_none W) (by simp)
  have hy : (Instr.yield l #[.agg #[.string ⟨#[]⟩, .int .i64 0, .int .i64 0, .string ⟨#[]⟩, .slice none 0 0, .int .i64 0, .bool false]]).run Tryd.prog W = .ok (.round l fn tmps assign body) W := hy
  have HE := Lib.hid hR
  have cbn : W.cell? ⟨Bn, 0, none⟩ = some (.slice ad 0 cb) := (cell_of_row W Bn 0 _ _ _ hBn).trans rfl
  clear hY hR hBn h0
  gi_wp2_with fail
  gi_loopw [3] (fun v wr => v = .int .i64 0 ∧ wr = W) (fun v wr => 1)
  case atStart => exact ⟨rfl, rfl⟩
  case round =>
    obtain ⟨rfl, rfl⟩ := hrel
    gi_wp2_with fail
    refine ⟨fun h => (by cases h), HE.out.mono ?_⟩
    rintro e W' (⟨rfl, hj, _⟩ | ⟨rfl, hj⟩)
    case inl =>
      have HF := Lib.hid hj
      clear hj HE hy
      gi_wp2_with fail
      refine bodyPost_ret (results_none rfl _ _ _) rfl ?_
      exact ⟨⟨_, rfl⟩, .inl ⟨_, by rw [hpl]; rfl, HF.out⟩⟩
    case inr =>
      have HF := Lib.hid hj
      clear hj HE hy
      gi_wp2_with fail
      refine bodyPost_ret (results_none rfl _ _ _) rfl ?_
      exact ⟨⟨_, rfl⟩, .inr ⟨_, by rw [hpl]; exact List.prefix_refl _, HF.out⟩⟩
theorem parse_empty (w : World) (ad : Option Addr) (c : Nat) :
    Calls Tryd.prog 18 #[.slice ad 0 c] w fun r w' => ∃ ov, r = .returned (.tuple #[ov, .int .i64 (parseL []).2.1, .int .i64 ((parseL []).2.2 : Int)]) ∧ RdEs w' ov (parseL []).1 ∧ Below w.heap.size w w' :=
  parse_core w ad c [] (by simp) (fun W0 Bn _ hBn => fun l J Jx W hW _ _ hY h0 => all1_empty 8 l Bn w ad c J Jx W hY ((hW.block _ (Array.getElem?_eq_some_iff.1 hBn).1).trans hBn) h0)
/-- At whatever bytes. -/
theorem parse_full (w : World) (v : Value) (bl : List UInt8) (hrd : RdB w v bl) (hl : bl.length ≤ 9223372036854775807) (hc : ∀ a n c, v = .slice a n c → c ≤ 9223372036854775807) :
    Calls Tryd.prog 18 #[v] w fun r w' => ∃ ov, r = .returned (.tuple #[ov, .int .i64 (parseL bl).2.1, .int .i64 ((parseL bl).2.2 : Int)]) ∧ RdEs w' ov (parseL bl).1 ∧ Below w.heap.size w w' := by
  obtain ⟨a, c, rfl, hle⟩ := rd_slice hrd
  by_cases hb : 60000 < bl.length
  · have hp : parseL bl = ([], 6, 0) := by unfold parseL; rw [if_pos hb]
    rw [hp]
    exact (parse_big w a bl.length c hb hl).mono fun r w' ⟨h1, h2⟩ => ⟨.slice none 0 0, by rw [h1]; rfl, RdEs.nil _, h2⟩
  · cases bl with
    | nil => exact parse_empty w a c
    | cons x l =>
      have h2 := hrd
      rcases hrd with ⟨_, h0⟩ | ⟨ad, cap, h1, h3, h4⟩
      · simp at h0
      · obtain ⟨b, o, rfl, _⟩ := h4 0 (vB x) (by simp)
        simp only [Value.slice.injEq] at h1
        obtain ⟨rfl, _, rfl⟩ := h1
        exact parse_any w ⟨b, o, none⟩ c (x :: l) h2 (by omega) hle (hc _ _ _ rfl) rfl
set_option maxRecDepth 100000 in
set_option maxHeartbeats 4000000 in
theorem tagain_any (w : World) (v : Value) (bl : List UInt8) (hrd : RdB w v bl) (hl : bl.length ≤ 9223372036854775807) (hc : ∀ a n c, v = .slice a n c → c ≤ 9223372036854775807) :
    Calls Tryd.prog 5 #[v] w fun e w' => e = .returned (.bool true) ∧ Below w.heap.size w w' := by
  have HPF := Lib.hid (parse_full w v bl hrd hl hc)
  obtain ⟨va, vc, rfl, _⟩ := rd_slice hrd
  clear hrd hc
  by_cases h0 : (parseL bl).2.1 = 0
  case neg =>
    have he := parse_err h0
    generalize (parseL bl).2.1 = err at *
    generalize (parseL bl).2.2 = pl at *
    generalize (parseL bl).1 = l at *
    subst he
    have i0 : (err != 0) = true := by simp [h0]
    go_enter Tryd.func5, Tryd.ntmps5
    go_wp2_with fail
    refine HPF.out.mono ?_
    rintro r w1 ⟨ov, rfl, hes, hb⟩
    obtain ⟨oa, oc, rfl, _, _⟩ := hes.slice
    rw [show ([] : List EntD).length = 0 from rfl]
    have HB := Lib.hid hb
    clear hes hb HPF
    go_wp2_with fail
    refine (live_any _).mono ?_
    rintro r w2 ⟨rfl, hb⟩
    have HB2 := Lib.hid (HB.out.trans (hb.mono HB.out.size))
    clear hb HB
    go_wp2_with fail
    exact bodyPost_ret (v := .bool true) (by simp [results, Tryd.results5, go_sem]) rfl ⟨rfl, HB2.out⟩
  case pos =>
    obtain ⟨hr1, hr2⟩ := parse_right h0
    rw [h0] at HPF
    generalize (parseL bl).2.2 = pl at *
    generalize (parseL bl).1 = es at *
    have HR1 := Lib.hid hr1
    clear h0
    go_enter Tryd.func5, Tryd.ntmps5
    go_wp2_with fail
    refine HPF.out.mono ?_
    rintro r w1 ⟨ov, rfl, hes, hb⟩
    have HB := Lib.hid hb; have HES := Lib.hid hes
    have HP := Lib.hid (print_any w1 ov es hes (fun e he => by have := (plain_all (right_ok (HR1.out e he)).2.2.1).2.1; omega))
    obtain ⟨oa, oc, rfl, _, _⟩ := hes.slice
    clear hes hb HPF
    by_cases h6 : (printL es).2 = 0
    case neg =>
      have he := print_room hr1 h6
      rw [he] at HP
      generalize (printL es).1 = l at *
      clear h6 he hr1
      go_wp2_with fail
      refine HP.out.mono ?_
      rintro r w2 ⟨rv, rfl, hans, hb⟩
      obtain ⟨ra, rn, rc, rfl⟩ : ∃ ra rn rc, rv = .slice ra rn rc := by
        rcases hans with ⟨rfl, _⟩ | h
        · exact ⟨_, _, _, rfl⟩
        · obtain ⟨a, c, e, _⟩ := rd_slice h.rd
          exact ⟨_, _, _, e⟩
      have HB2 := Lib.hid (HB.out.trans (hb.mono HB.out.size))
      clear hans hb HB HP HES
      go_wp2_with fail
      refine (live_any _).mono ?_
      rintro r w3 ⟨rfl, hb⟩
      have HB3 := Lib.hid (HB2.out.trans (hb.mono HB2.out.size))
      clear hb HB2
      go_wp2_with fail
      exact bodyPost_ret (v := .bool true) (by simp [results, Tryd.results5, go_sem]) rfl ⟨rfl, HB3.out⟩
    case pos =>
      obtain ⟨_, _, hr3, hr4⟩ := print_ok h6
      have hpp := parse_print h6
      have hL : 1024 ≤ (printL es).1.length := by rw [hr3, List.length_append, zer_len]; omega
      rw [h6] at HP
      generalize (printL es).1 = l at *
      have HPL := Lib.hid hpp; have HLL := Lib.hid (And.intro hL hr4)
      have HDL := Lib.hid (show ∀ e ∈ es, e.data.length ≤ 140737488355328 from fun e he => by have := (right_ok (hr1 e he)).2.2.2.2.1; omega)
      clear hr1 hr3 h6 hpp hL hr4
      go_wp2_with fail
      refine HP.out.mono ?_
      rintro r w2 ⟨rv, rfl, hans, hb⟩
      obtain ⟨g, cc, rfl, hcc, hcc2, hrd⟩ := ans_slice hans (by intro q; have := HLL.out; rw [q] at this; simp at this) (by have := HLL.out; omega)
      have HB2 := Lib.hid (HB.out.trans (hb.mono HB.out.size))
      have HES2 := Lib.hid (HES.out.below hb)
      have HPP := Lib.hid (parse_any w2 ⟨g, 0, none⟩ cc l hrd (by have := HLL.out; omega) hcc hcc2 rfl)
      rw [HPL.out] at HPP
      simp only at HPP
      clear hans hb HP hrd hcc hcc2 HPL HB HES
      go_wp2_with fail
      refine HPP.out.mono ?_
      rintro r w3 ⟨mv, rfl, hes, hb⟩
      have HB3 := Lib.hid (HB2.out.trans (hb.mono HB2.out.size))
      have HES3 := Lib.hid (HES2.out.below hb)
      have HMS := Lib.hid hes
      clear hes hb HB2 HPP HES2
      go_wp2_with fail
      refine (live_any _).mono ?_
      rintro r w4 ⟨rfl, hb⟩
      have HB4 := Lib.hid (HB3.out.trans (hb.mono HB3.out.size))
      have HES4 := Lib.hid (HES3.out.below hb)
      have HMS4 := Lib.hid (HMS.out.below hb)
      clear hb HB3 HES3 HMS
      go_wp2_with fail
      refine (sameAll_eq w4 es _ mv HES4.out HMS4.out HDL.out).mono ?_
      rintro r w5 ⟨rfl, hb⟩
      have HB5 := Lib.hid (HB4.out.trans (hb.mono HB4.out.size))
      clear hb HB4 HES4 HMS4
      go_wp2_with fail
      exact bodyPost_ret (v := .bool true) (by simp [results, Tryd.results5, go_sem]) rfl ⟨rfl, HB5.out⟩
end Go.Proofs.YtikhdbdbdldbaaaDoor
