/- The contract of ManifestUses: at whatever manifest. -/
import Derived.Test.YtkpcmgacjhjllaaDoorLiveM
import Derived.Test.YtkpcmgacjhjllaaDoorUses
import Derived.Test.YtkpcmgacjhjllaaDoorClass
namespace Go.Proofs.YtkpcmgacjhjllaaDoor
open Go.RowKit

/-- How many are named among the first i. -/
def usedTo (P : List (List UInt8)) (i : Nat) : Nat := P.countP (fun x => (P.take i).contains x)
theorem countP_or (s : List (List UInt8)) (y : List UInt8) (hy : s.contains y = false) : ∀ l : List (List UInt8), l.countP (fun x => (s ++ [y]).contains x) = l.countP (fun x => s.contains x) + l.count y
  | [] => rfl
  | x :: l => by
    have ih := countP_or s y hy l
    rw [List.countP_cons, List.countP_cons, List.count_cons, ih]
    have hc : (s ++ [y]).contains x = (s.contains x || x == y) := by
      rw [Bool.eq_iff_iff]; simp
    rw [hc]
    by_cases e : x = y
    · subst e; rw [hy]; simp; omega
    · have : (x == y) = false := by simpa using e
      rw [this, Bool.or_false]; simp; omega
theorem usedTo_succ {P : List (List UInt8)} {i : Nat} (hi : i < P.length) : usedTo P (i + 1) = usedTo P i + if (P.take i).contains P[i] then 0 else P.count P[i] := by
  unfold usedTo
  rw [List.take_succ_eq_append_getElem hi]
  cases h : (P.take i).contains P[i] with
  | false => rw [countP_or _ _ h]; simp
  | true =>
    simp only [if_true, Nat.add_zero]
    refine List.countP_congr fun x hx => ?_
    rw [List.contains_append]
    constructor
    · intro h2
      rw [Bool.or_eq_true] at h2
      rcases h2 with h2 | h2
      · exact h2
      · have : x = P[i] := by simpa [List.contains_cons] using h2
        rw [this]; exact h
    · intro h2; rw [h2]; rfl
theorem contains_succ {P : List (List UInt8)} {j : Nat} (hj : j < P.length) (x : List UInt8) : (!(P.take (j + 1)).contains x) = ((!(P.take j).contains x) && !(decide (P[j] = x))) := by
  rw [List.take_succ_eq_append_getElem hj]
  generalize P.take j = s
  generalize P[j] = y
  rw [Bool.eq_iff_iff]
  simp only [Bool.not_eq_true', Bool.and_eq_true, List.contains_eq_mem, decide_eq_false_iff_not, List.mem_append, List.mem_singleton]
  constructor
  · intro h; exact ⟨fun e => h (.inl e), fun e => h (.inr e.symm)⟩
  · rintro ⟨h1, h2⟩ (e | e)
    · exact h1 e
    · exact h2 e.symm
theorem usedTo_all (P : List (List UInt8)) : usedTo P P.length = P.length := by
  unfold usedTo
  rw [List.take_length, List.countP_eq_length]
  intro x hx
  simpa using hx
theorem usedTo_le (P : List (List UInt8)) (i : Nat) : usedTo P i ≤ P.length := List.countP_le_length
theorem RdHs.take {w : World} {a : Option Addr} {n c : Nat} {hs : List (List UInt8)} (h : RdHs w (.slice a n c) hs) (m : Nat) : RdHs w (.slice a (hs.take m).length c) (hs.take m) := by
  obtain ⟨a', c', hv, h1, h2, hc⟩ := h
  cases hv
  refine ⟨a, c, rfl, by rw [List.length_take]; omega, h2, fun i x hi => hc i x ?_⟩
  rw [List.getElem?_take] at hi
  split at hi
  · exact hi
  · cases hi

set_option maxRecDepth 100000 in
set_option maxHeartbeats 20000000 in
theorem usesLaw_any (w : World) (o a : ByteArray) (lv : Value) (hs : List (List UInt8)) (hr : RdHs w lv hs) :
    Calls Tryd.prog 4 #[mV o a lv] w fun e w' => e = .returned (.bool true) ∧ Below w.heap.size w w' := by
  obtain ⟨la, c, rfl⟩ := hr.slice
  have hle := hr.le
  have HRP := Lib.hid (hr.take 200)
  obtain ⟨P, hP⟩ : ∃ P, P = hs.take 200 := ⟨_, rfl⟩
  have hN : P.length = min 200 hs.length := by rw [hP, List.length_take]
  have HR := Lib.hid hr; have HP := Lib.hid hP
  rw [← hP] at HRP
  have M := Lib.hid (mbox_new w o a (.slice la hs.length c))
  clear hr hP
  unfold mV
  go_enter Tryd.func4, Tryd.ntmps4
  go_wp2_with fail
  revert M
  generalize w.alloc (.cells #[.string o, .string a, .slice la hs.length c] 24) = w1
  intro M
  go_loopw [4, 3, 5, 6] (fun i n _ _ wr => ∃ k : Nat, k ≤ P.length ∧ i = .int .i64 k ∧ n = .int .i64 (usedTo P k : Nat) ∧ MBox w wr o a (.slice la hs.length c)) (fun i _ _ _ _ => P.length - (intOf i).toNat)
  case atStart => exact ⟨0, by omega, rfl, by simp [usedTo], M.out⟩
  case round =>
    obtain ⟨i, hi, rfl, rfl, M'⟩ := hrel
    have HM := Lib.hid M'
    clear M' M
    have k2 := HM.out.c2
    by_cases hli : i < P.length
    · have hiz1 : (i : Int) < hs.length := by omega
      have hiz2 : (i : Int) < 200 := by omega
      have hx : P[i]? = some P[i] := List.getElem?_eq_getElem hli
      obtain ⟨b, off, rfl, _, hnc, hrg, hxl⟩ := (HRP.out.below HM.out.below).at i _ hx
      have hst := usedTo_succ hli
      have HXL := Lib.hid hxl; have HST := Lib.hid hst
      have hule := usedTo_le P i
      obtain ⟨x, hxx⟩ : ∃ x, x = P[i] := ⟨_, rfl⟩
      rw [← hxx] at HXL HST
      have HXX := Lib.hid hxx
      clear hx hrg hxl hst hxx
      go_wp2
      generalize usedTo P i = n at *
      go_loopw [6, 5] (fun k f wv => ∃ (j : Nat) (t : Bool), j ≤ i ∧ k = .int .i64 j ∧ f = .bool t ∧ Hid (t = !(P.take j).contains x) ∧ MBox w wv o a (.slice (some ⟨b, off, none⟩) hs.length c)) (fun k _ _ => i - (intOf k).toNat)
      case atStart => exact ⟨0, true, by omega, rfl, rfl, by simp [Hid], HM.out⟩
      case round =>
        obtain ⟨j, t, hj, rfl, rfl, ht, M'⟩ := hrel
        have HW := Lib.hid M'
        clear M' HM k2
        have k2 := HW.out.c2
        by_cases hlj : j < i
        · have hljz : (j : Int) < i := by omega
          have hjz1 : (j : Int) < hs.length := by omega
          have hjP : j < P.length := by omega
          have ht2 : (!(P.take (j + 1)).contains x) = (t && !(decide (P[j] = x))) := by rw [contains_succ hjP x, ht.out]
          have hy : P[j]? = some P[j] := List.getElem?_eq_getElem hjP
          have hx : P[i]? = some P[i] := List.getElem?_eq_getElem hli
          obtain ⟨_, _, e1, _, _, hrg', hyl⟩ := (HRP.out.below HW.out.below).at j _ hy
          obtain ⟨_, _, e2, _, _, hrg, _⟩ := (HRP.out.below HW.out.below).at i _ hx
          cases e1; cases e2
          rw [← HXX.out] at hrg
          have HRG := Lib.hid hrg; have HRG' := Lib.hid hrg'; have HYL := Lib.hid hyl
          have T2 := Lib.hid ht2
          have eqx : ∀ w, (Op.equalIn 10000 33 (.agg (P[j].map vB).toArray) (.agg (x.map vB).toArray)).run Tryd.prog w = .ok (decide (P[j] = x)) w := fun w => run_equalIn_hsh w _ _ hyl HXL.out
          generalize P[j] = y at *
          clear hy hx hrg hrg' hyl ht2 ht
          obtain ⟨u, hu⟩ : ∃ u, u = decide (y = x) := ⟨_, rfl⟩
          rw [← hu] at T2
          have eq' : ∀ w, (Op.equalIn 10000 33 (.agg (y.map vB).toArray) (.agg (x.map vB).toArray)).run Tryd.prog w = .ok u w := fun w => by rw [eqx w, hu]
          clear eqx hu
          cases t with
          | true =>
            cases u with
            | true =>
              go_wp2
              refine wp_region_quiet_lit (by kernel_rfl) (by kernel_rfl) ?_
              iterate 6 quiet_step (fail)
              refine wpQuiet_loadAt _ _ b (off + j * 32) _ (load_hash_drew HRG'.out HYL.out) (by kernel_rfl) rfl rfl ?_
              iterate 4 quiet_step (fail)
              refine wpQuiet_loadAt _ _ b (off + i * 32) _ (load_hash_drew HRG.out HXL.out) (by kernel_rfl) rfl rfl ?_
              repeat (quiet_step (fail))
              refine wpQuiet_nil ?_
              intro w' hw'
              obtain ⟨nq, rfl⟩ := hw'
              have HM2 := Lib.hid (HW.out.drew nq)
              clear HW k2 HRG HRG' HYL eq'
              go_wp2
              go_roundw
              case rel => first | exact ⟨j + 1, false, by omega, by go_num, rfl, T2.out.symm, HM2.out⟩ | ((repeat apply Exists.intro); exact ⟨⟨j + 1, false, by omega, by go_num, rfl, T2.out.symm, HM2.out⟩, rfl⟩)
              case measure => simp [intOf]; omega
            | false =>
              go_wp2
              refine wp_region_quiet_lit (by kernel_rfl) (by kernel_rfl) ?_
              iterate 6 quiet_step (fail)
              refine wpQuiet_loadAt _ _ b (off + j * 32) _ (load_hash_drew HRG'.out HYL.out) (by kernel_rfl) rfl rfl ?_
              iterate 4 quiet_step (fail)
              refine wpQuiet_loadAt _ _ b (off + i * 32) _ (load_hash_drew HRG.out HXL.out) (by kernel_rfl) rfl rfl ?_
              repeat (quiet_step (fail))
              refine wpQuiet_nil ?_
              intro w' hw'
              obtain ⟨nq, rfl⟩ := hw'
              have HM2 := Lib.hid (HW.out.drew nq)
              clear HW k2 HRG HRG' HYL eq'
              go_wp2
              go_roundw
              case rel => first | exact ⟨j + 1, true, by omega, by go_num, rfl, T2.out.symm, HM2.out⟩ | ((repeat apply Exists.intro); exact ⟨⟨j + 1, true, by omega, by go_num, rfl, T2.out.symm, HM2.out⟩, rfl⟩)
              case measure => simp [intOf]; omega
          | false =>
            go_wp2
            refine wp_region_quiet_lit (by kernel_rfl) (by kernel_rfl) ?_
            repeat (go_big_quiet_step (fail))
            refine wpQuiet_nil ?_
            intro w' hw'
            obtain ⟨nq, rfl⟩ := hw'
            have HM2 := Lib.hid (HW.out.drew nq)
            clear HW k2 HRG HRG' HYL eq'
            go_wp2
            go_roundw
            case rel => first | exact ⟨j + 1, false, by omega, by go_num, rfl, T2.out.symm, HM2.out⟩ | ((repeat apply Exists.intro); exact ⟨⟨j + 1, false, by omega, by go_num, rfl, T2.out.symm, HM2.out⟩, rfl⟩)
            case measure => simp [intOf]; omega
        · obtain rfl : j = i := by omega
          have h2 := HST.out
          cases hc : (P.take j).contains x with
          | true =>
            have htf : t = false := by rw [ht.out, hc]; rfl
            subst htf
            have h3 : usedTo P (j + 1) = n := by rw [h2, hc]; simp
            have HST2 := Lib.hid h3
            clear h2 h3 HST hc ht
            go_wp2
            exact ⟨⟨j + 1, by omega, by go_num, by rw [HST2.out], HW.out⟩, by simp [intOf]; omega⟩
          | false =>
            have htf : t = true := by rw [ht.out, hc]; rfl
            subst htf
            rw [hc, if_neg (by simp)] at h2
            have HST2 := Lib.hid h2
            clear h2 HST hc ht
            have hne := cl_some wr
            have hx : P[j]? = some P[j] := List.getElem?_eq_getElem hli
            obtain ⟨_, _, e2, _, _, hrg, _⟩ := (HRP.out.below HW.out.below).at j _ hx
            cases e2
            rw [← HXX.out] at hrg
            have c2 : ∀ q : ClT wr, q.w.cell? ⟨w.heap.size, 2, none⟩ = some (.slice (some ⟨b, off, none⟩) hs.length c) := cl_cell k2
            have L1 : Hid (∀ w' : World, (∃ q : ClT wr, w' = q.w) → (loadVar 33 ⟨b, off + j * 32, none⟩).run Tryd.prog w' = .ok (.agg (x.map vB).toArray) w') := fun w' ⟨q, hq⟩ => by
              subst hq
              exact run_loadVar_mid q.w b (off + j * 32) 33 (x.map vB) _ (range_below hrg q.2) Tryd.underlying33 rfl (by rw [hash_size]; simp [HXL.out])
            have C1 : Hid (∀ q : ClT wr, _) := cl_call (W := wr) (f := 13) (args := #[mV ⟨#[]⟩ ⟨#[]⟩ (.slice (some ⟨b, off, none⟩) P.length c), .agg (x.map vB).toArray]) (E := .returned (.int .i64 (P.count x : Nat))) (fun wx h =>
              uses_any wx ⟨#[]⟩ ⟨#[]⟩ _ P x HXL.out (HRP.out.below (HW.out.below.trans (h.mono HW.out.below.size))))
            have HB := Lib.hid HW.out
            have hmin : min (hs.length : Int) 200 = (P.length : Int) := by omega
            have hcnt : (n : Int) + (P.count x : Nat) ≤ 200 := by
              have h1 := usedTo_le P (j + 1)
              rw [HST2.out] at h1
              omega
            have hPc : (P.length : Int) ≤ c := by omega
            have hPz : (0 : Int) ≤ P.length := by omega
            clear hx hrg k2 hN
            generalize P.count x = m at *
            have hwr : IntKind.i64.wrap ((n : Int) + (m : Int)) = n + m := IntWalk.i64_in _ (by omega)
            go_wp2
            refine wp_region_class (fun q : ClT wr => q.w) (by kernel_rfl) (by kernel_rfl) (cl_start wr) ?_
            iterate 13 quiet_step (fail)
            refine wpQuiet_loadAt _ _ b (off + j * 32) _ L1.out (by kernel_rfl) rfl rfl ?_
            quiet_step (exact C1.out _)
            repeat (quiet_step (fail))
            refine wpQuiet_nil ?_
            intro w' hw'
            obtain ⟨q, rfl⟩ := hw'
            have HM2 := Lib.hid (HB.out.keep q.2)
            clear HB C1 L1 c2 HW hmin
            as_aux_lemma =>
              go_wp2
              exact ⟨⟨j + 1, by omega, by go_num, by rw [HST2.out]; rfl, HM2.out⟩, by simp [intOf]; omega⟩
    · obtain rfl : i = P.length := by omega
      by_cases h2 : hs.length ≤ 200
      · have e1 : P.length = hs.length := by omega
        have e2 : (hs.length : Int) ≤ 200 := by omega
        have e3 : min (hs.length : Int) 200 = hs.length := by omega
        rw [usedTo_all, e1]
        clear hi hli hN
        go_wp2_with fail
        refine (live_any _).mono ?_
        rintro e w2 ⟨rfl, hb⟩
        have HM2 := Lib.hid (HM.out.keep hb)
        clear hb HM k2
        have k2 := HM2.out.c2
        go_wp2
        go_ret
        exact ⟨rfl, HM2.out.below⟩
      · have e1 : P.length = 200 := by omega
        have e2 : (200 : Int) < hs.length := by omega
        have e3 : min (hs.length : Int) 200 = 200 := by omega
        rw [usedTo_all, e1]
        clear hi hli hN
        go_wp2_with fail
        refine (live_any _).mono ?_
        rintro e w2 ⟨rfl, hb⟩
        have HM2 := Lib.hid (HM.out.keep hb)
        clear hb HM k2
        have k2 := HM2.out.c2
        go_wp2
        go_ret
        exact ⟨rfl, HM2.out.below⟩
end Go.Proofs.YtkpcmgacjhjllaaDoor
