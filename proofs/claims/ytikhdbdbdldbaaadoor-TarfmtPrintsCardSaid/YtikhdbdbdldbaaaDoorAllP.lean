/- The iterator that tarfmt.all gives: what it yields, in which worlds. -/
import Derived.Test.YtikhdbdbdldbaaaDoorSeqY
import Derived.Test.YtikhdbdbdldbaaaDoorClone
import Derived.RangeFuncBound
import Derived.RangeFuncCalls
import Derived.RangeFuncLeaves
import Derived.Shelf.Abstract
import Derived.Shelf.RegionOpen
import Derived.WalkKit
import Derived.OwnWalkIn
import Derived.TacticsInMore
import Derived.LoopNIn
import Derived.LoopIn
namespace Go.Proofs.YtikhdbdbdldbaaaDoor
open Go.RowKit Go.Shelf
attribute [local go_sem] Oper.semAt_some

/-- A place and its data's slice, as a value. -/
def encP (x : PlD × Value) : Array Value := #[.agg #[.string (bs x.1.e.name), .int .i64 x.1.e.kind, .int .i64 x.1.e.mode, .string (bs x.1.e.link), x.2, .int .i64 (x.1.at_ : Int), .bool x.1.ok]]
/-- Its data lie where its slice says. -/
def YP (x : PlD × Value) (W : World) : Prop := OwnB W 0 x.2 x.1.e.data
/-- Rows of bytes, and boxes of byte slices, lie as they lay. -/
def KB (W W' : World) : Prop := ∀ (k : Nat) (cs : Array Value) (t : TypeId) (fr : Nat × Nat), W.heap[k]? = some (.cells cs t fr) → t = 5 ∨ t = 23 → W'.heap[k]? = some (.cells cs t fr)
theorem KB.refl (W : World) : KB W W := fun _ _ _ _ h _ => h
theorem KB.trans {A B C : World} (h : KB A B) (k : KB B C) : KB A C := fun i cs t fr hi ht => k i cs t fr (h i cs t fr hi ht) ht
theorem KB.of_below {A B : World} (h : Below A.heap.size A B) : KB A B := fun i _ _ _ hi _ => (h.block i (Array.getElem?_eq_some_iff.1 hi).1).trans hi
def KpP (n₀ : Nat) (W W' : World) : Prop := Below n₀ W W' ∧ KB W W'
theorem grown_none {A B : World} (h : Below A.heap.size A B) : A.grownBy B none := grown_of_below h none

theorem call_wide {n : Nat} {P : Program} {f : FuncId} {args : Array Value} {w : World} {R : Ending → World → Prop} (h : Calls P f args w R) : Fence.wide.fn f ∧ (Fence.wide.depth.isSome = true → 1 ≤ n) ∧ CallsIn Fence.wide (n - 1) P f args w R :=
  ⟨trivial, fun h => (by cases h), callsIn_wide.2 h⟩
/-- The iterator's own words between two rounds. -/
structure ItS (w₀ : World) (J : List (PlD × Value) → World → Prop) (pre : List (PlD × Value)) (Bn : Nat) (v : Value) (W : World) : Prop where
  j : J pre W
  b : Below w₀.heap.size w₀ W
  box : W.heap[Bn]? = some (.cells #[v] 23 (0, 0))
theorem ItS.step {w₀ W W' : World} {J : List (PlD × Value) → World → Prop} {B : Nat} {pre : List (PlD × Value)} {Bn : Nat} {v : Value} (hJ : AbidesFrom B J) (h : ItS w₀ J pre Bn v W) (hb : Below W.heap.size W W') : ItS w₀ J pre Bn v W' :=
  ⟨hJ _ _ _ none h.j (grown_none hb) (fun r e => by cases e), h.b.trans (hb.mono h.b.size), (hb.block _ (Array.getElem?_eq_some_iff.1 h.box).1).trans h.box⟩
theorem ItS.next {w₀ W W' : World} {J : List (PlD × Value) → World → Prop} {pre : List (PlD × Value)} {x : PlD × Value} {Bn : Nat} {v : Value} (h : ItS w₀ J pre Bn v W) (hj : J (pre ++ [x]) W') (hk : KpP w₀.heap.size W W') : ItS w₀ J (pre ++ [x]) Bn v W' :=
  ⟨hj, h.b.trans hk.1, hk.2 _ _ _ _ h.box (.inr rfl)⟩
theorem bs_nil0 : bs [] = ⟨#[]⟩ := rfl
theorem rd_zero (W : World) (a : Addr) (c : Nat) : RdB W (.slice (some a) 0 c) [] := .inr ⟨a, c, by simp, by simp, fun j u h => by simp at h⟩
theorem own_setCell {W : World} {B : Nat} {r : Value} {D : List UInt8} (h : OwnB W B r D) (g i : Nat) {cs : Array Value} {t : TypeId} {fr : Nat × Nat} (hp : W.heap[g]? = some (.cells cs t fr)) (ht : t ≠ 5) (v : Value) : OwnB (W.setCell ⟨g, i, none⟩ v) 0 r D := by
  refine ⟨h.1, ?_⟩
  rcases h.2 with h | ⟨g2, cap, cur, h1, h2, h3, h4⟩
  · exact .inl h
  · refine .inr ⟨g2, cap, cur, h1, Nat.zero_le _, ?_, h4⟩
    refine (heap_setCell_other W ⟨g, i, none⟩ g2 v (fun e => ?_)).trans h3
    simp only at e
    subst e
    rw [hp] at h3
    simp only [Option.some.injEq, Obj.cells.injEq] at h3
    exact ht h3.2.1
theorem own_none (W : World) : OwnB W 0 (.slice none 0 0) [] := World.ownsRow_nil _ _ _ _
theorem places_bad {b : List UInt8} {k a : Nat} (h : stepL (b.drop a) = .bad) : placesL b (k + 1) a = [badP a] := by
  show (match stepL (b.drop a) with | .done => [] | .bad => [badP a] | .ent e n => ⟨e, a, true⟩ :: placesL b k (a + n)) = _
  rw [h]
theorem places_done {b : List UInt8} {k a : Nat} (h : stepL (b.drop a) = .done) : placesL b (k + 1) a = [] := by
  show (match stepL (b.drop a) with | .done => [] | .bad => [badP a] | .ent e n => ⟨e, a, true⟩ :: placesL b k (a + n)) = _
  rw [h]
theorem places_ent {b : List UInt8} {k a n : Nat} {e : EntD} (h : stepL (b.drop a) = .ent e n) : placesL b (k + 1) a = ⟨e, a, true⟩ :: placesL b k (a + n) := by
  show (match stepL (b.drop a) with | .done => [] | .bad => [badP a] | .ent e n => ⟨e, a, true⟩ :: placesL b k (a + n)) = _
  rw [h]
set_option maxRecDepth 100000 in
set_option maxHeartbeats 20000000 in
theorem all1_in (n : Nat) (_ : 2 ≤ n) (l Bn : Nat) (w₀ : World) (ad : Addr) (cb : Nat) (bl : List UInt8) (hrd : RdB w₀ (.slice (some ad) bl.length cb) bl) (hbl : bl.length ≤ 60000) (hcb : bl.length ≤ cb) (hcb2 : cb ≤ 9223372036854775807) (had : ad.spot = none)
    (J Jx : List (PlD × Value) → World → Prop) (W : World) (hJ : AbidesFrom W.heap.size J) (_ : AbidesFrom W.heap.size Jx)
    (hY : ∀ pre x W1, J pre W1 → YP x W1 → pre.length < bl.length + 1 → YieldAt Fence.wide (n - 1) Tryd.prog l (encP x) W1 fun e W' =>
      (e = .returned (.bool true) ∧ J (pre ++ [x]) W' ∧ KpP w₀.heap.size W1 W') ∨ (e = .returned (.bool false) ∧ Jx (pre ++ [x]) W'))
    (hB : Below w₀.heap.size w₀ W) (hBn : W.heap[Bn]? = some (.cells #[.slice (some ad) bl.length cb] 23 (0, 0))) (h0 : J [] W) :
    CallsIn Fence.wide n Tryd.prog 44 #[.func (.yield l) #[] #[], .pointer (some ⟨Bn, 0, none⟩)] W fun e W' => (∃ v, e = .returned v) ∧
      ((∃ xs : List (PlD × Value), xs.map (·.1) = placesL bl (bl.length + 1) 0 ∧ J xs W') ∨ (∃ pre : List (PlD × Value), pre.map (·.1) <+: placesL bl (bl.length + 1) 0 ∧ Jx pre W')) := by
  obtain ⟨bb, off, sp⟩ := ad
  obtain rfl : sp = none := had
  refine callsIn_of_wp Tryd.func44 rfl trivial ?_ rfl
  simp only [Tryd.ntmps44, List.size_toArray, List.length_cons, List.length_nil, Nat.reduceAdd, Nat.reduceSub, Array.replicate_succ, Array.replicate_zero, List.push_toArray, List.append_toArray, List.nil_append, List.cons_append]
  have HRD := Lib.hid hrd; have HJ := Lib.hid hJ; have HYY := Lib.hid hY
  clear hrd hJ hY
  have b0 : (bl.length : Int) ≤ 60000 := by omega
  have b1 : (bl.length : Int) ≤ (cb : Int) := by omega
  have b2 : (cb : Int) ≤ 9223372036854775807 := by omega
  gi_wp2_with fail
  gi_loopw [3] (fun v wr => ∃ (a k : Nat) (pre : List (PlD × Value)), v = .int .i64 (a : Int) ∧ a ≤ bl.length ∧ bl.length - a < k ∧ pre.length + k = bl.length + 1 ∧ placesL bl (bl.length + 1) 0 = pre.map (·.1) ++ placesL bl k a ∧ ItS w₀ J pre Bn (.slice (some ⟨bb, off, none⟩) bl.length cb) wr)
    (fun v wr => ((bl.length : Int) - intOf v).toNat)
  case atStart => exact ⟨0, bl.length + 1, [], by simp, by omega, by omega, by simp, by simp, ⟨h0, hB, hBn⟩⟩
  case round =>
    obtain ⟨a, k', pre, rfl, ha, hk, hpk, hpl, hit⟩ := hrel
    obtain ⟨k, rfl⟩ : ∃ k, k' = k + 1 := ⟨k' - 1, by omega⟩
    have HPL := Lib.hid hpl; have HI := Lib.hid hit
    clear hpl hit
    have a0 : (a : Int) ≤ (bl.length : Int) := by omega
    have cbn : wr.cell? ⟨Bn, 0, none⟩ = some (.slice (some ⟨bb, off, none⟩) bl.length cb) := (cell_of_row wr Bn 0 _ _ _ HI.out.box).trans rfl
    have HRL := Lib.hid (show (bl.drop a).length = bl.length - a by simp)
    have BAD : Hid (stepL (bl.drop a) = .bad → ∀ W1, ItS w₀ J pre Bn (.slice (some ⟨bb, off, none⟩) bl.length cb) W1 → ∃ fn tmps assign body, (Instr.yield l #[.agg #[.string ⟨#[]⟩, .int .i64 0, .int .i64 0, .string ⟨#[]⟩, .slice none 0 0, .int .i64 (a : Int), .bool false]]).run Tryd.prog W1 = .ok (.round l fn tmps assign body) W1 ∧
        RoundIn Fence.wide (n - 1) Tryd.prog l fn tmps assign body W1 fun e W' => ((∃ v, e = .returned v) ∧ ((∃ xs : List (PlD × Value), xs.map (·.1) = placesL bl (bl.length + 1) 0 ∧ J xs W') ∨ (∃ pre : List (PlD × Value), pre.map (·.1) <+: placesL bl (bl.length + 1) 0 ∧ Jx pre W'))) ∧ ∃ v, e = .returned (.bool v)) := by
      intro hst W1 hi
      obtain ⟨fn, tmps, assign, body, hy, hR⟩ := HYY.out pre (badP a, .slice none 0 0) W1 hi.j (own_none W1) (by omega)
      refine ⟨fn, tmps, assign, body, hy, hR.mono ?_⟩
      have hp : placesL bl (bl.length + 1) 0 = (pre ++ [(badP a, Value.slice none 0 0)]).map (·.1) := by rw [HPL.out, places_bad hst]; simp
      rintro e W' (⟨rfl, hj, hk⟩ | ⟨rfl, hj⟩)
      · exact ⟨⟨⟨_, rfl⟩, .inl ⟨_, hp.symm, hj⟩⟩, _, rfl⟩
      · exact ⟨⟨⟨_, rfl⟩, .inr ⟨_, hp ▸ List.prefix_refl _, hj⟩⟩, _, rfl⟩
    by_cases hs : bl.length - a < 512
    case pos =>
      have s0 : ((bl.length - a : Nat) : Int) < 512 := by omega
      have hst : stepL (bl.drop a) = .bad := by unfold stepL; rw [if_pos (by rw [HRL.out]; exact hs)]
      obtain ⟨fn, tmps, assign, body, hy, hR⟩ := BAD.out hst wr HI.out
      have HE := Lib.hid hR
      clear BAD HYY hR hst
      by_cases hca : cb = a
      all_goals (
        gi_wp2_with fail
        refine ⟨fun h => (by cases h), HE.out.mono ?_⟩
        rintro e W' ⟨hfin, v, rfl⟩
        have HF := Lib.hid hfin.2
        clear hfin HE hy
        gi_wp2_with fail
        refine bodyPost_ret (results_none rfl _ _ _) rfl ?_
        exact ⟨⟨_, rfl⟩, HF.out⟩)
    case neg =>
      have s0 : ¬ ((bl.length - a : Nat) : Int) < 512 := by omega
      have hca : ¬ cb = a := by omega
      have s1 : (512 : Int) ≤ ((cb - a : Nat) : Int) := by omega
      gi_wp2_with fail
      have hrw := RdV.below HRD.out HI.out.b
      refine call_wide ((zeros_any wr _ (fld bl (a, 512)) (rd_sub hrw a 512 (cb - a) (by omega) (by omega)) (by simp [fld]; omega)).mono ?_)
      rintro r w2 ⟨rfl, hb⟩
      have HI2 := Lib.hid (HI.out.step HJ.out hb)
      clear hb HI hrw cbn
      have HF5 := Lib.hid (show fld bl (a, 512) = (bl.drop a).take 512 from rfl)
      have HST := Lib.hid (show stepL (bl.drop a) = if allZ ((bl.drop a).take 512) then (if bl.length - a < 1024 ∨ (bl.length - a) % 512 ≠ 0 ∨ allZ (bl.drop a) = false then .bad else .done) else
        stepE (bl.drop a) (readL ((bl.drop a).take 512)) by
          unfold stepL
          rw [if_neg (by rw [HRL.out]; exact hs), HRL.out])
      generalize hm : bl.length - a = m at *
      generalize hmc : cb - a = mc at *
      have HM := Lib.hid hm; have HMC := Lib.hid hmc
      clear hm hmc
      cases hz : allZ (fld bl (a, 512)) with
      | true =>
        replace HST := Lib.hid (HST.out.trans (if_pos (by rw [← HF5.out]; exact hz)))
        clear hz
        by_cases h10 : m < 1024
        case pos =>
          have t0 : (m : Int) < 1024 := by omega
          have d0 : decide ((m : Int) < 1024) = true := decide_eq_true t0
          obtain ⟨fn, tmps, assign, body, hy, hR⟩ := BAD.out (HST.out.trans (if_pos (.inl h10))) w2 HI2.out
          have HE := Lib.hid hR
          clear BAD HYY hR HST
          gi_wp2_with fail
          refine ⟨trivial, ?_⟩
          gi_wp2_with fail
          refine ⟨fun h => (by cases h), HE.out.mono ?_⟩
          rintro e W' ⟨hfin, v, rfl⟩
          have HF := Lib.hid hfin.2
          clear hfin HE hy
          gi_wp2_with fail
          refine bodyPost_ret (results_none rfl _ _ _) rfl ?_
          exact ⟨⟨_, rfl⟩, HF.out⟩
        case neg =>
          have t0 : ¬ (m : Int) < 1024 := by omega
          have d0 : decide ((m : Int) < 1024) = false := decide_eq_false t0
          have tm : (m : Int).tmod 512 = ((m % 512 : Nat) : Int) := by rw [Int.tmod_eq_emod_of_nonneg (by omega)]; rfl
          by_cases h5 : m % 512 = 0
          case neg =>
            obtain ⟨fn, tmps, assign, body, hy, hR⟩ := BAD.out (HST.out.trans (if_pos (.inr (.inl h5)))) w2 HI2.out
            have HE := Lib.hid hR
            have t1 : (((m % 512 : Nat) : Int) != 0) = true := by simp; omega
            clear BAD HYY hR HST
            generalize m % 512 = z at *
            have t2 : ¬ (z : Int) = 0 := by omega
            have d1 : decide ((z : Int) = 0) = false := decide_eq_false t2
            gi_wp2_with fail
            refine ⟨trivial, ?_⟩
            gi_wp2_with fail
            refine ⟨fun h => (by cases h), HE.out.mono ?_⟩
            rintro e W' ⟨hfin, v, rfl⟩
            have HF := Lib.hid hfin.2
            clear hfin HE hy
            gi_wp2_with fail
            refine bodyPost_ret (results_none rfl _ _ _) rfl ?_
            exact ⟨⟨_, rfl⟩, HF.out⟩
          case pos =>
            rw [h5] at tm
            gi_wp2_with fail
            have hrw := RdV.below HRD.out HI2.out.b
            have hfa : fld bl (a, m) = bl.drop a := by unfold fld; exact List.take_of_length_le (by rw [HRL.out]; exact Nat.le_refl _)
            refine call_wide ((zeros_any w2 _ (fld bl (a, m)) (rd_sub hrw a m mc (by have := HM.out; omega) (by have := HM.out; have := HMC.out; omega)) (by rw [hfa, HRL.out]; omega)).mono ?_)
            rw [hfa]
            rintro r w3 ⟨rfl, hb⟩
            have HI3 := Lib.hid (HI2.out.step HJ.out hb)
            clear hb HI2 hrw hfa
            cases hz2 : allZ (bl.drop a) with
            | false =>
              obtain ⟨fn, tmps, assign, body, hy, hR⟩ := BAD.out (HST.out.trans (if_pos (.inr (.inr hz2)))) w3 HI3.out
              have HE := Lib.hid hR
              clear BAD HYY hR HST hz2
              gi_wp2_with fail
              refine ⟨fun h => (by cases h), HE.out.mono ?_⟩
              rintro e W' ⟨hfin, v, rfl⟩
              have HF := Lib.hid hfin.2
              clear hfin HE hy
              gi_wp2_with fail
              refine bodyPost_ret (results_none rfl _ _ _) rfl ?_
              exact ⟨⟨_, rfl⟩, HF.out⟩
            | true =>
              have HD := Lib.hid (HPL.out.trans (show _ = pre.map (·.1) by rw [places_done (HST.out.trans (if_neg (by simp [h10, h5, hz2])))]; exact List.append_nil _))
              clear BAD HYY HST hz2 HPL
              gi_wp2_with fail
              refine bodyPost_ret (results_none rfl _ _ _) rfl ?_
              exact ⟨⟨_, rfl⟩, .inl ⟨pre, HD.out.symm, HI3.out.j⟩⟩
      | false =>
        replace HST := Lib.hid (HST.out.trans (if_neg (by rw [← HF5.out, hz]; decide)))
        clear hz
        gi_wp2_with fail
        have hrw := RdV.below HRD.out HI2.out.b
        refine call_wide ((read_any w2 bb (off + a) mc (fld bl (a, 512)) (rd_sub hrw a 512 mc (by have := HM.out; omega) (by have := HMC.out; have := HM.out; omega)) (by have := HM.out; simp [fld]; omega) (by have := HMC.out; have := HM.out; omega) (by have := HMC.out; omega)).mono ?_)
        rintro r w3 ⟨rfl, hb⟩
        have HI3 := Lib.hid (HI2.out.step HJ.out hb)
        clear hb HI2 hrw
        rw [← HF5.out] at HST
        unfold readV
        cases hrd : readL (fld bl (a, 512)) with
        | none =>
          rw [hrd] at HST
          have hf0 := filled_any (w3.alloc (.cells #[.string ⟨#[]⟩, .int .i64 0, .int .i64 0, .string ⟨#[]⟩, .slice none 0 0] 31)) 0 (by omega)
          gi_wp2_with fail
          refine call_wide (hf0.mono ?_)
          rintro r w4 ⟨rfl, hb⟩
          have HI4 := Lib.hid (HI3.out.step HJ.out (((Below.refl w3.heap.size w3).alloc (Nat.le_refl _) _).trans (hb.mono (by simp))))
          clear hb HI3 hf0
          obtain ⟨fn, tmps, assign, body, hy, hR⟩ := BAD.out HST.out w4 HI4.out
          have HE := Lib.hid hR
          clear BAD HYY hR HST
          gi_wp2_with fail
          refine ⟨trivial, ?_⟩
          gi_wp2_with fail
          refine ⟨fun h => (by cases h), HE.out.mono ?_⟩
          rintro e W' ⟨hfin, v, rfl⟩
          have HF := Lib.hid hfin.2
          clear hfin HE hy
          gi_wp2_with fail
          refine bodyPost_ret (results_none rfl _ _ _) rfl ?_
          exact ⟨⟨_, rfl⟩, HF.out⟩
        | some en =>
          obtain ⟨e, sz⟩ := en
          obtain ⟨hd0, hsz, _, _⟩ := readL_some hrd
          rw [hrd] at HST
          have hec : (eC e (.slice none 0 0)).toArray = #[.string (bs e.name), .int .i64 e.kind, .int .i64 e.mode, .string (bs e.link), .slice none 0 0] := rfl
          simp only [hec]
          have hfl := filled_le sz
          have z0 : (sz : Int) ≤ 70656 := by omega
          have HFC := Lib.hid (fun W => filled_any W sz (by omega))
          obtain ⟨F, hF⟩ : ∃ F, filledL sz = F := ⟨_, rfl⟩
          replace HST := Lib.hid (HST.out.trans (show stepE (bl.drop a) (some (e, sz)) = if m < 512 + F ∨ allZ (((bl.drop a).drop (512 + sz)).take (F - sz)) = false then .bad else .ent { e with data := ((bl.drop a).drop 512).take sz } (512 + F) by
            show (if (bl.drop a).length < 512 + filledL sz ∨ _ then _ else _) = _
            rw [HRL.out, hF]))
          rw [hF] at hfl
          have HFC := Lib.hid (fun W => hF ▸ HFC.out W)
          clear hec hrd hF
          have z1 : (F : Int) ≤ 80000 := by omega
          gi_wp2_with fail
          refine call_wide ((HFC.out _).mono ?_)
          rintro r w4 ⟨rfl, hb⟩
          have HB4 := Lib.hid ((((Below.refl w3.heap.size w3).alloc (Nat.le_refl _) _).trans (hb.mono (by simp)) : Below w3.heap.size w3 w4))
          have HEB := Lib.hid ((hb.block w3.heap.size (by simp)).trans (heap_alloc_new w3 _))
          have HI4 := Lib.hid (HI3.out.step HJ.out HB4.out)
          clear hb HFC
          by_cases h1 : m < 512 + F
          case pos =>
            have t1 : (m : Int) < 512 + (F : Int) := by omega
            have d1 : decide ((m : Int) < 512 + (F : Int)) = true := decide_eq_true t1
            obtain ⟨fn, tmps, assign, body, hy, hR⟩ := BAD.out (HST.out.trans (if_pos (.inl h1))) w4 HI4.out
            have HE := Lib.hid hR
            clear BAD HYY hR HST HI3 HI4 HB4 HEB
            gi_wp2_with fail
            refine ⟨trivial, ?_⟩
            gi_wp2_with fail
            refine ⟨fun h => (by cases h), HE.out.mono ?_⟩
            rintro e W' ⟨hfin, v, rfl⟩
            have HF := Lib.hid hfin.2
            clear hfin HE hy
            gi_wp2_with fail
            refine bodyPost_ret (results_none rfl _ _ _) rfl ?_
            exact ⟨⟨_, rfl⟩, HF.out⟩
          case neg =>
            have t1 : ¬ (m : Int) < 512 + (F : Int) := by omega
            have d1 : decide ((m : Int) < 512 + (F : Int)) = false := decide_eq_false t1
            have t2 : (512 : Int) + (sz : Int) ≤ 512 + (F : Int) := by omega
            have t3 : (512 : Int) + (F : Int) ≤ (mc : Int) := by have := HM.out; have := HMC.out; omega
            by_cases hcp : mc = 512 + sz
            case pos =>
              have hFs : F = sz := by have := HM.out; have := HMC.out; omega
              have HZR := Lib.hid (show RdB w4 (.slice (some ⟨bb, off + a, none⟩) (512 + F - (512 + sz)) 0) (((bl.drop a).drop (512 + sz)).take (F - sz)) by rw [hFs]; simp; exact rd_zero _ _ _)
              clear hFs
              gi_wp2_with fail
              refine call_wide ((zeros_any w4 _ _ HZR.out (by simp; omega)).mono ?_)
              rintro r w5 ⟨rfl, hb⟩
              have HB5 := Lib.hid (HB4.out.trans (hb.mono HB4.out.size))
              have HEB5 := Lib.hid ((hb.block _ (Array.getElem?_eq_some_iff.1 HEB.out).1).trans HEB.out)
              clear hb HI4 HZR HB4 HEB
              cases hz3 : allZ (((bl.drop a).drop (512 + sz)).take (F - sz)) with
              | false =>
                have HI5 := Lib.hid (HI3.out.step HJ.out HB5.out)
                obtain ⟨fn, tmps, assign, body, hy, hR⟩ := BAD.out (HST.out.trans (if_pos (.inr hz3))) w5 HI5.out
                have HE := Lib.hid hR
                clear BAD HYY hR HST HI3 HB5 HEB5 hz3
                gi_wp2_with fail
                refine ⟨fun h => (by cases h), HE.out.mono ?_⟩
                rintro e W' ⟨hfin, v, rfl⟩
                have HF := Lib.hid hfin.2
                clear hfin HE hy
                gi_wp2_with fail
                refine bodyPost_ret (results_none rfl _ _ _) rfl ?_
                exact ⟨⟨_, rfl⟩, HF.out⟩
              | true =>
                have HPL2 := Lib.hid (HPL.out.trans (by rw [places_ent (HST.out.trans (if_neg (not_or.2 ⟨h1, by rw [hz3]; decide⟩)))]))
                clear BAD HST hz3 HPL
                have e0 : w5.cell? ⟨w3.heap.size, 0, none⟩ = some (.string (bs e.name)) := (cell_of_row w5 _ 0 _ _ _ HEB5.out).trans rfl
                have e1 : w5.cell? ⟨w3.heap.size, 1, none⟩ = some (.int .i64 e.kind) := (cell_of_row w5 _ 1 _ _ _ HEB5.out).trans rfl
                have e2 : w5.cell? ⟨w3.heap.size, 2, none⟩ = some (.int .i64 e.mode) := (cell_of_row w5 _ 2 _ _ _ HEB5.out).trans rfl
                have e3 : w5.cell? ⟨w3.heap.size, 3, none⟩ = some (.string (bs e.link)) := (cell_of_row w5 _ 3 _ _ _ HEB5.out).trans rfl
                have e4 : w5.cell? ⟨w3.heap.size, 4, none⟩ = some (.slice none 0 0) := (cell_of_row w5 _ 4 _ _ _ HEB5.out).trans rfl
                by_cases hs0 : sz = 0
                case pos =>
                  have HI6 := Lib.hid (HI3.out.step HJ.out HB5.out)
                  obtain ⟨fn, tmps, assign, body, hy, hR⟩ := HYY.out pre (⟨{ e with data := ((bl.drop a).drop 512).take sz }, a, true⟩, .slice none 0 0) w5 HI6.out.j (show OwnB w5 0 (.slice none 0 0) (((bl.drop a).drop 512).take sz) by rw [hs0]; exact own_none w5) (by omega)
                  have HXP := Lib.hid (show (pre ++ [((⟨{ e with data := ((bl.drop a).drop 512).take sz }, a, true⟩ : PlD), Value.slice none 0 0)]).map (·.1) <+: placesL bl (bl.length + 1) 0 by rw [HPL2.out]; simp)
                  simp only [encP] at hy
                  have HE := Lib.hid hR
                  have i5 : ¬ (0 : Int) < (sz : Int) := by omega
                  clear HYY hR HI3 HB5 HEB5
                  gi_wp2_with fail
                  refine ⟨fun h => (by cases h), HE.out.mono ?_⟩
                  rintro e' W' (⟨rfl, hj, hk2⟩ | ⟨rfl, hj⟩)
                  case inl =>
                    have HIN := Lib.hid (HI6.out.next hj hk2)
                    clear hj hk2 HE hy HI6 HXP
                    gi_wp2_with fail
                    exact ⟨⟨a + (512 + F), k, _, by simp, by have := HM.out; omega, by have := HM.out; omega, by simp; omega, by rw [HPL2.out]; simp, HIN.out⟩, by have := HM.out; simp [intOf]; omega⟩
                  case inr =>
                    have HX2 := Lib.hid hj
                    clear hj HE hy HI6
                    gi_wp2_with fail
                    refine bodyPost_ret (results_none rfl _ _ _) rfl ?_
                    exact ⟨⟨_, rfl⟩, .inr ⟨_, HXP.out, HX2.out⟩⟩
                case neg =>
                  have i5 : (0 : Int) < (sz : Int) := by omega
                  have HI5 := Lib.hid (HI3.out.step HJ.out HB5.out)
                  have hv := RdV.below HRD.out HI5.out.b
                  have hv2 := rd_sub hv (a + 512) sz sz (by have := HM.out; omega) (by have := HM.out; have := HMC.out; omega)
                  have HDL := Lib.hid (show ((bl.drop a).drop 512).take sz = fld bl (a + 512, sz) by unfold fld; rw [List.drop_drop])
                  rw [← HDL.out, ← Nat.add_assoc] at hv2
                  have HCL := Lib.hid (clone_any w5 _ sz sz (((bl.drop a).drop 512).take sz) hv2 (by simp; omega) (by intro q; have := congrArg List.length q; simp at this; have := HRL.out; have := HM.out; omega))
                  clear hv hv2 HDL HI5
                  gi_wp2_with fail
                  refine call_wide (HCL.out.mono ?_)
                  rintro r w6 ⟨r', rfl, hrd, hb, a', n', c', rfl⟩
                  have HB6 := Lib.hid (HB5.out.trans (hb.mono HB5.out.size))
                  have HEB6 := Lib.hid ((hb.block _ (Array.getElem?_eq_some_iff.1 HEB5.out).1).trans HEB5.out)
                  have HRR := Lib.hid hrd
                  clear hb hrd HB5 HEB5 HCL e0 e1 e2 e3 e4
                  have g4 : w6.cell? ⟨w3.heap.size, 4, none⟩ = some (.slice none 0 0) := (cell_of_row w6 _ 4 _ _ _ HEB6.out).trans rfl
                  have f4 : w6.frozen? ⟨w3.heap.size, 4, none⟩ = false := by unfold World.frozen?; rw [HEB6.out]; simp
                  have HEB7 := Lib.hid (show (w6.setCell ⟨w3.heap.size, 4, none⟩ (.slice a' n' c')).heap[w3.heap.size]? = _ from heap_setCell_same w6 w3.heap.size 4 _ _ _ HEB6.out)
                  have HI6 := Lib.hid (HI3.out.step HJ.out (HB6.out.setCell (p := ⟨w3.heap.size, 4, none⟩) (Nat.le_refl _) (.slice a' n' c')))
                  have HR7 := Lib.hid (own_setCell HRR.out w3.heap.size 4 HEB6.out (by decide) (.slice a' n' c'))
                  have e0 : (w6.setCell ⟨w3.heap.size, 4, none⟩ (.slice a' n' c')).cell? ⟨w3.heap.size, 0, none⟩ = some (.string (bs e.name)) := (cell_of_row _ _ 0 _ _ _ HEB7.out).trans rfl
                  have e1 : (w6.setCell ⟨w3.heap.size, 4, none⟩ (.slice a' n' c')).cell? ⟨w3.heap.size, 1, none⟩ = some (.int .i64 e.kind) := (cell_of_row _ _ 1 _ _ _ HEB7.out).trans rfl
                  have e2 : (w6.setCell ⟨w3.heap.size, 4, none⟩ (.slice a' n' c')).cell? ⟨w3.heap.size, 2, none⟩ = some (.int .i64 e.mode) := (cell_of_row _ _ 2 _ _ _ HEB7.out).trans rfl
                  have e3 : (w6.setCell ⟨w3.heap.size, 4, none⟩ (.slice a' n' c')).cell? ⟨w3.heap.size, 3, none⟩ = some (.string (bs e.link)) := (cell_of_row _ _ 3 _ _ _ HEB7.out).trans rfl
                  have e4 : (w6.setCell ⟨w3.heap.size, 4, none⟩ (.slice a' n' c')).cell? ⟨w3.heap.size, 4, none⟩ = some (.slice a' n' c') := (cell_of_row _ _ 4 _ _ _ HEB7.out).trans rfl
                  obtain ⟨fn, tmps, assign, body, hy, hR⟩ := HYY.out pre (⟨{ e with data := ((bl.drop a).drop 512).take sz }, a, true⟩, .slice a' n' c') _ HI6.out.j HR7.out (by omega)
                  have HXP := Lib.hid (show (pre ++ [((⟨{ e with data := ((bl.drop a).drop 512).take sz }, a, true⟩ : PlD), Value.slice a' n' c')]).map (·.1) <+: placesL bl (bl.length + 1) 0 by rw [HPL2.out]; simp)
                  simp only [encP] at hy
                  have HE := Lib.hid hR
                  clear HYY hR HI3 HB6 HEB6 HEB7 HR7 HRR
                  gi_wp2_with fail
                  refine ⟨fun h => (by cases h), HE.out.mono ?_⟩
                  rintro e' W' (⟨rfl, hj, hk2⟩ | ⟨rfl, hj⟩)
                  case inl =>
                    have HIN := Lib.hid (HI6.out.next hj hk2)
                    clear hj hk2 HE hy HI6 HXP
                    gi_wp2_with fail
                    exact ⟨⟨a + (512 + F), k, _, by simp, by have := HM.out; omega, by have := HM.out; omega, by simp; omega, by rw [HPL2.out]; simp, HIN.out⟩, by have := HM.out; simp [intOf]; omega⟩
                  case inr =>
                    have HX2 := Lib.hid hj
                    clear hj HE hy HI6
                    gi_wp2_with fail
                    refine bodyPost_ret (results_none rfl _ _ _) rfl ?_
                    exact ⟨⟨_, rfl⟩, .inr ⟨_, HXP.out, HX2.out⟩⟩
            case neg =>
              have HZR := Lib.hid (show RdB w4 (.slice (some ⟨bb, off + a + (512 + sz), none⟩) (512 + F - (512 + sz)) (mc - (512 + sz))) (((bl.drop a).drop (512 + sz)).take (F - sz)) by
                have hrw := RdV.below HRD.out HI4.out.b
                have h := rd_sub hrw (a + (512 + sz)) (F - sz) (mc - (512 + sz)) (by have := HM.out; omega) (by have := HM.out; have := HMC.out; omega)
                rw [show 512 + F - (512 + sz) = F - sz by omega, Nat.add_assoc]
                unfold fld at h
                rwa [List.drop_drop])
              gi_wp2_with fail
              refine call_wide ((zeros_any w4 _ _ HZR.out (by simp; omega)).mono ?_)
              rintro r w5 ⟨rfl, hb⟩
              have HB5 := Lib.hid (HB4.out.trans (hb.mono HB4.out.size))
              have HEB5 := Lib.hid ((hb.block _ (Array.getElem?_eq_some_iff.1 HEB.out).1).trans HEB.out)
              clear hb HI4 HZR HB4 HEB
              cases hz3 : allZ (((bl.drop a).drop (512 + sz)).take (F - sz)) with
              | false =>
                have HI5 := Lib.hid (HI3.out.step HJ.out HB5.out)
                obtain ⟨fn, tmps, assign, body, hy, hR⟩ := BAD.out (HST.out.trans (if_pos (.inr hz3))) w5 HI5.out
                have HE := Lib.hid hR
                clear BAD HYY hR HST HI3 HB5 HEB5 hz3
                gi_wp2_with fail
                refine ⟨fun h => (by cases h), HE.out.mono ?_⟩
                rintro e W' ⟨hfin, v, rfl⟩
                have HF := Lib.hid hfin.2
                clear hfin HE hy
                gi_wp2_with fail
                refine bodyPost_ret (results_none rfl _ _ _) rfl ?_
                exact ⟨⟨_, rfl⟩, HF.out⟩
              | true =>
                have HPL2 := Lib.hid (HPL.out.trans (by rw [places_ent (HST.out.trans (if_neg (not_or.2 ⟨h1, by rw [hz3]; decide⟩)))]))
                clear BAD HST hz3 HPL
                have e0 : w5.cell? ⟨w3.heap.size, 0, none⟩ = some (.string (bs e.name)) := (cell_of_row w5 _ 0 _ _ _ HEB5.out).trans rfl
                have e1 : w5.cell? ⟨w3.heap.size, 1, none⟩ = some (.int .i64 e.kind) := (cell_of_row w5 _ 1 _ _ _ HEB5.out).trans rfl
                have e2 : w5.cell? ⟨w3.heap.size, 2, none⟩ = some (.int .i64 e.mode) := (cell_of_row w5 _ 2 _ _ _ HEB5.out).trans rfl
                have e3 : w5.cell? ⟨w3.heap.size, 3, none⟩ = some (.string (bs e.link)) := (cell_of_row w5 _ 3 _ _ _ HEB5.out).trans rfl
                have e4 : w5.cell? ⟨w3.heap.size, 4, none⟩ = some (.slice none 0 0) := (cell_of_row w5 _ 4 _ _ _ HEB5.out).trans rfl
                by_cases hs0 : sz = 0
                case pos =>
                  have HI6 := Lib.hid (HI3.out.step HJ.out HB5.out)
                  obtain ⟨fn, tmps, assign, body, hy, hR⟩ := HYY.out pre (⟨{ e with data := ((bl.drop a).drop 512).take sz }, a, true⟩, .slice none 0 0) w5 HI6.out.j (show OwnB w5 0 (.slice none 0 0) (((bl.drop a).drop 512).take sz) by rw [hs0]; exact own_none w5) (by omega)
                  have HXP := Lib.hid (show (pre ++ [((⟨{ e with data := ((bl.drop a).drop 512).take sz }, a, true⟩ : PlD), Value.slice none 0 0)]).map (·.1) <+: placesL bl (bl.length + 1) 0 by rw [HPL2.out]; simp)
                  simp only [encP] at hy
                  have HE := Lib.hid hR
                  have i5 : ¬ (0 : Int) < (sz : Int) := by omega
                  clear HYY hR HI3 HB5 HEB5
                  gi_wp2_with fail
                  refine ⟨fun h => (by cases h), HE.out.mono ?_⟩
                  rintro e' W' (⟨rfl, hj, hk2⟩ | ⟨rfl, hj⟩)
                  case inl =>
                    have HIN := Lib.hid (HI6.out.next hj hk2)
                    clear hj hk2 HE hy HI6 HXP
                    gi_wp2_with fail
                    exact ⟨⟨a + (512 + F), k, _, by simp, by have := HM.out; omega, by have := HM.out; omega, by simp; omega, by rw [HPL2.out]; simp, HIN.out⟩, by have := HM.out; simp [intOf]; omega⟩
                  case inr =>
                    have HX2 := Lib.hid hj
                    clear hj HE hy HI6
                    gi_wp2_with fail
                    refine bodyPost_ret (results_none rfl _ _ _) rfl ?_
                    exact ⟨⟨_, rfl⟩, .inr ⟨_, HXP.out, HX2.out⟩⟩
                case neg =>
                  have i5 : (0 : Int) < (sz : Int) := by omega
                  have HI5 := Lib.hid (HI3.out.step HJ.out HB5.out)
                  have hv := RdV.below HRD.out HI5.out.b
                  have hv2 := rd_sub hv (a + 512) sz (mc - 512) (by have := HM.out; omega) (by have := HM.out; have := HMC.out; omega)
                  have HDL := Lib.hid (show ((bl.drop a).drop 512).take sz = fld bl (a + 512, sz) by unfold fld; rw [List.drop_drop])
                  rw [← HDL.out, ← Nat.add_assoc] at hv2
                  have HCL := Lib.hid (clone_any w5 _ sz (mc - 512) (((bl.drop a).drop 512).take sz) hv2 (by simp; omega) (by intro q; have := congrArg List.length q; simp at this; have := HRL.out; have := HM.out; omega))
                  clear hv hv2 HDL HI5
                  gi_wp2_with fail
                  refine call_wide (HCL.out.mono ?_)
                  rintro r w6 ⟨r', rfl, hrd, hb, a', n', c', rfl⟩
                  have HB6 := Lib.hid (HB5.out.trans (hb.mono HB5.out.size))
                  have HEB6 := Lib.hid ((hb.block _ (Array.getElem?_eq_some_iff.1 HEB5.out).1).trans HEB5.out)
                  have HRR := Lib.hid hrd
                  clear hb hrd HB5 HEB5 HCL e0 e1 e2 e3 e4
                  have g4 : w6.cell? ⟨w3.heap.size, 4, none⟩ = some (.slice none 0 0) := (cell_of_row w6 _ 4 _ _ _ HEB6.out).trans rfl
                  have f4 : w6.frozen? ⟨w3.heap.size, 4, none⟩ = false := by unfold World.frozen?; rw [HEB6.out]; simp
                  have HEB7 := Lib.hid (show (w6.setCell ⟨w3.heap.size, 4, none⟩ (.slice a' n' c')).heap[w3.heap.size]? = _ from heap_setCell_same w6 w3.heap.size 4 _ _ _ HEB6.out)
                  have HI6 := Lib.hid (HI3.out.step HJ.out (HB6.out.setCell (p := ⟨w3.heap.size, 4, none⟩) (Nat.le_refl _) (.slice a' n' c')))
                  have HR7 := Lib.hid (own_setCell HRR.out w3.heap.size 4 HEB6.out (by decide) (.slice a' n' c'))
                  have e0 : (w6.setCell ⟨w3.heap.size, 4, none⟩ (.slice a' n' c')).cell? ⟨w3.heap.size, 0, none⟩ = some (.string (bs e.name)) := (cell_of_row _ _ 0 _ _ _ HEB7.out).trans rfl
                  have e1 : (w6.setCell ⟨w3.heap.size, 4, none⟩ (.slice a' n' c')).cell? ⟨w3.heap.size, 1, none⟩ = some (.int .i64 e.kind) := (cell_of_row _ _ 1 _ _ _ HEB7.out).trans rfl
                  have e2 : (w6.setCell ⟨w3.heap.size, 4, none⟩ (.slice a' n' c')).cell? ⟨w3.heap.size, 2, none⟩ = some (.int .i64 e.mode) := (cell_of_row _ _ 2 _ _ _ HEB7.out).trans rfl
                  have e3 : (w6.setCell ⟨w3.heap.size, 4, none⟩ (.slice a' n' c')).cell? ⟨w3.heap.size, 3, none⟩ = some (.string (bs e.link)) := (cell_of_row _ _ 3 _ _ _ HEB7.out).trans rfl
                  have e4 : (w6.setCell ⟨w3.heap.size, 4, none⟩ (.slice a' n' c')).cell? ⟨w3.heap.size, 4, none⟩ = some (.slice a' n' c') := (cell_of_row _ _ 4 _ _ _ HEB7.out).trans rfl
                  obtain ⟨fn, tmps, assign, body, hy, hR⟩ := HYY.out pre (⟨{ e with data := ((bl.drop a).drop 512).take sz }, a, true⟩, .slice a' n' c') _ HI6.out.j HR7.out (by omega)
                  have HXP := Lib.hid (show (pre ++ [((⟨{ e with data := ((bl.drop a).drop 512).take sz }, a, true⟩ : PlD), Value.slice a' n' c')]).map (·.1) <+: placesL bl (bl.length + 1) 0 by rw [HPL2.out]; simp)
                  simp only [encP] at hy
                  have HE := Lib.hid hR
                  clear HYY hR HI3 HB6 HEB6 HEB7 HR7 HRR
                  gi_wp2_with fail
                  refine ⟨fun h => (by cases h), HE.out.mono ?_⟩
                  rintro e' W' (⟨rfl, hj, hk2⟩ | ⟨rfl, hj⟩)
                  case inl =>
                    have HIN := Lib.hid (HI6.out.next hj hk2)
                    clear hj hk2 HE hy HI6 HXP
                    gi_wp2_with fail
                    exact ⟨⟨a + (512 + F), k, _, by simp, by have := HM.out; omega, by have := HM.out; omega, by simp; omega, by rw [HPL2.out]; simp, HIN.out⟩, by have := HM.out; simp [intOf]; omega⟩
                  case inr =>
                    have HX2 := Lib.hid hj
                    clear hj HE hy HI6
                    gi_wp2_with fail
                    refine bodyPost_ret (results_none rfl _ _ _) rfl ?_
                    exact ⟨⟨_, rfl⟩, .inr ⟨_, HXP.out, HX2.out⟩⟩
end Go.Proofs.YtikhdbdbdldbaaaDoor
