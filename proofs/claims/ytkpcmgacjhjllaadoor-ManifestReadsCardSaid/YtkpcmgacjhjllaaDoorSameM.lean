/- The contract of the reference's Same, at whatever two manifests. -/
import Derived.Test.YtkpcmgacjhjllaaDoorRight
import Derived.Test.YtkpcmgacjhjllaaDoorEqH
namespace Go.Proofs.YtkpcmgacjhjllaaDoor
open Go.RowKit

/-- Two manifests' boxes behind what was there before. -/
structure MBox2 (w w1 : World) (o a : ByteArray) (v : Value) (o' a' : ByteArray) (v' : Value) : Prop where
  below : Below w.heap.size w w1
  row : w1.heap[w.heap.size]? = some (.cells #[.string o, .string a, v] 24 (0, 0))
  row' : w1.heap[w.heap.size + 1]? = some (.cells #[.string o', .string a', v'] 24 (0, 0))
section
variable {w w1 w2 : World} {o a o' a' : ByteArray} {v v' : Value}
theorem MBox2.lt (M : MBox2 w w1 o a v o' a' v') : w.heap.size + 1 < w1.heap.size := (Array.getElem?_eq_some_iff.1 M.row').1
theorem MBox2.c0 (M : MBox2 w w1 o a v o' a' v') : w1.cell? ⟨w.heap.size, 0, none⟩ = some (.string o) := (cell_of_row w1 _ 0 _ _ _ M.row).trans rfl
theorem MBox2.c1 (M : MBox2 w w1 o a v o' a' v') : w1.cell? ⟨w.heap.size, 1, none⟩ = some (.string a) := (cell_of_row w1 _ 1 _ _ _ M.row).trans rfl
theorem MBox2.c2 (M : MBox2 w w1 o a v o' a' v') : w1.cell? ⟨w.heap.size, 2, none⟩ = some v := (cell_of_row w1 _ 2 _ _ _ M.row).trans rfl
theorem MBox2.d0 (M : MBox2 w w1 o a v o' a' v') : w1.cell? ⟨w.heap.size + 1, 0, none⟩ = some (.string o') := (cell_of_row w1 _ 0 _ _ _ M.row').trans rfl
theorem MBox2.d1 (M : MBox2 w w1 o a v o' a' v') : w1.cell? ⟨w.heap.size + 1, 1, none⟩ = some (.string a') := (cell_of_row w1 _ 1 _ _ _ M.row').trans rfl
theorem MBox2.d2 (M : MBox2 w w1 o a v o' a' v') : w1.cell? ⟨w.heap.size + 1, 2, none⟩ = some v' := (cell_of_row w1 _ 2 _ _ _ M.row').trans rfl
theorem MBox2.keep (M : MBox2 w w1 o a v o' a' v') (hb : Below w1.heap.size w1 w2) : MBox2 w w2 o a v o' a' v' :=
  ⟨M.below.trans (hb.mono (by have := M.lt; omega)), (hb.block _ (by have := M.lt; omega)).trans M.row, (hb.block _ M.lt).trans M.row'⟩
theorem MBox2.drew (M : MBox2 w w1 o a v o' a' v') (n : Nat) : MBox2 w (w1.drewN n) o a v o' a' v' := ⟨⟨M.below.os, M.below.tape, M.below.output, M.below.size, M.below.block⟩, M.row, M.row'⟩
end
theorem mbox2_new (w : World) (o a : ByteArray) (v : Value) (o' a' : ByteArray) (v' : Value) :
    MBox2 w ((w.alloc (.cells #[.string o, .string a, v] 24)).alloc (.cells #[.string o', .string a', v'] 24)) o a v o' a' v' := by
  have e : (w.alloc (.cells #[.string o, .string a, v] 24)).heap.size = w.heap.size + 1 := by simp
  have h := heap_alloc_new (w.alloc (.cells #[.string o, .string a, v] 24)) (.cells #[.string o', .string a', v'] 24)
  rw [e] at h
  refine ⟨((Below.refl _ _).alloc (Nat.le_refl _) _).alloc (by simp) _, ?_, h⟩
  rw [heap_alloc_old _ _ (by rw [e]; omega)]
  exact heap_alloc_new w _

def SameM (o a : ByteArray) (hs : List (List UInt8)) (o' a' : ByteArray) (hs' : List (List UInt8)) : Bool := decide (o.data.toList = o'.data.toList ∧ a.data.toList = a'.data.toList ∧ hs = hs')

set_option maxRecDepth 100000 in
set_option maxHeartbeats 2000000 in
theorem sameM_any (w : World) (o a : ByteArray) (v : Value) (hs : List (List UInt8)) (o' a' : ByteArray) (v' : Value) (hs' : List (List UInt8)) (hr : RdHs w v hs) (hr' : RdHs w v' hs') :
    Calls Tryd.prog 12 #[mV o a v, mV o' a' v'] w fun e w' => e = .returned (.bool (SameM o a hs o' a' hs')) ∧ Below w.heap.size w w' := by
  obtain ⟨la, c, rfl⟩ := hr.slice
  obtain ⟨la', c', rfl⟩ := hr'.slice
  have hle := hr.le
  have HR := Lib.hid hr; have HR' := Lib.hid hr'
  clear hr hr'
  have MN := mbox2_new w o a (.slice la hs.length c) o' a' (.slice la' hs'.length c')
  have HMN := Lib.hid MN
  clear MN
  unfold mV
  by_cases h1 : o.data.toList = o'.data.toList
  · by_cases h2 : a.data.toList = a'.data.toList
    · by_cases h3 : hs.length = hs'.length
      · have q1 : (o.toList == o'.toList) = true := by rw [Lib.toList_data, Lib.toList_data, h1]; simp
        have q2 : (a.toList == a'.toList) = true := by rw [Lib.toList_data, Lib.toList_data, h2]; simp
        have q3 : ((hs.length : Int) != hs'.length) = false := by simp [h3]
        have H1 := Lib.hid h1; have H2 := Lib.hid h2; have H3 := Lib.hid h3
        clear h1 h2 h3
        go_enter Tryd.func12, Tryd.ntmps12
        go_wp2_with fail
        revert HMN
        generalize (w.alloc (.cells #[.string o, .string a, .slice la hs.length c] 24)).alloc (.cells #[.string o', .string a', .slice la' hs'.length c'] 24) = w1
        intro HMN
        clear q1 q2 q3
        go_loopw [5] (fun i wr => ∃ k : Nat, k ≤ hs.length ∧ i = .int .i64 k ∧ Hid (hs.take k = hs'.take k) ∧ MBox2 w wr o a (.slice la hs.length c) o' a' (.slice la' hs'.length c')) (fun i _ => hs.length - (intOf i).toNat)
        case atStart => exact ⟨0, by omega, rfl, rfl, HMN.out⟩
        case round =>
          obtain ⟨k, hk, rfl, hp, M⟩ := hrel
          have HM := Lib.hid M
          clear M HMN
          have k2 := HM.out.c2
          have d2 := HM.out.d2
          by_cases hlk : k < hs.length
          · have hlkz : (k : Int) < hs.length := by omega
            have hlk' : k < hs'.length := by have := H3.out; omega
            have hlkz' : (k : Int) < hs'.length := by omega
            have hx : hs[k]? = some hs[k] := List.getElem?_eq_getElem hlk
            have hy : hs'[k]? = some hs'[k] := List.getElem?_eq_getElem hlk'
            obtain ⟨b, off, rfl, _, hnc, hrg, hxl⟩ := (HR.out.below HM.out.below).at k _ hx
            obtain ⟨b', off', rfl, _, hnc', hrg', hyl⟩ := (HR'.out.below HM.out.below).at k _ hy
            have HRG := Lib.hid hrg; have HRG' := Lib.hid hrg'; have HXL := Lib.hid hxl; have HYL := Lib.hid hyl
            have eqx : ∀ w, (Op.equalIn 10000 33 (.agg (hs[k].map vB).toArray) (.agg (hs'[k].map vB).toArray)).run Tryd.prog w = .ok (decide (hs[k] = hs'[k])) w := fun w => run_equalIn_hsh w _ _ hxl hyl
            have hst : hs[k] = hs'[k] → hs.take (k + 1) = hs'.take (k + 1) := fun e => by
              rw [List.take_succ_eq_append_getElem hlk, List.take_succ_eq_append_getElem hlk', hp.out, e]
            have hno : hs[k] ≠ hs'[k] → SameM o a hs o' a' hs' = false := fun e => decide_eq_false (fun h => e (by
              have h4 := h.2.2
              subst h4; rfl))
            have HST := Lib.hid hst; have HNO := Lib.hid hno
            generalize hs[k] = x at *
            generalize hs'[k] = y at *
            clear hrg hrg' hxl hyl hx hy hst hno
            by_cases e : x = y
            · have eq' : ∀ w, (Op.equalIn 10000 33 (.agg (x.map vB).toArray) (.agg (y.map vB).toArray)).run Tryd.prog w = .ok true w := fun w => by rw [eqx w, decide_eq_true e]
              have hs2 := Lib.hid (HST.out e)
              clear eqx e HST HNO
              go_wp2
              refine wp_region_quiet_lit (by kernel_rfl) (by kernel_rfl) ?_
              iterate 4 quiet_step (fail)
              refine wpQuiet_loadAt _ _ b (off + k * 32) _ (load_hash_drew HRG.out HXL.out) (by kernel_rfl) rfl rfl ?_
              iterate 4 quiet_step (fail)
              refine wpQuiet_loadAt _ _ b' (off' + k * 32) _ (load_hash_drew HRG'.out HYL.out) (by kernel_rfl) rfl rfl ?_
              repeat (quiet_step (fail))
              refine wpQuiet_nil ?_
              intro w' hw'
              obtain ⟨nq, rfl⟩ := hw'
              have HM2 := Lib.hid (HM.out.drew nq)
              clear HM k2 d2 HRG HRG' HXL HYL eq'
              go_wp2
              go_roundw
              case rel => first | exact ⟨k + 1, by omega, by go_num, hs2, HM2.out⟩ | ((repeat apply Exists.intro); exact ⟨⟨k + 1, by omega, by go_num, hs2, HM2.out⟩, rfl⟩)
              case measure => simp [intOf]; omega
            · have eq' : ∀ w, (Op.equalIn 10000 33 (.agg (x.map vB).toArray) (.agg (y.map vB).toArray)).run Tryd.prog w = .ok false w := fun w => by rw [eqx w, decide_eq_false e]
              have hn2 := Lib.hid (HNO.out e)
              clear eqx e HST HNO
              go_wp2
              refine wp_region_quiet_lit (by kernel_rfl) (by kernel_rfl) ?_
              iterate 4 quiet_step (fail)
              refine wpQuiet_loadAt _ _ b (off + k * 32) _ (load_hash_drew HRG.out HXL.out) (by kernel_rfl) rfl rfl ?_
              iterate 4 quiet_step (fail)
              refine wpQuiet_loadAt _ _ b' (off' + k * 32) _ (load_hash_drew HRG'.out HYL.out) (by kernel_rfl) rfl rfl ?_
              repeat (quiet_step (fail))
              refine wpQuiet_nil ?_
              intro w' hw'
              obtain ⟨nq, rfl⟩ := hw'
              have HM2 := Lib.hid (HM.out.drew nq)
              clear HM k2 d2 HRG HRG' HXL HYL eq'
              go_wp2
              go_ret
              exact ⟨by rw [hn2.out]; rfl, HM2.out.below⟩
          · obtain rfl : k = hs.length := by omega
            have hyes : SameM o a hs o' a' hs' = true := decide_eq_true ⟨H1.out, H2.out, by
              have h1 := hp.out
              have h2 := H3.out
              rwa [List.take_length, h2, List.take_length] at h1⟩
            have HY := Lib.hid hyes
            clear hyes
            go_wp2
            go_ret
            exact ⟨by rw [HY.out]; rfl, HM.out.below⟩
      · have q1 : (o.toList == o'.toList) = true := by rw [Lib.toList_data, Lib.toList_data, h1]; simp
        have q2 : (a.toList == a'.toList) = true := by rw [Lib.toList_data, Lib.toList_data, h2]; simp
        have q3 : ((hs.length : Int) != hs'.length) = true := by simp; omega
        have hno : SameM o a hs o' a' hs' = false := decide_eq_false (fun h => h3 (by rw [h.2.2]))
        have HN := Lib.hid hno
        clear h1 h2 h3 hno
        go_enter Tryd.func12, Tryd.ntmps12
        go_wp2_with fail
        go_ret
        exact ⟨by rw [HN.out]; rfl, HMN.out.below⟩
    · have q1 : (o.toList == o'.toList) = true := by rw [Lib.toList_data, Lib.toList_data, h1]; simp
      have q2 : (a.toList == a'.toList) = false := by rw [Lib.toList_data, Lib.toList_data]; simpa using h2
      have hno : SameM o a hs o' a' hs' = false := decide_eq_false (fun h => h2 h.2.1)
      have HN := Lib.hid hno
      clear h1 h2 hno
      go_enter Tryd.func12, Tryd.ntmps12
      go_wp2_with fail
      go_ret
      exact ⟨by rw [HN.out]; rfl, HMN.out.below⟩
  · have q1 : (o.toList == o'.toList) = false := by rw [Lib.toList_data, Lib.toList_data]; simpa using h1
    have hno : SameM o a hs o' a' hs' = false := decide_eq_false (fun h => h1 h.1)
    have HN := Lib.hid hno
    clear h1 hno
    go_enter Tryd.func12, Tryd.ntmps12
    go_wp2_with fail
    go_ret
    exact ⟨by rw [HN.out]; rfl, HMN.out.below⟩
end Go.Proofs.YtkpcmgacjhjllaaDoor
