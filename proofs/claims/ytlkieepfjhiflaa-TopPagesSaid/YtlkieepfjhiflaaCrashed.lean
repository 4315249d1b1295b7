/- The contract of the theorems' crashed. -/
import Derived.Test.YtlkieepfjhiflaaCut
import Derived.Test.YtlkieepfjhiflaaCrash
namespace Go.Proofs.Ytlkieepfjhiflaa
open Go.RowKit Go.ChangeMaps

/-- What a crash leaves of safe sectors P while m waits: of each sector the safe one, or the one that waited. -/
def Crashed (P : List Value) (m : List (Nat × Value)) (S : List Value) : Prop := S.length = P.length ∧ ∀ i, S[i]? = P[i]? ∨ ∃ v, (i, v) ∈ m ∧ S[i]? = some v
theorem crashed_of (P : List Value) (T : List Ent) (K : List Int) : Crashed P (kvs T) (flu P (keepE K T)) := by
  refine ⟨flu_length _ _, fun i => ?_⟩
  by_cases hi : i < P.length
  · have h1 : i < (flu P (keepE K T)).length := by rw [flu_length]; exact hi
    rw [List.getElem?_eq_getElem h1, List.getElem?_eq_getElem hi, flu_get _ _ _ h1 hi]
    unfold pick
    cases h : (keepE K T).find? (fun e => e.k == i) with
    | none => exact .inl rfl
    | some e =>
      have hk : e.k = i := by simpa using List.find?_some h
      have he := keepE_sub K T e (List.mem_of_find?_eq_some h)
      exact .inr ⟨e.v, List.mem_map.2 ⟨e, he, by rw [hk]⟩, rfl⟩
  · left
    rw [List.getElem?_eq_none (by rw [flu_length]; omega), List.getElem?_eq_none (by omega)]
/-- While the choice is read: K so far. -/
structure ChI (w2 wr : World) (K : List Int) (v : Value) : Prop where
  own : wr.ownsRow w2.heap.size 3 1 v K.length (K.map (Value.int .i64))
  below : Below w2.heap.size w2 wr
  bits : ∀ k ∈ K, k = 0 ∨ k = 1
theorem ChI.step {w2 wr w3 : World} {K : List Int} {v v' : Value} {k : Int} {A : Obj} {X : World} (I : ChI w2 wr K v) (hX : Fr [] wr X) (hk : k = 0 ∨ k = 1) (hown : w3.ownsRow w2.heap.size 3 1 v' (K.length + 1) (K.map (Value.int .i64) ++ [.int .i64 k])) (hgr : (X.alloc A).grownBy w3 v.ownBlock) : ChI w2 w3 (K ++ [k]) v' := by
  have hb : Below w2.heap.size w2 X := I.below.trans (hX.below I.below.size (by simp))
  refine ⟨by simpa using hown, (hb.alloc hb.size A).grown hgr (by have := hb.size; simp; omega) (fun x hx => (World.ownsRow.lt I.own x hx).1), fun x hx => ?_⟩
  rcases List.mem_append.1 hx with hx | hx
  · exact I.bits x hx
  · simp at hx; subst hx; exact hk
set_option maxRecDepth 100000 in
set_option maxHeartbeats 8000000 in
theorem crashed_any (w : World) {g bs bm : Nat} {F S : List Value} {T : List Ent} {ops : List (Option (Nat × Value))} (D : DiskAt w g bs bm F (ops.map opV) S T) (hP : Playable F ops) (hF0 : 0 < F.length) (hF : F.length ≤ 4096) (hO : ops.length ≤ 1000000) (k : Nat) (hk : k ≤ ops.length) (cv : Value) (lc : List UInt8) (hc : RdB w cv lc) (hm : (play F (ops.take k)).2.length ≤ 4096) :
    Calls Try.prog 14 #[.pointer (some ⟨g, 0, none⟩), .int .i64 (k : Int), cv] w fun e w' => ∃ g' bs' bm' S', e = .returned (.pointer (some ⟨g', 0, none⟩)) ∧ DiskAt w' g' bs' bm' S' [] S' [] ∧ Crashed (play F (ops.take k)).1 (play F (ops.take k)).2 S' ∧ Below w.heap.size w w' ∧ w.heap.size ≤ g' ∧ w.heap.size ≤ bs' ∧ w.heap.size ≤ bm' := by
  obtain ⟨i0, hi, hz0, hz1, hz2⟩ := info_parts info_int
  have HD := Lib.hid D; have HP := Lib.hid hP; have HF := Lib.hid hF; have H0 := Lib.hid hF0; have HC := Lib.hid hc; have HM := Lib.hid hm
  obtain ⟨ca, cc, rfl, _⟩ := RdB.open hc
  clear D hP hF0 hF hc hm
  go_enter Try.func14, Try.ntmps14
  go_wp2_with fail
  refine (cut_any _ HD.out HP.out H0.out HF.out hO k hk).mono ?_
  rintro e w1 ⟨g1, bs1, bm1, T1, O1, rfl, D1, hkv, hb1, hg1, hg2, hg3⟩
  have hTl : T1.length ≤ 4096 := by
    have := HM.out
    rw [← hkv] at this
    simpa [kvs] using this
  have HD1 := Lib.hid D1; have HKV := Lib.hid hkv; have HB1 := Lib.hid hb1; have HT := Lib.hid hTl
  clear D1 hkv hb1
  go_wp2_with fail
  refine (waiting_any _ HD1.out (by rw [play_length]; exact HF.out) HT.out).mono ?_
  rintro e w2 ⟨nv, wv, rfl, hb2, hn2, hw2⟩
  obtain ⟨na, nc, rfl⟩ := own_slice hn2
  obtain ⟨wa, wc, rfl, hwr⟩ := (RdV_of_owns hw2).open
  have HW := Lib.hid hwr; have HB2 := Lib.hid hb2
  simp only [List.length_map]
  clear hn2 hw2 hwr hb2
  go_wp2_with fail
  go_loopw [12, 11, 13] (fun i v _ wq => ∃ K : List Int, i = .int .i64 (K.length : Int) ∧ K.length ≤ T1.length ∧ ChI w2 wq K v) (fun i _ _ _ => T1.length - (intOf i).toNat)
  case atStart => exact ⟨[], rfl, by simp, by simpa using World.ownsRow_nil _ _ _ _, Below.refl _ _, by simp⟩
  case round =>
    obtain ⟨K, rfl, hKl, hI⟩ := hrel
    have HI := Lib.hid hI
    have t4 : (T1.length : Int) ≤ 4096 := by omega
    clear hI
    by_cases hlt : K.length < T1.length
    · have j0 : (0 : Int) ≤ (K.length : Int) := by omega
      have j1 : (K.length : Int) < (T1.length : Int) := by omega
      by_cases hch : K.length < lc.length
      · have j2 : (K.length : Int) < (lc.length : Int) := by omega
        obtain ⟨wb, wo, hwa, hwc⟩ := HW.out K.length (.int .i64 1) (by rw [List.getElem?_map, List.getElem?_eq_getElem hlt]; rfl)
        obtain ⟨cb, co, hca, hcc⟩ : ∃ cb co, ca = some ⟨cb, co, none⟩ ∧ w.cell? ⟨cb, co + K.length, none⟩ = some (.int .u8 (n8 lc[K.length])) := by
          obtain ⟨a', c', hv, hcc⟩ := RdB.open HC.out
          cases hv
          exact hcc K.length hch
        have d1 : wr.cell? ⟨wb, wo + K.length, none⟩ = some (.int .i64 1) := (HI.out.below.cell (p := ⟨wb, wo + K.length, none⟩) (block_lt_of_cell hwc)).trans hwc
        have hbw : Below w.heap.size w wr := HB1.out.trans ((HB2.out.trans (HI.out.below.mono HB2.out.size)).mono HB1.out.size)
        have d2 : wr.cell? ⟨cb, co + K.length, none⟩ = some (.int .u8 (n8 lc[K.length])) := (hbw.cell (p := ⟨cb, co + K.length, none⟩) (block_lt_of_cell hcc)).trans hcc
        have n0 := n8_lo lc[K.length]
        have n1 := n8_hi lc[K.length]
        generalize n8 lc[K.length] = x at *
        subst hwa hca
        have hx2 : x % 2 = 0 ∨ x % 2 = 1 := by omega
        have HX2 := Lib.hid hx2
        clear hwc hcc hbw hx2
        go_wp2_with fail
        go_quiet (fail)
        go_wp2_with (refine wpList_app rfl (.tmp 48) (.tmp 50) 77 rfl w2.heap.size 3 i0 (.int .i64 0) 8 Try.underlying77 hi hz0 hz1 hz2 rfl _ K.length (K.map (Value.int .i64)) rfl ?e1 _ [.int .i64 (x % 2)] rfl (rd_one _ _ _) (by intro q hq; simp at hq; subst hq; rfl) ?e2 (by omega) ?e3 ?_)
        case e1 => exact (own_keep (S := []) HI.out.own (Fr.drewN wr nq) (by simp)).alloc _
        case e2 => (try simp only [List.length_singleton]); omega
        case e3 => have := HI.out.below.size; (try simp [World.drewN]); (try omega)
        intro v' w3 hown hgr
        have HX := Lib.hid (HI.out.step (k := (x % 2)) (Fr.drewN wr nq) HX2.out hown hgr)
        clear hown hgr
        go_wp2_with fail
        go_roundw
        case rel => exact ⟨_, by simp, by simp; omega, HX.out⟩
        case measure => simp [intOf]; omega
      · have j2 : ¬ ((K.length : Int) < (lc.length : Int)) := by omega
        go_wp2_with (refine wpList_app rfl (.tmp 48) (.tmp 50) 77 rfl w2.heap.size 3 i0 (.int .i64 0) 8 Try.underlying77 hi hz0 hz1 hz2 rfl _ K.length (K.map (Value.int .i64)) rfl ?e1 _ [.int .i64 0] rfl (rd_one _ _ _) (by intro q hq; simp at hq; subst hq; rfl) ?e2 (by omega) ?e3 ?_)
        case e1 => exact (own_keep (S := []) HI.out.own (Fr.refl [] wr) (by simp)).alloc _
        case e2 => (try simp only [List.length_singleton]); omega
        case e3 => have := HI.out.below.size; (try simp); (try omega)
        intro v' w3 hown hgr
        have HX := Lib.hid (HI.out.step (k := 0) (Fr.refl [] wr) (.inl rfl) hown hgr)
        clear hown hgr
        go_wp2_with fail
        go_roundw
        case rel => exact ⟨_, by simp, by simp; omega, HX.out⟩
        case measure => simp [intOf]; omega
    · have hKe : K.length = T1.length := by omega
      have hbw : Below w.heap.size w wr := HB1.out.trans ((HB2.out.trans (HI.out.below.mono HB2.out.size)).mono HB1.out.size)
      have DC := HD1.out.fr (U := []) ((Fr.of_below HB2.out).trans (Fr.of_below HI.out.below)) (by simp)
      have HDC := Lib.hid DC; have HBW := Lib.hid hbw; have HKE := Lib.hid hKe
      have j1 : ¬ ((K.length : Int) < (T1.length : Int)) := by omega
      clear hbw DC hKe
      go_wp2_with fail
      refine (crash_any _ HDC.out (by rw [play_length]; exact HF.out) (by rw [play_length]; exact H0.out) HT.out _ K (RdV_of_owns HI.out.own) (by have := HKE.out; omega) HI.out.bits).mono ?_
      rintro e w5 ⟨g', bs', bm', rfl, D5, hb5, h51, h52, h53⟩
      have hs := HBW.out.size
      have hCr := crashed_of (play F (ops.take k)).1 T1 K
      rw [HKV.out] at hCr
      have HH := Lib.hid (show DiskAt w5 g' bs' bm' (flu (play F (ops.take k)).1 (keepE K T1)) [] (flu (play F (ops.take k)).1 (keepE K T1)) [] ∧ Crashed (play F (ops.take k)).1 (play F (ops.take k)).2 (flu (play F (ops.take k)).1 (keepE K T1)) ∧ Below w.heap.size w w5 ∧ w.heap.size ≤ g' ∧ w.heap.size ≤ bs' ∧ w.heap.size ≤ bm' from
        ⟨D5, hCr, HBW.out.trans (hb5.mono hs), by omega, by omega, by omega⟩)
      clear D5 hb5 h51 h52 h53 hCr
      go_wp2_with fail
      go_ret
      exact ⟨g', bs', bm', _, rfl, HH.out⟩
end Go.Proofs.Ytlkieepfjhiflaa
