/- The contract of flush.on. -/
import Derived.Test.YtlkieepfjhiflaaFlu
import Derived.Test.YtlkieepfjhiflaaOn
import Derived.Test.YtlkieepfjhiflaaTail
import Derived.Deep.LoopGhost
namespace Go.Proofs.Ytlkieepfjhiflaa
open Go.RowKit Go.ChangeMaps

/-- A flush, L having come. -/
structure FlI (w wr : World) (bs bm r cl : Nat) (S : List Value) (T L : List Ent) : Prop where
  rng : Rng wr r bm cl T L
  row : ∃ cs, wr.heap[bs]? = some (.cells cs 22 (0, 0)) ∧ cs.toList.take S.length = flu S L ∧ S.length ≤ cs.size
  fr : Fr [bs] w wr
def FlR (w : World) (bs bm r cl : Nat) (S : List Value) (T : List Ent) (k : Nat) (wr : World) : Prop := ∃ L, FlI w wr bs bm r cl S T L ∧ toCome T L = k

theorem FlI.start {w : World} {g bs bm cl : Nat} {F O S : List Value} {T : List Ent} {A : Obj} (D : DiskAt w g bs bm F O S T) (hmap : w.heap[bm]? = some (.map (T.map Ent.obj).toArray cl)) :
    FlI w ((w.alloc A).alloc (.mapIter (some bm) cl #[] cl)) bs bm (w.heap.size + 1) cl S T [] := by
  have hF : Fr [bs] w ((w.alloc A).alloc (.mapIter (some bm) cl #[] cl)) := ((Fr.refl _ _).alloc _).alloc _
  have hF0 : Fr [] w ((w.alloc A).alloc (.mapIter (some bm) cl #[] cl)) := ((Fr.refl _ _).alloc _).alloc _
  obtain ⟨cs, r1, r2, r3⟩ := D.row
  obtain ⟨cl', m1, m2, m3⟩ := D.map
  rw [hmap] at m1
  simp only [Option.some.injEq, Obj.map.injEq] at m1
  obtain ⟨_, rfl⟩ := m1
  refine ⟨⟨?_, hF0.heap (by simp) hmap, m2, m3, by simp, ?_⟩, ⟨cs, hF0.heap (by simp) r1, by rw [flu_nil]; exact r2, r3⟩, hF⟩
  · have := heap_alloc_new (w.alloc A) (.mapIter (some bm) cl #[] cl)
    simpa using this
  · have := D.lt.2.2; omega
section
variable {w wr : World} {g bs bm r cl : Nat} {F O S : List Value} {T L : List Ent} (hr : w.heap.size < r)
include hr
theorem FlI.cell2 (I : FlI w wr bs bm r cl S T L) (D : DiskAt w g bs bm F O S T) {w' : World} (hF : Fr [r] wr w') {i : Nat} {v : Value} (h : w.cell? ⟨g, i, none⟩ = some v) : w'.cell? ⟨g, i, none⟩ = some v := by
  have h1 := I.fr.cell (p := ⟨g, i, none⟩) (by simpa using D.apart.1) h
  exact hF.cell (p := ⟨g, i, none⟩) (by have := D.lt.1; simp; omega) h1
theorem FlI.ent (I : FlI w wr bs bm r cl S T L) (D : DiskAt w g bs bm F O S T) (e : Ent) (he : e ∈ T) {w' : World} (hF : Fr [r] wr w') :
    ∃ b off cap, e.sl = .slice (some ⟨b, off, none⟩) 1 cap ∧ 1 ≤ cap ∧ b ∉ [g, bs, bm] ∧ b < w.heap.size ∧ w'.cell? ⟨b, off, none⟩ = some e.v := by
  rcases D.ents e he with ⟨_, h⟩ | ⟨b, off, cap, h1, h2, h3, h4, h5⟩
  · cases h
  · obtain ⟨_, _, hh4⟩ := h4
    have h4 := (Array.getElem?_eq_some_iff.1 hh4).1
    refine ⟨b, off, cap, h1, h2, h3, h4, ?_⟩
    have h6 := I.fr.cell (p := ⟨b, off + 0, none⟩) (by simp at h3 ⊢; exact h3.2.1) (h5 0 e.v rfl)
    exact hF.cell (p := ⟨b, off + 0, none⟩) (by simp; omega) h6
theorem FlI.slot (I : FlI w wr bs bm r cl S T L) (D : DiskAt w g bs bm F O S T) (e : Ent) (he : e ∈ T) {w' : World} (hF : Fr [r] wr w') :
    ∃ old, w'.cell? ⟨bs, e.k, none⟩ = some old ∧ w'.frozen? ⟨bs, e.k, none⟩ = false := by
  obtain ⟨cs, r1, r2, r3⟩ := I.row
  have hk := D.keyLt e he
  have hb := hF.heap (b := bs) (by have := D.lt.2.1; simp; omega) r1
  exact ⟨cs[e.k]'(by omega), by rw [cell_of_row w' bs e.k _ _ _ hb, Array.getElem?_eq_getElem], frozen_of_row w' bs _ _ _ hb⟩
theorem FlI.next (I : FlI w wr bs bm r cl S T L) (D : DiskAt w g bs bm F O S T) (e : Ent) (he : e ∈ T) (hnL : e ∉ L) {w' : World} (hR : Rng w' r bm cl T (L ++ [e])) (hF : Fr [r] wr w') (X : World) (hX : Fr [] w' X) :
    FlI w (X.setCell ⟨bs, e.k, none⟩ e.v) bs bm r cl S T (L ++ [e]) := by
  obtain ⟨cs, r1, r2, r3⟩ := I.row
  have hk := D.keyLt e he
  have hl := D.lt
  have hb := hX.heap (b := bs) (by simp) (hF.heap (b := bs) (by simp; omega) r1)
  have hS : Fr [bs] X (X.setCell ⟨bs, e.k, none⟩ e.v) := (Fr.refl _ _).setCell (.inl (by simp)) _
  have hXb : Fr [bs] w' X := hX.mono (by simp)
  refine ⟨(hR.fr hX (by simp) (by simp)).fr hS (by simp; omega) (by simpa using fun q => D.apart.2.2 q.symm), ⟨cs.setIfInBounds e.k e.v, heap_setCell_same _ _ _ _ _ _ hb, ?_, by simpa using r3⟩, ?_⟩
  · rw [flu_snoc S L e (fun x hx q => hnL (key_inj D.keys (I.rng.sub x hx) he q ▸ hx)), ← r2, Array.toList_setIfInBounds, List.take_set]
  · exact ((I.fr.then hF (fun x hx => .inr (by simp at hx; omega))).trans hXb).trans hS
omit hr in
theorem FlI.done (I : FlI w wr bs bm r cl S T L) (D : DiskAt w g bs bm F O S T) (hall : ∀ e ∈ T, e ∈ L) : Fr [bs, bm] w (setBlock wr bm (.map #[] cl)) ∧ DiskAt (setBlock wr bm (.map #[] cl)) g bs bm F O (flu S T) [] := by
  have hl := D.lt
  obtain ⟨a1, a2, a3⟩ := D.apart
  have hB : Fr [bm] wr (setBlock wr bm (.map #[] cl)) := (Fr.refl _ _).setBlock (.inl (by simp)) _
  have hG2 : Fr [bs, bm] w (setBlock wr bm (.map #[] cl)) := (I.fr.mono (fun k hk => .inl (by simp at hk; simp [hk]))).then hB (fun k hk => .inl (by simp at hk; simp [hk]))
  have hT : ∀ k ∈ [bs, bm], k ∈ [g, bs, bm] ∨ w.heap.size ≤ k := fun k hk => .inl (by simp at hk ⊢; omega)
  obtain ⟨fv, lv, sc, h1, h2, h3, h4⟩ := D.box
  obtain ⟨cs, r1, r2, r3⟩ := I.row
  refine ⟨hG2, ⟨fv, lv, sc, ?_, h2.fr hG2 hT, h3.fr hG2 hT, by rw [flu_length]; exact h4⟩, ⟨cs, hB.heap (by simpa using a3) r1, ?_, by rw [flu_length]; exact r3⟩, ⟨cl, ?_, by simp, by simp⟩, by simp, by simp, by rw [flu_length]; exact D.len, by simp, ?_, by simp, D.apart⟩
  · rw [flu_length]
    exact hG2.heap (by simp [a1, a2]) h1
  · rw [flu_length, r2, flu_all S L T I.rng.sub hall D.keys]
  · exact heap_setBlock I.rng.map
  · intro v hv
    rcases List.mem_append.1 hv with hv | hv
    · exact D.one v (List.mem_append_left _ hv)
    · rcases flu_mem hv with hv | ⟨e, he, rfl⟩
      · exact D.one v (List.mem_append_right _ hv)
      · exact D.oneE e he
end
set_option maxRecDepth 100000 in
set_option maxHeartbeats 1000000 in
theorem flushOn_any (w : World) {g bs bm : Nat} {F O S : List Value} {T : List Ent} (D : DiskAt w g bs bm F O S T) (_hS : S.length ≤ 4096) :
    Calls Try.prog 105 #[.agg #[], .pointer (some ⟨g, 2, none⟩)] w fun e w' => e = .returned (.tuple #[]) ∧ Fr [bs, bm] w w' ∧ DiskAt w' g bs bm F O (flu S T) [] := by
  obtain ⟨fv, lv, sc, hbox, _⟩ := D.box
  obtain ⟨cl, hmap, _⟩ := D.map
  obtain ⟨_, _, c2, c3⟩ := cells_disk hbox
  have hrg := fun A => run_range_map (P := Try.prog) (w.alloc A) 66 3 58 bm _ cl Try.underlying66 ((Below.heap_alloc w A bm D.lt.2.2).trans hmap)
  have HD := Lib.hid D; have HM := Lib.hid hmap; have HB := Lib.hid hbox
  have hgl : g < w.heap.size := D.lt.1
  have hbl : bm < w.heap.size := D.lt.2.2
  have n0 : w.heap.size ≠ g := by omega
  have n1 : w.heap.size + 1 ≠ g := by omega
  clear D hmap hbox
  go_enter Try.func105, Try.ntmps105
  go_wp2_with fail
  go_loopg [4] (toCome T []) (fun k _ wr => FlR w bs bm (w.heap.size + 1) cl S T k wr)
  case atStart =>
    exact ⟨[], FlI.start HD.out HM.out, rfl⟩
  case round =>
    obtain ⟨L, hI, hk⟩ := hrel
    have HI := Lib.hid hI
    have HK := Lib.hid hk
    clear hI hk
    go_wp2_with (refine wpList_next_ents rfl (.tmp 10) rfl rfl HI.out.rng ?c1 ?c2)
    case c1 =>
      intro hall
      have HA := Lib.hid hall
      have d3 : wr.cell? ⟨g, 3, none⟩ = some (.map (some bm)) := HI.out.fr.cell (p := ⟨g, 3, none⟩) (by simpa using HD.out.apart.1) c3
      have hcl := run_clear HI.out.rng.map
      clear hall hrg
      go_wp2
      go_end0
      exact ⟨rfl, FlI.done HI.out HD.out HA.out⟩
    case c2 =>
      intro e w' he hnL hR hF hlt hen
      obtain ⟨b, off, cap, hsl, hcap, hbo, hbl2, hbc⟩ := FlI.ent (by omega) HI.out HD.out e he hF
      have d2 := FlI.cell2 (by omega) HI.out HD.out hF c2
      obtain ⟨old, hold, hfz⟩ := FlI.slot (by omega) HI.out HD.out e he hF
      have HN := Lib.hid (@FlI.next _ _ _ _ _ _ _ _ _ _ _ _ (by omega) HI.out HD.out e he hnL _ hR hF)
      have i0 : (0 : Int) ≤ (e.k : Int) := by omega
      have i1 : (e.k : Int) < (S.length : Int) := by have := HD.out.keyLt e he; omega
      have i2 : e.k < S.length := by omega
      have nb : bs ≠ b := fun q => by subst q; simp at hbo
      have ng : bs ≠ g := fun q => HD.out.apart.1 q.symm
      obtain ⟨va, vn, vc, hve⟩ := HD.out.oneE e he
      have HT := Lib.hid hlt
      have hk0 : (1 : Int) ≤ cap := by omega
      clear hlt hR hF he hnL hbo hrg hcap
      obtain ⟨ek, esl, ev, eb⟩ := e
      dsimp only at *
      subst hsl
      subst hve
      go_wp2_with fail
      have hw0 : IntKind.i64.wrap 0 = 0 := rfl
      refine wp_region_qtail_lit 12 (by kernel_rfl) (by kernel_rfl) ?_
      simp only [List.take_succ_cons, List.take_zero, List.drop_succ_cons, List.drop_zero]
      repeat (quiet_step (fail))
      refine wpQuiet_nil ?_
      intro w2 hw2
      obtain ⟨nq, rfl⟩ := hw2
      have hold2 : (w'.drewN nq).cell? ⟨bs, ek, none⟩ = some old := hold
      have hfz2 : (w'.drewN nq).frozen? ⟨bs, ek, none⟩ = false := hfz
      go_wp2_with fail
      go_roundg (toCome T (L ++ [(⟨ek, .slice (some ⟨b, off, none⟩) 1 cap, .slice va vn vc, eb⟩ : Ent)]))
      case measure => have := HT.out; have := HK.out; omega
      case rel => exact ⟨_, HN.out _ (Fr.drewN _ _), rfl⟩
end Go.Proofs.Ytlkieepfjhiflaa
