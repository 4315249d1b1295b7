/- An op on a disk's sectors: contracts of write.on and flush.on. -/
import Derived.Test.YtlkieepfjhiflaaMapRun
import Derived.Deep.RegionHeld3
import Derived.Deep.RegionLawGrows
namespace Go.Proofs.Ytlkieepfjhiflaa
open Go.RowKit Go.ChangeMaps

theorem cells_disk {w : World} {g t : Nat} {v0 v1 v2 v3 : Value} (h : w.heap[g]? = some (.cells #[v0, v1, v2, v3] t (0, 0))) :
    w.cell? ⟨g, 0, none⟩ = some v0 ∧ w.cell? ⟨g, 1, none⟩ = some v1 ∧ w.cell? ⟨g, 2, none⟩ = some v2 ∧ w.cell? ⟨g, 3, none⟩ = some v3 :=
  ⟨by rw [cell_of_row w g 0 _ _ _ h]; rfl, by rw [cell_of_row w g 1 _ _ _ h]; rfl, by rw [cell_of_row w g 2 _ _ _ h]; rfl, by rw [cell_of_row w g 3 _ _ _ h]; rfl⟩

theorem cell_l1 {w : World} {A : Obj} {p : Addr} {v : Value} (h : w.cell? p = some v) : (w.alloc A).cell? p = some v := (((Below.refl w.heap.size w).alloc (Nat.le_refl _) A).cell (block_lt_of_cell h)).trans h
theorem cell_dr {w : World} {p : Addr} {v : Value} (h : w.cell? p = some v) : w.drew.cell? p = some v := h
theorem cell_l2 {w : World} {A B : Obj} {p : Addr} {v : Value} (h : w.cell? p = some v) : ((w.alloc A).alloc B).cell? p = some v := cell_l1 (cell_l1 h)
theorem cell_l3 {w : World} {A B C : Obj} {p : Addr} {v : Value} (h : w.cell? p = some v) : (((w.alloc A).alloc B).alloc C).cell? p = some v := cell_l1 (cell_l2 h)
theorem new3 (w : World) (A B C : Obj) : (((w.alloc A).alloc B).alloc C).heap[w.heap.size + 1 + 1]? = some C := by
  have := heap_alloc_new ((w.alloc A).alloc B) C
  simpa using this
theorem new3d (w : World) (A B C : Obj) : (((w.alloc A).alloc B).alloc C).drew.drew.heap[w.heap.size + 1 + 1]? = some C := new3 w A B C
theorem cut_cap (n o : Nat) (e : TypeId) (x : Nat) (_h : n ≤ 9223372036854775807) : n ≤ (Question.appendCap n o e).cut x := by
  simp only [Question.cut]
  omega
/-- A write is laid behind those that wait. -/
theorem DiskAt.push {w X : World} {g bs bm : Nat} {F O S : List Value} {T : List Ent} (D : DiskAt w g bs bm F O S T) (hF : Fr [] w X) {n : Nat} (hn : n < S.length) (hk : ∀ e ∈ T, e.k < n) {a : Option Addr} {ln c q cap cl : Nat} {Z : Array Value}
    (hq : w.heap.size ≤ q) (hcell : X.heap[q]? = some (.cells (#[.slice a ln c] ++ Z) 22 (0, 0))) (hcap : 1 ≤ cap) (hmap : w.heap[bm]? = some (.map (T.map Ent.obj).toArray cl)) {N : List MapEntry} (hN : N = (T ++ [(⟨n, .slice (some ⟨q, 0, none⟩) 1 cap, .slice a ln c, cl⟩ : Ent)]).map Ent.obj) :
    Fr [bs, bm] w (setBlock X bm (.map N.toArray (cl + 1))) ∧ ∃ e0 : Ent, e0.k = n ∧ e0.v = .slice a ln c ∧ DiskAt (setBlock X bm (.map N.toArray (cl + 1))) g bs bm F O S (T ++ [e0]) := by
  subst hN
  have hl := D.lt
  have hFb : Fr [bm] w (setBlock X bm (.map ((T ++ [(⟨n, .slice (some ⟨q, 0, none⟩) 1 cap, .slice a ln c, cl⟩ : Ent)]).map Ent.obj).toArray (cl + 1))) := (hF.mono (by simp)).setBlock (.inl (by simp)) _
  have hFx : Fr [bm] X (setBlock X bm (.map ((T ++ [(⟨n, .slice (some ⟨q, 0, none⟩) 1 cap, .slice a ln c, cl⟩ : Ent)]).map Ent.obj).toArray (cl + 1))) := (Fr.refl _ _).setBlock (.inl (by simp)) _
  obtain ⟨fv, lv, sc, h1, h2, h3, h4⟩ := D.box
  obtain ⟨cs, r1, r2, r3⟩ := D.row
  obtain ⟨cl', m1, m2, m3⟩ := D.map
  obtain ⟨a1, a2, a3⟩ := D.apart
  rw [hmap] at m1
  simp only [Option.some.injEq, Obj.map.injEq] at m1
  obtain ⟨_, rfl⟩ := m1
  have hT : ∀ k ∈ [bm], k ∈ [g, bs, bm] ∨ w.heap.size ≤ k := fun k hk => .inl (by simp at hk; simp [hk])
  refine ⟨hFb.mono (fun k hk => .inl (by simp at hk; simp [hk])), _, rfl, rfl, ⟨fv, lv, sc, hFb.heap (by simpa using a2) h1, h2.fr hFb hT, h3.fr hFb hT, h4⟩, ⟨cs, hFb.heap (by simpa using a3) r1, r2, r3⟩, ⟨cl + 1, heap_setBlock (hF.heap (by simp) hmap), ?_, ?_⟩, ?_, ?_, D.len, ?_, D.one, ?_, D.apart⟩
  · intro e he
    rcases List.mem_append.1 he with he | he
    · have := m2 e he; omega
    · simp at he; subst he; simp
  · rw [List.map_append, List.nodup_append]
    refine ⟨m3, by simp, ?_⟩
    intro x hx y hy
    obtain ⟨e, he, rfl⟩ := List.mem_map.1 hx
    simp at hy
    have := m2 e he
    omega
  · intro e he
    rcases List.mem_append.1 he with he | he
    · exact (D.ents e he).fr hFb hT
    · simp at he; subst he
      refine .inr ⟨q, 0, cap, by simp, by simpa using hcap, by simp; omega, ?_, fun j u hj => ?_⟩
      · exact ⟨_, _, hFx.heap (by simp; omega) hcell⟩
      · have hj0 : j = 0 := by
          have := (List.getElem?_eq_some_iff.1 hj).1
          simp at this; exact this
        subst hj0
        have hc : X.cell? ⟨q, 0 + 0, none⟩ = some (.slice a ln c) := by rw [cell_of_row X q (0 + 0) _ _ _ hcell, Array.getElem?_append_left (by simp)]; rfl
        simp at hj; subst hj
        exact hFx.cell (p := ⟨q, 0 + 0, none⟩) (by simp; omega) hc
  · rw [List.pairwise_append]
    refine ⟨D.keys, by simp, fun x hx y hy => ?_⟩
    simp at hy; subst hy
    exact hk x hx
  · intro e he
    rcases List.mem_append.1 he with he | he
    · exact D.keyLt e he
    · simp at he; subst he; exact hn
  · intro e he
    rcases List.mem_append.1 he with he | he
    · exact D.oneE e he
    · simp at he; subst he; exact ⟨_, _, _, rfl⟩
set_option maxRecDepth 100000 in
set_option maxHeartbeats 1000000 in
theorem writeOn_any (w : World) {g bs bm : Nat} {F O S : List Value} {T : List Ent} (D : DiskAt w g bs bm F O S T) (n : Nat) (hn : n < S.length) (_hS : S.length ≤ 4096) (hk : ∀ e ∈ T, e.k < n) (a : Option Addr) (ln c : Nat) :
    Calls Try.prog 104 #[.agg #[.int .i64 (n : Int), .slice a ln c], .pointer (some ⟨g, 2, none⟩)] w fun e w' => e = .returned (.tuple #[]) ∧ Fr [bs, bm] w w' ∧ ∃ e0 : Ent, e0.k = n ∧ e0.v = .slice a ln c ∧ DiskAt w' g bs bm F O S (T ++ [e0]) := by
  obtain ⟨fv, lv, sc, hbox, _⟩ := D.box
  obtain ⟨cl, hmap, _⟩ := D.map
  obtain ⟨_, _, _, c3⟩ := cells_disk hbox
  have hlk : ∀ w' : World, w'.heap[bm]? = w.heap[bm]? → (Instr.lookup 66 (.map (some bm)) (.int .i64 (n : Int)) false).run Try.prog w' = .ok (.slice none 0 0) w' := fun w' h => run_look_none (h.trans hmap) n (fun e he => by have := hk e he; omega)
  have hgl : g < w.heap.size := D.lt.1
  have hbl : bm < w.heap.size := D.lt.2.2
  have HD := Lib.hid D; have HK := Lib.hid hk; have HM := Lib.hid hmap; have HL := Lib.hid hlk
  clear D hk hmap hlk hbox
  go_enter Try.func104, Try.ntmps104
  go_wp2_with fail
  have hU : ∀ (A B C : Obj) (sl : Value), (Instr.mapUpdate 66 (.map (some bm)) (.int .i64 (n : Int)) sl).run Try.prog (((w.alloc A).alloc B).alloc C).drew.drew = .ok () (setBlock (((w.alloc A).alloc B).alloc C).drew.drew bm (.map ((T ++ [(⟨n, sl, .slice a ln c, cl⟩ : Ent)]).map Ent.obj).toArray (cl + 1))) :=
    fun A B C sl => run_update (w := (((w.alloc A).alloc B).alloc C).drew.drew) (((Below.heap_alloc _ _ _ (by simp; omega)).trans ((Below.heap_alloc _ _ _ (by simp; omega)).trans (Below.heap_alloc _ _ _ hbl))).trans HM.out) n (fun e he => by have := HK.out e he; omega) sl _
  have n0 : w.heap.size ≠ g := by omega
  have n1 : w.heap.size + 1 ≠ g := by omega
  have n2 : w.heap.size + 1 + 1 ≠ g := by omega
  have n3 : w.heap.size + 2 ≠ g := by omega
  have m0 : w.heap.size ≠ bm := by omega
  have m1 : g ≠ bm := HD.out.apart.2.1
  have hSB : ∀ (x : World) (o : Obj) (b i : Nat) (v : Value), b ≠ bm → x.cell? ⟨b, i, none⟩ = some v → (setBlock x bm o).cell? ⟨b, i, none⟩ = some v := fun x o b i v hb h => ((Fr.refl [bm] x).setBlock (.inl (by simp)) o).cell (p := ⟨b, i, none⟩) (by simpa using hb) h
  have l2 := fun B => HL.out ((w.alloc (.cells #[.int .i64 (n : Int), .slice a ln c] 74)).alloc B).drew ((Below.heap_alloc _ _ _ (by simp; omega)).trans (Below.heap_alloc _ _ _ hbl))
  have l1 := HL.out (w.alloc (.cells #[.int .i64 (n : Int), .slice a ln c] 74)).drew (Below.heap_alloc _ _ _ hbl)
  go_region_held3 (fun w' => w'.cell? ⟨g, 3, none⟩ = some (.map (some bm)) ∧ w'.cell? ⟨w.heap.size, 0, none⟩ = some (.int .i64 (n : Int)) ∧ w'.cell? ⟨w.heap.size, 1, none⟩ = some (.slice a ln c)) (first | (go_keep; done) | (refine ⟨?_, ?_, ?_⟩ <;> first | (go_keep; done) | exact cell_dr (cell_dr (cell_l3 c3)) | exact cell_dr (cell_l3 c3)) | exact cell_dr (cell_dr (cell_l3 c3)) | exact cell_dr (cell_l3 c3) | (trace_state; fail)) (first | fail)
  all_goals
    have hP := HD.out.push (X := (((w.alloc (.cells #[.int .i64 (n : Int), .slice a ln c] 74)).alloc (.cells #[.slice a ln c] 22)).alloc (.cells (#[.slice a ln c] ++ Builtin.zeroCells #[.slice none 0 0] ((Question.appendCap 1 0 22).cut (w.tape (w.drawn + 1) (Question.appendCap 1 0 22)) - 1)) 22)).drew.drew) (((((Fr.refl [] w).alloc _).alloc _).alloc _).trans ((Fr.drew _).trans (Fr.drew _))) hn HK.out (q := w.heap.size + 1 + 1) (by omega) (new3d _ _ _ _) (cut_cap 1 0 22 (w.tape (w.drawn + 1) (Question.appendCap 1 0 22)) (by omega)) HM.out rfl
    have HP := Lib.hid hP
    clear hP hU l1 l2 hSB c3
    go_wp2
    go_end0
    exact ⟨rfl, by simpa using HP.out⟩
end Go.Proofs.Ytlkieepfjhiflaa
