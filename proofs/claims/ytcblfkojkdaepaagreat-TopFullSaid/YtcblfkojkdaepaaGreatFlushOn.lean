/- An op on a disk's sectors: contracts of write.on and flush.on. -/
import Derived.Test.YtcblfkojkdaepaaGreatFlu
import Derived.Deep.RegionHeld3
import Derived.Deep.RegionLawGrows
import Derived.Test.YtcblfkojkdaepaaGreatDk
import Derived.StillTail
import Derived.Deep.Quiet
import Derived.Deep.LoopGhost
namespace Go.Proofs.YtcblfkojkdaepaaGreat
open Go.RowKit Go.ChangeMaps

theorem cells_disk {w : World} {g t : Nat} {v0 v1 v2 v3 : Value} (h : w.heap[g]? = some (.cells #[v0, v1, v2, v3] t (0, 0))) :
    w.cell? ⟨g, 0, none⟩ = some v0 ∧ w.cell? ⟨g, 1, none⟩ = some v1 ∧ w.cell? ⟨g, 2, none⟩ = some v2 ∧ w.cell? ⟨g, 3, none⟩ = some v3 :=
  ⟨by rw [cell_of_row w g 0 _ _ _ h]; rfl, by rw [cell_of_row w g 1 _ _ _ h]; rfl, by rw [cell_of_row w g 2 _ _ _ h]; rfl, by rw [cell_of_row w g 3 _ _ _ h]; rfl⟩

theorem cell_l1 {w : World} {A : Obj} {p : Addr} {v : Value} (h : w.cell? p = some v) : (w.alloc A).cell? p = some v := (((Below.refl w.heap.size w).alloc (Nat.le_refl _) A).cell (block_lt_of_cell h)).trans h
theorem cell_dr {w : World} {p : Addr} {v : Value} (h : w.cell? p = some v) : w.drew.cell? p = some v := h
theorem cell_l2 {w : World} {A B : Obj} {p : Addr} {v : Value} (h : w.cell? p = some v) : ((w.alloc A).alloc B).cell? p = some v := cell_l1 (cell_l1 h)
theorem cell_l3 {w : World} {A B C : Obj} {p : Addr} {v : Value} (h : w.cell? p = some v) : (((w.alloc A).alloc B).alloc C).cell? p = some v := cell_l1 (cell_l2 h)
theorem new3 (w : World) (A B C : Obj) : (((w.alloc A).alloc B).alloc C).heap[w.heap.size + 1 + 1]? = some C := by
  have := heap_alloc_new ((w.alloc A).alloc B) C
  simpa using this
theorem new3d (w : World) (A B C : Obj) : (((w.alloc A).alloc B).alloc C).drew.drew.heap[w.heap.size + 1 + 1]? = some C := new3 w A B C
theorem cut_cap (n o : Nat) (e : TypeId) (x : Nat) (_h : n ≤ 9223372036854775807) : n ≤ (Question.appendCap n o e).cut x := by
  simp only [Question.cut]
  omega
/-- A write is laid behind those that wait. -/
theorem DiskAt.push {w X : World} {g bs bm : Nat} {F O S : List Value} {T : List Ent} (D : DiskAt w g bs bm F O S T) (hF : Fr [] w X) {n : Nat} (hn : n < S.length) (hk : ∀ e ∈ T, e.k < n) {a : Option Addr} {ln c q cap cl : Nat} {Z : Array Value}
    (hq : w.heap.size ≤ q) (hcell : X.heap[q]? = some (.cells (#[.slice a ln c] ++ Z) 46 (0, 0))) (hcap : 1 ≤ cap) (hmap : w.heap[bm]? = some (.map (T.map Ent.obj).toArray cl)) {N : List MapEntry} (hN : N = (T ++ [(⟨n, .slice (some ⟨q, 0, none⟩) 1 cap, .slice a ln c, cl⟩ : Ent)]).map Ent.obj) :
    Fr [bs, bm] w (setBlock X bm (.map N.toArray (cl + 1))) ∧ ∃ e0 : Ent, e0.k = n ∧ e0.v = .slice a ln c ∧ DiskAt (setBlock X bm (.map N.toArray (cl + 1))) g bs bm F O S (T ++ [e0]) := by
  subst hN
  have hl := D.lt
  have hFb : Fr [bm] w (setBlock X bm (.map ((T ++ [(⟨n, .slice (some ⟨q, 0, none⟩) 1 cap, .slice a ln c, cl⟩ : Ent)]).map Ent.obj).toArray (cl + 1))) := (hF.mono (by simp)).setBlock (.inl (by simp)) _
  have hFx : Fr [bm] X (setBlock X bm (.map ((T ++ [(⟨n, .slice (some ⟨q, 0, none⟩) 1 cap, .slice a ln c, cl⟩ : Ent)]).map Ent.obj).toArray (cl + 1))) := (Fr.refl _ _).setBlock (.inl (by simp)) _
  obtain ⟨fv, lv, sc, h1, h2, h3, h4⟩ := D.box
  obtain ⟨cs, r1, r2, r3⟩ := D.row
  obtain ⟨cl', m1, m2, m3⟩ := D.map
  obtain ⟨a1, a2, a3⟩ := D.apart
  rw [hmap] at m1
  simp only [Option.some.injEq, Obj.map.injEq] at m1
  obtain ⟨_, rfl⟩ := m1
  have hT : ∀ k ∈ [bm], k ∈ [g, bs, bm] ∨ w.heap.size ≤ k := fun k hk => .inl (by simp at hk; simp [hk])
  refine ⟨hFb.mono (fun k hk => .inl (by simp at hk; simp [hk])), _, rfl, rfl, ⟨fv, lv, sc, hFb.heap (by simpa using a2) h1, h2.fr hFb hT, h3.fr hFb hT, h4⟩, ⟨cs, hFb.heap (by simpa using a3) r1, r2, r3⟩, ⟨cl + 1, heap_setBlock (hF.heap (by simp) hmap), ?_, ?_⟩, ?_, ?_, D.len, ?_, D.one, ?_, D.apart⟩
  · intro e he
    rcases List.mem_append.1 he with he | he
    · have := m2 e he; omega
    · simp at he; subst he; simp
  · rw [List.map_append, List.nodup_append]
    refine ⟨m3, by simp, ?_⟩
    intro x hx y hy
    obtain ⟨e, he, rfl⟩ := List.mem_map.1 hx
    simp at hy
    have := m2 e he
    omega
  · intro e he
    rcases List.mem_append.1 he with he | he
    · exact (D.ents e he).fr hFb hT
    · simp at he; subst he
      refine .inr ⟨q, 0, cap, by simp, by simpa using hcap, by simp; omega, ?_, fun j u hj => ?_⟩
      · exact ⟨_, _, hFx.heap (by simp; omega) hcell⟩
      · have hj0 : j = 0 := by
          have := (List.getElem?_eq_some_iff.1 hj).1
          simp at this; exact this
        subst hj0
        have hc : X.cell? ⟨q, 0 + 0, none⟩ = some (.slice a ln c) := by rw [cell_of_row X q (0 + 0) _ _ _ hcell, Array.getElem?_append_left (by simp)]; rfl
        simp at hj; subst hj
        exact hFx.cell (p := ⟨q, 0 + 0, none⟩) (by simp; omega) hc
  · rw [List.pairwise_append]
    refine ⟨D.keys, by simp, fun x hx y hy => ?_⟩
    simp at hy; subst hy
    exact hk x hx
  · intro e he
    rcases List.mem_append.1 he with he | he
    · exact D.keyLt e he
    · simp at he; subst he; exact hn
  · intro e he
    rcases List.mem_append.1 he with he | he
    · exact D.oneE e he
    · simp at he; subst he; exact ⟨_, _, _, rfl⟩
set_option maxRecDepth 100000 in
set_option maxHeartbeats 1000000 in
theorem writeOn_any (w : World) {g bs bm : Nat} {F O S : List Value} {T : List Ent} (D : DiskAt w g bs bm F O S T) (n : Nat) (hn : n < S.length) (_hS : S.length ≤ 4096) (hk : ∀ e ∈ T, e.k < n) (a : Option Addr) (ln c : Nat) :
    Calls Tryz.prog 126 #[.agg #[.int .i64 (n : Int), .slice a ln c], .pointer (some ⟨g, 2, none⟩)] w fun e w' => e = .returned (.tuple #[]) ∧ Fr [bs, bm] w w' ∧ ∃ e0 : Ent, e0.k = n ∧ e0.v = .slice a ln c ∧ DiskAt w' g bs bm F O S (T ++ [e0]) := by
  obtain ⟨fv, lv, sc, hbox, _⟩ := D.box
  obtain ⟨cl, hmap, _⟩ := D.map
  obtain ⟨_, _, _, c3⟩ := cells_disk hbox
  have hlk : ∀ w' : World, w'.heap[bm]? = w.heap[bm]? → (Instr.lookup 109 (.map (some bm)) (.int .i64 (n : Int)) false).run Tryz.prog w' = .ok (.slice none 0 0) w' := fun w' h => run_look_none (h.trans hmap) n (fun e he => by have := hk e he; omega)
  have hgl : g < w.heap.size := D.lt.1
  have hbl : bm < w.heap.size := D.lt.2.2
  have HD := Lib.hid D; have HK := Lib.hid hk; have HM := Lib.hid hmap; have HL := Lib.hid hlk
  clear D hk hmap hlk hbox
  go_enter Tryz.func126, Tryz.ntmps126
  go_wp2_with fail
  have hU : ∀ (A B C : Obj) (sl : Value), (Instr.mapUpdate 109 (.map (some bm)) (.int .i64 (n : Int)) sl).run Tryz.prog (((w.alloc A).alloc B).alloc C).drew.drew = .ok () (setBlock (((w.alloc A).alloc B).alloc C).drew.drew bm (.map ((T ++ [(⟨n, sl, .slice a ln c, cl⟩ : Ent)]).map Ent.obj).toArray (cl + 1))) :=
    fun A B C sl => run_update (w := (((w.alloc A).alloc B).alloc C).drew.drew) (((Below.heap_alloc _ _ _ (by simp; omega)).trans ((Below.heap_alloc _ _ _ (by simp; omega)).trans (Below.heap_alloc _ _ _ hbl))).trans HM.out) n (fun e he => by have := HK.out e he; omega) sl _
  have n0 : w.heap.size ≠ g := by omega
  have n1 : w.heap.size + 1 ≠ g := by omega
  have n2 : w.heap.size + 1 + 1 ≠ g := by omega
  have n3 : w.heap.size + 2 ≠ g := by omega
  have m0 : w.heap.size ≠ bm := by omega
  have m1 : g ≠ bm := HD.out.apart.2.1
  have hSB : ∀ (x : World) (o : Obj) (b i : Nat) (v : Value), b ≠ bm → x.cell? ⟨b, i, none⟩ = some v → (setBlock x bm o).cell? ⟨b, i, none⟩ = some v := fun x o b i v hb h => ((Fr.refl [bm] x).setBlock (.inl (by simp)) o).cell (p := ⟨b, i, none⟩) (by simpa using hb) h
  have l2 := fun B => HL.out ((w.alloc (.cells #[.int .i64 (n : Int), .slice a ln c] 139)).alloc B).drew ((Below.heap_alloc _ _ _ (by simp; omega)).trans (Below.heap_alloc _ _ _ hbl))
  have l1 := HL.out (w.alloc (.cells #[.int .i64 (n : Int), .slice a ln c] 139)).drew (Below.heap_alloc _ _ _ hbl)
  go_region_held3 (fun w' => w'.cell? ⟨g, 3, none⟩ = some (.map (some bm)) ∧ w'.cell? ⟨w.heap.size, 0, none⟩ = some (.int .i64 (n : Int)) ∧ w'.cell? ⟨w.heap.size, 1, none⟩ = some (.slice a ln c)) (first | (go_keep; done) | (refine ⟨?_, ?_, ?_⟩ <;> first | (go_keep; done) | exact cell_dr (cell_dr (cell_l3 c3)) | exact cell_dr (cell_l3 c3)) | exact cell_dr (cell_dr (cell_l3 c3)) | exact cell_dr (cell_l3 c3) | (trace_state; fail)) (first | fail)
  all_goals
    have hP := HD.out.push (X := (((w.alloc (.cells #[.int .i64 (n : Int), .slice a ln c] 139)).alloc (.cells #[.slice a ln c] 46)).alloc (.cells (#[.slice a ln c] ++ Builtin.zeroCells #[.slice none 0 0] ((Question.appendCap 1 0 46).cut (w.tape (w.drawn + 1) (Question.appendCap 1 0 46)) - 1)) 46)).drew.drew) (((((Fr.refl [] w).alloc _).alloc _).alloc _).trans ((Fr.drew _).trans (Fr.drew _))) hn HK.out (q := w.heap.size + 1 + 1) (by omega) (new3d _ _ _ _) (cut_cap 1 0 46 (w.tape (w.drawn + 1) (Question.appendCap 1 0 46)) (by omega)) HM.out rfl
    have HP := Lib.hid hP
    clear hP hU l1 l2 hSB c3
    go_wp2
    go_end0
    exact ⟨rfl, by simpa using HP.out⟩
end Go.Proofs.YtcblfkojkdaepaaGreat
/- A region that draws its order, whose operations read and call quietly (the callees may draw) but for the last ones, which stand in one forced order: one walk serves. No condition but the one on the region's edges, which the kernel decides. -/
namespace Go.Proofs.YtcblfkojkdaepaaGreat
section
variable {P : Program} {ops : Array Oper} {md : Region.Mode} {C : World → Prop}

/-- However the next f operations of the head are picked: each is quiet, and L holds behind them. -/
def QHead (P : Program) (md : Region.Mode) (ops : Array Oper) (C : World → Prop) (n : Nat) (L : Array Bool → Act → Prop) : Nat → Array Bool → Act → Prop
  | 0, seen, a => L seen a
  | f + 1, seen, a => Region.ready md ops seen ≠ [] ∧ ∀ i, i ∈ Region.ready md ops seen → i < n ∧ qOp P ops C i (fun a' => QHead P md ops C n L f (seen.setIfInBounds i true) a') a

theorem any_of_head {n g : Nat} {L : Array Bool → Act → Prop} {Q : Exit → Act → World → Prop} (hL : ∀ seen a w, C w → L seen a → wpAny P md ops Q g seen a w) (f : Nat) :
    ∀ (seen : Array Bool) (a : Act) (w : World), C w → QHead P md ops C n L f seen a → wpAny P md ops Q (f + g) seen a w := by
  induction f with
  | zero => intro seen a w hw h; rw [Nat.zero_add]; exact hL _ _ _ hw h
  | succ f ih =>
    intro seen a w hw h
    have e : f + 1 + g = (f + g) + 1 := by omega
    rw [e]
    exact ⟨fun h0 => absurd h0 h.1, fun i hi => wpOp_of_qOp hw (fun a' w' hw' h' => ih _ a' w' hw' h') (h.2 i hi).2⟩

theorem head_first {n i : Nat} {oi : Oper} {v : Value} {L : Array Bool → Act → Prop} (hi : ops[i]? = some oi) (hsel : Region.noSelect ops = true)
    (hs : Region.sinkB md ops n = true) (hc : Region.chainB md ops n = true) (hn : n < ops.size) (hin : i < n)
    (hdone : ∀ seen a, L seen a → ∀ j, j ∈ Region.ready md ops seen → n ≤ j) (f : Nat) :
    ∀ (seen : Array Bool) (a : Act), HeadInv md ops n seen →
      (∀ j oj, ops[j]? = some oj → j ≠ i → seen.getD j true = false → (∀ e ∈ oj.after, Region.binds md e = true → e.on ≠ i) → oi.apart ops oj = true) →
      i ∈ Region.ready md ops seen → YieldsIn P ops C oi v a →
      QHead P md ops C n L f (seen.setIfInBounds i true) (a.put oi.dst v) → QHead P md ops C n L (f + 1) seen a := by
  induction f with
  | zero =>
    intro seen a inv _ hr hy H
    refine ⟨fun h => (by rw [h] at hr; cases hr), fun j hj => ?_⟩
    have hjn : j < n := Nat.lt_of_not_le fun h => tail_waits hs hc hn inv _ i rfl hin (mem_ready.1 hr).1 j h hj
    by_cases hji : j = i
    · subst hji; exact ⟨hjn, hy.qOp hi H⟩
    · exact absurd (hdone _ _ H j (ready_mono hj hji)) (by omega)
  | succ f ih =>
    intro seen a inv hfree hr hy H
    refine ⟨fun h => (by rw [h] at hr; cases hr), fun j hj => ?_⟩
    have hjn : j < n := Nat.lt_of_not_le fun h => tail_waits hs hc hn inv _ i rfl hin (mem_ready.1 hr).1 j h hj
    refine ⟨hjn, ?_⟩
    by_cases hji : j = i
    · subst hji; exact hy.qOp hi H
    · obtain ⟨hjun, oj, hoj, hall⟩ := mem_ready.1 hj
      have hun := (mem_ready.1 hr).1
      have hnot : ∀ e ∈ oj.after, Region.binds md e = true → e.on ≠ i := fun e he hb heq => by
        have h1 := hall e he hb
        rw [heq, getD_both hun] at h1
        cases h1
      have h1 := (H.2 j (ready_mono hj hji)).2
      have h2 := qOp_put hoj (hfree j oj hoj hji hjun hnot) (fun cs b => Region.noSelect_spec hsel i oi cs b hi) (fun cs b => Region.noSelect_spec hsel j oj cs b hoj) hy h1
      refine qOp_mono (fun a' h3 => ih (seen.setIfInBounds j true) a' (inv.set hj hjn) ?_ (ready_mono hr (Ne.symm hji)) h3.1 ?_) h2
      · intro k ok hk hki hun' hno
        refine hfree k ok hk hki ?_ hno
        by_cases hjk : j = k
        · subst hjk; exact hjun
        · rw [getD_set_ne true hjk] at hun'; exact hun'
      · rw [Array.setIfInBounds_comm _ _ hji]; exact h3.2

theorem head_lex {n g : Nat} {Lq : Act → Prop} (hsel : Region.noSelect ops = true) (hs : Region.sinkB md ops n = true) (hc : Region.chainB md ops n = true) (hn : n < ops.size) (l : List Oper) :
    ∀ (k : Nat) (seen : Array Bool) (a : Act), (∀ j, j < l.length → l[j]? = ops[k + j]?) → k + l.length = n → HeadInv md ops n seen →
    Region.lexHead md ops g l.length k seen = true → wpQuiet P ops C Lq l a →
    QHead P md ops C n (fun seen' a' => Region.seqB md ops g n seen' = true ∧ Lq a') l.length seen a := by
  induction l with
  | nil =>
    intro k seen a _ hk _ hB h
    obtain rfl : k = n := by simpa using hk
    exact ⟨by simpa [Region.lexHead] using hB, h⟩
  | cons o l ih =>
    intro k seen a hl hk inv hB h
    have h0 : ops[k]? = some o := by simpa using (hl 0 (by simp)).symm
    simp only [List.length_cons, Region.lexHead, Bool.and_eq_true] at hB
    obtain ⟨⟨hr, hf⟩, hB'⟩ := hB
    have hkn : k < n := by simp only [List.length_cons] at hk; omega
    have hr' : k ∈ Region.ready md ops seen := by simpa using hr
    have hst : qOp P ops C k (wpQuiet P ops C Lq l) a := by unfold qOp; simp only [h0]; exact h
    obtain ⟨v, hy, hK⟩ := yieldsIn_of_qOp h0 hst
    refine head_first h0 hsel hs hc hn hkn (fun seen' a' hL => seqB_ready hL.1) l.length seen a inv (Region.free_spec h0 hf) hr' hy ?_
    refine ih (k + 1) _ _ (fun j hj => ?_) (by simp only [List.length_cons] at hk; omega) (inv.set hr' hkn) hB' hK
    have := hl (j + 1) (by simp; omega)
    simpa [Nat.add_assoc, Nat.add_comm 1 j] using this

/-- One walk in the order of the text, the last operations from number n on behind it, in every world of the class. -/
theorem wp_region_qtail {id : Nat} {Q : Exit → Act → World → Prop} {a : Act} {w : World} {l : List Oper} (n : Nat) (hm : P.follows .mixedOrders = true) (hB : Region.lexTailB .any l.toArray n = true)
    (hC : C { w with drawn := w.drawn + 1 })
    (h : wpQuiet P l.toArray C (fun a' => ∀ w', C w' → wpList P l.toArray Q (l.drop n) a' w') (l.take n) a) : (Code.region id l.toArray true).wp P Q a w := by
  simp only [Region.lexTailB, Bool.and_eq_true, decide_eq_true_eq] at hB
  obtain ⟨⟨⟨⟨hsel, hn⟩, hs⟩, hc⟩, hlex⟩ := hB
  have hn' : n < l.length := by simpa using hn
  have htl : (l.take n).length = n := by simp; omega
  have hdl : (l.drop n).length = l.toArray.size - n := by simp
  have inv0 : HeadInv .any l.toArray n (Array.replicate l.toArray.size false) :=
    ⟨by simp, fun j oj _ hl => (by rw [getD_replicate_false] at hl; cases hl), fun t _ ht => getD_in (by simpa using ht) (getD_replicate_false _ _)⟩
  have H := head_lex (md := .any) (C := C) (g := l.toArray.size - n) hsel hs hc hn (l.take n) 0 _ a (fun j hj => by
    have hj' : j < n := by rw [htl] at hj; exact hj
    simp [hj']) (by simpa using htl) inv0 (by rw [htl]; exact hlex) h
  refine wp_region_any hm ?_
  have key := any_of_head (Q := Q) (g := l.toArray.size - n) (fun seen a' w' hw' hL => by
    have := wpAny_of_seq (md := .any) (Q' := Q) (l.drop n) n seen a' w' (fun j => by simp [List.getElem?_drop]) (by rw [hdl]; exact hL.1) (hL.2 w' hw')
    rwa [hdl] at this) _ _ _ _ hC H
  rw [htl, show n + (l.toArray.size - n) = l.toArray.size by omega] at key
  exact key

/-- The same, of worlds that are w but for draws. -/
theorem wp_region_qtail_lit {id : Nat} {Q : Exit → Act → World → Prop} {a : Act} {w : World} {l : List Oper} (n : Nat) (hm : P.follows .mixedOrders = true) (hB : Region.lexTailB .any l.toArray n = true)
    (h : wpQuiet P l.toArray (fun w' => ∃ k, w' = w.drewN k) (fun a' => ∀ w', (∃ k, w' = w.drewN k) → wpList P l.toArray Q (l.drop n) a' w') (l.take n) a) : (Code.region id l.toArray true).wp P Q a w :=
  wp_region_qtail (C := fun w' => ∃ k, w' = w.drewN k) n hm hB ⟨1, rfl⟩ h
end
end Go.Proofs.YtcblfkojkdaepaaGreat
/- The contract of flush.on. -/
namespace Go.Proofs.YtcblfkojkdaepaaGreat
open Go.RowKit Go.ChangeMaps

/-- A flush, L having come. -/
structure FlI (w wr : World) (bs bm r cl : Nat) (S : List Value) (T L : List Ent) : Prop where
  rng : Rng wr r bm cl T L
  row : ∃ cs, wr.heap[bs]? = some (.cells cs 46 (0, 0)) ∧ cs.toList.take S.length = flu S L ∧ S.length ≤ cs.size
  fr : Fr [bs] w wr
def FlR (w : World) (bs bm r cl : Nat) (S : List Value) (T : List Ent) (k : Nat) (wr : World) : Prop := ∃ L, FlI w wr bs bm r cl S T L ∧ toCome T L = k

theorem FlI.start {w : World} {g bs bm cl : Nat} {F O S : List Value} {T : List Ent} {A : Obj} (D : DiskAt w g bs bm F O S T) (hmap : w.heap[bm]? = some (.map (T.map Ent.obj).toArray cl)) :
    FlI w ((w.alloc A).alloc (.mapIter (some bm) cl #[] cl)) bs bm (w.heap.size + 1) cl S T [] := by
  have hF : Fr [bs] w ((w.alloc A).alloc (.mapIter (some bm) cl #[] cl)) := ((Fr.refl _ _).alloc _).alloc _
  have hF0 : Fr [] w ((w.alloc A).alloc (.mapIter (some bm) cl #[] cl)) := ((Fr.refl _ _).alloc _).alloc _
  obtain ⟨cs, r1, r2, r3⟩ := D.row
  obtain ⟨cl', m1, m2, m3⟩ := D.map
  rw [hmap] at m1
  simp only [Option.some.injEq, Obj.map.injEq] at m1
  obtain ⟨_, rfl⟩ := m1
  refine ⟨⟨?_, hF0.heap (by simp) hmap, m2, m3, by simp, ?_⟩, ⟨cs, hF0.heap (by simp) r1, by rw [flu_nil]; exact r2, r3⟩, hF⟩
  · have := heap_alloc_new (w.alloc A) (.mapIter (some bm) cl #[] cl)
    simpa using this
  · have := D.lt.2.2; omega
section
variable {w wr : World} {g bs bm r cl : Nat} {F O S : List Value} {T L : List Ent} (hr : w.heap.size < r)
include hr
theorem FlI.cell2 (I : FlI w wr bs bm r cl S T L) (D : DiskAt w g bs bm F O S T) {w' : World} (hF : Fr [r] wr w') {i : Nat} {v : Value} (h : w.cell? ⟨g, i, none⟩ = some v) : w'.cell? ⟨g, i, none⟩ = some v := by
  have h1 := I.fr.cell (p := ⟨g, i, none⟩) (by simpa using D.apart.1) h
  exact hF.cell (p := ⟨g, i, none⟩) (by have := D.lt.1; simp; omega) h1
theorem FlI.ent (I : FlI w wr bs bm r cl S T L) (D : DiskAt w g bs bm F O S T) (e : Ent) (he : e ∈ T) {w' : World} (hF : Fr [r] wr w') :
    ∃ b off cap, e.sl = .slice (some ⟨b, off, none⟩) 1 cap ∧ 1 ≤ cap ∧ b ∉ [g, bs, bm] ∧ b < w.heap.size ∧ w'.cell? ⟨b, off, none⟩ = some e.v := by
  rcases D.ents e he with ⟨_, h⟩ | ⟨b, off, cap, h1, h2, h3, h4, h5⟩
  · cases h
  · obtain ⟨_, _, hh4⟩ := h4
    have h4 := (Array.getElem?_eq_some_iff.1 hh4).1
    refine ⟨b, off, cap, h1, h2, h3, h4, ?_⟩
    have h6 := I.fr.cell (p := ⟨b, off + 0, none⟩) (by simp at h3 ⊢; exact h3.2.1) (h5 0 e.v rfl)
    exact hF.cell (p := ⟨b, off + 0, none⟩) (by simp; omega) h6
theorem FlI.slot (I : FlI w wr bs bm r cl S T L) (D : DiskAt w g bs bm F O S T) (e : Ent) (he : e ∈ T) {w' : World} (hF : Fr [r] wr w') :
    ∃ old, w'.cell? ⟨bs, e.k, none⟩ = some old ∧ w'.frozen? ⟨bs, e.k, none⟩ = false := by
  obtain ⟨cs, r1, r2, r3⟩ := I.row
  have hk := D.keyLt e he
  have hb := hF.heap (b := bs) (by have := D.lt.2.1; simp; omega) r1
  exact ⟨cs[e.k]'(by omega), by rw [cell_of_row w' bs e.k _ _ _ hb, Array.getElem?_eq_getElem], frozen_of_row w' bs _ _ _ hb⟩
theorem FlI.next (I : FlI w wr bs bm r cl S T L) (D : DiskAt w g bs bm F O S T) (e : Ent) (he : e ∈ T) (hnL : e ∉ L) {w' : World} (hR : Rng w' r bm cl T (L ++ [e])) (hF : Fr [r] wr w') (X : World) (hX : Fr [] w' X) :
    FlI w (X.setCell ⟨bs, e.k, none⟩ e.v) bs bm r cl S T (L ++ [e]) := by
  obtain ⟨cs, r1, r2, r3⟩ := I.row
  have hk := D.keyLt e he
  have hl := D.lt
  have hb := hX.heap (b := bs) (by simp) (hF.heap (b := bs) (by simp; omega) r1)
  have hS : Fr [bs] X (X.setCell ⟨bs, e.k, none⟩ e.v) := (Fr.refl _ _).setCell (.inl (by simp)) _
  have hXb : Fr [bs] w' X := hX.mono (by simp)
  refine ⟨(hR.fr hX (by simp) (by simp)).fr hS (by simp; omega) (by simpa using fun q => D.apart.2.2 q.symm), ⟨cs.setIfInBounds e.k e.v, heap_setCell_same _ _ _ _ _ _ hb, ?_, by simpa using r3⟩, ?_⟩
  · rw [flu_snoc S L e (fun x hx q => hnL (key_inj D.keys (I.rng.sub x hx) he q ▸ hx)), ← r2, Array.toList_setIfInBounds, List.take_set]
  · exact ((I.fr.then hF (fun x hx => .inr (by simp at hx; omega))).trans hXb).trans hS
omit hr in
theorem FlI.done (I : FlI w wr bs bm r cl S T L) (D : DiskAt w g bs bm F O S T) (hall : ∀ e ∈ T, e ∈ L) : Fr [bs, bm] w (setBlock wr bm (.map #[] cl)) ∧ DiskAt (setBlock wr bm (.map #[] cl)) g bs bm F O (flu S T) [] := by
  have hl := D.lt
  obtain ⟨a1, a2, a3⟩ := D.apart
  have hB : Fr [bm] wr (setBlock wr bm (.map #[] cl)) := (Fr.refl _ _).setBlock (.inl (by simp)) _
  have hG2 : Fr [bs, bm] w (setBlock wr bm (.map #[] cl)) := (I.fr.mono (fun k hk => .inl (by simp at hk; simp [hk]))).then hB (fun k hk => .inl (by simp at hk; simp [hk]))
  have hT : ∀ k ∈ [bs, bm], k ∈ [g, bs, bm] ∨ w.heap.size ≤ k := fun k hk => .inl (by simp at hk ⊢; omega)
  obtain ⟨fv, lv, sc, h1, h2, h3, h4⟩ := D.box
  obtain ⟨cs, r1, r2, r3⟩ := I.row
  refine ⟨hG2, ⟨fv, lv, sc, ?_, h2.fr hG2 hT, h3.fr hG2 hT, by rw [flu_length]; exact h4⟩, ⟨cs, hB.heap (by simpa using a3) r1, ?_, by rw [flu_length]; exact r3⟩, ⟨cl, ?_, by simp, by simp⟩, by simp, by simp, by rw [flu_length]; exact D.len, by simp, ?_, by simp, D.apart⟩
  · rw [flu_length]
    exact hG2.heap (by simp [a1, a2]) h1
  · rw [flu_length, r2, flu_all S L T I.rng.sub hall D.keys]
  · exact heap_setBlock I.rng.map
  · intro v hv
    rcases List.mem_append.1 hv with hv | hv
    · exact D.one v (List.mem_append_left _ hv)
    · rcases flu_mem hv with hv | ⟨e, he, rfl⟩
      · exact D.one v (List.mem_append_right _ hv)
      · exact D.oneE e he
end
set_option maxRecDepth 100000 in
set_option maxHeartbeats 1000000 in
theorem flushOn_any (w : World) {g bs bm : Nat} {F O S : List Value} {T : List Ent} (D : DiskAt w g bs bm F O S T) (_hS : S.length ≤ 4096) :
    Calls Tryz.prog 127 #[.agg #[], .pointer (some ⟨g, 2, none⟩)] w fun e w' => e = .returned (.tuple #[]) ∧ Fr [bs, bm] w w' ∧ DiskAt w' g bs bm F O (flu S T) [] := by
  obtain ⟨fv, lv, sc, hbox, _⟩ := D.box
  obtain ⟨cl, hmap, _⟩ := D.map
  obtain ⟨_, _, c2, c3⟩ := cells_disk hbox
  have hrg := fun A => run_range_map (P := Tryz.prog) (w.alloc A) 109 3 51 bm _ cl Tryz.underlying109 ((Below.heap_alloc w A bm D.lt.2.2).trans hmap)
  have HD := Lib.hid D; have HM := Lib.hid hmap; have HB := Lib.hid hbox
  have hgl : g < w.heap.size := D.lt.1
  have hbl : bm < w.heap.size := D.lt.2.2
  have n0 : w.heap.size ≠ g := by omega
  have n1 : w.heap.size + 1 ≠ g := by omega
  clear D hmap hbox
  go_enter Tryz.func127, Tryz.ntmps127
  go_wp2_with fail
  go_loopg [4] (toCome T []) (fun k _ wr => FlR w bs bm (w.heap.size + 1) cl S T k wr)
  case atStart =>
    exact ⟨[], FlI.start HD.out HM.out, rfl⟩
  case round =>
    obtain ⟨L, hI, hk⟩ := hrel
    have HI := Lib.hid hI
    have HK := Lib.hid hk
    clear hI hk
    go_wp2_with (refine wpList_next_ents rfl (.tmp 10) rfl rfl HI.out.rng ?c1 ?c2)
    case c1 =>
      intro hall
      have HA := Lib.hid hall
      have d3 : wr.cell? ⟨g, 3, none⟩ = some (.map (some bm)) := HI.out.fr.cell (p := ⟨g, 3, none⟩) (by simpa using HD.out.apart.1) c3
      have hcl := run_clear HI.out.rng.map
      clear hall hrg
      go_wp2
      go_end0
      exact ⟨rfl, FlI.done HI.out HD.out HA.out⟩
    case c2 =>
      intro e w' he hnL hR hF hlt hen
      obtain ⟨b, off, cap, hsl, hcap, hbo, hbl2, hbc⟩ := FlI.ent (by omega) HI.out HD.out e he hF
      have d2 := FlI.cell2 (by omega) HI.out HD.out hF c2
      obtain ⟨old, hold, hfz⟩ := FlI.slot (by omega) HI.out HD.out e he hF
      have HN := Lib.hid (@FlI.next _ _ _ _ _ _ _ _ _ _ _ _ (by omega) HI.out HD.out e he hnL _ hR hF)
      have i0 : (0 : Int) ≤ (e.k : Int) := by omega
      have i1 : (e.k : Int) < (S.length : Int) := by have := HD.out.keyLt e he; omega
      have i2 : e.k < S.length := by omega
      have nb : bs ≠ b := fun q => by subst q; simp at hbo
      have ng : bs ≠ g := fun q => HD.out.apart.1 q.symm
      obtain ⟨va, vn, vc, hve⟩ := HD.out.oneE e he
      have HT := Lib.hid hlt
      have hk0 : (1 : Int) ≤ cap := by omega
      clear hlt hR hF he hnL hbo hrg hcap
      obtain ⟨ek, esl, ev, eb⟩ := e
      dsimp only at *
      subst hsl
      subst hve
      go_wp2_with fail
      have hw0 : IntKind.i64.wrap 0 = 0 := rfl
      refine wp_region_qtail_lit 12 (by kernel_rfl) (by kernel_rfl) ?_
      simp only [List.take_succ_cons, List.take_zero, List.drop_succ_cons, List.drop_zero]
      repeat (quiet_step (fail))
      refine wpQuiet_nil ?_
      intro w2 hw2
      obtain ⟨nq, rfl⟩ := hw2
      have hold2 : (w'.drewN nq).cell? ⟨bs, ek, none⟩ = some old := hold
      have hfz2 : (w'.drewN nq).frozen? ⟨bs, ek, none⟩ = false := hfz
      go_wp2_with fail
      go_roundg (toCome T (L ++ [(⟨ek, .slice (some ⟨b, off, none⟩) 1 cap, .slice va vn vc, eb⟩ : Ent)]))
      case measure => have := HT.out; have := HK.out; omega
      case rel => exact ⟨_, HN.out _ (Fr.drewN _ _), rfl⟩
end Go.Proofs.YtcblfkojkdaepaaGreat
