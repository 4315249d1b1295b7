/- What tarfmt.Parse keeps between two rounds. -/
import Derived.Test.YtikhdbdbdldbaaaDoorAllP
import Derived.RangeFuncBox
import Derived.Maps.AppendAt
namespace Go.Proofs.YtikhdbdbdldbaaaDoor
open Go.RowKit Go.Shelf
attribute [local go_sem] Oper.semAt_some

theorem all_any (w : World) (a : Option Addr) (n c : Nat) :
    Calls Tryd.prog 30 #[.slice a n c] w fun e w' => e = .returned (.func (.func 44) #[] #[.pointer (some ⟨w.heap.size, 0, none⟩)]) ∧ w' = w.alloc (.cells #[.slice a n c] 23) := by
  go_enter Tryd.func30, Tryd.ntmps30
  go_wp2_with fail
  go_ret
  exact ⟨ret_eq (by simp), rfl⟩
theorem all1_stops (n : Nat) (hn : 2 ≤ n) (Bn : Nat) (w₀ w : World) (ad : Addr) (cb : Nat) (bl : List UInt8) (hrd : RdB w₀ (.slice (some ad) bl.length cb) bl) (hbl : bl.length ≤ 60000) (hcb : bl.length ≤ cb) (hcb2 : cb ≤ 9223372036854775807) (had : ad.spot = none)
    (hB : Below w₀.heap.size w₀ w) (hBn : w.heap[Bn]? = some (.cells #[.slice (some ad) bl.length cb] 23 (0, 0))) :
    SeqY Fence.wide n Tryd.prog 44 #[.pointer (some ⟨Bn, 0, none⟩)] encP (KpP w₀.heap.size) YP (fun xs => xs.map (·.1) = placesL bl (bl.length + 1) 0) (fun pre => pre.map (·.1) <+: placesL bl (bl.length + 1) 0) (bl.length + 1) w :=
  fun l J Jx W hW hJ hJx hY h0 => all1_in n hn l Bn w₀ ad cb bl hrd hbl hcb hcb2 had J Jx W hJ hJx hY (hB.trans (hW.mono hB.size)) ((hW.block _ (Array.getElem?_eq_some_iff.1 hBn).1).trans hBn) h0

/-- Entries' cells. -/
def esC (pre : List (PlD × Value)) : List Value := (pre.map (fun x => eC x.1.e x.2)).flatten
theorem esC_len (pre : List (PlD × Value)) : (esC pre).length = pre.length * 5 := by
  induction pre with
  | nil => rfl
  | cons x pre ih => simp only [esC, List.map_cons, List.flatten_cons, List.length_append] at ih ⊢; rw [ih]; simp [eC]; omega
theorem esC_snoc (pre : List (PlD × Value)) (x : PlD × Value) : esC (pre ++ [x]) = esC pre ++ eC x.1.e x.2 := by simp [esC]
theorem parseP_stop (ps : List PlD) (x : PlD) (rest : List PlD) : ∀ (out : List EntD), (∀ p ∈ ps, p.ok = true) → out.length + ps.length ≤ 256 → (x.ok = false ∨ out.length + ps.length = 256) → parseP (ps ++ x :: rest) out = ([], 3, x.at_) := by
  induction ps with
  | nil => intro out _ _ h; simp only [List.nil_append, parseP]; rw [if_pos (by simpa using h)]
  | cons p ps ih =>
    intro out h1 h2 h3
    simp only [List.cons_append, parseP]
    simp only [List.length_cons] at h2 h3
    rw [if_neg (by rw [h1 p (by simp)]; simp; omega)]
    exact ih _ (fun q hq => h1 q (by simp [hq])) (by simp; omega) (h3.imp id (fun h => by simp; omega))
theorem parseP_all (ps : List PlD) : ∀ (out : List EntD), (∀ p ∈ ps, p.ok = true) → out.length + ps.length ≤ 256 → parseP ps out = (out ++ ps.map (·.e), 0, 0) := by
  induction ps with
  | nil => intro out _ _; simp [parseP]
  | cons p ps ih =>
    intro out h1 h2
    simp only [List.length_cons] at h2
    simp only [parseP]
    rw [if_neg (by rw [h1 p (by simp)]; simp; omega), ih _ (fun q hq => h1 q (by simp [hq])) (by simp; omega)]
    simp
/-- Between two rounds. -/
structure ParI (w : World) (B : Nat) (pre : List (PlD × Value)) (W : World) : Prop where
  ok : ∀ x ∈ pre, x.1.ok = true
  le : pre.length ≤ 256
  row : ∃ v, Boxed W (B + 1 + 1 + 1) 22 v ∧ W.ownsRow B 31 5 v pre.length (esC pre)
  r0 : Boxed W B 22 (.slice none 0 0)
  r1 : Boxed W (B + 1) 24 (.int .i64 0)
  r2 : Boxed W (B + 1 + 1) 3 (.int .i64 0)
  data : ∀ x ∈ pre, YP x W
  below : Below w.heap.size w W
/-- A round that returned. -/
structure ParX (w : World) (B : Nat) (c : Code) (pre : List (PlD × Value)) (W : World) : Prop where
  ret : c = .ret
  how : ∃ p x, pre = p ++ [x] ∧ (∀ y ∈ p, y.1.ok = true) ∧ p.length ≤ 256 ∧ (x.1.ok = false ∨ p.length = 256) ∧ Boxed W (B + 1 + 1) 3 (.int .i64 (x.1.at_ : Int))
  r0 : Boxed W B 22 (.slice none 0 0)
  r1 : Boxed W (B + 1) 24 (.int .i64 3)
  below : Below w.heap.size w W
theorem box_turn {X Y : World} {row : Option Nat} {b : Nat} {t : TypeId} {v : Value} (h : Boxed X b t v) (hg : X.grownBy Y row) (hr : ∀ r, row = some r → ∃ o : Obj, X.heap[r]? = some o ∧ o.isCells = false) : Boxed Y b t v :=
  h.kept hg (fun e => by obtain ⟨o, ho, hc⟩ := hr b e.symm; rw [show X.heap[b]? = _ from h] at ho; cases ho; cases hc)
theorem owns_turn {X Y : World} {row : Option Nat} {B e size n : Nat} {v : Value} {xs : List Value} (h : X.ownsRow B e size v n xs) (hg : X.grownBy Y row) (hr : ∀ r, row = some r → ∃ o : Obj, X.heap[r]? = some o ∧ o.isCells = false) : Y.ownsRow B e size v n xs := by
  refine h.kept hg ?_
  rcases h.2 with ⟨rfl, _⟩ | ⟨g, cap, cur, rfl, _, hgb, _⟩
  · exact .inl rfl
  · refine .inr fun e' => ?_
    obtain ⟨o, ho, hc⟩ := hr g (by simpa [Value.ownBlock] using e'.symm)
    rw [hgb] at ho; cases ho; cases hc
theorem parI_own (w : World) (B B5 : Nat) (hB : w.heap.size ≤ B5) : OwnFrom B5 (ParI w B) := fun pre X Y row h hg hr => by
  have hr2 : ∀ r, row = some r → ∃ o : Obj, X.heap[r]? = some o ∧ o.isCells = false := fun r e => (hr r e).2
  obtain ⟨v, hv, hrow⟩ := h.row
  exact ⟨h.ok, h.le, ⟨v, box_turn hv hg hr2, owns_turn hrow hg hr2⟩, box_turn h.r0 hg hr2, box_turn h.r1 hg hr2, box_turn h.r2 hg hr2, fun x hx => owns_turn (h.data x hx) hg hr2, h.below.grown hg h.below.size (fun k e => Nat.le_trans hB (hr k e).1)⟩
theorem parX_own (w : World) (B B5 : Nat) (c : Code) (hB : w.heap.size ≤ B5) : OwnFrom B5 (ParX w B c) := fun pre X Y row h hg hr => by
  have hr2 : ∀ r, row = some r → ∃ o : Obj, X.heap[r]? = some o ∧ o.isCells = false := fun r e => (hr r e).2
  obtain ⟨p, x, h1, h2, h3, h4, h5⟩ := h.how
  exact ⟨h.ret, ⟨p, x, h1, h2, h3, h4, box_turn h5 hg hr2⟩, box_turn h.r0 hg hr2, box_turn h.r1 hg hr2, h.below.grown hg h.below.size (fun k e => Nat.le_trans hB (hr k e).1)⟩
theorem kpP_t {n₀ : Nat} {A B C : World} (h : KpP n₀ A B) (k : KpP n₀ B C) : KpP n₀ A C := ⟨h.1.trans k.1, h.2.trans k.2⟩
theorem kpP_b {n₀ : Nat} {w : World} (hn : n₀ ≤ w.heap.size) (W : World) (l : Nat) (o o' : Obj) (hl : w.heap.size ≤ l) (h : W.heap[l]? = some o) (hc : o.isCells = false) (hw : o.isWalk = false) : KpP n₀ W (W.putObj l o') :=
  ⟨belowK_b hn W l o o' hl h hc hw, fun k cs t fr hk _ => (World.putObj_heap_other (fun e => by subst e; rw [h] at hk; cases hk; cases hc)).trans hk⟩
theorem KB.alloc (W : World) (o : Obj) : KB W (W.alloc o) := fun k _ _ _ hk _ => (Below.heap_alloc W o k (Array.getElem?_eq_some_iff.1 hk).1).trans hk
theorem par_start (w : World) (a : Option Addr) (n c : Nat) :
    ParI w w.heap.size [] (((((w.alloc (.cells #[.slice none 0 0] 22)).alloc (.cells #[.int .i64 0] 24)).alloc (.cells #[.int .i64 0] 3)).alloc (.cells #[.slice none 0 0] 22)).alloc (.cells #[.slice a n c] 23)) ∧
    (((((w.alloc (.cells #[.slice none 0 0] 22)).alloc (.cells #[.int .i64 0] 24)).alloc (.cells #[.int .i64 0] 3)).alloc (.cells #[.slice none 0 0] 22)).alloc (.cells #[.slice a n c] 23)).heap.size = w.heap.size + 5 ∧
    (((((w.alloc (.cells #[.slice none 0 0] 22)).alloc (.cells #[.int .i64 0] 24)).alloc (.cells #[.int .i64 0] 3)).alloc (.cells #[.slice none 0 0] 22)).alloc (.cells #[.slice a n c] 23)).heap[w.heap.size + 1 + 1 + 1 + 1]? = some (.cells #[.slice a n c] 23 (0, 0)) := by
  obtain ⟨w1, h1⟩ : ∃ w1, w1 = w.alloc (.cells #[.slice none 0 0] 22) := ⟨_, rfl⟩
  obtain ⟨w2, h2⟩ : ∃ w2, w2 = w1.alloc (.cells #[.int .i64 0] 24) := ⟨_, rfl⟩
  obtain ⟨w3, h3⟩ : ∃ w3, w3 = w2.alloc (.cells #[.int .i64 0] 3) := ⟨_, rfl⟩
  obtain ⟨w4, h4⟩ : ∃ w4, w4 = w3.alloc (.cells #[.slice none 0 0] 22) := ⟨_, rfl⟩
  rw [← h1, ← h2, ← h3, ← h4]
  have s1 : w1.heap.size = w.heap.size + 1 := by rw [h1]; exact World.size_alloc ..
  have s2 : w2.heap.size = w.heap.size + 1 + 1 := by rw [h2, World.size_alloc, s1]
  have s3 : w3.heap.size = w.heap.size + 1 + 1 + 1 := by rw [h3, World.size_alloc, s2]
  have s4 : w4.heap.size = w.heap.size + 1 + 1 + 1 + 1 := by rw [h4, World.size_alloc, s3]
  have b1 : Boxed w1 w.heap.size 22 (.slice none 0 0) := by rw [h1]; exact Boxed.new w _ _
  have b2 : Boxed w2 (w.heap.size + 1) 24 (.int .i64 0) := by rw [← s1, h2]; exact Boxed.new w1 _ _
  have b3 : Boxed w3 (w.heap.size + 1 + 1) 3 (.int .i64 0) := by rw [← s2, h3]; exact Boxed.new w2 _ _
  have b4 : Boxed w4 (w.heap.size + 1 + 1 + 1) 22 (.slice none 0 0) := by rw [← s3, h4]; exact Boxed.new w3 _ _
  have hb : Below w.heap.size w (w4.alloc (.cells #[.slice a n c] 23)) := by
    rw [h4, h3, h2, h1]
    exact (((((Below.refl _ w).alloc (Nat.le_refl _) _).alloc (by simp) _).alloc (by simp; omega) _).alloc (by simp; omega) _).alloc (by simp; omega) _
  refine ⟨⟨fun x h => by simp at h, by simp, ⟨_, b4.alloc _, World.ownsRow_nil _ _ _ _⟩, ?_, ?_, ?_, fun x h => by simp at h, hb⟩, by rw [World.size_alloc, s4], ?_⟩
  · rw [h4, h3, h2]; exact (((b1.alloc _).alloc _).alloc _).alloc _
  · rw [h4, h3]; exact ((b2.alloc _).alloc _).alloc _
  · rw [h4]; exact (b3.alloc _).alloc _
  · rw [← s4]; exact heap_alloc_new w4 _
/-- The loop variable's box, and what is shown of it. -/
def AxP (w : World) (v0 : Value) (len : Int) (x : PlD × Value) (a' : Act) (W : World) : Prop :=
  ∃ Bx, W.heap[Bx]? = some (.cells #[.string (bs x.1.e.name), .int .i64 x.1.e.kind, .int .i64 x.1.e.mode, .string (bs x.1.e.link), x.2, .int .i64 (x.1.at_ : Int), .bool x.1.ok] 61 (0, 0)) ∧ YP x W ∧
    a' = { tmps := #[v0, undef, .pointer (some ⟨w.heap.size, 0, none⟩), .pointer (some ⟨w.heap.size + 1, 0, none⟩), .pointer (some ⟨w.heap.size + 1 + 1, 0, none⟩), .pointer (some ⟨w.heap.size + 1 + 1 + 1, 0, none⟩), .pointer (some ⟨Bx, 0, none⟩), v0, .int .i64 len, .bool false, v0,
      .func (.func 44) #[] #[.pointer (some ⟨w.heap.size + 1 + 1 + 1 + 1, 0, none⟩)], .agg #[.string (bs x.1.e.name), .int .i64 x.1.e.kind, .int .i64 x.1.e.mode, .string (bs x.1.e.link), x.2, .int .i64 (x.1.at_ : Int), .bool x.1.ok], undef, undef, undef, undef, undef, undef, undef, undef, undef, undef, undef, undef, undef, undef, undef, undef], defers := [] }
theorem axP_own (w : World) (v0 : Value) (len : Int) (B5 : Nat) (x : PlD × Value) (a' : Act) : OwnFrom B5 (fun (_ : Unit) W => AxP w v0 len x a' W) := fun _ X Y row ⟨Bx, h2, h3, h4⟩ hg hr => by
  have hr2 : ∀ r, row = some r → ∃ o : Obj, X.heap[r]? = some o ∧ o.isCells = false := fun r e => (hr r e).2
  exact ⟨Bx, (hg.block _ (Array.getElem?_eq_some_iff.1 h2).1 (fun e => by obtain ⟨o, ho, hc⟩ := hr2 Bx e.symm; rw [h2] at ho; cases ho; cases hc)).trans h2, owns_turn h3 hg hr2, h4⟩
theorem YP.slice {x : PlD} {dv : Value} {W : World} (h : YP (x, dv) W) : ∃ a c, dv = .slice a x.e.data.length c := by
  rcases h.2 with ⟨h1, h2⟩ | ⟨g, cap, cur, h1, _⟩
  · exact ⟨none, 0, by rw [show x.e.data.length = 0 from h2]; exact h1⟩
  · exact ⟨_, _, h1⟩
/-- A turn of blocks of other types leaves the boxes and rows that stay. -/
theorem own_kb {W W' : World} {v : Value} {D : List UInt8} (h : OwnB W 0 v D) (hk : KB W W') : OwnB W' 0 v D := by
  refine ⟨h.1, ?_⟩
  rcases h.2 with h | ⟨g, cap, cur, h1, h2, h3, h4⟩
  · exact .inl h
  · exact .inr ⟨g, cap, cur, h1, h2, hk _ _ _ _ h3 (.inl rfl), h4⟩
theorem KB.setCell {W : World} {g i : Nat} {cs : Array Value} {t : TypeId} {fr : Nat × Nat} (hp : W.heap[g]? = some (.cells cs t fr)) (h1 : t ≠ 5) (h2 : t ≠ 23) (v : Value) : KB W (W.setCell ⟨g, i, none⟩ v) := fun k cs' t' fr' hk ht => by
  refine (heap_setCell_other W ⟨g, i, none⟩ k v (fun e => ?_)).trans hk
  simp only at e
  subst e
  rw [hp] at hk
  simp only [Option.some.injEq, Obj.cells.injEq] at hk
  rcases ht with ht | ht
  · exact h1 (hk.2.1.trans ht)
  · exact h2 (hk.2.1.trans ht)
theorem KB.drew (W : World) : KB W W.drew := fun _ _ _ _ h _ => h
theorem KB.append {W W' : World} {B : Nat} {v : Value} {n : Nat} {xs : List Value} (h : W.ownsRow B 31 5 v n xs) (hg : W.grownBy W' v.ownBlock) : KB W W' := fun k cs t fr hk ht => by
  refine (hg.block k (Array.getElem?_eq_some_iff.1 hk).1 (fun e => ?_)).trans hk
  rcases h.2 with ⟨rfl, _⟩ | ⟨g, cap, cur, rfl, _, hgb, _⟩
  · simp [Value.ownBlock] at e
  · obtain rfl : k = g := by simpa [Value.ownBlock] using e
    rw [hgb] at hk
    simp only [Option.some.injEq, Obj.cells.injEq] at hk
    rcases ht with ht | ht
    · exact absurd (hk.2.1.trans ht) (by decide)
    · exact absurd (hk.2.1.trans ht) (by decide)
theorem info_entry : (Tryd.prog.info? 31).map (fun i => (i.zero, i.size, i.bytes)) = some (some (.agg #[.string ⟨#[]⟩, .int .i64 0, .int .i64 0, .string ⟨#[]⟩, .slice none 0 0]), 5, 72) := by kernel_rfl
theorem par_app {w : World} {pre : List (PlD × Value)} {x : PlD × Value} {W w1 : World} {v v' : Value} {tmp : Obj} (hi : ParI w w.heap.size pre W) (hok : x.1.ok = true) (h256 : pre.length < 256) (hy : YP x W)
    (hv : Boxed W (w.heap.size + 1 + 1 + 1) 22 v) (hrow : W.ownsRow w.heap.size 31 5 v pre.length (esC pre)) (hown : w1.ownsRow w.heap.size 31 5 v' (pre.length + 1) (esC pre ++ eC x.1.e x.2)) (hgrow : (W.alloc tmp).grownBy w1 v.ownBlock) (B5 : Nat) :
    KeepsFrom B5 W (w1.setCell ⟨w.heap.size + 1 + 1 + 1, 0, none⟩ v') ∧ KpP w.heap.size W (w1.setCell ⟨w.heap.size + 1 + 1 + 1, 0, none⟩ v') ∧ ParI w w.heap.size (pre ++ [x]) (w1.setCell ⟨w.heap.size + 1 + 1 + 1, 0, none⟩ v') := by
  obtain ⟨hv1, hv2, hr2, hk2, hb2⟩ := hv.appended (by decide) hrow hi.below.size (by omega) hown hgrow
  have hkb : KB W (w1.setCell ⟨w.heap.size + 1 + 1 + 1, 0, none⟩ v') := ((KB.alloc W tmp).trans (KB.append (hrow.alloc tmp) hgrow)).trans (KB.setCell hv1 (by decide) (by decide) v')
  have keep : ∀ (b : Nat) (t : TypeId) (u : Value), t ≠ 31 → b ≠ w.heap.size + 1 + 1 + 1 → Boxed W b t u → Boxed (w1.setCell ⟨w.heap.size + 1 + 1 + 1, 0, none⟩ v') b t u := fun b t u ht hb h =>
    ((h.alloc tmp).kept hgrow (h.not_row ht hrow)).other hb v'
  refine ⟨hk2.from _, ⟨hb2, hkb⟩, ⟨?_, by simp; omega, ⟨v', hv2, ?_⟩, keep _ _ _ (by decide) (by omega) hi.r0, keep _ _ _ (by decide) (by omega) hi.r1, keep _ _ _ (by decide) (by omega) hi.r2, ?_, hi.below.trans hb2⟩⟩
  · intro y hy2
    rcases List.mem_append.1 hy2 with h | h
    · exact hi.ok y h
    · simp at h; subst h; exact hok
  · rw [esC_snoc]; simpa using hr2
  · intro y hy2
    rcases List.mem_append.1 hy2 with h | h
    · exact own_kb (hi.data y h) hkb
    · simp at h; subst h; exact own_kb hy hkb
theorem par_bad {w : World} {pre : List (PlD × Value)} (x : PlD × Value) {W : World} (hi : ParI w w.heap.size pre W) (hx : x.1.ok = false ∨ pre.length = 256) (B5 : Nat) :
    KeepsFrom B5 W (((W.setCell ⟨w.heap.size, 0, none⟩ (.slice none 0 0)).setCell ⟨w.heap.size + 1, 0, none⟩ (.int .i64 3)).setCell ⟨w.heap.size + 1 + 1, 0, none⟩ (.int .i64 (x.1.at_ : Int))).drew ∧
    ParX w w.heap.size .ret (pre ++ [x]) (((W.setCell ⟨w.heap.size, 0, none⟩ (.slice none 0 0)).setCell ⟨w.heap.size + 1, 0, none⟩ (.int .i64 3)).setCell ⟨w.heap.size + 1 + 1, 0, none⟩ (.int .i64 (x.1.at_ : Int))).drew := by
  have a0 := hi.r0.set (.slice none 0 0)
  have a1 := (hi.r1.other (B' := w.heap.size) (by omega) (.slice none 0 0)).set (.int .i64 3)
  have a2 := ((hi.r2.other (B' := w.heap.size) (by omega) (.slice none 0 0)).other (B' := w.heap.size + 1) (by omega) (.int .i64 3)).set (.int .i64 (x.1.at_ : Int))
  have a0' := (a0.other (B' := w.heap.size + 1) (by omega) (.int .i64 3)).other (B' := w.heap.size + 1 + 1) (by omega) (.int .i64 (x.1.at_ : Int))
  have a1' := a1.other (B' := w.heap.size + 1 + 1) (by omega) (.int .i64 (x.1.at_ : Int))
  have hb := ((hi.below.setCell (p := ⟨w.heap.size, 0, none⟩) (Nat.le_refl _) (.slice none 0 0)).setCell (p := ⟨w.heap.size + 1, 0, none⟩) (by simp) (.int .i64 3)).setCell (p := ⟨w.heap.size + 1 + 1, 0, none⟩) (by simp; omega) (.int .i64 (x.1.at_ : Int))
  have hk := ((KeepsOthers.setCell W ⟨w.heap.size, 0, none⟩ (.slice none 0 0)).trans (KeepsOthers.setCell _ ⟨w.heap.size + 1, 0, none⟩ (.int .i64 3))).trans (KeepsOthers.setCell _ ⟨w.heap.size + 1 + 1, 0, none⟩ (.int .i64 (x.1.at_ : Int)))
  exact ⟨(hk.trans (KeepsOthers.drew _)).from _, rfl, ⟨pre, x, rfl, hi.ok, hi.le, hx, a2⟩, a0', a1', hb.trans ((below_drewN _ 1).mono hb.size)⟩
theorem results_par {fn : Func} (h : fn.results = #[.cell 2 22, .cell 3 24, .cell 4 3]) (tmps : Array Value) (W : World) (B : Nat) (v0 v1 v2 : Value) (p2 : tmps.getD 2 undef = .pointer (some ⟨B, 0, none⟩)) (p3 : tmps.getD 3 undef = .pointer (some ⟨B + 1, 0, none⟩)) (p4 : tmps.getD 4 undef = .pointer (some ⟨B + 1 + 1, 0, none⟩))
    (c0 : Boxed W B 22 v0) (c1 : Boxed W (B + 1) 24 v1) (c2 : Boxed W (B + 1 + 1) 3 v2) : (results fn tmps).run Tryd.prog W = .ok (.tuple #[v0, v1, v2]) W := by
  have q2 : tmps[2]?.getD undef = .pointer (some ⟨B, 0, none⟩) := by simpa using p2
  have q3 : tmps[3]?.getD undef = .pointer (some ⟨B + 1, 0, none⟩) := by simpa using p3
  have q4 : tmps[4]?.getD undef = .pointer (some ⟨B + 1 + 1, 0, none⟩) := by simpa using p4
  have d0 := c0.cell; have d1 := c1.cell; have d2 := c2.cell
  have l0 : (loadVar 22 ⟨B, 0, none⟩).run Tryd.prog W = .ok v0 W := by simp [go_sem, loadVar, d0]
  have l1 : (loadVar 24 ⟨B + 1, 0, none⟩).run Tryd.prog W = .ok v1 W := by simp [go_sem, loadVar, d1]
  have l2 : (loadVar 3 ⟨B + 1 + 1, 0, none⟩).run Tryd.prog W = .ok v2 W := by simp [go_sem, loadVar, d2]
  simp only [results, h]
  simp [Sem.run_bind, Result.andThen, q2, q3, q4, asAddr, l0, l1, l2]
theorem esC_at (xs : List (PlD × Value)) : ∀ (i : Nat) (x : PlD × Value) (j : Nat) (u : Value), xs[i]? = some x → (eC x.1.e x.2)[j]? = some u → (esC xs)[i * 5 + j]? = some u := by
  induction xs with
  | nil => intro i x j u h; simp at h
  | cons y xs ih =>
    intro i x j u h hj
    cases i with
    | zero =>
      simp at h
      subst h
      show (eC y.1.e y.2 ++ esC xs)[0 * 5 + j]? = _
      rw [List.getElem?_append_left (by have := (List.getElem?_eq_some_iff.1 hj).1; omega), Nat.zero_mul, Nat.zero_add]
      exact hj
    | succ i =>
      show (eC y.1.e y.2 ++ esC xs)[(i + 1) * 5 + j]? = _
      rw [List.getElem?_append_right (by simp [eC]; omega), show (i + 1) * 5 + j - (eC y.1.e y.2).length = i * 5 + j by simp [eC]; omega]
      exact ih i x j u (by simpa using h) hj
theorem rdEs_of {W : World} {B : Nat} {v : Value} {xs : List (PlD × Value)} (h : W.ownsRow B 31 5 v xs.length (esC xs)) (hd : ∀ x ∈ xs, YP x W) : RdEs W v (xs.map (·.1.e)) := by
  rcases h.2 with ⟨rfl, h0⟩ | ⟨g, cap, cur, rfl, _, hg, hn, hm, hcs, htk⟩
  · obtain rfl : xs = [] := by simpa using h0
    exact RdEs.nil W
  · refine ⟨some ⟨g, 0, none⟩, cap, by simp, by simpa using hn, Nat.le_trans hm (by simp [maxLen]), fun i e hi => ?_⟩
    rw [List.getElem?_map] at hi
    cases hx : xs[i]? with
    | none => rw [hx] at hi; cases hi
    | some x =>
      rw [hx] at hi
      simp only [Option.map_some, Option.some.injEq] at hi
      subst hi
      refine ⟨g, 0, x.2, rfl, fun j u hj => ?_, RdV_of_owns (hd x (List.mem_of_getElem? hx))⟩
      have h1 := esC_at xs i x j u hx hj
      rw [← htk] at h1
      rw [cell_of_row W g _ _ _ _ hg, Nat.zero_add]
      rw [List.getElem?_take] at h1
      split at h1
      · simpa using h1
      · cases h1
theorem parseL_done {bl : List UInt8} {xs : List (PlD × Value)} (hbl : bl.length ≤ 60000) (hs : xs.map (·.1) = placesL bl (bl.length + 1) 0) (hok : ∀ x ∈ xs, x.1.ok = true) (hle : xs.length ≤ 256) : parseL bl = (xs.map (·.1.e), 0, 0) := by
  unfold parseL
  rw [if_neg (by omega), ← hs, parseP_all _ [] (fun p hp => by obtain ⟨x, hx, rfl⟩ := List.mem_map.1 hp; exact hok x hx) (by simpa using hle)]
  simp
theorem parseL_stop {bl : List UInt8} {p : List (PlD × Value)} {x : PlD × Value} (hbl : bl.length ≤ 60000) (hs : (p ++ [x]).map (·.1) <+: placesL bl (bl.length + 1) 0) (hok : ∀ y ∈ p, y.1.ok = true) (hle : p.length ≤ 256) (hx : x.1.ok = false ∨ p.length = 256) : parseL bl = ([], 3, x.1.at_) := by
  obtain ⟨t, ht⟩ := hs
  unfold parseL
  rw [if_neg (by omega), ← ht]
  simp only [List.map_append, List.map_cons, List.map_nil, List.append_assoc, List.cons_append, List.nil_append]
  exact parseP_stop _ _ _ _ (fun q hq => by obtain ⟨y, hy, rfl⟩ := List.mem_map.1 hq; exact hok y hy) (by simpa using hle) (by simpa using hx)
theorem box_putObj {W : World} {b : Nat} {t : TypeId} {v : Value} (h : Boxed W b t v) {D : Nat} {o : Obj} (hK : W.heap[D]? = some o) (ho : o.isCells = false) (o' : Obj) : Boxed (W.putObj D o') b t v :=
  box_turn h (grownBy_putObj' W D o') (fun r e => by cases e; exact ⟨o, hK, ho⟩)
theorem par_done {w : World} {xs : List (PlD × Value)} {v : Value} {W : World} (hi : ParI w w.heap.size xs W) (hrow : W.ownsRow w.heap.size 31 5 v xs.length (esC xs)) {D : Nat} (hD : w.heap.size ≤ D) (hK : W.heap[D]? = some (.deferred (some []))) (o : Obj) :
    ∃ W3, W3 = (((W.setCell ⟨w.heap.size, 0, none⟩ v).setCell ⟨w.heap.size + 1, 0, none⟩ (.int .i64 0)).setCell ⟨w.heap.size + 1 + 1, 0, none⟩ (.int .i64 0)) ∧ W3.heap[D]? = some (.deferred (some [])) ∧
      Boxed (W3.putObj D o) w.heap.size 22 v ∧ Boxed (W3.putObj D o) (w.heap.size + 1) 24 (.int .i64 0) ∧ Boxed (W3.putObj D o) (w.heap.size + 1 + 1) 3 (.int .i64 0) ∧ RdEs (W3.putObj D o) v (xs.map (·.1.e)) ∧ Below w.heap.size w (W3.putObj D o) := by
  refine ⟨_, rfl, ?_⟩
  have a0 := hi.r0.set v
  have a1 := (hi.r1.other (B' := w.heap.size) (by omega) v).set (.int .i64 0)
  have a2 := ((hi.r2.other (B' := w.heap.size) (by omega) v).other (B' := w.heap.size + 1) (by omega) (.int .i64 0)).set (.int .i64 0)
  have a0' := (a0.other (B' := w.heap.size + 1) (by omega) (.int .i64 0)).other (B' := w.heap.size + 1 + 1) (by omega) (.int .i64 0)
  have a1' := a1.other (B' := w.heap.size + 1 + 1) (by omega) (.int .i64 0)
  have hb := ((hi.below.setCell (p := ⟨w.heap.size, 0, none⟩) (Nat.le_refl _) v).setCell (p := ⟨w.heap.size + 1, 0, none⟩) (by simp) (.int .i64 0)).setCell (p := ⟨w.heap.size + 1 + 1, 0, none⟩) (by simp; omega) (.int .i64 0)
  have hk := (((KeepsOthers.setCell W ⟨w.heap.size, 0, none⟩ v).trans (KeepsOthers.setCell _ ⟨w.heap.size + 1, 0, none⟩ (.int .i64 0))).trans (KeepsOthers.setCell _ ⟨w.heap.size + 1 + 1, 0, none⟩ (.int .i64 0))).same D _ hK rfl
  have b1 := hi.r1.other (B' := w.heap.size) (by omega) v
  have b2 := (hi.r2.other (B' := w.heap.size) (by omega) v).other (B' := w.heap.size + 1) (by omega) (.int .i64 0)
  have h1 := hrow.kept (grownBy_setCell' W w.heap.size v) (.inr (hi.r0.not_row (by decide) hrow).symm)
  have h2 := h1.kept (grownBy_setCell' _ (w.heap.size + 1) (.int .i64 0)) (.inr (b1.not_row (by decide) h1).symm)
  have h3 := h2.kept (grownBy_setCell' _ (w.heap.size + 1 + 1) (.int .i64 0)) (.inr (b2.not_row (by decide) h2).symm)
  have hkb := ((KB.setCell (i := 0) hi.r0 (by decide) (by decide) v).trans (KB.setCell (i := 0) b1 (by decide) (by decide) (.int .i64 0))).trans (KB.setCell (i := 0) b2 (by decide) (by decide) (.int .i64 0))
  refine ⟨hk, box_putObj a0' hk rfl o, box_putObj a1' hk rfl o, box_putObj a2 hk rfl o, rdEs_of (ownsRow_putObj h3 o hk rfl) (fun x hx => owns_turn (own_kb (hi.data x hx) hkb) (grownBy_putObj' _ D o) (fun r e => by cases e; exact ⟨_, hk, rfl⟩)), hb.grown (grownBy_putObj' _ D o) hb.size (fun k e => by cases e; exact hD)⟩
end Go.Proofs.YtikhdbdbdldbaaaDoor
