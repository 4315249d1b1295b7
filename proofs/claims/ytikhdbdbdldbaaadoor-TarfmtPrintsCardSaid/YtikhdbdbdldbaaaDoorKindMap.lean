/- The map literal of tarfmt.read: the kinds' signs. -/
import Derived.Test.YtikhdbdbdldbaaaDoorParLaw
import Derived.Test.YtikhdbdbdldbaaaDoorBase
import Derived.MapKept
import Derived.Carry
namespace Go.Proofs.YtikhdbdbdldbaaaDoor
open Go.RowKit Go.MapKept

theorem heap_new (W : World) (o : Obj) : (W.alloc o).heap[W.heap.size]? = some o := by
  show (W.heap.push o)[W.heap.size]? = some o
  simp
theorem upd_new (W : World) (es : Array MapEntry) (cl : Nat) (k v : Int) (h : Instr.findNow (.int .u8) (.int .u8 k) es.toList 0 = some none) :
    (Instr.mapUpdate 81 (.map (some W.heap.size)) (.int .u8 k) (.int .i64 v)).run Tryd.prog (W.alloc (.map es cl)) = .ok () (W.alloc (.map (es.push { key := .int .u8 k, val := .int .i64 v, born := cl }) (cl + 1))) := by
  have hk : IsKey (.int .u8) (.int .u8 k) := by simp [IsKey]
  have hb : (W.alloc (.map es cl)).heap[W.heap.size]? = some (.map es cl) := heap_new W _
  have hs := run_setObj_map (P := Tryd.prog) (.map (es.push { key := .int .u8 k, val := .int .i64 v, born := cl }) (cl + 1)) hb
  simp only [Instr.mapUpdate, Sem.run_bind, run_underlying Tryd.underlying81, Result.andThen, Go.MapKept.run_getObj_map hb, run_checkKey Tryd.underlying5 hk, run_findKey Tryd.underlying5 h]
  rw [hs]
  have e : ((W.alloc (.map es cl)).heap.setIfInBounds W.heap.size (.map (es.push { key := .int .u8 k, val := .int .i64 v, born := cl }) (cl + 1))) = (W.alloc (.map (es.push { key := .int .u8 k, val := .int .i64 v, born := cl }) (cl + 1))).heap := by
    show (W.heap.push _).setIfInBounds W.heap.size _ = W.heap.push _
    apply Array.ext
    · simp
    · intro i h1 h2
      rw [Array.getElem_setIfInBounds (by simpa using h1)]
      split
      · subst_vars; simp
      · rw [Array.getElem_push, Array.getElem_push]
        split
        · rfl
        · simp at h2; omega
  rw [e]
  rfl
def kE (k v : Int) (b : Nat) : MapEntry := { key := .int .u8 k, val := .int .i64 v, born := b }
def kM5 : Array MapEntry := #[kE 48 1 0, kE 0 1 1, kE 49 4 2, kE 50 3 3, kE 53 2 4]
theorem km1 (W : World) : (Instr.mapUpdate 81 (.map (some W.heap.size)) (.int .u8 48) (.int .i64 1)).run Tryd.prog (W.alloc (.map #[] 0)) = .ok () (W.alloc (.map #[kE 48 1 0] 1)) := upd_new W _ _ _ _ rfl
theorem km2 (W : World) : (Instr.mapUpdate 81 (.map (some W.heap.size)) (.int .u8 0) (.int .i64 1)).run Tryd.prog (W.alloc (.map #[kE 48 1 0] 1)) = .ok () (W.alloc (.map #[kE 48 1 0, kE 0 1 1] 2)) := upd_new W _ _ _ _ rfl
theorem km3 (W : World) : (Instr.mapUpdate 81 (.map (some W.heap.size)) (.int .u8 49) (.int .i64 4)).run Tryd.prog (W.alloc (.map #[kE 48 1 0, kE 0 1 1] 2)) = .ok () (W.alloc (.map #[kE 48 1 0, kE 0 1 1, kE 49 4 2] 3)) := upd_new W _ _ _ _ rfl
theorem km4 (W : World) : (Instr.mapUpdate 81 (.map (some W.heap.size)) (.int .u8 50) (.int .i64 3)).run Tryd.prog (W.alloc (.map #[kE 48 1 0, kE 0 1 1, kE 49 4 2] 3)) = .ok () (W.alloc (.map #[kE 48 1 0, kE 0 1 1, kE 49 4 2, kE 50 3 3] 4)) := upd_new W _ _ _ _ rfl
theorem km5 (W : World) : (Instr.mapUpdate 81 (.map (some W.heap.size)) (.int .u8 53) (.int .i64 2)).run Tryd.prog (W.alloc (.map #[kE 48 1 0, kE 0 1 1, kE 49 4 2, kE 50 3 3] 4)) = .ok () (W.alloc (.map kM5 5)) := upd_new W _ _ _ _ rfl
theorem km_look (W : World) (x : UInt8) : (Instr.lookup 81 (.map (some W.heap.size)) (.int .u8 ((x.toNat : Nat) : Int)) false).run Tryd.prog (W.alloc (.map kM5 5)) = .ok (.int .i64 (kindL x)) (W.alloc (.map kM5 5)) := by
  have hk : IsKey (.int .u8) (.int .u8 ((x.toNat : Nat) : Int)) := by simp [IsKey]
  have hb : (W.alloc (.map kM5 5)).heap[W.heap.size]? = some (.map kM5 5) := heap_new W _
  have hx : ∀ (y : UInt8) (n : Nat), y.toNat = n → (x = y ↔ x.toNat = n) := fun y n hn => ⟨fun h => by rw [h, hn], fun h => UInt8.toNat_inj.1 (by rw [h, hn])⟩
  have hkl : kindL x = if x.toNat = 48 ∨ x.toNat = 0 then 1 else if x.toNat = 49 then 4 else if x.toNat = 50 then 3 else if x.toNat = 53 then 2 else 0 := by
    unfold kindL
    simp only [hx 48 48 rfl, hx 0 0 rfl, hx 49 49 rfl, hx 50 50 rfl, hx 53 53 rfl]
  rw [hkl]
  generalize x.toNat = q at *
  have go : ∀ (r : Option (Nat × Value)) (z : Int), Instr.findNow (.int .u8) (.int .u8 (q : Int)) kM5.toList 0 = some r → ((match r with | some (_, v) => v | none => .int .i64 0) = (.int .i64 z : Value)) → 
      (Instr.lookup 81 (.map (some W.heap.size)) (.int .u8 (q : Int)) false).run Tryd.prog (W.alloc (.map kM5 5)) = .ok (.int .i64 z) (W.alloc (.map kM5 5)) := by
    intro r z hf hz
    simp only [Instr.lookup, Sem.run_bind, run_underlying Tryd.underlying81, Result.andThen, Go.MapKept.run_getObj_map hb, Sem.run_pure, run_checkKey Tryd.underlying5 hk, run_findKey Tryd.underlying5 hf]
    cases r with
    | none => simp only [Sem.run_bind, Result.andThen, Tryd.zeroValue29, Sem.run_pure]; simp at hz ⊢; exact hz
    | some p => simp at hz ⊢; exact hz
  have nk : ∀ (n : Nat) (m : Int), m = (n : Int) → q ≠ n → ((q : Int) == m) = false := by intro n m hm h; subst hm; simp; omega
  by_cases h1 : q = 48
  · subst h1; exact go (some (0, .int .i64 1)) _ rfl rfl
  by_cases h2 : q = 0
  · subst h2; exact go (some (1, .int .i64 1)) _ rfl rfl
  by_cases h3 : q = 49
  · subst h3; exact go (some (2, .int .i64 4)) _ rfl rfl
  by_cases h4 : q = 50
  · subst h4; exact go (some (3, .int .i64 3)) _ rfl rfl
  by_cases h5 : q = 53
  · subst h5; exact go (some (4, .int .i64 2)) _ rfl rfl
  rw [if_neg (by omega), if_neg h3, if_neg h4, if_neg h5]
  refine go none 0 ?_ rfl
  simp only [kM5, kE, Instr.findNow, Instr.sameNow, if_true, nk 48 48 rfl h1, nk 0 0 rfl h2, nk 49 49 rfl h3, nk 50 50 rfl h4, nk 53 53 rfl h5]
theorem wpList_ins {ops : Array Oper} {rest : List Oper} {o : Oper} {a : Act} {w : World} {Q : Exit → Act → World → Prop} (hgd : o.guard = none) (hd : o.dst = none) (m : Operand) (k v : Int)
    (ho : o.op = .insert 81 m (.const (.int .u8 k)) (.const (.int .i64 v))) (r : Nat) (hm : a.eval m = .map (some r)) (w2 : World)
    (hrun : (Instr.mapUpdate 81 (.map (some r)) (.int .u8 k) (.int .i64 v)).run Tryd.prog w = .ok () w2)
    (h : wpList Tryd.prog ops Q rest a w2) : wpList Tryd.prog ops Q (o :: rest) a w :=
  wpList_plain hgd fun _ hK => by
    unfold Oper.wp execOp
    simp only [ho, hm, show a.eval (.const (.int .u8 k)) = .int .u8 k from rfl, show a.eval (.const (.int .i64 v)) = .int .i64 v from rfl, Sem.run_bind, hrun, Result.andThen, Sem.run_pure]
    have := hK _ _ h
    rw [Oper.upon_skip, hd]
    exact this
/-- The literal's six operations. -/
theorem wpList_kinds {ops : Array Oper} {rest : List Oper} {o0 o1 o2 o3 o4 o5 : Oper} {a : Act} {w : World} {Q : Exit → Act → World → Prop} (t : Tmp) (ht : t < a.tmps.size)
    (g0 : o0.guard = none) (h0 : o0.op = .makeMap 81 none) (d0 : o0.dst = some t)
    (g1 : o1.guard = none) (h1 : o1.op = .insert 81 (.tmp t) (.const (.int .u8 48)) (.const (.int .i64 1))) (d1 : o1.dst = none)
    (g2 : o2.guard = none) (h2 : o2.op = .insert 81 (.tmp t) (.const (.int .u8 0)) (.const (.int .i64 1))) (d2 : o2.dst = none)
    (g3 : o3.guard = none) (h3 : o3.op = .insert 81 (.tmp t) (.const (.int .u8 49)) (.const (.int .i64 4))) (d3 : o3.dst = none)
    (g4 : o4.guard = none) (h4 : o4.op = .insert 81 (.tmp t) (.const (.int .u8 50)) (.const (.int .i64 3))) (d4 : o4.dst = none)
    (g5 : o5.guard = none) (h5 : o5.op = .insert 81 (.tmp t) (.const (.int .u8 53)) (.const (.int .i64 2))) (d5 : o5.dst = none)
    (R : World → Prop) (hR : R w)
    (h : ∀ (W : World) (r : Nat) (W2 : World), R W → r = W.heap.size → W2 = W.alloc (.map kM5 5) → wpList Tryd.prog ops Q rest (a.put (some t) (.map (some r))) W2) : wpList Tryd.prog ops Q (o0 :: o1 :: o2 :: o3 :: o4 :: o5 :: rest) a w := by
  have hm : (a.put (some t) (.map (some w.heap.size))).eval (.tmp t) = .map (some w.heap.size) := by
    simp [Act.eval, Act.put, ht]
  have hlast := h w w.heap.size _ hR rfl rfl
  refine wpList_plain g0 fun _ hK => ?_
  unfold Oper.wp execOp
  simp only [h0, Option.map_none, Sem.run_bind, run_makeMap, Result.andThen, Sem.run_pure]
  rw [Oper.upon_value, d0]
  refine hK _ _ ?_
  refine wpList_ins g1 d1 _ _ _ h1 _ hm _ (km1 w) ?_
  refine wpList_ins g2 d2 _ _ _ h2 _ hm _ (km2 w) ?_
  refine wpList_ins g3 d3 _ _ _ h3 _ hm _ (km3 w) ?_
  refine wpList_ins g4 d4 _ _ _ h4 _ hm _ (km4 w) ?_
  refine wpList_ins g5 d5 _ _ _ h5 _ hm _ (km5 w) ?_
  exact hlast
end Go.Proofs.YtikhdbdbdldbaaaDoor
