/- Small laws on rows of bytes of one's own. -/
import Derived.Test.YtikhdbdbdldbaaaDoorBase
import Derived.Test.YtikhdbdbdldbaaaDoorCopy
import Derived.Deep.MidRow
import Derived.Lib.AppendStr
import Derived.ArgAppend
import Derived.Laws.BytesArg
import Derived.Laws.CopyOwn
namespace Go.Proofs.YtikhdbdbdldbaaaDoor
open Go.RowKit

theorem rd_one (w : World) (u : Value) (t : TypeId) : RdV (w.alloc (.cells #[u] t)) (.slice (some ⟨w.heap.size, 0, none⟩) 1 1) [u] := by
  refine .inr ⟨⟨w.heap.size, 0, none⟩, 1, rfl, by simp, fun j x hj => ⟨w.heap.size, 0, rfl, ?_⟩⟩
  have h := cell_of_row (w.alloc (.cells #[u] t)) w.heap.size (0 + j) #[u] t (0, 0) (heap_alloc_new w _)
  rw [h]
  simpa using hj
theorem grown_of_below {w w' : World} (h : Below w.heap.size w w') (row : Option Nat) : w.grownBy w' row :=
  ⟨h.os, h.tape, h.output, h.size, fun k hk _ => h.block k hk⟩
/-- A block of another type than bytes stays as it is, whatever is appended to a row of bytes. -/
theorem own_apart {w : World} {B : Nat} {v : Value} {n : Nat} {xs : List Value} (h : w.ownsRow B 5 1 v n xs) {b t : Nat} {cs : Array Value} {fr : Nat × Nat} (hr : w.heap[b]? = some (.cells cs t fr)) (ht : t ≠ 5) :
    v.ownBlock ≠ some b := by
  obtain ⟨_, h⟩ := h
  rcases h with ⟨rfl, _⟩ | ⟨g, cap, cur, rfl, _, hg, _⟩
  · simp [Value.ownBlock]
  · intro e
    simp only [Value.ownBlock, Option.some.injEq] at e
    subst e
    rw [hg] at hr
    simp only [Option.some.injEq, Obj.cells.injEq] at hr
    exact ht hr.2.1.symm
theorem row_grown {w w' : World} {B : Nat} {v : Value} {n : Nat} {xs : List Value} (h : w.ownsRow B 5 1 v n xs) (hg : w.grownBy w' v.ownBlock) {b t : Nat} {cs : Array Value} {fr : Nat × Nat} (hr : w.heap[b]? = some (.cells cs t fr)) (ht : t ≠ 5) :
    w'.heap[b]? = some (.cells cs t fr) := by
  rw [← hr]
  exact hg.block b (Array.getElem?_eq_some_iff.1 hr).1 (fun e => own_apart h hr ht e.symm)
theorem own_below {w w' : World} {B : Nat} {v : Value} {n : Nat} {xs : List Value} (h : w.ownsRow B 5 1 v n xs) (hb : Below w.heap.size w w') : w'.ownsRow B 5 1 v n xs :=
  World.ownsRow.kept (row := none) h (grown_of_below hb none) (by cases h : v.ownBlock with | none => exact .inl rfl | some g => exact .inr (by simp))
/-- A new row of bytes is one's own. -/
theorem own_new (w : World) (B : Nat) (hB : B ≤ w.heap.size) (xs : List Value) (cs : Array Value) (hcs : cs = xs.toArray) (n : Nat) (hn : n = xs.length) (hm : n ≤ maxLen) :
    (w.alloc (.cells cs 5)).ownsRow B 5 1 (.slice (some ⟨w.heap.size, 0, none⟩) n n) n xs := by
  subst hcs; subst hn
  refine ⟨by simp, .inr ⟨w.heap.size, xs.length, xs.toArray, rfl, hB, heap_alloc_new w _, Nat.le_refl _, hm, by simp, by simp⟩⟩
theorem own_grow_below {w w' : World} {C : Nat} {v : Value} {n : Nat} {xs : List Value} {B : Nat} (h : w.ownsRow B 5 1 v n xs) (hg : w.grownBy w' v.ownBlock) (hC : C ≤ w.heap.size) (hB : C ≤ B) : Below C w w' :=
  below_grown hg hC (fun k hk => by have := (World.ownsRow.lt h k hk).1; omega)

theorem range_below {w w' : World} {b o : Nat} {cs : List Value} (h : w.rangeAt b o cs) (hb : Below w.heap.size w w') : w'.rangeAt b o cs := fun j v hj => by
  have h1 := h j v hj
  exact (hb.cell (p := ⟨b, o + j, none⟩) (block_lt_of_cell h1)).trans h1
theorem row_range {w : World} {b t : Nat} {cs : List Value} {fr : Nat × Nat} (h : w.heap[b]? = some (.cells cs.toArray t fr)) : w.rangeAt b 0 cs := fun j v hj => by
  rw [cell_of_row w b (0 + j) _ _ _ h, Nat.zero_add]; simpa using hj
theorem own_from {w : World} {B B' : Nat} {v : Value} {n : Nat} {xs : List Value} (h : w.ownsRow B 5 1 v n xs) (hB : B' ≤ B) : w.ownsRow B' 5 1 v n xs := by
  obtain ⟨h1, h2⟩ := h
  refine ⟨h1, ?_⟩
  rcases h2 with h2 | ⟨g, cap, cur, hv, hg, rest⟩
  · exact .inl h2
  · exact .inr ⟨g, cap, cur, hv, by omega, rest⟩
/-- A row of bytes of one's own. -/
def OwnB (w : World) (B : Nat) (v : Value) (l : List UInt8) : Prop := w.ownsRow B 5 1 v l.length (l.map vB)
/-- A row of bytes of one's own, or one that is full. -/
def OutB (w : World) (B : Nat) (v : Value) (l : List UInt8) : Prop :=
  OwnB w B v l ∨ ∃ g, v = .slice (some ⟨g, 0, none⟩) l.length l.length ∧ B ≤ g ∧ RdB w v l
/-- The blocks of other types are as they were. -/
def ApartB (w w' : World) : Prop := ∀ (b : Nat) (cs : Array Value) (t : TypeId) (fr : Nat × Nat), t ≠ 5 → w.heap[b]? = some (.cells cs t fr) → w'.heap[b]? = some (.cells cs t fr)
theorem OutB.rd {w : World} {B : Nat} {v : Value} {l : List UInt8} (h : OutB w B v l) : RdB w v l := by
  rcases h with h | ⟨g, _, _, h⟩
  · exact RdV_of_owns h
  · exact h
theorem OutB.below {w w' : World} {B : Nat} {v : Value} {l : List UInt8} (h : OutB w B v l) (hb : Below w.heap.size w w') : OutB w' B v l := by
  rcases h with h | ⟨g, h1, h2, h⟩
  · exact .inl (own_below h hb)
  · exact .inr ⟨g, h1, h2, RdV.below h hb⟩
theorem ApartB.of_below {w w' : World} (h : Below w.heap.size w w') : ApartB w w' := fun b _ _ _ _ hr => (h.block b (Array.getElem?_eq_some_iff.1 hr).1).trans hr
theorem info_byte : (Tryd.prog.info? 5).map (fun i => (i.zero, i.size, i.bytes)) = some (some (.int .u8 0), 1, 1) := by kernel_rfl
/-- 'append(out, s...)', s not empty. -/
theorem wpList_out {w : World} {ops : Array Oper} {rest : List Oper} {o : Oper} {a : Act} {Q : Exit → Act → World → Prop} (hgd : o.guard = none) (s x : Operand)
    (ho : o.op = .call { callee := .builtin .append, args := #[s, x], argTypes := #[23, 23] })
    (B : Nat) (v : Value) (l : List UInt8) (hs : a.eval s = v) (hO : OutB w B v l) (y : Value) (news : List UInt8) (hx : a.eval x = y) (hy : RdB w y news) (hne : news ≠ [])
    (hl : l.length + news.length ≤ 140737488355328) (hB : B ≤ w.heap.size)
    (h : ∀ v' w', OwnB w' B v' (l ++ news) → Below B w w' → ApartB w w' → wpList Tryd.prog ops Q rest (a.put o.dst v') w') : wpList Tryd.prog ops Q (o :: rest) a w := by
  obtain ⟨i0, hi, hz0, hz1, hz2⟩ := info_parts info_byte
  have hm : l.length + news.length ≤ maxLen := by simp only [maxLen]; omega
  rcases hO with hO | ⟨g, rfl, hg, hR⟩
  · refine wpList_app hgd s x 23 ho B 5 i0 (.int .u8 0) 1 Tryd.underlying23 hi hz0 hz1 hz2 rfl v l.length (l.map vB) hs hO y (news.map vB) hx hy (vB_one news) (by simp; omega) (by omega) hB ?_
    intro v' w' hown hgr
    refine h v' w' (by unfold OwnB; simpa using hown) (own_grow_below hO hgr hB (Nat.le_refl _)) (fun b cs t fr ht hr => row_grown hO hgr hr ht)
  · rcases hy with ⟨_, h0⟩ | ⟨ad, cap, rfl, _, hc⟩
    · simp at h0; exact absurd h0 hne
    · have hcell : ∀ j u, (l.map vB)[j]? = some u → w.cell? ((⟨g, 0, none⟩ : Addr).add j) = some u := by
        intro j u hj
        rcases hR with ⟨h1, _⟩ | ⟨ad2, cap2, h1, _, hc2⟩
        · cases h1
        · obtain ⟨b, off, h2, hcl⟩ := hc2 j u hj
          simp only [Value.slice.injEq, Option.some.injEq] at h1
          rw [← h1.1] at h2
          cases h2
          rw [Addr.add_mid]; exact hcl
      refine wpList_append_grows w hgd s x 23 ho 5 i0 (.int .u8 0) 1 1 Tryd.underlying23 hi hz0 hz1 hz2 rfl (by decide) (some ⟨g, 0, none⟩) l.length l.length (l.map vB) hs (fun e => by cases e) (by simp) (fun b e => by cases e; exact hcell) ad (news.map vB).length cap (news.map vB) (by rw [hx]) (by simp) ?_ (vB_one news) ?_ (by simpa using hm) (by simpa using hl) ?_
      · intro j u hj
        obtain ⟨b, off, h2, hcl⟩ := hc j u hj
        subst h2
        rw [Addr.add_mid]; exact hcl
      · have : news.length ≠ 0 := fun e => hne (List.eq_nil_of_length_eq_zero e)
        simp; omega
      · intro v' w' hown hgr
        refine h v' w' (by unfold OwnB; simpa using own_from hown hB) (below_grown hgr hB (fun k hk => by cases hk)) (fun b cs t fr _ hr => ?_)
        rw [← hr]
        exact hgr.block b (Array.getElem?_eq_some_iff.1 hr).1 (by simp)
/-- 'append(out, s...)', s a text. -/
theorem wpList_outS {w : World} {ops : Array Oper} {rest : List Oper} {o : Oper} {a : Act} {Q : Exit → Act → World → Prop} (hgd : o.guard = none) (s x : Operand)
    (ho : o.op = .call { callee := .builtin .append, args := #[s, x], argTypes := #[23, 9] })
    (B : Nat) (v : Value) (l : List UInt8) (hs : a.eval s = v) (hO : OwnB w B v l) (y : ByteArray) (hx : a.eval x = .string y)
    (hl : l.length + y.size ≤ 140737488355328) (hB : B ≤ w.heap.size)
    (h : ∀ v' w', OwnB w' B v' (l ++ y.data.toList) → Below B w w' → ApartB w w' → wpList Tryd.prog ops Q rest (a.put o.dst v') w') : wpList Tryd.prog ops Q (o :: rest) a w := by
  obtain ⟨i0, hi, hz0, hz1, hz2⟩ := info_parts info_byte
  have hm : l.length + y.size ≤ maxLen := by simp only [maxLen]; omega
  refine Lib.wpList_append_own_string w hgd s x 23 9 ho B 5 i0 Tryd.underlying23 Tryd.underlying9 hi hz0 hz1 hz2 v l.length (l.map vB) hs hO y hx hm (by omega) hB ?_
  intro v' w' hown hgr _
  have e1 : (l ++ y.data.toList).length = l.length + y.size := by rw [List.length_append]; rfl
  have e2 : (l ++ y.data.toList).map vB = l.map vB ++ Lib.strCells y := by rw [List.map_append]; rfl
  refine h v' w' (by unfold OwnB; rw [e1, e2]; exact hown) (own_grow_below hO hgr hB (Nat.le_refl _)) (fun b cs t fr ht hr => row_grown hO hgr hr ht)
/-- A new block of bytes, whatever its mark, as a slice. -/
theorem rd_new (w : World) (l : List UInt8) (cs : Array Value) (t : TypeId) (fr : Nat × Nat) (h : cs = (l.map vB).toArray) (n : Nat) (hn : n = l.length) : RdB (w.alloc (.cells cs t fr)) (.slice (some ⟨w.heap.size, 0, none⟩) n n) l := by
  subst h; subst hn
  refine .inr ⟨⟨w.heap.size, 0, none⟩, l.length, by simp, by simp, fun j u hj => ⟨w.heap.size, 0, rfl, ?_⟩⟩
  rw [cell_of_row (w.alloc (.cells (l.map vB).toArray t fr)) w.heap.size (0 + j) (l.map vB).toArray t fr (heap_alloc_new w _)]
  simpa using hj
theorem rd_len (w : World) (n : Nat) (h : n ≤ 255) : RdB (w.alloc (.cells #[.int .u8 (n : Int)] 5)) (.slice (some ⟨w.heap.size, 0, none⟩) 1 1) [UInt8.ofNat n] := by
  refine rd_new w [UInt8.ofNat n] _ _ _ ?_ 1 rfl
  have : Value.int .u8 (n : Int) = vB (UInt8.ofNat n) := by
    simp only [vB, n8, UInt8.toNat_ofNat']
    congr 1
    rw [Nat.mod_eq_of_lt (by omega)]
  rw [this]; rfl
theorem hashA_one (l : List UInt8) : (l.map vB).toArray.all (·.oneCell') = true := by
  apply Array.all_eq_true_iff_forall_mem.2
  intro v hv
  exact vB_one l v (by simpa using hv)
theorem ofNat_n8 (b : UInt8) : UInt8.ofNat (n8 b).toNat = b := by simp [n8]
/-- 'string(b)'. -/
theorem run_text {w : World} {v : Value} {l : List UInt8} (h : RdB w v l) : (convert 23 9 v).run Tryd.prog w = .ok (.string ⟨l.toArray⟩) w := by
  rcases h with ⟨rfl, h0⟩ | ⟨ad, cap, rfl, _, hc⟩
  · obtain rfl : l = [] := by simpa using h0
    exact run_convert_bytes_nil w 23 5 Tryd.underlying23 Tryd.underlying5 0 0 9 Tryd.underlying9
  · have hl : (loadCells ad (l.map vB).length).run Tryd.prog w = .ok ((l.map n8).map (Value.int .u8)).toArray w := by
      have h1 := run_loadCells_list (P := Tryd.prog) w ad (l.map vB) (fun j u hj => by
        obtain ⟨b, off, rfl, hcell⟩ := hc j u hj
        rw [Addr.add_mid]; exact hcell)
      rw [h1, List.map_map]; rfl
    rw [run_convert_bytes_string w 23 9 5 _ _ _ Tryd.underlying23 Tryd.underlying5 Tryd.underlying9, run_bytesToString w ad _ cap _ hl, foldl_push_bytes, List.map_map]
    have e : (fun n : Int => UInt8.ofNat n.toNat) ∘ n8 = id := by funext b; exact ofNat_n8 b
    rw [e, List.map_id]
    congr 3
    simp [ByteArray.empty, ByteArray.emptyWithCapacity]
    rfl
end Go.Proofs.YtikhdbdbdldbaaaDoor
