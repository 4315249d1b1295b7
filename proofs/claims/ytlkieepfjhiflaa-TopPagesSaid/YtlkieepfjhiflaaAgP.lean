/- The group of pages that TopAgain makes. -/
import Derived.Test.YtlkieepfjhiflaaCommit
import Derived.Laws.AppendOwnNone
namespace Go.Proofs.Ytlkieepfjhiflaa
open Go.RowKit Go.ChangeMaps

theorem row_grown {w w' : World} {base e size b t n : Nat} {v : Value} {xs : List Value} {cs : Array Value} {fr : Nat × Nat} (h : w.ownsRow base e size v n xs) (hg : w.grownBy w' v.ownBlock) (hr : w.heap[b]? = some (.cells cs t fr)) (ht : t ≠ e) : w'.heap[b]? = some (.cells cs t fr) := by
  have hb := (Array.getElem?_eq_some_iff.1 hr).1
  obtain ⟨_, h⟩ := h
  refine (hg.block b hb (fun e' => ?_)).trans hr
  rcases h with ⟨rfl, _⟩ | ⟨g, cap, cur, rfl, _, hgg, _⟩
  · cases e'
  · simp only [Value.ownBlock, Option.some.injEq] at e'
    subst e'
    rw [hr] at hgg
    simp only [Option.some.injEq, Obj.cells.injEq] at hgg
    exact ht hgg.2.1
theorem Fr.grownBy' {r : Nat} {a b : World} (h : Fr [r] a b) : a.grownBy b (some r) := h.grownBy
def pgC (ps : List (Nat × Value)) : List Value := (ps.map fun x => [.int .i64 (x.1 : Int), x.2]).flatten
theorem pgC_len (ps : List (Nat × Value)) : (pgC ps).length = ps.length * 2 := by
  unfold pgC
  induction ps with
  | nil => rfl
  | cons x ps ih => simp only [List.map_cons, List.flatten_cons, List.length_append, ih, List.length_cons, List.length_nil]; omega
theorem pgC_app (a b : List (Nat × Value)) : pgC (a ++ b) = pgC a ++ pgC b := by simp [pgC]
theorem pgC_at {ps : List (Nat × Value)} {i : Nat} {x : Nat × Value} (h : ps[i]? = some x) : (pgC ps)[i * 2]? = some (.int .i64 (x.1 : Int)) ∧ (pgC ps)[i * 2 + 1]? = some x.2 := by
  unfold pgC
  induction ps generalizing i with
  | nil => simp at h
  | cons y ps ih =>
    cases i with
    | zero => simp at h; subst h; simp
    | succ i =>
      have := ih (by simpa using h)
      simp only [List.map_cons, List.flatten_cons]
      rw [show (i + 1) * 2 = i * 2 + 1 + 1 by omega]
      simpa using this
theorem rdpg_of {w : World} {base n : Nat} {v : Value} {ps : List (Nat × Value)} (h : w.ownsRow base 53 2 v n (pgC ps)) (hn : n = ps.length) : RdPg w v ps := by
  subst hn
  obtain ⟨_, h⟩ := h
  rcases h with ⟨rfl, h0⟩ | ⟨g, cap, cur, rfl, _, hg, _, _, _, htake⟩
  · obtain rfl : ps = [] := List.eq_nil_of_length_eq_zero h0
    exact ⟨none, 0, rfl, fun i x h => by simp at h⟩
  · refine ⟨some ⟨g, 0, none⟩, cap, rfl, fun i x hi => ⟨g, 0, rfl, ?_, ?_⟩⟩
    · obtain ⟨h1, _⟩ := pgC_at hi
      rw [← htake, List.getElem?_take] at h1
      split at h1
      · rw [cell_of_row w g _ _ _ _ hg, Nat.zero_add]; simpa using h1
      · cases h1
    · obtain ⟨_, h1⟩ := pgC_at hi
      rw [← htake, List.getElem?_take] at h1
      split at h1
      · rw [cell_of_row w g _ _ _ _ hg, Nat.zero_add]; simpa using h1
      · cases h1
theorem info_page : (Try.prog.info? 53).map (fun i => (i.zero, i.size, i.bytes)) = some (some (.agg #[.int .i64 0, .slice none 0 0]), 2, 32) := by kernel_rfl
theorem wpList_pg1 {w : World} {ops : Array Oper} {rest : List Oper} {o : Oper} {a : Act} {Q : Exit → Act → World → Prop} (hgd : o.guard = none) (s x : Operand)
    (ho : o.op = .call { callee := .builtin .append, args := #[s, x], argTypes := #[50, 50] })
    (base : Nat) (v : Value) (ps : List (Nat × Value)) (hs : a.eval s = v) (hown : w.ownsRow base 53 2 v ps.length (pgC ps))
    (b n : Nat) (va : Option Addr) (vn vc : Nat) (hx : a.eval x = .slice (some ⟨b, 0, none⟩) 1 1) (hb : w.heap[b]? = some (.cells #[.int .i64 (n : Int), .slice va vn vc] 53 (0, 0))) (hl : ps.length ≤ 1000) (hbase : base ≤ w.heap.size)
    (h : ∀ v' w', w'.ownsRow base 53 2 v' (ps.length + 1) (pgC (ps ++ [(n, .slice va vn vc)])) → w.grownBy w' v.ownBlock → wpList Try.prog ops Q rest (a.put o.dst v') w') : wpList Try.prog ops Q (o :: rest) a w := by
  obtain ⟨i0, hi, hz0, hz1, hz2⟩ := info_parts info_page
  refine wpList_append_own w hgd s x 50 ho base 53 i0 (.agg #[.int .i64 0, .slice none 0 0]) 2 32 Try.underlying50 hi hz0 hz1 hz2 rfl (by decide) v ps.length (pgC ps) hs hown ⟨b, 0, none⟩ 1 1 [.int .i64 (n : Int), .slice va vn vc] hx rfl (fun j u hj => by
    rw [show (⟨b, 0, none⟩ : Addr).add j = ⟨b, j, none⟩ by unfold Addr.add; split <;> simp_all]
    rw [cell_of_row w b j _ _ _ hb]; simpa using hj) (fun u hu => by simp at hu; rcases hu with rfl | rfl <;> rfl) (by simp only [maxLen]; omega) (by omega) hbase ?_
  intro v' w' q1 q2 _
  exact h v' w' (by rw [pgC_app]; exact q1) q2
def seenR (ps : List (Nat × Value)) : Array Value := ((List.range 27).map fun n => Value.bool (decide (n ∈ ps.map (·.1)))).toArray
theorem seenR_at (ps : List (Nat × Value)) {n : Nat} (h : n < 27) : (seenR ps)[n]? = some (.bool (decide (n ∈ ps.map (·.1)))) := by
  unfold seenR
  rw [List.getElem?_toArray, List.getElem?_map, List.getElem?_range h]; rfl
theorem seenR_set (ps : List (Nat × Value)) {n : Nat} (v : Value) (_ : n < 27) : (seenR ps).setIfInBounds n (.bool true) = seenR (ps ++ [(n, v)]) := by
  refine Array.ext (by simp [seenR]) fun i h1 h2 => ?_
  have hi : i < 27 := by simpa [seenR] using h2
  simp only [seenR, List.setIfInBounds_toArray, List.getElem_toArray, List.getElem_set, List.getElem_map, List.getElem_range]
  by_cases e : n = i
  · subst e; simp
  · rw [if_neg e]
    congr 2
    simp only [List.map_append, List.map_cons, List.map_nil, List.mem_append, List.mem_singleton, eq_iff_iff]
    constructor
    · exact .inl
    · rintro (h | h)
      · exact h
      · exact absurd h.symm e
theorem or_one (q : UInt8) : bits BinOp.or IntKind.u8 (n8 q) 1 = n8 (q ||| 1) := by
  have : ∀ i : Fin 256, bits BinOp.or IntKind.u8 (n8 (UInt8.ofNat i.val)) 1 = n8 (UInt8.ofNat i.val ||| 1) := by decide +kernel
  have h := this ⟨q.toNat, q.toNat_lt⟩
  simpa using h
theorem or_one_ne (q : UInt8) : ¬ n8 (q ||| 1) = 0 := by
  have : ∀ i : Fin 256, ¬ n8 (UInt8.ofNat i.val ||| 1) = 0 := by decide +kernel
  have h := this ⟨q.toNat, q.toNat_lt⟩
  simpa using h
/-- While the group is made. -/
structure GrI (w3 wr : World) (sb : Nat) (pb : List UInt8) (v : Value) (ps : List (Nat × Value)) : Prop where
  seen : wr.heap[sb]? = some (.cells (seenR ps) 4 (0, 0))
  own : wr.ownsRow w3.heap.size 53 2 v ps.length (pgC ps)
  nd : (ps.map (·.1)).Nodup
  lt : ∀ x ∈ ps, x.1 < 27
  rows : ∀ x ∈ ps, ∃ rb, x.2 = .slice (some ⟨rb, 0, none⟩) 512 512 ∧ w3.heap.size ≤ rb ∧ RowB wr rb pb
  fr : Fr [sb] w3 wr
/-- A page is put behind. -/
theorem GrI.step {w3 wr w1 w2 w4 w5 : World} {sb rb n : Nat} {pb : List UInt8} {v v' : Value} {ps : List (Nat × Value)} (I : GrI w3 wr sb pb v ps) (hsb : sb < w3.heap.size) (hn : n < 27) (hnew : n ∉ ps.map (·.1))
    (h1 : w1 = wr.setCell ⟨sb, n, none⟩ (.bool true)) (hf : Fr [] w1 w2) (hrow : RowB w2 rb pb) (hrb : w1.heap.size ≤ rb) (hf4 : Fr [] w2 w4) (hown : w5.ownsRow w3.heap.size 53 2 v' (ps.length + 1) (pgC (ps ++ [(n, .slice (some ⟨rb, 0, none⟩) 512 512)]))) (hg : w4.grownBy w5 v.ownBlock) : GrI w3 w5 sb pb v' (ps ++ [(n, .slice (some ⟨rb, 0, none⟩) 512 512)]) := by
  have hF1 : Fr [sb] wr w1 := by rw [h1]; exact (Fr.refl [sb] wr).setCell (p := ⟨sb, n, none⟩) (.inl (by simp)) _
  have hs1 := hF1.size
  have hF14 : Fr [] w1 w4 := hf.trans hf4
  have hs3 := I.fr.size
  have hown4 : w4.ownsRow w3.heap.size 53 2 v ps.length (pgC ps) := by
    have h2 : Fr [sb] wr w4 := hF1.trans (hF14.mono (by simp))
    exact World.ownsRow.kept (row := some sb) I.own h2.grownBy' (by
      cases hv : v.ownBlock with
      | none => exact .inl rfl
      | some g => exact .inr (fun e => by
          have := (World.ownsRow.lt I.own g hv).1
          cases e
          omega))
  have hseen1 : w1.heap[sb]? = some (.cells (seenR (ps ++ [(n, .slice (some ⟨rb, 0, none⟩) 512 512)])) 4 (0, 0)) := by
    rw [h1, heap_setCell_same wr sb n _ _ (.bool true) I.seen, seenR_set ps _ hn]
  refine ⟨row_grown hown4 hg (hF14.heap (by simp) hseen1) (by decide), by simpa using hown, ?_, fun x hx => ?_, fun x hx => ?_, ?_⟩
  · rw [List.map_append]
    exact List.nodup_append.2 ⟨I.nd, by simp, fun a ha b hb e => by simp at hb; subst hb; subst e; exact hnew ha⟩
  · rcases List.mem_append.1 hx with h | h
    · exact I.lt x h
    · simp at h; subst h; exact hn
  · rcases List.mem_append.1 hx with h | h
    · obtain ⟨r, e, hr, hR⟩ := I.rows x h
      refine ⟨r, e, hr, ?_⟩
      have h2 : RowB w1 r pb := hR.fr hF1 (by simp; omega)
      exact row_grown hown4 hg (hF14.heap (by simp) h2) (by decide)
    · simp at h; subst h
      exact ⟨rb, rfl, by omega, row_grown hown4 hg (hf4.heap (by simp) hrow) (by decide)⟩
  · exact ((I.fr.trans hF1).trans (hF14.mono (by simp))).grown hg (fun k hk => .inr (World.ownsRow.lt I.own k hk).1)
end Go.Proofs.Ytlkieepfjhiflaa
