/- Entries appended to a row of one's own. -/
import Derived.Test.YtikhdbdbdldbaaaDoorParse
import Derived.Laws.AppendOwnNone
import Derived.Deep.Slices
namespace Go.Proofs.YtikhdbdbdldbaaaDoor
open Go.RowKit

/-- What is appended: nothing, or entries' cells, one behind the other. -/
def RdX (w : World) (y : Value) (ys : List (PlD × Value)) : Prop :=
  (y = .slice none 0 0 ∧ ys = []) ∨ ∃ ad c, y = .slice (some ad) ys.length c ∧ ∀ j u, (esC ys)[j]? = some u → w.cell? (ad.add j) = some u
theorem esC_app (a b : List (PlD × Value)) : esC (a ++ b) = esC a ++ esC b := by simp [esC]
theorem esC_one (ys : List (PlD × Value)) (h : ∀ x ∈ ys, ∃ a n c, x.2 = .slice a n c) : ∀ u ∈ esC ys, u.oneCell' = true := by
  intro u hu
  simp only [esC, List.mem_flatten, List.mem_map] at hu
  obtain ⟨l, ⟨x, hx, rfl⟩, hu⟩ := hu
  obtain ⟨a, n, c, e⟩ := h x hx
  simp [eC] at hu
  rcases hu with rfl | rfl | rfl | rfl | rfl
  · rfl
  · rfl
  · rfl
  · rfl
  · rw [e]; rfl
theorem rdx_of {w : World} {v : Value} {es : List EntD} (h : RdEs w v es) (hv : v = .slice none 0 0 ∨ ∃ ad n c, v = .slice (some ad) n c) :
    ∃ ys : List (PlD × Value), ys.map (·.1.e) = es ∧ (∀ x ∈ ys, RdB w x.2 x.1.e.data) ∧ RdX w v ys := by
  obtain ⟨a, c, rfl, _, _, hc⟩ := h
  have each : ∀ i, i < es.length → ∃ dv : Value, ∀ e, es[i]? = some e → RdB w dv e.data ∧ ∃ b off, a = some ⟨b, off, none⟩ ∧ w.rangeAt b (off + i * 5) (eC e dv) := by
    intro i hi
    obtain ⟨b, off, dv, ha, hr, hd⟩ := hc i _ (List.getElem?_eq_getElem hi)
    refine ⟨dv, fun e he => ?_⟩
    rw [List.getElem?_eq_getElem hi] at he
    cases he
    exact ⟨hd, b, off, ha, hr⟩
  obtain ⟨f, hf⟩ := Go.Deep.choose_lt (α := Value) (n := es.length) (p := fun i dv => ∀ e, es[i]? = some e → RdB w dv e.data ∧ ∃ b off, a = some ⟨b, off, none⟩ ∧ w.rangeAt b (off + i * 5) (eC e dv)) each
  have hget : ∀ (i : Nat) (x : PlD × Value), (es.mapIdx fun i e => ((⟨e, 0, true⟩ : PlD), f i))[i]? = some x → es[i]? = some x.1.e ∧ x.2 = f i := by
    intro i x hx
    rw [List.getElem?_mapIdx] at hx
    cases he : es[i]? with
    | none => rw [he] at hx; cases hx
    | some e => rw [he] at hx; cases hx; exact ⟨rfl, rfl⟩
  refine ⟨es.mapIdx fun i e => (⟨e, 0, true⟩, f i), ?_, ?_, ?_⟩
  · apply List.ext_getElem?
    intro i
    rw [List.getElem?_map, List.getElem?_mapIdx]
    cases es[i]? <;> rfl
  · intro x hx
    obtain ⟨i, hi⟩ := List.getElem?_of_mem hx
    obtain ⟨h1, h2⟩ := hget i x hi
    rw [h2]
    exact (hf i (List.getElem?_eq_some_iff.1 h1).1 _ h1).1
  · rcases hv with hv | ⟨ad, n, c', hv⟩
    · simp only [Value.slice.injEq] at hv
      obtain ⟨rfl, h0, rfl⟩ := hv
      obtain rfl : es = [] := List.length_eq_zero_iff.1 h0
      exact .inl ⟨rfl, rfl⟩
    · simp only [Value.slice.injEq] at hv
      obtain ⟨rfl, _, rfl⟩ := hv
      refine .inr ⟨ad, c, by simp, fun j u hu => ?_⟩
      have hjl := (List.getElem?_eq_some_iff.1 hu).1
      rw [esC_len, List.length_mapIdx] at hjl
      have hi : j / 5 < es.length := by omega
      have hx : (es.mapIdx fun i e => ((⟨e, 0, true⟩ : PlD), f i))[j / 5]? = some (⟨es[j / 5], 0, true⟩, f (j / 5)) := by
        rw [List.getElem?_mapIdx, List.getElem?_eq_getElem hi]; rfl
      obtain ⟨_, b, off, ha, hr⟩ := hf (j / 5) hi _ (List.getElem?_eq_getElem hi)
      have hm : j % 5 < (eC es[j / 5] (f (j / 5))).length := by simp only [eC, List.length_cons, List.length_nil]; omega
      have h1 := esC_at _ (j / 5) _ (j % 5) _ hx (List.getElem?_eq_getElem hm)
      rw [show j / 5 * 5 + j % 5 = j by omega] at h1
      have hu2 := Option.some.inj (hu.symm.trans h1)
      cases ha
      have h2 := hr (j % 5) _ (List.getElem?_eq_getElem hm)
      rw [show (⟨b, off, none⟩ : Addr).add j = ⟨b, off + j, none⟩ by unfold Addr.add; split <;> simp_all, hu2]
      rw [show off + j / 5 * 5 + j % 5 = off + j by omega] at h2
      exact h2
theorem rdx_below {w w' : World} {y : Value} {ys : List (PlD × Value)} (h : RdX w y ys) (hb : Below w.heap.size w w') : RdX w' y ys := by
  rcases h with h | ⟨ad, c, h, hc⟩
  · exact .inl h
  · exact .inr ⟨ad, c, h, fun j u hj => (hb.cell (block_lt_of_cell (hc j u hj))).trans (hc j u hj)⟩
theorem rdEs_rd {W : World} {B : Nat} {v : Value} {xs : List (PlD × Value)} (h : W.ownsRow B 31 5 v xs.length (esC xs)) (hd : ∀ x ∈ xs, RdB W x.2 x.1.e.data) : RdEs W v (xs.map (·.1.e)) := by
  rcases h.2 with ⟨rfl, h0⟩ | ⟨g, cap, cur, rfl, _, hg, hn, hm, hcs, htk⟩
  · obtain rfl : xs = [] := by simpa using h0
    exact RdEs.nil W
  · refine ⟨some ⟨g, 0, none⟩, cap, by simp, by simpa using hn, Nat.le_trans hm (by simp [maxLen]), fun i e hi => ?_⟩
    rw [List.getElem?_map] at hi
    cases hx : xs[i]? with
    | none => rw [hx] at hi; cases hi
    | some x =>
      rw [hx] at hi
      simp only [Option.map_some, Option.some.injEq] at hi
      subst hi
      refine ⟨g, 0, x.2, rfl, fun j u hj => ?_, hd x (List.mem_of_getElem? hx)⟩
      have h1 := esC_at xs i x j u hx hj
      rw [← htk] at h1
      rw [cell_of_row W g _ _ _ _ hg, Nat.zero_add]
      rw [List.getElem?_take] at h1
      split at h1
      · simpa using h1
      · cases h1
/-- 'append(s, x...)' of entries. -/
theorem wpList_appX {w : World} {ops : Array Oper} {rest : List Oper} {o : Oper} {a : Act} {Q : Exit → Act → World → Prop} (hgd : o.guard = none) (s x : Operand)
    (ho : o.op = .call { callee := .builtin .append, args := #[s, x], argTypes := #[22, 22] })
    (base : Nat) (v : Value) (n : Nat) (xs : List Value) (hs : a.eval s = v) (hown : w.ownsRow base 31 5 v n xs)
    (y : Value) (ys : List (PlD × Value)) (hx : a.eval x = y) (hy : RdX w y ys) (h1 : ∀ u ∈ esC ys, u.oneCell' = true) (hbytes : (n + ys.length) * 72 ≤ 140737488355328) (hbase : base ≤ w.heap.size)
    (h : ∀ v' w', w'.ownsRow base 31 5 v' (n + ys.length) (xs ++ esC ys) → w.grownBy w' v.ownBlock → wpList Tryd.prog ops Q rest (a.put o.dst v') w') : wpList Tryd.prog ops Q (o :: rest) a w := by
  obtain ⟨i0, hi, hz0, hz1, hz2⟩ := info_parts info_entry
  rcases hy with ⟨rfl, rfl⟩ | ⟨ad, c, rfl, hc⟩
  · refine wpList_append_own_none hgd s x 22 ho base 31 i0 5 Tryd.underlying22 hi v n xs hs hown hx ?_
    exact h v w (by simpa [esC] using hown) ⟨rfl, rfl, rfl, Nat.le_refl _, fun _ _ _ => rfl⟩
  · refine wpList_append_own w hgd s x 22 ho base 31 i0 (.agg #[.string ⟨#[]⟩, .int .i64 0, .int .i64 0, .string ⟨#[]⟩, .slice none 0 0]) 5 72 Tryd.underlying22 hi hz0 hz1 hz2 rfl (by decide) v n xs hs hown ad ys.length c (esC ys) hx (esC_len ys) hc h1 (by simp only [maxLen]; omega) hbytes hbase ?_
    intro v' w' q1 q2 _
    exact h v' w' q1 q2
/-- 'append(v, s...)' of bytes, behind a guard that is met. -/
theorem wpList_app_met {P : Program} {w : World} {ops : Array Oper} {rest : List Oper} {o : Oper} {a : Act} {Q : Exit → Act → World → Prop} (hw : Region.wanted o (yielded ops a.tmps) = true) (s x : Operand) (t : TypeId)
    (ho : o.op = .call { callee := .builtin .append, args := #[s, x], argTypes := #[t, t] })
    (base : Nat) (e : TypeId) (i : TypeInfo) (z : Value) (bytes : Nat) (ht : P.underlying t = some (.slice e)) (hi : P.info? e = some i) (hz : i.zero = some z)
    (hsize : i.size = 1) (hby : i.bytes = bytes) (hzs : z.cells.size = 1)
    (v : Value) (n : Nat) (xs : List Value) (hs : a.eval s = v) (hown : w.ownsRow base e 1 v n xs)
    (ad : Addr) (m c : Nat) (news : List Value) (hx : a.eval x = .slice (some ad) m c) (hm : news.length = m) (hy : ∀ j u, news[j]? = some u → w.cell? (ad.add j) = some u)
    (h1 : ∀ u ∈ news, u.oneCell' = true) (hbytes : (n + m) * bytes ≤ 140737488355328) (hb0 : 0 < bytes) (hbase : base ≤ w.heap.size)
    (h : ∀ v' w', w'.ownsRow base e 1 v' (n + m) (xs ++ news) → w.grownBy w' v.ownBlock → wpList P ops Q rest (a.put o.dst v') w') : wpList P ops Q (o :: rest) a w := by
  have hle : n + m ≤ maxLen := by
    have := Nat.le_trans (Nat.le_mul_of_pos_right (n + m) hb0) hbytes
    simp only [maxLen]; omega
  refine wpList_step fun K hK => ?_
  rw [if_pos hw]
  exact wp_append_own (P := P) w s x t ho base e i z 1 bytes ht hi hz hsize hby hzs (by decide) v n xs hs hown ad m c news hx (by simpa using hm) hy h1 hle hbytes hbase fun v' w' q1 q2 _ => hK _ _ (h v' w' q1 q2)
end Go.Proofs.YtikhdbdbdldbaaaDoor
