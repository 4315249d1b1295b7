/- Appends onto a row of bytes of one's own, as steps of a region that draws its order. -/
import Derived.Test.YtikhdbdbdldbaaaDoorCl
import Derived.Test.YtikhdbdbdldbaaaDoorAppZ
import Derived.Test.YtikhdbdbdldbaaaDoorTarLaw
import Derived.Laws.AppendOwnNone
namespace Go.Proofs.YtikhdbdbdldbaaaDoor
open Go.RowKit

theorem step_builtin {ops : Array Oper} {o : Oper} {a : Act} {w : World} {K : Act → World → Prop} {Q : Exit → Act → World → Prop} {E : Prop} (hg : o.guard = none) (s x : Operand) (t t' : TypeId)
    (hop : o.op = .call { callee := .builtin .append, args := #[s, x], argTypes := #[t, t'] }) (v y : Value) (hs : a.eval s = v) (hx : a.eval x = y) (v' : Value) (w' : World)
    (hrun : (Builtin.append_ #[t, t'] o.type #[v, y]).run Tryd.prog w = .ok v' w') (hK : K (a.put o.dst v') w') : if Region.wanted o (yielded ops a.tmps) = true then Oper.wp Tryd.prog o a w K Q else E := by
  have hw : Region.wanted o (yielded ops a.tmps) = true := by simp [Region.wanted, hg]
  rw [if_pos hw]
  unfold Oper.wp
  simp [execOp, hop, resolve, invoke, builtin, hs, hx, hrun, Result.andThen]
  exact hK
/-- 'append(v, y...)': v a row of bytes of one's own, y bytes (none, too). -/
theorem run_appB {w : World} {B : Nat} {v : Value} {l : List UInt8} (hO : OwnB w B v l) {y : Value} {news : List UInt8} (hy : RdB w y news) (hl : l.length + news.length ≤ 140737488355328) (hB : B ≤ w.heap.size) (ty : TypeId) :
    ∃ v' w', (Builtin.append_ #[23, 23] ty #[v, y]).run Tryd.prog w = .ok v' w' ∧ OwnB w' B v' (l ++ news) ∧ w.grownBy w' v.ownBlock := by
  obtain ⟨i0, hi, hz0, hz1, hz2⟩ := info_parts info_byte
  have hm : l.length + news.length ≤ maxLen := by simp only [maxLen]; omega
  rcases hy with ⟨rfl, h0⟩ | ⟨ad, cap, rfl, _, hc⟩
  · obtain rfl : news = [] := by simpa using h0
    exact ⟨v, w, run_append_owned_none (P := Tryd.prog) (w := w) B 23 ty 5 i0 1 Tryd.underlying23 hi v _ _ hO, by simpa using hO, ⟨rfl, rfl, rfl, Nat.le_refl _, fun _ _ _ => rfl⟩⟩
  · obtain ⟨v', w', h1, h2, h3, _⟩ := run_append_own (P := Tryd.prog) (w := w) B 23 ty 5 i0 (.int .u8 0) 1 1 Tryd.underlying23 hi hz0 hz1 hz2 rfl (by decide) v l.length (l.map vB) hO ad (news.map vB).length cap (news.map vB) (by simp) (fun j u hj => by
      obtain ⟨b, off, h2, hcl⟩ := hc j u hj
      subst h2
      rw [Addr.add_mid]; exact hcl) (vB_one news) (by simpa using hm) (by simpa using hl) hB
    exact ⟨v', w', h1, by unfold OwnB; simpa using h2, h3⟩
theorem step_appB {ops : Array Oper} {o : Oper} {a : Act} {w : World} {K : Act → World → Prop} {Q : Exit → Act → World → Prop} {E : Prop} (hg : o.guard = none) (s x : Operand)
    (hop : o.op = .call { callee := .builtin .append, args := #[s, x], argTypes := #[23, 23] }) (B : Nat) (v : Value) (l : List UInt8) (hs : a.eval s = v) (hO : OwnB w B v l) (y : Value) (news : List UInt8) (hx : a.eval x = y) (hy : RdB w y news)
    (hl : l.length + news.length ≤ 140737488355328) (hB : B ≤ w.heap.size)
    (hK : ∀ v' w', OwnB w' B v' (l ++ news) → w.grownBy w' v.ownBlock → K (a.put o.dst v') w') : if Region.wanted o (yielded ops a.tmps) = true then Oper.wp Tryd.prog o a w K Q else E := by
  obtain ⟨v', w', h1, h2, h3⟩ := run_appB hO hy hl hB o.type
  exact step_builtin hg s x _ _ hop v y hs hx v' w' h1 (hK v' w' h2 h3)
theorem run_appZB {w : World} {B : Nat} {v : Value} {l : List UInt8} (hO : OwnB w B v l) (k : Nat) (hl : l.length + k ≤ 140737488355328) (hB : B ≤ w.heap.size) (ty : TypeId) :
    ∃ v' w', (Builtin.append_ #[23, 3] ty #[v, .int .i64 (k : Int)]).run Tryd.prog w = .ok v' w' ∧ OwnB w' B v' (l ++ zer k) ∧ w.grownBy w' v.ownBlock := by
  obtain ⟨i0, hi, hz0, hz1, hz2⟩ := info_parts info_byte
  obtain ⟨v', w', h1, h2, h3⟩ := run_append_zeros_own (P := Tryd.prog) w B 23 3 ty 5 i0 (.int .u8 0) .i64 .i64 1 Tryd.underlying23 Tryd.underlying3 hi hz0 hz1 hz2 rfl rfl v l.length (l.map vB) hO k (by omega) (by omega) hB
  refine ⟨v', w', h1, ?_, h3⟩
  unfold OwnB
  rw [List.length_append, List.map_append, show (zer k).length = k by simp [zer], show (zer k).map vB = List.replicate k (.int .u8 0) by unfold zer; rw [List.map_replicate]; rfl]
  exact h2
theorem step_appZB {ops : Array Oper} {o : Oper} {a : Act} {w : World} {K : Act → World → Prop} {Q : Exit → Act → World → Prop} {E : Prop} (hg : o.guard = none) (s x : Operand)
    (hop : o.op = .call { callee := .builtin .append, args := #[s, x], argTypes := #[23, 3] }) (B : Nat) (v : Value) (l : List UInt8) (hs : a.eval s = v) (hO : OwnB w B v l) (k : Nat) (m : Int) (hm : m = (k : Int)) (hx : a.eval x = .int .i64 m)
    (hl : l.length + k ≤ 140737488355328) (hB : B ≤ w.heap.size)
    (hK : ∀ v' w', OwnB w' B v' (l ++ zer k) → w.grownBy w' v.ownBlock → K (a.put o.dst v') w') : if Region.wanted o (yielded ops a.tmps) = true then Oper.wp Tryd.prog o a w K Q else E := by
  subst hm
  obtain ⟨v', w', h1, h2, h3⟩ := run_appZB hO k hl hB o.type
  exact step_builtin hg s x _ _ hop v _ hs hx v' w' h1 (hK v' w' h2 h3)
theorem wpList_appZB {w : World} {ops : Array Oper} {rest : List Oper} {o : Oper} {a : Act} {Q : Exit → Act → World → Prop} (hgd : o.guard = none) (s x : Operand)
    (ho : o.op = .call { callee := .builtin .append, args := #[s, x], argTypes := #[23, 3] }) (B : Nat) (v : Value) (l : List UInt8) (hs : a.eval s = v) (hO : OwnB w B v l) (k : Nat) (m : Int) (hm : m = (k : Int)) (hx : a.eval x = .int .i64 m)
    (hl : l.length + k ≤ 140737488355328) (hB : B ≤ w.heap.size)
    (h : ∀ v' w', OwnB w' B v' (l ++ zer k) → w.grownBy w' v.ownBlock → wpList Tryd.prog ops Q rest (a.put o.dst v') w') : wpList Tryd.prog ops Q (o :: rest) a w := by
  subst hm
  obtain ⟨v', w', h1, h2, h3⟩ := run_appZB hO k hl hB o.type
  exact Lib.wpList_append_run w hgd s x _ _ ho v (.int .i64 k) hs hx v' w' h1 (h v' w' h2 h3)
end Go.Proofs.YtikhdbdbdldbaaaDoor
