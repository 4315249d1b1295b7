/- A region that draws its order, whose first n operations stand in one forced order and whose others read and call quietly. No condition but the one on the region's edges, which the kernel decides. -/
import Derived.Test.YtkhgfaccmhknjaaBase
import Derived.StillTail
import Derived.Deep.Quiet
import Derived.Deep.RegionHeld3
import Derived.Deep.AppendLies
namespace Go.Proofs.Ytkhgfaccmhknjaa
section
variable {P : Program} {ops : Array Oper} {md : Region.Mode}

/-- At the list's end K, at any other exit Q. -/
def Qk (K : Act → World → Prop) (Q : Exit → Act → World → Prop) : Exit → Act → World → Prop
  | .normal => K
  | e => Q e

theorem upon_K {o : Oper} {a : Act} {r : Result Next} {next next' : Act → World → Prop} {K : Act → World → Prop} {Q : Exit → Act → World → Prop} (hn : ∀ a w, next a w → next' a w)
    (h : o.upon P a next (Qk K Q) r) : o.upon P a next' Q r := by
  unfold Oper.upon at *
  split at h
  · exact hn _ _ h
  · exact hn _ _ h
  · exact hn _ _ h
  · refine h.mono fun e w' h' => ?_
    cases e with
    | returned v => exact hn _ _ h'
    | panicked c => exact h'
    | outgrown => exact h'
  · exact h.mono fun v w' h' => hn _ _ h'
  · exact h
  · exact h.elim
theorem letsOut_K {K : Act → World → Prop} {Q : Exit → Act → World → Prop} (h : LetsOut (Qk K Q)) : LetsOut Q := h

/-- The next operations come up one by one. -/
def chainHead (md : Region.Mode) (ops : Array Oper) (G : Array Bool → Bool) : Nat → Nat → Array Bool → Bool
  | 0, _, listed => G listed
  | f + 1, k, listed => decide (Region.ready md ops listed = [k]) && chainHead md ops G f (k + 1) (listed.setIfInBounds k true)

theorem any_of_chain {G : Array Bool → Bool} {g : Nat} {K : Act → World → Prop} {Q : Exit → Act → World → Prop} (hK : ∀ listed a w, G listed = true → K a w → wpAny P md ops Q g listed a w) :
    ∀ (l : List Oper) (k : Nat) (listed : Array Bool) (a : Act) (w : World), (∀ j, j < l.length → l[j]? = ops[k + j]?) → chainHead md ops G l.length k listed = true →
      wpList P ops (Qk K Q) l a w → wpAny P md ops Q (l.length + g) listed a w
  | [], _, listed, a, w, _, hB, h => by
    rw [List.length_nil, Nat.zero_add]
    exact hK _ _ _ (by simpa [chainHead] using hB) h
  | o :: l, k, listed, a, w, hl, hB, h => by
    have h0 : ops[k]? = some o := by simpa using (hl 0 (by simp)).symm
    simp only [List.length_cons, chainHead, Bool.and_eq_true, decide_eq_true_eq] at hB
    have e : (o :: l).length + g = (l.length + g) + 1 := by simp only [List.length_cons]; omega
    rw [e]
    refine ⟨fun h1 => (by rw [hB.1] at h1; cases h1), fun i hi => ?_⟩
    rw [hB.1] at hi
    have hik : i = k := by simpa using hi
    subst hik
    have ih := fun a' w' => any_of_chain hK l (i + 1) (listed.setIfInBounds i true) a' w' (fun j hj => by have := hl (j + 1) (by simp; omega); simpa [Nat.add_assoc, Nat.add_comm 1 j] using this) hB.2
    unfold wpOp
    simp only [h0]
    unfold wpList at h
    split at h
    · rename_i hw
      rw [if_pos hw]
      rcases h with h | h
      · exact .inl (upon_K ih h)
      · exact .inr ⟨h.1, letsOut_K h.2⟩
    · rename_i hw
      rw [if_neg hw]
      exact ih _ _ h

def chainQuietB (md : Region.Mode) (ops : Array Oper) (n : Nat) : Bool :=
  Region.noSelect ops && decide (n ≤ ops.size) && chainHead md ops (fun listed => Region.lexFrom md ops (ops.size - n) n listed) n 0 (Array.replicate ops.size false)

theorem wp_region_chain_quiet {id : Nat} {Q : Exit → Act → World → Prop} {a : Act} {w : World} {l : List Oper} (n : Nat) (hm : P.follows .mixedOrders = true) (hB : chainQuietB .any l.toArray n = true)
    (h : wpList P l.toArray (Qk (fun a1 w1 => wpQuiet P l.toArray (fun w' => ∃ k, w' = w1.drewN k) (fun a' => ∀ w', (∃ k, w' = w1.drewN k) → Q .normal a' w') (l.drop n) a1) Q) (l.take n) a { w with drawn := w.drawn + 1 }) :
    (Code.region id l.toArray true).wp P Q a w := by
  simp only [chainQuietB, Bool.and_eq_true, decide_eq_true_eq] at hB
  obtain ⟨⟨hsel, hn⟩, hc⟩ := hB
  have hn' : n ≤ l.length := by simpa using hn
  have htl : (l.take n).length = n := by simp; omega
  have hdl : (l.drop n).length = l.toArray.size - n := by simp
  refine wp_region_any hm ?_
  have key := any_of_chain (md := .any) (G := fun listed => Region.lexFrom .any l.toArray (l.toArray.size - n) n listed) (g := l.toArray.size - n) (Q := Q) (fun listed a1 w1 hG h1 => by
    have := wpAnyQ_lex (C := fun w' => ∃ k, w' = w1.drewN k) (md := .any) hsel (l.drop n) n listed a1 (fun j => by simp [List.getElem?_drop]) (by rw [hdl]; exact hG) h1
    rw [hdl] at this
    exact wpAny_of_quiet (Q := fun a' => ∀ w', (∃ k, w' = w1.drewN k) → Q .normal a' w') (fun _ w' hw' h => h w' hw') _ _ _ _ ⟨0, rfl⟩ this) (l.take n) 0 (Array.replicate l.toArray.size false) a _ (fun j hj => by
      have hj' : j < n := by rw [htl] at hj; exact hj
      simp [hj']) (by rw [htl]; exact hc) h
  rw [htl, show n + (l.toArray.size - n) = l.toArray.size by omega] at key
  exact key

/-- 'append(v, x)' of one cell, in a region that go_region_held3 walks: v the region's own row, x's block the last. -/
theorem step_app1 {W : World} {o : Oper} {a : Act} {K : Act → World → Prop} {Q : Exit → Act → World → Prop} {E : Prop} (hgd : o.guard = none) (s x : Operand) (t : TypeId)
    (ho : o.op = .call { callee := .builtin .append, args := #[s, x], argTypes := #[t, t] })
    (base : Nat) (e : TypeId) (i : TypeInfo) (z : Value) (bytes : Nat) (ht : P.underlying t = some (.slice e)) (hi : P.info? e = some i) (hz : i.zero = some z)
    (hsize : i.size = 1) (hby : i.bytes = bytes) (hzs : z.cells.size = 1) (hb0 : 0 < bytes)
    (v : Value) (n : Nat) (xs : List Value) (hs : a.eval s = v) (hown : W.ownsRow base e 1 v n xs) (hbase : base ≤ W.heap.size)
    (u : Value) (hx : a.eval x = .slice (some ⟨W.heap.size, 0, none⟩) 1 1) (h1 : u.oneCell' = true)
    (hbytes : (n + 1) * bytes ≤ 140737488355328)
    (h : ∀ v' w', w'.ownsRow base e 1 v' (n + 1) (xs ++ [u]) → Go.RowKit.Below base W w' → K (a.put o.dst v') w') :
    if Region.wanted o (yielded ops a.tmps) = true then Oper.wp P o a (W.alloc (.cells #[u] e)) K Q else E := by
  have hw : Region.wanted o (yielded ops a.tmps) = true := by simp [Region.wanted, hgd]
  rw [if_pos hw]
  have hle : n + 1 ≤ maxLen := by
    have := Nat.le_trans (Nat.le_mul_of_pos_right (n + 1) hb0) hbytes
    simp only [maxLen]; omega
  have hbs : base ≤ (W.alloc (.cells #[u] e)).heap.size := Nat.le_trans hbase (by simp)
  have hob := World.ownsRow.lt hown
  refine wp_append_own (W.alloc (.cells #[u] e)) s x t ho base e i z 1 bytes ht hi hz hsize hby hzs (by decide) v n xs hs (hown.alloc _) ⟨W.heap.size, 0, none⟩ 1 1 [u] hx rfl ?_ ?_ hle hbytes hbs ?_
  · intro j y hj
    exact World.news_of_block (cs := #[u]) (t := e) (fr := (0, 0)) (heap_alloc_new W _) j y hj
  · intro y hy; rw [List.mem_singleton.1 hy]; exact h1
  · intro v' w' q1 q2 _
    exact h v' w' q1 (((Go.RowKit.Below.refl base W).alloc hbase _).trans (Go.RowKit.Below.grown (Go.RowKit.Below.refl base _) q2 hbs (fun k hk => (hob k hk).1)))
end
end Go.Proofs.Ytkhgfaccmhknjaa
