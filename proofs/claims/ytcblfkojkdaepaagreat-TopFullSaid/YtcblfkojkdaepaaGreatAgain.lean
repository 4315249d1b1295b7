/- The group of pages that TopAgain makes. -/
import Derived.Test.YtcblfkojkdaepaaGreatCommit
import Derived.Laws.AppendOwnNone
namespace Go.Proofs.YtcblfkojkdaepaaGreat
open Go.RowKit Go.ChangeMaps

theorem row_grown {w w' : World} {base e size b t n : Nat} {v : Value} {xs : List Value} {cs : Array Value} {fr : Nat × Nat} (h : w.ownsRow base e size v n xs) (hg : w.grownBy w' v.ownBlock) (hr : w.heap[b]? = some (.cells cs t fr)) (ht : t ≠ e) : w'.heap[b]? = some (.cells cs t fr) := by
  have hb := (Array.getElem?_eq_some_iff.1 hr).1
  obtain ⟨_, h⟩ := h
  refine (hg.block b hb (fun e' => ?_)).trans hr
  rcases h with ⟨rfl, _⟩ | ⟨g, cap, cur, rfl, _, hgg, _⟩
  · cases e'
  · simp only [Value.ownBlock, Option.some.injEq] at e'
    subst e'
    rw [hr] at hgg
    simp only [Option.some.injEq, Obj.cells.injEq] at hgg
    exact ht hgg.2.1
theorem Fr.grownBy' {r : Nat} {a b : World} (h : Fr [r] a b) : a.grownBy b (some r) := h.grownBy
def pgC (ps : List (Nat × Value)) : List Value := (ps.map fun x => [.int .i64 (x.1 : Int), x.2]).flatten
theorem pgC_len (ps : List (Nat × Value)) : (pgC ps).length = ps.length * 2 := by
  unfold pgC
  induction ps with
  | nil => rfl
  | cons x ps ih => simp only [List.map_cons, List.flatten_cons, List.length_append, ih, List.length_cons, List.length_nil]; omega
theorem pgC_app (a b : List (Nat × Value)) : pgC (a ++ b) = pgC a ++ pgC b := by simp [pgC]
theorem pgC_at {ps : List (Nat × Value)} {i : Nat} {x : Nat × Value} (h : ps[i]? = some x) : (pgC ps)[i * 2]? = some (.int .i64 (x.1 : Int)) ∧ (pgC ps)[i * 2 + 1]? = some x.2 := by
  unfold pgC
  induction ps generalizing i with
  | nil => simp at h
  | cons y ps ih =>
    cases i with
    | zero => simp at h; subst h; simp
    | succ i =>
      have := ih (by simpa using h)
      simp only [List.map_cons, List.flatten_cons]
      rw [show (i + 1) * 2 = i * 2 + 1 + 1 by omega]
      simpa using this
theorem rdpg_of {w : World} {base n : Nat} {v : Value} {ps : List (Nat × Value)} (h : w.ownsRow base 77 2 v n (pgC ps)) (hn : n = ps.length) : RdPg w v ps := by
  subst hn
  obtain ⟨_, h⟩ := h
  rcases h with ⟨rfl, h0⟩ | ⟨g, cap, cur, rfl, _, hg, _, _, _, htake⟩
  · obtain rfl : ps = [] := List.eq_nil_of_length_eq_zero h0
    exact ⟨none, 0, rfl, fun i x h => by simp at h⟩
  · refine ⟨some ⟨g, 0, none⟩, cap, rfl, fun i x hi => ⟨g, 0, rfl, ?_, ?_⟩⟩
    · obtain ⟨h1, _⟩ := pgC_at hi
      rw [← htake, List.getElem?_take] at h1
      split at h1
      · rw [cell_of_row w g _ _ _ _ hg, Nat.zero_add]; simpa using h1
      · cases h1
    · obtain ⟨_, h1⟩ := pgC_at hi
      rw [← htake, List.getElem?_take] at h1
      split at h1
      · rw [cell_of_row w g _ _ _ _ hg, Nat.zero_add]; simpa using h1
      · cases h1
theorem info_page : (Tryz.prog.info? 77).map (fun i => (i.zero, i.size, i.bytes)) = some (some (.agg #[.int .i64 0, .slice none 0 0]), 2, 32) := by kernel_rfl
theorem wpList_pg1 {w : World} {ops : Array Oper} {rest : List Oper} {o : Oper} {a : Act} {Q : Exit → Act → World → Prop} (hgd : o.guard = none) (s x : Operand)
    (ho : o.op = .call { callee := .builtin .append, args := #[s, x], argTypes := #[75, 75] })
    (base : Nat) (v : Value) (ps : List (Nat × Value)) (hs : a.eval s = v) (hown : w.ownsRow base 77 2 v ps.length (pgC ps))
    (b n : Nat) (va : Option Addr) (vn vc : Nat) (hx : a.eval x = .slice (some ⟨b, 0, none⟩) 1 1) (hb : w.heap[b]? = some (.cells #[.int .i64 (n : Int), .slice va vn vc] 77 (0, 0))) (hl : ps.length ≤ 1000) (hbase : base ≤ w.heap.size)
    (h : ∀ v' w', w'.ownsRow base 77 2 v' (ps.length + 1) (pgC (ps ++ [(n, .slice va vn vc)])) → w.grownBy w' v.ownBlock → wpList Tryz.prog ops Q rest (a.put o.dst v') w') : wpList Tryz.prog ops Q (o :: rest) a w := by
  obtain ⟨i0, hi, hz0, hz1, hz2⟩ := info_parts info_page
  refine wpList_append_own w hgd s x 75 ho base 77 i0 (.agg #[.int .i64 0, .slice none 0 0]) 2 32 Tryz.underlying75 hi hz0 hz1 hz2 rfl (by decide) v ps.length (pgC ps) hs hown ⟨b, 0, none⟩ 1 1 [.int .i64 (n : Int), .slice va vn vc] hx rfl (fun j u hj => by
    rw [show (⟨b, 0, none⟩ : Addr).add j = ⟨b, j, none⟩ by unfold Addr.add; split <;> simp_all]
    rw [cell_of_row w b j _ _ _ hb]; simpa using hj) (fun u hu => by simp at hu; rcases hu with rfl | rfl <;> rfl) (by simp only [maxLen]; omega) (by omega) hbase ?_
  intro v' w' q1 q2 _
  exact h v' w' (by rw [pgC_app]; exact q1) q2
def seenR (ps : List (Nat × Value)) : Array Value := ((List.range 27).map fun n => Value.bool (decide (n ∈ ps.map (·.1)))).toArray
theorem seenR_at (ps : List (Nat × Value)) {n : Nat} (h : n < 27) : (seenR ps)[n]? = some (.bool (decide (n ∈ ps.map (·.1)))) := by
  unfold seenR
  rw [List.getElem?_toArray, List.getElem?_map, List.getElem?_range h]; rfl
theorem seenR_set (ps : List (Nat × Value)) {n : Nat} (v : Value) (_ : n < 27) : (seenR ps).setIfInBounds n (.bool true) = seenR (ps ++ [(n, v)]) := by
  refine Array.ext (by simp [seenR]) fun i h1 h2 => ?_
  have hi : i < 27 := by simpa [seenR] using h2
  simp only [seenR, List.setIfInBounds_toArray, List.getElem_toArray, List.getElem_set, List.getElem_map, List.getElem_range]
  by_cases e : n = i
  · subst e; simp
  · rw [if_neg e]
    congr 2
    simp only [List.map_append, List.map_cons, List.map_nil, List.mem_append, List.mem_singleton, eq_iff_iff]
    constructor
    · exact .inl
    · rintro (h | h)
      · exact h
      · exact absurd h.symm e
theorem or_one (q : UInt8) : bits BinOp.or IntKind.u8 (n8 q) 1 = n8 (q ||| 1) := by
  have : ∀ i : Fin 256, bits BinOp.or IntKind.u8 (n8 (UInt8.ofNat i.val)) 1 = n8 (UInt8.ofNat i.val ||| 1) := by decide +kernel
  have h := this ⟨q.toNat, q.toNat_lt⟩
  simpa using h
theorem or_one_ne (q : UInt8) : ¬ n8 (q ||| 1) = 0 := by
  have : ∀ i : Fin 256, ¬ n8 (UInt8.ofNat i.val ||| 1) = 0 := by decide +kernel
  have h := this ⟨q.toNat, q.toNat_lt⟩
  simpa using h
/-- While the group is made. -/
structure GrI (w3 wr : World) (sb : Nat) (pb : List UInt8) (v : Value) (ps : List (Nat × Value)) : Prop where
  seen : wr.heap[sb]? = some (.cells (seenR ps) 4 (0, 0))
  own : wr.ownsRow w3.heap.size 77 2 v ps.length (pgC ps)
  nd : (ps.map (·.1)).Nodup
  lt : ∀ x ∈ ps, x.1 < 27
  rows : ∀ x ∈ ps, ∃ rb, x.2 = .slice (some ⟨rb, 0, none⟩) 512 512 ∧ w3.heap.size ≤ rb ∧ RowB wr rb pb
  fr : Fr [sb] w3 wr
/-- A page is put behind. -/
theorem GrI.step {w3 wr w1 w2 w4 w5 : World} {sb rb n : Nat} {pb : List UInt8} {v v' : Value} {ps : List (Nat × Value)} (I : GrI w3 wr sb pb v ps) (hsb : sb < w3.heap.size) (hn : n < 27) (hnew : n ∉ ps.map (·.1))
    (h1 : w1 = wr.setCell ⟨sb, n, none⟩ (.bool true)) (hf : Fr [] w1 w2) (hrow : RowB w2 rb pb) (hrb : w1.heap.size ≤ rb) (hf4 : Fr [] w2 w4) (hown : w5.ownsRow w3.heap.size 77 2 v' (ps.length + 1) (pgC (ps ++ [(n, .slice (some ⟨rb, 0, none⟩) 512 512)]))) (hg : w4.grownBy w5 v.ownBlock) : GrI w3 w5 sb pb v' (ps ++ [(n, .slice (some ⟨rb, 0, none⟩) 512 512)]) := by
  have hF1 : Fr [sb] wr w1 := by rw [h1]; exact (Fr.refl [sb] wr).setCell (p := ⟨sb, n, none⟩) (.inl (by simp)) _
  have hs1 := hF1.size
  have hF14 : Fr [] w1 w4 := hf.trans hf4
  have hs3 := I.fr.size
  have hown4 : w4.ownsRow w3.heap.size 77 2 v ps.length (pgC ps) := by
    have h2 : Fr [sb] wr w4 := hF1.trans (hF14.mono (by simp))
    exact World.ownsRow.kept (row := some sb) I.own h2.grownBy' (by
      cases hv : v.ownBlock with
      | none => exact .inl rfl
      | some g => exact .inr (fun e => by
          have := (World.ownsRow.lt I.own g hv).1
          cases e
          omega))
  have hseen1 : w1.heap[sb]? = some (.cells (seenR (ps ++ [(n, .slice (some ⟨rb, 0, none⟩) 512 512)])) 4 (0, 0)) := by
    rw [h1, heap_setCell_same wr sb n _ _ (.bool true) I.seen, seenR_set ps _ hn]
  refine ⟨row_grown hown4 hg (hF14.heap (by simp) hseen1) (by decide), by simpa using hown, ?_, fun x hx => ?_, fun x hx => ?_, ?_⟩
  · rw [List.map_append]
    exact List.nodup_append.2 ⟨I.nd, by simp, fun a ha b hb e => by simp at hb; subst hb; subst e; exact hnew ha⟩
  · rcases List.mem_append.1 hx with h | h
    · exact I.lt x h
    · simp at h; subst h; exact hn
  · rcases List.mem_append.1 hx with h | h
    · obtain ⟨r, e, hr, hR⟩ := I.rows x h
      refine ⟨r, e, hr, ?_⟩
      have h2 : RowB w1 r pb := hR.fr hF1 (by simp; omega)
      exact row_grown hown4 hg (hF14.heap (by simp) h2) (by decide)
    · simp at h; subst h
      exact ⟨rb, rfl, by omega, row_grown hown4 hg (hf4.heap (by simp) hrow) (by decide)⟩
  · exact ((I.fr.trans hF1).trans (hF14.mono (by simp))).grown hg (fun k hk => .inr (World.ownsRow.lt I.own k hk).1)
end Go.Proofs.YtcblfkojkdaepaaGreat
/- The law TopAgain. -/
namespace Go.Proofs.YtcblfkojkdaepaaGreat
open Go.RowKit Go.ChangeMaps

set_option maxRecDepth 100000 in
set_option maxHeartbeats 1000000 in
theorem commit_none (w : World) {p g s : Nat} (_ : LogAt w p g s) (a : Option Addr) (c : Nat) :
    Calls Tryz.prog 28 #[.pointer (some ⟨p, 0, none⟩), .slice a 0 c] w fun e w' => e = .returned (.int .i64 0) ∧ Fr [] w w' := by
  have R1 := heap_alloc_new w (.cells #[.pointer (some ⟨p, 0, none⟩)] 27)
  have kb : (w.alloc (.cells #[.pointer (some ⟨p, 0, none⟩)] 27)).cell? ⟨w.heap.size, 0, none⟩ = some (.pointer (some ⟨p, 0, none⟩)) := (cell_of_row _ _ 0 _ _ _ R1).trans rfl
  have HA := Lib.hid ((Fr.refl [] w).alloc (.cells #[.pointer (some ⟨p, 0, none⟩)] 27))
  clear R1
  go_enter Tryz.func28, Tryz.ntmps28
  go_wp2_with fail
  go_ret
  exact ⟨rfl, HA.out⟩
theorem Emp.mono {R R' : Value → List UInt8 → Prop} (hR : ∀ v l, R v l → R' v l) {s M : Nat} {pg : Nat → List UInt8} {D : List Value} (h : Emp R s M pg D) : Emp R' s M pg D :=
  ⟨h.len, h.head.imp (fun ⟨v, a, b⟩ => ⟨v, a, hR _ _ b⟩) (fun ⟨v, a, b⟩ => ⟨v, a, hR _ _ b⟩), fun n hn => let ⟨v, a, b⟩ := h.page n hn; ⟨v, a, hR _ _ b⟩⟩
theorem Hed.mono {R R' : Value → List UInt8 → Prop} (hR : ∀ v l, R v l → R' v l) {s M : Nat} {ns : List Nat} {old new : Nat → List UInt8} {D : List Value} (h : Hed R s M ns old new D) : Hed R' s M ns old new D :=
  ⟨h.len, let ⟨v, a, b⟩ := h.head; ⟨v, a, hR _ _ b⟩, fun i n hi => let ⟨v, a, b⟩ := h.log i n hi; ⟨v, a, hR _ _ b⟩, fun n hn => (h.page n hn).imp (fun ⟨v, a, b⟩ => ⟨v, a, hR _ _ b⟩) (fun ⟨hm, v, a, b⟩ => ⟨hm, v, a, hR _ _ b⟩)⟩
theorem Inv.mono {R R' : Value → List UInt8 → Prop} (hR : ∀ v l, R v l → R' v l) {s M : Nat} {ns : List Nat} {old new : Nat → List UInt8} {D : List Value} (h : Inv R s M ns old new D) : Inv R' s M ns old new D := by
  rcases h with h | h | h
  · exact .inl (h.mono hR)
  · exact .inr (.inl (h.mono hR))
  · exact .inr (.inr (h.mono hR))
/-- A log that may crash: what stands in memory, and what each crash leaves. -/
structure LogOk (w : World) (p g bs bm s M : Nat) (F : List Value) (ops : List (Option (Nat × Value))) (ns : List Nat) (old new pg : Nat → List UInt8) : Prop where
  log : LogAt w p g s
  disk : DiskP w g bs bm F ops
  apart : p ∉ [g, bs, bm]
  play : Playable F ops
  good : AllGood (Dat [g, bs, bm] w) s M ns old new (F, []) ops
  emp : Emp (Dat [g, bs, bm] w) s M pg (Go.Proofs.YtcblfkojkdaepaaGreat.play F ops).1
  wait : (Go.Proofs.YtcblfkojkdaepaaGreat.play F ops).2 = []
  len : ops.length ≤ 1000
theorem AllGood.mono {R R' : Value → List UInt8 → Prop} (hR : ∀ v l, R v l → R' v l) {s M : Nat} {ns : List Nat} {old new : Nat → List UInt8} {st : List Value × List (Nat × Value)} {xs : List (Option (Nat × Value))} (h : AllGood R s M ns old new st xs) : AllGood R' s M ns old new st xs :=
  fun j hj D hD => (h j hj D hD).mono hR
theorem LogOk.fr {w w' : World} {p g bs bm s M : Nat} {F : List Value} {ops : List (Option (Nat × Value))} {ns : List Nat} {old new pg : Nat → List UInt8} (h : LogOk w p g bs bm s M F ops ns old new pg) {U : List Nat} (hf : Fr U w w') (hU : ∀ k ∈ U, w.heap.size ≤ k) : LogOk w' p g bs bm s M F ops ns old new pg :=
  have hR : ∀ v l, Dat [g, bs, bm] w v l → Dat [g, bs, bm] w' v l := fun _ _ hd => RdN.fr hd hf (fun k hk => .inr (hU k hk))
  ⟨h.log.fr hf (fun hm => by have := hU p hm; have := h.log.lt; omega), h.disk.fr hf hU, h.apart, h.play, h.good.mono hR, h.emp.mono hR, h.wait, h.len⟩
theorem playable_writes {F : List Value} {ops : List (Option (Nat × Value))} (hP : Playable F ops) (h0 : (play F ops).2 = []) (f : Nat → Nat) (hf : ∀ a b, a < b → f a < f b) (ks : List Nat) (hk : ks.Pairwise (· < ·)) (hlt : ∀ k ∈ ks, f k < F.length) (vs : List Value) (hv : ∀ v ∈ vs, ∃ a l c, v = .slice a l c) : Playable F (ops ++ (mkW f ks vs).map some) := by
  intro j n v hj
  rw [List.getElem?_append] at hj
  split at hj
  · rename_i hl
    rw [List.take_append_of_le_length (by omega)]
    exact hP j n v hj
  · rename_i hl
    have hrise := mkW_rise hf hk vs
    rw [List.getElem?_map] at hj
    obtain ⟨x, hx, he⟩ := Option.map_eq_some_iff.1 hj
    obtain rfl : x = (n, v) := Option.some.inj he
    have hmem := List.mem_of_getElem? hx
    obtain ⟨i, k, h1, h2, h3⟩ := mkW_mem hmem
    refine ⟨by rw [h3]; exact hlt k (List.mem_of_getElem? h1), fun q hq => ?_, hv v (List.mem_of_getElem? h2)⟩
    rw [List.take_append, List.take_of_length_le (by omega), ← List.map_take, play_writes h0] at hq
    obtain ⟨i', hi'⟩ := List.getElem?_of_mem hq
    rw [List.getElem?_take] at hi'
    split at hi'
    · obtain ⟨l1, e1⟩ := List.getElem?_eq_some_iff.1 hi'
      obtain ⟨l2, e2⟩ := List.getElem?_eq_some_iff.1 hx
      have := List.pairwise_iff_getElem.1 hrise i' (j - ops.length) l1 l2 (by assumption)
      rw [e1, e2] at this
      exact this
    · cases hi'
theorem playable_home {F : List Value} {ops : List (Option (Nat × Value))} (hP : Playable F ops) (h0 : (play F ops).2 = []) {s M : Nat} (hM : F.length = s + 1 + M) (ns : List Nat) (hr : ns.Pairwise (· < ·)) (hb : ∀ n ∈ ns, n < M) (vs : List Value) (vh : Value) (hv : ∀ v ∈ vh :: vs, ∃ a l c, v = .slice a l c) : Playable F (ops ++ homeOps s ns vs vh) := by
  have h1 := (playable_writes hP h0 (fun n => s + 1 + n) (by omega) ns hr (fun k hk => by have := hb k hk; omega) vs (fun v hv' => hv v (by simp [hv']))).snoc_f
  have h2 := (h1.snoc_w (n := 0) (v := vh) (by omega) (by rw [play_snoc, play_writes h0]; intro p hp; cases hp) (hv vh (by simp))).snoc_f
  have e : ops ++ homeOps s ns vs vh = ops ++ (mkW (fun n => s + 1 + n) ns vs).map some ++ [none] ++ [some (0, vh)] ++ [none] := by simp [homeOps]
  rw [e]; exact h2
theorem playable_com {F : List Value} {ops : List (Option (Nat × Value))} (hP : Playable F ops) (h0 : (play F ops).2 = []) {s M : Nat} (hM : F.length = s + 1 + M) (ns : List Nat) (hl : ns.length ≤ s) (hr : ns.Pairwise (· < ·)) (hb : ∀ n ∈ ns, n < M) (us : List Value) (uh : Value) (vs : List Value) (vh : Value) (hv : ∀ v ∈ uh :: vh :: (us ++ vs), ∃ a l c, v = .slice a l c) : Playable F (ops ++ comOps s ns us uh vs vh) := by
  have h1 := (playable_writes hP h0 (fun i => 1 + i) (by omega) (List.range ns.length) List.pairwise_lt_range (fun k hk => by have := List.mem_range.1 hk; omega) us (fun v hv' => hv v (by simp [hv']))).snoc_f
  have h2 := (h1.snoc_w (n := 0) (v := uh) (by omega) (by rw [play_snoc, play_writes h0]; intro p hp; cases hp) (hv uh (by simp))).snoc_f
  have h3 := playable_home h2 (by rw [play_snoc]; rfl) hM ns hr hb vs vh (fun v hv' => hv v (by rcases List.mem_cons.1 hv' with h | h <;> simp [h]))
  have e : ops ++ comOps s ns us uh vs vh = ops ++ (mkW (fun i => 1 + i) (List.range ns.length) us).map some ++ [none] ++ [some (0, uh)] ++ [none] ++ homeOps s ns vs vh := by simp [comOps]
  rw [e]; exact h3
end Go.Proofs.YtcblfkojkdaepaaGreat
