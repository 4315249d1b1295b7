/- A cache in memory; its look. -/
import Derived.Test.YtcblfkojkdaepaaGreatMapP
namespace Go.Proofs.YtcblfkojkdaepaaGreat
open Go.RowKit Go.ChangeMaps

/-- A cache's box: its log, how many at most, the two maps, the row. -/
def CacheAt (w : World) (c p most db cb : Nat) (rv : Value) : Prop := w.heap[c]? = some (.cells #[.pointer (some ⟨p, 0, none⟩), .int .i64 (most : Int), .map (some db), .map (some cb), rv] 64 (0, 0))
theorem CacheAt.fr {w w' : World} {c p most db cb : Nat} {rv : Value} {U : List Nat} (h : CacheAt w c p most db cb rv) (hf : Fr U w w') (hU : c ∉ U) : CacheAt w' c p most db cb rv := hf.heap hU h
set_option maxRecDepth 100000 in
set_option maxHeartbeats 2000000 in
theorem look_any (w : World) {c p most db cb g bs bm s M : Nat} {rv : Value} {F O S : List Value} {T : List Ent} (C : CacheAt w c p most db cb rv) (L : LogAt w p g s) (D : DiskAt w g bs bm F O S T) (hM : F.length = s + 1 + M) (hF : F.length ≤ 4096) (n : Nat) (hn : n < M) :
    Calls Tryz.prog 54 #[.pointer (some ⟨c, 0, none⟩), .int .i64 (n : Int)] w fun e w' => e = .returned (.int .i64 0) ∧ ∃ q, w' = w.drewN q := by
  have k0 : w.cell? ⟨c, 0, none⟩ = some (.pointer (some ⟨p, 0, none⟩)) := (cell_of_row w c 0 _ _ _ C).trans rfl
  have HP := Lib.hid (pages_any w L D hM hF)
  have i0 : (0 : Int) ≤ (n : Int) := by omega
  have i1 : (n : Int) < (M : Int) := by omega
  clear C L D hM hF
  go_enter Tryz.func54, Tryz.ntmps54
  go_wp2_with fail
  refine HP.out.mono ?_
  rintro r w1 ⟨rfl, q, rfl⟩
  clear HP k0
  go_wp2_with fail
  go_ret
  exact ⟨rfl, q, rfl⟩
set_option maxRecDepth 100000 in
set_option maxHeartbeats 1000000 in
theorem room_any (w : World) {c p most db cb g s cl : Nat} {rv : Value} {T : List Ent} (C : CacheAt w c p most db cb rv) (L : LogAt w p g s) (hs : s ≤ 100) (hm : w.heap[db]? = some (.map (T.map Ent.obj).toArray cl)) (hT : T.length ≤ 100) :
    Calls Tryz.prog 53 #[.pointer (some ⟨c, 0, none⟩)] w fun e w' => e = .returned (.int .i64 ((s : Int) - (T.length : Int))) ∧ ∃ q, w' = w.drewN q := by
  have k0 : w.cell? ⟨c, 0, none⟩ = some (.pointer (some ⟨p, 0, none⟩)) := (cell_of_row w c 0 _ _ _ C).trans rfl
  have k2 : w.cell? ⟨c, 2, none⟩ = some (.map (some db)) := (cell_of_row w c 2 _ _ _ C).trans rfl
  have HC := Lib.hid (fun q => show Calls Tryz.prog 49 #[.pointer (some ⟨p, 0, none⟩)] (w.drewN q) fun e w'' => e = .returned (.int .i64 (s : Int)) ∧ ∃ r, w'' = w.drewN r from
    (capacity_any (w.drewN q) (L.fr (U := []) (Fr.drewN w q) (by simp)) hs).mono fun e w' h => ⟨h.1, q, h.2⟩)
  have b0 : (s : Int) ≤ 100 := by omega
  have b1 : (T.length : Int) ≤ 100 := by omega
  clear C L hs
  go_enter Tryz.func53, Tryz.ntmps53
  go_wp2_with fail
  refine wp_region_quiet_lit (by kernel_rfl) (by kernel_rfl) ?_
  iterate 4 (go_big_quiet_step (fail))
  go_big_quiet_step (exact HC.out _)
  iterate 4 (go_big_quiet_step (fail))
  have hln : ∀ (q : Nat) (ty : TypeId), (Builtin.len_ #[62] ty #[.map (some db)]).run Tryz.prog (w.drewN q) = .ok (.int .i64 (T.length : Int)) (w.drewN q) := fun q ty => by
    have hb : (w.drewN q).heap[db]? = some (.map (T.map Ent.obj).toArray cl) := hm
    simp [Builtin.len_, run_underlying Tryz.underlying62, Go.MapKept.run_getObj_map hb, Result.andThen, goInt]
  repeat (go_big_quiet_step (fail))
  refine wpQuiet_nil ?_
  intro w' hw'
  obtain ⟨nq, rfl⟩ := hw'
  clear HC hln
  go_wp2_with fail
  go_ret
  exact ⟨rfl, nq, rfl⟩
end Go.Proofs.YtcblfkojkdaepaaGreat
/- A cache over a log over a disk, in memory: its state, and what may turn beside it. -/
namespace Go.Proofs.YtcblfkojkdaepaaGreat
open Go.RowKit Go.ChangeMaps

/-- What is read stays, where what turns is new, or avoided, or too small, or of another kind. -/
theorem RdN.kept {t : TypeId} {A U : List Nat} {w w' : World} {v : Value} {xs : List Value} (h : RdN t A w v xs) (hf : Fr U w w') (hU : ∀ k ∈ U, w.heap.size ≤ k ∨ k ∈ A ∨ ∀ cs fr, w.heap[k]? = some (.cells cs t fr) → cs.size < xs.length) : RdN t A w' v xs := by
  rcases h with h | ⟨b, off, cap, hv, hle, hb, ⟨cs, fr, hh⟩, hc⟩
  · exact .inl h
  · have hbU : b ∉ U := fun hm => by
      rcases hU b hm with h | h | h
      · have := (Array.getElem?_eq_some_iff.1 hh).1; omega
      · exact hb h
      · have hs := h cs fr hh
        have hl : 0 < xs.length := by omega
        have hj := hc (xs.length - 1) _ (List.getElem?_eq_getElem (by omega))
        have hj2 : (w.heap[b]?.bind fun o => match o with | .cells cs _ _ => cs[off + (xs.length - 1)]? | _ => none) = some (xs[xs.length - 1]'(by omega)) := by
          rw [hh]
          by_cases hf0 : fr = (0, 0)
          · subst hf0
            rw [cell_of_row w b _ _ _ _ hh] at hj
            exact hj
          · simpa [World.cell?, hh] using hj
        rw [hh] at hj2
        have := (Array.getElem?_eq_some_iff.1 hj2).1
        omega
    exact .inr ⟨b, off, cap, hv, hle, hb, ⟨cs, fr, hf.heap hbU hh⟩, fun j u hj => hf.cell (p := ⟨b, off + j, none⟩) hbU (hc j u hj)⟩
/-- Blocks of other kinds are off it. -/
theorem RdN.plus {t : TypeId} {A B : List Nat} {w : World} {v : Value} {xs : List Value} (h : RdN t A w v xs) (hB : ∀ k ∈ B, ∀ cs fr, w.heap[k]? ≠ some (.cells cs t fr)) : RdN t B w v xs := by
  rcases h with h | ⟨b, off, cap, hv, hle, hb, ⟨cs, fr, hh⟩, hc⟩
  · exact .inl h
  · exact .inr ⟨b, off, cap, hv, hle, fun hm => hB b hm cs fr hh, ⟨cs, fr, hh⟩, hc⟩
/-- Two rows of unlike elements lie in unlike blocks; so do a row and a map. -/
theorem ne_ty {w : World} {a b : Nat} {cs cs' : Array Value} {t t' : TypeId} {fr fr' : Nat × Nat} (h1 : w.heap[a]? = some (.cells cs t fr)) (h2 : w.heap[b]? = some (.cells cs' t' fr')) (ht : t ≠ t') : a ≠ b := by
  rintro rfl
  rw [h1] at h2
  simp only [Option.some.injEq, Obj.cells.injEq] at h2
  exact ht h2.2.1
theorem ne_map {w : World} {a b : Nat} {cs : Array Value} {t : TypeId} {fr : Nat × Nat} {es : Array MapEntry} {cl : Nat} (h1 : w.heap[a]? = some (.cells cs t fr)) (h2 : w.heap[b]? = some (.map es cl)) : a ≠ b := by
  rintro rfl
  rw [h1] at h2
  cases h2
/-- What may turn beside a disk. -/
def FarD (S : List Nat) (w : World) (k : Nat) : Prop := w.heap.size ≤ k ∨ (k ∉ S ∧ ∀ cs t fr, w.heap[k]? = some (.cells cs t fr) → t ≠ 46 ∧ t ≠ 149)
theorem DiskAt.far {w w' : World} {g bs bm : Nat} {F O S : List Value} {T : List Ent} {U : List Nat} (D : DiskAt w g bs bm F O S T) (h : Fr U w w') (hU : ∀ k ∈ U, FarD [g, bs, bm] w k) : DiskAt w' g bs bm F O S T := by
  have hl := D.lt
  have ho : ∀ b ∈ [g, bs, bm], b ∉ U := fun b hb hm => by
    rcases hU b hm with h | h
    · simp at hb; omega
    · exact h.1 hb
  have h1 : ∀ k ∈ U, ∀ n, w.heap.size ≤ k ∨ k ∈ [g, bs, bm] ∨ ∀ cs fr, w.heap[k]? = some (.cells cs 46 fr) → cs.size < n := fun k hk n => (hU k hk).imp id fun h => .inr fun cs fr e => absurd rfl (h.2 _ _ _ e).1
  have h2 : ∀ k ∈ U, ∀ n, w.heap.size ≤ k ∨ k ∈ [g, bs, bm] ∨ ∀ cs fr, w.heap[k]? = some (.cells cs 149 fr) → cs.size < n := fun k hk n => (hU k hk).imp id fun h => .inr fun cs fr e => absurd rfl (h.2 _ _ _ e).2
  obtain ⟨fv, lv, sc, b1, b2, b3, b4⟩ := D.box
  obtain ⟨cs, r1, r2, r3⟩ := D.row
  obtain ⟨cl, m1, m2, m3⟩ := D.map
  exact ⟨⟨fv, lv, sc, h.heap (ho _ (by simp)) b1, b2.kept h (fun k hk => h1 k hk _), b3.kept h (fun k hk => h2 k hk _), b4⟩, ⟨cs, h.heap (ho _ (by simp)) r1, r2, r3⟩, ⟨cl, h.heap (ho _ (by simp)) m1, m2, m3⟩, fun e he => (D.ents e he).kept h (fun k hk => h1 k hk _), D.keys, D.len, D.keyLt, D.one, D.oneE, D.apart⟩
theorem DiskP.far {w w' : World} {g bs bm : Nat} {F : List Value} {ops : List (Option (Nat × Value))} {U : List Nat} (D : DiskP w g bs bm F ops) (h : Fr U w w') (hU : ∀ k ∈ U, FarD [g, bs, bm] w k) : DiskP w' g bs bm F ops := by
  obtain ⟨T, D, hk⟩ := D
  exact ⟨T, D.far h hU, hk⟩
/-- A cache's row of numbers. -/
def RowZ (w : World) (rv : Value) (row : List Nat) : Prop := w.ownsRow 0 3 1 rv row.length (row.map fun (n : Nat) => Value.int .i64 (n : Int))
def updF (f : Nat → List UInt8) (n : Nat) (l : List UInt8) : Nat → List UInt8 := fun k => if k = n then l else f k
/-- The rows of numbers. -/
def intRows (w : World) : List Nat := (List.range w.heap.size).filter fun k => match w.heap[k]? with | some (.cells _ t _) => t == 3 | _ => false
theorem mem_intRows {w : World} {k : Nat} : k ∈ intRows w ↔ ∃ cs fr, w.heap[k]? = some (.cells cs 3 fr) := by
  unfold intRows
  rw [List.mem_filter, List.mem_range]
  constructor
  · rintro ⟨h1, h2⟩
    split at h2
    · rename_i cs t fr e
      have : t = 3 := by simpa using h2
      subst this
      exact ⟨cs, fr, e⟩
    · cases h2
  · rintro ⟨cs, fr, e⟩
    refine ⟨(Array.getElem?_eq_some_iff.1 e).1, ?_⟩
    rw [e]; simp
/-- Nothing that was there has turned, but the blocks of S, and rows of numbers. -/
def FrI (S : List Nat) (w w' : World) : Prop := Fr (S ++ intRows w) w w'
theorem FrI.of {S T : List Nat} {w w' : World} (h : Fr T w w') (hT : ∀ k ∈ T, w.heap.size ≤ k ∨ k ∈ S ∨ k ∈ intRows w) : FrI S w w' :=
  h.mono fun k hk => by
    rcases hT k hk with h | h | h
    · exact .inr h
    · exact .inl (List.mem_append_left _ h)
    · exact .inl (List.mem_append_right _ h)
theorem FrI.refl (S : List Nat) (w : World) : FrI S w w := Fr.refl _ _
theorem FrI.size {S : List Nat} {w w' : World} (h : FrI S w w') : w.heap.size ≤ w'.heap.size := Fr.size h
theorem FrI.trans {S : List Nat} {a b c : World} (h : FrI S a b) (k : FrI S b c) : FrI S a c :=
  ⟨k.os.trans h.os, k.tape.trans h.tape, k.output.trans h.output, Nat.le_trans h.size k.size, fun i hi hn => by
    have h1 := h.block i hi hn
    refine (k.block i (Nat.lt_of_lt_of_le hi h.size) (fun hm => ?_)).trans h1
    rcases List.mem_append.1 hm with hm | hm
    · exact hn (List.mem_append_left _ hm)
    · obtain ⟨cs, fr, e⟩ := mem_intRows.1 hm
      exact hn (List.mem_append_right _ (mem_intRows.2 ⟨cs, fr, h1 ▸ e⟩))⟩
theorem FrI.mono {S S' : List Nat} {w w' : World} (h : FrI S w w') (hs : ∀ k ∈ S, k ∈ S' ∨ w.heap.size ≤ k) : FrI S' w w' :=
  Fr.mono h fun k hk => by
    rcases List.mem_append.1 hk with h | h
    · exact (hs k h).imp (fun h => List.mem_append_left _ h) id
    · exact .inl (List.mem_append_right _ h)
theorem FrI.heap {S : List Nat} {w w' : World} (h : FrI S w w') {b : Nat} {cs : Array Value} {t : TypeId} {fr : Nat × Nat} (hp : b ∉ S) (ht : t ≠ 3) (hc : w.heap[b]? = some (.cells cs t fr)) : w'.heap[b]? = some (.cells cs t fr) :=
  Fr.heap h (fun hm => by
    rcases List.mem_append.1 hm with hm | hm
    · exact hp hm
    · obtain ⟨cs', fr', e⟩ := mem_intRows.1 hm
      rw [hc] at e
      simp only [Option.some.injEq, Obj.cells.injEq] at e
      exact ht e.2.1) hc
theorem FrI.map {S : List Nat} {w w' : World} (h : FrI S w w') {b : Nat} {es : Array MapEntry} {cl : Nat} (hp : b ∉ S) (hc : w.heap[b]? = some (.map es cl)) : w'.heap[b]? = some (.map es cl) :=
  Fr.heap h (fun hm => by
    rcases List.mem_append.1 hm with hm | hm
    · exact hp hm
    · obtain ⟨cs', fr', e⟩ := mem_intRows.1 hm
      rw [hc] at e; cases e) hc
/-- A cache: its log, what the pages are on it (pg), what they are for who reads (cur); A: blocks of bytes that are none of its pages. -/
structure CSt (A : List Nat) (w : World) (c p db cb g bs bm s M most dm cm : Nat) (rv : Value) (row : List Nat) (F : List Value) (ops : List (Option (Nat × Value))) (df cf : Nat → Option Value) (pg cur : Nat → List UInt8) : Prop where
  box : CacheAt w c p most db cb rv
  log : LogAt w p g s
  disk : DiskP w g bs bm F ops
  play : Playable F ops
  wait : (Go.Proofs.YtcblfkojkdaepaaGreat.play F ops).2 = []
  emp : Emp (Dat A w) s M pg (Go.Proofs.YtcblfkojkdaepaaGreat.play F ops).1
  dirty : MapP w db df dm
  clean : MapP w cb cf cm
  dd : ∀ n v, df n = some v → n < M ∧ Dat A w v (cur n)
  cc : ∀ n v, cf n = some v → n < M ∧ df n = none ∧ Dat A w v (pg n)
  nd : ∀ n, df n = none → cur n = pg n
  rown : RowZ w rv row
  rlen : row.length ≤ most
  apart : db ≠ cb ∧ db ≠ bm ∧ cb ≠ bm
  len5 : ∀ n, n < M → (cur n).length = 512 ∧ (pg n).length = 512
  size : F.length = s + 1 + M ∧ F.length ≤ 4096 ∧ 0 < s ∧ s ≤ 100 ∧ 0 < M ∧ 0 < most ∧ most ≤ 64
  avoid : ∀ k ∈ A, k < w.heap.size
/-- The blocks of a cache. -/
def cSt (c p db cb g bs bm : Nat) (rv : Value) : List Nat := [c, p, db, cb, g, bs, bm] ++ rv.ownBlock.toList
/-- What may turn beside a cache. -/
def Far (A S : List Nat) (w : World) (k : Nat) : Prop := w.heap.size ≤ k ∨ (k ∉ S ∧ ∀ cs t fr, w.heap[k]? = some (.cells cs t fr) → t ≠ 46 ∧ t ≠ 149 ∧ (t = 5 → k ∈ A ∨ cs.size < 512))
theorem dat_kept {A U : List Nat} {w w' : World} {v : Value} {l : List UInt8} (h : Dat A w v l) (hl : 512 ≤ l.length) (hf : Fr U w w') (hU : ∀ k ∈ U, w.heap.size ≤ k ∨ ∀ cs t fr, w.heap[k]? = some (.cells cs t fr) → t = 5 → k ∈ A ∨ cs.size < 512) : Dat A w' v l :=
  RdN.kept h hf fun k hk => (hU k hk).imp id fun h => by
    by_cases hA : k ∈ A
    · exact .inl hA
    · exact .inr fun cs fr e => by
        have := (h _ _ _ e rfl).resolve_left hA
        rw [List.length_map]; omega
theorem emp_kept {A U : List Nat} {w w' : World} {s M : Nat} {pg : Nat → List UInt8} {D : List Value} (h : Emp (Dat A w) s M pg D) (hl : ∀ n, n < M → (pg n).length = 512) (hf : Fr U w w') (hU : ∀ k ∈ U, w.heap.size ≤ k ∨ ∀ cs t fr, w.heap[k]? = some (.cells cs t fr) → t = 5 → k ∈ A ∨ cs.size < 512) : Emp (Dat A w') s M pg D :=
  ⟨h.len, h.head.imp (fun ⟨v, a, b⟩ => ⟨v, a, dat_kept b (Nat.le_of_eq zBytes_len.symm) hf hU⟩) (fun ⟨v, a, b⟩ => ⟨v, a, dat_kept b (Nat.le_of_eq (hdB_len [] (by simp)).symm) hf hU⟩), fun n hn => let ⟨v, a, b⟩ := h.page n hn; ⟨v, a, dat_kept b (Nat.le_of_eq (hl n hn).symm) hf hU⟩⟩
theorem RowZ.fr {w w' : World} {rv : Value} {row : List Nat} {U : List Nat} (h : RowZ w rv row) (hf : Fr U w w') (hU : ∀ k ∈ U, w.heap.size ≤ k ∨ k ∉ rv.ownBlock.toList) : RowZ w' rv row := by
  obtain ⟨h1, h2⟩ := h
  refine ⟨h1, h2.imp id ?_⟩
  rintro ⟨b, cap, cur, rfl, hb, hh, hr⟩
  have hbU : b ∉ U := fun hm => by
    rcases hU b hm with h | h
    · have := (Array.getElem?_eq_some_iff.1 hh).1; omega
    · exact h (by simp [Value.ownBlock])
  exact ⟨b, cap, cur, rfl, hb, hf.heap hbU hh, hr⟩
theorem RowZ.lt {w : World} {rv : Value} {row : List Nat} (h : RowZ w rv row) : ∀ k ∈ rv.ownBlock.toList, k < w.heap.size ∧ ∃ cs, w.heap[k]? = some (.cells cs 3 (0, 0)) := by
  intro k hk
  rcases h.2 with ⟨rfl, _⟩ | ⟨b, cap, cur, rfl, hb, hh, hr⟩
  · simp [Value.ownBlock] at hk
  · simp [Value.ownBlock] at hk
    subst hk
    exact ⟨(Array.getElem?_eq_some_iff.1 hh).1, _, hh⟩
section
variable {A : List Nat} {w : World} {c p db cb g bs bm s M most dm cm : Nat} {rv : Value} {row : List Nat} {F : List Value} {ops : List (Option (Nat × Value))} {df cf : Nat → Option Value} {pg cur : Nat → List UInt8}
theorem CSt.lt (h : CSt A w c p db cb g bs bm s M most dm cm rv row F ops df cf pg cur) : ∀ k ∈ cSt c p db cb g bs bm rv, k < w.heap.size := by
  intro k hk
  have h1 := (Array.getElem?_eq_some_iff.1 (show w.heap[c]? = _ from h.box)).1
  have h2 := h.log.lt
  have h3 := h.disk.lt
  have h4 := h.dirty.lt
  have h5 := h.clean.lt
  unfold cSt at hk
  rcases List.mem_append.1 hk with hk | hk
  · simp at hk; omega
  · exact (h.rown.lt k hk).1
/-- All its blocks are of their kinds. -/
theorem CSt.kinds (h : CSt A w c p db cb g bs bm s M most dm cm rv row F ops df cf pg cur) : c ≠ p ∧ c ≠ db ∧ c ≠ cb ∧ c ≠ g ∧ c ≠ bs ∧ c ≠ bm ∧ p ≠ db ∧ p ≠ cb ∧ p ≠ g ∧ p ≠ bs ∧ p ≠ bm ∧ db ≠ g ∧ db ≠ bs ∧ cb ≠ g ∧ cb ≠ bs ∧ ∀ k ∈ rv.ownBlock.toList, k ≠ c ∧ k ≠ p ∧ k ≠ db ∧ k ≠ cb ∧ k ≠ g ∧ k ≠ bs ∧ k ≠ bm := by
  have hc : w.heap[c]? = _ := h.box
  obtain ⟨_, hp⟩ := h.log
  obtain ⟨T, D, _⟩ := h.disk
  obtain ⟨_, _, _, hg, _⟩ := D.box
  obtain ⟨_, hbs, _⟩ := D.row
  obtain ⟨_, hbm, _⟩ := D.map
  obtain ⟨_, _, hdb, _⟩ := h.dirty
  obtain ⟨_, _, hcb, _⟩ := h.clean
  refine ⟨ne_ty hc hp (by decide), ne_map hc hdb, ne_map hc hcb, ne_ty hc hg (by decide), ne_ty hc hbs (by decide), ne_map hc hbm, ne_map hp hdb, ne_map hp hcb, ne_ty hp hg (by decide), ne_ty hp hbs (by decide), ne_map hp hbm, (ne_map hg hdb).symm, (ne_map hbs hdb).symm, (ne_map hg hcb).symm, (ne_map hbs hcb).symm, fun k hk => ?_⟩
  obtain ⟨_, _, hr⟩ := h.rown.lt k hk
  exact ⟨ne_ty hr hc (by decide), ne_ty hr hp (by decide), ne_map hr hdb, ne_map hr hcb, ne_ty hr hg (by decide), ne_ty hr hbs (by decide), ne_map hr hbm⟩
/-- What happens beside a cache is nothing to it. -/
theorem CSt.fr (h : CSt A w c p db cb g bs bm s M most dm cm rv row F ops df cf pg cur) {w' : World} {U : List Nat} (hf : Fr U w w') (hU : ∀ k ∈ U, Far A (cSt c p db cb g bs bm rv) w k) : CSt A w' c p db cb g bs bm s M most dm cm rv row F ops df cf pg cur := by
  have hlt := h.lt
  have ho : ∀ b ∈ cSt c p db cb g bs bm rv, b ∉ U := fun b hb hm => by
    rcases hU b hm with h | h
    · have := hlt b hb; omega
    · exact h.1 hb
  have hD : ∀ k ∈ U, FarD [g, bs, bm] w k := fun k hk => (hU k hk).imp id fun h => ⟨fun hm => h.1 (by unfold cSt; simp at hm ⊢; omega), fun cs t fr e => ⟨(h.2 cs t fr e).1, (h.2 cs t fr e).2.1⟩⟩
  have hB : ∀ k ∈ U, w.heap.size ≤ k ∨ ∀ cs t fr, w.heap[k]? = some (.cells cs t fr) → t = 5 → k ∈ A ∨ cs.size < 512 := fun k hk => (hU k hk).imp id fun h cs t fr e => (h.2 cs t fr e).2.2
  refine ⟨h.box.fr hf (ho _ (by simp [cSt])), h.log.fr hf (ho _ (by simp [cSt])), h.disk.far hf hD, h.play, h.wait, emp_kept h.emp (fun n hn => (h.len5 n hn).2) hf hB, h.dirty.fr hf (ho _ (by simp [cSt])), h.clean.fr hf (ho _ (by simp [cSt])), fun n v e => ?_, fun n v e => ?_, h.nd, h.rown.fr hf (fun k hk => ?_), h.rlen, h.apart, h.len5, h.size, fun k hk => Nat.lt_of_lt_of_le (h.avoid k hk) hf.size⟩
  · obtain ⟨h1, h2⟩ := h.dd n v e
    exact ⟨h1, dat_kept h2 (Nat.le_of_eq (h.len5 n h1).1.symm) hf hB⟩
  · obtain ⟨h0, h1, h2⟩ := h.cc n v e
    exact ⟨h0, h1, dat_kept h2 (Nat.le_of_eq (h.len5 n h0).2.symm) hf hB⟩
  · rcases hU k hk with h | h
    · exact .inl h
    · exact .inr fun hm => h.1 (by unfold cSt; exact List.mem_append_right _ hm)
theorem CSt.frI (h : CSt A w c p db cb g bs bm s M most dm cm rv row F ops df cf pg cur) {S : List Nat} {w' : World} (f : Fr (S ++ rv.ownBlock.toList) w w') : FrI S w w' :=
  FrI.of f (fun k hk => .inr (by
    rcases List.mem_append.1 hk with hk | hk
    · exact .inl hk
    · obtain ⟨_, cs, e⟩ := h.rown.lt k hk
      exact .inr (mem_intRows.2 ⟨cs, _, e⟩)))
/-- Its disk's blocks are none of the others. -/
theorem CSt.off (h : CSt A w c p db cb g bs bm s M most dm cm rv row F ops df cf pg cur) : c ∉ [g, bs, bm] ∧ p ∉ [g, bs, bm] ∧ db ∉ [g, bs, bm] ∧ cb ∉ [g, bs, bm] ∧ ∀ k ∈ rv.ownBlock.toList, k ∉ [g, bs, bm] := by
  obtain ⟨k1, k2, k3, k4, k5, k6, k7, k8, k9, k10, k11, k12, k13, k14, k15, k16⟩ := h.kinds
  have ha := h.apart
  refine ⟨by simp [k4, k5, k6], by simp [k9, k10, k11], by simp [k12, k13, ha.2.1], by simp [k14, k15, ha.2.2], fun k hk => ?_⟩
  have := k16 k hk
  simp [this.2.2.2.2.1, this.2.2.2.2.2.1, this.2.2.2.2.2.2]
/-- Its own boxes are none of its disk's blocks, and of other kinds. -/
theorem CSt.own_far (h : CSt A w c p db cb g bs bm s M most dm cm rv row F ops df cf pg cur) : ∀ k ∈ [c, db, cb] ++ rv.ownBlock.toList, k ∉ [p, g, bs, bm] ∧ ∀ cs t fr, w.heap[k]? = some (.cells cs t fr) → t ≠ 46 ∧ t ≠ 149 ∧ t ≠ 5 := by
  obtain ⟨k1, k2, k3, k4, k5, k6, k7, k8, k9, k10, k11, k12, k13, k14, k15, k16⟩ := h.kinds
  have ha := h.apart
  have hc : w.heap[c]? = _ := h.box
  obtain ⟨_, _, hdb, _⟩ := h.dirty
  obtain ⟨_, _, hcb, _⟩ := h.clean
  intro k hk
  rcases List.mem_append.1 hk with hk | hk
  · simp only [List.mem_cons, List.not_mem_nil, or_false] at hk
    rcases hk with rfl | rfl | rfl
    · refine ⟨by simp; omega, fun cs t fr e => ?_⟩
      rw [hc] at e
      simp only [Option.some.injEq, Obj.cells.injEq] at e
      obtain ⟨_, rfl, _⟩ := e
      decide
    · refine ⟨by simp; omega, fun cs t fr e => ?_⟩
      rw [hdb] at e; cases e
    · refine ⟨by simp; omega, fun cs t fr e => ?_⟩
      rw [hcb] at e; cases e
  · have := k16 k hk
    refine ⟨by simp; omega, fun cs t fr e => ?_⟩
    obtain ⟨_, _, hr⟩ := h.rown.lt k hk
    rw [hr] at e
    simp only [Option.some.injEq, Obj.cells.injEq] at e
    obtain ⟨_, rfl, _⟩ := e
    decide
set_option maxHeartbeats 1000000 in
/-- A cache again, where only its box, its clean ones and rows of numbers have turned. -/
theorem CSt.re (h : CSt A w c p db cb g bs bm s M most dm cm rv row F ops df cf pg cur) {w8 : World} (f : FrI [c, cb] w w8) {rv8 : Value} {row8 : List Nat} {cf8 : Nat → Option Value} {cm8 : Nat} (C8 : CacheAt w8 c p most db cb rv8) (K8 : MapP w8 cb cf8 cm8) (Z8 : RowZ w8 rv8 row8) (hl : row8.length ≤ most) {n : Nat} {b : Value} (hn : n < M) (hd : df n = none) (hb : Dat A w8 b (pg n)) (hcc : ∀ k v, cf8 k = some v → cf k = some v ∨ (k = n ∧ v = b)) :
    CSt A w8 c p db cb g bs bm s M most dm cm8 rv8 row8 F ops df cf8 pg cur := by
  have hk := h.kinds
  have hap := h.apart
  have hc : w.heap[c]? = _ := h.box
  obtain ⟨_, _, hdb, _⟩ := h.dirty
  obtain ⟨_, _, hcb, _⟩ := h.clean
  have hfar : ∀ k ∈ [c, cb] ++ intRows w, ∀ cs t fr, w.heap[k]? = some (.cells cs t fr) → t ≠ 46 ∧ t ≠ 149 ∧ t ≠ 5 := fun k hk cs t fr e => by
    rcases List.mem_append.1 hk with hk | hk
    · simp only [List.mem_cons, List.not_mem_nil, or_false] at hk
      rcases hk with rfl | rfl
      · rw [hc] at e
        simp only [Option.some.injEq, Obj.cells.injEq] at e
        obtain ⟨_, rfl, _⟩ := e
        decide
      · rw [hcb] at e; cases e
    · obtain ⟨cs', fr', e'⟩ := mem_intRows.1 hk
      rw [e'] at e
      simp only [Option.some.injEq, Obj.cells.injEq] at e
      obtain ⟨_, rfl, _⟩ := e
      decide
  have hoff : ∀ k ∈ [p, g, bs, bm, db], k ∉ [c, cb] ++ intRows w := fun k hk' hm => by
    rcases List.mem_append.1 hm with hm | hm
    · obtain ⟨k1, k2, k3, k4, k5, k6, k7, k8, k9, k10, k11, k12, k13, k14, k15, k16⟩ := hk
      have q1 := k8.symm
      have q2 := hap.1.symm
      have q3 := hap.2.2
      simp only [List.mem_cons, List.not_mem_nil, or_false] at hm hk'
      clear hc hdb hcb hfar k16 hap h f C8 K8 Z8 hb hcc
      rcases hm with rfl | rfl <;> rcases hk' with e | e | e | e | e <;> contradiction
    · obtain ⟨cs, fr, e⟩ := mem_intRows.1 hm
      obtain ⟨_, hp⟩ := h.log
      obtain ⟨T, D, _⟩ := h.disk
      obtain ⟨_, _, _, hg, _⟩ := D.box
      obtain ⟨_, hbs, _⟩ := D.row
      obtain ⟨_, hbm, _⟩ := D.map
      simp only [List.mem_cons, List.not_mem_nil, or_false] at hk'
      rcases hk' with rfl | rfl | rfl | rfl | rfl
      · exact ne_ty e hp (by decide) rfl
      · exact ne_ty e hg (by decide) rfl
      · exact ne_ty e hbs (by decide) rfl
      · exact ne_map e hbm rfl
      · exact ne_map e hdb rfl
  have hD : ∀ k ∈ [c, cb] ++ intRows w, FarD [g, bs, bm] w k := fun k hk => .inr ⟨fun hm => hoff k (by simp at hm ⊢; omega) hk, fun cs t fr e => ⟨(hfar k hk cs t fr e).1, (hfar k hk cs t fr e).2.1⟩⟩
  have hB : ∀ k ∈ [c, cb] ++ intRows w, w.heap.size ≤ k ∨ ∀ cs t fr, w.heap[k]? = some (.cells cs t fr) → t = 5 → k ∈ A ∨ cs.size < 512 := fun k hk => .inr fun cs t fr e q => absurd q (hfar k hk cs t fr e).2.2
  refine ⟨C8, h.log.fr f (hoff p (by simp)), h.disk.far f hD, h.play, h.wait, emp_kept h.emp (fun n hn => (h.len5 n hn).2) f hB, h.dirty.fr f (hoff db (by simp)), K8, fun k v e => ?_, fun k v e => ?_, h.nd, Z8, hl, h.apart, h.len5, h.size, fun k hk => Nat.lt_of_lt_of_le (h.avoid k hk) f.size⟩
  · obtain ⟨q1, q2⟩ := h.dd k v e
    exact ⟨q1, dat_kept q2 (Nat.le_of_eq (h.len5 k q1).1.symm) f hB⟩
  · rcases hcc k v e with e | ⟨rfl, rfl⟩
    · obtain ⟨q0, q1, q2⟩ := h.cc k v e
      exact ⟨q0, q1, dat_kept q2 (Nat.le_of_eq (h.len5 k q0).2.symm) f hB⟩
    · exact ⟨hn, hd, hb⟩
/-- A new row of bytes is none of its pages. -/
theorem CSt.more (h : CSt A w c p db cb g bs bm s M most dm cm rv row F ops df cf pg cur) {w' : World} {q : Nat} (hf : Fr [] w w') (hq : w.heap.size ≤ q) (hq' : q < w'.heap.size) : CSt (q :: A) w' c p db cb g bs bm s M most dm cm rv row F ops df cf pg cur := by
  have h' := h.fr hf (by simp)
  have hto : ∀ v l, Dat A w v l → Dat (q :: A) w' v l := fun v l hd => RdN.fr (S := q :: A) (hd.to (fun k hk => by
    rcases List.mem_cons.1 hk with rfl | hk
    · exact .inr hq
    · exact .inl hk)) hf (by simp)
  exact ⟨h'.box, h'.log, h'.disk, h'.play, h'.wait, ⟨h.emp.len, h.emp.head.imp (fun ⟨v, a, b⟩ => ⟨v, a, hto _ _ b⟩) (fun ⟨v, a, b⟩ => ⟨v, a, hto _ _ b⟩), fun n hn => let ⟨v, a, b⟩ := h.emp.page n hn; ⟨v, a, hto _ _ b⟩⟩, h'.dirty, h'.clean, fun n v e => ⟨(h.dd n v e).1, hto _ _ (h.dd n v e).2⟩, fun n v e => ⟨(h.cc n v e).1, (h.cc n v e).2.1, hto _ _ (h.cc n v e).2.2⟩, h.nd, h'.rown, h.rlen, h.apart, h.len5, h.size, fun k hk => by
    rcases List.mem_cons.1 hk with rfl | hk
    · exact hq'
    · exact h'.avoid k hk⟩
end
end Go.Proofs.YtcblfkojkdaepaaGreat
