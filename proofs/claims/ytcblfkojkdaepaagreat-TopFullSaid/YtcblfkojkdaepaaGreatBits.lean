/- The cache of TopFull: its state in one word, what each call makes of it. -/
import Derived.Test.YtcblfkojkdaepaaGreatCNew
import Derived.Test.YtcblfkojkdaepaaGreatDk
import Derived.Test.YtcblfkojkdaepaaGreatFlushOn
import Derived.Scope
namespace Go.Proofs.YtcblfkojkdaepaaGreat
open Go.RowKit Go.ChangeMaps

/-- What may turn beside a cache: boxes of slices too. -/
def Far2 (A S : List Nat) (L : Nat) (w : World) (k : Nat) : Prop := w.heap.size ≤ k ∨ (k ∉ S ∧ ∀ cs t fr, w.heap[k]? = some (.cells cs t fr) → (t = 46 → cs.size < L) ∧ t ≠ 149 ∧ (t = 5 → k ∈ A ∨ cs.size < 512))
theorem DiskAt.far0 {w w' : World} {g bs bm : Nat} {F O S : List Value} {U : List Nat} (D : DiskAt w g bs bm F O S []) (h : Fr U w w') (hU : ∀ k ∈ U, w.heap.size ≤ k ∨ (k ∉ [g, bs, bm] ∧ ∀ cs t fr, w.heap[k]? = some (.cells cs t fr) → (t = 46 → cs.size < F.length) ∧ t ≠ 149)) : DiskAt w' g bs bm F O S [] := by
  have hl := D.lt
  have ho : ∀ b ∈ [g, bs, bm], b ∉ U := fun b hb hm => by
    rcases hU b hm with h | h
    · simp at hb; omega
    · exact h.1 hb
  have h1 : ∀ k ∈ U, w.heap.size ≤ k ∨ k ∈ [g, bs, bm] ∨ ∀ cs fr, w.heap[k]? = some (.cells cs 46 fr) → cs.size < F.length := fun k hk => (hU k hk).imp id fun h => .inr fun cs fr e => (h.2 _ _ _ e).1 rfl
  have h2 : ∀ k ∈ U, ∀ n, w.heap.size ≤ k ∨ k ∈ [g, bs, bm] ∨ ∀ cs fr, w.heap[k]? = some (.cells cs 149 fr) → cs.size < n := fun k hk n => (hU k hk).imp id fun h => .inr fun cs fr e => absurd rfl (h.2 _ _ _ e).2
  obtain ⟨fv, lv, sc, b1, b2, b3, b4⟩ := D.box
  obtain ⟨cs, r1, r2, r3⟩ := D.row
  obtain ⟨cl, m1, m2, m3⟩ := D.map
  exact ⟨⟨fv, lv, sc, h.heap (ho _ (by simp)) b1, b2.kept h h1, b3.kept h (fun k hk => h2 k hk _), b4⟩, ⟨cs, h.heap (ho _ (by simp)) r1, r2, r3⟩, ⟨cl, h.heap (ho _ (by simp)) m1, m2, m3⟩, by simp, D.keys, D.len, D.keyLt, D.one, D.oneE, D.apart⟩
theorem DiskAt.toP {w : World} {g bs bm : Nat} {F : List Value} {ops : List (Option (Nat × Value))} (D : DiskAt w g bs bm F (ops.map opV) (play F ops).1 []) (h0 : (play F ops).2 = []) : DiskP w g bs bm F ops := ⟨[], D, by rw [h0]; rfl⟩
section
variable {A : List Nat} {w : World} {c p db cb g bs bm s M most dm cm : Nat} {rv : Value} {row : List Nat} {F : List Value} {ops : List (Option (Nat × Value))} {df cf : Nat → Option Value} {pg cur : Nat → List UInt8}
theorem CSt.fr2 (h : CSt A w c p db cb g bs bm s M most dm cm rv row F ops df cf pg cur) {w' : World} {U : List Nat} (hf : Fr U w w') (hU : ∀ k ∈ U, Far2 A (cSt c p db cb g bs bm rv) F.length w k) : CSt A w' c p db cb g bs bm s M most dm cm rv row F ops df cf pg cur := by
  have hlt := h.lt
  have ho : ∀ b ∈ cSt c p db cb g bs bm rv, b ∉ U := fun b hb hm => by
    rcases hU b hm with h | h
    · have := hlt b hb; omega
    · exact h.1 hb
  have hD : ∀ k ∈ U, w.heap.size ≤ k ∨ (k ∉ [g, bs, bm] ∧ ∀ cs t fr, w.heap[k]? = some (.cells cs t fr) → (t = 46 → cs.size < F.length) ∧ t ≠ 149) := fun k hk => (hU k hk).imp id fun h => ⟨fun hm => h.1 (by unfold cSt; simp at hm ⊢; omega), fun cs t fr e => ⟨(h.2 cs t fr e).1, (h.2 cs t fr e).2.1⟩⟩
  have hB : ∀ k ∈ U, w.heap.size ≤ k ∨ ∀ cs t fr, w.heap[k]? = some (.cells cs t fr) → t = 5 → k ∈ A ∨ cs.size < 512 := fun k hk => (hU k hk).imp id fun h cs t fr e => (h.2 cs t fr e).2.2
  refine ⟨h.box.fr hf (ho _ (by simp [cSt])), h.log.fr hf (ho _ (by simp [cSt])), (h.nilD.far0 hf hD).toP h.wait, h.play, h.wait, emp_kept h.emp (fun n hn => (h.len5 n hn).2) hf hB, h.dirty.fr hf (ho _ (by simp [cSt])), h.clean.fr hf (ho _ (by simp [cSt])), fun n v e => ?_, fun n v e => ?_, h.nd, h.rown.fr hf (fun k hk => ?_), h.rlen, h.apart, h.len5, h.size, fun k hk => Nat.lt_of_lt_of_le (h.avoid k hk) hf.size⟩
  · obtain ⟨h1, h2⟩ := h.dd n v e
    exact ⟨h1, dat_kept h2 (Nat.le_of_eq (h.len5 n h1).1.symm) hf hB⟩
  · obtain ⟨h0, h1, h2⟩ := h.cc n v e
    exact ⟨h0, h1, dat_kept h2 (Nat.le_of_eq (h.len5 n h0).2.symm) hf hB⟩
  · rcases hU k hk with h | h
    · exact .inl h
    · exact .inr fun hm => h.1 (by unfold cSt; exact List.mem_append_right _ hm)
theorem CSt.anti {A' : List Nat} (h : CSt A w c p db cb g bs bm s M most dm cm rv row F ops df cf pg cur) (hA : ∀ k ∈ A', k ∈ A) : CSt A' w c p db cb g bs bm s M most dm cm rv row F ops df cf pg cur := by
  have hto : ∀ v l, Dat A w v l → Dat A' w v l := fun v l hd => RdN.to hd fun k hk => .inl (hA k hk)
  exact ⟨h.box, h.log, h.disk, h.play, h.wait, h.emp.mono hto, h.dirty, h.clean, fun n v e => ⟨(h.dd n v e).1, hto _ _ (h.dd n v e).2⟩, fun n v e => ⟨(h.cc n v e).1, (h.cc n v e).2.1, hto _ _ (h.cc n v e).2.2⟩, h.nd, h.rown, h.rlen, h.apart, h.len5, h.size, fun k hk => h.avoid k (hA k hk)⟩
end
/-- The boxes of one cache. -/
structure Kx where
  c : Nat
  p : Nat
  db : Nat
  cb : Nat
  g : Nat
  bs : Nat
  bm : Nat
  F : List Value
  pd : Nat → Prop
/-- Any count of dirty pages will do. -/
class KAny (K : Kx) : Prop where
  any : ∀ d, K.pd d
/-- The cache of TopFull: its blocks are S. -/
def CX (K : Kx) (A : List Nat) (w : World) (N : Nat) (S : List Nat) (pg cur : Nat → List UInt8) (dm : Nat) : Prop :=
  ∃ cm rv row ops df cf, CSt A w K.c K.p K.db K.cb K.g K.bs K.bm 100 59 8 dm cm rv row K.F ops df cf pg cur ∧ ops.length ≤ N ∧ S = [K.c, K.db, K.cb, K.g, K.bs, K.bm] ++ rv.ownBlock.toList ∧ K.pd dm
/-- What may turn beside it. -/
def FarX (K : Kx) (A S : List Nat) (w : World) (k : Nat) : Prop := w.heap.size ≤ k ∨ (k ∉ S ∧ k ≠ K.p ∧ ∀ cs t fr, w.heap[k]? = some (.cells cs t fr) → (t = 46 → cs.size < 160) ∧ t ≠ 149 ∧ (t = 5 → k ∈ A ∨ cs.size < 512))
section
variable {K : Kx} {A S : List Nat} {w : World} {N dm : Nat} {pg cur : Nat → List UInt8}
theorem CX.lt (h : CX K A w N S pg cur dm) : ∀ k ∈ S, k < w.heap.size := by
  obtain ⟨cm, rv, row, ops, df, cf, h, _, rfl, hpd⟩ := h
  intro k hk
  refine h.lt k ?_
  unfold cSt
  rcases List.mem_append.1 hk with hk | hk
  · simp at hk; simp; omega
  · exact List.mem_append_right _ hk
theorem CX.fr (h : CX K A w N S pg cur dm) {w' : World} {U : List Nat} (hf : Fr U w w') (hU : ∀ k ∈ U, FarX K A S w k) : CX K A w' N S pg cur dm := by
  obtain ⟨cm, rv, row, ops, df, cf, h, hN, rfl, hpd⟩ := h
  refine ⟨cm, rv, row, ops, df, cf, h.fr2 hf (fun k hk => (hU k hk).imp id fun h' => ⟨fun hm => ?_, fun cs t fr e => ?_⟩), hN, rfl, hpd⟩
  · unfold cSt at hm
    rcases List.mem_append.1 hm with hm | hm
    · by_cases hp : k = K.p
      · exact h'.2.1 hp
      · exact h'.1 (List.mem_append_left _ (by simp at hm ⊢; omega))
    · exact h'.1 (List.mem_append_right _ hm)
  · have := h'.2.2 cs t fr e
    have hF := h.size.1
    exact ⟨fun q => by have := this.1 q; omega, this.2⟩
theorem CX.fr0 (h : CX K A w N S pg cur dm) {w' : World} (hf : Fr [] w w') : CX K A w' N S pg cur dm := h.fr hf (by simp)
theorem CX.anti {A' : List Nat} (h : CX K A w N S pg cur dm) (hA : ∀ k ∈ A', k ∈ A) : CX K A' w N S pg cur dm := by
  obtain ⟨cm, rv, row, ops, df, cf, h, hN, rfl, hpd⟩ := h
  exact ⟨cm, rv, row, ops, df, cf, h.anti hA, hN, rfl, hpd⟩
theorem CX.len (h : CX K A w N S pg cur dm) (n : Nat) (hn : n < 59) : (cur n).length = 512 := by
  obtain ⟨cm, rv, row, ops, df, cf, h, hN, rfl, hpd⟩ := h
  exact (h.len5 n hn).1
theorem CX.le59 (h : CX K A w N S pg cur dm) : dm ≤ 59 := by
  obtain ⟨cm, rv, row, ops, df, cf, h, hN, rfl, hpd⟩ := h
  exact h.dirty.le fun n v e => (h.dd n v e).1
/-- A block of another kind is none of its own. -/
theorem CX.ne (h : CX K A w N S pg cur dm) {b : Nat} {cs : Array Value} {t : TypeId} {fr : Nat × Nat} (hb : w.heap[b]? = some (.cells cs t fr)) (h1 : t ≠ 64) (h2 : t ≠ 114) (h3 : t = 46 → cs.size < 160) (h4 : t ≠ 3) : b ∉ S := by
  obtain ⟨cm, rv, row, ops, df, cf, h, hN, rfl, hpd⟩ := h
  have hc : w.heap[K.c]? = _ := h.box
  obtain ⟨T, D, _⟩ := h.disk
  obtain ⟨_, _, _, hg, _⟩ := D.box
  obtain ⟨rs, hbs, ht, hsz⟩ := D.row
  obtain ⟨_, hbm, _⟩ := D.map
  obtain ⟨_, _, hdb, _⟩ := h.dirty
  obtain ⟨_, _, hcb, _⟩ := h.clean
  intro hm
  rcases List.mem_append.1 hm with hm | hm
  · simp only [List.mem_cons, List.not_mem_nil, or_false] at hm
    rcases hm with rfl | rfl | rfl | rfl | rfl | rfl
    · exact ne_ty hb hc h1 rfl
    · exact ne_map hb hdb rfl
    · exact ne_map hb hcb rfl
    · exact ne_ty hb hg h2 rfl
    · rw [hb] at hbs
      simp only [Option.some.injEq, Obj.cells.injEq] at hbs
      obtain ⟨rfl, rfl, _⟩ := hbs
      have := h3 rfl
      have hl := D.len
      have hF := h.size.1
      omega
    · exact ne_map hb hbm rfl
  · obtain ⟨_, rs, e⟩ := h.rown.lt b hm
    exact ne_ty hb e h4 rfl
theorem CX.nep (h : CX K A w N S pg cur dm) {b : Nat} {cs : Array Value} {t : TypeId} {fr : Nat × Nat} (hb : w.heap[b]? = some (.cells cs t fr)) (h1 : t ≠ 58) : b ≠ K.p := by
  obtain ⟨cm, rv, row, ops, df, cf, h, hN, rfl, hpd⟩ := h
  obtain ⟨_, hp⟩ := h.log
  exact ne_ty hb hp h1
/-- From one world to another: the cache has cur' then. -/
def Stp (K : Kx) (A : List Nat) (N : Nat) (pg : Nat → List UInt8) (S : List Nat) (w w' : World) (cur' : Nat → List UInt8) : Prop :=
  Fr S w w' ∧ ∃ S' dm, (∀ k ∈ S', k ∈ S ∨ w.heap.size ≤ k) ∧ CX K A w' N S' pg cur' dm
theorem Stp.refl (h : CX K A w N S pg cur dm) : Stp K A N pg S w w cur := ⟨Fr.refl _ _, S, dm, fun _ hk => .inl hk, h⟩
theorem Stp.of0 (h : CX K A w N S pg cur dm) {w' : World} (hf : Fr [] w w') : Stp K A N pg S w w' cur := ⟨hf.mono (by simp), S, dm, fun _ hk => .inl hk, h.fr0 hf⟩
theorem Stp.size {w' : World} {cur' : Nat → List UInt8} (h : Stp K A N pg S w w' cur') : w.heap.size ≤ w'.heap.size := h.1.size
/-- One behind the other. -/
theorem Stp.trans {A' : List Nat} {w1 w2 : World} {S1 : List Nat} {cur2 : Nat → List UInt8} (hf : Fr S w w1) (hS : ∀ k ∈ S1, k ∈ S ∨ w.heap.size ≤ k) (h : Stp K A' N pg S1 w1 w2 cur2) : Stp K A' N pg S w w2 cur2 := by
  obtain ⟨f2, S2, dm2, h2, x2⟩ := h
  refine ⟨hf.then f2 hS, S2, dm2, fun k hk => ?_, x2⟩
  rcases h2 k hk with h | h
  · exact hS k h
  · exact .inr (Nat.le_trans hf.size h)
theorem Stp.snoc {w1 w2 : World} {cur2 : Nat → List UInt8} (h : Stp K A N pg S w w1 cur) (hn : ∀ S1 dm1, CX K A w1 N S1 pg cur dm1 → Stp K A N pg S1 w1 w2 cur2) : Stp K A N pg S w w2 cur2 := by
  obtain ⟨f1, S1, dm1, h1, x1⟩ := h
  exact Stp.trans f1 h1 (hn S1 dm1 x1)
theorem Stp.snoc0 {w1 w2 : World} (h : Stp K A N pg S w w1 cur) (hf : Fr [] w1 w2) : Stp K A N pg S w w2 cur := h.snoc fun _ _ x => Stp.of0 x hf
theorem Stp.anti {A' : List Nat} {w1 : World} (h : Stp K A N pg S w w1 cur) (hA : ∀ k ∈ A', k ∈ A) : Stp K A' N pg S w w1 cur := by
  obtain ⟨f1, S1, dm1, h1, x1⟩ := h
  exact ⟨f1, S1, dm1, h1, x1.anti hA⟩
/-- A page is read: it is the caller's own. -/
theorem rdx_any (h : CX K A w N S pg cur dm) (n : Nat) (hn : n < 59) :
    Calls Tryz.prog 40 #[.pointer (some ⟨K.c, 0, none⟩), .int .i64 (n : Int)] w fun e w' => ∃ q cap, e = .returned (.tuple #[.slice (some ⟨q, 0, none⟩) 512 cap, .int .i64 0]) ∧ w.heap.size ≤ q ∧ w'.ownsRow w.heap.size 5 1 (.slice (some ⟨q, 0, none⟩) 512 cap) 512 ((cur n).map vB) ∧ Stp K (q :: A) N pg S w w' cur := by
  obtain ⟨cm, rv, row, ops, df, cf, h, hN, rfl, hpd⟩ := h
  refine (cread_any h n hn).mono ?_
  rintro e w' ⟨q, cap, rfl, hq, ho, hf, rv', cm', row', cf', hr, hs⟩
  refine ⟨q, cap, rfl, hq, ho, hf.mono (fun k hk => .inl ?_), _, dm, fun k hk => ?_, cm', rv', row', ops, df, cf', hs, hN, rfl, hpd⟩
  · rcases List.mem_append.1 hk with hk | hk
    · exact List.mem_append_left _ (by simp at hk ⊢; omega)
    · exact List.mem_append_right _ hk
  · rcases List.mem_append.1 hk with hk | hk
    · exact .inl (List.mem_append_left _ hk)
    · exact (hr k hk).imp (fun h => List.mem_append_right _ h) id
/-- A page is written. -/
theorem wrx_any [KAny K] (h : CX K A w N S pg cur dm) (n : Nat) (hn : n < 59) (bv : Value) (l : List UInt8) (hb : RdB w bv l) (hl : l.length = 512) :
    Calls Tryz.prog 27 #[.pointer (some ⟨K.c, 0, none⟩), .int .i64 (n : Int), bv] w fun e w' => e = .returned (.int .i64 0) ∧ Stp K A N pg S w w' (updF cur n l) := by
  have hd := h.le59
  obtain ⟨cm, rv, row, ops, df, cf, h, hN, rfl, hpd⟩ := h
  refine (cwrite_any h n hn bv l hb hl (fun _ => by omega)).mono ?_
  rintro e w' ⟨rfl, hf, rv', dm', cm', df', cf', hob, hs, _, _⟩
  refine ⟨rfl, hf.mono (fun k hk => .inl ?_), _, dm', fun k hk => .inl ?_, cm', rv', _, ops, df', cf', hs, hN, rfl, KAny.any _⟩
  · rcases List.mem_append.1 hk with hk | hk
    · exact List.mem_append_left _ (by simp at hk ⊢; omega)
    · exact List.mem_append_right _ hk
  · rw [← hob]; exact hk
/-- All is committed. -/
theorem cmx_any [KAny K] (h : CX K A w N S pg cur dm) (hN : N ≤ 80000) :
    Calls Tryz.prog 9 #[.pointer (some ⟨K.c, 0, none⟩)] w fun e w' => e = .returned (.int .i64 0) ∧ Fr S w w' ∧ CX K [] w' (N + 1000) S cur cur 0 := by
  have hd := h.le59
  obtain ⟨cm, rv, row, ops, df, cf, h, hN', rfl, hpd⟩ := h
  refine (ccommit_any h (by omega) (by omega)).mono ?_
  rintro e w' ⟨rfl, hf, xs, hx, hs⟩
  refine ⟨rfl, hf.mono (fun k hk => .inl (List.mem_append_left _ (by simp at hk ⊢; omega))), cm, rv, row, ops ++ xs, _, cf, hs, ?_, rfl, KAny.any _⟩
  rw [List.length_append]; omega
theorem roomx_any (h : CX K A w N S pg cur dm) :
    Calls Tryz.prog 53 #[.pointer (some ⟨K.c, 0, none⟩)] w fun e w' => e = .returned (.int .i64 (100 - (dm : Int))) ∧ ∃ q, w' = w.drewN q := by
  have hd := h.le59
  obtain ⟨cm, rv, row, ops, df, cf, h, hN, rfl, hpd⟩ := h
  obtain ⟨T, cl, hb2, _, _, _, _, hm⟩ := h.dirty
  have := room_any w h.box h.log (by omega) hb2 (by omega)
  rw [hm] at this
  exact this
theorem CX.dirt (h : CX K A w N S pg cur dm) : ∃ df, MapP w K.db df dm ∧ ∀ n v, df n = some v → n < 59 := by
  obtain ⟨cm, rv, row, ops, df, cf, h, hN, rfl, hpd⟩ := h
  exact ⟨df, h.dirty, fun n v e => (h.dd n v e).1⟩
theorem CX.box (h : CX K A w N S pg cur dm) : ∃ rv, CacheAt w K.c K.p 8 K.db K.cb rv := by
  obtain ⟨cm, rv, row, ops, df, cf, h, hN, rfl, hpd⟩ := h
  exact ⟨rv, h.box⟩
/-- All that was written is forgotten. -/
theorem CX.forget [KAny K] (h : CX K A w N S pg cur dm) {ob : Obj} (hK : ∀ w'', w''.heap[K.db]? = some ob → MapP w'' K.db (fun _ => none) 0) : Fr S w (setBlock w K.db ob) ∧ CX K A (setBlock w K.db ob) N S pg pg 0 := by
  obtain ⟨cm, rv, row, ops, df, cf, h, hN, rfl, hpd⟩ := h
  have F7 : Fr [K.db] w (setBlock w K.db ob) := (Fr.refl _ _).setBlock (.inl (by simp)) ob
  have hk := h.kinds
  have hap := h.apart
  have hB : ∀ x ∈ [K.db], w.heap.size ≤ x ∨ ∀ cs t fr, w.heap[x]? = some (.cells cs t fr) → t = 5 → x ∈ A ∨ cs.size < 512 := fun x hx => .inr fun cs t fr e => by
    simp at hx; subst hx
    obtain ⟨_, _, e2, _⟩ := h.dirty
    rw [e2] at e; cases e
  have hfarD : ∀ x ∈ [K.db], FarD [K.g, K.bs, K.bm] w x := fun x hx => .inr ⟨by simp at hx; subst hx; exact h.off.2.2.1, fun cs t fr e => by
    simp at hx; subst hx
    obtain ⟨_, _, e2, _⟩ := h.dirty
    rw [e2] at e; cases e⟩
  refine ⟨F7.mono (by simp), cm, rv, row, ops, _, cf, ⟨h.box.fr F7 (by simpa using hk.2.1), h.log.fr F7 (by simpa using hk.2.2.2.2.2.2.1), h.disk.far F7 hfarD, h.play, h.wait, emp_kept h.emp (fun n hn => (h.len5 n hn).2) F7 hB, hK _ (heap_setBlock h.dirty.heapAt), h.clean.fr F7 (by simpa using fun e => hap.1 e.symm), (fun n v e => by cases e), fun n v e => ?_, fun n e => rfl, h.rown.fr F7 (fun x hx => .inr fun hm => ?_), h.rlen, h.apart, fun n hn => ⟨(h.len5 n hn).2, (h.len5 n hn).2⟩, h.size, fun k hk => Nat.lt_of_lt_of_le (h.avoid k hk) F7.size⟩, hN, rfl, KAny.any _⟩
  · obtain ⟨e0, e1, e2⟩ := h.cc n v e
    exact ⟨e0, rfl, dat_kept e2 (Nat.le_of_eq (h.len5 n e0).2.symm) F7 hB⟩
  · simp at hx
    exact (hk.2.2.2.2.2.2.2.2.2.2.2.2.2.2.2 x hm).2.2.1 hx
set_option maxRecDepth 100000 in
set_option maxHeartbeats 1000000 in
theorem abortx_any [KAny K] (h : CX K A w N S pg cur dm) :
    Calls Tryz.prog 62 #[.pointer (some ⟨K.c, 0, none⟩)] w fun e w' => e = .returned (.int .i64 (dm : Int)) ∧ Fr S w w' ∧ CX K A w' N S pg pg 0 := by
  obtain ⟨rv, hbx⟩ := h.box
  obtain ⟨df, hd, _⟩ := h.dirt
  have k2 : w.cell? ⟨K.c, 2, none⟩ = some (.map (some K.db)) := (cell_of_row _ _ 2 _ _ _ hbx).trans rfl
  have hln := hd.len
  obtain ⟨ob, hclr, hK⟩ := hd.clr 0
  have HR := Lib.hid (h.forget hK)
  clear hbx h hd hK
  go_enter Tryz.func62, Tryz.ntmps62
  go_wp2_with fail
  go_ret
  exact ⟨rfl, HR.out⟩
end
end Go.Proofs.YtcblfkojkdaepaaGreat
/- Pages of bits: the first n bits are set. -/
namespace Go.Proofs.YtcblfkojkdaepaaGreat
open Go.RowKit

/-- Byte k of a page whose first n bits are set. -/
def bmB (n k : Nat) : UInt8 := UInt8.ofNat (2 ^ (min 8 (n - 8 * k)) - 1)
def bmL (n : Nat) : List UInt8 := (List.range 512).map (bmB n)
theorem bmL_len (n : Nat) : (bmL n).length = 512 := by simp [bmL]
theorem bmL_at (n k : Nat) (h : k < 512) : (bmL n)[k]? = some (bmB n k) := by
  unfold bmL
  rw [List.getElem?_map, List.getElem?_range h]; rfl
theorem bits_m : ∀ (m : Fin 9) (i : Fin 8), bits BinOp.and IntKind.u8 (n8 (UInt8.ofNat (2 ^ m.val - 1)) / 2 ^ i.val) 1 = if i.val < m.val then 1 else 0 := by decide +kernel
theorem bm_at (n k i : Nat) (hi : i < 8) : bits BinOp.and IntKind.u8 (n8 (bmB n k) / 2 ^ i) 1 = if 8 * k + i < n then 1 else 0 := by
  have h := bits_m ⟨min 8 (n - 8 * k), by omega⟩ ⟨i, hi⟩
  simp only at h
  unfold bmB
  rw [h]
  by_cases h1 : 8 * k + i < n
  · rw [if_pos h1, if_pos (by omega)]
  · rw [if_neg h1, if_neg (by omega)]
theorem turn_m : ∀ n : Fin 60, bits BinOp.xor IntKind.u8 (n8 (bmB n.val (n.val / 8))) (2 ^ (n.val % 8) % 256) = n8 (bmB (n.val + 1) (n.val / 8)) := by decide +kernel
theorem bmL_turn (n : Nat) : (bmL n).set (n / 8) (bmB (n + 1) (n / 8)) = bmL (n + 1) := by
  refine List.ext_getElem (by simp [bmL]) fun i h1 h2 => ?_
  rw [List.getElem_set]
  simp only [bmL, List.getElem_map, List.getElem_range]
  by_cases e : n / 8 = i
  · subst e; simp
  · rw [if_neg e]
    unfold bmB
    have : min 8 (n - 8 * i) = min 8 (n + 1 - 8 * i) := by omega
    rw [this]
set_option maxRecDepth 100000 in
set_option maxHeartbeats 1000000 in
theorem at_any (w : World) (bv : Value) (n i cnt : Nat) (hb : RdB w bv (bmL n)) (hi : i < 4096) :
    Calls Tryz.prog 60 #[.agg #[bv, .int .i64 (cnt : Int)], .int .i64 (i : Int)] w fun e w' => e = .returned (.bool (decide (i < n))) ∧ Below w.heap.size w w' := by
  obtain ⟨ba, bc, rfl, hc⟩ := RdB.open hb
  have hk5 : i / 8 < 512 := by omega
  obtain ⟨b, off, rfl, hcell⟩ := hc (i / 8) (by rw [bmL_len]; exact hk5)
  have hel : (bmL n)[i / 8]'(by rw [bmL_len]; exact hk5) = bmB n (i / 8) := by simp [bmL]
  rw [hel] at hcell
  rw [bmL_len]
  have hcl : (w.alloc (.cells #[.slice (some ⟨b, off, none⟩) 512 bc, .int .i64 (cnt : Int)] 127)).cell? ⟨b, off + i / 8, none⟩ = some (.int .u8 (n8 (bmB n (i / 8)))) :=
    ((Fr.refl [] w).alloc _).cell (p := ⟨b, off + i / 8, none⟩) (by simp) hcell
  have i0 : (i : Int) < 4096 := by omega
  obtain ⟨x, hx⟩ : ∃ x, x = n8 (bmB n (i / 8)) := ⟨_, rfl⟩
  rw [← hx] at hcl
  have HX := Lib.hid hx
  clear hc hcell hel hx hb
  go_enter Tryz.func60, Tryz.ntmps60
  go_wp2_with fail
  have hbit := bm_at n (i / 8) (i % 8) (by omega)
  have hB := Lib.hid (((Below.refl w.heap.size w).alloc (Nat.le_refl _) (.cells #[.slice (some ⟨b, off, none⟩) 512 bc, .int .i64 (cnt : Int)] 127)))
  go_ret
  exact ⟨ret_eq (by rw [HX.out, hbit]; simp only [show 8 * (i / 8) + i % 8 = i by omega]; by_cases h : i < n <;> simp [h]), hB.out⟩
set_option maxRecDepth 100000 in
set_option maxHeartbeats 2000000 in
theorem first_any (w : World) (bv : Value) (n cnt : Nat) (hb : RdB w bv (bmL n)) (hn : n ≤ cnt) (hc4 : cnt ≤ 4096) :
    Calls Tryz.prog 63 #[.agg #[bv, .int .i64 (cnt : Int)]] w fun e w' => e = .returned (.int .i64 (if n < cnt then (n : Int) else -1)) ∧ Below w.heap.size w w' := by
  obtain ⟨ba, bc, rfl, hc⟩ := RdB.open hb
  have HC := Lib.hid (show ∀ k, k < 512 → ∃ b off, ba = some ⟨b, off, none⟩ ∧ (w.alloc (.cells #[.slice ba 512 bc, .int .i64 (cnt : Int)] 127)).cell? ⟨b, off + k, none⟩ = some (.int .u8 (n8 (bmB n k))) from fun k hk => by
    obtain ⟨b, off, e, hcell⟩ := hc k (by rw [bmL_len]; exact hk)
    have hel : (bmL n)[k]'(by rw [bmL_len]; exact hk) = bmB n k := by simp [bmL]
    rw [hel] at hcell
    exact ⟨b, off, e, ((Fr.refl [] w).alloc _).cell (p := ⟨b, off + k, none⟩) (by simp) hcell⟩)
  rw [bmL_len]
  have R1 := heap_alloc_new w (.cells #[.slice ba 512 bc, .int .i64 (cnt : Int)] 127)
  have c0 : (w.alloc (.cells #[.slice ba 512 bc, .int .i64 (cnt : Int)] 127)).cell? ⟨w.heap.size, 0, none⟩ = some (.slice ba 512 bc) := (cell_of_row _ _ 0 _ _ _ R1).trans rfl
  have c1 : (w.alloc (.cells #[.slice ba 512 bc, .int .i64 (cnt : Int)] 127)).cell? ⟨w.heap.size, 1, none⟩ = some (.int .i64 (cnt : Int)) := (cell_of_row _ _ 1 _ _ _ R1).trans rfl
  have HB := Lib.hid ((Below.refl w.heap.size w).alloc (Nat.le_refl _) (.cells #[.slice ba 512 bc, .int .i64 (cnt : Int)] 127))
  have q0 : (cnt : Int) ≤ 4096 := by omega
  clear hb hc R1
  go_enter Tryz.func63, Tryz.ntmps63
  go_wp2_with fail
  generalize w.alloc (.cells #[.slice ba 512 bc, .int .i64 (cnt : Int)] 127) = W1 at *
  refine wp_scope_straight ?_
  go_wp2_with fail
  refine wp_label ?_
  go_wp2_with fail
  go_loopw [11, 3] (fun kv f wr => ∃ k : Nat, kv = .int .i64 (k : Int) ∧ f = .int .i64 (-1) ∧ 8 * k ≤ n ∧ wr = W1) (fun kv _ _ => (512 - intOf kv).toNat)
  case atStart => exact ⟨0, by simp, rfl, by omega, rfl⟩
  case round =>
    obtain ⟨k, rfl, rfl, hk, rfl⟩ := hrel
    by_cases hlt : k < 512
    · obtain ⟨b, off, rfl, hcl⟩ := HC.out k hlt
      have k0 : (k : Int) < 512 := by omega
      obtain ⟨x, hx⟩ : ∃ x, x = n8 (bmB n k) := ⟨_, rfl⟩
      rw [← hx] at hcl
      have HX := Lib.hid hx
      clear hx
      go_wp2_with fail
      go_loopw [16, 3] (fun iv f wx => ∃ i : Nat, iv = .int .i64 (i : Int) ∧ f = .int .i64 (-1) ∧ i ≤ 8 ∧ 8 * k + i ≤ n ∧ wx = wr) (fun iv _ _ => (8 - intOf iv).toNat)
      case atStart => exact ⟨0, by simp, rfl, by omega, by omega, rfl⟩
      case round =>
        obtain ⟨i, rfl, rfl, hi8, hin, rfl⟩ := hrel
        by_cases hlt2 : i < 8
        · have i0 : (i : Int) < 8 := by omega
          have hbit := bm_at n k i hlt2
          rw [← HX.out] at hbit
          by_cases hend : 8 * k + i < cnt
          · have e0 : (8 : Int) * (k : Int) + (i : Int) < (cnt : Int) := by omega
            by_cases hn2 : 8 * k + i < n
            · rw [if_pos hn2] at hbit
              go_wp2_with fail
              exact ⟨⟨i + 1, by simp, rfl, by omega, by omega, trivial⟩, by simp [intOf]; omega⟩
            · rw [if_neg hn2] at hbit
              have hne : n < cnt := by omega
              have hne2 : n = 8 * k + i := by omega
              go_wp2_with fail
              simp only [Exit.noGoto]
              go_ret
              exact ⟨ret_eq (by simp; omega), HB.out⟩
          · have e0 : ¬ (8 : Int) * (k : Int) + (i : Int) < (cnt : Int) := by omega
            have hne : ¬ n < cnt := by omega
            go_wp2_with fail
            go_ret
            exact ⟨ret_eq (by simp), HB.out⟩
        · obtain rfl : i = 8 := by omega
          go_wp2_with fail
          exact ⟨⟨k + 1, by simp, rfl, by omega, trivial⟩, by simp [intOf]; omega⟩
    · have k0 : ¬ (k : Int) < 512 := by omega
      have hne : ¬ n < cnt := by omega
      go_wp2_with fail
      go_ret
      exact ⟨ret_eq (by simp), HB.out⟩
end Go.Proofs.YtcblfkojkdaepaaGreat
