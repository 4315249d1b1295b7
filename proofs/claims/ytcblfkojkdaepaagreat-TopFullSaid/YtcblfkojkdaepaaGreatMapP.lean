/- Commit of a group upon any pages: the pages are there at the end; nothing waits. -/
import Derived.Test.YtcblfkojkdaepaaGreatComOk
namespace Go.Proofs.YtcblfkojkdaepaaGreat
open Go.RowKit Go.ChangeMaps

theorem commit_gen (w : World) {p g bs bm s M : Nat} {F : List Value} {old : Nat → List UInt8} (L : LogAt w p g s) (D : DiskP w g bs bm F []) (hp : p ∉ [g, bs, bm]) (hF : F.length ≤ 4096) (hM : F.length = s + 1 + M) (hs : s ≤ 100) (hE : Emp (Dat [g, bs, bm] w) s M old F) (pv : Value) (ps : List (Nat × Value)) (hps : RdPg w pv ps) (hl : ps.length ≤ s) (hn : ∀ x ∈ ps, x.1 < M) (hnd : (ps.map (·.1)).Nodup) (new : Nat → List UInt8) (hon : ∀ n, n ∉ ps.map (·.1) → old n = new n) (hd : ∀ x ∈ ps, Dat [g, bs, bm] w x.2 (new x.1)) (h5 : ∀ x ∈ ps, (new x.1).length = 512) :
    Calls Tryz.prog 28 #[.pointer (some ⟨p, 0, none⟩), pv] w fun e w' => e = .returned (.int .i64 0) ∧ Fr [g, bs, bm] w w' ∧ ∃ ops, LogAt w' p g s ∧ DiskP w' g bs bm F ops ∧ Playable F ops ∧ (play F ops).2 = [] ∧ ops.length ≤ 1000 ∧ Emp (Dat [g, bs, bm] w') s M new (play F ops).1 := by
  by_cases h0 : ps = []
  · subst h0
    obtain ⟨a, c, rfl, _⟩ := hps
    refine (commit_none w L a c).mono ?_
    rintro e w' ⟨rfl, hf⟩
    have hR : ∀ v l, Dat [g, bs, bm] w v l → Dat [g, bs, bm] w' v l := fun v l h => RdN.fr h hf (by simp)
    have e : old = new := funext fun n => hon n (by simp)
    exact ⟨rfl, hf.mono (by simp), [], L.fr hf (by simp), D.fr hf (by simp), Playable.nil _, rfl, by simp, e ▸ hE.mono hR⟩
  · obtain ⟨ns, hns, hr⟩ := rising_of _ hnd
    have hnl : ns.length = ps.length := by have := hns.length_eq; simpa using this
    have hnb : ∀ n ∈ ns, n < M := fun n h => by
      obtain ⟨x, h1, h2⟩ := List.mem_map.1 (hns.mem_iff.1 h)
      have := hn x h1; omega
    refine (commit_any w (M := M) L D hp rfl hF hM hs (by simp) pv ps hps h0 hl hn hnd new hd h5 ns hns hr).mono ?_
    rintro e w' ⟨rfl, hf, us, uh, vs, vh, hul, hvl, hsl, hud, huh, hvd, hvh, D'⟩
    have hR : ∀ v l, Dat [g, bs, bm] w v l → Dat [g, bs, bm] w' v l := fun v l h => RdN.fr h hf (fun k hk => .inl hk)
    obtain ⟨_, P', h2, h3⟩ := commit_good (ns := ns) (new := new) (hE.mono hR) hul hvl (by omega) hr hud hvd (fun n hn => hon n (fun h => hn (hns.mem_iff.2 h))) huh hvh
    have hpl : play F (comOps s ns us uh vs vh) = (P', []) := h2
    refine ⟨rfl, hf, comOps s ns us uh vs vh, L.fr hf hp, D', ?_, ?_, ?_, ?_⟩
    · exact playable_com (Playable.nil F) rfl hM ns (by omega) hr hnb us uh vs vh hsl
    · rw [hpl]
    · simp [comOps, homeOps, mkW]; omega
    · rw [hpl]; exact h3
end Go.Proofs.YtcblfkojkdaepaaGreat
/- A map of pages in memory, as a plain function; look-ups, stores, deletes, clearing, its length. -/
namespace Go.Proofs.YtcblfkojkdaepaaGreat
open Go.RowKit Go.ChangeMaps Go.MapKept

/-- What a list of entries has at a number. -/
def gt (T : List Ent) (n : Nat) : Option Value := (T.find? (fun e => e.k == n)).map (·.sl)
/-- A map in block b: at n it has f n; m entries. -/
def MapP (w : World) (b : Nat) (f : Nat → Option Value) (m : Nat) : Prop :=
  ∃ (T : List Ent) (cl : Nat), w.heap[b]? = some (.map (T.map Ent.obj).toArray cl) ∧ (∀ e ∈ T, e.born < cl) ∧ (T.map (·.born)).Nodup ∧ (T.map (·.k)).Nodup ∧ (∀ n, gt T n = f n) ∧ T.length = m
def upd (f : Nat → Option Value) (n : Nat) (v : Option Value) : Nat → Option Value := fun k => if k = n then v else f k
theorem gt_none {T : List Ent} {n : Nat} (h : gt T n = none) : ∀ e ∈ T, e.k ≠ n := by
  unfold gt at h
  rw [Option.map_eq_none_iff, List.find?_eq_none] at h
  intro e he q
  have := h e he
  simp [q] at this
theorem gt_of {T : List Ent} {n : Nat} (h : ∀ e ∈ T, e.k ≠ n) : gt T n = none := by
  unfold gt
  rw [Option.map_eq_none_iff, List.find?_eq_none]
  intro e he
  simpa using h e he
theorem gt_some {T : List Ent} {n : Nat} {v : Value} (h : gt T n = some v) : ∃ L1 e L2, T = L1 ++ e :: L2 ∧ e.k = n ∧ e.sl = v ∧ ∀ x ∈ L1, x.k ≠ n := by
  unfold gt at h
  obtain ⟨e, h1, h2⟩ := Option.map_eq_some_iff.1 h
  obtain ⟨h3, L1, L2, h4, h5⟩ := List.find?_eq_some_iff_append.1 h1
  refine ⟨L1, e, L2, h4, by simpa using h3, h2, fun x hx => ?_⟩
  simpa using h5 x hx
theorem gt_app (A B : List Ent) (n : Nat) : gt (A ++ B) n = (gt A n).or (gt B n) := by
  unfold gt
  rw [List.find?_append]
  cases List.find? (fun e => e.k == n) A <;> simp
theorem gt_cons (e : Ent) (T : List Ent) (n : Nat) : gt (e :: T) n = if e.k = n then some e.sl else gt T n := by
  unfold gt
  rw [List.find?_cons]
  by_cases h : e.k = n
  · simp [h]
  · have : (e.k == n) = false := by simpa using h
    simp [h, this]
theorem findNow_at (n : Nat) (e : Ent) (h : e.k = n) (L2 : List Ent) : ∀ (L1 : List Ent) (i : Nat), (∀ x ∈ L1, x.k ≠ n) → Instr.findNow (.int .i64) (.int .i64 (n : Int)) ((L1 ++ e :: L2).map Ent.obj) i = some (some (i + L1.length, e.sl))
  | [], i, _ => by
    have h1 : ((n : Int) == (e.k : Int)) = true := by simp [h]
    simp only [List.nil_append, List.map_cons, Instr.findNow, Ent.obj, Instr.sameNow, if_true, h1, List.length_nil, Nat.add_zero]
  | x :: L1, i, hL => by
    have h0 := hL x (by simp)
    have h1 : ((n : Int) == (x.k : Int)) = false := by simp; omega
    have ih := findNow_at n e h L2 L1 (i + 1) (fun y hy => hL y (by simp [hy]))
    simp only [List.cons_append, List.map_cons, Instr.findNow, Ent.obj, Instr.sameNow, if_true, h1, List.length_cons]
    rw [show i + (L1.length + 1) = i + 1 + L1.length by omega]
    exact ih
theorem MapP.look {w : World} {b m : Nat} {f : Nat → Option Value} (h : MapP w b f m) (n : Nat) :
    (Instr.lookup 62 (.map (some b)) (.int .i64 (n : Int)) true).run Tryz.prog w = .ok (.tuple #[(f n).getD (.slice none 0 0), .bool (f n).isSome]) w := by
  obtain ⟨T, cl, hb, _, _, _, hf, _⟩ := h
  have hk : IsKey (.int .i64) (.int .i64 (n : Int)) := by simp [IsKey]
  rw [← hf n]
  cases hg : gt T n with
  | none =>
    simp [Instr.lookup, run_underlying Tryz.underlying62, Result.andThen, Go.MapKept.run_getObj_map hb, run_checkKey Tryz.underlying3 hk, run_findKey Tryz.underlying3 (findNow_miss n T 0 (gt_none hg)), Tryz.zeroValue46]
  | some v =>
    obtain ⟨L1, e, L2, rfl, h1, h2, h3⟩ := gt_some hg
    have hi := findNow_at n e h1 L2 L1 0 h3
    rw [Instr.lookup]
    simp only [Sem.run_bind, run_underlying Tryz.underlying62, Result.andThen, Go.MapKept.run_getObj_map hb, run_checkKey Tryz.underlying3 hk, run_findKey Tryz.underlying3 hi, Sem.run_pure]
    simp [h2]
theorem MapP.put {w : World} {b m : Nat} {f : Nat → Option Value} (h : MapP w b f m) (n : Nat) (v : Value) :
    ∃ ob m', (Instr.mapUpdate 62 (.map (some b)) (.int .i64 (n : Int)) v).run Tryz.prog w = .ok () (setBlock w b ob) ∧ (∀ w', w'.heap[b]? = some ob → MapP w' b (upd f n (some v)) m') ∧ ((f n = none ∧ m' = m + 1) ∨ ((f n).isSome = true ∧ m' = m)) := by
  obtain ⟨T, cl, hb, hl, hn, hk, hf, hm⟩ := h
  cases hg : gt T n with
  | none =>
    refine ⟨_, m + 1, run_pg_update hb n (gt_none hg) v v, fun w' hw => ⟨_, _, hw, fun e he => ?_, ?_, ?_, fun k => ?_, by simp [hm]⟩, .inl ⟨by rw [← hf n]; exact hg, rfl⟩⟩
    · rcases List.mem_append.1 he with h | h
      · have := hl e h; omega
      · simp at h; subst h; show cl < cl + 1; omega
    · rw [List.map_append]
      refine List.nodup_append.2 ⟨hn, by simp, fun a ha c hc => ?_⟩
      obtain ⟨e, he, rfl⟩ := List.mem_map.1 ha
      simp at hc; subst hc
      have := hl e he; omega
    · rw [List.map_append]
      refine List.nodup_append.2 ⟨hk, by simp, fun a ha c hc => ?_⟩
      obtain ⟨e, he, rfl⟩ := List.mem_map.1 ha
      simp at hc; subst hc
      exact gt_none hg e he
    · rw [gt_app, gt_cons, hf k]
      unfold upd
      by_cases hkn : k = n
      · subst hkn; rw [← hf k, hg]; simp
      · rw [if_neg (fun q => hkn q.symm), if_neg hkn]; simp [gt]
  | some v0 =>
    obtain ⟨L1, e, L2, rfl, h1, h2, h3⟩ := gt_some hg
    have hi := findNow_at n e h1 L2 L1 0 h3
    have hk0 : IsKey (.int .i64) (.int .i64 (n : Int)) := by simp [IsKey]
    rw [Nat.zero_add] at hi
    obtain ⟨T', hT'⟩ : ∃ T', T' = L1 ++ (⟨e.k, v, v, e.born⟩ : Ent) :: L2 := ⟨_, rfl⟩
    have hmod : ((L1 ++ e :: L2).map Ent.obj).toArray.modify L1.length (fun x => { x with key := .int .i64 (n : Int), val := v }) = (T'.map Ent.obj).toArray := by
      rw [hT']
      refine Array.ext' ?_
      rw [Array.toList_modify]
      simp only [List.map_append, List.map_cons]
      have hL : L1.length = (L1.map Ent.obj).length := by simp
      rw [hL, List.modify_eq_take_cons_drop (by simp), List.drop_append]
      simp [Ent.obj, h1]
    have hat : ((L1 ++ e :: L2).map Ent.obj).toArray[L1.length]? = some e.obj := by simp
    have hs := run_setObj_map (P := Tryz.prog) (.map (T'.map Ent.obj).toArray cl) hb
    have hborn : T'.map (·.born) = (L1 ++ e :: L2).map (·.born) := by rw [hT']; simp
    have hkeys : T'.map (·.k) = (L1 ++ e :: L2).map (·.k) := by rw [hT']; simp
    refine ⟨.map (T'.map Ent.obj).toArray cl, m, ?_, fun w' hw => ⟨T', cl, hw, fun x hx => ?_, by rw [hborn]; exact hn, by rw [hkeys]; exact hk, fun k => ?_, by rw [hT']; simpa using hm⟩, .inr ⟨by rw [← hf n, hg]; rfl, rfl⟩⟩
    · simp only [Instr.mapUpdate, Sem.run_bind, run_underlying Tryz.underlying62, Result.andThen, Go.MapKept.run_getObj_map hb, run_checkKey Tryz.underlying3 hk0, run_findKey Tryz.underlying3 hi]
      rw [hat]
      have hst : Instr.keyThatStays ((Option.map (·.key) (some e.obj)).getD (.int .i64 (n : Int))) (.int .i64 (n : Int)) = pure (.int .i64 (n : Int)) := by
        simp [Instr.keyThatStays, Ent.obj, h1, Instr.sameBits]
      rw [hst]
      simp only [Sem.run_pure]
      rw [hmod, hs]
      simp [setBlock]
    · have : x.born ∈ (L1 ++ e :: L2).map (·.born) := by rw [← hborn]; exact List.mem_map.2 ⟨x, hx, rfl⟩
      obtain ⟨y, hy, q⟩ := List.mem_map.1 this
      rw [← q]; exact hl y hy
    · have hfk := hf k
      rw [hT', gt_app, gt_cons]
      rw [gt_app, gt_cons] at hfk
      unfold upd
      by_cases hkn : k = n
      · subst hkn
        rw [if_pos h1, if_pos rfl, gt_of h3]; rfl
      · have q : ¬ e.k = k := fun q => hkn (by omega)
        rw [if_neg q] at hfk ⊢
        rw [if_neg hkn, ← hfk]
theorem MapP.del {w : World} {b m : Nat} {f : Nat → Option Value} (h : MapP w b f m) (n : Nat) (ty : TypeId) :
    ∃ ob m', (Builtin.delete_ #[62, 3] ty #[.map (some b), .int .i64 (n : Int)]).run Tryz.prog w = .ok (.tuple #[]) (setBlock w b ob) ∧ (∀ w', w'.heap[b]? = some ob → MapP w' b (upd f n none) m') ∧ m' ≤ m := by
  obtain ⟨T, cl, hb, hl, hn, hk, hf, hm⟩ := h
  have hk0 : IsKey (.int .i64) (.int .i64 (n : Int)) := by simp [IsKey]
  cases hg : gt T n with
  | none =>
    have hs := run_setObj_map (P := Tryz.prog) (.map (T.map Ent.obj).toArray cl) hb
    refine ⟨.map (T.map Ent.obj).toArray cl, m, ?_, fun w' hw => ⟨T, cl, hw, hl, hn, hk, fun k => ?_, hm⟩, Nat.le_refl _⟩
    · simp [Builtin.delete_, run_underlying Tryz.underlying62, Result.andThen, Go.MapKept.run_getObj_map hb, run_checkKey Tryz.underlying3 hk0, run_findKey Tryz.underlying3 (findNow_miss n T 0 (gt_none hg)), hs, setBlock]
    · unfold upd
      by_cases hkn : k = n
      · subst hkn; rw [if_pos rfl]; exact hg
      · rw [if_neg hkn]; exact hf k
  | some v0 =>
    obtain ⟨L1, e, L2, rfl, h1, h2, h3⟩ := gt_some hg
    have hi := findNow_at n e h1 L2 L1 0 h3
    rw [Nat.zero_add] at hi
    have her : ((L1 ++ e :: L2).map Ent.obj).eraseIdx L1.length = (L1 ++ L2).map Ent.obj := by
      have hL : L1.length = (L1.map Ent.obj).length := by simp
      rw [List.map_append, hL, List.eraseIdx_append_of_length_le (Nat.le_refl _)]
      simp
    have hs := run_setObj_map (P := Tryz.prog) (.map ((L1 ++ L2).map Ent.obj).toArray cl) hb
    have hsub : (L1 ++ L2).Sublist (L1 ++ e :: L2) := List.Sublist.append (List.Sublist.refl _) (List.sublist_cons_self _ _)
    have h4 : ∀ x ∈ L2, x.k ≠ n := fun x hx q => by
      have h := (List.nodup_append.1 (by simpa using hk : (L1.map (·.k) ++ e.k :: L2.map (·.k)).Nodup)).2.1
      rw [List.nodup_cons] at h
      exact h.1 (List.mem_map.2 ⟨x, hx, by omega⟩)
    refine ⟨.map ((L1 ++ L2).map Ent.obj).toArray cl, m - 1, ?_, fun w' hw => ⟨L1 ++ L2, cl, hw, fun x hx => hl x (hsub.subset hx), (hsub.map _).nodup hn, (hsub.map _).nodup hk, fun k => ?_, by simp at hm ⊢; omega⟩, by omega⟩
    · generalize L1 ++ e :: L2 = T0 at *
      generalize L1 ++ L2 = T1 at *
      simp [Builtin.delete_, run_underlying Tryz.underlying62, Result.andThen, Go.MapKept.run_getObj_map hb, run_checkKey Tryz.underlying3 hk0, run_findKey Tryz.underlying3 hi, her, hs, setBlock]
    · have hfk := hf k
      rw [gt_app] at hfk ⊢
      rw [gt_cons] at hfk
      unfold upd
      by_cases hkn : k = n
      · subst hkn
        rw [if_pos rfl, gt_of h3, gt_of h4]; rfl
      · rw [if_neg (by omega : ¬ e.k = k)] at hfk
        rw [if_neg hkn, hfk]
theorem MapP.clr {w : World} {b m : Nat} {f : Nat → Option Value} (h : MapP w b f m) (ty : TypeId) :
    ∃ ob, (Builtin.clear_ #[62] ty #[.map (some b)]).run Tryz.prog w = .ok (.tuple #[]) (setBlock w b ob) ∧ ∀ w', w'.heap[b]? = some ob → MapP w' b (fun _ => none) 0 := by
  obtain ⟨T, cl, hb, hl, hn, hk, hf, hm⟩ := h
  have hs := run_setObj_map (P := Tryz.prog) (.map #[] cl) hb
  refine ⟨.map #[] cl, ?_, fun w' hw => ⟨[], cl, hw, by simp, by simp, by simp, fun n => rfl, rfl⟩⟩
  simp [Builtin.clear_, run_underlying Tryz.underlying62, Result.andThen, Go.MapKept.run_getObj_map hb, hs, setBlock]
theorem MapP.len {w : World} {b m : Nat} {f : Nat → Option Value} (h : MapP w b f m) (ty : TypeId) : (Builtin.len_ #[62] ty #[.map (some b)]).run Tryz.prog w = .ok (.int .i64 (m : Int)) w := by
  obtain ⟨T, cl, hb, hl, hn, hk, hf, hm⟩ := h
  simp [Builtin.len_, run_underlying Tryz.underlying62, Go.MapKept.run_getObj_map hb, Result.andThen, goInt, hm]
theorem MapP.new {w : World} {b : Nat} (h : w.heap[b]? = some (.map #[] 0)) : MapP w b (fun _ => none) 0 := ⟨[], 0, h, by simp, by simp, by simp, fun _ => rfl, rfl⟩
theorem MapP.fr {w w' : World} {b m : Nat} {f : Nat → Option Value} {U : List Nat} (h : MapP w b f m) (hf : Fr U w w') (hU : b ∉ U) : MapP w' b f m := by
  obtain ⟨T, cl, hb, h2⟩ := h
  exact ⟨T, cl, hf.heap hU hb, h2⟩
theorem MapP.lt {w : World} {b m : Nat} {f : Nat → Option Value} (h : MapP w b f m) : b < w.heap.size := by
  obtain ⟨T, cl, hb, _⟩ := h
  exact (Array.getElem?_eq_some_iff.1 hb).1
theorem MapP.heapAt {w : World} {b m : Nat} {f : Nat → Option Value} (h : MapP w b f m) : w.heap[b]? = some (w.heap[b]'h.lt) := Array.getElem?_eq_getElem h.lt
theorem nodup_lt : ∀ (M : Nat) (l : List Nat), l.Nodup → (∀ x ∈ l, x < M) → l.length ≤ M
  | 0, l, _, h => by
    cases l with
    | nil => simp
    | cons x l => exact absurd (h x (by simp)) (by omega)
  | M + 1, l, hn, h => by
    by_cases hm : M ∈ l
    · have h1 := nodup_lt M (l.erase M) (hn.erase M) (fun x hx => by
        have h2 := (hn.mem_erase_iff).1 hx
        have := h x h2.2
        omega)
      rw [List.length_erase_of_mem hm] at h1
      omega
    · have := nodup_lt M l hn (fun x hx => by
        have h1 := h x hx
        have h2 : x ≠ M := fun e => hm (e ▸ hx)
        omega)
      omega
/-- A map whose keys are below M has no more than M entries. -/
theorem MapP.le {w : World} {b m M : Nat} {f : Nat → Option Value} (h : MapP w b f m) (hM : ∀ n v, f n = some v → n < M) : m ≤ M := by
  obtain ⟨T, cl, hb, hl, hn, hk, hf, hm⟩ := h
  have h1 := nodup_lt M (T.map (·.k)) hk (fun k hk' => by
    obtain ⟨e, he, rfl⟩ := List.mem_map.1 hk'
    cases hg : gt T e.k with
    | none => exact absurd rfl (gt_none hg e he)
    | some v => exact hM e.k v (by rw [← hf]; exact hg))
  simp at h1; omega
end Go.Proofs.YtcblfkojkdaepaaGreat
