/- The contract of a cache's Commit. -/
import Derived.Test.YtcblfkojkdaepaaGreatCRd
import Derived.Test.YtcblfkojkdaepaaGreatAgain
import Derived.Deep.LoopGhost
namespace Go.Proofs.YtcblfkojkdaepaaGreat
open Go.RowKit Go.ChangeMaps

theorem play_add (F : List Value) (ops xs : List (Option (Nat × Value))) : (play F ops).2 = [] → play F (ops ++ xs) = play (play F ops).1 xs := fun h => by
  rw [play_app]
  unfold play at h ⊢
  rw [show (ops.foldl stepP (F, [])) = ((ops.foldl stepP (F, [])).1, []) from Prod.ext rfl h]
theorem commit_gen2 (w : World) {p g bs bm s M : Nat} {F : List Value} {ops : List (Option (Nat × Value))} {old : Nat → List UInt8} (L : LogAt w p g s) (D : DiskP w g bs bm F ops) (hp : p ∉ [g, bs, bm]) (hF : F.length ≤ 4096) (hM : F.length = s + 1 + M) (hs : s ≤ 100) (hP : Playable F ops) (h0 : (play F ops).2 = []) (hO : ops.length ≤ 80000) (hE : Emp (Dat [g, bs, bm] w) s M old (play F ops).1) (pv : Value) (ps : List (Nat × Value)) (hps : RdPg w pv ps) (hl : ps.length ≤ s) (hn : ∀ x ∈ ps, x.1 < M) (hnd : (ps.map (·.1)).Nodup) (new : Nat → List UInt8) (hon : ∀ n, n ∉ ps.map (·.1) → old n = new n) (hd : ∀ x ∈ ps, Dat [g, bs, bm] w x.2 (new x.1)) (h5 : ∀ x ∈ ps, (new x.1).length = 512) :
    Calls Tryz.prog 28 #[.pointer (some ⟨p, 0, none⟩), pv] w fun e w' => e = .returned (.int .i64 0) ∧ Fr [g, bs, bm] w w' ∧ ∃ xs, LogAt w' p g s ∧ DiskP w' g bs bm F (ops ++ xs) ∧ Playable F (ops ++ xs) ∧ (play F (ops ++ xs)).2 = [] ∧ xs.length ≤ 1000 ∧ Emp (Dat [g, bs, bm] w') s M new (play F (ops ++ xs)).1 := by
  by_cases h0' : ps = []
  · subst h0'
    obtain ⟨a, c, rfl, _⟩ := hps
    refine (commit_none w L a c).mono ?_
    rintro e w' ⟨rfl, hf⟩
    have hR : ∀ v l, Dat [g, bs, bm] w v l → Dat [g, bs, bm] w' v l := fun v l h => RdN.fr h hf (by simp)
    have e : old = new := funext fun n => hon n (by simp)
    refine ⟨rfl, hf.mono (by simp), [], L.fr hf (by simp), ?_⟩
    rw [List.append_nil]
    exact ⟨D.fr hf (by simp), hP, h0, by simp, e ▸ hE.mono hR⟩
  · obtain ⟨ns, hns, hr⟩ := rising_of _ hnd
    have hnl : ns.length = ps.length := by have := hns.length_eq; simpa using this
    have hnb : ∀ n ∈ ns, n < M := fun n h => by
      obtain ⟨x, h1, h2⟩ := List.mem_map.1 (hns.mem_iff.1 h)
      have := hn x h1; omega
    refine (commit_any w (M := M) L D hp h0 hF hM hs hO pv ps hps h0' hl hn hnd new hd h5 ns hns hr).mono ?_
    rintro e w' ⟨rfl, hf, us, uh, vs, vh, hul, hvl, hsl, hud, huh, hvd, hvh, D'⟩
    have hR : ∀ v l, Dat [g, bs, bm] w v l → Dat [g, bs, bm] w' v l := fun v l h => RdN.fr h hf (fun k hk => .inl hk)
    obtain ⟨_, P', h2, h3⟩ := commit_good (ns := ns) (new := new) (hE.mono hR) hul hvl (by omega) hr hud hvd (fun n hn => hon n (fun h => hn (hns.mem_iff.2 h))) huh hvh
    have hpl : play (play F ops).1 (comOps s ns us uh vs vh) = (P', []) := h2
    refine ⟨rfl, hf, comOps s ns us uh vs vh, L.fr hf hp, D', ?_, ?_, ?_, ?_⟩
    · exact playable_com hP h0 hM ns (by omega) hr hnb us uh vs vh hsl
    · rw [play_add _ _ _ h0, hpl]
    · simp [comOps, homeOps, mkW]; omega
    · rw [play_add _ _ _ h0, hpl]; exact h3
theorem gt_mem {T : List Ent} (hn : (T.map (·.k)).Nodup) {e : Ent} (he : e ∈ T) : gt T e.k = some e.sl := by
  induction T with
  | nil => cases he
  | cons x T ih =>
    rw [List.map_cons, List.nodup_cons] at hn
    rw [gt_cons]
    rcases List.mem_cons.1 he with rfl | he
    · rw [if_pos rfl]
    · rw [if_neg (fun q => hn.1 (List.mem_map.2 ⟨e, he, q.symm⟩))]
      exact ih hn.2 he
theorem key_one {T : List Ent} (h : (T.map (·.k)).Nodup) {x y : Ent} (hx : x ∈ T) (hy : y ∈ T) (e : x.k = y.k) : x = y := by
  induction T with
  | nil => cases hx
  | cons t T ih =>
    rw [List.map_cons, List.nodup_cons] at h
    rcases List.mem_cons.1 hx with h1 | h1 <;> rcases List.mem_cons.1 hy with h2 | h2
    · rw [h1, h2]
    · exact absurd (List.mem_map.2 ⟨y, h2, by rw [← e, h1]⟩) h.1
    · exact absurd (List.mem_map.2 ⟨x, h1, by rw [e, h2]⟩) h.1
    · exact ih h.2 h1 h2
/-- While the pages are gathered: L has come. -/
structure CmI (w wr : World) (r db cl : Nat) (T L : List Ent) (v : Value) : Prop where
  rng : Rng wr r db cl T L
  own : wr.ownsRow w.heap.size 77 2 v L.length (pgC (L.map fun e => (e.k, e.sl)))
  fr : Fr [] w wr
  nd : (L.map (·.k)).Nodup
  cnt : toCome T L + L.length ≤ T.length
theorem CmI.step {w wr w' w5 : World} {r db cl : Nat} {T L : List Ent} {v v' : Value} (I : CmI w wr r db cl T L v) (hr : w.heap.size ≤ r) (hdb : db < w.heap.size) (hk : (T.map (·.k)).Nodup) {e : Ent} (he : e ∈ T) (hnL : e ∉ L) (hR : Rng w' r db cl T (L ++ [e])) (hF : Fr [r] wr w') (hlt : toCome T (L ++ [e]) < toCome T L) (o : Obj) (hown : w5.ownsRow w.heap.size 77 2 v' (L.length + 1) (pgC ((L ++ [e]).map fun e => (e.k, e.sl)))) (hg : (w'.alloc o).grownBy w5 v.ownBlock) : CmI w w5 r db cl T (L ++ [e]) v' := by
  have hobr : ∀ k, v.ownBlock = some k → w.heap.size ≤ k ∧ k ≠ r := fun k hk => by
    obtain ⟨_, h⟩ := I.own
    rcases h with ⟨rfl, _⟩ | ⟨g, cap, cur, rfl, hb, hgg, _⟩
    · cases hk
    · simp only [Value.ownBlock, Option.some.injEq] at hk
      subst hk
      refine ⟨hb, fun q => ?_⟩
      have := I.rng.it
      rw [← q, hgg] at this
      cases this
  have hF5 : Fr v.ownBlock.toList w' w5 := ((Fr.refl _ w').alloc o).grown hg (fun k hk => .inl (by rw [hk]; simp))
  refine ⟨hR.fr hF5 (fun hm => (hobr r (by simpa using hm)).2 rfl) (fun hm => by have := (hobr db (by simpa using hm)).1; omega), by simpa using hown, ?_, ?_, ?_⟩
  · exact ((I.fr.then hF (fun x hx => .inr (by simp at hx; omega)))).then hF5 (fun x hx => .inr (hobr x (by simpa using hx)).1)
  · rw [List.map_append]
    refine List.nodup_append.2 ⟨I.nd, by simp, fun a ha b hb q => ?_⟩
    obtain ⟨x, hx, rfl⟩ := List.mem_map.1 ha
    simp at hb; subst hb
    have h2 : x = e := key_one hk (I.rng.sub x hx) he q
    exact hnL (h2 ▸ hx)
  · have := I.cnt
    simp only [List.length_append, List.length_singleton]
    omega
theorem toCome_nil (T : List Ent) : toCome T [] = T.length := by
  unfold toCome leftOf
  rw [Array.filter_eq_self.2 (by simp)]
  simp
section
variable {A : List Nat} {w : World} {c p db cb g bs bm s M most dm cm : Nat} {rv : Value} {row : List Nat} {F : List Value} {ops : List (Option (Nat × Value))} {df cf : Nat → Option Value} {pg cur : Nat → List UInt8}
/-- Behind the log's Commit and the clearing. -/
theorem CSt.cm_end (h : CSt A w c p db cb g bs bm s M most dm cm rv row F ops df cf pg cur) {w5 w6 : World} {xs : List (Option (Nat × Value))} {ob : Obj} (h5 : Fr [] w w5) (h56 : Fr [g, bs, bm] w5 w6) (hL : LogAt w6 p g s) (hD : DiskP w6 g bs bm F (ops ++ xs)) (hP : Playable F (ops ++ xs)) (hW : (Go.Proofs.YtcblfkojkdaepaaGreat.play F (ops ++ xs)).2 = []) (hE : Emp (Dat [g, bs, bm] w6) s M cur (Go.Proofs.YtcblfkojkdaepaaGreat.play F (ops ++ xs)).1) (hK : ∀ w'', w''.heap[db]? = some ob → MapP w'' db (fun _ => none) 0) :
    Fr [db, g, bs, bm] w (setBlock w6 db ob) ∧ CSt [] (setBlock w6 db ob) c p db cb g bs bm s M most 0 cm rv row F (ops ++ xs) (fun _ => none) cf cur cur := by
  have q := h.fr h5 (by simp)
  obtain ⟨o1, o2, o3, o4, o5⟩ := q.off
  have k2 := q.kinds.2.1
  have k7 := q.kinds.2.2.2.2.2.2.1
  have hap := q.apart.1
  have ho := fun x hx => (q.kinds.2.2.2.2.2.2.2.2.2.2.2.2.2.2.2 x hx).2.2.1
  have F7 : Fr [db] w6 (setBlock w6 db ob) := (Fr.refl _ _).setBlock (.inl (by simp)) ob
  have q6 : MapP w6 db df dm := q.dirty.fr h56 o3
  have hB : ∀ x ∈ [db], w6.heap.size ≤ x ∨ ∀ cs t fr, w6.heap[x]? = some (.cells cs t fr) → t = 5 → x ∈ ([] : List Nat) ∨ cs.size < 512 := fun x hx => .inr fun cs t fr e => by
    simp at hx; subst hx
    obtain ⟨_, _, e2, _⟩ := q6
    rw [e2] at e; cases e
  have hfarD : ∀ x ∈ [db], FarD [g, bs, bm] w6 x := fun x hx => .inr ⟨by simp at hx; subst hx; exact o3, fun cs t fr e => by
    simp at hx; subst hx
    obtain ⟨_, _, e2, _⟩ := q6
    rw [e2] at e; cases e⟩
  have hto : ∀ v l, Dat [g, bs, bm] w6 v l → Dat [] w6 v l := fun v l h => RdN.to h (by simp)
  have hDat : ∀ v l, 512 ≤ l.length → Dat A w v l → Dat [] (setBlock w6 db ob) v l := fun v l hl hd => by
    have d1 : Dat [] w5 v l := RdN.to (RdN.fr hd h5 (by simp)) (by simp)
    have d2 : Dat [] w6 v l := dat_kept d1 hl h56 (fun x hx => .inr fun cs t fr e ht => by
      subst ht
      obtain ⟨T, D, _⟩ := q.disk
      obtain ⟨_, _, _, hg, _⟩ := D.box
      obtain ⟨_, hbs, _⟩ := D.row
      obtain ⟨_, hbm, _⟩ := D.map
      simp only [List.mem_cons, List.not_mem_nil, or_false] at hx
      rcases hx with rfl | rfl | rfl
      · exact absurd rfl (ne_ty hg e (by decide))
      · exact absurd rfl (ne_ty hbs e (by decide))
      · rw [hbm] at e; cases e)
    exact dat_kept d2 hl F7 hB
  refine ⟨((h5.mono (by simp)).trans (h56.mono (fun x hx => .inl (List.mem_cons_of_mem _ hx)))).trans (F7.mono (by simp)), (q.box.fr h56 o1).fr F7 (by simpa using k2), hL.fr F7 (by simpa using k7), hD.far F7 hfarD, hP, hW, emp_kept (hE.mono hto) (fun n hn => (h.len5 n hn).1) F7 hB, hK _ (heap_setBlock q6.heapAt), (q.clean.fr h56 o4).fr F7 (by simpa using fun e => hap e.symm), (fun n v e => by cases e), fun n v e => ?_, fun n e => rfl, (q.rown.fr h56 (fun x hx => .inr fun hm => ?_)).fr F7 (fun x hx => .inr fun hm => ?_), h.rlen, h.apart, fun n hn => ⟨(h.len5 n hn).1, (h.len5 n hn).1⟩, h.size, by simp⟩
  · obtain ⟨e0, e1, e2⟩ := h.cc n v e
    refine ⟨e0, rfl, ?_⟩
    rw [h.nd n e1]
    exact hDat _ _ (Nat.le_of_eq (h.len5 n e0).2.symm) e2
  · exact o5 x hm hx
  · simp at hx; exact ho x hm hx
set_option maxRecDepth 100000 in
set_option maxHeartbeats 4000000 in
theorem ccommit_any (h : CSt A w c p db cb g bs bm s M most dm cm rv row F ops df cf pg cur) (hO : ops.length ≤ 80000) (hdm : dm ≤ s) :
    Calls Tryz.prog 9 #[.pointer (some ⟨c, 0, none⟩)] w fun e w' => e = .returned (.int .i64 0) ∧ Fr [db, g, bs, bm] w w' ∧ ∃ xs, xs.length ≤ 1000 ∧ CSt [] w' c p db cb g bs bm s M most 0 cm rv row F (ops ++ xs) (fun _ => none) cf cur cur := by
  obtain ⟨T, cl, hmap, hborn, hbn, hkn, hgt, hTl⟩ := h.dirty
  have hdbl := h.dirty.lt
  have hrg := run_range_map (P := Tryz.prog) w 62 3 46 db _ cl Tryz.underlying62 hmap
  have k2 : w.cell? ⟨c, 2, none⟩ = some (.map (some db)) := (cell_of_row _ c 2 _ _ _ h.box).trans rfl
  have hbm2 := hmap
  have I0 := Lib.hid (show CmI w (w.alloc (.mapIter (some db) cl #[] cl)) w.heap.size db cl T [] (.slice none 0 0) from by
    have hF : Fr [] w (w.alloc (.mapIter (some db) cl #[] cl)) := (Fr.refl _ _).alloc _
    refine ⟨⟨heap_alloc_new w _, hF.heap (by simp) hmap, hborn, hbn, by simp, by omega⟩, World.ownsRow_nil _ _ _ _, hF, by simp, ?_⟩
    rw [toCome_nil]; simp)
  have HH := Lib.hid h; have HKN := Lib.hid hkn; have HGT := Lib.hid hgt
  have hM := h.size
  clear h hmap hborn hbn hkn hgt
  go_enter Tryz.func9, Tryz.ntmps9
  go_wp2_with fail
  go_loopg [3] (toCome T []) (fun k lv wr => ∃ L, CmI w wr w.heap.size db cl T L lv ∧ toCome T L = k)
  case atStart => exact ⟨[], I0.out, rfl⟩
  clear I0
  case round =>
    obtain ⟨L, hI, hk⟩ := hrel
    have HI := Lib.hid hI
    have HK := Lib.hid hk
    clear hI hk
    go_wp2_with (refine wpList_next_ents rfl (.tmp 13) rfl rfl HI.out.rng ?c1 ?c2)
    case c1 =>
      intro hall
      have hq := HH.out.fr HI.out.fr (by simp)
      have hdf : ∀ e ∈ T, df e.k = some e.sl := fun e he => by rw [← HGT.out]; exact gt_mem HKN.out he
      have hty : ∀ x ∈ [g, bs, bm], ∀ cs fr, wr.heap[x]? ≠ some (.cells cs 5 fr) := fun x hx cs fr e => by
        obtain ⟨T, D, _⟩ := hq.disk
        obtain ⟨_, _, _, hg, _⟩ := D.box
        obtain ⟨_, hbs, _⟩ := D.row
        obtain ⟨_, hbm, _⟩ := D.map
        simp only [List.mem_cons, List.not_mem_nil, or_false] at hx
        rcases hx with rfl | rfl | rfl
        · exact absurd rfl (ne_ty hg e (by decide))
        · exact absurd rfl (ne_ty hbs e (by decide))
        · rw [hbm] at e; cases e
      have hplus : ∀ v l, Dat A wr v l → Dat [g, bs, bm] wr v l := fun v l hd => RdN.plus hd hty
      have hrp := rdpg_of HI.out.own (by simp)
      obtain ⟨la, lc, hlv, _⟩ := id hrp
      have hcn := HI.out.cnt
      have hmem : ∀ x ∈ L.map (fun e => (e.k, e.sl)), x.1 < M ∧ Dat A wr x.2 (cur x.1) := fun x hx => by
        obtain ⟨e, he, rfl⟩ := List.mem_map.1 hx
        exact hq.dd _ _ (hdf e (HI.out.rng.sub e he))
      have hon : ∀ n, n ∉ (L.map fun e => (e.k, e.sl)).map (·.1) → pg n = cur n := fun n hn => by
        refine (HH.out.nd n ?_).symm
        rw [← HGT.out]
        refine gt_of fun e he q => hn ?_
        rw [List.map_map]
        exact List.mem_map.2 ⟨e, hall e he, q⟩
      have HCM := Lib.hid (commit_gen2 wr hq.log hq.disk hq.off.2.1 hM.2.1 hM.1 hM.2.2.2.1 hq.play hq.wait hO (hq.emp.mono hplus) u3 _ hrp (by simp; omega) (fun x hx => (hmem x hx).1) (by rw [List.map_map]; exact HI.out.nd) cur hon (fun x hx => hplus _ _ (hmem x hx).2) (fun x hx => (HH.out.len5 x.1 (hmem x hx).1).1))
      have k0 : wr.cell? ⟨c, 0, none⟩ = some (.pointer (some ⟨p, 0, none⟩)) := (cell_of_row _ c 0 _ _ _ hq.box).trans rfl
      have HQ := Lib.hid hq; have HFR := Lib.hid HI.out.fr
      rw [List.length_map] at hlv
      subst hlv
      clear hq hdf hty hplus hrp hcn hmem hon hall HI HK hrg
      go_wp2_with fail
      refine HCM.out.mono ?_
      rintro e w6 ⟨rfl, hf6, xs, hL6, hD6, hP6, hW6, hx6, hE6⟩
      have hk6 := HQ.out.off
      have hm6 := HQ.out.dirty.fr hf6 hk6.2.2.1
      obtain ⟨ob, hclr, hK⟩ := hm6.clr 0
      have k26 : w6.cell? ⟨c, 2, none⟩ = some (.map (some db)) := (cell_of_row _ c 2 _ _ _ (HQ.out.box.fr hf6 hk6.1)).trans rfl
      have HE := Lib.hid (HH.out.cm_end HFR.out hf6 hL6 hD6 hP6 hW6 hE6 hK)
      have HX := Lib.hid hx6
      clear hk6 hm6 hf6 hL6 hD6 hP6 hW6 hE6 hK hx6 HCM
      go_wp2_with fail
      go_ret
      exact ⟨rfl, HE.out.1, xs, HX.out, HE.out.2⟩
    case c2 =>
      intro e w' he hnL hR hF hlt hen
      have hd := HH.out.dd e.k e.sl (by rw [← HGT.out]; exact gt_mem HKN.out he)
      obtain ⟨sa, sc, hes, _⟩ := RdN.open hd.2
      have hcn := HI.out.cnt
      have hown' : w'.ownsRow w.heap.size 77 2 u3 (L.map fun e => (e.k, e.sl)).length (pgC (L.map fun e => (e.k, e.sl))) := by
        rw [List.length_map]
        have hobr : ∀ k, u3.ownBlock = some k → k ≠ w.heap.size := fun k hk => by
          obtain ⟨_, h⟩ := HI.out.own
          rcases h with ⟨rfl, _⟩ | ⟨g, cap, cur, rfl, hb, hgg, _⟩
          · cases hk
          · simp only [Value.ownBlock, Option.some.injEq] at hk
            subst hk
            intro q
            have := HI.out.rng.it
            rw [← q, hgg] at this
            cases this
        exact World.ownsRow.kept (row := some w.heap.size) HI.out.own hF.grownBy (by
          cases hv : u3.ownBlock with
          | none => exact .inl rfl
          | some g => exact .inr (fun q => hobr g hv (by cases q; rfl)))
      have HST := Lib.hid (fun (o : Obj) (v' : Value) (w5 : World) => @CmI.step w wr w' w5 w.heap.size db cl T L u3 v' HI.out (Nat.le_refl _) hdbl HKN.out e he hnL hR hF hlt o)
      have HLT := Lib.hid hlt; have HON := Lib.hid hown'
      have hsz : w.heap.size ≤ w'.heap.size := Nat.le_trans HI.out.fr.size hF.size
      have HSZ := Lib.hid hsz
      obtain ⟨ek, esl, ev, eb⟩ := e
      dsimp only at hes hen hd HST
      rw [List.length_map, (HH.out.len5 _ hd.1).1] at hes
      subst hes
      clear hd he hnL hR hF hlt hown' hrg hsz
      go_wp2_with (refine wpList_pg1 rfl (.tmp 19) (.tmp 23) rfl w.heap.size u3 (L.map fun e => (e.k, e.sl)) rfl ?e1 w'.heap.size ek sa 512 sc rfl (heap_alloc_new w' _) ?e3 ?e4 ?_)
      case e1 =>
        have h := World.ownsRow.alloc HON.out (.cells #[.int .i64 (ek : Int), .slice sa 512 sc] 77)
        rwa [List.length_map] at h
      case e3 => (try rw [List.length_map]); omega
      case e4 => have := HSZ.out; simp; omega
      intro v' w5 hown hgr
      have HS := Lib.hid (HST.out _ v' w5 (by simpa using hown) hgr)
      clear hown hgr HST HON HSZ hcn
      go_wp2_with fail
      go_roundg (toCome T (L ++ [(⟨ek, .slice sa 512 sc, ev, eb⟩ : Ent)]))
      case measure => have := HLT.out; have := HK.out; omega
      case rel => exact ⟨_, HS.out, rfl⟩
end
end Go.Proofs.YtcblfkojkdaepaaGreat
/- The contracts of bcache.New and of a cache's Log. -/
namespace Go.Proofs.YtcblfkojkdaepaaGreat
open Go.RowKit Go.ChangeMaps

set_option maxRecDepth 100000 in
set_option maxHeartbeats 2000000 in
theorem cnew_any (w : World) {p g bs bm s M most : Nat} {F : List Value} {ops : List (Option (Nat × Value))} {pg : Nat → List UInt8} (L : LogAt w p g s) (D : DiskP w g bs bm F ops) (hP : Playable F ops) (h0 : (play F ops).2 = []) (hE : Emp (Dat [] w) s M pg (play F ops).1) (h5 : ∀ n, n < M → (pg n).length = 512) (hF : F.length ≤ 4096) (hM : F.length = s + 1 + M) (hs : 0 < s ∧ s ≤ 100) (hM0 : 0 < M) (hm : 0 < most ∧ most ≤ 64) :
    Calls Tryz.prog 6 #[.pointer (some ⟨p, 0, none⟩), .int .i64 (most : Int)] w fun e w' => ∃ c db cb, e = .returned (.tuple #[.pointer (some ⟨c, 0, none⟩), .int .i64 0]) ∧ CSt [] w' c p db cb g bs bm s M most 0 0 (.slice none 0 0) [] F ops (fun _ => none) (fun _ => none) pg pg ∧ Below w.heap.size w w' ∧ w.heap.size ≤ c ∧ w.heap.size ≤ db ∧ w.heap.size ≤ cb := by
  have m0 : (1 : Int) ≤ (most : Int) := by omega
  have m1 : (most : Int) ≤ 64 := by omega
  have hmm := @run_makeMap Tryz.prog
  have A1 := (Fr.refl [] w).alloc (.map #[] 0)
  have A2 := A1.alloc (.map #[] 0)
  have A3 := A2.alloc (.cells #[.pointer (some ⟨p, 0, none⟩), .int .i64 (most : Int), .map (some w.heap.size), .map (some (w.heap.size + 1)), .slice none 0 0] 64)
  have R1 := heap_alloc_new w (.map #[] 0)
  have R2 := heap_alloc_new (w.alloc (.map #[] 0)) (.map #[] 0)
  have R3 := heap_alloc_new ((w.alloc (.map #[] 0)).alloc (.map #[] 0)) (.cells #[.pointer (some ⟨p, 0, none⟩), .int .i64 (most : Int), .map (some w.heap.size), .map (some (w.heap.size + 1)), .slice none 0 0] 64)
  have K1 := (MapP.new R1).fr (((Fr.refl [] (w.alloc (.map #[] 0))).alloc (.map #[] 0)).alloc (.cells #[.pointer (some ⟨p, 0, none⟩), .int .i64 (most : Int), .map (some w.heap.size), .map (some (w.heap.size + 1)), .slice none 0 0] 64)) (by simp)
  have K2 := (MapP.new R2).fr ((Fr.refl [] ((w.alloc (.map #[] 0)).alloc (.map #[] 0))).alloc (.cells #[.pointer (some ⟨p, 0, none⟩), .int .i64 (most : Int), .map (some w.heap.size), .map (some (w.heap.size + 1)), .slice none 0 0] 64)) (by simp)
  have hbm := D.lt.2.2
  have HR := Lib.hid (show CSt [] (((w.alloc (.map #[] 0)).alloc (.map #[] 0)).alloc (.cells #[.pointer (some ⟨p, 0, none⟩), .int .i64 (most : Int), .map (some w.heap.size), .map (some (w.heap.size + 1)), .slice none 0 0] 64)) (w.heap.size + 2) p w.heap.size (w.heap.size + 1) g bs bm s M most 0 0 (.slice none 0 0) [] F ops (fun _ => none) (fun _ => none) pg pg from
    ⟨by simpa [CacheAt] using R3, L.fr A3 (by simp), D.fr A3 (by simp), hP, h0, emp_kept hE h5 A3 (by simp), K1, by simpa using K2, by simp, by simp, fun _ _ => rfl, ⟨by simp, .inl ⟨rfl, rfl⟩⟩, by simp, ⟨by omega, by omega, by omega⟩, fun n hn => ⟨h5 n hn, h5 n hn⟩, ⟨hM, hF, hs.1, hs.2, hM0, hm.1, hm.2⟩, by simp⟩)
  have HB := Lib.hid (A3.below (Nat.le_refl _) (by simp))
  clear A1 A2 A3 R1 R2 R3 K1 K2 L D hP h0 hE h5 hbm
  go_enter Tryz.func6, Tryz.ntmps6
  go_wp2_with fail
  go_ret2
  exact ⟨w.heap.size + 2, rfl, w.heap.size, w.heap.size + 1, HR.out, HB.out, by omega, by omega, by omega⟩
set_option maxRecDepth 100000 in
theorem clog_any (w : World) {c p most db cb : Nat} {rv : Value} (C : CacheAt w c p most db cb rv) : Calls Tryz.prog 20 #[.pointer (some ⟨c, 0, none⟩)] w fun e w' => e = .returned (.pointer (some ⟨p, 0, none⟩)) ∧ w' = w := by
  have k0 : w.cell? ⟨c, 0, none⟩ = some (.pointer (some ⟨p, 0, none⟩)) := (cell_of_row _ c 0 _ _ _ C).trans rfl
  clear C
  go_enter Tryz.func20, Tryz.ntmps20
  go_wp2_with fail
  go_ret
  exact ⟨rfl, rfl⟩
end Go.Proofs.YtcblfkojkdaepaaGreat
