/- The contract of a cache's Write. -/
import Derived.Test.YtcblfkojkdaepaaGreatDrop
import Derived.Deep.RegionWith
namespace Go.Proofs.YtcblfkojkdaepaaGreat
open Go.RowKit Go.ChangeMaps

section
variable {A : List Nat} {w : World} {c p db cb g bs bm s M most dm cm : Nat} {rv : Value} {row : List Nat} {F : List Value} {ops : List (Option (Nat × Value))} {df cf : Nat → Option Value} {pg cur : Nat → List UInt8}
theorem CSt.nilD (h : CSt A w c p db cb g bs bm s M most dm cm rv row F ops df cf pg cur) : DiskAt w g bs bm F (ops.map opV) (Go.Proofs.YtcblfkojkdaepaaGreat.play F ops).1 [] := h.disk.nil h.wait
theorem dat_own {A : List Nat} {w : World} {base : Nat} {v : Value} {l : List UInt8} (h : w.ownsRow base 5 1 v 512 (l.map vB)) (hA : ∀ k ∈ A, k < base) : Dat A w v l := RdN_of_owns h hA
/-- Behind a Write. -/
theorem CSt.wr_end (h : CSt A w c p db cb g bs bm s M most dm cm rv row F ops df cf pg cur) {n : Nat} (hn : n < M) {l : List UInt8} (hl : l.length = 512) {w5 w7 : World} {ob : Obj} {r rv' : Value} {dm' cm' : Nat} (hf : Fr [] w w5) (hown : w5.ownsRow w.heap.size 5 1 r 512 (l.map vB)) (hK : ∀ w'', w''.heap[db]? = some ob → MapP w'' db (upd df n (some r)) dm')
    (h67 : Fr ([c, cb] ++ rv.ownBlock.toList) (setBlock w5 db ob) w7) (hC : CacheAt w7 c p most db cb rv') (hcb : MapP w7 cb (upd cf n none) cm') (hz : RowZ w7 rv' (row.filter (· != n))) (_ : rv'.ownBlock = rv.ownBlock) :
    Fr ([c, db, cb] ++ rv.ownBlock.toList) w w7 ∧ CSt A w7 c p db cb g bs bm s M most dm' cm' rv' (row.filter (· != n)) F ops (upd df n (some r)) (upd cf n none) pg (updF cur n l) := by
  have h5 := h.fr hf (by simp)
  have hk := h5.kinds
  have hap := h5.apart
  have F6 : Fr [db] w5 (setBlock w5 db ob) := (Fr.refl _ _).setBlock (.inl (by simp)) ob
  have F57 : Fr ([c, db, cb] ++ rv.ownBlock.toList) w5 w7 := (F6.mono (by simp)).trans (h67.mono (fun k hk => .inl (by simp only [List.mem_append, List.mem_cons, List.not_mem_nil, or_false] at hk ⊢; rcases hk with (h | h) | h <;> simp [h])))
  have hfar := h5.own_far
  have hD : ∀ k ∈ [c, db, cb] ++ rv.ownBlock.toList, FarD [g, bs, bm] w5 k := fun k hk => .inr ⟨fun hm => (hfar k hk).1 (by simp at hm ⊢; omega), fun cs t fr e => ⟨((hfar k hk).2 cs t fr e).1, ((hfar k hk).2 cs t fr e).2.1⟩⟩
  have hB : ∀ k ∈ [c, db, cb] ++ rv.ownBlock.toList, w5.heap.size ≤ k ∨ ∀ cs t fr, w5.heap[k]? = some (.cells cs t fr) → t = 5 → k ∈ A ∨ cs.size < 512 := fun k hk => .inr fun cs t fr e q => absurd q ((hfar k hk).2 cs t fr e).2.2
  refine ⟨(hf.mono (by simp)).trans F57, hC, h5.log.fr F57 (fun hm => (hfar p hm).1 (by simp)), h5.disk.far F57 hD, h.play, h.wait, emp_kept h5.emp (fun n hn => (h.len5 n hn).2) F57 hB, ?_, hcb, fun k v e => ?_, fun k v e => ?_, fun k e => ?_, hz, Nat.le_trans (List.length_filter_le _ _) h.rlen, h.apart, fun k hk => ?_, h.size, fun k hk => Nat.lt_of_lt_of_le (h5.avoid k hk) F57.size⟩
  · have e6 : (setBlock w5 db ob).heap[db]? = some ob := heap_setBlock h5.dirty.heapAt
    exact hK w7 (h67.heap (by simp only [List.mem_append, List.mem_cons, List.not_mem_nil, or_false]; rintro ((q | q) | q); exact hk.2.1 q.symm; exact hap.1 q; exact (hk.2.2.2.2.2.2.2.2.2.2.2.2.2.2.2 _ q).2.2.1 rfl) e6)
  · unfold upd at e
    unfold updF
    by_cases hkn : k = n
    · subst hkn
      rw [if_pos rfl] at e ⊢
      cases e
      exact ⟨hn, dat_kept (dat_own hown h.avoid) (Nat.le_of_eq hl.symm) F57 hB⟩
    · rw [if_neg hkn] at e ⊢
      obtain ⟨q1, q2⟩ := h5.dd k v e
      exact ⟨q1, dat_kept q2 (Nat.le_of_eq (h.len5 k q1).1.symm) F57 hB⟩
  · unfold upd at e ⊢
    by_cases hkn : k = n
    · rw [if_pos hkn] at e; cases e
    · rw [if_neg hkn] at e ⊢
      obtain ⟨q0, q1, q2⟩ := h5.cc k v e
      exact ⟨q0, q1, dat_kept q2 (Nat.le_of_eq (h.len5 k q0).2.symm) F57 hB⟩
  · unfold upd at e
    unfold updF
    by_cases hkn : k = n
    · rw [if_pos hkn] at e; cases e
    · rw [if_neg hkn] at e ⊢
      exact h.nd k e
  · unfold updF
    by_cases hkn : k = n
    · rw [if_pos hkn]; exact ⟨hl, (h.len5 k hk).2⟩
    · rw [if_neg hkn]; exact h.len5 k hk
theorem isSome_upd (f : Nat → Option Value) (n : Nat) (v : Value) (k : Nat) : (upd f n (some v) k).isSome = ((f k).isSome || k == n) := by
  unfold upd
  by_cases h : k = n <;> simp [h]
set_option maxRecDepth 100000 in
set_option maxHeartbeats 2000000 in
theorem cwrite_any (h : CSt A w c p db cb g bs bm s M most dm cm rv row F ops df cf pg cur) (n : Nat) (hn : n < M) (bv : Value) (l : List UInt8) (hb : RdB w bv l) (hl : l.length = 512) (hroom : df n = none → dm < s) :
    Calls Tryz.prog 27 #[.pointer (some ⟨c, 0, none⟩), .int .i64 (n : Int), bv] w fun e w' => e = .returned (.int .i64 0) ∧ Fr ([c, db, cb] ++ rv.ownBlock.toList) w w' ∧ ∃ rv' dm' cm' df' cf', rv'.ownBlock = rv.ownBlock ∧ CSt A w' c p db cb g bs bm s M most dm' cm' rv' (row.filter (· != n)) F ops df' cf' pg (updF cur n l) ∧ (∀ k, (df' k).isSome = ((df k).isSome || k == n)) ∧ ((df n = none ∧ dm' = dm + 1) ∨ ((df n).isSome = true ∧ dm' = dm)) := by
  have HLK := Lib.hid (look_any w h.box h.log h.nilD h.size.1 h.size.2.1 n hn)
  have HH := Lib.hid h
  have hM := h.size
  obtain ⟨ba, bc, rfl, _⟩ := RdB.open hb
  rw [hl] at hb ⊢
  have HB := Lib.hid hb; have HL := Lib.hid hl
  have h0 := (Fr.drewN (S := []) w)
  have HROOM := Lib.hid (fun q (hd : df n = none) => show Calls Tryz.prog 53 #[.pointer (some ⟨c, 0, none⟩)] (w.drewN q) fun e w' => e = .returned (.int .i64 ((s : Int) - (dm : Int))) ∧ ∃ r, w' = w.drewN r from by
    obtain ⟨T, cl, hb2, _, _, _, _, hm⟩ := h.dirty
    have hlt := hroom hd
    have h2 := h.size
    have := room_any (w.drewN q) (h.box.fr (h0 q) (by simp)) (h.log.fr (h0 q) (by simp)) (by omega) ((h0 q).heap (by simp) hb2) (by omega)
    rw [hm] at this
    exact this.mono fun e w' h => ⟨h.1, h.2.elim fun r hr => ⟨q + r, by rw [hr, World.drewN_drewN]⟩⟩)
  have HRM := Lib.hid hroom
  clear h hroom hl hb
  go_enter Tryz.func27, Tryz.ntmps27
  go_wp2_with fail
  refine HLK.out.mono ?_
  rintro r w1 ⟨rfl, q1, rfl⟩
  clear HLK
  have hfu : ∀ k ∈ ([] : List Nat), Far A (cSt c p db cb g bs bm rv) w k := by simp
  have hlook := (HH.out.fr (h0 q1) hfu).dirty.look n
  have k2 : (w.drewN q1).cell? ⟨c, 2, none⟩ = some (.map (some db)) := (cell_of_row _ c 2 _ _ _ (HH.out.fr (h0 q1) hfu).box).trans rfl
  have HCL := Lib.hid (fun (wx : World) (hx : Fr [] w wx) => show Calls Tryz.prog 55 #[.slice ba 512 bc] wx fun e w' => ∃ r ob dm', e = .returned r ∧ (w'.ownsRow w.heap.size 5 1 r 512 (l.map vB) ∧ Fr [] w w') ∧ (Instr.mapUpdate 62 (.map (some db)) (.int .i64 (n : Int)) r).run Tryz.prog w' = .ok () (setBlock w' db ob) ∧ (∀ w'', w''.heap[db]? = some ob → MapP w'' db (upd df n (some r)) dm') ∧ ((df n = none ∧ dm' = dm + 1) ∨ ((df n).isSome = true ∧ dm' = dm)) ∧ w'.cell? ⟨c, 2, none⟩ = some (.map (some db)) from by
    refine (clone_any wx (.slice ba 512 bc) l (HB.out.below (hx.below (Nat.le_refl _) (by simp))) (by rw [HL.out]; omega)).mono ?_
    rintro e w' ⟨r, rfl, ho, hb⟩
    have hf := hx.trans (Fr.of_below hb)
    have h5 := HH.out.fr hf hfu
    obtain ⟨ob, dm', h1, h2, h3⟩ := h5.dirty.put n r
    rw [HL.out] at ho
    exact ⟨r, ob, dm', rfl, ⟨own_mono ho hx.size, hf⟩, h1, h2, h3, (cell_of_row _ c 2 _ _ _ h5.box).trans rfl⟩)
  have H0 := Lib.hid h0
  clear h0
  rcases hdf : df n with _ | v0
  · rw [hdf] at hlook
    simp only [Option.getD_none, Option.isSome_none] at hlook
    have HR := Lib.hid (HROOM.out · hdf)
    have hlt := HRM.out hdf
    have hs0 : ¬ ((s : Int) - (dm : Int) ≤ 0) := by omega
    go_wp2_with fail
    refine (HR.out q1).mono ?_
    rintro r w2 ⟨rfl, qz, rfl⟩
    clear HR k2 hlook
    go_wp2_with fail
    have HD := Lib.hid hdf
    have HZ := Lib.hid (HH.out.fr (H0.out qz) hfu)
    have k2 : (w.drewN qz).cell? ⟨c, 2, none⟩ = some (.map (some db)) := (cell_of_row _ c 2 _ _ _ HZ.out.box).trans rfl
    have HFZ := Lib.hid (H0.out qz)
    clear HROOM HRM hlt hs0 hdf H0 hfu
    generalize w.drewN qz = W1 at *
    have k2d := cell_dr k2
    go_region_with (refine (HCL.out _ ?_).mono ?_; (first | exact HFZ.out | exact HFZ.out.trans (Fr.drew _)); rintro r w5 ⟨cv, ob, dm', rfl, hown, hput, hK, hdm, k5⟩)
    all_goals (
      have F6 : Fr [db] w5 (setBlock w5 db ob) := (Fr.refl _ _).setBlock (.inl (by simp)) ob
      have h5 := HH.out.fr hown.2 (by simp)
      have hk5 := h5.kinds
      have HDR := Lib.hid (drop_any (setBlock w5 db ob) (h5.box.fr F6 (by simp; exact hk5.2.1)) (h5.clean.fr F6 (by simp; exact fun q => h5.apart.1 q.symm)) (h5.rown.fr F6 (fun k hk => .inr (by simp at hk; subst hk; exact fun hm => (hk5.2.2.2.2.2.2.2.2.2.2.2.2.2.2.2 _ hm).2.2.1 rfl))) (by have := h5.rlen; have := hM.2.2.2.2.2.2; omega) n)
      have HOWN := Lib.hid hown; have HK := Lib.hid hK; have HDM := Lib.hid hdm
      clear F6 h5 hk5 hown hK hdm hput k5 k2 k2d
      go_wp2_with fail
      refine HDR.out.mono ?_
      rintro r w7 ⟨rfl, rv', cm', hob, hC, hcb, hz, h67⟩
      have HE := Lib.hid (HH.out.wr_end hn HL.out HOWN.out.2 HOWN.out.1 HK.out h67 hC hcb hz hob)
      have HOB := Lib.hid hob
      clear hob hC hcb hz h67 HDR HCL
      go_wp2_with fail
      go_ret
      exact ⟨rfl, HE.out.1, rv', dm', cm', _, _, HOB.out, HE.out.2, isSome_upd df n cv, HDM.out⟩)
  · rw [hdf] at hlook
    simp only [Option.getD_some, Option.isSome_some] at hlook
    go_wp2_with fail
    have HD := Lib.hid hdf
    have HZ := Lib.hid (HH.out.fr (H0.out q1) hfu)
    have HFZ := Lib.hid (H0.out q1)
    clear HROOM HRM hdf H0 hfu hlook
    generalize w.drewN q1 = W1 at *
    have k2d := cell_dr k2
    go_region_with (refine (HCL.out _ ?_).mono ?_; (first | exact HFZ.out | exact HFZ.out.trans (Fr.drew _)); rintro r w5 ⟨cv, ob, dm', rfl, hown, hput, hK, hdm, k5⟩)
    all_goals (
      have F6 : Fr [db] w5 (setBlock w5 db ob) := (Fr.refl _ _).setBlock (.inl (by simp)) ob
      have h5 := HH.out.fr hown.2 (by simp)
      have hk5 := h5.kinds
      have HDR := Lib.hid (drop_any (setBlock w5 db ob) (h5.box.fr F6 (by simp; exact hk5.2.1)) (h5.clean.fr F6 (by simp; exact fun q => h5.apart.1 q.symm)) (h5.rown.fr F6 (fun k hk => .inr (by simp at hk; subst hk; exact fun hm => (hk5.2.2.2.2.2.2.2.2.2.2.2.2.2.2.2 _ hm).2.2.1 rfl))) (by have := h5.rlen; have := hM.2.2.2.2.2.2; omega) n)
      have HOWN := Lib.hid hown; have HK := Lib.hid hK; have HDM := Lib.hid hdm
      clear F6 h5 hk5 hown hK hdm hput k5 k2 k2d
      go_wp2_with fail
      refine HDR.out.mono ?_
      rintro r w7 ⟨rfl, rv', cm', hob, hC, hcb, hz, h67⟩
      have HE := Lib.hid (HH.out.wr_end hn HL.out HOWN.out.2 HOWN.out.1 HK.out h67 hC hcb hz hob)
      have HOB := Lib.hid hob
      clear hob hC hcb hz h67 HDR HCL
      go_wp2_with fail
      go_ret
      exact ⟨rfl, HE.out.1, rv', dm', cm', _, _, HOB.out, HE.out.2, isSome_upd df n cv, HDM.out⟩)
end
end Go.Proofs.YtcblfkojkdaepaaGreat
