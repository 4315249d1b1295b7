/- Pages handed to Commit: none of a number that is not there. -/
import Derived.Test.YtcblfkojkdaepaaGreatLOpen
import Derived.Deep.MidRow
import Derived.Maps.OwnSet
import Derived.Lib.SlKeysI
namespace Go.Proofs.YtcblfkojkdaepaaGreat
open Go.RowKit Go.ChangeMaps

/-- A slice of pages: of each the number and the bytes' header. -/
def RdPg (w : World) (v : Value) (ps : List (Nat × Value)) : Prop :=
  ∃ a c, v = .slice a ps.length c ∧ ∀ (i : Nat) (x : Nat × Value), ps[i]? = some x → ∃ b off, a = some ⟨b, off, none⟩ ∧ w.cell? ⟨b, off + i * 2, none⟩ = some (.int .i64 (x.1 : Int)) ∧ w.cell? ⟨b, off + i * 2 + 1, none⟩ = some x.2
theorem RdPg.below {w w' : World} {v : Value} {ps : List (Nat × Value)} (h : RdPg w v ps) (hb : Below w.heap.size w w') : RdPg w' v ps := by
  obtain ⟨a, c, hv, hc⟩ := h
  refine ⟨a, c, hv, fun i x hi => ?_⟩
  obtain ⟨b, off, ha, h1, h2⟩ := hc i x hi
  exact ⟨b, off, ha, (hb.cell (block_lt_of_cell h1)).trans h1, (hb.cell (block_lt_of_cell h2)).trans h2⟩
theorem RdPg.at {w : World} {a : Option Addr} {n c : Nat} {ps : List (Nat × Value)} (h : RdPg w (.slice a n c) ps) (i : Nat) (x : Nat × Value) (hi : ps[i]? = some x) : ∃ b off, a = some ⟨b, off, none⟩ ∧ w.cell? ⟨b, off + i * 2, none⟩ = some (.int .i64 (x.1 : Int)) ∧ w.cell? ⟨b, off + i * 2 + 1, none⟩ = some x.2 := by
  obtain ⟨a', c', hv, hc⟩ := h
  cases hv
  exact hc i x hi
set_option maxRecDepth 100000 in
set_option maxHeartbeats 2000000 in
theorem closure_any (w : World) {bx p g bs bm s M : Nat} {F O S : List Value} {T : List Ent} (hbx : w.cell? ⟨bx, 0, none⟩ = some (.pointer (some ⟨p, 0, none⟩))) (L : LogAt w p g s) (D : DiskAt w g bs bm F O S T) (hM : F.length = s + 1 + M) (hF : F.length ≤ 4096) (n : Nat) (v : Value) (hn : n < M) :
    Calls Tryz.prog 58 #[.agg #[.int .i64 (n : Int), v], .pointer (some ⟨bx, 0, none⟩)] w fun e w' => e = .returned (.bool false) ∧ Below w.heap.size w w' := by
  have A1 := (Fr.refl [] w).alloc (.cells #[.int .i64 (n : Int), v] 77)
  have HP := Lib.hid (fun q => show Calls Tryz.prog 21 #[.pointer (some ⟨p, 0, none⟩)] ((w.alloc (.cells #[.int .i64 (n : Int), v] 77)).drewN q) fun e w' => e = .returned (.int .i64 (M : Int)) ∧ ∃ r, w' = (w.alloc (.cells #[.int .i64 (n : Int), v] 77)).drewN r from
    (pages_any _ (L.fr (A1.trans (Fr.drewN _ q)) (by simp)) (D.fr (A1.trans (Fr.drewN _ q)) (by simp)) hM hF).mono fun e w' ⟨h1, r, h2⟩ => ⟨h1, q + r, by rw [h2, World.drewN_drewN]⟩)
  have k1 : (w.alloc (.cells #[.int .i64 (n : Int), v] 77)).cell? ⟨bx, 0, none⟩ = some (.pointer (some ⟨p, 0, none⟩)) := cell_l1 hbx
  have R1 := heap_alloc_new w (.cells #[.int .i64 (n : Int), v] 77)
  have k0 : (w.alloc (.cells #[.int .i64 (n : Int), v] 77)).cell? ⟨w.heap.size, 0, none⟩ = some (.int .i64 (n : Int)) := (cell_of_row _ _ 0 _ _ _ R1).trans rfl
  have HA := Lib.hid A1
  have i0 : (0 : Int) ≤ (n : Int) := by omega
  have i1 : (n : Int) < (M : Int) := by omega
  have i2 : decide ((n : Int) < 0) = false := by simp
  have i3 : decide ((M : Int) ≤ (n : Int)) = false := by simp; omega
  clear L D hM hF A1 R1 hbx
  go_enter Tryz.func58, Tryz.ntmps58
  go_wp2_with fail
  revert HP k1 k0 HA
  generalize w.alloc (.cells #[.int .i64 (n : Int), v] 77) = W1
  intro HP k1 k0 HA
  refine wp_region_quiet_lit (by kernel_rfl) (by kernel_rfl) ?_
  iterate 7 (go_big_quiet_step (fail))
  go_big_quiet_step (exact HP.out _)
  repeat (go_big_quiet_step (fail))
  refine wpQuiet_nil ?_
  intro w' hw'
  obtain ⟨nq, rfl⟩ := hw'
  have HB := Lib.hid ((HA.out.trans (Fr.drewN W1 nq)).below (Nat.le_refl _) (by simp))
  clear HP HA k0 k1
  have hMn : ¬ M ≤ n := by omega
  go_wp2_with fail
  go_ret
  exact ⟨ret_eq (by simp [hMn]), HB.out⟩
set_option maxRecDepth 100000 in
set_option maxHeartbeats 2000000 in
theorem index_any (w : World) {bx p g bs bm s M : Nat} {F O S : List Value} {T : List Ent} (hbx : w.cell? ⟨bx, 0, none⟩ = some (.pointer (some ⟨p, 0, none⟩))) (L : LogAt w p g s) (D : DiskAt w g bs bm F O S T) (hM : F.length = s + 1 + M) (hF : F.length ≤ 4096) (pv : Value) (ps : List (Nat × Value)) (hp : RdPg w pv ps) (hl : ps.length ≤ 4096) (hn : ∀ x ∈ ps, x.1 < M) (hs : ∀ x ∈ ps, ∃ a k c, x.2 = .slice a k c) :
    Calls Tryz.prog 81 #[pv, .func (.func 58) #[] #[.pointer (some ⟨bx, 0, none⟩)]] w fun e w' => e = .returned (.int .i64 (-1)) ∧ Below w.heap.size w w' := by
  have HP := Lib.hid hp
  obtain ⟨a, c, rfl, _⟩ := hp
  have HL := Lib.hid L; have HD := Lib.hid D; have HBX := Lib.hid hbx; have HN := Lib.hid hn; have HS := Lib.hid hs
  have b0 : (ps.length : Int) ≤ 4096 := by omega
  clear hbx L D hn hs
  go_enter Tryz.func81, Tryz.ntmps81
  go_wp2_with fail
  go_loopw [8] (fun i wr => ∃ j : Nat, j ≤ ps.length ∧ i = .int .i64 (j : Int) ∧ Below w.heap.size w wr) (fun i _ => ((ps.length : Int) - intOf i).toNat)
  case atStart => exact ⟨0, by omega, by simp, Below.refl _ _⟩
  case round =>
    obtain ⟨j, hj, rfl, hB⟩ := hrel
    have HB := Lib.hid hB
    clear hB
    by_cases hlt : j < ps.length
    · obtain ⟨⟨n, v⟩, hx⟩ : ∃ x, ps[j]? = some x := ⟨ps[j], List.getElem?_eq_getElem hlt⟩
      obtain ⟨b, off, rfl, c0, c1⟩ := (HP.out.below HB.out).at j _ hx
      have hnM := HN.out _ (List.mem_of_getElem? hx)
      obtain ⟨va, vk, vc, hv⟩ := HS.out _ (List.mem_of_getElem? hx)
      simp only at hv c0 c1 hnM
      subst hv
      have F1 := Fr.of_below (S := []) HB.out
      have HC := Lib.hid (closure_any wr (F1.cell (by simp) HBX.out) (HL.out.fr F1 (by simp)) (HD.out.fr F1 (by simp)) hM hF n (.slice va vk vc) hnM)
      have i0 : (j : Int) < (ps.length : Int) := by omega
      clear hx F1
      go_wp2_with fail
      refine HC.out.mono ?_
      rintro e w2 ⟨rfl, hb⟩
      have HB2 := Lib.hid (HB.out.trans (hb.mono HB.out.size))
      clear hb HC HB c0 c1
      go_wp2_with fail
      exact ⟨⟨j + 1, by omega, by simp, HB2.out⟩, by simp [intOf]; omega⟩
    · obtain rfl : j = ps.length := by omega
      go_wp2_with fail
      go_ret
      exact ⟨ret_eq (by simp), HB.out⟩
set_option maxRecDepth 100000 in
set_option maxHeartbeats 2000000 in
theorem contains_any (w : World) {bx p g bs bm s M : Nat} {F O S : List Value} {T : List Ent} (hbx : w.cell? ⟨bx, 0, none⟩ = some (.pointer (some ⟨p, 0, none⟩))) (L : LogAt w p g s) (D : DiskAt w g bs bm F O S T) (hM : F.length = s + 1 + M) (hF : F.length ≤ 4096) (pv : Value) (ps : List (Nat × Value)) (hp : RdPg w pv ps) (hl : ps.length ≤ 4096) (hn : ∀ x ∈ ps, x.1 < M) (hs : ∀ x ∈ ps, ∃ a k c, x.2 = .slice a k c) :
    Calls Tryz.prog 57 #[pv, .func (.func 58) #[] #[.pointer (some ⟨bx, 0, none⟩)]] w fun e w' => e = .returned (.bool false) ∧ Below w.heap.size w w' := by
  have HI := Lib.hid (index_any w hbx L D hM hF pv ps hp hl hn hs)
  clear hbx L D hp
  go_enter Tryz.func57, Tryz.ntmps57
  go_wp2_with fail
  refine HI.out.mono ?_
  rintro e w2 ⟨rfl, hb⟩
  have HB := Lib.hid hb
  clear hb HI
  go_wp2_with fail
  go_ret
  exact ⟨ret_eq (by simp), HB.out⟩
end Go.Proofs.YtcblfkojkdaepaaGreat
/- The map of pages that Commit makes: look-ups, stores. -/
namespace Go.Proofs.YtcblfkojkdaepaaGreat
open Go.RowKit Go.ChangeMaps Go.MapKept

theorem findNow_hit2 (e0 : Ent) : ∀ (l : List Ent) (i : Nat), e0 ∈ l → (l.map (·.k)).Nodup → ∃ j, Instr.findNow (.int .i64) (.int .i64 (e0.k : Int)) (l.map Ent.obj) i = some (some (j, e0.sl))
  | [], _, h, _ => by cases h
  | e :: l, i, h, hp => by
    rw [List.map_cons, List.nodup_cons] at hp
    rcases List.mem_cons.1 h with rfl | h
    · have h1 : ((e0.k : Int) == (e0.k : Int)) = true := by simp
      exact ⟨i, by simp only [List.map_cons, Instr.findNow, Ent.obj, Instr.sameNow, if_true, h1]⟩
    · have hne : ¬ e0.k = e.k := fun q => hp.1 (by rw [← q]; exact List.mem_map.2 ⟨e0, h, rfl⟩)
      have h1 : ((e0.k : Int) == (e.k : Int)) = false := by simp; omega
      obtain ⟨j, hj⟩ := findNow_hit2 e0 l (i + 1) h hp.2
      exact ⟨j, by simp only [List.map_cons, Instr.findNow, Ent.obj, Instr.sameNow, if_true, h1]; exact hj⟩
section
variable {w : World} {bm cl : Nat} {T : List Ent}
theorem run_pg_none (hb : w.heap[bm]? = some (.map (T.map Ent.obj).toArray cl)) (n : Nat) (h : ∀ e ∈ T, e.k ≠ n) :
    (Instr.lookup 62 (.map (some bm)) (.int .i64 (n : Int)) false).run Tryz.prog w = .ok (.slice none 0 0) w := by
  have hk : IsKey (.int .i64) (.int .i64 (n : Int)) := by simp [IsKey]
  simp [Instr.lookup, run_underlying Tryz.underlying62, Result.andThen, Go.MapKept.run_getObj_map hb, run_checkKey Tryz.underlying3 hk, run_findKey Tryz.underlying3 (findNow_miss n T 0 h), Tryz.zeroValue46]
theorem run_pg_some (hb : w.heap[bm]? = some (.map (T.map Ent.obj).toArray cl)) (e : Ent) (he : e ∈ T) (hp : (T.map (·.k)).Nodup) :
    (Instr.lookup 62 (.map (some bm)) (.int .i64 (e.k : Int)) false).run Tryz.prog w = .ok e.sl w := by
  have hk : IsKey (.int .i64) (.int .i64 (e.k : Int)) := by simp [IsKey]
  obtain ⟨j, hj⟩ := findNow_hit2 e T 0 he hp
  simp [Instr.lookup, run_underlying Tryz.underlying62, Result.andThen, Go.MapKept.run_getObj_map hb, run_checkKey Tryz.underlying3 hk, run_findKey Tryz.underlying3 hj]
theorem run_pg_update (hb : w.heap[bm]? = some (.map (T.map Ent.obj).toArray cl)) (n : Nat) (h : ∀ e ∈ T, e.k ≠ n) (sl v : Value) :
    (Instr.mapUpdate 62 (.map (some bm)) (.int .i64 (n : Int)) sl).run Tryz.prog w = .ok () (setBlock w bm (.map ((T ++ [(⟨n, sl, v, cl⟩ : Ent)]).map Ent.obj).toArray (cl + 1))) := by
  have hk : IsKey (.int .i64) (.int .i64 (n : Int)) := by simp [IsKey]
  have hs := run_setObj_map (P := Tryz.prog) (.map ((T.map Ent.obj).toArray.push { key := .int .i64 (n : Int), val := sl, born := cl }) (cl + 1)) hb
  simp only [Instr.mapUpdate, Sem.run_bind, run_underlying Tryz.underlying62, Result.andThen, Go.MapKept.run_getObj_map hb, run_checkKey Tryz.underlying3 hk, run_findKey Tryz.underlying3 (findNow_miss n T 0 h)]
  rw [hs]
  simp [setBlock, Ent.obj]
end
/-- The map, as the shelf's contracts want it; its keys. -/
theorem pg_owns {w : World} {bm cl : Nat} {T : List Ent} (hb : w.heap[bm]? = some (.map (T.map Ent.obj).toArray cl)) (hborn : ∀ e ∈ T, e.born < cl) (hnd : (T.map (·.born)).Nodup) (hkn : (T.map (·.k)).Nodup) (hk : ∀ e ∈ T, e.k < 100000) (hl : T.length ≤ 4096) :
    ∃ D0 : DataW Nat, w.ownsMap Tryz.prog 3 (fun _ => some (.nil, [])) bm T.length D0 ∧ Maps.size D0 ≤ 4096 ∧ (intKeys D0).Perm (T.map fun e => (e.k : Int)) := by
  have hkey : ∀ e ∈ T, keyOf Tryz.prog 3 (.int .i64 (e.k : Int)) = some (.int .i64 (e.k : Int)) := fun e he => by
    have := hk e he
    simp [keyOf, Tryz.underlying3, mapKey, Lit.wf, IntKind.min, IntKind.max, IntKind.signed, IntKind.bits]
    omega
  have hread : ∀ x ∈ ((T.map Ent.obj).toArray).toList, ∃ y : Lit × DataW Nat, Go.WideElems.rd Tryz.prog 3 (fun _ => some (.nil, [])) x = some y := fun x hx => by
    obtain ⟨e, he, rfl⟩ := List.mem_map.1 (by simpa using hx)
    exact ⟨(.int .i64 (e.k : Int), .nil), by simp [Go.WideElems.rd, Ent.obj, hkey e he]⟩
  refine ⟨_, ⟨(T.map Ent.obj).toArray, cl, hb, ⟨by simp [maxLen]; omega, ?_, hread⟩, by simp, rfl⟩, ?_, ?_⟩
  · refine ⟨fun x hx => ?_, ?_, ?_⟩
    · obtain ⟨e, he, rfl⟩ := List.mem_map.1 (by simpa using hx)
      exact hborn e he
    · have e : (T.map Ent.obj).toArray.toList.map (·.born) = T.map (·.born) := by simp [Ent.obj, Function.comp]
      rw [e]; exact hnd
    · have e : (T.map Ent.obj).toArray.toList.map (·.key) = (T.map (·.k)).map (fun (k : Nat) => Value.int .i64 (k : Int)) := by simp [Ent.obj, Function.comp]
      rw [e]
      exact hkn.map (f := fun (k : Nat) => Value.int .i64 (k : Int)) (fun a b hab h => hab (by simp only [Value.int.injEq, true_and] at h; omega))
  · show List.length _ ≤ 4096
    rw [(Go.WideShapes.sorted_perm _).length_eq]
    simpa using hl
  · refine ((Go.WideShapes.sorted_perm _).map _).trans (List.Perm.of_eq ?_)
    rw [List.map_map, List.map_map]
    refine List.map_congr_left fun e he => ?_
    have hrd : Go.WideElems.rd Tryz.prog 3 (fun _ => some ((.nil : DataW Nat), [])) (Ent.obj e) = some (.int .i64 (e.k : Int), .nil) := by simp [Go.WideElems.rd, Ent.obj, hkey e he]
    simp only [Function.comp, Go.WideElems.rg_of hrd]
    rfl
end Go.Proofs.YtcblfkojkdaepaaGreat
