/- A map of numbers to bools: stores, its length. -/
import Derived.Test.YtcblfkojkdaepaaGreatDirty
namespace Go.Proofs.YtcblfkojkdaepaaGreat
open Go.RowKit Go.ChangeMaps Go.MapKept

theorem run_pb_update {w : World} {bm cl : Nat} {T : List Ent} (hb : w.heap[bm]? = some (.map (T.map Ent.obj).toArray cl)) (n : Nat) (h : ∀ e ∈ T, e.k ≠ n) (sl v : Value) :
    (Instr.mapUpdate 118 (.map (some bm)) (.int .i64 (n : Int)) sl).run Tryz.prog w = .ok () (setBlock w bm (.map ((T ++ [(⟨n, sl, v, cl⟩ : Ent)]).map Ent.obj).toArray (cl + 1))) := by
  have hk : IsKey (.int .i64) (.int .i64 (n : Int)) := by simp [IsKey]
  have hs := run_setObj_map (P := Tryz.prog) (.map ((T.map Ent.obj).toArray.push { key := .int .i64 (n : Int), val := sl, born := cl }) (cl + 1)) hb
  simp only [Instr.mapUpdate, Sem.run_bind, run_underlying Tryz.underlying118, Result.andThen, Go.MapKept.run_getObj_map hb, run_checkKey Tryz.underlying3 hk, run_findKey Tryz.underlying3 (findNow_miss n T 0 h)]
  rw [hs]
  simp [setBlock, Ent.obj]
theorem MapB_put {w : World} {b m : Nat} {f : Nat → Option Value} (h : MapP w b f m) (n : Nat) (v : Value) :
    ∃ ob m', (Instr.mapUpdate 118 (.map (some b)) (.int .i64 (n : Int)) v).run Tryz.prog w = .ok () (setBlock w b ob) ∧ (∀ w', w'.heap[b]? = some ob → MapP w' b (upd f n (some v)) m') ∧ ((f n = none ∧ m' = m + 1) ∨ ((f n).isSome = true ∧ m' = m)) := by
  obtain ⟨T, cl, hb, hl, hn, hk, hf, hm⟩ := h
  cases hg : gt T n with
  | none =>
    refine ⟨_, m + 1, run_pb_update hb n (gt_none hg) v v, fun w' hw => ⟨_, _, hw, fun e he => ?_, ?_, ?_, fun k => ?_, by simp [hm]⟩, .inl ⟨by rw [← hf n]; exact hg, rfl⟩⟩
    · rcases List.mem_append.1 he with h | h
      · have := hl e h; omega
      · simp at h; subst h; show cl < cl + 1; omega
    · rw [List.map_append]
      refine List.nodup_append.2 ⟨hn, by simp, fun a ha c hc => ?_⟩
      obtain ⟨e, he, rfl⟩ := List.mem_map.1 ha
      simp at hc; subst hc
      have := hl e he; omega
    · rw [List.map_append]
      refine List.nodup_append.2 ⟨hk, by simp, fun a ha c hc => ?_⟩
      obtain ⟨e, he, rfl⟩ := List.mem_map.1 ha
      simp at hc; subst hc
      exact gt_none hg e he
    · rw [gt_app, gt_cons, hf k]
      unfold upd
      by_cases hkn : k = n
      · subst hkn; rw [← hf k, hg]; simp
      · rw [if_neg (fun q => hkn q.symm), if_neg hkn]; simp [gt]
  | some v0 =>
    obtain ⟨L1, e, L2, rfl, h1, h2, h3⟩ := gt_some hg
    have hi := findNow_at n e h1 L2 L1 0 h3
    have hk0 : IsKey (.int .i64) (.int .i64 (n : Int)) := by simp [IsKey]
    rw [Nat.zero_add] at hi
    obtain ⟨T', hT'⟩ : ∃ T', T' = L1 ++ (⟨e.k, v, v, e.born⟩ : Ent) :: L2 := ⟨_, rfl⟩
    have hmod : ((L1 ++ e :: L2).map Ent.obj).toArray.modify L1.length (fun x => { x with key := .int .i64 (n : Int), val := v }) = (T'.map Ent.obj).toArray := by
      rw [hT']
      refine Array.ext' ?_
      rw [Array.toList_modify]
      simp only [List.map_append, List.map_cons]
      have hL : L1.length = (L1.map Ent.obj).length := by simp
      rw [hL, List.modify_eq_take_cons_drop (by simp), List.drop_append]
      simp [Ent.obj, h1]
    have hat : ((L1 ++ e :: L2).map Ent.obj).toArray[L1.length]? = some e.obj := by simp
    have hs := run_setObj_map (P := Tryz.prog) (.map (T'.map Ent.obj).toArray cl) hb
    have hborn : T'.map (·.born) = (L1 ++ e :: L2).map (·.born) := by rw [hT']; simp
    have hkeys : T'.map (·.k) = (L1 ++ e :: L2).map (·.k) := by rw [hT']; simp
    refine ⟨.map (T'.map Ent.obj).toArray cl, m, ?_, fun w' hw => ⟨T', cl, hw, fun x hx => ?_, by rw [hborn]; exact hn, by rw [hkeys]; exact hk, fun k => ?_, by rw [hT']; simpa using hm⟩, .inr ⟨by rw [← hf n, hg]; rfl, rfl⟩⟩
    · simp only [Instr.mapUpdate, Sem.run_bind, run_underlying Tryz.underlying118, Result.andThen, Go.MapKept.run_getObj_map hb, run_checkKey Tryz.underlying3 hk0, run_findKey Tryz.underlying3 hi]
      rw [hat]
      have hst : Instr.keyThatStays ((Option.map (·.key) (some e.obj)).getD (.int .i64 (n : Int))) (.int .i64 (n : Int)) = pure (.int .i64 (n : Int)) := by
        simp [Instr.keyThatStays, Ent.obj, h1, Instr.sameBits]
      rw [hst]
      simp only [Sem.run_pure]
      rw [hmod, hs]
      simp [setBlock]
    · have : x.born ∈ (L1 ++ e :: L2).map (·.born) := by rw [← hborn]; exact List.mem_map.2 ⟨x, hx, rfl⟩
      obtain ⟨y, hy, q⟩ := List.mem_map.1 this
      rw [← q]; exact hl y hy
    · have hfk := hf k
      rw [hT', gt_app, gt_cons]
      rw [gt_app, gt_cons] at hfk
      unfold upd
      by_cases hkn : k = n
      · subst hkn
        rw [if_pos h1, if_pos rfl, gt_of h3]; rfl
      · have q : ¬ e.k = k := fun q => hkn (by omega)
        rw [if_neg q] at hfk ⊢
        rw [if_neg hkn, ← hfk]
theorem MapB_len {w : World} {b m : Nat} {f : Nat → Option Value} (h : MapP w b f m) (ty : TypeId) : (Builtin.len_ #[118] ty #[.map (some b)]).run Tryz.prog w = .ok (.int .i64 (m : Int)) w := by
  obtain ⟨T, cl, hb, hl, hn, hk, hf, hm⟩ := h
  simp [Builtin.len_, run_underlying Tryz.underlying118, Go.MapKept.run_getObj_map hb, Result.andThen, goInt, hm]
end Go.Proofs.YtcblfkojkdaepaaGreat
/- Is there room for so many pages: there is. -/
namespace Go.Proofs.YtcblfkojkdaepaaGreat
open Go.RowKit Go.ChangeMaps
section
variable {K : Kx} {A S : List Nat} {w : World} {N dm mb : Nat} {pg cur : Nat → List UInt8}
/-- While numbers are put into the map. -/
def FtI (w1 wr : World) (sb lo hi : Nat) : Prop := ∃ f k, MapP wr sb f k ∧ lo ≤ k ∧ k ≤ hi ∧ Fr [sb] w1 wr
theorem own_slice' {w : World} {B n : Nat} {e : TypeId} {v : Value} {xs : List Value} (h : w.ownsRow B e 1 v n xs) : ∃ a c, v = .slice a n c := by
  rcases h.2 with ⟨rfl, rfl⟩ | ⟨g, cap, cur, rfl, _⟩
  · exact ⟨none, 0, rfl⟩
  · exact ⟨_, _, rfl⟩
set_option maxRecDepth 100000 in
set_option maxHeartbeats 2000000 in
theorem fits_any (x : CX K A w N S pg cur dm) (m : MpAt w K mb) (v : Value) (l : List Nat) (hv : RdV w v (l.map fun (n : Nat) => Value.int .i64 (n : Int))) (hl : l.length ≤ 41) :
    Calls Tryz.prog 25 #[.pointer (some ⟨mb, 0, none⟩), v] w fun e w' => e = .returned (.bool true) ∧ Fr [] w w' := by
  have hmm := @run_makeMap Tryz.prog
  have A1 := (Fr.refl [] w).alloc (.map #[] 0)
  have R1 := heap_alloc_new w (.map #[] 0)
  have x1 := x.fr0 A1
  have m1 := m.fr A1 (by simp)
  have c0 := m1.c0
  have hd := x.le59
  have HDY := Lib.hid (dirtyx_any x1)
  have HX := Lib.hid x; have HM := Lib.hid m; have HA1 := Lib.hid A1; have HR1 := Lib.hid R1; have HV := Lib.hid hv
  obtain ⟨va, vc, rfl, _⟩ := hv.open
  rw [List.length_map]
  clear x m A1 R1 x1 m1 hv
  go_enter Tryz.func25, Tryz.ntmps25
  go_wp2_with fail
  have HSB := Lib.hid (show w.heap.size < (w.alloc (.map #[] 0)).heap.size by simp)
  generalize w.alloc (.map #[] 0) = w1 at *
  obtain ⟨sb, hsb⟩ : ∃ b, b = w.heap.size := ⟨_, rfl⟩
  rw [← hsb] at HR1 HSB ⊢
  have HE := Lib.hid hsb
  clear hsb hmm
  refine HDY.out.mono ?_
  rintro e w2 ⟨dv, ns, rfl, hnl, hrow, hb2⟩
  obtain ⟨da, dc, rfl⟩ := own_slice' hrow
  have F2 := Fr.of_below (S := []) hb2
  have I2 := Lib.hid (show FtI w2 w2 sb 0 0 from ⟨_, 0, (MapP.new HR1.out).fr F2 (by simp), Nat.le_refl _, Nat.le_refl _, Fr.refl _ _⟩)
  have HRW := Lib.hid (RdV_of_owns hrow); have HF2 := Lib.hid (HA1.out.trans F2)
  have HSL := Lib.hid (show sb < w2.heap.size from Nat.lt_of_lt_of_le HSB.out hb2.size)
  have hn59 : (ns.length : Int) ≤ 59 := by omega
  have HNB := Lib.hid (show ∀ a b (c : Nat), (Value.slice (some ⟨a, b, none⟩) ns.length c = .slice da ns.length dc) → a ≠ sb from fun a b c e => by
    have := World.ownsRow.lt hrow a (by rw [← e]; rfl)
    have := HSB.out
    omega)
  clear hrow hb2 F2 HDY HSB c0
  go_wp2_with fail
  go_loopw [18] (fun i wr => ∃ j : Nat, j ≤ ns.length ∧ i = .int .i64 (j : Int) ∧ FtI w2 wr sb 0 j) (fun i _ => ((ns.length : Int) - intOf i).toNat)
  case atStart => exact ⟨0, by omega, by simp, I2.out⟩
  clear I2
  case round =>
    obtain ⟨j, hj, rfl, hI⟩ := hrel
    by_cases hlt : j < ns.length
    · obtain ⟨n, hn⟩ : ∃ n, ns[j]? = some n := ⟨ns[j], List.getElem?_eq_getElem hlt⟩
      obtain ⟨f, k, hK, _, hk2, hF⟩ := hI
      obtain ⟨b, off, hx, hcell⟩ : ∃ b off, da = some ⟨b, off, none⟩ ∧ w2.cell? ⟨b, off + j, none⟩ = some (.int .i64 (n : Int)) := by
        obtain ⟨a', c', e', hc⟩ := HRW.out.open
        simp only [Value.slice.injEq] at e'
        rw [e'.1]
        exact hc j _ (by rw [List.getElem?_map, hn]; rfl)
      subst hx
      have hbs : b ≠ sb := HNB.out b off dc rfl
      have hcl : wr.cell? ⟨b, off + j, none⟩ = some (.int .i64 (n : Int)) := hF.cell (p := ⟨b, off + j, none⟩) (by simpa using hbs) hcell
      obtain ⟨ob, k', hput, hK', hk'⟩ := MapB_put hK n (.bool true)
      have HI := Lib.hid (show FtI w2 (setBlock wr sb ob) sb 0 (j + 1) from ⟨_, k', hK' _ (heap_setBlock hK.heapAt), Nat.zero_le _, by omega, hF.setBlock (.inl (by simp)) ob⟩)
      have j0 : (j : Int) < (ns.length : Int) := by omega
      clear hn hcell hK hF hK' hk' hk2
      go_wp2_with fail
      exact ⟨⟨j + 1, by omega, by simp, HI.out⟩, by simp [intOf]; omega⟩
    · obtain rfl : j = ns.length := by omega
      obtain ⟨f, was, hK, _, hwas, hF⟩ := hI
      have hln := MapB_len hK
      have I3 := Lib.hid (show FtI wr wr sb was (was + 0) from ⟨f, was, hK, Nat.le_refl _, Nat.le_refl _, Fr.refl _ _⟩)
      have HF3 := Lib.hid (show Fr [] w wr from HF2.out.then hF (fun k hk => .inr (by simp at hk; have := HE.out; omega)))
      have HS3 := Lib.hid (show sb < wr.heap.size from Nat.lt_of_lt_of_le HSL.out hF.size)
      have j0 : ¬ (ns.length : Int) < (ns.length : Int) := by omega
      clear hK hF
      go_wp2_with fail
      clear HRW HNB HSL
      obtain ⟨w3, hw3⟩ : ∃ x, x = wr := ⟨_, rfl⟩
      rw [← hw3] at I3 HF3 HS3 hln ⊢
      clear hw3
      go_loopw [29] (fun i wr => ∃ j : Nat, j ≤ l.length ∧ i = .int .i64 (j : Int) ∧ FtI w3 wr sb was (was + j)) (fun i _ => ((l.length : Int) - intOf i).toNat)
      case atStart => exact ⟨0, by omega, by simp, I3.out⟩
      clear I3
      case round =>
        obtain ⟨j, hj, rfl, hI⟩ := hrel
        by_cases hlt : j < l.length
        · obtain ⟨n, hn⟩ : ∃ n, l[j]? = some n := ⟨l[j], List.getElem?_eq_getElem hlt⟩
          obtain ⟨f, k, hK, hk1, hk2, hF⟩ := hI
          obtain ⟨b, off, hx, hcell⟩ : ∃ b off, va = some ⟨b, off, none⟩ ∧ w.cell? ⟨b, off + j, none⟩ = some (.int .i64 (n : Int)) := by
            obtain ⟨a', c', e', hc⟩ := HV.out.open
            simp only [Value.slice.injEq] at e'
            rw [e'.1]
            exact hc j _ (by rw [List.getElem?_map, hn]; rfl)
          subst hx
          have hbs : b ≠ sb := by have h1 : b < w.heap.size := block_lt_of_cell hcell; have := HE.out; omega
          have hcl : wr.cell? ⟨b, off + j, none⟩ = some (.int .i64 (n : Int)) := hF.cell (p := ⟨b, off + j, none⟩) (by simpa using hbs) (HF3.out.cell (p := ⟨b, off + j, none⟩) (by simp) hcell)
          obtain ⟨ob, k', hput, hK', hk'⟩ := MapB_put hK n (.bool true)
          have HI := Lib.hid (show FtI w3 (setBlock wr sb ob) sb was (was + (j + 1)) from ⟨_, k', hK' _ (heap_setBlock hK.heapAt), by omega, by omega, hF.setBlock (.inl (by simp)) ob⟩)
          have j0 : (j : Int) < (l.length : Int) := by omega
          clear hn hcell hK hF hK' hk' hk2 hk1 hln
          go_wp2_with fail
          exact ⟨⟨j + 1, by omega, by simp, HI.out⟩, by simp [intOf]; omega⟩
        · obtain rfl : j = l.length := by omega
          obtain ⟨f, k, hK, hk1, hk2, hF⟩ := hI
          have hFw : Fr [] w wr := HF3.out.then hF (fun y hy => .inr (by simp at hy; have := HE.out; omega))
          have xr := HX.out.fr0 hFw
          have c0 := (HM.out.fr hFw (by simp)).c0
          have HRM := Lib.hid (fun q => show Calls Tryz.prog 53 #[.pointer (some ⟨K.c, 0, none⟩)] (wr.drewN q) fun e w' => e = .returned (.int .i64 (100 - (dm : Int))) ∧ ∃ r, w' = wr.drewN r from
            (roomx_any (xr.fr0 (Fr.drewN (S := []) wr q))).mono fun e w' h => ⟨h.1, h.2.elim fun r hr => ⟨q + r, by rw [hr, World.drewN_drewN]⟩⟩)
          have HKQ := Lib.hid (fun q => show MapP (wr.drewN q) sb f k from hK.fr (Fr.drewN (S := []) wr q) (by simp))
          have HFW := Lib.hid hFw
          have j0 : ¬ (l.length : Int) < (l.length : Int) := by omega
          have k0 : (k : Int) ≤ (was : Int) + 41 := by omega
          have k1 : (was : Int) ≤ (k : Int) := by omega
          have d0 : (dm : Int) ≤ 59 := by omega
          have w0 : (was : Int) ≤ 59 := by omega
          clear hK hF hFw xr hk1 hk2 hln
          have hln : ∀ (q : Nat) (ty : TypeId), (Builtin.len_ #[118] ty #[.map (some sb)]).run Tryz.prog (wr.drewN q) = .ok (.int .i64 (k : Int)) (wr.drewN q) := fun q ty => MapB_len (HKQ.out q) ty
          go_wp2_with fail
          refine wp_region_quiet_lit (by kernel_rfl) (by kernel_rfl) ?_
          iterate 8 (go_big_quiet_step (fail))
          go_big_quiet_step (exact HRM.out _)
          repeat (go_big_quiet_step (fail))
          refine wpQuiet_nil ?_
          intro w' hw'
          obtain ⟨nq, rfl⟩ := hw'
          have HFN := Lib.hid (HFW.out.trans (Fr.drewN wr nq))
          clear HRM HKQ hln c0
          go_wp2_with fail
          go_ret
          exact ⟨ret_eq (by simp; omega), HFN.out⟩
end
end Go.Proofs.YtcblfkojkdaepaaGreat
