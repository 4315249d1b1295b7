/- The contract of (*Disk).do. -/
import Derived.Test.YtcblfkojkdaepaaGreatFlushOn
import Derived.Deep.RegionLawGrows
import Derived.Deep.DeepCutAuto
import Derived.Deep.RegionWith
import Derived.Lib.SmallJoins
namespace Go.Proofs.YtcblfkojkdaepaaGreat
open Go.RowKit Go.ChangeMaps

theorem info_op : (Tryz.prog.info? 149).map (fun i => (i.zero, i.size, i.bytes)) = some (some .nilIface, 1, 16) := by kernel_rfl

section
variable {w : World} {g bs bm : Nat} {F O S : List Value} {T : List Ent}
/-- What the append of an op asks. -/
structure OpSide (w : World) (g : Nat) (la : Option Addr) (lc : Nat) (O : List Value) (o : Value) : Prop where
  none : la = .none → O.length = 0 ∧ O.length = 0
  olds : ∀ b, la = some b → ∀ j u, O[j]? = some u → ((w.alloc (.cells #[o] 149)).drew).cell? (b.add j) = some u
  news : ∀ j u, [o][j]? = some u → ((w.alloc (.cells #[o] 149)).drew).cell? ((⟨w.heap.size, 0, .none⟩ : Addr).add j) = some u
  len : O.length = O.length * 1
  full : O.length < O.length + 1
  b1 : O.length + 1 ≤ maxLen
  b2 : (O.length + 1) * 16 ≤ 140737488355328
  one : ∀ u ∈ [o], u.oneCell' = true
theorem op_side {S0 : List Nat} {la : Option Addr} {lc : Nat} (h : RdN 149 S0 w (.slice la O.length lc) O) (hO : O.length ≤ 1000000) (o : Value) (ho : o.oneCell' = true) : OpSide w g la lc O o := by
  refine ⟨?_, ?_, ?_, by omega, by omega, by unfold maxLen; omega, by omega, fun u hu => by simp at hu; subst hu; exact ho⟩
  · intro hn
    rcases h with ⟨_, rfl⟩ | ⟨b, off, cap, hv, _⟩
    · exact ⟨rfl, rfl⟩
    · rw [hn] at hv; cases hv
  · intro b hb j u hj
    rcases h with ⟨hv, _⟩ | ⟨b', off, cap, hv, _, _, _, hc⟩
    · rw [hb] at hv; cases hv
    · rw [hb] at hv
      simp only [Value.slice.injEq, Option.some.injEq] at hv
      rw [hv.1, Addr.add_mid]
      exact cell_l1 (hc j u hj)
  · intro j u hj
    have hj0 : j = 0 := by
      have := (List.getElem?_eq_some_iff.1 hj).1
      simp at this; exact this
    subst hj0
    rw [Addr.add_mid]
    show (w.alloc (.cells #[o] 149)).cell? ⟨w.heap.size, 0 + 0, .none⟩ = some u
    rw [cell_of_row _ w.heap.size (0 + 0) _ _ _ (heap_alloc_new w _)]
    simpa using hj
theorem op_keep (D : DiskAt w g bs bm F O S T) {o : Value} {w' : World} (hg : ((w.alloc (.cells #[o] 149)).drew).grownBy w' none) {i : Nat} {v : Value} (hc : w.cell? ⟨g, i, none⟩ = some v) :
    w'.cell? ⟨g, i, none⟩ = some v ∧ w'.frozen? ⟨g, i, none⟩ = false := by
  have hw : Fr [] w w' := (((Fr.refl [] w).alloc _).trans (Fr.drew _)).grown hg (by simp)
  obtain ⟨fv, lv, sc, h1, _⟩ := D.box
  exact ⟨hw.cell (p := ⟨g, i, none⟩) (by simp) hc, frozen_of_row w' g i _ _ (hw.heap (by simp) h1)⟩
/-- The op is laid behind the others. -/
theorem DiskAt.opped (D : DiskAt w g bs bm F O S T) {o v : Value} {B : Nat} {w' : World} (hown : w'.ownsRow B 149 1 v (O.length + 1) (O ++ [o])) (hB : B = w.heap.size + 1) (hg : ((w.alloc (.cells #[o] 149)).drew).grownBy w' none) :
    Fr [g] w (w'.setCell ⟨g, 1, none⟩ v) ∧ DiskAt (w'.setCell ⟨g, 1, none⟩ v) g bs bm F (O ++ [o]) S T := by
  have hl := D.lt
  obtain ⟨a1, a2, a3⟩ := D.apart
  have hw : Fr [] w w' := (((Fr.refl [] w).alloc _).trans (Fr.drew _)).grown hg (by simp)
  have hS : Fr [g] w' (w'.setCell ⟨g, 1, none⟩ v) := (Fr.refl _ _).setCell (.inl (by simp)) _
  have hX : Fr [g] w (w'.setCell ⟨g, 1, none⟩ v) := (hw.mono (by simp)).trans hS
  obtain ⟨fv, lv, sc, h1, h2, h3, h4⟩ := D.box
  obtain ⟨cs, r1, r2, r3⟩ := D.row
  obtain ⟨cl, m1, m2, m3⟩ := D.map
  have hT : ∀ k ∈ [g], k ∈ [g, bs, bm] ∨ w.heap.size ≤ k := fun k hk => .inl (by simp at hk; simp [hk])
  have hv : RdN 149 [g, bs, bm] w' v (O ++ [o]) := RdN_of_owns (n := O.length + 1) hown (fun k hk => by simp at hk; omega)
  refine ⟨hX, ⟨fv, v, sc, ?_, h2.fr hX hT, hv.fr hS (fun k hk => .inl (by simp at hk; simp [hk])), h4⟩, ⟨cs, hX.heap (by simpa using fun q => a1 q.symm) r1, r2, r3⟩, ⟨cl, hX.heap (by simpa using fun q => a2 q.symm) m1, m2, m3⟩, fun e he => (D.ents e he).fr hX hT, D.keys, D.len, D.keyLt, D.one, D.oneE, D.apart⟩
  have := heap_setCell_same w' g 1 _ _ v (hw.heap (by simp) h1)
  simpa using this
end
set_option maxRecDepth 100000 in
set_option maxHeartbeats 4000000 in
theorem do_any (w : World) {g bs bm : Nat} {F O S : List Value} {T : List Ent} (D : DiskAt w g bs bm F O S T) (_hS : S.length ≤ 4096) (hO : O.length ≤ 1000000) (t : TypeId) (v : Value) (f : FuncId) (R : World → Prop)
    (hna : ∀ w : World, (nilAhead 288 t v "dunnage/disk.on").run Tryz.prog w = .ok (some false) w) (hme : ∀ w : World, (method 288 t v "dunnage/disk.on").run Tryz.prog w = .ok (f, v) w)
    (hcf : ∀ (args : Array Value) (w : World), (callFunc f args).run Tryz.prog w = .ok (.enter f args) w)
    (hc : ∀ W : World, Fr [g] w W → DiskAt W g bs bm F (O ++ [.iface t v]) S T → Calls Tryz.prog f #[v, .pointer (some ⟨g, 2, none⟩)] W fun e w' => e = .returned (.tuple #[]) ∧ R w') :
    Calls Tryz.prog 78 #[.pointer (some ⟨g, 0, none⟩), .iface t v] w fun e w' => e = .returned (.tuple #[]) ∧ R w' := by
  obtain ⟨fv, lv, sc, hbox, hF, hL, hsc⟩ := D.box
  obtain ⟨c0, c1, c2, c3⟩ := cells_disk hbox
  obtain ⟨la, lc, rfl, hlc, _⟩ := hL.open
  have hfz := frozen_of_row w g 1 _ _ hbox
  obtain ⟨i0, hi, hz0, hz1, hz2⟩ := info_parts info_op
  have hgl := D.lt.1
  have n0 : w.heap.size ≠ g := by omega
  have HS := Lib.hid (op_side (g := g) hL hO (.iface t v) rfl)
  have HD := Lib.hid D; have HC := Lib.hid hc
  clear D hc hbox hL hF
  go_enter Tryz.func78, Tryz.ntmps78
  go_upto_region 0 with fail
  go_cut [2] (fun _ wc => Fr [g] w wc ∧ DiskAt wc g bs bm F (O ++ [.iface t v]) S T)
  case first =>
    go_region_law (refine step_append_grows rfl (.tmp 19) (.tmp 21) 112 rfl 149 i0 .nilIface 1 16 Tryz.underlying112 hi hz0 hz1 hz2 rfl (by decide) la O.length O.length O (by simp [Act.eval, Act.put]) HS.out.none HS.out.len HS.out.olds ⟨w.heap.size, 0, none⟩ 1 1 [.iface t v] (by simp [Act.eval, Act.put]) rfl HS.out.news HS.out.one HS.out.full HS.out.b1 HS.out.b2 ?_; intro v' w' hown hgrow; (have HR := Lib.hid (HD.out.opped hown (by simp) hgrow)); (obtain ⟨q1, q2⟩ := op_keep HD.out hgrow c1); (obtain ⟨gq, cq, rfl⟩ := Go.Joins.ownsRow_form hown (by omega)); clear hown hgrow)
    all_goals (go_wp2_with fail; go_meet; exact HR.out)
  case rest =>
    have HR := Lib.hid hcut
    clear hcut c0 c1 c2 c3 hfz
    go_wp2_with fail
    go_region_with (refine (HC.out _ (HR.out.1.trans (Fr.drew _)) (HR.out.2.fr (U := []) (Fr.drew _) (by simp))).mono ?_; rintro e w' ⟨rfl, hr⟩; (have HQ := Lib.hid hr); clear hr)
    go_wp2_with fail
    go_end0
    exact ⟨rfl, HQ.out⟩
theorem enter_of {f : FuncId} {fn : Func} {c : Code} (hf : Tryz.prog.funcs[f]? = some fn) (hname : (fn.name == "runtime.NumGoroutine") = false) (hb : fn.body = some c) (args : Array Value) (w : World) :
    (callFunc f args).run Tryz.prog w = .ok (.enter f args) w := by
  have h1 : fn.name ≠ "runtime.NumGoroutine" := by simpa using hname
  simp [callFunc, hf, h1, hb]
theorem doWrite_any (w : World) {g bs bm : Nat} {F O S : List Value} {T : List Ent} (D : DiskAt w g bs bm F O S T) (hS : S.length ≤ 4096) (hO : O.length ≤ 1000000) (n : Nat) (hn : n < S.length) (hk : ∀ e ∈ T, e.k < n) (a : Option Addr) (ln c : Nat) :
    Calls Tryz.prog 78 #[.pointer (some ⟨g, 0, none⟩), .iface 139 (.agg #[.int .i64 (n : Int), .slice a ln c])] w fun e w' => e = .returned (.tuple #[]) ∧ (Fr [g, bs, bm] w w' ∧ ∃ e0 : Ent, e0.k = n ∧ e0.v = .slice a ln c ∧ DiskAt w' g bs bm F (O ++ [.iface 139 (.agg #[.int .i64 (n : Int), .slice a ln c])]) S (T ++ [e0])) :=
  do_any w D hS hO _ _ 126 (fun w' => Fr [g, bs, bm] w w' ∧ ∃ e0 : Ent, e0.k = n ∧ e0.v = .slice a ln c ∧ DiskAt w' g bs bm F (O ++ [.iface 139 (.agg #[.int .i64 (n : Int), .slice a ln c])]) S (T ++ [e0]))
    (fun _ => by kernel_rfl) (fun _ => by kernel_rfl) (fun args w => enter_of Tryz.func126 (by kernel_rfl) (by rfl) args w)
    (fun W hF DW => (writeOn_any W DW n hn hS hk a ln c).mono fun _ _ ⟨h1, h2, h3⟩ => ⟨h1, (hF.mono (fun k hk => .inl (by simp at hk; simp [hk]))).trans (h2.mono (fun k hk => .inl (by simp at hk ⊢; omega))), h3⟩)
theorem doFlush_any (w : World) {g bs bm : Nat} {F O S : List Value} {T : List Ent} (D : DiskAt w g bs bm F O S T) (hS : S.length ≤ 4096) (hO : O.length ≤ 1000000) :
    Calls Tryz.prog 78 #[.pointer (some ⟨g, 0, none⟩), .iface 140 (.agg #[])] w fun e w' => e = .returned (.tuple #[]) ∧ (Fr [g, bs, bm] w w' ∧ DiskAt w' g bs bm F (O ++ [.iface 140 (.agg #[])]) (flu S T) []) :=
  do_any w D hS hO _ _ 127 (fun w' => Fr [g, bs, bm] w w' ∧ DiskAt w' g bs bm F (O ++ [.iface 140 (.agg #[])]) (flu S T) [])
    (fun _ => by kernel_rfl) (fun _ => by kernel_rfl) (fun args w => enter_of Tryz.func127 (by kernel_rfl) (by rfl) args w)
    (fun W hF DW => (flushOn_any W DW hS).mono fun _ _ ⟨h1, h2, h3⟩ => ⟨h1, (hF.mono (fun k hk => .inl (by simp at hk; simp [hk]))).trans (h2.mono (fun k hk => .inl (by simp at hk ⊢; omega))), h3⟩)
end Go.Proofs.YtcblfkojkdaepaaGreat
