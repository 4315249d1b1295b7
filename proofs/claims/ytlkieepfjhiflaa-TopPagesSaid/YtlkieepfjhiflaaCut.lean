/- The contract of (*Disk).Cut. -/
import Derived.Test.YtlkieepfjhiflaaPlay
import Derived.Test.YtlkieepfjhiflaaWaiting
namespace Go.Proofs.Ytlkieepfjhiflaa
open Go.RowKit Go.ChangeMaps

/-- An op is laid behind the others, in a row of one's own. -/
theorem DiskAt.opped2 {w w2 : World} {g bs bm : Nat} {F O S : List Value} {T : List Ent} (D : DiskAt w g bs bm F O S T) {o lv v : Value} {B n : Nat} {A : Obj} (hcell : w.cell? ⟨g, 1, none⟩ = some lv)
    (hown0 : w.ownsRow B 112 1 lv n O) (hown : w2.ownsRow B 112 1 v (n + 1) (O ++ [o])) (hB : g < B ∧ bs < B ∧ bm < B) (hg : (w.alloc A).grownBy w2 lv.ownBlock) :
    Fr (g :: lv.ownBlock.toList) w (w2.setCell ⟨g, 1, none⟩ v) ∧ DiskAt (w2.setCell ⟨g, 1, none⟩ v) g bs bm F (O ++ [o]) S T ∧ (w2.setCell ⟨g, 1, none⟩ v).cell? ⟨g, 1, none⟩ = some v ∧ (w2.setCell ⟨g, 1, none⟩ v).ownsRow B 112 1 v (n + 1) (O ++ [o]) := by
  have hl := D.lt
  obtain ⟨a1, a2, a3⟩ := D.apart
  have hq : ∀ k ∈ lv.ownBlock.toList, B ≤ k ∧ ∃ cs fr, w.heap[k]? = some (.cells cs 112 fr) := by
    intro k hk
    have hk' : lv.ownBlock = some k := by simpa using hk
    refine ⟨(World.ownsRow.lt hown0 k hk').1, ?_⟩
    rcases hown0.2 with ⟨rfl, _⟩ | ⟨q, cap, cur, rfl, _, hb, _⟩
    · simp [Value.ownBlock] at hk'
    · simp only [Value.ownBlock, Option.some.injEq] at hk'
      subst hk'
      exact ⟨cur, _, hb⟩
  have hw : Fr lv.ownBlock.toList w w2 := ((Fr.refl _ w).alloc A).grown hg (fun k hk => .inl (by simp [hk]))
  have hno : ∀ x, x < B → x ∉ lv.ownBlock.toList := fun x hx hm => by have := (hq x hm).1; omega
  have hS : Fr [g] w2 (w2.setCell ⟨g, 1, none⟩ v) := (Fr.refl _ _).setCell (.inl (by simp)) _
  have hX : Fr (g :: lv.ownBlock.toList) w (w2.setCell ⟨g, 1, none⟩ v) := (hw.mono (fun k hk => .inl (by simp [hk]))).trans (hS.mono (fun k hk => .inl (by simp at hk; simp [hk])))
  obtain ⟨fv, lv', sc, h1, h2, h3, h4⟩ := D.box
  obtain ⟨cs, r1, r2, r3⟩ := D.row
  obtain ⟨cl, m1, m2, m3⟩ := D.map
  have hT : ∀ k ∈ g :: lv.ownBlock.toList, k ∈ [g, bs, bm] ∨ w.heap.size ≤ k ∨ ∃ cs t' fr, w.heap[k]? = some (.cells cs t' fr) ∧ t' ≠ 22 := fun k hk => by
    rcases List.mem_cons.1 hk with rfl | hk
    · exact .inl (by simp)
    · obtain ⟨_, cs, fr, hh⟩ := hq k hk
      exact .inr (.inr ⟨cs, _, fr, hh, by decide⟩)
  have hg2 := hw.heap (hno g hB.1) h1
  have hbox := heap_setCell_same w2 g 1 _ _ v hg2
  have hv : RdN 112 [g, bs, bm] w2 v (O ++ [o]) := RdN_of_owns hown (fun k hk => by simp at hk; omega)
  refine ⟨hX, ⟨⟨fv, v, sc, by simpa using hbox, h2.other hX hT, hv.fr hS (fun k hk => .inl (by simp at hk; simp [hk])), h4⟩, ⟨cs, hX.heap (by simp only [List.mem_cons, not_or]; exact ⟨fun q => a1 q.symm, hno bs hB.2.1⟩) r1, r2, r3⟩, ⟨cl, hX.heap (by simp only [List.mem_cons, not_or]; exact ⟨fun q => a2 q.symm, hno bm hB.2.2⟩) m1, m2, m3⟩, fun e he => (D.ents e he).other hX hT, D.keys, D.len, D.keyLt, D.one, D.oneE, D.apart⟩, ?_, own_keep hown hS (fun k hk => by simp at hk; omega)⟩
  rw [cell_of_row _ g 1 _ _ _ hbox]; rfl
/-- While the ops are done again: j of them. -/
structure CtI (w1 wr : World) (g bs bm : Nat) (F : List Value) (ops : List (Option (Nat × Value))) (j : Nat) : Prop where
  disk : ∃ T lv, DiskAt wr g bs bm F ((ops.take j).map opV) (play F (ops.take j)).1 T ∧ kvs T = (play F (ops.take j)).2 ∧ wr.cell? ⟨g, 1, none⟩ = some lv ∧ wr.ownsRow w1.heap.size 112 1 lv j ((ops.take j).map opV)
  fr : Fr [g, bs, bm] w1 wr
theorem op2_keep {w w2 : World} {g bs bm : Nat} {F O S : List Value} {T : List Ent} (D : DiskAt w g bs bm F O S T) {lv : Value} {B n : Nat} {A : Obj} (hcell : w.cell? ⟨g, 1, none⟩ = some lv)
    (hown0 : w.ownsRow B 112 1 lv n O) (hB : g < B) (hg : (w.alloc A).grownBy w2 lv.ownBlock) : w2.cell? ⟨g, 1, none⟩ = some lv ∧ w2.frozen? ⟨g, 1, none⟩ = false := by
  have hw : Fr lv.ownBlock.toList w w2 := ((Fr.refl _ w).alloc A).grown hg (fun k hk => .inl (by simp [hk]))
  have hno : g ∉ lv.ownBlock.toList := fun hm => by have := (World.ownsRow.lt hown0 g (by simpa using hm)).1; omega
  obtain ⟨fv, lv', sc, h1, _⟩ := D.box
  exact ⟨hw.cell (p := ⟨g, 1, none⟩) hno hcell, frozen_of_row w2 g 1 _ _ (hw.heap hno h1)⟩
theorem own_slice {w : World} {B n : Nat} {e : TypeId} {v : Value} {xs : List Value} (h : w.ownsRow B e 1 v n xs) : ∃ a c, v = .slice a n c := by
  rcases h.2 with ⟨rfl, rfl⟩ | ⟨q, cap, cur, rfl, _⟩
  · exact ⟨none, 0, rfl⟩
  · exact ⟨_, _, rfl⟩
theorem kvs_lt {T : List Ent} {m : List (Nat × Value)} {n : Nat} (h : kvs T = m) (hm : ∀ p ∈ m, p.1 < n) : ∀ e ∈ T, e.k < n := fun e he => by
  subst h
  exact hm (e.k, e.v) (List.mem_map.2 ⟨e, he, rfl⟩)
section
variable {w1 wr w2 w3 : World} {g bs bm j : Nat} {F : List Value} {ops : List (Option (Nat × Value))}
/-- The op laid behind the others. -/
structure CtX (w1 X : World) (g bs bm : Nat) (F : List Value) (ops : List (Option (Nat × Value))) (j : Nat) (v : Value) (T : List Ent) : Prop where
  disk : DiskAt X g bs bm F ((ops.take j).map opV) (play F (ops.take (j - 1))).1 T
  kv : kvs T = (play F (ops.take (j - 1))).2
  cell : X.cell? ⟨g, 1, none⟩ = some v
  own : X.ownsRow w1.heap.size 112 1 v j ((ops.take j).map opV)
  fr : Fr [g, bs, bm] w1 X
theorem CtX.of {T : List Ent} {lv v : Value} {A : Obj} {o : Option (Nat × Value)} (hfr : Fr [g, bs, bm] w1 wr) (D : DiskAt wr g bs bm F ((ops.take j).map opV) (play F (ops.take j)).1 T) (hkv : kvs T = (play F (ops.take j)).2) (hcl : wr.cell? ⟨g, 1, none⟩ = some lv)
    (hown0 : wr.ownsRow w1.heap.size 112 1 lv j ((ops.take j).map opV)) (ho : ops[j]? = some o) (hB : g < w1.heap.size ∧ bs < w1.heap.size ∧ bm < w1.heap.size)
    (hown : w2.ownsRow w1.heap.size 112 1 v (j + 1) ((ops.take j).map opV ++ [opV o])) (hg : (wr.alloc A).grownBy w2 lv.ownBlock) : CtX w1 (w2.setCell ⟨g, 1, none⟩ v) g bs bm F ops (j + 1) v T := by
  obtain ⟨hX, hD, hc, ho2⟩ := D.opped2 hcl hown0 hown hB hg
  have ht : (ops.take (j + 1)).map opV = (ops.take j).map opV ++ [opV o] := by
    have hj := (List.getElem?_eq_some_iff.1 ho).1
    rw [List.take_succ_eq_append_getElem hj, List.map_append]
    rw [List.getElem?_eq_getElem hj] at ho
    simp only [Option.some.injEq] at ho
    rw [ho]; rfl
  refine ⟨by rw [ht]; exact hD, hkv, hc, by rw [ht]; exact ho2, hfr.then hX (fun x hx => ?_)⟩
  rcases List.mem_cons.1 hx with rfl | hx
  · exact .inl (by simp)
  · exact .inr ((World.ownsRow.lt hown0 x (by simpa using hx)).1)
theorem CtX.write {v : Value} {T : List Ent} {n : Nat} {u : Value} {e0 : Ent} (I : CtX w1 wr g bs bm F ops (j + 1) v T) (hB : g < w1.heap.size ∧ bs < w1.heap.size ∧ bm < w1.heap.size) (ho : ops[j]? = some (some (n, u))) (hf : Fr [bs, bm] wr w2) (h1 : e0.k = n) (h2 : e0.v = u)
    (D : DiskAt w2 g bs bm F ((ops.take (j + 1)).map opV) (play F (ops.take j)).1 (T ++ [e0])) : CtI w1 w2 g bs bm F ops (j + 1) := by
  have ha := I.disk.apart
  have hkv := I.kv
  rw [Nat.add_sub_cancel] at hkv
  refine ⟨⟨T ++ [e0], v, ?_, ?_, hf.cell (p := ⟨g, 1, none⟩) (by simp [ha.1, ha.2.1]) I.cell, own_keep I.own hf (by intro k hk; simp at hk; omega)⟩, I.fr.trans (hf.mono (fun k hk => .inl (by simp at hk ⊢; omega)))⟩
  · rw [play_take F ops j _ ho]; exact D
  · rw [play_take F ops j _ ho]
    unfold kvs at hkv ⊢
    rw [List.map_append, hkv, List.map_singleton, h1, h2]; rfl
theorem CtX.flush {v : Value} {T : List Ent} (I : CtX w1 wr g bs bm F ops (j + 1) v T) (hB : g < w1.heap.size ∧ bs < w1.heap.size ∧ bm < w1.heap.size) (ho : ops[j]? = some none) (hf : Fr [bs, bm] wr w2)
    (D : DiskAt w2 g bs bm F ((ops.take (j + 1)).map opV) (flu (play F (ops.take j)).1 T) []) : CtI w1 w2 g bs bm F ops (j + 1) := by
  have ha := I.disk.apart
  have hkv := I.kv
  rw [Nat.add_sub_cancel] at hkv
  refine ⟨⟨[], v, ?_, ?_, hf.cell (p := ⟨g, 1, none⟩) (by simp [ha.1, ha.2.1]) I.cell, own_keep I.own hf (by intro k hk; simp at hk; omega)⟩, I.fr.trans (hf.mono (fun k hk => .inl (by simp at hk ⊢; omega)))⟩
  · rw [play_take F ops j _ ho]
    show DiskAt w2 g bs bm F _ (fluP (play F (ops.take j)).1 (play F (ops.take j)).2) []
    rw [← hkv, ← flu_kvs]; exact D
  · rw [play_take F ops j _ ho]; rfl
end
set_option maxRecDepth 100000 in
set_option maxHeartbeats 8000000 in
theorem cut_any (w : World) {g bs bm : Nat} {F S : List Value} {T : List Ent} {ops : List (Option (Nat × Value))} (D : DiskAt w g bs bm F (ops.map opV) S T) (hP : Playable F ops) (hF0 : 0 < F.length) (hF : F.length ≤ 4096) (hO : ops.length ≤ 1000000) (k : Nat) (hk : k ≤ ops.length) :
    Calls Try.prog 36 #[.pointer (some ⟨g, 0, none⟩), .int .i64 (k : Int)] w fun e w' => ∃ g' bs' bm' T' O', e = .returned (.tuple #[.pointer (some ⟨g', 0, none⟩), .int .i64 0]) ∧ DiskAt w' g' bs' bm' F O' (play F (ops.take k)).1 T' ∧ kvs T' = (play F (ops.take k)).2 ∧ Below w.heap.size w w' ∧ w.heap.size ≤ g' ∧ w.heap.size ≤ bs' ∧ w.heap.size ≤ bm' := by
  obtain ⟨fv, lv, sc, hbox, hFv, hL, hsc⟩ := D.box
  obtain ⟨c0, c1, c2, c3⟩ := cells_disk hbox
  obtain ⟨fa, fc, rfl, hfc, _⟩ := hFv.open
  obtain ⟨la, lc, rfl, hlc, hlr⟩ := hL.open
  obtain ⟨i0, hi, hz0, hz1, hz2⟩ := info_parts info_op
  simp only [List.length_map] at hlc hlr c1
  have k0 : (0 : Int) ≤ (k : Int) := by omega
  have k1 : (k : Int) ≤ (ops.length : Int) := by omega
  have k2 : (ops.length : Int) ≤ 1000000 := by omega
  have k3 : (k : Int) ≤ (lc : Int) := by omega
  have HD := Lib.hid D; have HP := Lib.hid hP; have HF := Lib.hid hF; have H0 := Lib.hid hF0; have HFv := Lib.hid hFv; have HLR := Lib.hid hlr
  have hone := D.one
  have HONE := Lib.hid hone
  clear D hP hbox hFv hL hlr hF hF0 hone
  go_enter Try.func36, Try.ntmps36
  go_wp2_with fail
  refine (begun2_any _ _ F (HFv.out.to (by simp)) HF.out H0.out (fun u hu => HONE.out u (List.mem_append_left _ hu))).mono ?_
  rintro e w1 ⟨g', bs', bm', rfl, D1, hb1, h1, h2, h3, hnl⟩
  have HB1 := Lib.hid hb1; have HD1 := Lib.hid D1; have HNL := Lib.hid hnl
  have hlt := D1.lt
  have d1 : w1.cell? ⟨g, 1, none⟩ = some (.slice la ops.length lc) := (hb1.cell (p := ⟨g, 1, none⟩) HD.out.lt.1).trans c1
  clear hb1 D1 c0 c2 c3 c1 hnl
  go_wp2_with fail
  go_loopw [37, 8, 9] (fun i _ _ wq => ∃ j : Nat, j ≤ k ∧ i = .int .i64 j ∧ CtI w1 wq g' bs' bm' F ops j) (fun i _ _ _ => k - (intOf i).toNat)
  case atStart => exact ⟨0, by omega, rfl, ⟨[], _, HD1.out, rfl, HNL.out, by simpa using World.ownsRow_nil _ _ _ _⟩, Fr.refl _ _⟩
  case round =>
    obtain ⟨j, hj, rfl, hI⟩ := hrel
    have HI := Lib.hid hI
    clear hI
    by_cases hlt2 : j < k
    · obtain ⟨o, ho⟩ : ∃ o, ops[j]? = some o := ⟨_, List.getElem?_eq_getElem (by omega)⟩
      obtain ⟨b, off, hla, _, hcell⟩ := HLR.out j (opV o) (by rw [List.getElem?_map, ho]; rfl)
      have d2 : wr.cell? ⟨b, off + j, none⟩ = some (opV o) := HI.out.fr.cell (p := ⟨b, off + j, none⟩) (by have := block_lt_of_cell hcell; simp at *; omega) ((HB1.out.cell (p := ⟨b, off + j, none⟩) (block_lt_of_cell hcell)).trans hcell)
      obtain ⟨Tc, lv, DC, hkv, hcl, hown⟩ := HI.out.disk
      have hsh := own_slice hown
      have HDC := Lib.hid DC; have HKV := Lib.hid hkv; have HOW := Lib.hid hown; have HOJ := Lib.hid ho
      obtain ⟨aa, ac, rfl⟩ := hsh
      have i0' : (0 : Int) ≤ (j : Int) := by omega
      have i1' : (j : Int) < (k : Int) := by omega
      have hj6 : j ≤ 1000000 := by omega
      subst hla
      clear hcell DC hkv hown ho
      cases o with
      | none =>
        simp only [opV, fOp] at d2
        have hna : ∀ w : World, (nilAhead 266 76 (.agg #[]) "dunnage/disk.on").run Try.prog w = .ok (some false) w := fun _ => by kernel_rfl
        have hme : ∀ w : World, (method 266 76 (.agg #[]) "dunnage/disk.on").run Try.prog w = .ok (105, (.agg #[])) w := fun _ => by kernel_rfl
        have hcf : ∀ (args : Array Value) (w : World), (callFunc 105 args).run Try.prog w = .ok (.enter 105 args) w := fun args w => enter_of Try.func105 (by kernel_rfl) (by rfl) args w
        have ht1 : ∀ w : World, (Instr.typeAssert (.iface 76 (.agg #[])) 112 76 true).run Try.prog w = .ok (.tuple #[(.agg #[]), .bool true]) w := fun _ => by kernel_rfl
        have ht2 : ∀ w : World, (Instr.typeAssert (.iface 76 (.agg #[])) 112 74 true).run Try.prog w = .ok (.tuple #[(.agg #[.int .i64 0, .slice none 0 0]), .bool false]) w := fun _ => by kernel_rfl
        go_wp2_with (refine wpList_app rfl (.tmp 53) (.tmp 55) 65 rfl w1.heap.size 112 i0 .nilIface 16 Try.underlying65 hi hz0 hz1 hz2 rfl _ j ((ops.take j).map opV) rfl (HOW.out.alloc _) _ [.iface 76 (.agg #[])] rfl (rd_one _ _ _) (by intro q hq; simp at hq; subst hq; rfl) ?d2 (by omega) ?d3 ?_)
        case d2 => simp; omega
        case d3 => have := HI.out.fr.size; simp; omega
        intro v' w2 hown2 hgr
        rw [← List.map_take] at hown2
        have HX := Lib.hid (CtX.of (o := none) HI.out.fr HDC.out HKV.out hcl HOW.out HOJ.out hlt hown2 hgr)
        obtain ⟨q1, q2⟩ := op2_keep HDC.out hcl HOW.out hlt.1 hgr
        obtain ⟨va, vc, rfl⟩ := own_slice hown2
        clear hown2 hgr hcl
        go_wp2_with fail
        go_region_with (refine (flushOn_any _ (HX.out.disk.fr (U := []) (Fr.drew _) (by simp)) (by rw [play_length]; exact HF.out)).mono ?_; rintro e w5 ⟨rfl, hf5, h53⟩; (have HY := Lib.hid (CtX.flush HX.out hlt HOJ.out ((Fr.drew _).trans hf5) h53)); clear hf5 h53)
        go_wp2_with fail
        go_roundw
        case rel => exact ⟨j + 1, by omega, by go_num, HY.out⟩
        case measure => simp [intOf]; omega
      | some p =>
        obtain ⟨n, u⟩ := p
        obtain ⟨hnF, hkeys, ua, ul, uc, rfl⟩ := HP.out j n u HOJ.out
        have HKE := Lib.hid hkeys
        clear hkeys
        simp only [opV, wOp] at d2
        have hna : ∀ w : World, (nilAhead 266 74 (.agg #[.int .i64 (n : Int), .slice ua ul uc]) "dunnage/disk.on").run Try.prog w = .ok (some false) w := fun _ => by kernel_rfl
        have hme : ∀ w : World, (method 266 74 (.agg #[.int .i64 (n : Int), .slice ua ul uc]) "dunnage/disk.on").run Try.prog w = .ok (104, (.agg #[.int .i64 (n : Int), .slice ua ul uc])) w := fun _ => by kernel_rfl
        have hcf : ∀ (args : Array Value) (w : World), (callFunc 104 args).run Try.prog w = .ok (.enter 104 args) w := fun args w => enter_of Try.func104 (by kernel_rfl) (by rfl) args w
        have ht1 : ∀ w : World, (Instr.typeAssert (.iface 74 (.agg #[.int .i64 (n : Int), .slice ua ul uc])) 112 74 true).run Try.prog w = .ok (.tuple #[(.agg #[.int .i64 (n : Int), .slice ua ul uc]), .bool true]) w := fun _ => by kernel_rfl
        have ht2 : ∀ w : World, (Instr.typeAssert (.iface 74 (.agg #[.int .i64 (n : Int), .slice ua ul uc])) 112 76 true).run Try.prog w = .ok (.tuple #[(.agg #[]), .bool false]) w := fun _ => by kernel_rfl
        go_wp2_with (refine wpList_app rfl (.tmp 53) (.tmp 55) 65 rfl w1.heap.size 112 i0 .nilIface 16 Try.underlying65 hi hz0 hz1 hz2 rfl _ j ((ops.take j).map opV) rfl (HOW.out.alloc _) _ [.iface 74 (.agg #[.int .i64 (n : Int), .slice ua ul uc])] rfl (rd_one _ _ _) (by intro q hq; simp at hq; subst hq; rfl) ?d2 (by omega) ?d3 ?_)
        case d2 => simp; omega
        case d3 => have := HI.out.fr.size; simp; omega
        intro v' w2 hown2 hgr
        rw [← List.map_take] at hown2
        have HX := Lib.hid (CtX.of (o := (some (n, .slice ua ul uc))) HI.out.fr HDC.out HKV.out hcl HOW.out HOJ.out hlt hown2 hgr)
        obtain ⟨q1, q2⟩ := op2_keep HDC.out hcl HOW.out hlt.1 hgr
        obtain ⟨va, vc, rfl⟩ := own_slice hown2
        clear hown2 hgr hcl
        go_wp2_with fail
        go_region_with (refine (writeOn_any _ (HX.out.disk.fr (U := []) (Fr.drew _) (by simp)) n (by rw [play_length]; exact hnF) (by rw [play_length]; exact HF.out) (kvs_lt HX.out.kv HKE.out) ua ul uc).mono ?_; rintro e w5 ⟨rfl, hf5, e0, h51, h52, h53⟩; (have HY := Lib.hid (CtX.write HX.out hlt HOJ.out ((Fr.drew _).trans hf5) h51 h52 h53)); clear hf5 h51 h52 h53)
        go_wp2_with fail
        go_roundw
        case rel => exact ⟨j + 1, by omega, by go_num, HY.out⟩
        case measure => simp [intOf]; omega
    · obtain rfl : j = k := by omega
      obtain ⟨Tc, lv, DC, hkv, hcl, hown⟩ := HI.out.disk
      have HH := Lib.hid (show DiskAt wr g' bs' bm' F ((ops.take j).map opV) (play F (ops.take j)).1 Tc ∧ kvs Tc = (play F (ops.take j)).2 ∧ Below w.heap.size w wr ∧ w.heap.size ≤ g' ∧ w.heap.size ≤ bs' ∧ w.heap.size ≤ bm' from
        ⟨DC, hkv, HB1.out.trans (HI.out.fr.below HB1.out.size (by intro x hx; simp at hx; omega)), h1, h2, h3⟩)
      clear DC hkv hcl hown
      go_wp2_with fail
      go_ret2
      exact ⟨g', bs', bm', Tc, _, rfl, HH.out⟩
end Go.Proofs.Ytlkieepfjhiflaa
