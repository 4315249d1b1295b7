/- The contract of (*Disk).Waiting. -/
import Derived.Test.YtlkieepfjhiflaaWf
import Derived.Test.YtlkieepfjhiflaaShelf
import Derived.Sort.OwnSortedInts
namespace Go.Proofs.Ytlkieepfjhiflaa
open Go.RowKit Go.ChangeMaps

/-- slices.Sort of a row of one's own. -/
theorem sortI_any (w : World) (B : Nat) (v : Value) (zs : List Int) (hown : w.ownsRow B 3 1 v zs.length (zs.map (Value.int .i64))) (hz : zs.length < 4611686018427387904) :
    Calls Try.prog 54 #[v] w fun e w' => e = .returned (.tuple #[]) ∧ w'.ownsRow B 3 1 v zs.length ((zs.mergeSort fun x y => decide (x ≤ y)).map (Value.int .i64)) ∧ w.grownBy w' v.ownBlock := by
  rcases hown.2 with ⟨rfl, h0⟩ | ⟨g, cap, cur, rfl, hbase, hb, h1, h2, h3, h4⟩
  · have hn : zs = [] := List.eq_nil_of_length_eq_zero (by simpa using h0)
    subst hn
    refine (Try.slices_Sort_int_none none 0 w).mono ?_
    rintro e w' ⟨rfl, rfl⟩
    exact ⟨rfl, by simpa using World.ownsRow_nil _ _ _ _, ⟨rfl, rfl, rfl, Nat.le_refl _, fun _ _ _ => rfl⟩⟩
  · refine (Try.slices_Sort_int g 0 cap zs w (holds_of_blockI hb (by simpa using h4)) (Array.getElem?_eq_some_iff.1 hb).1 hz).mono ?_
    rintro e w' ⟨rfl, n, os, rfl⟩
    exact ⟨rfl, ownsRow_sortedI (by simp) hbase hb h1 h2 h3, grownBy_sortedI _⟩
theorem sorted_of {T L : List Ent} (hp : T.Pairwise (fun a b => a.k < b.k)) (hs : ∀ e ∈ L, e ∈ T) (ha : ∀ e ∈ T, e ∈ L) (hn : L.Nodup) :
    ((L.map fun e => (e.k : Int)).mergeSort fun x y => decide (x ≤ y)) = T.map fun e => (e.k : Int) := by
  have hT : T.Nodup := hp.imp (fun h => by intro e; subst e; omega)
  have hperm : L.Perm T := (List.perm_ext_iff_of_nodup hn hT).2 fun a => ⟨hs a, ha a⟩
  have h1 : ((L.map fun e => (e.k : Int)).mergeSort fun x y => decide (x ≤ y)).Perm (T.map fun e => (e.k : Int)) := (List.mergeSort_perm _ _).trans (hperm.map _)
  have h2 : ((L.map fun e => (e.k : Int)).mergeSort fun x y => decide (x ≤ y)).Pairwise (fun x y => decide (x ≤ y) = true) := List.pairwise_mergeSort (by intro a b c h1 h2; simp at *; omega) (by intro a b; simp; omega) _
  have h3 : (T.map fun e => (e.k : Int)).Pairwise (fun x y => decide (x ≤ y) = true) := by
    rw [List.pairwise_map]
    exact hp.imp (fun h => by simp; omega)
  exact h1.eq_of_pairwise (fun a b _ _ h1 h2 => by simp at h1 h2; omega) h2 h3
theorem len_of {T L : List Ent} (hp : T.Pairwise (fun a b => a.k < b.k)) (hs : ∀ e ∈ L, e ∈ T) (ha : ∀ e ∈ T, e ∈ L) (hn : L.Nodup) : L.length = T.length :=
  ((List.perm_ext_iff_of_nodup hn (hp.imp (fun h => by intro e; subst e; omega))).2 fun a => ⟨hs a, ha a⟩).length_eq
/-- While the numbers are collected: L has come. -/
structure WtI (w wr : World) (bm cl : Nat) (T L : List Ent) (v : Value) : Prop where
  rng : Rng wr w.heap.size bm cl T L
  own : wr.ownsRow (w.heap.size + 1) 3 1 v L.length (L.map fun e => .int .i64 (e.k : Int))
  below : Below w.heap.size w wr
  nd : L.Nodup
  more : w.heap.size + 1 ≤ wr.heap.size
def WtR (w : World) (bm cl : Nat) (T : List Ent) (k : Nat) (v : Value) (wr : World) : Prop := ∃ L, WtI w wr bm cl T L v ∧ toCome T L = k
theorem info_int : (Try.prog.info? 3).map (fun i => (i.zero, i.size, i.bytes)) = some (some (.int .i64 0), 1, 8) := by kernel_rfl
theorem rd_one (w : World) (u : Value) (t : TypeId) : RdV (w.alloc (.cells #[u] t)) (.slice (some ⟨w.heap.size, 0, none⟩) 1 1) [u] := by
  refine .inr ⟨⟨w.heap.size, 0, none⟩, 1, rfl, by simp, fun j x hj => ⟨w.heap.size, 0, rfl, ?_⟩⟩
  rw [cell_of_row (w.alloc (.cells #[u] t)) w.heap.size (0 + j) #[u] t (0, 0) (heap_alloc_new w _)]
  simpa using hj
theorem nodup_len : ∀ {L T : List Ent}, (∀ e ∈ L, e ∈ T) → L.Nodup → L.length ≤ T.length
  | [], _, _, _ => by simp
  | a :: L, T, hs, hn => by
    obtain ⟨h1, h2⟩ := List.nodup_cons.1 hn
    obtain ⟨A, B, rfl⟩ := List.append_of_mem (hs a (by simp))
    have := nodup_len (L := L) (T := A ++ B) (fun e he => by
      have := hs e (by simp [he])
      simp only [List.mem_append, List.mem_cons] at this ⊢
      rcases this with h | rfl | h
      · exact .inl h
      · exact absurd he h1
      · exact .inr h) h2
    simp only [List.length_append, List.length_cons] at this ⊢
    omega
theorem Fr.grownBy {r : Nat} {a b : World} (h : Fr [r] a b) : a.grownBy b (some r) := ⟨h.os, h.tape, h.output, h.size, fun k hk hn => h.block k hk (by simpa using fun e => hn (by rw [e]))⟩
theorem own_keep {w w' : World} {B : Nat} {e : TypeId} {v : Value} {n : Nat} {xs : List Value} {S : List Nat} (h : w.ownsRow B e 1 v n xs) (hf : Fr S w w') (hS : ∀ k ∈ S, k < B ∨ w.heap.size ≤ k) : w'.ownsRow B e 1 v n xs := by
  obtain ⟨h1, h2⟩ := h
  refine ⟨h1, ?_⟩
  rcases h2 with h2 | ⟨g, cap, cur, hv, hb, hg, r⟩
  · exact .inl h2
  · exact .inr ⟨g, cap, cur, hv, hb, hf.heap (fun hm => by have := hS g hm; have := (Array.getElem?_eq_some_iff.1 hg).1; omega) hg, r⟩
theorem own_mono {w : World} {B B' : Nat} {e : TypeId} {v : Value} {n : Nat} {xs : List Value} (h : w.ownsRow B e 1 v n xs) (hB : B' ≤ B) : w.ownsRow B' e 1 v n xs := by
  obtain ⟨h1, h2⟩ := h
  refine ⟨h1, ?_⟩
  rcases h2 with h2 | ⟨g, cap, cur, hv, hb, r⟩
  · exact .inl h2
  · exact .inr ⟨g, cap, cur, hv, by omega, r⟩
/-- Behind the append of a number. -/
theorem WtI.step {w wr w' w2 : World} {bm cl : Nat} {T L : List Ent} {v v' : Value} {e : Ent} {A : Obj} (I : WtI w wr bm cl T L v) (hbm : bm < w.heap.size) (hnL : e ∉ L) (hR : Rng w' w.heap.size bm cl T (L ++ [e])) (hF : Fr [w.heap.size] wr w')
    (hown : w2.ownsRow (w.heap.size + 1) 3 1 v' (L.length + 1) (List.map (fun e => Value.int .i64 (e.k : Int)) L ++ [.int .i64 (e.k : Int)])) (hgr : (w'.alloc A).grownBy w2 v.ownBlock) : WtI w w2 bm cl T (L ++ [e]) v' := by
  have hlt : ∀ k, v.ownBlock = some k → w.heap.size + 1 ≤ k := fun k hk => (World.ownsRow.lt I.own k hk).1
  have hs := I.below.size
  have hsz := hF.size
  have hm := I.more
  have hF2 : Fr v.ownBlock.toList w' w2 := ((Fr.refl _ _).alloc A).grown hgr (fun k hk => .inl (by simp [hk]))
  have hno : ∀ x, x < w.heap.size + 1 → x ∉ v.ownBlock.toList := fun x hx hm => by
    have := hlt x (by simpa using hm)
    omega
  refine ⟨hR.fr hF2 (hno _ (by omega)) (hno _ (by omega)), by simpa using hown, ?_, ?_, ?_⟩
  · have h1 : Below w.heap.size w w' := I.below.trans (hF.below (by omega) (by simp))
    exact h1.trans (hF2.below (by omega) (fun k hk => by have := hlt k (by simpa using hk); omega))
  · rw [List.nodup_append]
    refine ⟨I.nd, by simp, ?_⟩
    intro a ha b hb
    simp at hb; subst hb
    exact fun q => hnL (q ▸ ha)
  · have := hF2.size; omega
/-- While the numbers of writes are collected. -/
structure WcI (w3 wr : World) (j : Nat) (v : Value) : Prop where
  own : wr.ownsRow w3.heap.size 3 1 v j (List.replicate j (.int .i64 1))
  below : Below w3.heap.size w3 wr
theorem WcI.step {w3 wr w2 : World} {j : Nat} {v v' : Value} {A : Obj} (I : WcI w3 wr j v) (hown : w2.ownsRow w3.heap.size 3 1 v' (j + 1) (List.replicate j (.int .i64 1) ++ [.int .i64 1])) (hgr : (wr.alloc A).grownBy w2 v.ownBlock) : WcI w3 w2 (j + 1) v' := by
  refine ⟨by rw [List.replicate_succ']; exact hown, ?_⟩
  exact (I.below.alloc I.below.size A).grown hgr (by have := I.below.size; simp; omega) (fun k hk => (World.ownsRow.lt I.own k hk).1)
set_option maxRecDepth 100000 in
set_option maxHeartbeats 4000000 in
theorem waiting_any (w : World) {g bs bm : Nat} {F O S : List Value} {T : List Ent} (D : DiskAt w g bs bm F O S T) (_ : S.length ≤ 4096) (hT : T.length ≤ 4096) :
    Calls Try.prog 33 #[.pointer (some ⟨g, 0, none⟩)] w fun e w' => ∃ nv wv, e = .returned (.tuple #[nv, wv]) ∧ Below w.heap.size w w' ∧ w'.ownsRow w.heap.size 3 1 nv T.length (T.map fun e => .int .i64 (e.k : Int)) ∧ w'.ownsRow w.heap.size 3 1 wv T.length (T.map fun _ => .int .i64 1) := by
  obtain ⟨fv, lv, sc, hbox, hF, hL, hsc⟩ := D.box
  obtain ⟨c0, c1, c2, c3⟩ := cells_disk hbox
  obtain ⟨cl, hmap, _⟩ := D.map
  obtain ⟨i0, hi, hz0, hz1, hz2⟩ := info_parts info_int
  have hrg := run_range_map (P := Try.prog) w 66 3 58 bm _ cl Try.underlying66 hmap
  have HD := Lib.hid D; have HM := Lib.hid hmap; have HT := Lib.hid hT
  clear D hmap hbox hF hL hT
  go_enter Try.func33, Try.ntmps33
  go_wp2_with fail
  go_loopg [2, 4] (toCome T []) (fun k v _ wr => WtR w bm cl T k v wr)
  case atStart =>
    have hl := HD.out.lt
    obtain ⟨cl', m1, m2, m3⟩ := HD.out.map
    rw [HM.out] at m1
    simp only [Option.some.injEq, Obj.map.injEq] at m1
    obtain ⟨_, rfl⟩ := m1
    exact ⟨[], ⟨⟨by simpa using heap_alloc_new w _, ((Fr.refl [] w).alloc _).heap (by simp) HM.out, m2, m3, by simp, by omega⟩, by simpa using World.ownsRow_nil _ _ _ _, (Below.refl _ _).alloc (Nat.le_refl _) _, by simp, by simp⟩, rfl⟩
  case round =>
    obtain ⟨L, hI, hk⟩ := hrel
    have HI := Lib.hid hI
    have HK := Lib.hid hk
    clear hI hk
    go_wp2_with (refine wpList_next_ents rfl (.tmp 14) rfl rfl HI.out.rng ?c1 ?c2)
    case c1 =>
      intro hall
      have HA := Lib.hid hall
      clear hall hrg
      go_wp2_with fail
      have ho : wr.ownsRow (w.heap.size + 1) 3 1 u2 (L.map fun e => (e.k : Int)).length ((L.map fun e => (e.k : Int)).map (Value.int .i64)) := by
        have := HI.out.own
        rw [List.length_map, List.map_map]; exact this
      refine (sortI_any wr _ _ _ ho (by have := nodup_len HI.out.rng.sub HI.out.nd; have := HT.out; simp; omega)).mono ?_
      rintro e w3 ⟨rfl, hown, hgr⟩
      rw [sorted_of HD.out.keys HI.out.rng.sub HA.out HI.out.nd, List.length_map, len_of HD.out.keys HI.out.rng.sub HA.out HI.out.nd, List.map_map] at hown
      have hb3 : Below w.heap.size w w3 := HI.out.below.grown hgr HI.out.below.size (fun k hk => by have := (World.ownsRow.lt HI.out.own k hk).1; omega)
      obtain ⟨na, nc, rfl, hnr⟩ := (RdV_of_owns hown).open
      rw [List.length_map] at hown
      have HO := Lib.hid hown; have HB := Lib.hid hb3; have HN := Lib.hid hnr
      clear hown hgr ho hb3 hnr
      simp only [List.length_map]
      go_wp2_with fail
      go_loopw [27, 3, 6] (fun i v _ wq => ∃ j : Nat, j ≤ T.length ∧ i = .int .i64 j ∧ WcI w3 wq j v) (fun i _ _ _ => T.length - (intOf i).toNat)
      case atStart => exact ⟨0, by omega, rfl, by simpa using World.ownsRow_nil _ _ _ _, Below.refl _ _⟩
      case round =>
        obtain ⟨j, hj, rfl, hI2⟩ := hrel
        have HJ := Lib.hid hI2
        clear hI2
        by_cases hlt : j < T.length
        · obtain ⟨e, he⟩ : ∃ e, T[j]? = some e := ⟨_, List.getElem?_eq_getElem hlt⟩
          have hmem := List.mem_of_getElem? he
          obtain ⟨b, off, hna, hcell⟩ := HN.out j (.int .i64 (e.k : Int)) (by rw [List.getElem?_map, he]; rfl)
          have d1 : wr.cell? ⟨b, off + j, none⟩ = some (.int .i64 (e.k : Int)) := (HJ.out.below.cell (p := ⟨b, off + j, none⟩) (block_lt_of_cell hcell)).trans hcell
          have hbw : Below w.heap.size w wr := HB.out.trans (HJ.out.below.mono HB.out.size)
          have d3 : wr.cell? ⟨g, 3, none⟩ = some (.map (some bm)) := (hbw.cell (p := ⟨g, 3, none⟩) HD.out.lt.1).trans c3
          have hlk := run_look_some (w := wr) ((hbw.block bm HD.out.lt.2.2).trans HM.out) e hmem HD.out.keys
          obtain ⟨b2, off2, cap2, hsl, _⟩ : ∃ b2 off2 cap2, e.sl = .slice (some ⟨b2, off2, none⟩) 1 cap2 ∧ True := by
            rcases HD.out.ents e hmem with ⟨_, h0⟩ | ⟨b2, off2, cap2, h1, _⟩
            · cases h0
            · exact ⟨b2, off2, cap2, h1, trivial⟩
          obtain ⟨ek, esl, ev, eb⟩ := e
          dsimp only at *
          subst hsl hna
          have HBW := Lib.hid hbw
          have i0' : (0 : Int) ≤ (j : Int) := by omega
          have i1' : (j : Int) < (T.length : Int) := by omega
          have i2' : (T.length : Int) ≤ 4096 := by have := HT.out; omega
          clear hmem he hcell hbw
          go_wp2_with (refine wpList_app rfl (.tmp 31) (.tmp 40) 77 rfl w3.heap.size 3 i0 (.int .i64 0) 8 Try.underlying77 hi hz0 hz1 hz2 rfl _ j (List.replicate j (.int .i64 1)) rfl ?e1 _ [.int .i64 1] rfl (rd_one _ _ _) (by simp [Value.oneCell']) ?e2 (by omega) ?e3 ?_)
          case e1 => exact HJ.out.own.alloc _
          case e2 => have := HT.out; simp; omega
          case e3 => have := HJ.out.below.size; simp; omega
          intro v' w2 hown hgr
          have HX := Lib.hid (HJ.out.step hown hgr)
          clear hown hgr
          go_wp2_with fail
          go_roundw
          case rel => exact ⟨j + 1, by omega, by go_num, HX.out⟩
          case measure => simp [intOf]; omega
        · obtain rfl : j = T.length := by omega
          go_wp2_with fail
          go_ret2
          exact ⟨_, _, rfl, HB.out.trans (HJ.out.below.mono HB.out.size), own_mono (own_keep (S := []) HO.out (Fr.of_below HJ.out.below) (by simp)) (by omega), by simpa [List.map_const'] using own_mono HJ.out.own HB.out.size⟩
    case c2 =>
      intro e w' he hnL hR hF hlt hen
      have HR := Lib.hid hR
      have HF := Lib.hid hF
      have HL := Lib.hid hlt
      clear hR hF hlt hrg
      go_wp2_with (refine wpList_app rfl (.tmp 19) (.tmp 21) 77 rfl (w.heap.size + 1) 3 i0 (.int .i64 0) 8 Try.underlying77 hi hz0 hz1 hz2 rfl _ L.length (L.map fun e => .int .i64 (e.k : Int)) rfl ?d1 _ [.int .i64 (e.k : Int)] rfl (rd_one _ _ _) (by simp [Value.oneCell']) ?d2 (by omega) ?d3 ?_)
      case d1 => exact (own_keep HI.out.own HF.out (by simp)).alloc _
      case d2 =>
        have := nodup_len HI.out.rng.sub HI.out.nd
        have := HT.out
        simp; omega
      case d3 => have := HI.out.more; have := HF.out.size; simp; omega
      intro v' w2 hown hgr
      have HX := Lib.hid (HI.out.step HD.out.lt.2.2 hnL HR.out HF.out hown hgr)
      clear hown hgr
      go_wp2_with fail
      go_roundg (toCome T (L ++ [e]))
      case measure => have := HL.out; have := HK.out; omega
      case rel => exact ⟨_, HX.out, rfl⟩
end Go.Proofs.Ytlkieepfjhiflaa
