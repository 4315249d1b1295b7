/- A number is put behind a cache's row of numbers: the row's block is the elder one, or a new one. -/
import Derived.Test.YtcblfkojkdaepaaGreatCWr
import Derived.Deep.CutBlock
import Derived.Deep.CutRange
namespace Go.Proofs.YtcblfkojkdaepaaGreat
open Go.RowKit Go.ChangeMaps

theorem mem_own {k g a b : Nat} (h : k ∈ (Value.slice (some ⟨g, 0, none⟩) a b).ownBlock.toList) : k = g := by
  simp [Value.ownBlock] at h
  omega
theorem wpList_num1 {w : World} {ops : Array Oper} {rest : List Oper} {o : Oper} {a : Act} {Q : Exit → Act → World → Prop} (hgd : o.guard = none) (s x : Operand)
    (ho : o.op = .call { callee := .builtin .append, args := #[s, x], argTypes := #[48, 48] })
    (rv : Value) (row : List Nat) (n b : Nat) (hs : a.eval s = rv) (hz : RowZ w rv row) (hx : a.eval x = .slice (some ⟨b, 0, none⟩) 1 1) (hb : w.heap[b]? = some (.cells #[.int .i64 (n : Int)] 3 (0, 0))) (hl : row.length ≤ 4096)
    (h : ∀ v' w', RowZ w' v' (row ++ [n]) → w.grownBy w' rv.ownBlock → (∀ k ∈ v'.ownBlock.toList, k ∈ rv.ownBlock.toList ∨ w.heap.size ≤ k) → wpList Tryz.prog ops Q rest (a.put o.dst v') w') : wpList Tryz.prog ops Q (o :: rest) a w := by
  obtain ⟨i0, hi, hz0, hz1, hz2⟩ := info_parts info_int
  have hnews : ∀ (j : Nat) (u : Value), [Value.int .i64 (n : Int)][j]? = some u → w.cell? ((⟨b, 0, none⟩ : Addr).add j) = some u := fun j u hj => by
    rw [show (⟨b, 0, none⟩ : Addr).add j = ⟨b, j, none⟩ by unfold Addr.add; split <;> simp_all]
    rw [cell_of_row w b j _ _ _ hb]; simpa using hj
  have h1 : ∀ u ∈ [Value.int .i64 (n : Int)], u.oneCell' = true := fun u hu => by simp at hu; subst hu; rfl
  obtain ⟨v', w', hr, hown, hg, _⟩ := run_append_own (P := Tryz.prog) w 0 48 o.type 3 i0 (.int .i64 0) 1 8 Tryz.underlying48 hi hz0 hz1 hz2 rfl (by decide) rv row.length _ hz ⟨b, 0, none⟩ 1 1 [.int .i64 (n : Int)] rfl hnews h1 (by simp only [maxLen]; omega) (by omega) (Nat.zero_le _)
  have hk : ∀ k ∈ v'.ownBlock.toList, k ∈ rv.ownBlock.toList ∨ w.heap.size ≤ k := by
    rcases hz.2 with ⟨rfl, h0⟩ | ⟨g, cap, cur, rfl, _, hg, hnc, hcm, hcs, htake⟩
    · have hr2 := run_append_nil (P := Tryz.prog) w 48 o.type 3 i0 (.int .i64 0) Tryz.underlying48 hi hz0 ⟨b, 0, none⟩ 1 1 [.int .i64 (n : Int)] (by rw [hz1]; rfl) hnews (by omega) (by omega) (by rw [hz2]; omega)
      rw [hr] at hr2
      cases hr2
      intro k hk
      simp [Value.ownBlock] at hk
      exact .inr (by omega)
    · by_cases hroom : row.length + 1 ≤ cap
      · have hr2 := run_append_room (P := Tryz.prog) w 48 o.type 3 i0 Tryz.underlying48 hi g row.length cap cur hg ⟨b, 0, none⟩ 1 1 [.int .i64 (n : Int)] (by rw [hz1]; rfl) hnews h1 hroom (by rw [hz1]; simp; omega)
        rw [hr] at hr2
        cases hr2
        intro k hk
        exact .inl (by simpa [Value.ownBlock] using hk)
      · have hcells : ∀ (j : Nat) (u : Value), (row.map fun (k : Nat) => Value.int .i64 (k : Int))[j]? = some u → w.cell? ((⟨g, 0, none⟩ : Addr).add j) = some u := fun j u hj => by
          rw [show (⟨g, 0, none⟩ : Addr).add j = ⟨g, j, none⟩ by unfold Addr.add; split <;> simp_all]
          rw [cell_of_row w g j _ _ _ hg]
          rw [← htake, List.getElem?_take] at hj
          split at hj
          · simpa using hj
          · cases hj
        have hr2 := run_append_grow (P := Tryz.prog) w 48 o.type 3 i0 (.int .i64 0) Tryz.underlying48 hi hz0 ⟨g, 0, none⟩ row.length cap (row.map fun (k : Nat) => Value.int .i64 (k : Int)) (by rw [hz1]; simp) hcells ⟨b, 0, none⟩ 1 1 [.int .i64 (n : Int)] (by rw [hz1]; rfl) hnews (by omega) (by omega) (growslice_fits (by omega) (by rw [hz2]; omega))
        rw [hr] at hr2
        cases hr2
        intro k hk
        simp [Value.ownBlock] at hk
        exact .inr (by omega)
  refine wpList_plain hgd fun K' hK' => ?_
  unfold Oper.wp execOp
  simp only [ho, resolve, invoke, builtin, Sem.run_bind, Sem.run_pure, Result.andThen_ok, List.map_toArray, List.map_cons, List.map_nil, hs, hx, hr]
  exact hK' _ _ (h v' w' (by unfold RowZ; simpa using hown) hg hk)
end Go.Proofs.YtcblfkojkdaepaaGreat
/- The contract of a cache's Read. -/
namespace Go.Proofs.YtcblfkojkdaepaaGreat
open Go.RowKit Go.ChangeMaps

/-- What Read answers: a page of its own; the cache as it was to who reads. -/
def RdOut (ro : List Nat) (A : List Nat) (w w' : World) (c p db cb g bs bm s M most dm : Nat) (F : List Value) (ops : List (Option (Nat × Value))) (df : Nat → Option Value) (pg cur : Nat → List UInt8) (n : Nat) (e : Ending) : Prop :=
  ∃ q cap, e = .returned (.tuple #[.slice (some ⟨q, 0, none⟩) 512 cap, .int .i64 0]) ∧ w.heap.size ≤ q ∧ w'.ownsRow w.heap.size 5 1 (.slice (some ⟨q, 0, none⟩) 512 cap) 512 ((cur n).map vB) ∧ Fr ([c, cb] ++ ro) w w' ∧
    ∃ rv' cm' row' cf', (∀ k ∈ rv'.ownBlock.toList, k ∈ ro ∨ w.heap.size ≤ k) ∧ CSt (q :: A) w' c p db cb g bs bm s M most dm cm' rv' row' F ops df cf' pg cur
theorem own512 {w : World} {base : Nat} {v : Value} {l : List UInt8} (h : w.ownsRow base 5 1 v l.length (l.map vB)) (hl : l.length = 512) : ∃ q cap, v = .slice (some ⟨q, 0, none⟩) 512 cap ∧ base ≤ q ∧ q < w.heap.size ∧ w.ownsRow base 5 1 (.slice (some ⟨q, 0, none⟩) 512 cap) 512 (l.map vB) := by
  rw [hl] at h
  have h2 := h.2
  rcases h2 with ⟨_, h0⟩ | ⟨q, cap, cur, e, hb, hg, _⟩
  · omega
  · subst e
    exact ⟨q, cap, rfl, hb, (Array.getElem?_eq_some_iff.1 hg).1, h⟩
theorem RowZ.form {w : World} {rv : Value} {row : List Nat} (h : RowZ w rv row) : ∃ a d, rv = .slice a row.length d := by
  rcases h.2 with ⟨rfl, h0⟩ | ⟨g, cap, cur, rfl, _⟩
  · exact ⟨none, 0, by rw [h0]⟩
  · exact ⟨_, _, rfl⟩
theorem RowZ.at {w : World} {g cap : Nat} {row : List Nat} (h : RowZ w (.slice (some ⟨g, 0, none⟩) row.length cap) row) (j x : Nat) (hj : row[j]? = some x) : w.cell? ⟨g, j, none⟩ = some (.int .i64 (x : Int)) := by
  rcases h.2 with ⟨h', _⟩ | ⟨g', cap', cur, h', _, hg, _, _, _, htake⟩
  · simp at h'
  · simp only [Value.slice.injEq, Option.some.injEq, Addr.mk.injEq, and_true, true_and] at h'
    obtain ⟨rfl, rfl⟩ := h'
    have hl := (List.getElem?_eq_some_iff.1 hj).1
    rw [cell_of_row w g j cur _ (0, 0) hg]
    have h3 : (cur.toList.take (row.length * 1))[j]? = cur.toList[j]? := by rw [List.getElem?_take, if_pos (by omega)]
    rw [htake, List.getElem?_map, hj] at h3
    rw [← Array.getElem?_toList, ← h3]; rfl
theorem ne_box {w : World} {c p most db cb : Nat} {rv : Value} {cs : Array Value} {t : TypeId} {fr : Nat × Nat} (C : CacheAt w c p most db cb rv) (e : w.heap[c]? = some (.cells cs t fr)) : t ≠ 5 := by
  unfold CacheAt at C
  rw [C] at e
  simp only [Option.some.injEq, Obj.cells.injEq] at e
  obtain ⟨_, rfl, _⟩ := e
  decide
theorem rowB {w : World} {rv : Value} {row : List Nat} {B : Nat} (h : RowZ w rv row) (hB : ∀ k ∈ rv.ownBlock.toList, B ≤ k) : w.ownsRow B 3 1 rv row.length (row.map fun (n : Nat) => Value.int .i64 (n : Int)) := by
  obtain ⟨h1, h2⟩ := h
  refine ⟨h1, h2.imp id ?_⟩
  rintro ⟨g, cap, cur, rfl, _, hr⟩
  exact ⟨g, cap, cur, rfl, hB g (by simp [Value.ownBlock]), hr⟩
theorem MapP.frI {w w' : World} {b m : Nat} {f : Nat → Option Value} {S : List Nat} (h : MapP w b f m) (hf : FrI S w w') (hS : b ∉ S) : MapP w' b f m := by
  obtain ⟨T, cl, hb, h2⟩ := h
  exact ⟨T, cl, hf.map hS hb, h2⟩
theorem CacheAt.row {w : World} {c p most db cb : Nat} {rv : Value} (C : CacheAt w c p most db cb rv) (v : Value) : CacheAt (w.setCell ⟨c, 4, none⟩ v) c p most db cb v := by
  have h := heap_setCell_same w c 4 _ _ v C
  unfold CacheAt
  simpa using h
section
variable {A : List Nat} {w : World} {c p db cb g bs bm s M most dm cm : Nat} {rv : Value} {row : List Nat} {F : List Value} {ops : List (Option (Nat × Value))} {df cf : Nat → Option Value} {pg cur : Nat → List UInt8}
/-- The end: a page is cloned. -/
theorem rd_clone {ro : List Nat} {w8 : World} {rv8 : Value} {row8 : List Nat} {cf8 : Nat → Option Value} {cm8 : Nat} (h : CSt A w8 c p db cb g bs bm s M most dm cm8 rv8 row8 F ops df cf8 pg cur) (f : Fr ([c, cb] ++ ro) w w8) (hob : ∀ k ∈ rv8.ownBlock.toList, k ∈ ro ∨ w.heap.size ≤ k) (n : Nat) (hn : n < M) (v : Value) (hv : Dat A w8 v (cur n)) :
    Calls Tryz.prog 55 #[v] w8 fun e w' => ∃ q cap, e = .returned (.slice (some ⟨q, 0, none⟩) 512 cap) ∧ w.heap.size ≤ q ∧ w'.ownsRow w.heap.size 5 1 (.slice (some ⟨q, 0, none⟩) 512 cap) 512 ((cur n).map vB) ∧ Fr ([c, cb] ++ ro) w w' ∧
      ∃ rv' cm' row' cf', (∀ k ∈ rv'.ownBlock.toList, k ∈ ro ∨ w.heap.size ≤ k) ∧ CSt (q :: A) w' c p db cb g bs bm s M most dm cm' rv' row' F ops df cf' pg cur := by
  have hl := (h.len5 n hn).1
  refine (clone_any w8 v (cur n) hv.rd (by omega)).mono ?_
  rintro e w' ⟨r, rfl, ho, hb⟩
  obtain ⟨q, cap, rfl, h1, h2, h3⟩ := own512 ho hl
  exact ⟨q, cap, rfl, Nat.le_trans f.size h1, own_mono h3 f.size, f.trans (Fr.of_below hb), _, _, _, _, hob, h.more (Fr.of_below hb) h1 h2⟩
set_option maxRecDepth 100000 in
set_option maxHeartbeats 4000000 in
theorem cread_any (h : CSt A w c p db cb g bs bm s M most dm cm rv row F ops df cf pg cur) (n : Nat) (hn : n < M) :
    Calls Tryz.prog 40 #[.pointer (some ⟨c, 0, none⟩), .int .i64 (n : Int)] w fun e w' => RdOut rv.ownBlock.toList A w w' c p db cb g bs bm s M most dm F ops df pg cur n e := by
  obtain ⟨i0, hi, hz0, hz1, hz2⟩ := info_parts info_int
  have HLK := Lib.hid (look_any w h.box h.log h.nilD h.size.1 h.size.2.1 n hn)
  have HH := Lib.hid h
  have hM := h.size
  have h0 := (Fr.drewN (S := []) w)
  have hfu : ∀ k ∈ ([] : List Nat), Far A (cSt c p db cb g bs bm rv) w k := by simp
  clear h
  go_enter Tryz.func40, Tryz.ntmps40
  go_wp2_with fail
  refine HLK.out.mono ?_
  rintro r w1 ⟨rfl, q1, rfl⟩
  clear HLK
  have hlook := (HH.out.fr (h0 q1) hfu).dirty.look n
  have hlook2 := (HH.out.fr (h0 q1) hfu).clean.look n
  have k2 : (w.drewN q1).cell? ⟨c, 2, none⟩ = some (.map (some db)) := (cell_of_row _ c 2 _ _ _ (HH.out.fr (h0 q1) hfu).box).trans rfl
  have k3 : (w.drewN q1).cell? ⟨c, 3, none⟩ = some (.map (some cb)) := (cell_of_row _ c 3 _ _ _ (HH.out.fr (h0 q1) hfu).box).trans rfl
  have k0 : (w.drewN q1).cell? ⟨c, 0, none⟩ = some (.pointer (some ⟨p, 0, none⟩)) := (cell_of_row _ c 0 _ _ _ (HH.out.fr (h0 q1) hfu).box).trans rfl
  have HZ := Lib.hid (HH.out.fr (h0 q1) hfu)
  have HFZ := Lib.hid (h0 q1)
  clear h0 hfu
  generalize w.drewN q1 = W1 at *
  rcases hdf : df n with _ | v0
  · rw [hdf] at hlook
    simp only [Option.getD_none, Option.isSome_none] at hlook
    have HD := Lib.hid hdf
    have HCU := Lib.hid (HZ.out.nd n hdf)
    clear hdf
    go_upto_if 39 with fail
    clear hlook hlook2
    go_cut [9] from 40 to 48 (fun bv wc => Fr [] W1 wc ∧ Dat A wc bv (cur n))
    case first =>
      rename_i K0 hK0 J K1 hRJ hMet
      clear hK0
      refine wp_cond_split rfl (fun hno => ?_) (fun hno => ?_)
      · obtain ⟨v, hv1, hv2⟩ := HZ.out.emp.page n hn
        have HLR := Lib.hid (lread_any W1 HZ.out.log HZ.out.nilD hM.1 hM.2.1 n hn v hv1 (pg n) hv2.rd (HZ.out.len5 n hn).2)
        clear hv1 hv2 hno
        go_wp2_with fail
        refine HLR.out.mono ?_
        rintro e w3 ⟨q, cap, rfl, hq, ho, hb⟩
        have HX := Lib.hid (show Fr [] W1 w3 ∧ Dat A w3 (.slice (some ⟨q, 0, none⟩) 512 cap) (cur n) from ⟨Fr.of_below hb, by rw [HCU.out]; exact dat_own ho HZ.out.avoid⟩)
        clear ho hb hq HLR
        go_wp2_with fail
        go_meet
        exact HX.out
      · obtain ⟨v0, hcf⟩ : ∃ v0, cf n = some v0 := by
          cases h : cf n with
          | none => rw [h] at hno; cases hno
          | some v => exact ⟨v, rfl⟩
        obtain ⟨_, _, hd⟩ := HZ.out.cc n v0 hcf
        have HX := Lib.hid (show Fr [] W1 W1 ∧ Dat A W1 ((cf n).getD (.slice none 0 0)) (cur n) from ⟨Fr.refl _ _, by rw [HCU.out, hcf]; exact hd⟩)
        clear hcf hd hno
        go_wp2_with fail
        go_meet
        exact HX.out
    case rest =>
      obtain ⟨hfc, hdat⟩ := hcut
      have HB := Lib.hid hdat
      have HZC := Lib.hid (HZ.out.fr hfc (by simp))
      have HFC := Lib.hid (HFZ.out.trans hfc)
      obtain ⟨va, vc, rfl, _⟩ := RdN.open hdat
      rw [List.length_map, (HZ.out.len5 n hn).1] at HB ⊢
      have HDR := Lib.hid (drop_any wc HZC.out.box HZC.out.clean HZC.out.rown (by have := HZC.out.rlen; omega) n)
      clear hfc hdat k2 k3 k0 HZ HFZ
      go_wp2_with fail
      refine HDR.out.mono ?_
      rintro e w2 ⟨rfl, rv2, cm2, hob2, C2, K2, Z2, f2⟩
      obtain ⟨rowL, hrowL⟩ : ∃ L, L = row.filter (· != n) := ⟨_, rfl⟩
      rw [← hrowL] at Z2
      have hrl : rowL.length ≤ most := by rw [hrowL]; exact Nat.le_trans (List.length_filter_le _ _) HZC.out.rlen
      have HOB2 := Lib.hid hob2
      have HX2 := Lib.hid (show Fr ([c, cb] ++ rv.ownBlock.toList) wc w2 from f2)
      have FI2 : FrI [c, cb] wc w2 := FrI.of f2 (fun k hk => .inr (by
        rcases List.mem_append.1 hk with hk | hk
        · exact .inl hk
        · obtain ⟨_, cs, e⟩ := HZC.out.rown.lt k hk
          exact .inr (mem_intRows.2 ⟨cs, _, e⟩)))
      obtain ⟨ra, rd, rfl⟩ := Z2.form
      have k4 : w2.cell? ⟨c, 4, none⟩ = some (.slice ra rowL.length rd) := (cell_of_row _ c 4 _ _ _ C2).trans rfl
      have HC2 := Lib.hid C2; have HK2 := Lib.hid K2; have HZ2 := Lib.hid Z2; have HF2 := Lib.hid FI2; have HRL := Lib.hid hrowL
      clear C2 K2 Z2 f2 FI2 HDR hob2 hrowL
      go_wp2_with (refine wpList_num1 rfl (.tmp 56) (.tmp 58) rfl (.slice ra rowL.length rd) rowL n w2.heap.size rfl ?e1 rfl (heap_alloc_new w2 _) ?e2 ?_)
      case e1 => exact HZ2.out.fr ((Fr.refl [] w2).alloc _) (by simp)
      case e2 => omega
      intro v' w4 hown hgr hkk
      have hkk2 : ∀ k ∈ v'.ownBlock.toList, k ∈ rv.ownBlock.toList ∨ w2.heap.size ≤ k := fun k hk => by
        rcases hkk k (by simpa using hk) with h | h
        · exact .inl (by rw [← HOB2.out]; simpa using h)
        · exact .inr (by (try simp at h); omega)
      have HX4 := Lib.hid (show Fr rv.ownBlock.toList w2 w4 from ((Fr.refl _ w2).alloc _).grown hgr (fun k hk => .inl (by rw [← HOB2.out, hk]; simp)))
      have F4 : FrI [] w2 w4 := FrI.of (T := (Value.slice ra rowL.length rd).ownBlock.toList) (((Fr.refl _ w2).alloc _).grown hgr (fun k hk => .inl (by rw [hk]; simp))) (fun k hk => by
        obtain ⟨_, cs, e⟩ := HZ2.out.lt k hk
        exact .inr (.inr (mem_intRows.2 ⟨cs, _, e⟩)))
      have Z4 : RowZ w4 v' (rowL ++ [n]) := hown
      obtain ⟨g4, d4, hv'⟩ : ∃ g4 d4, v' = .slice (some ⟨g4, 0, none⟩) (rowL.length + 1) d4 := by
        rcases hown.2 with ⟨_, h0⟩ | ⟨g4, d4, cur4, e, _⟩
        · simp at h0
        · exact ⟨g4, d4, by rw [e]; simp⟩
      subst hv'
      have HG4 := Lib.hid (show g4 ∈ rv.ownBlock.toList ∨ w2.heap.size ≤ g4 from hkk2 g4 (by simp [Value.ownBlock]))
      have C4 : CacheAt w4 c p most db cb (.slice ra rowL.length rd) := F4.heap (by simp) (by decide) HC2.out
      have hccb : cb ≠ c := fun q => HZC.out.kinds.2.2.1 q.symm
      have K4 := HK2.out.frI F4 (by simp)
      have c4 : w4.cell? ⟨c, 4, none⟩ = some (.slice ra rowL.length rd) := (cell_of_row _ c 4 _ _ _ C4).trans rfl
      have f4 : w4.frozen? ⟨c, 4, none⟩ = false := by have h : w4.heap[c]? = _ := C4; simp [World.frozen?, h]
      have F5 := (Fr.refl [c] w4).setCell (p := ⟨c, 4, none⟩) (.inl (by simp)) (.slice (some ⟨g4, 0, none⟩) (rowL.length + 1) d4)
      have HC5 := Lib.hid (C4.row (.slice (some ⟨g4, 0, none⟩) (rowL.length + 1) d4))
      have hcz : c ∉ (Value.slice (some ⟨g4, 0, none⟩) (rowL.length + 1) d4).ownBlock.toList := fun hm => by
        obtain ⟨_, cs, e⟩ := Z4.lt c hm
        exact ne_ty e C4 (by decide) rfl
      have HZ5 := Lib.hid (Z4.fr F5 (fun k hk => .inr (by simp at hk; subst hk; exact hcz)))
      have K5 := K4.fr F5 (by simpa using hccb)
      obtain ⟨ob, cm6, hput, hK6, _⟩ := K5.put n (.slice va 512 vc)
      have k3 : (w4.setCell ⟨c, 4, none⟩ (.slice (some ⟨g4, 0, none⟩) (rowL.length + 1) d4)).cell? ⟨c, 3, none⟩ = some (.map (some cb)) := (cell_of_row _ c 3 _ _ _ HC5.out).trans rfl
      have F6 := (Fr.refl [cb] (w4.setCell ⟨c, 4, none⟩ (.slice (some ⟨g4, 0, none⟩) (rowL.length + 1) d4))).setBlock (b := cb) (.inl (by simp)) ob
      have HK6 := Lib.hid (hK6 _ (heap_setBlock K5.heapAt))
      have C6 := HC5.out.fr F6 (by simpa using fun q => hccb q.symm)
      have hbz : cb ∉ (Value.slice (some ⟨g4, 0, none⟩) (rowL.length + 1) d4).ownBlock.toList := fun hm => by
        obtain ⟨_, cs, e⟩ := Z4.lt cb hm
        obtain ⟨_, _, e2, _⟩ := K4
        exact ne_map e e2 rfl
      have HZ6 := Lib.hid (HZ5.out.fr F6 (fun k hk => .inr (by simp at hk; subst hk; exact hbz)))
      have HF6 := Lib.hid (show FrI [c, cb] wc (setBlock (w4.setCell ⟨c, 4, none⟩ (.slice (some ⟨g4, 0, none⟩) (rowL.length + 1) d4)) cb ob) from
        ((HF2.out.trans (F4.mono (by simp))).trans (FrI.of F5 (fun k hk => .inr (.inl (by simp at hk; simp [hk]))))).trans (FrI.of F6 (fun k hk => .inr (.inl (by simp at hk; simp [hk])))))
      have HX6 := Lib.hid (show Fr ([c, cb] ++ rv.ownBlock.toList) wc (setBlock (w4.setCell ⟨c, 4, none⟩ (.slice (some ⟨g4, 0, none⟩) (rowL.length + 1) d4)) cb ob) from
        ((HX2.out.trans (HX4.out.mono (fun k hk => .inl (List.mem_append_right _ hk)))).trans (F5.mono (by simp))).trans (F6.mono (by simp)))
      clear hkk hkk2
      have k64 : (setBlock (w4.setCell ⟨c, 4, none⟩ (.slice (some ⟨g4, 0, none⟩) (rowL.length + 1) d4)) cb ob).cell? ⟨c, 4, none⟩ = some (.slice (some ⟨g4, 0, none⟩) (rowL.length + 1) d4) := (cell_of_row _ c 4 _ _ _ C6).trans rfl
      have k61 : (setBlock (w4.setCell ⟨c, 4, none⟩ (.slice (some ⟨g4, 0, none⟩) (rowL.length + 1) d4)) cb ob).cell? ⟨c, 1, none⟩ = some (.int .i64 (most : Int)) := (cell_of_row _ c 1 _ _ _ C6).trans rfl
      have HC6 := Lib.hid C6
      clear Z4 hown hgr F4 C4 hccb K4 F5 hcz K5 hK6 F6 C6 hbz HC5 HZ5 HK2 HZ2 HC2 k4
      go_wp2_with fail
      generalize setBlock (w4.setCell ⟨c, 4, none⟩ (.slice (some ⟨g4, 0, none⟩) (rowL.length + 1) d4)) cb ob = W6 at *
      clear hput k3 c4 f4
      have m0 : (most : Int) ≤ 64 := by omega
      have m1 : (rowL.length : Int) ≤ (most : Int) := by omega
      refine wp_region_quiet_lit (by kernel_rfl) (by kernel_rfl) ?_
      repeat (go_big_quiet_step (fail))
      refine wpQuiet_nil ?_
      intro w' hw'
      obtain ⟨nq, rfl⟩ := hw'
      have FN := Fr.drewN (S := []) W6 nq
      have HC7 := Lib.hid (HC6.out.fr FN (by simp))
      have HK7 := Lib.hid (HK6.out.fr FN (by simp))
      have HZ7 := Lib.hid (HZ6.out.fr FN (by simp))
      have HF7 := Lib.hid (HF6.out.trans (FrI.of (S := [c, cb]) FN (by simp)))
      have HX7 := Lib.hid (HX6.out.trans (FN.mono (by simp)))
      have HXC := Lib.hid (show Fr ([c, cb] ++ rv.ownBlock.toList) w wc from HFC.out.mono (by simp))
      have HS2 := Lib.hid (show w.heap.size ≤ w2.heap.size from Nat.le_trans HFC.out.size HX2.out.size)
      have hslice : (Value.slice (some ⟨g4, 0, none⟩) (rowL.length + 1) d4) = .slice (some ⟨g4, 0, none⟩) (rowL ++ [n]).length d4 := by simp
      have HUP := Lib.hid (show ∀ k v, upd (upd cf n none) n (some (.slice va 512 vc)) k = some v → cf k = some v ∨ (k = n ∧ v = .slice va 512 vc) from fun k v e => by
        unfold upd at e
        by_cases hk : k = n
        · rw [if_pos hk] at e; cases e; exact .inr ⟨hk, rfl⟩
        · rw [if_neg hk, if_neg hk] at e; exact .inl e)
      have hkeepD : ∀ (W8 : World), FrI [c, cb] wc W8 → Dat A W8 (.slice va 512 vc) (cur n) := fun W8 f => dat_kept HB.out (Nat.le_of_eq (HZC.out.len5 n hn).1.symm) f (fun k hk => .inr fun cs t fr e q => by
        rcases List.mem_append.1 hk with hk | hk
        · simp only [List.mem_cons, List.not_mem_nil, or_false] at hk
          rcases hk with rfl | rfl
          · exact absurd q (ne_box HZC.out.box e)
          · obtain ⟨_, _, e2, _⟩ := HZC.out.clean
            rw [e2] at e; cases e
        · obtain ⟨cs', fr', e'⟩ := mem_intRows.1 hk
          rw [e'] at e
          simp only [Option.some.injEq, Obj.cells.injEq] at e
          obtain ⟨_, rfl, _⟩ := e
          exact absurd q (by decide))
      have HKD := Lib.hid hkeepD
      clear hkeepD k64 k61
      by_cases hfull : most < rowL.length + 1
      · obtain ⟨x0, hx0⟩ : ∃ x, (rowL ++ [n])[0]? = some x := ⟨_, List.getElem?_eq_getElem (by simp)⟩
        have hx := RowZ.at (by rw [← hslice]; exact HZ7.out) 0 x0 hx0
        have HDR := Lib.hid (drop_any (W6.drewN nq) HC7.out HK7.out HZ7.out (by simp; omega) x0)
        have k74 : (W6.drewN nq).cell? ⟨c, 4, none⟩ = some (.slice (some ⟨g4, 0, none⟩) (rowL.length + 1) d4) := (cell_of_row _ c 4 _ _ _ HC7.out).trans rfl
        have hgt : (most : Int) < (rowL.length : Int) + 1 := by omega
        have hfl : ((rowL ++ [n]).filter (· != x0)).length ≤ most := by
          have h1 : x0 ∈ rowL ++ [n] := List.mem_of_getElem? hx0
          have h2 : ((rowL ++ [n]).filter (· != x0)).length < (rowL ++ [n]).length := List.length_filter_lt_length_iff_exists.2 ⟨x0, h1, by simp⟩
          rw [List.length_append, List.length_singleton] at h2; omega
        have HFL := Lib.hid hfl
        clear hx0 hfl
        go_wp2_with fail
        refine HDR.out.mono ?_
        rintro e w8 ⟨rfl, rv8, cm8, hob8, C8, K8, Z8, f8⟩
        have HX8 := Lib.hid (show Fr ([c, cb] ++ rv.ownBlock.toList) wc w8 from HX7.out.then f8 (fun k hk => by
          rcases List.mem_append.1 hk with hk | hk
          · exact .inl (List.mem_append_left _ hk)
          · have hk' : k = g4 := mem_own hk
            rw [hk']
            exact HG4.out.imp (fun h => List.mem_append_right _ h) (fun h => Nat.le_trans HX2.out.size h)))
        have HO8 := Lib.hid (show ∀ k ∈ rv8.ownBlock.toList, k ∈ rv.ownBlock.toList ∨ w.heap.size ≤ k from by
          rw [hob8]; intro k hk
          have hk' : k = g4 := mem_own hk
          rw [hk']
          exact HG4.out.imp id (fun h => Nat.le_trans HS2.out h))
        have FI8 : FrI [c, cb] wc w8 := HF7.out.trans (FrI.of f8 (fun k hk => .inr (by
          rcases List.mem_append.1 hk with hk | hk
          · exact .inl hk
          · obtain ⟨_, cs, e⟩ := HZ7.out.lt k hk
            exact .inr (mem_intRows.2 ⟨cs, _, e⟩))))
        have h8 := HZC.out.re FI8 C8 K8 Z8 HFL.out hn HD.out (b := .slice va 512 vc) (by rw [← HCU.out]; exact HKD.out _ FI8) (fun k v e => HUP.out k v (by
          unfold upd at e ⊢
          by_cases hk : k = x0
          · rw [if_pos hk] at e; cases e
          · rw [if_neg hk] at e; exact e))
        have HCL := Lib.hid (rd_clone h8 (HXC.out.trans HX8.out) HO8.out n hn (.slice va 512 vc) (HKD.out _ FI8))
        clear HDR hob8 C8 K8 Z8 f8 FI8 h8 k74 hx
        go_wp2_with fail
        refine HCL.out.mono ?_
        rintro e w3 ⟨q, cap, rfl, h1, h2, h3, h4⟩
        have HE := Lib.hid (show RdOut rv.ownBlock.toList A w w3 c p db cb g bs bm s M most dm F ops df pg cur n (.returned (.tuple #[.slice (some ⟨q, 0, none⟩) 512 cap, .int .i64 0])) from ⟨q, cap, rfl, h1, h2, h3, h4⟩)
        clear h1 h2 h3 h4 HCL
        go_wp2_with fail
        go_ret2
        exact HE.out
      · have hgt : ¬ (most : Int) < (rowL.length : Int) + 1 := by omega
        have h8 := HZC.out.re HF7.out HC7.out HK7.out HZ7.out (by simp; omega) hn HD.out (b := .slice va 512 vc) (by rw [← HCU.out]; exact HKD.out _ HF7.out) HUP.out
        have HCL := Lib.hid (rd_clone h8 (HXC.out.trans HX7.out) (show ∀ k ∈ (Value.slice (some ⟨g4, 0, none⟩) (rowL.length + 1) d4).ownBlock.toList, k ∈ rv.ownBlock.toList ∨ w.heap.size ≤ k from fun k hk => by
          have hk' : k = g4 := mem_own hk
          rw [hk']
          exact HG4.out.imp id (fun h => Nat.le_trans HS2.out h)) n hn (.slice va 512 vc) (HKD.out _ HF7.out))
        clear h8
        go_wp2_with fail
        refine HCL.out.mono ?_
        rintro e w3 ⟨q, cap, rfl, h1, h2, h3, h4⟩
        have HE := Lib.hid (show RdOut rv.ownBlock.toList A w w3 c p db cb g bs bm s M most dm F ops df pg cur n (.returned (.tuple #[.slice (some ⟨q, 0, none⟩) 512 cap, .int .i64 0])) from ⟨q, cap, rfl, h1, h2, h3, h4⟩)
        clear h1 h2 h3 h4 HCL
        go_wp2_with fail
        go_ret2
        exact HE.out
  · rw [hdf] at hlook
    simp only [Option.getD_some, Option.isSome_some] at hlook
    obtain ⟨_, hd0⟩ := HZ.out.dd n v0 hdf
    have HCL := Lib.hid (rd_clone (w := w) (ro := rv.ownBlock.toList) HZ.out (HFZ.out.mono (by simp)) (fun k hk => .inl hk) n hn v0 hd0)
    obtain ⟨va, vc, rfl, _⟩ := RdN.open hd0
    rw [List.length_map] at HCL hlook
    clear hd0 hlook2 k3 k0
    go_wp2_with fail
    refine HCL.out.mono ?_
    rintro e w3 ⟨q, cap, rfl, h1, h2, h3, h4⟩
    have HE := Lib.hid (show RdOut rv.ownBlock.toList A w w3 c p db cb g bs bm s M most dm F ops df pg cur n (.returned (.tuple #[.slice (some ⟨q, 0, none⟩) 512 cap, .int .i64 0])) from ⟨q, cap, rfl, h1, h2, h3, h4⟩)
    clear h1 h2 h3 h4 HCL
    go_wp2_with fail
    go_ret2
    exact HE.out
end
end Go.Proofs.YtcblfkojkdaepaaGreat
