/- The contract of TopTorn: at whatever text, number, and choice. -/
import Derived.Test.YtlkieepfjhiflaaTopSums
import Derived.Test.YtlkieepfjhiflaaCrashed
import Derived.Test.YtlkieepfjhiflaaText
import Derived.Test.YtlkieepfjhiflaaLen
namespace Go.Proofs.Ytlkieepfjhiflaa
open Go.RowKit Go.ChangeMaps

def secB (B : List UInt8) (i : Nat) : List UInt8 := (B.drop (512 * i)).take 512
theorem secB_len {B : List UInt8} (hB : B.length = 3584) {i : Nat} (hi : i < 7) : (secB B i).length = 512 := by
  unfold secB; rw [List.length_take, List.length_drop]; omega
theorem play_writes (F : List Value) (L : List (Nat × Value)) : play F (L.map some) = (F, L) := by
  suffices h : ∀ (m : List (Nat × Value)), (L.map some).foldl stepP (F, m) = (F, m ++ L) by
    have := h []
    simpa [play] using this
  induction L with
  | nil => intro m; simp
  | cons p L ih =>
    intro m
    rw [List.map_cons, List.foldl_cons]
    show (L.map some).foldl stepP (F, m ++ [p]) = _
    rw [ih]; simp
/-- A part of a row of bytes, read. -/
theorem row_part {w : World} {b N : Nat} {B : List UInt8} (h : w.heap[b]? = some (.cells (B.map vB).toArray 5 (0, 0))) (hB : B.length = N) (o n c : Nat) (ho : o + n ≤ N) (hc : n ≤ c) : RdB w (.slice (some ⟨b, o, none⟩) n c) ((B.drop o).take n) := by
  have hl : ((B.drop o).take n).length = n := by rw [List.length_take, List.length_drop]; omega
  refine .inr ⟨⟨b, o, none⟩, c, by rw [List.length_map, hl], by rw [List.length_map, hl]; exact hc, fun j u hj => ⟨b, o, rfl, ?_⟩⟩
  rw [cell_of_row w b (o + j) _ _ _ h, List.getElem?_toArray]
  rw [List.map_take, List.getElem?_take] at hj
  split at hj
  · rw [List.map_drop, List.getElem?_drop] at hj
    exact hj
  · cases hj
theorem sec_read {w : World} {b : Nat} {B : List UInt8} (h : w.heap[b]? = some (.cells (B.map vB).toArray 5 (0, 0))) (hB : B.length = 3584) (i : Nat) (hi : i < 7) :
    RdB w (.slice (some ⟨b, i * 512, none⟩) ((i + 1) * 512 - i * 512) (3584 - i * 512)) (secB B i) := by
  have e : (i + 1) * 512 - i * 512 = 512 := by omega
  rw [e]
  unfold secB
  rw [Nat.mul_comm 512 i]
  exact row_part h hB (i * 512) 512 _ (by omega) (by omega)
/-- While the text is written: L so far. -/
structure TnI (w1 wr : World) (g bs bm ba : Nat) (F : List Value) (B : List UInt8) (L : List (Nat × Value)) : Prop where
  each : ∀ i p, L[i]? = some p → p.1 = i ∧ Dat [g, bs, bm] wr p.2 (secB B i) ∧ ∃ a n c, p.2 = .slice a n c
  disk : ∃ T, DiskAt wr g bs bm F ((L.map some).map opV) F T ∧ kvs T = L
  row : wr.heap[ba]? = some (.cells (B.map vB).toArray 5 (0, 0))
  zero : ∀ v ∈ F, Dat [g, bs, bm] wr v zBytes
  fr : Fr [g, bs, bm] w1 wr
theorem TnI.step {w1 wr w2 : World} {g bs bm ba : Nat} {F : List Value} {B : List UInt8} {L : List (Nat × Value)} (I : TnI w1 wr g bs bm ba F B L) (hba : ba ∉ [g, bs, bm]) {T : List Ent} (hkv : kvs T = L) (hf : Fr [g, bs, bm] wr w2) {e0 : Ent} (hk : e0.k = L.length) (hd : Dat [g, bs, bm] w2 e0.v (secB B L.length))
    (D : DiskAt w2 g bs bm F ((L.map some).map opV ++ [wOp L.length e0.v]) F (T ++ [e0])) : TnI w1 w2 g bs bm ba F B (L ++ [(e0.k, e0.v)]) := by
  refine ⟨fun i p hp => ?_, ⟨T ++ [e0], ?_, ?_⟩, hf.heap hba I.row, fun v hv => RdN.fr (I.zero v hv) hf (fun x hx => .inl hx), I.fr.trans hf⟩
  · rw [List.getElem?_append] at hp
    split at hp
    · obtain ⟨h1, h2, h3⟩ := I.each i p hp
      exact ⟨h1, RdN.fr h2 hf (fun x hx => .inl hx), h3⟩
    · rw [List.getElem?_singleton] at hp
      split at hp
      · simp only [Option.some.injEq] at hp
        subst hp
        have : i = L.length := by omega
        subst this
        exact ⟨hk, hd, D.oneE e0 (by simp)⟩
      · cases hp
  · have e : ((L ++ [(e0.k, e0.v)]).map some).map opV = (L.map some).map opV ++ [wOp L.length e0.v] := by
      simp [opV, hk]
    rw [e]; exact D
  · unfold kvs at hkv ⊢
    rw [List.map_append, hkv]; rfl
theorem TnI.keys {w1 wr : World} {g bs bm ba : Nat} {F : List Value} {B : List UInt8} {L : List (Nat × Value)} (I : TnI w1 wr g bs bm ba F B L) {T : List Ent} (hkv : kvs T = L) : ∀ e ∈ T, e.k < L.length := fun e he => by
  have hm : (e.k, e.v) ∈ L := by rw [← hkv]; exact List.mem_map.2 ⟨e, he, rfl⟩
  obtain ⟨i, hi, hp⟩ := List.mem_iff_getElem.1 hm
  have := (I.each i (e.k, e.v) (by rw [List.getElem?_eq_getElem hi, hp])).1
  simp at this; omega
theorem TnI.playable {w1 wr : World} {g bs bm ba : Nat} {F : List Value} {B : List UInt8} {L : List (Nat × Value)} (I : TnI w1 wr g bs bm ba F B L) (hF : L.length ≤ F.length) : Playable F (L.map some) := fun j n v hj => by
  rw [List.getElem?_map] at hj
  obtain ⟨p, hp, he⟩ := Option.map_eq_some_iff.1 hj
  simp only [Option.some.injEq] at he
  subst he
  have hjl := (List.getElem?_eq_some_iff.1 hp).1
  obtain ⟨h1, h2, h3⟩ := I.each j (n, v) hp
  simp only at h1 h2 h3
  subst h1
  refine ⟨by omega, fun q hq => ?_, h3⟩
  rw [← List.map_take, play_writes] at hq
  replace hq : q ∈ L.take n := hq
  obtain ⟨i, hi, rfl⟩ := List.mem_iff_getElem.1 hq
  rw [List.length_take] at hi
  have := (I.each i (L.take n)[i] (by rw [List.getElem_take, List.getElem?_eq_getElem])).1
  omega
theorem IsHF.fr {w w' : World} {B b : Nat} {all : List UInt8} {S : List Nat} (h : IsHF w B b all) (hf : Fr S w w') (hb : b ∉ S) (hS : ∀ x ∈ S, x < B ∨ w.heap.size ≤ x) : IsHF w' B b all := by
  obtain ⟨rest, h1, h2, h3⟩ := h
  refine ⟨rest, hf.heap hb h1, ?_, h3⟩
  rcases h2 with h2 | ⟨ad, cap, hv, hle, hc⟩
  · exact .inl h2
  · refine .inr ⟨ad, cap, hv, hle, fun j u hj => ?_⟩
    obtain ⟨b', off, ha, hcell⟩ := hc j u hj
    have hpos : ((restOf all).map vB).length ≠ 0 := by
      have := (List.getElem?_eq_some_iff.1 hj).1
      omega
    have hge := h3 ad _ cap hv hpos
    subst ha
    refine ⟨b', off, rfl, hf.cell (p := ⟨b', off + j, none⟩) (fun hm => ?_) hcell⟩
    have := block_lt_of_cell hcell
    rcases hS b' hm with h | h
    · simp at hge; omega
    · simp at this; omega
/-- While the sectors are read again: G so far. -/
structure TrI (w5 wq : World) (G : List UInt8) (v : Value) : Prop where
  own : wq.ownsRow (w5.heap.size + 1) 5 1 v G.length (G.map vB)
  hash : ∃ R, IsHF wq R w5.heap.size G ∧ ∀ q, v.ownBlock = some q → q < R
  fr : Fr [] w5 wq
  size : w5.heap.size + 1 ≤ wq.heap.size
theorem TrI.start (w5 : World) : TrI w5 (w5.alloc (.cells (hCells s0 (.slice none 0 0) 0) 86)) [] (.slice none 0 0) :=
  ⟨by simpa using World.ownsRow_nil _ _ _ _, ⟨0, ⟨.slice none 0 0, heap_alloc_new w5 _, .inl ⟨rfl, rfl⟩, fun ad n c h => by cases h⟩, fun q hq => by cases hq⟩, (Fr.refl _ _).alloc _, by simp⟩
theorem fr_own {w w' : World} {B n : Nat} {v : Value} {e : TypeId} {xs : List Value} (h : w.ownsRow B e 1 v n xs) (hg : w.grownBy w' v.ownBlock) : Fr v.ownBlock.toList w w' ∧ ∀ k ∈ v.ownBlock.toList, B ≤ k ∧ k < w.heap.size :=
  ⟨(Fr.refl _ w).grown hg (fun k hk => .inl (by simp [hk])), fun k hk => World.ownsRow.lt h k (by simpa using hk)⟩
/-- Behind the append: the hasher is as it was. -/
theorem TrI.hashA {w5 wq wt wA : World} {G : List UInt8} {v : Value} (I : TrI w5 wq G v) (hb : Below wq.heap.size wq wt) (hgr : wt.grownBy wA v.ownBlock) : IsH wA w5.heap.size G := by
  obtain ⟨R, hR, hq⟩ := I.hash
  have hk := I.own
  have h1 := hR.fr (Fr.of_below (S := []) hb) (by simp) (by simp)
  have hF : Fr v.ownBlock.toList wt wA := (Fr.refl _ wt).grown hgr (fun k hk => .inl (by simp [hk]))
  exact (h1.fr hF (fun hm => by have := (World.ownsRow.lt I.own w5.heap.size (by simpa using hm)).1; omega) (fun x hx => .inl (hq x (by simpa using hx)))).isH
theorem TrI.step {w5 wq wt wA wB : World} {G X : List UInt8} {v v' : Value} (I : TrI w5 wq G v) (hb : Below wq.heap.size wq wt) (hgr : wt.grownBy wA v.ownBlock) (hown : wA.ownsRow (w5.heap.size + 1) 5 1 v' (G ++ X).length ((G ++ X).map vB))
    (hh : IsHF wB wA.heap.size w5.heap.size (G ++ X)) (hg : wA.grownBy wB (some w5.heap.size)) : TrI w5 wB (G ++ X) v' := by
  have hF : Fr v.ownBlock.toList wt wA := (Fr.refl _ wt).grown hgr (fun k hk => .inl (by simp [hk]))
  have hF2 : Fr [w5.heap.size] wA wB := (Fr.refl _ wA).grown hg (fun k hk => .inl (by simpa using hk.symm))
  have hs1 := hb.size
  have hs2 := hF.size
  have hs3 := hF2.size
  have hs := I.size
  refine ⟨own_keep hown hF2 (by simp), ⟨_, hh, fun q hq => (World.ownsRow.lt hown q hq).2⟩, ?_, by omega⟩
  have h1 : Fr [] w5 wt := I.fr.trans (Fr.of_below hb)
  have h2 : Fr [] w5 wA := h1.then hF (fun x hx => .inr (by have := (World.ownsRow.lt I.own x (by simpa using hx)).1; omega))
  exact h2.then hF2 (fun x hx => .inr (by simp at hx; omega))
theorem own_rd {w wA : World} {B : Nat} {x v : Value} {X : List UInt8} (h : w.ownsRow B 5 1 x X.length (X.map vB)) (hgr : w.grownBy wA v.ownBlock) (hv : ∀ q, v.ownBlock = some q → q < B) : RdB wA x X := by
  have hF : Fr v.ownBlock.toList w wA := (Fr.refl _ w).grown hgr (fun k hk => .inl (by simp [hk]))
  exact RdV_of_owns (own_keep h hF (fun k hk => .inl (hv k (by simpa using hk))))
/-- Each sector behind the crash: the text's, or noughts. -/
def SecOk (w5 : World) (S : List Value) (B : List UInt8) (k i : Nat) : Prop := ∃ (v : Value) (X : List UInt8), S[i]? = some v ∧ RdB w5 v X ∧ X.length = 512 ∧ (X = secB B i ∨ X = zBytes) ∧ (k ≤ i → X = zBytes)
theorem sec_ok {w1 wr w5 : World} {g bs bm ba k : Nat} {F S : List Value} {B : List UInt8} {L : List (Nat × Value)} (I : TnI w1 wr g bs bm ba F B L) (hL : L.length = 7) (hF : F.length = 8) (hB : B.length = 3584) (hc : Crashed (F, L.take k).1 (F, L.take k).2 S) (hb : Below wr.heap.size wr w5) : ∀ i, i < 7 → SecOk w5 S B k i := by
  intro i hi
  rcases hc.2 i with h | ⟨v, hm, h⟩
  · have hF7 : i < F.length := by omega
    have hz := I.zero F[i] (List.getElem_mem hF7)
    exact ⟨F[i], zBytes, h.trans (List.getElem?_eq_getElem hF7), RdV.below (RdN.rd hz) hb, zBytes_len, .inr rfl, fun _ => rfl⟩
  · replace hm : (i, v) ∈ L.take k := hm
    obtain ⟨j, hj, hp⟩ := List.mem_iff_getElem.1 hm
    rw [List.length_take] at hj
    rw [List.getElem_take] at hp
    obtain ⟨h1, h2, _⟩ := I.each j (i, v) (by rw [List.getElem?_eq_getElem (by omega), hp])
    simp only at h1 h2
    subst h1
    exact ⟨v, secB B i, h, RdV.below (RdN.rd h2) hb, secB_len hB hi, .inl rfl, fun hk => by omega⟩
set_option maxRecDepth 100000 in
set_option maxHeartbeats 16000000 in
theorem topTorn_any (w : World) (vb vc : Value) (lb lc : List UInt8) (hb : RdB w vb lb) (hc : RdB w vc lc) (n : Nat) (hn : n < 256) :
    Calls Try.prog 4 #[vb, .int .u8 (n : Int), vc] w fun e w' => e = .returned (.bool true) ∧ Below w.heap.size w w' := by
  have HBB := Lib.hid hb; have HCC := Lib.hid hc
  obtain ⟨ba, bc, rfl, _⟩ := RdB.open hb
  obtain ⟨ca, cc, rfl, _⟩ := RdB.open hc
  clear hb hc
  by_cases hlen : 3584 < lb.length
  · have hl : (3584 : Int) < (lb.length : Int) := by omega
    go_enter Try.func4, Try.ntmps4
    go_wp2_with fail
    refine (new_disk _ 8 (by omega) (by omega)).mono ?_
    rintro e w1 ⟨g, bs, bm, F, rfl, D1, hF, hdat, hb1, h1, h2, h3⟩
    have HB1 := Lib.hid hb1
    clear D1 hF hdat hb1
    go_wp2_with fail
    go_ret
    exact ⟨rfl, HB1.out⟩
  · have hl : ¬ ((3584 : Int) < (lb.length : Int)) := by omega
    have hmk : ∀ w : World, (Instr.makeSlice 22 (.int .i64 3584) (.int .i64 3584)).run Try.prog w = .ok (.slice (some ⟨w.heap.size, 0, none⟩) 3584 3584) (w.alloc (.cells (zRowN 3584) 5)) := fun w => run_makeB w 3584 (by omega)
    go_enter Try.func4, Try.ntmps4
    go_wp2_with fail
    refine (new_disk _ 8 (by omega) (by omega)).mono ?_
    rintro e w1 ⟨g, bs, bm, F, rfl, D1, hF, hdat, hb1, h1, h2, h3⟩
    have HD1 := Lib.hid D1; have HF := Lib.hid hF; have HDT := Lib.hid hdat; have HB1 := Lib.hid hb1
    clear D1 hF hdat hb1
    go_wp2_with (refine wpList_copyB rfl (.tmp 31) (.tmp 32) rfl w1.heap.size 3584 _ lb rfl rfl (heap_alloc_new _ _) (RdV.below HBB.out (HB1.out.alloc HB1.out.size _)) ?_)
    intro w3 kx hx3 hf3
    have HB1b := Lib.hid (hf3.below (B := w1.heap.size) (by simp) (by simp))
    have hF3 : Fr [] w1 w3 := ((Fr.refl [] w1).alloc _).then hf3 (fun x hx => .inr (by simp at hx; omega))
    have hl1 := HD1.out.lt
    have HI0 := Lib.hid (show TnI w3 w3 g bs bm w1.heap.size F (padB 3584 lb) [] from ⟨fun i p hp => by simp at hp, ⟨[], HD1.out.fr hF3 (by simp), rfl⟩, hx3, fun v hv => RdN.fr (HDT.out v hv) hF3 (by simp), Fr.refl _ _⟩)
    have HBL := Lib.hid (padB_len 3584 lb)
    have HW3 := Lib.hid (show Below w.heap.size w w3 from HB1.out.trans ((hF3.below (Nat.le_refl _) (by simp)).mono HB1.out.size))
    have hab : w1.heap.size ∉ [g, bs, bm] := by simp; omega
    have HAB := Lib.hid hab
    generalize padB 3584 lb = B at *
    generalize w1.heap.size = ab at *
    clear hx3 hf3 hF3 HDT HB1 hmk hab HB1b hl1
    go_wp2_with fail
    go_loopw [10] (fun i wq => ∃ L : List (Nat × Value), i = .int .i64 (L.length : Int) ∧ L.length ≤ 7 ∧ TnI w3 wq g bs bm ab F B L) (fun i _ => 7 - (intOf i).toNat)
    case atStart => exact ⟨[], rfl, by simp, HI0.out⟩
    case round =>
      obtain ⟨L, rfl, hL7, hI⟩ := hrel
      have HI := Lib.hid hI
      clear hI
      by_cases hlt : L.length < 7
      · have j0 : (0 : Int) ≤ (L.length : Int) := by omega
        have j1 : (L.length : Int) < 7 := by omega
        obtain ⟨T, DT, hkv⟩ := HI.out.disk
        have HDT := Lib.hid DT; have HKV := Lib.hid hkv
        clear DT hkv
        go_wp2_with fail
        refine (dwrite_any _ HDT.out (by have := HF.out; omega) (by simp; omega) L.length (by have := HF.out; omega) (HI.out.keys HKV.out) _ (secB B L.length) (sec_read HI.out.row HBL.out L.length hlt) (secB_len HBL.out hlt)).mono ?_
        rintro e w4 ⟨rfl, hf4, e0, hk0, hd0, D4⟩
        have HX := Lib.hid (HI.out.step HAB.out HKV.out hf4 hk0 hd0 D4)
        clear hf4 hk0 hd0 D4
        go_wp2_with fail
        go_roundw
        case rel => exact ⟨_, by simp, by simp; omega, HX.out⟩
        case measure => simp [intOf]; omega
      · have hL : L.length = 7 := by omega
        have j1 : ¬ ((L.length : Int) < 7) := by omega
        have HL := Lib.hid hL
        obtain ⟨T, DT, hkv⟩ := HI.out.disk
        have HDT := Lib.hid DT; have HKV := Lib.hid hkv
        have hb5 : Below w.heap.size w wr := HW3.out.trans (HI.out.fr.below HW3.out.size (by intro x hx; simp at hx; omega))
        have HB5 := Lib.hid hb5
        obtain ⟨k, hk, hk7⟩ : ∃ k : Nat, (n : Int) % 8 = (k : Int) ∧ k ≤ 7 := ⟨n % 8, by omega, by omega⟩
        have n0 : (0 : Int) ≤ (n : Int) := by omega
        have n255 : (n : Int) ≤ 255 := by omega
        clear DT hkv hL hb5 hlt
        go_wp2_with fail
        refine (crashed_any _ HDT.out (HI.out.playable (by have := HF.out; have := HL.out; omega)) (by have := HF.out; omega) (by have := HF.out; omega) (by simp; omega) k (by simp; have := HL.out; omega) _ lc (RdV.below HCC.out HB5.out) (by rw [← List.map_take, play_writes]; simp; omega)).mono ?_
        rintro e w5 ⟨gc, bsc, bmc, S, rfl, DC, hcr, hb6, hg1, hg2, hg3⟩
        rw [← List.map_take, play_writes] at hcr
        have HSO := Lib.hid (sec_ok HI.out HL.out HF.out HBL.out hcr hb6)
        have hab5 := (Fr.of_below (S := []) hb6).heap (b := ab) (by simp) HI.out.row
        have HAB5 := Lib.hid hab5
        have HW5 := Lib.hid (show Below w.heap.size w w5 from HB5.out.trans (hb6.mono HB5.out.size))
        have hS8 : S.length = 8 := by rw [hcr.1]; exact HF.out
        have HS8 := Lib.hid hS8
        have HDC := Lib.hid DC
        clear hcr hb6 hab5 DC HDT HKV HB5 hg1 hg2 hg3 hS8
        go_wp2_with fail
        refine (new_any w5).mono ?_
        rintro e w6 ⟨rfl, rfl⟩
        have HT0 := Lib.hid (TrI.start w5)
        generalize w5.alloc (.cells (hCells s0 (.slice none 0 0) 0) 86) = w6 at HT0
        have HIi := Lib.hid (info_parts info_u8)
        obtain ⟨i0, hi, hz0, hz1, hz2⟩ := info_parts info_u8
        go_wp2_with fail
        go_loopw [14, 13, 15, 16] (fun i v _ _ wq => ∃ (j : Nat) (G : List UInt8), i = .int .i64 (j : Int) ∧ j ≤ 7 ∧ G.length = 512 * j ∧ TrI w5 wq G v) (fun i _ _ _ _ => 7 - (intOf i).toNat)
        case atStart => exact ⟨0, [], rfl, by omega, rfl, HT0.out⟩
        case round =>
          obtain ⟨j, G, rfl, hj7, hG, hI⟩ := hrel
          have HI := Lib.hid hI; have HGL := Lib.hid hG
          have hG4 : G.length ≤ 3584 := by omega
          obtain ⟨gva, gvc, rfl⟩ := own_slice hI.own
          clear hI hG
          by_cases hlt : j < 7
          · have j0 : (0 : Int) ≤ (j : Int) := by omega
            have j1' : (j : Int) < 7 := by omega
            obtain ⟨vi, X, hSi, hX, hXl, hXo, hXz⟩ := HSO.out j hlt
            have HX := Lib.hid hX; have HXL := Lib.hid hXl; have HSI := Lib.hid hSi; have HXO := Lib.hid hXo; have HXKZ := Lib.hid hXz
            have hX4 : X.length ≤ 512 := by omega
            clear hSi hX hXl hXo hXz
            go_wp2_with fail
            refine (dread_any _ (HDC.out.fr HI.out.fr (by simp)) (by have := HS8.out; omega) j vi HSI.out (by simp) X (RdV.below HX.out (HI.out.fr.below (Nat.le_refl _) (by simp))) HXL.out).mono ?_
            rintro e w7 ⟨q, qc, rfl, _, hown, hb7⟩
            have HBT := Lib.hid hb7; have HOW := Lib.hid hown
            have HSR := Lib.hid (sec_read (((Fr.of_below (S := []) hb7).heap (b := ab) (by simp) (HI.out.fr.heap (by simp) HAB5.out))) HBL.out j hlt)
            clear hb7 hown
            by_cases hXs : X = secB B j
            · have HXS := Lib.hid hXs
              clear hXs
              by_cases hkj : k ≤ j
              · have HXZ := Lib.hid (HXKZ.out hkj)
                have hkj' : (k : Int) ≤ (j : Int) := by omega
                go_wp2_with fail
                refine (sameT_any _ _ _ X (secB B j) (RdV_of_owns HOW.out) HSR.out).mono ?_
                rintro e w' ⟨rfl, rfl⟩
                rw [show decide (X = (secB B j)) = true from decide_eq_true HXS.out]
                have hm2 := run_makeSec
                go_wp2_with fail
                clear hm2
                have hbt2 : Below wr.heap.size wr (w7.alloc (.cells zRow 5)) := HBT.out.alloc HBT.out.size _
                have how2 := own_keep HOW.out ((Fr.refl [] w7).alloc (.cells zRow 5)) (by simp)
                have hz : RdB (w7.alloc (.cells zRow 5)) (.slice (some ⟨w7.heap.size, 0, none⟩) 512 512) zBytes := RdN.rd (row_dat (S := []) (l := zBytes) (heap_alloc_new w7 (.cells zRow 5)) (by simp) zBytes_len)
                have HBT2 := Lib.hid hbt2; have HOW2 := Lib.hid how2; have HZ := Lib.hid hz
                clear hbt2 how2 hz
                generalize hwz : w7.heap.size = zb at *
                generalize w7.alloc (.cells zRow 5) = w7z at *
                clear hwz HBT HOW
                have HBT := HBT2; have HOW := HOW2
                clear HBT2 HOW2
                refine (sameT_any _ _ _ X zBytes (RdV_of_owns HOW.out) HZ.out).mono ?_
                rintro e w' ⟨rfl, rfl⟩
                rw [show decide (X = zBytes) = true from decide_eq_true HXZ.out]
                have HO7 := Lib.hid (own_keep HI.out.own (Fr.of_below (S := []) HBT.out) (by simp))
                go_wp2_with (refine wpList_app rfl (.tmp 103) (.tmp 104) 22 rfl (w5.heap.size + 1) 5 i0 (.int .u8 0) 1 Try.underlying22 hi hz0 hz1 hz2 rfl _ G.length (G.map vB) rfl HO7.out _ (X.map vB) rfl (RdV_of_owns HOW.out) (vB_one X) (by rw [List.length_map, HXL.out]; omega) (by omega) (by have := HI.out.size; have := HBT.out.size; omega) ?_)
                intro v' wA hown hgr
                have hown2 : wA.ownsRow (w5.heap.size + 1) 5 1 v' (G ++ X).length ((G ++ X).map vB) := by
                  rw [List.length_append, List.map_append]
                  try rw [List.length_map] at hown
                  exact hown
                have HA := Lib.hid (HI.out.hashA HBT.out hgr)
                have HXA := Lib.hid (own_rd (by rw [HXL.out]; exact HOW.out) hgr (fun q hq => (World.ownsRow.lt HI.out.own q hq).2))
                have HO8 := Lib.hid hown2; have HGR := Lib.hid hgr
                obtain ⟨v'a, v'c, rfl⟩ := own_slice hown2
                clear hown hown2 hgr HO7
                go_wp2_with fail
                refine (write_from _ _ _ G X HA.out HXA.out (by rw [HXL.out]; omega)).mono ?_
                rintro e wB ⟨rfl, hh, hg⟩
                have HN := Lib.hid (HI.out.step HBT.out HGR.out HO8.out hh hg)
                clear hh hg
                go_wp2_with fail
                go_roundw
                case rel => exact ⟨j + 1, G ++ X, by go_num, by omega, by rw [List.length_append, HXL.out, HGL.out]; omega, by rw [← List.length_append]; exact HN.out⟩
                case measure => simp [intOf]; omega
              · have hkj' : ¬ ((k : Int) ≤ (j : Int)) := by omega
                go_wp2_with fail
                refine (sameT_any _ _ _ X (secB B j) (RdV_of_owns HOW.out) HSR.out).mono ?_
                rintro e w' ⟨rfl, rfl⟩
                rw [show decide (X = (secB B j)) = true from decide_eq_true HXS.out]
                have HO7 := Lib.hid (own_keep HI.out.own (Fr.of_below (S := []) HBT.out) (by simp))
                go_wp2_with (refine wpList_app rfl (.tmp 103) (.tmp 104) 22 rfl (w5.heap.size + 1) 5 i0 (.int .u8 0) 1 Try.underlying22 hi hz0 hz1 hz2 rfl _ G.length (G.map vB) rfl HO7.out _ (X.map vB) rfl (RdV_of_owns HOW.out) (vB_one X) (by rw [List.length_map, HXL.out]; omega) (by omega) (by have := HI.out.size; have := HBT.out.size; omega) ?_)
                intro v' wA hown hgr
                have hown2 : wA.ownsRow (w5.heap.size + 1) 5 1 v' (G ++ X).length ((G ++ X).map vB) := by
                  rw [List.length_append, List.map_append]
                  try rw [List.length_map] at hown
                  exact hown
                have HA := Lib.hid (HI.out.hashA HBT.out hgr)
                have HXA := Lib.hid (own_rd (by rw [HXL.out]; exact HOW.out) hgr (fun q hq => (World.ownsRow.lt HI.out.own q hq).2))
                have HO8 := Lib.hid hown2; have HGR := Lib.hid hgr
                obtain ⟨v'a, v'c, rfl⟩ := own_slice hown2
                clear hown hown2 hgr HO7
                go_wp2_with fail
                refine (write_from _ _ _ G X HA.out HXA.out (by rw [HXL.out]; omega)).mono ?_
                rintro e wB ⟨rfl, hh, hg⟩
                have HN := Lib.hid (HI.out.step HBT.out HGR.out HO8.out hh hg)
                clear hh hg
                go_wp2_with fail
                go_roundw
                case rel => exact ⟨j + 1, G ++ X, by go_num, by omega, by rw [List.length_append, HXL.out, HGL.out]; omega, by rw [← List.length_append]; exact HN.out⟩
                case measure => simp [intOf]; omega
            · have HXZ := Lib.hid (show X = zBytes from HXO.out.resolve_left hXs)
              have HXS := Lib.hid hXs
              clear hXs
              by_cases hkj : k ≤ j
              · have hkj' : (k : Int) ≤ (j : Int) := by omega
                go_wp2_with fail
                refine (sameT_any _ _ _ X (secB B j) (RdV_of_owns HOW.out) HSR.out).mono ?_
                rintro e w' ⟨rfl, rfl⟩
                rw [show decide (X = (secB B j)) = false from decide_eq_false HXS.out]
                have hm2 := run_makeSec
                go_wp2_with fail
                clear hm2
                have hbt2 : Below wr.heap.size wr (w7.alloc (.cells zRow 5)) := HBT.out.alloc HBT.out.size _
                have how2 := own_keep HOW.out ((Fr.refl [] w7).alloc (.cells zRow 5)) (by simp)
                have hz : RdB (w7.alloc (.cells zRow 5)) (.slice (some ⟨w7.heap.size, 0, none⟩) 512 512) zBytes := RdN.rd (row_dat (S := []) (l := zBytes) (heap_alloc_new w7 (.cells zRow 5)) (by simp) zBytes_len)
                have HBT2 := Lib.hid hbt2; have HOW2 := Lib.hid how2; have HZ := Lib.hid hz
                clear hbt2 how2 hz
                generalize hwz : w7.heap.size = zb at *
                generalize w7.alloc (.cells zRow 5) = w7z at *
                clear hwz HBT HOW
                have HBT := HBT2; have HOW := HOW2
                clear HBT2 HOW2
                refine (sameT_any _ _ _ X zBytes (RdV_of_owns HOW.out) HZ.out).mono ?_
                rintro e w' ⟨rfl, rfl⟩
                rw [show decide (X = zBytes) = true from decide_eq_true HXZ.out]
                have hm2 := run_makeSec
                go_wp2_with fail
                clear hm2
                have hbt2 : Below wr.heap.size wr (w7z.alloc (.cells zRow 5)) := HBT.out.alloc HBT.out.size _
                have how2 := own_keep HOW.out ((Fr.refl [] w7z).alloc (.cells zRow 5)) (by simp)
                have hz : RdB (w7z.alloc (.cells zRow 5)) (.slice (some ⟨w7z.heap.size, 0, none⟩) 512 512) zBytes := RdN.rd (row_dat (S := []) (l := zBytes) (heap_alloc_new w7z (.cells zRow 5)) (by simp) zBytes_len)
                have HBT2 := Lib.hid hbt2; have HOW2 := Lib.hid how2; have HZ := Lib.hid hz
                clear hbt2 how2 hz
                generalize hwz : w7z.heap.size = zb at *
                generalize w7z.alloc (.cells zRow 5) = w7zz at *
                clear hwz HBT HOW
                have HBT := HBT2; have HOW := HOW2
                clear HBT2 HOW2
                refine (sameT_any _ _ _ X zBytes (RdV_of_owns HOW.out) HZ.out).mono ?_
                rintro e w' ⟨rfl, rfl⟩
                rw [show decide (X = zBytes) = true from decide_eq_true HXZ.out]
                have HO7 := Lib.hid (own_keep HI.out.own (Fr.of_below (S := []) HBT.out) (by simp))
                go_wp2_with (refine wpList_app rfl (.tmp 103) (.tmp 104) 22 rfl (w5.heap.size + 1) 5 i0 (.int .u8 0) 1 Try.underlying22 hi hz0 hz1 hz2 rfl _ G.length (G.map vB) rfl HO7.out _ (X.map vB) rfl (RdV_of_owns HOW.out) (vB_one X) (by rw [List.length_map, HXL.out]; omega) (by omega) (by have := HI.out.size; have := HBT.out.size; omega) ?_)
                intro v' wA hown hgr
                have hown2 : wA.ownsRow (w5.heap.size + 1) 5 1 v' (G ++ X).length ((G ++ X).map vB) := by
                  rw [List.length_append, List.map_append]
                  try rw [List.length_map] at hown
                  exact hown
                have HA := Lib.hid (HI.out.hashA HBT.out hgr)
                have HXA := Lib.hid (own_rd (by rw [HXL.out]; exact HOW.out) hgr (fun q hq => (World.ownsRow.lt HI.out.own q hq).2))
                have HO8 := Lib.hid hown2; have HGR := Lib.hid hgr
                obtain ⟨v'a, v'c, rfl⟩ := own_slice hown2
                clear hown hown2 hgr HO7
                go_wp2_with fail
                refine (write_from _ _ _ G X HA.out HXA.out (by rw [HXL.out]; omega)).mono ?_
                rintro e wB ⟨rfl, hh, hg⟩
                have HN := Lib.hid (HI.out.step HBT.out HGR.out HO8.out hh hg)
                clear hh hg
                go_wp2_with fail
                go_roundw
                case rel => exact ⟨j + 1, G ++ X, by go_num, by omega, by rw [List.length_append, HXL.out, HGL.out]; omega, by rw [← List.length_append]; exact HN.out⟩
                case measure => simp [intOf]; omega
              · have hkj' : ¬ ((k : Int) ≤ (j : Int)) := by omega
                go_wp2_with fail
                refine (sameT_any _ _ _ X (secB B j) (RdV_of_owns HOW.out) HSR.out).mono ?_
                rintro e w' ⟨rfl, rfl⟩
                rw [show decide (X = (secB B j)) = false from decide_eq_false HXS.out]
                have hm2 := run_makeSec
                go_wp2_with fail
                clear hm2
                have hbt2 : Below wr.heap.size wr (w7.alloc (.cells zRow 5)) := HBT.out.alloc HBT.out.size _
                have how2 := own_keep HOW.out ((Fr.refl [] w7).alloc (.cells zRow 5)) (by simp)
                have hz : RdB (w7.alloc (.cells zRow 5)) (.slice (some ⟨w7.heap.size, 0, none⟩) 512 512) zBytes := RdN.rd (row_dat (S := []) (l := zBytes) (heap_alloc_new w7 (.cells zRow 5)) (by simp) zBytes_len)
                have HBT2 := Lib.hid hbt2; have HOW2 := Lib.hid how2; have HZ := Lib.hid hz
                clear hbt2 how2 hz
                generalize hwz : w7.heap.size = zb at *
                generalize w7.alloc (.cells zRow 5) = w7z at *
                clear hwz HBT HOW
                have HBT := HBT2; have HOW := HOW2
                clear HBT2 HOW2
                refine (sameT_any _ _ _ X zBytes (RdV_of_owns HOW.out) HZ.out).mono ?_
                rintro e w' ⟨rfl, rfl⟩
                rw [show decide (X = zBytes) = true from decide_eq_true HXZ.out]
                have HO7 := Lib.hid (own_keep HI.out.own (Fr.of_below (S := []) HBT.out) (by simp))
                go_wp2_with (refine wpList_app rfl (.tmp 103) (.tmp 104) 22 rfl (w5.heap.size + 1) 5 i0 (.int .u8 0) 1 Try.underlying22 hi hz0 hz1 hz2 rfl _ G.length (G.map vB) rfl HO7.out _ (X.map vB) rfl (RdV_of_owns HOW.out) (vB_one X) (by rw [List.length_map, HXL.out]; omega) (by omega) (by have := HI.out.size; have := HBT.out.size; omega) ?_)
                intro v' wA hown hgr
                have hown2 : wA.ownsRow (w5.heap.size + 1) 5 1 v' (G ++ X).length ((G ++ X).map vB) := by
                  rw [List.length_append, List.map_append]
                  try rw [List.length_map] at hown
                  exact hown
                have HA := Lib.hid (HI.out.hashA HBT.out hgr)
                have HXA := Lib.hid (own_rd (by rw [HXL.out]; exact HOW.out) hgr (fun q hq => (World.ownsRow.lt HI.out.own q hq).2))
                have HO8 := Lib.hid hown2; have HGR := Lib.hid hgr
                obtain ⟨v'a, v'c, rfl⟩ := own_slice hown2
                clear hown hown2 hgr HO7
                go_wp2_with fail
                refine (write_from _ _ _ G X HA.out HXA.out (by rw [HXL.out]; omega)).mono ?_
                rintro e wB ⟨rfl, hh, hg⟩
                have HN := Lib.hid (HI.out.step HBT.out HGR.out HO8.out hh hg)
                clear hh hg
                go_wp2_with fail
                go_roundw
                case rel => exact ⟨j + 1, G ++ X, by go_num, by omega, by rw [List.length_append, HXL.out, HGL.out]; omega, by rw [← List.length_append]; exact HN.out⟩
                case measure => simp [intOf]; omega
          · have hj : j = 7 := by omega
            have j1' : ¬ ((j : Int) < 7) := by omega
            obtain ⟨R, hR, _⟩ := HI.out.hash
            have HH := Lib.hid hR.isH
            have HRD := Lib.hid (RdV_of_owns HI.out.own)
            have hww : Below w.heap.size w wr := HW5.out.trans ((HI.out.fr.below (Nat.le_refl _) (by simp)).mono HW5.out.size)
            have HWW := Lib.hid hww
            clear hww hR
            go_wp2_with fail
            refine (hsum_any _ _ G HH.out (by omega)).mono ?_
            rintro e w8 ⟨rfl, hb8⟩
            have HRD8 := Lib.hid (RdV.below HRD.out hb8)
            have HH8 := Lib.hid (show IsH w8 w5.heap.size G from by obtain ⟨r, q1, q2⟩ := HH.out; exact ⟨r, (hb8.block _ (Array.getElem?_eq_some_iff.1 q1).1).trans q1, RdV.below q2 hb8⟩)
            have HW8 := Lib.hid (HWW.out.trans (hb8.mono HWW.out.size))
            clear hb8
            go_wp2_with fail
            refine (sum_any _ _ G HRD8.out (by omega)).mono ?_
            rintro e w9 ⟨rfl, hb9⟩
            have HH9 := Lib.hid (show IsH w9 w5.heap.size G from by obtain ⟨r, q1, q2⟩ := HH8.out; exact ⟨r, (hb9.block _ (Array.getElem?_eq_some_iff.1 q1).1).trans q1, RdV.below q2 hb9⟩)
            have HW9 := Lib.hid (HW8.out.trans (hb9.mono HW8.out.size))
            have eqd := sum_eq_self (sha G) (sha_len _)
            clear hb9
            go_wp2_with fail
            refine (len_any _ _ G HH9.out).mono ?_
            rintro e w' ⟨rfl, rfl⟩
            go_wp2_with fail
            go_ret
            exact ⟨rfl, HW9.out⟩
end Go.Proofs.Ytlkieepfjhiflaa
