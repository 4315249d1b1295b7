/- What ops do with sectors, in plain lists. No condition. -/
import Derived.Test.YtcblfkojkdaepaaGreatWf
import Derived.Test.YtcblfkojkdaepaaGreatFlushOn
import Derived.Sort.OwnSortedInts
import Derived.Shelf.Sort.Plain
import Derived.Shelf.Slices.In.SortNone
import Derived.Laws.MakeOwn
namespace Go.Proofs.YtcblfkojkdaepaaGreat
open Go.RowKit Go.ChangeMaps

/-- An op: a flush, or a write. -/
def opV : Option (Nat × Value) → Value
  | none => fOp
  | some (n, v) => wOp n v
def kvs (T : List Ent) : List (Nat × Value) := T.map fun e => (e.k, e.v)
def fluP (S : List Value) (m : List (Nat × Value)) : List Value := S.mapIdx fun i x => match m.find? (fun p => p.1 == i) with | some p => p.2 | none => x
theorem fluP_length (S : List Value) (m : List (Nat × Value)) : (fluP S m).length = S.length := by simp [fluP]
theorem fluP_get (S : List Value) (m : List (Nat × Value)) (i : Nat) (h : i < (fluP S m).length) (h' : i < S.length) : (fluP S m)[i] = (match m.find? (fun p => p.1 == i) with | some p => p.2 | none => S[i]) := by
  simp only [fluP, List.getElem_mapIdx]
theorem flu_kvs (S : List Value) (T : List Ent) : flu S T = fluP S (kvs T) := by
  refine List.ext_getElem (by rw [flu_length, fluP_length]) fun i h1 h2 => ?_
  rw [flu_get S T i h1 (by rw [← flu_length S T]; exact h1), fluP_get S _ i h2 (by rw [← fluP_length S (kvs T)]; exact h2)]
  unfold pick kvs
  rw [List.find?_map]
  cases h : T.find? ((fun p => p.1 == i) ∘ fun e : Ent => (e.k, e.v)) with
  | none =>
    have : T.find? (fun e => e.k == i) = none := h
    rw [this]; rfl
  | some e =>
    have : T.find? (fun e => e.k == i) = some e := h
    rw [this]; rfl
def stepP (st : List Value × List (Nat × Value)) : Option (Nat × Value) → List Value × List (Nat × Value)
  | none => (fluP st.1 st.2, [])
  | some p => (st.1, st.2 ++ [p])
/-- Ops done, one behind the other. -/
def play (F : List Value) (ops : List (Option (Nat × Value))) : List Value × List (Nat × Value) := ops.foldl stepP (F, [])
theorem play_nil (F : List Value) : play F [] = (F, []) := rfl
theorem play_snoc (F : List Value) (ops : List (Option (Nat × Value))) (o : Option (Nat × Value)) : play F (ops ++ [o]) = stepP (play F ops) o := by
  unfold play; rw [List.foldl_append]; rfl
theorem play_take (F : List Value) (ops : List (Option (Nat × Value))) (j : Nat) (o : Option (Nat × Value)) (h : ops[j]? = some o) : play F (ops.take (j + 1)) = stepP (play F (ops.take j)) o := by
  have hj := (List.getElem?_eq_some_iff.1 h).1
  rw [List.take_succ_eq_append_getElem hj, play_snoc]
  rw [List.getElem?_eq_getElem hj] at h
  simp only [Option.some.injEq] at h
  rw [h]
theorem play_length (F : List Value) (ops : List (Option (Nat × Value))) : (play F ops).1.length = F.length := by
  suffices h : ∀ (st : List Value × List (Nat × Value)), (ops.foldl stepP st).1.length = st.1.length from h (F, [])
  induction ops with
  | nil => intro st; rfl
  | cons o ops ih =>
    intro st
    rw [List.foldl_cons, ih]
    cases o with
    | none => exact fluP_length _ _
    | some p => rfl
/-- Ops that a disk of such sectors can be played: each write's number is one of its sectors', and greater than those that wait. -/
def Playable (F : List Value) (ops : List (Option (Nat × Value))) : Prop :=
  ∀ (j n : Nat) (v : Value), ops[j]? = some (some (n, v)) → n < F.length ∧ (∀ p ∈ (play F (ops.take j)).2, p.1 < n) ∧ ∃ a l c, v = .slice a l c
theorem Playable.nil (F : List Value) : Playable F [] := fun j n v h => by simp at h
theorem Playable.snoc_f {F : List Value} {ops : List (Option (Nat × Value))} (h : Playable F ops) : Playable F (ops ++ [none]) := fun j n v hj => by
  rw [List.getElem?_append] at hj
  split at hj
  · rename_i hlt
    rw [List.take_append_of_le_length (by omega)]
    exact h j n v hj
  · rename_i hge
    rw [List.getElem?_singleton] at hj
    split at hj <;> simp at hj
theorem Playable.snoc_w {F : List Value} {ops : List (Option (Nat × Value))} (h : Playable F ops) {n : Nat} {v : Value} (hn : n < F.length) (hk : ∀ p ∈ (play F ops).2, p.1 < n) (hv : ∃ a l c, v = .slice a l c) : Playable F (ops ++ [some (n, v)]) := fun j n' v' hj => by
  rw [List.getElem?_append] at hj
  split at hj
  · rename_i hlt
    rw [List.take_append_of_le_length (by omega)]
    exact h j n' v' hj
  · rename_i hge
    rw [List.getElem?_singleton] at hj
    split at hj
    · simp only [Option.some.injEq, Prod.mk.injEq] at hj
      obtain ⟨rfl, rfl⟩ := hj
      have : j = ops.length := by omega
      subst this
      rw [List.take_left]
      exact ⟨hn, hk, hv⟩
    · cases hj
end Go.Proofs.YtcblfkojkdaepaaGreat
/- The contract of (*Disk).Read, at a sector of which no write waits. -/
namespace Go.Proofs.YtcblfkojkdaepaaGreat
open Go.RowKit Go.ChangeMaps

/-- A safe sector's header. -/
theorem DiskAt.safe {w : World} {g bs bm : Nat} {F O S : List Value} {T : List Ent} (D : DiskAt w g bs bm F O S T) {n : Nat} {v : Value} (h : S[n]? = some v) : w.cell? ⟨bs, n, none⟩ = some v := by
  obtain ⟨cs, r1, r2, r3⟩ := D.row
  rw [cell_of_row w bs n _ _ _ r1]
  rw [← r2, List.getElem?_take] at h
  split at h
  · simpa using h
  · cases h
set_option maxRecDepth 100000 in
set_option maxHeartbeats 4000000 in
theorem readS_any (w : World) {g bs bm : Nat} {F O S : List Value} {T : List Ent} (D : DiskAt w g bs bm F O S T) (_ : S.length ≤ 4096) (n : Nat) (a : Option Addr) (ln c : Nat) (h : S[n]? = some (.slice a ln c)) (hk : ∀ e ∈ T, e.k ≠ n) :
    Calls Tryz.prog 75 #[.pointer (some ⟨g, 2, none⟩), .int .i64 (n : Int)] w fun e w' => e = .returned (.slice a ln c) ∧ w = w' := by
  obtain ⟨fv, lv, sc, hbox, hF, hL, hsc⟩ := D.box
  obtain ⟨c0, c1, c2, c3⟩ := cells_disk hbox
  obtain ⟨cl, hmap, _⟩ := D.map
  have hlk := run_look_none hmap n hk
  have hn : n < S.length := (List.getElem?_eq_some_iff.1 h).1
  have b0 : (0 : Int) ≤ (n : Int) := by omega
  have b1 : (n : Int) < (S.length : Int) := by omega
  have hc := D.safe h
  clear D hk hmap hbox hF hL h
  go_enter Tryz.func75, Tryz.ntmps75
  go_wp2_with fail
  go_ret
  exact ⟨rfl, rfl⟩
set_option maxRecDepth 100000 in
set_option maxHeartbeats 4000000 in
theorem dread_any (w : World) {g bs bm : Nat} {F O S : List Value} {T : List Ent} (D : DiskAt w g bs bm F O S T) (hS : S.length ≤ 4096) (n : Nat) (v : Value) (h : S[n]? = some v) (hk : ∀ e ∈ T, e.k ≠ n) (l : List UInt8) (hv : RdB w v l) (hl : l.length = 512) :
    Calls Tryz.prog 46 #[.pointer (some ⟨g, 0, none⟩), .int .i64 (n : Int)] w fun e w' => ∃ q c, e = .returned (.tuple #[.slice (some ⟨q, 0, none⟩) 512 c, .int .i64 0]) ∧ w.heap.size ≤ q ∧ w'.ownsRow w.heap.size 5 1 (.slice (some ⟨q, 0, none⟩) 512 c) 512 (l.map vB) ∧ Below w.heap.size w w' := by
  obtain ⟨fv, lv, sc, hbox, hF, hL, hsc⟩ := D.box
  obtain ⟨c0, c1, c2, c3⟩ := cells_disk hbox
  obtain ⟨fa, fc, rfl, hfc, _⟩ := hF.open
  have hlen := D.len
  have hn : n < S.length := (List.getElem?_eq_some_iff.1 h).1
  have b0 : (0 : Int) ≤ (n : Int) := by omega
  have b1 : (n : Int) < (F.length : Int) := by omega
  have b2 : n < F.length := by omega
  obtain ⟨va, vc, rfl, _⟩ := RdB.open hv
  have HD := Lib.hid D; have HK := Lib.hid hk; have HV := Lib.hid hv; have HL := Lib.hid hl; have HH := Lib.hid h
  clear D hk hv hbox hF hL hlen hn hl h
  go_enter Tryz.func46, Tryz.ntmps46
  go_wp2_with fail
  refine (readS_any _ HD.out hS n _ _ _ HH.out HK.out).mono ?_
  rintro e w1 ⟨rfl, rfl⟩
  go_wp2_with fail
  refine (clone_any _ _ l HV.out (by have := HL.out; omega)).mono ?_
  rintro e w1 ⟨r, rfl, hown, hb⟩
  rw [HL.out] at hown
  have hsh : ∃ q c, r = .slice (some ⟨q, 0, none⟩) 512 c ∧ w.heap.size ≤ q := by
    rcases hown.2 with ⟨_, h0⟩ | ⟨q, c, _, rfl, hq, _⟩
    · omega
    · exact ⟨q, c, rfl, hq⟩
  obtain ⟨q, c, rfl, hq⟩ := hsh
  have HO := Lib.hid hown; have HB := Lib.hid hb
  clear hown hb
  go_wp2_with fail
  go_ret2
  exact ⟨q, c, rfl, hq, HO.out, HB.out⟩
end Go.Proofs.YtcblfkojkdaepaaGreat
/- What a crash leaves (its word alone). No condition. -/
namespace Go.Proofs.YtcblfkojkdaepaaGreat
open Go.RowKit Go.ChangeMaps

/-- What a crash leaves of safe sectors P while m waits: of each sector the safe one, or the one that waited. -/
def Crashed (P : List Value) (m : List (Nat × Value)) (S : List Value) : Prop := S.length = P.length ∧ ∀ i, S[i]? = P[i]? ∨ ∃ v, (i, v) ∈ m ∧ S[i]? = some v
theorem info_int : (Tryz.prog.info? 3).map (fun i => (i.zero, i.size, i.bytes)) = some (some (.int .i64 0), 1, 8) := by kernel_rfl
theorem rd_one (w : World) (u : Value) (t : TypeId) : RdV (w.alloc (.cells #[u] t)) (.slice (some ⟨w.heap.size, 0, none⟩) 1 1) [u] := by
  refine .inr ⟨⟨w.heap.size, 0, none⟩, 1, rfl, by simp, fun j x hj => ⟨w.heap.size, 0, rfl, ?_⟩⟩
  rw [cell_of_row (w.alloc (.cells #[u] t)) w.heap.size (0 + j) #[u] t (0, 0) (heap_alloc_new w _)]
  simpa using hj
theorem nodup_len : ∀ {L T : List Ent}, (∀ e ∈ L, e ∈ T) → L.Nodup → L.length ≤ T.length
  | [], _, _, _ => by simp
  | a :: L, T, hs, hn => by
    obtain ⟨h1, h2⟩ := List.nodup_cons.1 hn
    obtain ⟨A, B, rfl⟩ := List.append_of_mem (hs a (by simp))
    have := nodup_len (L := L) (T := A ++ B) (fun e he => by
      have := hs e (by simp [he])
      simp only [List.mem_append, List.mem_cons] at this ⊢
      rcases this with h | rfl | h
      · exact .inl h
      · exact absurd he h1
      · exact .inr h) h2
    simp only [List.length_append, List.length_cons] at this ⊢
    omega
theorem Fr.grownBy {r : Nat} {a b : World} (h : Fr [r] a b) : a.grownBy b (some r) := ⟨h.os, h.tape, h.output, h.size, fun k hk hn => h.block k hk (by simpa using fun e => hn (by rw [e]))⟩
theorem own_keep {w w' : World} {B : Nat} {e : TypeId} {v : Value} {n : Nat} {xs : List Value} {S : List Nat} (h : w.ownsRow B e 1 v n xs) (hf : Fr S w w') (hS : ∀ k ∈ S, k < B ∨ w.heap.size ≤ k) : w'.ownsRow B e 1 v n xs := by
  obtain ⟨h1, h2⟩ := h
  refine ⟨h1, ?_⟩
  rcases h2 with h2 | ⟨g, cap, cur, hv, hb, hg, r⟩
  · exact .inl h2
  · exact .inr ⟨g, cap, cur, hv, hb, hf.heap (fun hm => by have := hS g hm; have := (Array.getElem?_eq_some_iff.1 hg).1; omega) hg, r⟩
theorem own_mono {w : World} {B B' : Nat} {e : TypeId} {v : Value} {n : Nat} {xs : List Value} (h : w.ownsRow B e 1 v n xs) (hB : B' ≤ B) : w.ownsRow B' e 1 v n xs := by
  obtain ⟨h1, h2⟩ := h
  refine ⟨h1, ?_⟩
  rcases h2 with h2 | ⟨g, cap, cur, hv, hb, r⟩
  · exact .inl h2
  · exact .inr ⟨g, cap, cur, hv, by omega, r⟩
theorem own_slice {w : World} {B n : Nat} {e : TypeId} {v : Value} {xs : List Value} (h : w.ownsRow B e 1 v n xs) : ∃ a c, v = .slice a n c := by
  rcases h.2 with ⟨rfl, rfl⟩ | ⟨q, cap, cur, rfl, _⟩
  · exact ⟨none, 0, rfl⟩
  · exact ⟨_, _, rfl⟩
theorem kvs_lt {T : List Ent} {m : List (Nat × Value)} {n : Nat} (h : kvs T = m) (hm : ∀ p ∈ m, p.1 < n) : ∀ e ∈ T, e.k < n := fun e he => by
  subst h
  exact hm (e.k, e.v) (List.mem_map.2 ⟨e, he, rfl⟩)
theorem DiskAt.rdS {w : World} {g bs bm : Nat} {F O S : List Value} {T : List Ent} (D : DiskAt w g bs bm F O S T) {sc : Nat} (h : S.length ≤ sc) : RdV w (.slice (some ⟨bs, 0, none⟩) S.length sc) S := by
  refine .inr ⟨⟨bs, 0, none⟩, sc, rfl, h, fun j u hj => ⟨bs, 0, rfl, ?_⟩⟩
  rw [Nat.zero_add]; exact D.safe hj
end Go.Proofs.YtcblfkojkdaepaaGreat
/- The contract of disk.New. -/
namespace Go.Proofs.YtcblfkojkdaepaaGreat
open Go.RowKit Go.ChangeMaps

/-- A sector's row that is 0 everywhere. -/
def zBytes : List UInt8 := List.replicate 512 0
theorem zBytes_len : zBytes.length = 512 := List.length_replicate
def zRow : Array Value := (zBytes.map vB).toArray
theorem zRow_at (j : Nat) : zRow[j]? = (zBytes.map vB)[j]? := by unfold zRow; exact List.getElem?_toArray
def nRow (n : Nat) : Array Value := Array.replicate n (.slice none 0 0)
theorem made_one (x : Value) (n : Nat) : madeCells #[x] n = Array.replicate n x := by
  refine Array.ext (by simp [madeCells]) fun i h1 h2 => ?_
  simp [madeCells, Nat.mod_one]
theorem run_makeRow (w : World) (n : Nat) (hn : n ≤ 4096) : (Instr.makeSlice 51 (.int .i64 (n : Int)) (.int .i64 (n : Int))).run Tryz.prog w = .ok (.slice (some ⟨w.heap.size, 0, none⟩) n n) (w.alloc (.cells (nRow n) 46)) := by
  obtain ⟨i0, hi, hz0, hz1, hz2⟩ := info_parts info_row
  have h := run_make (P := Tryz.prog) w 51 46 i0 (.slice none 0 0) Tryz.underlying51 hi hz0 .i64 .i64 n n (by omega) (by omega) (by rw [hz2]; omega) (by omega)
  rw [h, hz1]
  simp [nRow, Value.cells, made_one]
def zRowN (N : Nat) : Array Value := ((List.replicate N (0 : UInt8)).map vB).toArray
theorem made_zN (N : Nat) : madeCells #[.int .u8 0] (N * 1) = zRowN N := by
  rw [made_one, Nat.mul_one]
  unfold zRowN
  rw [List.map_replicate]
  refine Array.ext' ?_
  rw [Array.toList_replicate]; rfl
theorem run_makeB (w : World) (N : Nat) (h : N ≤ 100000) : (Instr.makeSlice 46 (.int .i64 (N : Int)) (.int .i64 (N : Int))).run Tryz.prog w = .ok (.slice (some ⟨w.heap.size, 0, none⟩) N N) (w.alloc (.cells (zRowN N) 5)) := by
  obtain ⟨i0, hi, hz0, hz1, hz2⟩ := info_parts info_u8
  have h := run_make (P := Tryz.prog) w 46 5 i0 (.int .u8 0) Tryz.underlying46 hi hz0 .i64 .i64 N N (by omega) (by omega) (by rw [hz2]; omega) (by omega)
  rw [h, hz1]
  have e1 : (Value.int IntKind.u8 0).cells = #[.int .u8 0] := rfl
  rw [e1, Int.toNat_natCast, made_zN]
theorem run_makeSec (w : World) : (Instr.makeSlice 46 (.int .i64 512) (.int .i64 512)).run Tryz.prog w = .ok (.slice (some ⟨w.heap.size, 0, none⟩) 512 512) (w.alloc (.cells zRow 5)) := run_makeB w 512 (by omega)
/-- A sector of zeros in a block from B on. -/
def ZS (w : World) (B : Nat) (v : Value) : Prop := ∃ b, v = .slice (some ⟨b, 0, none⟩) 512 512 ∧ B ≤ b ∧ w.heap[b]? = some (.cells zRow 5 (0, 0))
theorem ZS.dat {w : World} {B : Nat} {v : Value} (h : ZS w B v) (S : List Nat) (hS : ∀ k ∈ S, w.heap.size ≤ k) : Dat S w v zBytes := by
  obtain ⟨b, rfl, _, hb⟩ := h
  refine .inr ⟨b, 0, 512, by rw [List.length_map, zBytes_len], by rw [List.length_map, zBytes_len]; omega, fun hm => by have := hS b hm; have := (Array.getElem?_eq_some_iff.1 hb).1; omega, ⟨_, _, hb⟩, fun j u hj => ?_⟩
  rw [cell_of_row w b (0 + j) _ _ _ hb, Nat.zero_add]
  rw [zRow_at]; exact hj
theorem ZS.fr {w w' : World} {B : Nat} {v : Value} {S : List Nat} (h : ZS w B v) (hf : Fr S w w') (hS : ∀ k ∈ S, k < B ∨ w.heap.size ≤ k) : ZS w' B v := by
  obtain ⟨b, rfl, h1, hb⟩ := h
  exact ⟨b, rfl, h1, hf.heap (fun hm => by have := hS b hm; have := (Array.getElem?_eq_some_iff.1 hb).1; omega) hb⟩
/-- While the sectors are made: vs of them. -/
structure NwI (w wr : World) (n : Nat) (vs : List Value) : Prop where
  row : wr.heap[w.heap.size]? = some (.cells (vs ++ List.replicate (n - vs.length) (Value.slice none 0 0)).toArray 46 (0, 0))
  all : ∀ v ∈ vs, ZS wr (w.heap.size + 1) v
  below : Below w.heap.size w wr
  le : vs.length ≤ n
theorem NwI.step {w wr : World} {n : Nat} {vs : List Value} (I : NwI w wr n vs) (h : vs.length < n) :
    NwI w ((wr.alloc (.cells zRow 5)).setCell ⟨w.heap.size, vs.length, none⟩ (.slice (some ⟨wr.heap.size, 0, none⟩) 512 512)) n (vs ++ [.slice (some ⟨wr.heap.size, 0, none⟩) 512 512]) := by
  have hlt := (Array.getElem?_eq_some_iff.1 I.row).1
  have h1 : Fr [] wr (wr.alloc (.cells zRow 5)) := (Fr.refl _ _).alloc _
  have h2 : Fr [w.heap.size] (wr.alloc (.cells zRow 5)) ((wr.alloc (.cells zRow 5)).setCell ⟨w.heap.size, vs.length, none⟩ (.slice (some ⟨wr.heap.size, 0, none⟩) 512 512)) := (Fr.refl _ _).setCell (.inl (by simp)) _
  refine ⟨?_, ?_, (I.below.alloc I.below.size _).setCell (Nat.le_refl _) _, by simp; omega⟩
  · rw [heap_setCell_same _ _ _ _ _ _ (h1.heap (by simp) I.row)]
    congr 2
    refine Array.ext' ?_
    simp only [Array.toList_setIfInBounds, List.length_append, List.length_singleton]
    rw [List.set_append_right _ _ (Nat.le_refl _), Nat.sub_self]
    obtain ⟨m, hm⟩ : ∃ m, n - vs.length = m + 1 := ⟨n - vs.length - 1, by omega⟩
    rw [hm, show n - (vs.length + 1) = m by omega, List.replicate_succ]
    simp
  · intro v hv
    rcases List.mem_append.1 hv with hv | hv
    · exact ((I.all v hv).fr h1 (by simp)).fr h2 (by simp)
    · simp at hv; subst hv
      refine ⟨wr.heap.size, rfl, by omega, h2.heap (by simp; omega) (heap_alloc_new wr _)⟩
set_option maxRecDepth 100000 in
set_option maxHeartbeats 4000000 in
theorem new_disk (w : World) (n : Nat) (h0 : 0 < n) (hn : n ≤ 4096) :
    Calls Tryz.prog 4 #[.int .i64 (n : Int)] w fun e w' => ∃ g bs bm F, e = .returned (.tuple #[.pointer (some ⟨g, 0, none⟩), .int .i64 0]) ∧ DiskAt w' g bs bm F [] F [] ∧ F.length = n ∧ (∀ v ∈ F, Dat [g, bs, bm] w' v zBytes) ∧ Below w.heap.size w w' ∧ w.heap.size ≤ g ∧ w.heap.size ≤ bs ∧ w.heap.size ≤ bm := by
  have hm1 := run_makeRow w n hn
  have hm2 := run_makeSec
  have i1 : (1 : Int) ≤ (n : Int) := by omega
  have i2 : (n : Int) ≤ 4096 := by omega
  go_enter Tryz.func4, Tryz.ntmps4
  go_wp2_with fail
  go_loopw [16, 5] (fun i _ wq => ∃ vs, i = .int .i64 (vs.length : Int) ∧ NwI w wq n vs) (fun i _ _ => n - (intOf i).toNat)
  case atStart => exact ⟨[], rfl, by simpa [nRow] using heap_alloc_new w (.cells (nRow n) 46), by simp, (Below.refl _ _).alloc (Nat.le_refl _) _, by simp⟩
  case round =>
    obtain ⟨vs, rfl, hI⟩ := hrel
    have HI := Lib.hid hI
    have hvn := hI.le
    clear hI hm1
    by_cases hlt : vs.length < n
    · have HX := Lib.hid (HI.out.step hlt)
      have j0 : (0 : Int) ≤ (vs.length : Int) := by omega
      have j1 : (vs.length : Int) < (n : Int) := by omega
      obtain ⟨old, o1, o2⟩ : ∃ old, (wr.alloc (.cells zRow 5)).cell? ⟨w.heap.size, vs.length, none⟩ = some old ∧ (wr.alloc (.cells zRow 5)).frozen? ⟨w.heap.size, vs.length, none⟩ = false := by
        have hr := ((Fr.refl [] wr).alloc (.cells zRow 5)).heap (by simp) HI.out.row
        refine ⟨.slice none 0 0, ?_, frozen_of_row _ _ _ _ _ hr⟩
        · rw [cell_of_row _ _ _ _ _ _ hr]
          rw [List.getElem?_toArray, List.getElem?_append_right (Nat.le_refl _), Nat.sub_self, List.getElem?_replicate, if_pos (by omega)]
      go_wp2_with fail
      go_roundw
      case rel => exact ⟨_, by simp, HX.out⟩
      case measure => simp [intOf]; omega
    · have hvl : vs.length = n := by omega
      have hrow := HI.out.row
      rw [hvl, Nat.sub_self, List.replicate_zero, List.append_nil] at hrow
      have hrd : RdN 46 [] wr (.slice (some ⟨w.heap.size, 0, none⟩) n n) vs := by
        refine .inr ⟨w.heap.size, 0, n, by rw [hvl], by omega, by simp, ⟨_, _, hrow⟩, fun j u hj => ?_⟩
        rw [cell_of_row wr w.heap.size (0 + j) _ _ _ hrow, Nat.zero_add, List.getElem?_toArray]
        exact hj
      have HRD := Lib.hid hrd
      have hlt2 : ¬ ((vs.length : Int) < (n : Int)) := by omega
      have HV := Lib.hid hvl
      clear hrd hrow hvl hlt hvn
      go_wp2_with fail
      refine (begun_any _ _ vs HRD.out (by have := HV.out; omega) (by have := HV.out; omega) (fun u hu => by obtain ⟨b, rfl, _⟩ := HI.out.all u hu; exact ⟨_, _, _, rfl⟩)).mono ?_
      rintro e w5 ⟨g, bs, bm, rfl, hD, hb, h1, h2, h3⟩
      have hsz := HI.out.below.size
      have HH := Lib.hid (show DiskAt w5 g bs bm vs [] vs [] ∧ vs.length = n ∧ (∀ v ∈ vs, Dat [g, bs, bm] w5 v zBytes) ∧ Below w.heap.size w w5 ∧ w.heap.size ≤ g ∧ w.heap.size ≤ bs ∧ w.heap.size ≤ bm from
        ⟨hD, HV.out, fun v hv => RdN.fr ((HI.out.all v hv).dat [g, bs, bm] (by intro k hk; simp at hk; omega)) (Fr.of_below (S := []) hb) (by simp), HI.out.below.trans (hb.mono hsz), by omega, by omega, by omega⟩)
      clear hD hb h1 h2 h3
      go_wp2_with fail
      go_ret2
      exact ⟨g, bs, bm, vs, rfl, HH.out⟩
end Go.Proofs.YtcblfkojkdaepaaGreat
