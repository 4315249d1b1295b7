/- The contract of manifest.Decode, at whatever bytes. -/
import Derived.Test.YtkpcmgacjhjllaaDoorDecLaw
import Derived.Test.YtkpcmgacjhjllaaDoorStep
import Derived.Lib.ConvBytes
import Derived.Laws.ResultCell
import Derived.ScopeJumps
import Derived.WalkMore
import Derived.Deep.RegionHeld3
import Derived.Deep.AppendLies
namespace Go.Proofs.YtkpcmgacjhjllaaDoor
open Go.RowKit

theorem results_man_tmp {fn : Func} {p u : Tmp} (h : fn.results = #[.cell p 24, .tmp u]) (tmps : Array Value) (w : World) (g : Nat) (cs : List Value) (x : Value)
    (hp : tmps.getD p undef = .pointer (some ⟨g, 0, none⟩)) (hg : w.heap[g]? = some (.cells cs.toArray 24 (0, 0))) (hx : tmps.getD u undef = x) (hl : cs.length = 3) :
    (results fn tmps).run Tryd.prog w = .ok (.tuple #[.agg cs.toArray, x]) w := by
  have hi : (Tryd.prog.info? 24).map (·.size) = some cs.length := by rw [hl]; kernel_rfl
  rw [results_cell_tmp h, hp, hx]
  simp [asAddr, run_loadVar_mid w g 0 24 cs _ (row_range hg) Tryd.underlying24 rfl hi]

/-- Decoding under way: the result's box, the words'. -/
structure DecW (w wr : World) (x0 x1 x2 : Value) (o a : ByteArray) : Prop where
  below : Below w.heap.size w wr
  box : wr.heap[w.heap.size]? = some (.cells #[x0, x1, x2] 24 (0, 0))
  words : wr.heap[w.heap.size + 1]? = some (.cells #[.string o, .string a] 50 (0, 0))
theorem dec_start (w : World) : DecW w ((w.alloc (.cells #[.string ⟨#[]⟩, .string ⟨#[]⟩, .slice none 0 0] 24)).alloc (.cells #[.string ⟨#[]⟩, .string ⟨#[]⟩] 50)) (.string ⟨#[]⟩) (.string ⟨#[]⟩) (.slice none 0 0) ⟨#[]⟩ ⟨#[]⟩ := by
  have e : (w.alloc (.cells #[.string ⟨#[]⟩, .string ⟨#[]⟩, .slice none 0 0] 24)).heap.size = w.heap.size + 1 := by simp
  have h := heap_alloc_new (w.alloc (.cells #[.string ⟨#[]⟩, .string ⟨#[]⟩, .slice none 0 0] 24)) (.cells #[.string ⟨#[]⟩, .string ⟨#[]⟩] 50)
  rw [e] at h
  refine ⟨((Below.refl _ _).alloc (Nat.le_refl _) _).alloc (by simp) _, ?_, h⟩
  rw [heap_alloc_old _ _ (by rw [e]; omega)]
  exact heap_alloc_new w _

theorem DecW.lt {w wr : World} {x0 x1 x2 : Value} {o a : ByteArray} (M : DecW w wr x0 x1 x2 o a) : w.heap.size + 1 < wr.heap.size := (Array.getElem?_eq_some_iff.1 M.words).1
theorem DecW.keep {w wr w' : World} {x0 x1 x2 : Value} {o a : ByteArray} (M : DecW w wr x0 x1 x2 o a) (hb : Below wr.heap.size wr w') : DecW w w' x0 x1 x2 o a :=
  ⟨M.below.trans (hb.mono (by have := M.lt; omega)), (hb.block _ (by have := M.lt; omega)).trans M.box, (hb.block _ M.lt).trans M.words⟩
theorem DecW.drew {w wr : World} {x0 x1 x2 : Value} {o a : ByteArray} (M : DecW w wr x0 x1 x2 o a) (n : Nat) : DecW w (wr.drewN n) x0 x1 x2 o a :=
  ⟨⟨M.below.os, M.below.tape, M.below.output, M.below.size, M.below.block⟩, M.box, M.words⟩
theorem DecW.word {w wr : World} {x0 x1 x2 : Value} {o a : ByteArray} (M : DecW w wr x0 x1 x2 o a) (k : Nat) (hk : k < 2) (t : ByteArray) :
    DecW w (wr.setCell ⟨w.heap.size + 1, k, none⟩ (.string t)) x0 x1 x2 (if k = 0 then t else o) (if k = 0 then a else t) := by
  refine ⟨M.below.setCell (by show w.heap.size ≤ w.heap.size + 1; omega) _, ?_, ?_⟩
  · rw [heap_setCell_other _ _ _ _ (by show w.heap.size ≠ w.heap.size + 1; omega)]; exact M.box
  · rw [heap_setCell_same _ _ _ _ _ _ M.words]
    match k, hk with
    | 0, _ => rfl
    | 1, _ => rfl
theorem DecW.wcell {w wr : World} {x0 x1 x2 : Value} {o a : ByteArray} (M : DecW w wr x0 x1 x2 o a) (k : Nat) (hk : k < 2) : wr.cell? ⟨w.heap.size + 1, k, none⟩ = some (.string (if k = 0 then o else a)) := by
  rw [cell_of_row wr _ k _ _ _ M.words]
  match k, hk with
  | 0, _ => rfl
  | 1, _ => rfl
theorem DecW.drew1 {w wr : World} {x0 x1 x2 : Value} {o a : ByteArray} (M : DecW w wr x0 x1 x2 o a) : DecW w wr.drew x0 x1 x2 o a :=
  ⟨⟨M.below.os, M.below.tape, M.below.output, M.below.size, M.below.block⟩, M.box, M.words⟩
theorem DecW.man {w wr : World} {x0 x1 x2 : Value} {o a : ByteArray} (M : DecW w wr x0 x1 x2 o a) (y0 y1 y2 : Value) : DecW w (wr.setRow w.heap.size #[y0, y1, y2]) y0 y1 y2 o a :=
  ⟨below_setRow M.below (Nat.le_refl _) _, setRow_heap _ _ _ _ _ _ M.box, by rw [setRow_other _ _ _ _ (by omega)]; exact M.words⟩
theorem ba_ite (k : Nat) (p q : List UInt8) : (⟨(if k = 0 then p else q).toArray⟩ : ByteArray) = if k = 0 then ⟨p.toArray⟩ else ⟨q.toArray⟩ := by split <;> rfl
/-- A text cut. -/
theorem ext_mk (r : List UInt8) (a b : Nat) : (⟨r.toArray⟩ : ByteArray).extract a b = ⟨((r.drop a).take (b - a)).toArray⟩ := by
  rw [Lib.extract_eq]
/-- Which words are read. -/
def stage (R : List UInt8) (k : Nat) (r : List UInt8) (o a : List UInt8) : Prop :=
  (k = 0 ∧ r = R ∧ o = [] ∧ a = []) ∨ (k = 1 ∧ decW R = some (o, r) ∧ a = []) ∨ (k = 2 ∧ ∃ r1, decW R = some (o, r1) ∧ decW r1 = some (a, r))
theorem stage_bad {R r o a : List UInt8} {k : Nat} (h : stage R k r o a) (hk : k < 2) (hd : decW r = none) : decR R = none := by
  rcases h with ⟨_, rfl, _, _⟩ | ⟨_, h, _⟩ | ⟨h, _⟩
  · unfold decR; rw [hd]
  · unfold decR; rw [h]; simp only [hd]
  · omega
theorem stage_next {R r o a x r' : List UInt8} {k : Nat} (h : stage R k r o a) (hk : k < 2) (hd : decW r = some (x, r')) : stage R (k + 1) r' (if k = 0 then x else o) (if k = 0 then a else x) := by
  rcases h with ⟨rfl, rfl, rfl, rfl⟩ | ⟨rfl, h, rfl⟩ | ⟨h, _⟩
  · exact .inr (.inl ⟨rfl, hd, rfl⟩)
  · exact .inr (.inr ⟨rfl, r, h, hd⟩)
  · omega
/-- What holds at each jump to 'bad'. -/
def DecBad (w : World) (l : List UInt8) (a' : Act) (w' : World) : Prop :=
  decOf l = none ∧ ∃ (x0 x1 x2 : Value) (o a : ByteArray), DecW w w' x0 x1 x2 o a ∧ ∃ u0 u1 u3 u4 u5 u6 u7 u8 u9 u10 u11 u12 u13 u14 u15 u16 u17 u18 u19 u20 u21 u22 u23 u24 u25 u26 u27 u28 u29 u30 u31 u32 u33 u34 u35 u36 u37 u38 u39 u40 u41 u42 u43 u44 u45 u46 u47 u48 u49 u50 u51 u52 u53 u54 u55 u56 u57 u58 u59 u60 u61 u62 u63 u64 u65 u66 u67 u68 u69 u70 u71 u72 u73 u74 u75 u76 u77 u78 u79 : Value, a' = { tmps := #[u0, u1, .pointer (some ⟨w.heap.size, 0, none⟩), u3, u4, u5, u6, u7, u8, u9, u10, u11, u12, u13, u14, u15, u16, u17, u18, u19, u20, u21, u22, u23, u24, u25, u26, u27, u28, u29, u30, u31, u32, u33, u34, u35, u36, u37, u38, u39, u40, u41, u42, u43, u44, u45, u46, u47, u48, u49, u50, u51, u52, u53, u54, u55, u56, u57, u58, u59, u60, u61, u62, u63, u64, u65, u66, u67, u68, u69, u70, u71, u72, u73, u74, u75, u76, u77, u78, u79], defers := [] }

theorem chunks_get {n : Nat} : ∀ {r : List UInt8} {j : Nat}, j < n → (chunks n r)[j]? = some ((r.drop (32 * j)).take 32) := by
  induction n with
  | zero => intro r j hj; omega
  | succ n ih =>
    intro r j hj
    cases j with
    | zero => simp [chunks]
    | succ j =>
      have h := ih (r := r.drop 32) (j := j) (by omega)
      simp only [chunks, List.getElem?_cons_succ]
      rw [h, List.drop_drop]
      congr 3
      omega
theorem flat_get {hs : List (List UInt8)} : ∀ {i j : Nat} {x : List UInt8}, (∀ y ∈ hs, y.length = 32) → hs[i]? = some x → j < 32 → hs.flatten[i * 32 + j]? = x[j]? := by
  induction hs with
  | nil => intro i j x _ h; cases h
  | cons y hs ih =>
    intro i j x h32 h hj
    have hy := h32 y (by simp)
    cases i with
    | zero =>
      simp only [List.getElem?_cons_zero, Option.some.injEq] at h
      subst h
      rw [List.flatten_cons, List.getElem?_append_left (by omega)]
      simp
    | succ i =>
      rw [List.flatten_cons, List.getElem?_append_right (by omega)]
      have := ih (i := i) (j := j) (fun z hz => h32 z (by simp [hz])) (by simpa using h) hj
      rw [← this]
      congr 1; omega
/-- A slice of hashes of one's own. -/
def OwnH (w : World) (B : Nat) (v : Value) (hs : List (List UInt8)) : Prop := w.ownsRow B 33 32 v hs.length (hs.flatten.map vB) ∧ (∀ x ∈ hs, x.length = 32) ∧ hs.length ≤ 9223372036854775807
theorem OwnH.rd {w : World} {B : Nat} {v : Value} {hs : List (List UInt8)} (h : OwnH w B v hs) : RdHs w v hs := by
  obtain ⟨⟨hl, h2⟩, h32, hle⟩ := h
  rcases h2 with ⟨rfl, h0⟩ | ⟨g, cap, cur, rfl, hB, hg, hn, hm, hs', htk⟩
  · have : hs = [] := List.eq_nil_of_length_eq_zero h0
    rw [this]; exact RdHs.nil w
  · refine ⟨_, cap, rfl, hn, by simp only [maxLen] at hm; omega, fun i x hi => ⟨h32 x (List.mem_of_getElem? hi), g, 0, rfl, fun j u hj => ?_⟩⟩
    have hx32 := h32 x (List.mem_of_getElem? hi)
    have hj32 : j < 32 := by
      have := (List.getElem?_eq_some_iff.1 hj).1
      simpa [hx32] using this
    have hil : i < hs.length := (List.getElem?_eq_some_iff.1 hi).1
    rw [cell_of_row w g _ _ _ _ hg, Nat.zero_add]
    have h1 : (cur.toList.take (hs.length * 32))[i * 32 + j]? = (hs.flatten.map vB)[i * 32 + j]? := by rw [htk]
    rw [List.getElem?_take, if_pos (by omega), List.getElem?_map, flat_get h32 hi hj32] at h1
    rw [← Array.getElem?_toList, h1]
    simpa using hj
theorem OwnH.nil (w : World) (B : Nat) : OwnH w B (.slice none 0 0) [] := ⟨⟨rfl, .inl ⟨rfl, rfl⟩⟩, (fun x hx => by cases hx), by simp⟩
theorem OwnH.below {w w' : World} {B : Nat} {v : Value} {hs : List (List UInt8)} (h : OwnH w B v hs) (hb : Below w.heap.size w w') : OwnH w' B v hs :=
  ⟨World.ownsRow.kept (row := none) h.1 (grown_of_below hb none) (by cases h : v.ownBlock with | none => exact .inl rfl | some g => exact .inr (by simp)), h.2⟩

theorem grown_setCell (w : World) (g o : Nat) (v : Value) : w.grownBy (w.setCell ⟨g, o, none⟩ v) (some g) :=
  ⟨rfl, rfl, rfl, by simp [World.setCell], fun k _ hne => heap_setCell_other w ⟨g, o, none⟩ k v (fun e => hne (by rw [e]))⟩
/-- A block of another type than hashes' bytes and arrays, stored: what a slice of hashes reads stays. -/
theorem rd_setRow {w : World} {v : Value} {hs : List (List UInt8)} {b t : Nat} {cs : Array Value} {fr : Nat × Nat} (h : RdHs w v hs) (hr : w.heap[b]? = some (.cells cs t fr)) (ht : t = 24) : RdHs (w.setRow b cs) v hs := by
  obtain ⟨a, c, hv, h1, h2, hc⟩ := h
  refine ⟨a, c, hv, h1, h2, fun i x hi => ⟨(hc i x hi).1, ?_⟩⟩
  obtain ⟨b', off, ha, hrg⟩ := (hc i x hi).2
  refine ⟨b', off, ha, fun j u hj => ?_⟩
  have hcell := hrg j u hj
  by_cases e : b' = b
  · subst e
    rw [cell_of_row w b' _ _ _ _ hr] at hcell
    rw [cell_of_row _ b' _ _ _ _ (setRow_heap _ _ _ _ _ _ hr)]
    exact hcell
  · rw [World.cell?_of_block (w := w) (w' := w.setRow b cs) (setRow_other w b b' _ e)]; exact hcell
theorem dec_step {w W w1 : World} {x0 x1 lv : Value} {o a : ByteArray} {hs : List (List UInt8)} {j g cap : Nat} {T : List UInt8} (M : DecW w W x0 x1 lv o a)
    (O : W.ownsRow (w.heap.size + 2) 33 32 lv j ((hs.take j).flatten.map vB)) (hT : hs[j]? = some T) (h32 : ∀ y ∈ hs, y.length = 32) (hj : j < 255)
    (q1 : w1.ownsRow (w.heap.size + 2) 33 32 (.slice (some ⟨g, 0, none⟩) (j + 1) cap) (j + 1) ((hs.take j).flatten.map vB ++ T.map vB)) (q2 : W.grownBy w1 lv.ownBlock) :
    DecW w (w1.setCell ⟨w.heap.size, 2, none⟩ (.slice (some ⟨g, 0, none⟩) (j + 1) cap)) x0 x1 (.slice (some ⟨g, 0, none⟩) (j + 1) cap) o a ∧
    OwnH (w1.setCell ⟨w.heap.size, 2, none⟩ (.slice (some ⟨g, 0, none⟩) (j + 1) cap)) (w.heap.size + 2) (.slice (some ⟨g, 0, none⟩) (j + 1) cap) (hs.take (j + 1)) := by
  have hlt := M.lt
  have hown := fun k (hk : lv.ownBlock = some k) => (World.ownsRow.lt O k hk).1
  have hb : Below w.heap.size w w1 := M.below.trans (below_grown q2 (by omega) (fun k hk => by have := hown k hk; omega))
  have hbx : w1.heap[w.heap.size]? = some (.cells #[x0, x1, lv] 24 (0, 0)) := (q2.block _ (by omega) (fun e => by have := hown _ e.symm; omega)).trans M.box
  have hwd : w1.heap[w.heap.size + 1]? = some (.cells #[.string o, .string a] 50 (0, 0)) := (q2.block _ hlt (fun e => by have := hown _ e.symm; omega)).trans M.words
  have hjl : j < hs.length := (List.getElem?_eq_some_iff.1 hT).1
  have hTe : hs[j] = T := by
    have := (List.getElem?_eq_some_iff.1 hT).2
    exact this
  have htk : hs.take (j + 1) = hs.take j ++ [T] := by rw [List.take_succ_eq_append_getElem hjl, hTe]
  refine ⟨⟨hb.setCell (Nat.le_refl _) _, ?_, ?_⟩, ⟨?_, fun y hy => h32 y (List.mem_of_mem_take hy), by rw [List.length_take]; omega⟩⟩
  · rw [heap_setCell_same _ _ _ _ _ _ hbx]; rfl
  · rw [heap_setCell_other _ _ _ _ (by show w.heap.size + 1 ≠ w.heap.size; omega)]; exact hwd
  · have hl : (hs.take (j + 1)).length = j + 1 := by rw [List.length_take]; omega
    rw [hl, htk, List.flatten_append, List.map_append]
    have e : [T].flatten = T := by simp
    rw [e]
    exact World.ownsRow.kept q1 (grown_setCell _ _ _ _) (.inr (fun e => by have := (World.ownsRow.lt q1 _ e).1; omega))

set_option maxRecDepth 100000 in
set_option maxHeartbeats 4000000 in
theorem decode_any (w : World) (v : Value) (l : List UInt8) (hv : RdB w v l) (hl : l.length ≤ 140737488355328) :
    Calls Tryd.prog 15 #[v] w fun e w' => Below w.heap.size w w' ∧
      ((decOf l = none ∧ e = .returned (.tuple #[mV ⟨#[]⟩ ⟨#[]⟩ (.slice none 0 0), .int .i64 3])) ∨
       ∃ o a hs lv, decOf l = some (o, a, hs) ∧ e = .returned (.tuple #[mV ⟨o.toArray⟩ ⟨a.toArray⟩ lv, .int .i64 0]) ∧ RdHs w' lv hs) := by
  have HV := Lib.hid hv
  clear hv
  go_enter Tryd.func15, Tryd.ntmps15
  have M := Lib.hid (dec_start w)
  have ht := run_text (RdV.below HV.out M.out.below)
  go_wp2_with fail
  refine wp_scope_jumps 0 (DecBad w l) (fun _ _ => 0) rfl ?first ?pass
  case pass =>
    rintro a' w' ⟨hd, x0, x1, x2, o, a, hM, u0, u1, u3, u4, u5, u6, u7, u8, u9, u10, u11, u12, u13, u14, u15, u16, u17, u18, u19, u20, u21, u22, u23, u24, u25, u26, u27, u28, u29, u30, u31, u32, u33, u34, u35, u36, u37, u38, u39, u40, u41, u42, u43, u44, u45, u46, u47, u48, u49, u50, u51, u52, u53, u54, u55, u56, u57, u58, u59, u60, u61, u62, u63, u64, u65, u66, u67, u68, u69, u70, u71, u72, u73, u74, u75, u76, u77, u78, u79, rfl⟩
    have HD := Lib.hid hd; have HM := Lib.hid hM
    clear hd hM ht M
    go_wp2_with (refine wpList_store_row rfl _ _ _ rfl w.heap.size #[.string ⟨#[]⟩, .string ⟨#[]⟩, .slice none 0 0] rfl rfl 24 #[x0, x1, x2] HM.out.box (by kernel_rfl) rfl (by kernel_rfl) ?_)
    simp only [Exit.jump]
    exact bodyPost_ret (results_man_tmp rfl _ _ w.heap.size [.string ⟨#[]⟩, .string ⟨#[]⟩, .slice none 0 0] (.int .i64 3) rfl (setRow_heap _ _ _ _ _ _ HM.out.box) rfl rfl) rfl ⟨below_setRow HM.out.below (Nat.le_refl _) _, .inl ⟨HD.out, rfl⟩⟩
  case first =>
    go_wp2_with fail
    revert M ht
    generalize (w.alloc (.cells #[.string ⟨#[]⟩, .string ⟨#[]⟩, .slice none 0 0] 24)).alloc (.cells #[.string ⟨#[]⟩, .string ⟨#[]⟩] 50) = w2
    intro M ht
    clear ht
    refine (Tryd.strings_CutPrefix ⟨l.toArray⟩ ⟨#[68, 77, 1]⟩ w2).mono ?_
    rintro e w' ⟨rfl, rfl⟩
    have hpe : Lib.hasPrefix (⟨l.toArray⟩ : ByteArray).data.toList (⟨#[68, 77, 1]⟩ : ByteArray).data.toList = signB.isPrefixOf l := rfl
    rw [hpe]
    cases hp : signB.isPrefixOf l with
    | false =>
      have hd := decOf_none_of hp
      have HD := Lib.hid hd
      clear hd hp hpe
      go_wp2
      go_step3
      exact ⟨rfl, HD.out, _, _, _, _, _, M.out, _, _, _, _, _, _, _, _, _, _, _, _, _, _, _, _, _, _, _, _, _, _, _, _, _, _, _, _, _, _, _, _, _, _, _, _, _, _, _, _, _, _, _, _, _, _, _, _, _, _, _, _, _, _, _, _, _, _, _, _, _, _, _, _, _, _, _, _, _, _, _, _, _, _, _, _, _, _, _, rfl⟩
    | true =>
      have hd : decOf l = decR (l.drop 3) := by unfold decOf; rw [hp]; rfl
      have htp : Lib.trimPrefix (⟨l.toArray⟩ : ByteArray).data.toList (⟨#[68, 77, 1]⟩ : ByteArray).data.toList = l.drop 3 := by
        unfold Lib.trimPrefix
        rw [hpe, hp]; rfl
      rw [htp]
      have HD := Lib.hid hd
      have hRl : (l.drop 3).length ≤ 140737488355328 := by rw [List.length_drop]; omega
      clear hd hp hpe htp HV
      generalize l.drop 3 = R at *
      go_wp2
      go_loopw [18, 8, 6, 9] (fun i _ s _ wr => ∃ (k : Nat) (r o a : List UInt8), k ≤ 2 ∧ i = .int .i64 k ∧ s = .string ⟨r.toArray⟩ ∧ Hid (stage R k r o a) ∧ Hid (r.length ≤ 140737488355328) ∧ DecW w wr (.string ⟨#[]⟩) (.string ⟨#[]⟩) (.slice none 0 0) ⟨o.toArray⟩ ⟨a.toArray⟩) (fun i _ _ _ _ => 2 - (intOf i).toNat)
      case atStart => exact ⟨0, R, [], [], by omega, rfl, rfl, .inl ⟨rfl, rfl, rfl, rfl⟩, hRl, M.out⟩
      case round =>
        obtain ⟨k, r, o, a, hk, rfl, rfl, hst, hrl, M'⟩ := hrel
        have HM := Lib.hid M'
        clear M' M
        by_cases hlk : k < 2
        · have hlkz : (k : Int) < 2 := by omega
          cases r with
          | nil =>
            have hbad : decOf l = none := HD.out.trans (stage_bad hst.out hlk rfl)
            have HB := Lib.hid hbad
            clear hbad
            go_wp2
            go_step3
            exact ⟨rfl, HB.out, _, _, _, _, _, HM.out, _, _, _, _, _, _, _, _, _, _, _, _, _, _, _, _, _, _, _, _, _, _, _, _, _, _, _, _, _, _, _, _, _, _, _, _, _, _, _, _, _, _, _, _, _, _, _, _, _, _, _, _, _, _, _, _, _, _, _, _, _, _, _, _, _, _, _, _, _, _, _, _, _, _, _, _, _, _, _, rfl⟩
          | cons x r =>
            have e0 : ∀ h, (⟨(x :: r).toArray⟩ : ByteArray)[0]'h = x := fun h => rfl
            have hx255 := x.toNat_lt
            have hrl2 : r.length ≤ 140737488355328 := by have := hrl.out; simp only [List.length_cons] at this; omega
            have hw1 : wrap64 (x.toNat : Int) = x.toNat := by simp only [wrap64]; omega
            have hw2 : wrap64 ((x.toNat : Int) + 1) = x.toNat + 1 := by simp only [wrap64]; omega
            by_cases hx : r.length < x.toNat
            · have hbad : decOf l = none := HD.out.trans (stage_bad hst.out hlk (by simp only [decW]; rw [if_pos hx]))
              have HB := Lib.hid hbad
              have hxz : (r.length : Int) + 1 ≤ x.toNat := by omega
              clear hbad
              go_wp2
              go_step3
              exact ⟨rfl, HB.out, _, _, _, _, _, HM.out, _, _, _, _, _, _, _, _, _, _, _, _, _, _, _, _, _, _, _, _, _, _, _, _, _, _, _, _, _, _, _, _, _, _, _, _, _, _, _, _, _, _, _, _, _, _, _, _, _, _, _, _, _, _, _, _, _, _, _, _, _, _, _, _, _, _, _, _, _, _, _, _, _, _, _, _, _, _, _, rfl⟩
            · have hxz : ¬ (r.length : Int) + 1 ≤ x.toNat := by omega
              have hdw : decW (x :: r) = some (r.take x.toNat, r.drop x.toNat) := by simp only [decW]; rw [if_neg hx]
              have hnx := stage_next hst.out hlk hdw
              have HNX := Lib.hid hnx
              clear hdw hnx hst
              obtain ⟨n, hn⟩ : ∃ n, x.toNat = n := ⟨_, rfl⟩
              rw [hn] at hw1 hw2 hxz hx hx255 HNX
              go_wp2
              have ex1 : (⟨(x :: r).toArray⟩ : ByteArray).extract 1 (n + 1) = ⟨(r.take n).toArray⟩ := by rw [ext_mk]; rfl
              have ex2 : (⟨(x :: r).toArray⟩ : ByteArray).extract (n + 1) (r.length + 1) = ⟨(r.drop n).toArray⟩ := by
                rw [ext_mk]
                show (⟨((r.drop n).take (r.length + 1 - (n + 1))).toArray⟩ : ByteArray) = _
                rw [List.take_of_length_le (by rw [List.length_drop]; omega)]
              have b1 : (1 : Int) ≤ (n : Int) + 1 := by omega
              have b2 : (n : Int) + 1 ≤ (r.length : Int) + 1 := by omega
              have b3 : (0 : Int) ≤ (n : Int) + 1 := by omega
              have b4 : ((n : Int) + 1).toNat = n + 1 := by omega
              have b5 : ((n : Int) ≤ (r.length : Int)) := by omega
              have b6 : (0 : Int) ≤ (n : Int) := by omega
              have fr : wr.frozen? ⟨w.heap.size + 1, k, none⟩ = false := frozen_of_row wr _ _ _ _ HM.out.words
              have ce := HM.out.wcell k hlk
              have HM2 := Lib.hid (HM.out.word k hlk ⟨(r.take n).toArray⟩).drew1
              generalize (if k = 0 then (⟨o.toArray⟩ : ByteArray) else ⟨a.toArray⟩) = oz at ce
              have hrl3 : Hid ((r.drop n).length ≤ 140737488355328) := by
                show (r.drop n).length ≤ 140737488355328
                rw [List.length_drop]; omega
              clear HM hrl
              go_region
              clear ex1 ex2 b1 b2 b3 b4 b5 b6 hn e0 hw1 hw2 fr ce
              revert HM2
              generalize (wr.setCell ⟨w.heap.size + 1, k, none⟩ (.string ⟨(r.take n).toArray⟩)).drew = wy
              intro HM2
              generalize r.take n = rt at *
              generalize r.drop n = rd at *
              rw [← ba_ite, ← ba_ite] at HM2
              as_aux_lemma =>
                go_wp2
                exact ⟨⟨k + 1, rd, if k = 0 then rt else o, if k = 0 then a else rt, by omega, by go_num, rfl, HNX.out, hrl3.out, HM2.out⟩, by simp [intOf]; omega⟩
        · obtain rfl : k = 2 := by omega
          rw [show ((2 : Nat) : Int) = (2 : Int) from rfl]
          obtain ⟨r1, hd1, hd2⟩ : ∃ r1, decW R = some (o, r1) ∧ decW r1 = some (a, r) := by
            rcases hst.out with ⟨h, _⟩ | ⟨h, _⟩ | ⟨_, h⟩
            · omega
            · omega
            · exact h
          have hR : decR R = match decT r with | none => none | some hs => if rightOf o a hs.length = 0 then some (o, a, hs) else none := by
            unfold decR; rw [hd1]; simp only [hd2]; rfl
          have HR := Lib.hid (HD.out.trans hR)
          clear hst hd1 hd2 hR HD hk hlk
          cases r with
          | nil =>
            have HB : Hid (decOf l = none) := HR.out
            go_wp2
            go_step3
            exact ⟨rfl, HB.out, _, _, _, _, _, HM.out, _, _, _, _, _, _, _, _, _, _, _, _, _, _, _, _, _, _, _, _, _, _, _, _, _, _, _, _, _, _, _, _, _, _, _, _, _, _, _, _, _, _, _, _, _, _, _, _, _, _, _, _, _, _, _, _, _, _, _, _, _, _, _, _, _, _, _, _, _, _, _, _, _, _, _, _, _, _, _, rfl⟩
          | cons x r =>
            have e0 : ∀ h, (⟨(x :: r).toArray⟩ : ByteArray)[0]'h = x := fun h => rfl
            have hx255 := x.toNat_lt
            have hrl2 : r.length ≤ 140737488355328 := by have := hrl.out; simp only [List.length_cons] at this; omega
            have hw1 : wrap64 (x.toNat : Int) = x.toNat := by simp only [wrap64]; omega
            have hw2 : wrap64 (32 * (x.toNat : Int)) = 32 * x.toNat := by simp only [wrap64]; omega
            have ex2 : (⟨(x :: r).toArray⟩ : ByteArray).extract 1 (r.length + 1) = ⟨r.toArray⟩ := by
              rw [ext_mk]
              show (⟨(r.take (r.length + 1 - 1)).toArray⟩ : ByteArray) = _
              rw [List.take_of_length_le (by omega)]
            by_cases hx : r.length = 32 * x.toNat
            · have hxq : ((r.length : Int) != 32 * x.toNat) = false := by simp; omega
              have HR2 : Hid (decOf l = if rightOf o a (chunks x.toNat r).length = 0 then some (o, a, chunks x.toNat r) else none) := by
                show _ = _
                rw [HR.out]; simp only [decT]; rw [if_pos hx]
              have HXX := Lib.hid hx
              clear HR hx
              go_wp2
              go_quiet (fail)
              have HM2 := Lib.hid (HM.out.drew nq)
              clear HM
              revert HM2
              generalize wr.drewN nq = wy
              intro HM
              have c0 : wy.cell? ⟨w.heap.size + 1, 0, none⟩ = some (.string ⟨o.toArray⟩) := HM.out.wcell 0 (by omega)
              have c1 : wy.cell? ⟨w.heap.size + 1, 1, none⟩ = some (.string ⟨a.toArray⟩) := HM.out.wcell 1 (by omega)
              go_wp2_with (refine wpList_store_row rfl _ _ _ rfl w.heap.size #[.string ⟨o.toArray⟩, .string ⟨a.toArray⟩, .slice none 0 0] rfl rfl 24 #[.string ⟨#[]⟩, .string ⟨#[]⟩, .slice none 0 0] HM.out.box (by kernel_rfl) rfl (by kernel_rfl) ?_)
              rw [show ∀ (b : Act), b.put none undef = b from fun _ => rfl]
              have M0 := Lib.hid (HM.out.man (.string ⟨o.toArray⟩) (.string ⟨a.toArray⟩) (.slice none 0 0))
              clear HM c0 c1 hxq e0 hw1 hw2 ex2
              revert M0
              generalize wy.setRow w.heap.size #[.string ⟨o.toArray⟩, .string ⟨a.toArray⟩, .slice none 0 0] = wz
              intro M0
              obtain ⟨n, hn⟩ : ∃ n, n = x.toNat := ⟨_, rfl⟩
              rw [← hn] at HXX HR2 hx255 ⊢
              clear hn hrl
              have hcl := chunks_len n r
              have hc32 : ∀ y ∈ chunks n r, y.length = 32 := fun y hy => by
                obtain ⟨i, hi⟩ := List.mem_iff_getElem?.1 hy
                exact chunks_32 n r HXX.out i y hi
              have hcg : ∀ j, j < n → (chunks n r)[j]? = some ((r.drop (32 * j)).take 32) := fun j hj => chunks_get hj
              have HCL := Lib.hid hcl; have HC32 := Lib.hid hc32; have HCG := Lib.hid hcg
              clear hcl hc32 hcg
              generalize chunks n r = hs at *
              go_loopw [6] (fun s wr => ∃ (j : Nat) (lv : Value), j ≤ n ∧ s = .string ⟨(r.drop (32 * j)).toArray⟩ ∧ DecW w wr (.string ⟨o.toArray⟩) (.string ⟨a.toArray⟩) lv ⟨o.toArray⟩ ⟨a.toArray⟩ ∧ OwnH wr (w.heap.size + 2) lv (hs.take j)) (fun s _ => match s with | .string b => b.size | _ => 0)
              case atStart => exact ⟨0, _, by omega, by simp, M0.out, by simpa using OwnH.nil wz (w.heap.size + 2)⟩
              case round =>
                obtain ⟨j, lv, hj, rfl, M', O'⟩ := hrel
                have HM := Lib.hid M'; have HO := Lib.hid O'
                clear M' O' M0
                by_cases hlj : j < n
                · have hdl : (r.drop (32 * j)).length = 32 * n - 32 * j := by rw [List.length_drop, HXX.out]
                  have hne : (r.drop (32 * j)).isEmpty = false := by
                    cases h : r.drop (32 * j) with
                    | nil => rw [h] at hdl; simp at hdl; omega
                    | cons y z => rfl
                  have c2 : wr.cell? ⟨w.heap.size, 2, none⟩ = some lv := (cell_of_row wr _ 2 _ _ _ HM.out.box).trans rfl
                  have hT := HCG.out j hlj
                  have ex1 : (⟨(r.drop (32 * j)).toArray⟩ : ByteArray).extract 0 32 = ⟨((r.drop (32 * j)).take 32).toArray⟩ := by rw [ext_mk]; rfl
                  have ex2 : ∀ m, m = (r.drop (32 * j)).length → (⟨(r.drop (32 * j)).toArray⟩ : ByteArray).extract 32 m = ⟨(r.drop (32 * (j + 1))).toArray⟩ := by
                    rintro m rfl
                    rw [ext_mk, List.take_of_length_le (by rw [List.length_drop]; exact Nat.le_refl _), List.drop_drop]
                    congr 3
                  have hrnl : (r.drop (32 * (j + 1))).length < (r.drop (32 * j)).length := by rw [List.length_drop, List.length_drop, HXX.out]; omega
                  generalize hrn : r.drop (32 * (j + 1)) = rn at *
                  have HRN := Lib.hid hrn
                  clear hrn
                  have htl : ((r.drop (32 * j)).take 32).length = 32 := by rw [List.length_take, hdl]; omega
                  generalize hrj : r.drop (32 * j) = rj at *
                  generalize rj.take 32 = T at *
                  have hz32 : (32 : Int) ≤ rj.length := by omega
                  have ex3 := ex2 _ rfl
                  have HDL := Lib.hid hdl
                  clear ex2 hdl
                  obtain ⟨i0, hi, hz0, hz1, hz2⟩ := info_parts info_hash
                  have hBA : Below wr.heap.size wr (Lib.bytesWorld wr.drew 5 ⟨T.toArray⟩) := (Below.drew (Below.refl _ wr)).trans (below_bytes wr.drew ⟨T.toArray⟩)
                  have hsz : (Lib.bytesWorld wr.drew 5 ⟨T.toArray⟩).heap.size = wr.heap.size + 1 := Lib.bytesWorld_size wr.drew _ _
                  have hBB : Below wr.heap.size wr ((Lib.bytesWorld wr.drew 5 ⟨T.toArray⟩).alloc (.cells (T.map vB).toArray 33)) := hBA.alloc (by omega) _
                  have hlt := HM.out.lt
                  have cA : wr.drew.cell? ⟨w.heap.size, 2, none⟩ = some lv := c2
                  have cB : (Lib.bytesWorld wr.drew 5 ⟨T.toArray⟩).cell? ⟨w.heap.size, 2, none⟩ = some lv := (hBA.cell (p := ⟨w.heap.size, 2, none⟩) (by show w.heap.size < _; omega)).trans c2
                  have cC : ((Lib.bytesWorld wr.drew 5 ⟨T.toArray⟩).alloc (.cells (T.map vB).toArray 33)).cell? ⟨w.heap.size, 2, none⟩ = some lv := (hBB.cell (p := ⟨w.heap.size, 2, none⟩) (by show w.heap.size < _; omega)).trans c2
                  have OA := Lib.hid (HO.out.below hBB).1
                  have MB := Lib.hid (HM.out.keep hBB)
                  have hjl : (hs.take j).length = j := by rw [List.length_take, HCL.out]; omega
                  rw [hjl] at OA
                  have hbs : w.heap.size + 2 ≤ ((Lib.bytesWorld wr.drew 5 ⟨T.toArray⟩).alloc (.cells (T.map vB).toArray 33)).heap.size := by have := hBB.size; omega
                  have HBS := Lib.hid hbs; have HBA := Lib.hid hBA; have HBB := Lib.hid hBB; have HSZ := Lib.hid hsz
                  clear hbs hBA hBB hsz hjl
                  go_wp2
                  refine wp_region_any (by kernel_rfl) ?_
                  change wpAny _ _ _ _ _ _ _ (World.drew _)
                  refine wpAny_take (i := 0) (v := .pointer (some ⟨w.heap.size, 2, none⟩)) rfl (by kernel_rfl) (by kernel_rfl) (by kernel_rfl) (fun _ _ _ h => h) (Or.inl ⟨by rfl, fun w => ?_⟩) ?_
                  · go_simp
                  refine wpAny_take (i := 2) (v := .string ⟨rj.toArray⟩) rfl (by kernel_rfl) (by kernel_rfl) (by kernel_rfl) (fun _ _ _ h => h) (Or.inl ⟨by rfl, fun w => ?_⟩) ?_
                  · go_simp
                  refine wpAny_take (i := 3) (v := .string ⟨T.toArray⟩) rfl (by kernel_rfl) (by kernel_rfl) (by kernel_rfl) (fun _ _ _ h => h) (Or.inl ⟨by rfl, fun w => ?_⟩) ?_
                  · go_simp
                  refine wpAny_ready (rs := [1, 4]) (by kernel_rfl) (by simp) ?_
                  refine AllReady.cons rfl (fun K hK => ?_) ?_
                  · skip
                    go_simp
                    refine hK _ _ ?_
                    clear hK K
                    refine wpAny_ready (rs := [4]) (by kernel_rfl) (by simp) ?_
                    refine AllReady.cons rfl (fun K hK => ?_) ?_
                    · skip
                      refine step_conv rfl _ rfl T rfl htl ?_
                      try go_simp
                      refine hK _ _ ?_
                      clear hK K
                      refine wpAny_ready (rs := [5]) (by kernel_rfl) (by simp) ?_
                      refine AllReady.cons rfl (fun K hK => ?_) ?_
                      · skip
                        go_simp
                        refine hK _ _ ?_
                        clear hK K
                        refine wpAny_ready (rs := [6]) (by kernel_rfl) (by simp) ?_
                        refine AllReady.cons rfl (fun K hK => ?_) ?_
                        · skip
                          refine step_loadH rfl _ rfl _ rfl T (bytes_range _ T) htl ?_
                          try go_simp
                          refine hK _ _ ?_
                          clear hK K
                          refine wpAny_ready (rs := [7]) (by kernel_rfl) (by simp) ?_
                          refine AllReady.cons rfl (fun K hK => ?_) ?_
                          · skip
                            refine step_build rfl _ rfl T rfl htl ?_
                            try go_simp
                            refine hK _ _ ?_
                            clear hK K
                            refine wpAny_ready (rs := [8]) (by kernel_rfl) (by simp) ?_
                            refine AllReady.cons rfl (fun K hK => ?_) ?_
                            · skip
                              refine step_append_lies _ rfl _ _ 22 rfl (w.heap.size + 2) 33 i0 _ 32 32 Tryd.underlying22 hi hz0 hz1 hz2 (by simp [Value.cells]) (by decide) lv j _ rfl OA.out _ 1 1 (T.map vB) rfl (by simp [htl]) (World.news_of_block (heap_alloc_new _ _)) (vB_one T) (by decide) (by simp only [maxLen]; omega) (by omega) HBS.out _ rfl ?_
                              intro g cap w1 q1 q2 q3 q4
                              have hbx : w1.heap[w.heap.size]? = some (.cells #[.string ⟨o.toArray⟩, .string ⟨a.toArray⟩, lv] 24 (0, 0)) := (q2.block _ (by have := MB.out.lt; omega) (fun e => by have := (World.ownsRow.lt OA.out _ e.symm).1; omega)).trans MB.out.box
                              have fr : w1.frozen? ⟨w.heap.size, 2, none⟩ = false := frozen_of_row w1 _ _ _ _ hbx
                              have ce : w1.cell? ⟨w.heap.size, 2, none⟩ = some lv := (cell_of_row w1 _ 2 _ _ _ hbx).trans rfl
                              try go_simp
                              refine hK _ _ ?_
                              clear hK K
                              refine wpAny_ready (rs := [9]) (by kernel_rfl) (by simp) ?_
                              refine AllReady.cons rfl (fun K hK => ?_) ?_
                              · skip
                                go_simp
                                refine hK _ _ ?_
                                clear hK K
                                refine wpAny_ready (rs := [10]) (by kernel_rfl) (by simp) ?_
                                refine AllReady.cons rfl (fun K hK => ?_) ?_
                                · skip
                                  go_simp
                                  refine hK _ _ ?_
                                  clear hK K
                                  refine wpAny_done (by kernel_rfl) ?_ _
                                  have D := Lib.hid (dec_step MB.out OA.out hT HC32.out (by omega) q1 q2)
                                  clear q1 q2 q3 q4 hbx fr ce MB OA HBS HBA HBB HSZ HM HO cA cB cC c2
                                  revert D
                                  generalize w1.setCell ⟨w.heap.size, 2, none⟩ (.slice (some ⟨g, 0, none⟩) (j + 1) cap) = wn
                                  intro D
                                  as_aux_lemma =>
                                    go_wp2
                                    exact ⟨⟨j + 1, _, by omega, by rw [HRN.out], D.out.1, D.out.2⟩, hrnl⟩
                                exact AllReady.nil
                              exact AllReady.nil
                            exact AllReady.nil
                          exact AllReady.nil
                        exact AllReady.nil
                      exact AllReady.nil
                    exact AllReady.nil
                  refine AllReady.cons rfl (fun K hK => ?_) ?_
                  · skip
                    refine step_conv rfl _ rfl T rfl htl ?_
                    try go_simp
                    refine hK _ _ ?_
                    clear hK K
                    refine wpAny_ready (rs := [1, 5]) (by kernel_rfl) (by simp) ?_
                    refine AllReady.cons rfl (fun K hK => ?_) ?_
                    · skip
                      go_simp
                      refine hK _ _ ?_
                      clear hK K
                      refine wpAny_ready (rs := [5]) (by kernel_rfl) (by simp) ?_
                      refine AllReady.cons rfl (fun K hK => ?_) ?_
                      · skip
                        go_simp
                        refine hK _ _ ?_
                        clear hK K
                        refine wpAny_ready (rs := [6]) (by kernel_rfl) (by simp) ?_
                        refine AllReady.cons rfl (fun K hK => ?_) ?_
                        · skip
                          refine step_loadH rfl _ rfl _ rfl T (bytes_range _ T) htl ?_
                          try go_simp
                          refine hK _ _ ?_
                          clear hK K
                          refine wpAny_ready (rs := [7]) (by kernel_rfl) (by simp) ?_
                          refine AllReady.cons rfl (fun K hK => ?_) ?_
                          · skip
                            refine step_build rfl _ rfl T rfl htl ?_
                            try go_simp
                            refine hK _ _ ?_
                            clear hK K
                            refine wpAny_ready (rs := [8]) (by kernel_rfl) (by simp) ?_
                            refine AllReady.cons rfl (fun K hK => ?_) ?_
                            · skip
                              refine step_append_lies _ rfl _ _ 22 rfl (w.heap.size + 2) 33 i0 _ 32 32 Tryd.underlying22 hi hz0 hz1 hz2 (by simp [Value.cells]) (by decide) lv j _ rfl OA.out _ 1 1 (T.map vB) rfl (by simp [htl]) (World.news_of_block (heap_alloc_new _ _)) (vB_one T) (by decide) (by simp only [maxLen]; omega) (by omega) HBS.out _ rfl ?_
                              intro g cap w1 q1 q2 q3 q4
                              have hbx : w1.heap[w.heap.size]? = some (.cells #[.string ⟨o.toArray⟩, .string ⟨a.toArray⟩, lv] 24 (0, 0)) := (q2.block _ (by have := MB.out.lt; omega) (fun e => by have := (World.ownsRow.lt OA.out _ e.symm).1; omega)).trans MB.out.box
                              have fr : w1.frozen? ⟨w.heap.size, 2, none⟩ = false := frozen_of_row w1 _ _ _ _ hbx
                              have ce : w1.cell? ⟨w.heap.size, 2, none⟩ = some lv := (cell_of_row w1 _ 2 _ _ _ hbx).trans rfl
                              try go_simp
                              refine hK _ _ ?_
                              clear hK K
                              refine wpAny_ready (rs := [9]) (by kernel_rfl) (by simp) ?_
                              refine AllReady.cons rfl (fun K hK => ?_) ?_
                              · skip
                                go_simp
                                refine hK _ _ ?_
                                clear hK K
                                refine wpAny_ready (rs := [10]) (by kernel_rfl) (by simp) ?_
                                refine AllReady.cons rfl (fun K hK => ?_) ?_
                                · skip
                                  go_simp
                                  refine hK _ _ ?_
                                  clear hK K
                                  refine wpAny_done (by kernel_rfl) ?_ _
                                  have D := Lib.hid (dec_step MB.out OA.out hT HC32.out (by omega) q1 q2)
                                  clear q1 q2 q3 q4 hbx fr ce MB OA HBS HBA HBB HSZ HM HO cA cB cC c2
                                  revert D
                                  generalize w1.setCell ⟨w.heap.size, 2, none⟩ (.slice (some ⟨g, 0, none⟩) (j + 1) cap) = wn
                                  intro D
                                  as_aux_lemma =>
                                    go_wp2
                                    exact ⟨⟨j + 1, _, by omega, by rw [HRN.out], D.out.1, D.out.2⟩, hrnl⟩
                                exact AllReady.nil
                              exact AllReady.nil
                            exact AllReady.nil
                          exact AllReady.nil
                        exact AllReady.nil
                      exact AllReady.nil
                    refine AllReady.cons rfl (fun K hK => ?_) ?_
                    · skip
                      go_simp
                      refine hK _ _ ?_
                      clear hK K
                      refine wpAny_ready (rs := [1, 6]) (by kernel_rfl) (by simp) ?_
                      refine AllReady.cons rfl (fun K hK => ?_) ?_
                      · skip
                        go_simp
                        refine hK _ _ ?_
                        clear hK K
                        refine wpAny_ready (rs := [6]) (by kernel_rfl) (by simp) ?_
                        refine AllReady.cons rfl (fun K hK => ?_) ?_
                        · skip
                          refine step_loadH rfl _ rfl _ rfl T (bytes_range _ T) htl ?_
                          try go_simp
                          refine hK _ _ ?_
                          clear hK K
                          refine wpAny_ready (rs := [7]) (by kernel_rfl) (by simp) ?_
                          refine AllReady.cons rfl (fun K hK => ?_) ?_
                          · skip
                            refine step_build rfl _ rfl T rfl htl ?_
                            try go_simp
                            refine hK _ _ ?_
                            clear hK K
                            refine wpAny_ready (rs := [8]) (by kernel_rfl) (by simp) ?_
                            refine AllReady.cons rfl (fun K hK => ?_) ?_
                            · skip
                              refine step_append_lies _ rfl _ _ 22 rfl (w.heap.size + 2) 33 i0 _ 32 32 Tryd.underlying22 hi hz0 hz1 hz2 (by simp [Value.cells]) (by decide) lv j _ rfl OA.out _ 1 1 (T.map vB) rfl (by simp [htl]) (World.news_of_block (heap_alloc_new _ _)) (vB_one T) (by decide) (by simp only [maxLen]; omega) (by omega) HBS.out _ rfl ?_
                              intro g cap w1 q1 q2 q3 q4
                              have hbx : w1.heap[w.heap.size]? = some (.cells #[.string ⟨o.toArray⟩, .string ⟨a.toArray⟩, lv] 24 (0, 0)) := (q2.block _ (by have := MB.out.lt; omega) (fun e => by have := (World.ownsRow.lt OA.out _ e.symm).1; omega)).trans MB.out.box
                              have fr : w1.frozen? ⟨w.heap.size, 2, none⟩ = false := frozen_of_row w1 _ _ _ _ hbx
                              have ce : w1.cell? ⟨w.heap.size, 2, none⟩ = some lv := (cell_of_row w1 _ 2 _ _ _ hbx).trans rfl
                              try go_simp
                              refine hK _ _ ?_
                              clear hK K
                              refine wpAny_ready (rs := [9]) (by kernel_rfl) (by simp) ?_
                              refine AllReady.cons rfl (fun K hK => ?_) ?_
                              · skip
                                go_simp
                                refine hK _ _ ?_
                                clear hK K
                                refine wpAny_ready (rs := [10]) (by kernel_rfl) (by simp) ?_
                                refine AllReady.cons rfl (fun K hK => ?_) ?_
                                · skip
                                  go_simp
                                  refine hK _ _ ?_
                                  clear hK K
                                  refine wpAny_done (by kernel_rfl) ?_ _
                                  have D := Lib.hid (dec_step MB.out OA.out hT HC32.out (by omega) q1 q2)
                                  clear q1 q2 q3 q4 hbx fr ce MB OA HBS HBA HBB HSZ HM HO cA cB cC c2
                                  revert D
                                  generalize w1.setCell ⟨w.heap.size, 2, none⟩ (.slice (some ⟨g, 0, none⟩) (j + 1) cap) = wn
                                  intro D
                                  as_aux_lemma =>
                                    go_wp2
                                    exact ⟨⟨j + 1, _, by omega, by rw [HRN.out], D.out.1, D.out.2⟩, hrnl⟩
                                exact AllReady.nil
                              exact AllReady.nil
                            exact AllReady.nil
                          exact AllReady.nil
                        exact AllReady.nil
                      refine AllReady.cons rfl (fun K hK => ?_) ?_
                      · skip
                        refine step_loadH rfl _ rfl _ rfl T (bytes_range _ T) htl ?_
                        try go_simp
                        refine hK _ _ ?_
                        clear hK K
                        refine wpAny_ready (rs := [1, 7]) (by kernel_rfl) (by simp) ?_
                        refine AllReady.cons rfl (fun K hK => ?_) ?_
                        · skip
                          go_simp
                          refine hK _ _ ?_
                          clear hK K
                          refine wpAny_ready (rs := [7]) (by kernel_rfl) (by simp) ?_
                          refine AllReady.cons rfl (fun K hK => ?_) ?_
                          · skip
                            refine step_build rfl _ rfl T rfl htl ?_
                            try go_simp
                            refine hK _ _ ?_
                            clear hK K
                            refine wpAny_ready (rs := [8]) (by kernel_rfl) (by simp) ?_
                            refine AllReady.cons rfl (fun K hK => ?_) ?_
                            · skip
                              refine step_append_lies _ rfl _ _ 22 rfl (w.heap.size + 2) 33 i0 _ 32 32 Tryd.underlying22 hi hz0 hz1 hz2 (by simp [Value.cells]) (by decide) lv j _ rfl OA.out _ 1 1 (T.map vB) rfl (by simp [htl]) (World.news_of_block (heap_alloc_new _ _)) (vB_one T) (by decide) (by simp only [maxLen]; omega) (by omega) HBS.out _ rfl ?_
                              intro g cap w1 q1 q2 q3 q4
                              have hbx : w1.heap[w.heap.size]? = some (.cells #[.string ⟨o.toArray⟩, .string ⟨a.toArray⟩, lv] 24 (0, 0)) := (q2.block _ (by have := MB.out.lt; omega) (fun e => by have := (World.ownsRow.lt OA.out _ e.symm).1; omega)).trans MB.out.box
                              have fr : w1.frozen? ⟨w.heap.size, 2, none⟩ = false := frozen_of_row w1 _ _ _ _ hbx
                              have ce : w1.cell? ⟨w.heap.size, 2, none⟩ = some lv := (cell_of_row w1 _ 2 _ _ _ hbx).trans rfl
                              try go_simp
                              refine hK _ _ ?_
                              clear hK K
                              refine wpAny_ready (rs := [9]) (by kernel_rfl) (by simp) ?_
                              refine AllReady.cons rfl (fun K hK => ?_) ?_
                              · skip
                                go_simp
                                refine hK _ _ ?_
                                clear hK K
                                refine wpAny_ready (rs := [10]) (by kernel_rfl) (by simp) ?_
                                refine AllReady.cons rfl (fun K hK => ?_) ?_
                                · skip
                                  go_simp
                                  refine hK _ _ ?_
                                  clear hK K
                                  refine wpAny_done (by kernel_rfl) ?_ _
                                  have D := Lib.hid (dec_step MB.out OA.out hT HC32.out (by omega) q1 q2)
                                  clear q1 q2 q3 q4 hbx fr ce MB OA HBS HBA HBB HSZ HM HO cA cB cC c2
                                  revert D
                                  generalize w1.setCell ⟨w.heap.size, 2, none⟩ (.slice (some ⟨g, 0, none⟩) (j + 1) cap) = wn
                                  intro D
                                  as_aux_lemma =>
                                    go_wp2
                                    exact ⟨⟨j + 1, _, by omega, by rw [HRN.out], D.out.1, D.out.2⟩, hrnl⟩
                                exact AllReady.nil
                              exact AllReady.nil
                            exact AllReady.nil
                          exact AllReady.nil
                        refine AllReady.cons rfl (fun K hK => ?_) ?_
                        · skip
                          refine step_build rfl _ rfl T rfl htl ?_
                          try go_simp
                          refine hK _ _ ?_
                          clear hK K
                          refine wpAny_ready (rs := [1]) (by kernel_rfl) (by simp) ?_
                          refine AllReady.cons rfl (fun K hK => ?_) ?_
                          · skip
                            go_simp
                            refine hK _ _ ?_
                            clear hK K
                            refine wpAny_ready (rs := [8]) (by kernel_rfl) (by simp) ?_
                            refine AllReady.cons rfl (fun K hK => ?_) ?_
                            · skip
                              refine step_append_lies _ rfl _ _ 22 rfl (w.heap.size + 2) 33 i0 _ 32 32 Tryd.underlying22 hi hz0 hz1 hz2 (by simp [Value.cells]) (by decide) lv j _ rfl OA.out _ 1 1 (T.map vB) rfl (by simp [htl]) (World.news_of_block (heap_alloc_new _ _)) (vB_one T) (by decide) (by simp only [maxLen]; omega) (by omega) HBS.out _ rfl ?_
                              intro g cap w1 q1 q2 q3 q4
                              have hbx : w1.heap[w.heap.size]? = some (.cells #[.string ⟨o.toArray⟩, .string ⟨a.toArray⟩, lv] 24 (0, 0)) := (q2.block _ (by have := MB.out.lt; omega) (fun e => by have := (World.ownsRow.lt OA.out _ e.symm).1; omega)).trans MB.out.box
                              have fr : w1.frozen? ⟨w.heap.size, 2, none⟩ = false := frozen_of_row w1 _ _ _ _ hbx
                              have ce : w1.cell? ⟨w.heap.size, 2, none⟩ = some lv := (cell_of_row w1 _ 2 _ _ _ hbx).trans rfl
                              try go_simp
                              refine hK _ _ ?_
                              clear hK K
                              refine wpAny_ready (rs := [9]) (by kernel_rfl) (by simp) ?_
                              refine AllReady.cons rfl (fun K hK => ?_) ?_
                              · skip
                                go_simp
                                refine hK _ _ ?_
                                clear hK K
                                refine wpAny_ready (rs := [10]) (by kernel_rfl) (by simp) ?_
                                refine AllReady.cons rfl (fun K hK => ?_) ?_
                                · skip
                                  go_simp
                                  refine hK _ _ ?_
                                  clear hK K
                                  refine wpAny_done (by kernel_rfl) ?_ _
                                  have D := Lib.hid (dec_step MB.out OA.out hT HC32.out (by omega) q1 q2)
                                  clear q1 q2 q3 q4 hbx fr ce MB OA HBS HBA HBB HSZ HM HO cA cB cC c2
                                  revert D
                                  generalize w1.setCell ⟨w.heap.size, 2, none⟩ (.slice (some ⟨g, 0, none⟩) (j + 1) cap) = wn
                                  intro D
                                  as_aux_lemma =>
                                    go_wp2
                                    exact ⟨⟨j + 1, _, by omega, by rw [HRN.out], D.out.1, D.out.2⟩, hrnl⟩
                                exact AllReady.nil
                              exact AllReady.nil
                            exact AllReady.nil
                          exact AllReady.nil
                        exact AllReady.nil
                      exact AllReady.nil
                    exact AllReady.nil
                  exact AllReady.nil
                · obtain rfl : j = n := by omega
                  have hnil : r.drop (32 * j) = [] := List.eq_nil_of_length_eq_zero (by rw [List.length_drop, HXX.out]; omega)
                  rw [hnil]
                  have O2 : Hid (OwnH wr (w.heap.size + 2) lv hs) := by
                    have h := HO.out
                    rw [List.take_of_length_le (by rw [HCL.out]; omega)] at h
                    exact h
                  obtain ⟨la, cc, rfl⟩ := O2.out.rd.slice
                  have c0 := (cell_of_row wr _ 0 _ _ _ HM.out.box).trans rfl
                  have c1 := (cell_of_row wr _ 1 _ _ _ HM.out.box).trans rfl
                  have c2 := (cell_of_row wr _ 2 _ _ _ HM.out.box).trans rfl
                  clear HO hnil HCG HC32
                  go_wp2_with fail
                  refine (right_any wr ⟨o.toArray⟩ ⟨a.toArray⟩ la hs.length cc).mono ?_
                  rintro e w5 ⟨rfl, hb5⟩
                  have HM5 := Lib.hid (HM.out.keep hb5)
                  have O5 := Lib.hid ((O2.out.below hb5).rd)
                  have hro : rightOf (⟨o.toArray⟩ : ByteArray).data.toList (⟨a.toArray⟩ : ByteArray).data.toList hs.length = rightOf o a hs.length := rfl
                  rw [hro]
                  clear HM O2 hb5 hro c0 c1 c2
                  by_cases h0 : rightOf o a hs.length = 0
                  · have hz : (rightOf o a hs.length == 0) = true := by simp [h0]
                    have hd : decOf l = some (o, a, hs) := by rw [HR2.out, if_pos h0]
                    have HD := Lib.hid hd
                    clear hd h0
                    go_wp2_with (first
                      | refine wpList_load_row rfl _ _ rfl w.heap.size rfl 24 #[.string ⟨o.toArray⟩, .string ⟨a.toArray⟩, .slice la hs.length cc] (0, 0) _ HM5.out.box Tryd.underlying24 rfl (by kernel_rfl) ?_
                      | refine wpList_store_row rfl _ _ _ rfl w.heap.size #[.string ⟨o.toArray⟩, .string ⟨a.toArray⟩, .slice la hs.length cc] rfl rfl 24 #[.string ⟨o.toArray⟩, .string ⟨a.toArray⟩, .slice la hs.length cc] HM5.out.box (by kernel_rfl) rfl (by kernel_rfl) ?_)
                    simp only [Exit.jump]
                    have hbw : Below w5.heap.size w5 w5 := Below.refl _ _
                    have hrd : RdHs (w5.setRow w.heap.size #[.string ⟨o.toArray⟩, .string ⟨a.toArray⟩, .slice la hs.length cc]) (.slice la hs.length cc) hs := rd_setRow O5.out HM5.out.box (by decide)
                    exact bodyPost_ret (results_man_tmp rfl _ _ w.heap.size [.string ⟨o.toArray⟩, .string ⟨a.toArray⟩, .slice la hs.length cc] (.int .i64 0) rfl (setRow_heap _ _ _ _ _ _ HM5.out.box) rfl rfl) rfl ⟨below_setRow HM5.out.below (Nat.le_refl _) _, .inr ⟨o, a, hs, _, HD.out, rfl, hrd⟩⟩
                  · have hz : (rightOf o a hs.length == 0) = false := by simpa using h0
                    have hd : decOf l = none := by rw [HR2.out, if_neg h0]
                    have HD := Lib.hid hd
                    clear hd h0
                    go_wp2_with (refine wpList_load_row rfl _ _ rfl w.heap.size rfl 24 #[.string ⟨o.toArray⟩, .string ⟨a.toArray⟩, .slice la hs.length cc] (0, 0) _ HM5.out.box Tryd.underlying24 rfl (by kernel_rfl) ?_)
                    go_step3
                    go_wp2_with (refine wpList_store_row rfl _ _ _ rfl w.heap.size #[.string ⟨#[]⟩, .string ⟨#[]⟩, .slice none 0 0] rfl rfl 24 #[.string ⟨o.toArray⟩, .string ⟨a.toArray⟩, .slice la hs.length cc] HM5.out.box (by kernel_rfl) rfl (by kernel_rfl) ?_)
                    simp only [Exit.jump]
                    exact bodyPost_ret (results_man_tmp rfl _ _ w.heap.size [.string ⟨#[]⟩, .string ⟨#[]⟩, .slice none 0 0] (.int .i64 3) rfl (setRow_heap _ _ _ _ _ _ HM5.out.box) rfl rfl) rfl ⟨below_setRow HM5.out.below (Nat.le_refl _) _, .inl ⟨HD.out, rfl⟩⟩
            · have hxq : ((r.length : Int) != 32 * x.toNat) = true := by simp; omega
              have HB : Hid (decOf l = none) := by
                show _ = _
                rw [HR.out]; simp only [decT]; rw [if_neg hx]
              clear HR hx
              go_wp2
              go_quiet (fail)
              have HM2 := Lib.hid (HM.out.drew nq)
              clear HM
              go_wp2
              go_step3
              exact ⟨rfl, HB.out, _, _, _, _, _, HM2.out, _, _, _, _, _, _, _, _, _, _, _, _, _, _, _, _, _, _, _, _, _, _, _, _, _, _, _, _, _, _, _, _, _, _, _, _, _, _, _, _, _, _, _, _, _, _, _, _, _, _, _, _, _, _, _, _, _, _, _, _, _, _, _, _, _, _, _, _, _, _, _, _, _, _, _, _, _, _, _, rfl⟩
end Go.Proofs.YtkpcmgacjhjllaaDoor
