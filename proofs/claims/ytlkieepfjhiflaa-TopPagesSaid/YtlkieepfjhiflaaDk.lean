/- What a disk is in memory; a disk is begun: contracts of slices.Clone (rows of sectors) and disk.begun. -/
import Derived.Test.YtlkieepfjhiflaaFr
import Derived.Great.BuildSlice
namespace Go.Proofs.Ytlkieepfjhiflaa
open Go.RowKit

/-- An entry of the map of what waits: its number, the row that it holds, the one write of that row, its stamp. -/
structure Ent where
  k : Nat
  sl : Value
  v : Value
  born : Nat
def Ent.obj (e : Ent) : MapEntry := { key := .int .i64 (e.k : Int), val := e.sl, born := e.born }
/-- A disk: its first sectors, its ops, its safe sectors, and the writes that wait, one a sector. -/
structure DiskAt (w : World) (g bs bm : Nat) (F O S : List Value) (T : List Ent) : Prop where
  box : ∃ fv lv sc, w.heap[g]? = some (.cells #[fv, lv, .slice (some ⟨bs, 0, none⟩) S.length sc, .map (some bm)] 70 (0, 0)) ∧ RdN 22 [g, bs, bm] w fv F ∧ RdN 112 [g, bs, bm] w lv O ∧ S.length ≤ sc
  row : ∃ cs, w.heap[bs]? = some (.cells cs 22 (0, 0)) ∧ cs.toList.take S.length = S ∧ S.length ≤ cs.size
  map : ∃ clock, w.heap[bm]? = some (.map (T.map Ent.obj).toArray clock) ∧ (∀ e ∈ T, e.born < clock) ∧ (T.map (·.born)).Nodup
  ents : ∀ e ∈ T, RdN 22 [g, bs, bm] w e.sl [e.v]
  keys : T.Pairwise (fun a b => a.k < b.k)
  len : F.length = S.length
  keyLt : ∀ e ∈ T, e.k < S.length
  one : ∀ v ∈ F ++ S, ∃ a n c, v = .slice a n c
  oneE : ∀ e ∈ T, ∃ a n c, e.v = .slice a n c
  apart : g ≠ bs ∧ g ≠ bm ∧ bs ≠ bm
theorem DiskAt.lt {w : World} {g bs bm : Nat} {F O S : List Value} {T : List Ent} (D : DiskAt w g bs bm F O S T) : g < w.heap.size ∧ bs < w.heap.size ∧ bm < w.heap.size := by
  obtain ⟨_, _, _, h1, _⟩ := D.box
  obtain ⟨_, h2, _⟩ := D.row
  obtain ⟨_, h3, _⟩ := D.map
  exact ⟨(Array.getElem?_eq_some_iff.1 h1).1, (Array.getElem?_eq_some_iff.1 h2).1, (Array.getElem?_eq_some_iff.1 h3).1⟩
/-- What happens off its blocks is nothing to a disk. -/
theorem DiskAt.fr {w w' : World} {g bs bm : Nat} {F O S : List Value} {T : List Ent} {U : List Nat} (D : DiskAt w g bs bm F O S T) (h : Fr U w w') (hU : ∀ k ∈ U, w.heap.size ≤ k) : DiskAt w' g bs bm F O S T := by
  have hl := D.lt
  have ho : ∀ b, b < w.heap.size → b ∉ U := fun b hb hm => by have := hU b hm; omega
  have hT : ∀ k ∈ U, k ∈ [g, bs, bm] ∨ w.heap.size ≤ k := fun k hk => .inr (hU k hk)
  obtain ⟨fv, lv, sc, h1, h2, h3, h4⟩ := D.box
  obtain ⟨cs, r1, r2, r3⟩ := D.row
  obtain ⟨cl, m1, m2, m3⟩ := D.map
  exact ⟨⟨fv, lv, sc, h.heap (ho _ hl.1) h1, h2.fr h hT, h3.fr h hT, h4⟩, ⟨cs, h.heap (ho _ hl.2.1) r1, r2, r3⟩, ⟨cl, h.heap (ho _ hl.2.2) m1, m2, m3⟩, fun e he => (D.ents e he).fr h hT, D.keys, D.len, D.keyLt, D.one, D.oneE, D.apart⟩

theorem info_row : (Try.prog.info? 22).map (fun i => (i.zero, i.size, i.bytes)) = some (some (.slice none 0 0), 1, 24) := by kernel_rfl

set_option maxHeartbeats 1000000 in
theorem cloneR_any (w : World) (v : Value) (xs : List Value) (hv : RdV w v xs) (hl : xs.length ≤ 4096) (h0 : 0 < xs.length) (h1 : ∀ u ∈ xs, ∃ a n c, u = .slice a n c) :
    Calls Try.prog 34 #[v] w fun e w' => ∃ r, e = .returned r ∧ w'.ownsRow w.heap.size 22 1 r xs.length xs ∧ Below w.heap.size w w' := by
  have q22 : ∀ (w : World) (a : Option Addr) (n c n' c' : Nat), (binOp .eql 58 (.slice a n c) (.slice none n' c')).run Try.prog w = .ok (.bool a.isNone) w := fun w a n c n' c' => Lib.run_eql_slice_nil w _ _ a n c n' c' Try.underlying58
  rcases hv with ⟨rfl, hnil⟩ | ⟨ad, cap, rfl, hle, hc⟩
  · subst hnil; simp at h0
  · obtain ⟨i0, hi, hz0, hz1, hz2⟩ := info_parts info_row
    have hrd : RdV (w.alloc (.cells #[] 22)) (.slice (some ad) xs.length cap) xs := by
      have h0 : RdV w (.slice (some ad) xs.length cap) xs := .inr ⟨ad, cap, rfl, hle, hc⟩
      exact h0.below ((Below.refl _ _).alloc (Nat.le_refl _) _)
    have HV := Lib.hid hrd
    have H1 := Lib.hid h1
    clear hc hrd hle h1
    go_enter Try.func34, Try.ntmps34
    go_wp2_with (refine wpList_app rfl _ _ 58 rfl w.heap.size 22 i0 (.slice none 0 0) 24 Try.underlying58 hi hz0 hz1 hz2 rfl _ 0 [] rfl (World.ownsRow_made w #[] 0 (Nat.le_refl _) (Nat.zero_le _) rfl) _ xs rfl HV.out ?c1 ?c2 (by omega) (by simp) ?_)
    case c1 =>
      intro u hu
      obtain ⟨a, n, c, rfl⟩ := H1.out u hu
      rfl
    case c2 => omega
    try simp only [Nat.zero_add, List.nil_append]
    intro v' w' hown hgr
    have hb := ((Below.refl w.heap.size w).alloc (Nat.le_refl _) (.cells #[] 22)).grown hgr (by simp) (by intro k hk; simp [Value.ownBlock] at hk; omega)
    have HO := Lib.hid hown; have HB := Lib.hid hb
    clear hown hgr hb
    go_wp2
    go_ret
    exact ⟨v', rfl, HO.out, HB.out⟩
theorem begun_disk {w w' : World} {v : Value} {xs : List Value} {gs sc : Nat} {cur : Array Value} (hv : RdN 22 [] w v xs) (h1 : ∀ u ∈ xs, ∃ a n c, u = .slice a n c) (hb : Below w.heap.size w w') (hh : w'.heap[gs]? = some (.cells cur 22 (0, 0)))
    (ht : List.take (xs.length * 1) cur.toList = xs) (hs : cur.size = sc * 1) (hn : xs.length ≤ sc) (hg : w.heap.size ≤ gs) :
    DiskAt ((w'.alloc (.map #[] 0)).alloc (.cells #[v, .slice none 0 0, .slice (some ⟨gs, 0, none⟩) xs.length sc, .map (some w'.heap.size)] 70)) (w'.heap.size + 1) gs w'.heap.size xs [] xs [] := by
  have hlt := (Array.getElem?_eq_some_iff.1 hh).1
  have hF : Fr [] w ((w'.alloc (.map #[] 0)).alloc (.cells #[v, .slice none 0 0, .slice (some ⟨gs, 0, none⟩) xs.length sc, .map (some w'.heap.size)] 70)) := ((Fr.of_below hb).alloc _).alloc _
  have hF2 : Fr [] w' ((w'.alloc (.map #[] 0)).alloc (.cells #[v, .slice none 0 0, .slice (some ⟨gs, 0, none⟩) xs.length sc, .map (some w'.heap.size)] 70)) := ((Fr.refl _ _).alloc _).alloc _
  refine ⟨⟨v, .slice none 0 0, sc, ?_, ?_, .inl ⟨rfl, rfl⟩, hn⟩, ⟨cur, hF2.heap (by simp) hh, by simpa using ht, by omega⟩, ⟨0, ?_, by simp, by simp⟩, by simp, by simp, rfl, by simp, ?_, by simp, ?_⟩
  · have := heap_alloc_new (w'.alloc (.map #[] 0)) (.cells #[v, .slice none 0 0, .slice (some ⟨gs, 0, none⟩) xs.length sc, .map (some w'.heap.size)] 70)
    simpa using this
  · exact (hv.to (fun k hk => .inr (by have := hb.size; simp at hk; omega))).fr hF (by simp)
  · exact ((Fr.refl [] (w'.alloc (.map #[] 0))).alloc _).heap (by simp) (by simpa using heap_alloc_new w' (.map #[] 0))
  · intro u hu
    exact h1 u (by simpa using hu)
  · exact ⟨by omega, by omega, by omega⟩
theorem begun_nil (w' : World) (v : Value) (s : Value) (m : Value) (t : TypeId) : ((w'.alloc (.map #[] 0)).alloc (.cells #[v, .slice none 0 0, s, m] t)).cell? ⟨w'.heap.size + 1, 1, none⟩ = some (.slice none 0 0) := by
  have h := heap_alloc_new (w'.alloc (.map #[] 0)) (.cells #[v, .slice none 0 0, s, m] t)
  have h2 : ((w'.alloc (.map #[] 0)).alloc (.cells #[v, .slice none 0 0, s, m] t)).heap[w'.heap.size + 1]? = some (.cells #[v, .slice none 0 0, s, m] t (0, 0)) := by simpa using h
  rw [cell_of_row _ _ 1 _ _ _ h2]; rfl
set_option maxRecDepth 100000 in
set_option maxHeartbeats 1000000 in
theorem begun2_any (w : World) (v : Value) (xs : List Value) (hv : RdN 22 [] w v xs) (hl : xs.length ≤ 4096) (h0 : 0 < xs.length) (h1 : ∀ u ∈ xs, ∃ a n c, u = .slice a n c) :
    Calls Try.prog 30 #[v] w fun e w' => ∃ g bs bm, e = .returned (.pointer (some ⟨g, 0, none⟩)) ∧ DiskAt w' g bs bm xs [] xs [] ∧ Below w.heap.size w w' ∧ w.heap.size ≤ g ∧ w.heap.size ≤ bs ∧ w.heap.size ≤ bm ∧ w'.cell? ⟨g, 1, none⟩ = some (.slice none 0 0) := by
  have HV := Lib.hid hv; have H1 := Lib.hid h1; have HL := Lib.hid hl; have H0 := Lib.hid h0
  have hmm := @run_makeMap Try.prog
  obtain ⟨a, cap, rfl, hcap, hcv⟩ := hv.open
  clear hv h1 hcv hl h0
  go_enter Try.func30, Try.ntmps30
  go_wp2_with fail
  refine (cloneR_any _ _ xs HV.out.rd HL.out H0.out H1.out).mono ?_
  rintro e w' ⟨r, rfl, hown, hb⟩
  obtain ⟨hlen, hr⟩ := hown
  rcases hr with ⟨_, h00⟩ | ⟨gs, sc, cur, rfl, hg, hh, hn, hm, hs, ht⟩
  · exact absurd H0.out (by omega)
  · have HB := Lib.hid hb; have HH := Lib.hid hh; have HT := Lib.hid ht; have HS := Lib.hid hs; have HN := Lib.hid hn; have HG := Lib.hid hg
    clear hb hh ht hs hn hg hlen hm
    go_wp2
    go_ret
    exact ⟨_, _, _, rfl, begun_disk HV.out H1.out HB.out HH.out HT.out HS.out HN.out HG.out, (HB.out.alloc HB.out.size _).alloc (by have := HB.out.size; simp; omega) _, by have := HB.out.size; omega, HG.out, HB.out.size, begun_nil _ _ _ _ _⟩
theorem begun_any (w : World) (v : Value) (xs : List Value) (hv : RdN 22 [] w v xs) (hl : xs.length ≤ 4096) (h0 : 0 < xs.length) (h1 : ∀ u ∈ xs, ∃ a n c, u = .slice a n c) :
    Calls Try.prog 30 #[v] w fun e w' => ∃ g bs bm, e = .returned (.pointer (some ⟨g, 0, none⟩)) ∧ DiskAt w' g bs bm xs [] xs [] ∧ Below w.heap.size w w' ∧ w.heap.size ≤ g ∧ w.heap.size ≤ bs ∧ w.heap.size ≤ bm :=
  (begun2_any w v xs hv hl h0 h1).mono fun _ _ ⟨g, bs, bm, a, b, c, d, e, f, _⟩ => ⟨g, bs, bm, a, b, c, d, e, f⟩
end Go.Proofs.Ytlkieepfjhiflaa
