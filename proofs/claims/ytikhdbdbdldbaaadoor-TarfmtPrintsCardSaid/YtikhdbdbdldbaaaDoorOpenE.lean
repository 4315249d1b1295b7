/- Opening a slice of entries that comes in as an argument. -/
import Derived.Test.YtikhdbdbdldbaaaDoorOpen
import Derived.Test.YtikhdbdbdldbaaaDoorEnts
import Derived.Lib.SmallJoins
import Derived.Deep.Slices
namespace Go.Proofs.YtikhdbdbdldbaaaDoor
open Go.ChangeShapes Go.WideShapes Go.ChangeAt Go.RowKit Go.Joins

theorem entry_cs : Tryd.prog.cellsOf 31 = 5 := by kernel_rfl
theorem drop_take1 {l : List Value} {i : Nat} {v : Value} (h : l[i]? = some v) : (l.drop i).take 1 = [v] := by
  obtain ⟨hl, hv⟩ := List.getElem?_eq_some_iff.1 h
  rw [List.drop_eq_getElem_cons hl, hv]
  rfl
theorem entry_of {H : Type} {enc : TypeId × Value → H} {w : World} {fuel : Nat} {held : Bool} {cs : List Value} {x : DataW H × List MemPlace}
    (h : DataW.trod enc Tryd.prog w 0 (fun _ => true) held fuel 31 cs = some x) (hcl : cs.length = 5) : ∃ (e : EntD) (dv : Value), cs = eC e dv ∧ RdB w dv e.data ∧ e.name.length ≤ 9223372036854775807 := by
  match cs, hcl with
  | [v0, v1, v2, v3, v4], _ =>
  obtain ⟨xs, n, _, rfl, hl, hlen, hf⟩ := DataW.trod_struct Tryd.underlying31 h
  have k0 : Tryd.prog.cellsOf 9 = 1 := by kernel_rfl
  have k1 : Tryd.prog.cellsOf 29 = 1 := by kernel_rfl
  have k2 : Tryd.prog.cellsOf 3 = 1 := by kernel_rfl
  have k4 : Tryd.prog.cellsOf 23 = 1 := by kernel_rfl
  match xs, hlen with
  | [y0, y1, y2, y3, y4], _ =>
  have g0 : DataW.trod enc Tryd.prog w 0 (fun _ => true) held n 9 ((([v0, v1, v2, v3, v4] : List Value).drop 0).take (Tryd.prog.cellsOf 9)) = some y0 := hf 0 _ rfl
  have g1 : DataW.trod enc Tryd.prog w 0 (fun _ => true) held n 29 ((([v0, v1, v2, v3, v4] : List Value).drop 1).take (Tryd.prog.cellsOf 29)) = some y1 := hf 1 _ rfl
  have g2 : DataW.trod enc Tryd.prog w 0 (fun _ => true) held n 3 ((([v0, v1, v2, v3, v4] : List Value).drop 2).take (Tryd.prog.cellsOf 3)) = some y2 := hf 2 _ rfl
  have g3 : DataW.trod enc Tryd.prog w 0 (fun _ => true) held n 9 ((([v0, v1, v2, v3, v4] : List Value).drop 3).take (Tryd.prog.cellsOf 9)) = some y3 := hf 3 _ rfl
  have g4 : DataW.trod enc Tryd.prog w 0 (fun _ => true) held n 23 ((([v0, v1, v2, v3, v4] : List Value).drop 4).take (Tryd.prog.cellsOf 23)) = some y4 := hf 4 _ rfl
  rw [k0, drop_take1 rfl] at g0 g3
  rw [k1, drop_take1 rfl] at g1
  rw [k2, drop_take1 rfl] at g2
  rw [k4, drop_take1 rfl] at g4
  obtain ⟨s0, e0, _, z0⟩ := DataW.trod_string Tryd.underlying9 g0
  obtain ⟨s3, e3, _, z3⟩ := DataW.trod_string Tryd.underlying9 g3
  obtain ⟨i1, e1, _, _⟩ := DataW.trod_int Tryd.underlying29 g1
  obtain ⟨i2, e2, _, _⟩ := DataW.trod_int Tryd.underlying3 g2
  obtain ⟨l, hr, _⟩ := bytes_of g4
  have q : ∀ s : ByteArray, bs s.data.toList = s := fun s => by simp [bs]
  refine ⟨⟨s0.data.toList, i1, i2, s3.data.toList, l⟩, v4, ?_, hr, ?_⟩
  · show [v0, v1, v2, v3, v4] = [.string (bs s0.data.toList), .int .i64 i1, .int .i64 i2, .string (bs s3.data.toList), v4]
    rw [q, q, (List.cons.inj e0).1, (List.cons.inj e1).1, (List.cons.inj e2).1, (List.cons.inj e3).1]
  · simp only [maxLen] at z0
    show s0.data.toList.length ≤ _
    rw [Array.length_toList]
    exact z0
instance entInhabited : Inhabited EntD := ⟨⟨[], 0, 0, [], []⟩⟩
set_option maxRecDepth 100000 in
theorem entries_open {H : Type} {enc : TypeId × Value → H} {w : World} {base : Nat} {v : Value} {d : DataW H} {p : List MemPlace} (hval : Value.okWide Tryd.prog w .any base 22 v)
    (h : DataW.Trod enc Tryd.prog w 0 (fun _ => true) true 22 v d p) : ∃ es, RdEs w v es ∧ ∀ e ∈ es, e.name.length ≤ 9223372036854775807 := by
  obtain ⟨a0, len0, cap0, rfl⟩ := okWide_slice Tryd.underlying22 hval
  obtain ⟨fuel, h⟩ := h
  rcases Go.Deep.open_slice Tryd.underlying22 h with ⟨hcs, _⟩ | ⟨a, len, cap, m, n, D, Pl, hcs, _, hl, hm, hmm, hx, hi⟩
  · have : (Value.slice a0 len0 cap0) = .slice none 0 0 := by simpa [Value.cells] using hcs
    exact ⟨[], this ▸ RdEs.nil w, by simp⟩
  · have hv : (Value.slice a0 len0 cap0) = .slice (some a) len cap := by simpa [Value.cells] using hcs
    have hmm : m = cap := by simpa using hmm
    have each : ∀ i, i < len → ∃ e : EntD, e.name.length ≤ 9223372036854775807 ∧ ∃ b off dv, a = ⟨b, off, none⟩ ∧ w.rangeAt b (off + i * 5) (eC e dv) ∧ RdB w dv e.data := by
      intro i hil
      obtain ⟨cs', hc, ht⟩ := hi i (by omega)
      rw [entry_cs] at hc
      obtain ⟨_, hcl, hat⟩ := World.cells?_some hc
      obtain ⟨e, dv, rfl, hrd, hsz⟩ := entry_of ht hcl
      refine ⟨e, hsz, ?_⟩
      obtain ⟨b, off, pr⟩ := a
      cases pr with
      | none =>
        refine ⟨b, off, dv, rfl, fun j u hj => ?_, hrd⟩
        have hj5 : j < 5 := by
          have := (List.getElem?_eq_some_iff.1 hj).1
          simpa [eC] using this
        have h1 := hat j hj5
        rw [Addr.add_mid, Addr.add_mid] at h1
        rw [h1]; exact hj
      | some q =>
        exfalso
        obtain ⟨cs0, hc0, ht0⟩ := hi 0 (by omega)
        rw [entry_cs] at hc0
        obtain ⟨_, hcl0, hat0⟩ := World.cells?_some hc0
        obtain ⟨e0, dv0, rfl, _, _⟩ := entry_of ht0 hcl0
        have h0 := hat0 0 (by omega)
        simp [Addr.add, World.cell?, eC] at h0
        split at h0 <;> simp at h0
    obtain ⟨f, hf⟩ := Go.Deep.choose_lt (α := EntD) (n := len) (p := fun i e => e.name.length ≤ 9223372036854775807 ∧ ∃ b off dv, a = ⟨b, off, none⟩ ∧ w.rangeAt b (off + i * 5) (eC e dv) ∧ RdB w dv e.data) each
    refine ⟨(List.range len).map f, ⟨some a, cap, by rw [hv]; simp, by simpa using hl, by simp only [maxLen] at hm; omega, fun i y hy => ?_⟩, ?_⟩
    · have hil : i < len := by
        have := (List.getElem?_eq_some_iff.1 hy).1
        simpa using this
      have e : y = f i := by simpa [hil] using hy.symm
      rw [e]
      obtain ⟨_, b, off, dv, ha, hr, hd⟩ := hf i hil
      exact ⟨b, off, dv, by rw [ha], hr, hd⟩
    · intro e he
      obtain ⟨i, hi, rfl⟩ := List.mem_map.1 he
      exact (hf i (by simpa using hi)).1
theorem bytes_open2 {H : Type} {enc : TypeId × Value → H} {w : World} {base : Nat} {v : Value} {d : DataW H} {p : List MemPlace} (hval : Value.okWide Tryd.prog w .any base 23 v)
    (h : DataW.Trod enc Tryd.prog w 0 (fun _ => true) true 23 v d p) : ∃ l : List UInt8, RdB w v l ∧ l.length ≤ 9223372036854775807 ∧ ∀ a n c, v = .slice a n c → c ≤ 9223372036854775807 := by
  obtain ⟨l, h1, _⟩ := bytes_open hval h
  obtain ⟨a0, len0, cap0, rfl⟩ := okWide_slice Tryd.underlying23 hval
  obtain ⟨fuel, hf⟩ := h
  have hcap : cap0 ≤ 9223372036854775807 := by
    rcases open_ints Tryd.underlying23 Tryd.underlying5 bytes_cells hf with ⟨hcs, _⟩ | ⟨a, len, cap, zs, hcs, _, hl, hm, _⟩
    · have : (Value.slice a0 len0 cap0) = .slice none 0 0 := by simpa [Value.cells] using hcs
      cases this
      omega
    · have : (Value.slice a0 len0 cap0) = .slice (some a) len cap := by simpa [Value.cells] using hcs
      cases this
      simp only [maxLen] at hm
      omega
  refine ⟨l, h1, ?_, fun a n c e => by cases e; exact hcap⟩
  obtain ⟨a, c, e, hle⟩ := rd_slice h1
  cases e
  omega
end Go.Proofs.YtikhdbdbdldbaaaDoor
