/- Opening a manifest that comes in as an argument; the row's frame. -/
import Derived.Test.YtkpcmgacjhjllaaDoorOpen
import Derived.Test.YtkpcmgacjhjllaaDoorRight
import Derived.Test.YtkpcmgacjhjllaaDoorOwn
import Derived.Lib.SmallJoins
import Derived.Deep.Slices
namespace Go.Proofs.YtkpcmgacjhjllaaDoor
open Go.ChangeShapes Go.WideShapes Go.ChangeAt Go.RowKit Go.Joins

theorem hash_cs : Tryd.prog.cellsOf 33 = 32 := by kernel_rfl
theorem hash_of {H : Type} {enc : TypeId × Value → H} {w : World} {base : Nat} {sp : Nat → Bool} {held : Bool} {fuel : Nat} {cs : List Value} {x : DataW H × List MemPlace}
    (h : DataW.trod enc Tryd.prog w base sp held fuel 33 cs = some x) (hcl : cs.length = 32) : ∃ l : List UInt8, l.length = 32 ∧ cs = l.map vB := by
  obtain ⟨xs, m, rfl, hx, _, hl, hi⟩ := DataW.trod_array Tryd.underlying33 h
  have each : ∀ i (hi : i < cs.length), ∃ z, cs[i] = .int .u8 z ∧ (Lit.int .u8 z).wf = true := by
    intro i hic
    have h1 := hi i (by omega)
    rw [bytes_cells] at h1
    have h2 : i < xs.length := by omega
    rw [List.getElem?_eq_getElem h2] at h1
    obtain ⟨z, e0, _, wz⟩ := DataW.trod_int Tryd.underlying5 h1
    refine ⟨z, ?_, wz⟩
    have h3 : (List.take 1 (List.drop i cs)) = [cs[i]] := by
      rw [List.drop_eq_getElem_cons hic]
      rfl
    simp only [Nat.mul_one] at e0
    rw [h3] at e0
    simpa using e0
  refine ⟨cs.map fun v => UInt8.ofNat (intOf v).toNat, by simp [hcl], ?_⟩
  refine List.ext_getElem (by simp) fun i h1 h2 => ?_
  obtain ⟨z, hz, wz⟩ := each i h1
  simp only [List.map_map, List.getElem_map, Function.comp]
  rw [hz]
  show _ = Value.int .u8 (n8 (UInt8.ofNat z.toNat))
  rw [wf_u8 wz]

theorem hashes_open {H : Type} {enc : TypeId × Value → H} {w : World} {held : Bool} {fuel : Nat} {v : Value} {x : DataW H × List MemPlace}
    (h : DataW.trod enc Tryd.prog w 0 (fun _ => true) held fuel 22 [v] = some x) : ∃ hs, RdHs w v hs := by
  rcases Go.Deep.open_slice Tryd.underlying22 h with ⟨hcs, _⟩ | ⟨a, len, cap, m, n, D, Pl, hcs, _, hl, hm, hmm, hx, hi⟩
  · have : v = .slice none 0 0 := by simpa using hcs
    exact ⟨[], this ▸ RdHs.nil w⟩
  · have hv : v = .slice (some a) len cap := by simpa using hcs
    have hmm : m = cap := by simpa using hmm
    have each : ∀ i, i < len → ∃ l : List UInt8, l.length = 32 ∧ ∃ b off, a = ⟨b, off, none⟩ ∧ w.rangeAt b (off + i * 32) (l.map vB) := by
      intro i hil
      obtain ⟨cs', hc, ht⟩ := hi i (by omega)
      rw [hash_cs] at hc
      obtain ⟨_, hcl, hat⟩ := World.cells?_some hc
      obtain ⟨l, hl32, rfl⟩ := hash_of ht hcl
      refine ⟨l, hl32, ?_⟩
      obtain ⟨b, off, pr⟩ := a
      cases pr with
      | none =>
        refine ⟨b, off, rfl, fun j u hj => ?_⟩
        have hj32 : j < 32 := by
          have := (List.getElem?_eq_some_iff.1 hj).1
          simpa [hl32] using this
        have h1 := hat j hj32
        rw [Addr.add_mid, Addr.add_mid] at h1
        rw [h1]; exact hj
      | some q =>
        exfalso
        obtain ⟨cs0, hc0, ht0⟩ := hi 0 (by omega)
        rw [hash_cs] at hc0
        obtain ⟨_, hcl0, hat0⟩ := World.cells?_some hc0
        obtain ⟨l0, hl0, rfl⟩ := hash_of ht0 hcl0
        have h0 := hat0 0 (by omega)
        simp [Addr.add, World.cell?] at h0
        split at h0 <;> simp [hl0] at h0
    obtain ⟨f, hf⟩ := Go.Deep.choose_lt (α := List UInt8) (n := len) (p := fun i l => l.length = 32 ∧ ∃ b off, a = ⟨b, off, none⟩ ∧ w.rangeAt b (off + i * 32) (l.map vB)) each
    refine ⟨(List.range len).map f, some a, cap, by rw [hv]; simp, by simpa using hl, by simp only [maxLen] at hm; omega, fun i y hy => ?_⟩
    have hil : i < len := by
      have := (List.getElem?_eq_some_iff.1 hy).1
      simpa using this
    have e : y = f i := by simpa [hil] using hy.symm
    rw [e]
    obtain ⟨h1, b, off, ha, hr⟩ := hf i hil
    exact ⟨h1, b, off, by rw [ha], hr⟩

theorem man_open {H : Type} {enc : TypeId × Value → H} {w : World} {base : Nat} {v : Value} {d : DataW H} {p : List MemPlace} (hval : Value.okWide Tryd.prog w .any base 24 v)
    (h : DataW.Trod enc Tryd.prog w 0 (fun _ => true) true 24 v d p) : ∃ (o a : ByteArray) (lv : Value) (hs : List (List UInt8)), v = mV o a lv ∧ RdHs w lv hs ∧ o.size ≤ 9223372036854775807 ∧ a.size ≤ 9223372036854775807 := by
  obtain ⟨v0, v1, v2, y0, y1, y2, n, rfl, _, _, h0, h1, h2⟩ := open_agg3 Tryd.underlying24 (by kernel_rfl) (by kernel_rfl) hval h
  obtain ⟨o, e0, _, s0⟩ := DataW.trod_string Tryd.underlying9 h0
  obtain ⟨a, e1, _, s1⟩ := DataW.trod_string Tryd.underlying9 h1
  obtain ⟨hs, hr⟩ := hashes_open h2
  simp only [maxLen] at s0 s1
  exact ⟨o, a, v2, hs, by rw [List.cons.inj e0 |>.1, List.cons.inj e1 |>.1]; rfl, hr, by omega, by omega⟩
end Go.Proofs.YtkpcmgacjhjllaaDoor
