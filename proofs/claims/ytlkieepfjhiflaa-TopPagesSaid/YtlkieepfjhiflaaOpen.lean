/- Opening an argument of bytes: what the reading says, as a list; and the reach. -/
import Derived.Test.YtlkieepfjhiflaaBase
import Derived.ProofKit
import Derived.OpenShut
import Derived.SizedLaws
namespace Go.Proofs.Ytlkieepfjhiflaa
open Go.ChangeShapes Go.WideShapes Go.ChangeAt Go.RowKit

theorem Try.own : ownKnob Try.prog.godebug = none := by kernel_rfl
theorem Try.laidOut : laidOutB Try.prog = true := by kernel_rfl
theorem bytes_cells : Try.prog.cellsOf 5 = 1 := by kernel_rfl
theorem bytes_bytes : Try.prog.bytesOf 5 = 1 := by kernel_rfl

theorem wf_u8 {z : Int} (h : (Lit.int .u8 z).wf = true) : n8 (UInt8.ofNat z.toNat) = z := by
  have hx : 0 ≤ z ∧ z ≤ 255 := by simpa [Lit.wf, IntKind.min, IntKind.max, IntKind.signed, IntKind.bits] using h
  unfold n8
  rw [UInt8.toNat_ofNat']
  omega

set_option maxRecDepth 100000 in
theorem bytes_of {H : Type} {enc : TypeId × Value → H} {w : World} {base : Nat} {held : Bool} {fuel : Nat} {v : Value} {x : DataW H × List MemPlace}
    (h : DataW.trod enc Try.prog w base (fun _ => true) held fuel 22 [v] = some x) :
    ∃ l : List UInt8, RdB w v l ∧ ((x.1.weights Try.prog 22).all (· ≤ reachBytes) = true → l.length ≤ 140737488351232) := by
  rcases open_ints Try.underlying22 Try.underlying5 bytes_cells h with ⟨hcs, hx⟩ | ⟨a, len, cap, zs, hcs, _, hl, hm, hz, hx, hcell, hwz⟩
  · have : v = .slice none 0 0 := by simpa using hcs
    subst this
    exact ⟨[], .inl ⟨rfl, rfl⟩, fun _ => by simp⟩
  · have : v = .slice (some a) len cap := by simpa using hcs
    subst this
    have hz : zs.length = cap := by simpa using hz
    refine ⟨(zs.take len).map fun z => UInt8.ofNat z.toNat, .inr ⟨a, cap, ?_, ?_, fun j u hj => ?_⟩, fun hw => ?_⟩
    · simp [hz, Nat.min_eq_left hl]
    · simp; omega
    · have hjl : j < len ∧ j < zs.length := by
        have := (List.getElem?_eq_some_iff.1 hj).1
        simp at this
        omega
      obtain ⟨b, off, rfl, hc⟩ := ints_at hcell (by omega)
      refine ⟨b, off, rfl, ?_⟩
      have hwj := hwz zs[j] (List.getElem_mem hjl.2)
      have hu : u = .int .u8 zs[j] := by
        simp only [List.map_map, List.getElem?_map, List.getElem?_take, hjl.1, if_true, List.getElem?_eq_getElem hjl.2, Option.map_some, Option.some.injEq] at hj
        rw [← hj]
        show vB (UInt8.ofNat zs[j].toNat) = _
        rw [vB, wf_u8 hwj]
      rw [hu]
      simpa [hjl.2] using hc j hjl.2
    · subst hx
      simp only [DataW.weights, Try.underlying22, bytes_bytes, List.all_cons, Bool.and_eq_true, decide_eq_true_eq] at hw
      have h1 := hw.1
      simp only [lits, List.length_map, List.length_take, List.length_drop, reachBytes] at h1
      simp only [List.length_map, List.length_take]
      omega

set_option maxRecDepth 100000 in
theorem bytes_open {H : Type} {enc : TypeId × Value → H} {w : World} {base : Nat} {v : Value} {d : DataW H} {p : List MemPlace} (hval : Value.okWide Try.prog w .any base 22 v)
    (h : DataW.Trod enc Try.prog w 0 (fun _ => true) true 22 v d p) :
    ∃ l : List UInt8, RdB w v l ∧ ((d.weights Try.prog 22).all (· ≤ reachBytes) = true → l.length ≤ 140737488351232) := by
  obtain ⟨a0, len, cap, rfl⟩ := okWide_slice Try.underlying22 hval
  obtain ⟨fuel, hf⟩ := h
  exact bytes_of hf
theorem weights_at {H : Type} {P : Program} {ts : List TypeId} {ds : List (DataW H)} (h : (DataW.weightsEach P ts ds).all (· ≤ reachBytes) = true) {j : Nat} {t : TypeId} {d : DataW H} (ht : ts[j]? = some t) (hd : ds[j]? = some d) :
    (d.weights P t).all (· ≤ reachBytes) = true :=
  List.all_eq_true.2 fun n hn => List.all_eq_true.1 h n (DataW.weights_mem_each ht hd n hn)
end Go.Proofs.Ytlkieepfjhiflaa
