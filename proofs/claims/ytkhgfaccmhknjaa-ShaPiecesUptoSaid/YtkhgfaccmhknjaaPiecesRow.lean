/- The row of ShaPieces, proved in its second form (at inputs of a bounded bulk). -/
import Derived.Test.YtkhgfaccmhknjaaPieces
import Derived.Test.YtkhgfaccmhknjaaOpen
import Derived.JoinedCond
import Derived.Deep.Slices
namespace Go.Proofs.Ytkhgfaccmhknjaa
open Go.ChangeShapes Go.WideShapes Go.ChangeAt Go.RowKit

theorem bulk_one {H : Type} (d : DataW H) : 1 ≤ Rows.uptoBulk d := by
  cases d with
  | lit l => cases l <;> simp [Rows.uptoBulk]
  | nil => simp [Rows.uptoBulk]
  | ptr d => simp [Rows.uptoBulk]
  | slice elems spare => simp [Rows.uptoBulk]
  | agg parts => simp [Rows.uptoBulk]
  | iface t d => simp [Rows.uptoBulk]
  | map entries => simp [Rows.uptoBulk]
  | held h => simp [Rows.uptoBulk]
theorem bulk_len {H : Type} (l : List (DataW H)) : l.length ≤ Rows.uptoBulkAll l := by
  induction l with
  | nil => simp [Rows.uptoBulkAll]
  | cons x r ih => have := bulk_one x; simp only [Rows.uptoBulkAll, List.length_cons]; omega

theorem bytes_bulk {H : Type} {enc : TypeId × Value → H} {w : World} {base : Nat} {held : Bool} {fuel : Nat} {v : Value} {x : DataW H × List MemPlace}
    (h : DataW.trod enc Try.prog w base (fun _ => true) held fuel 22 [v] = some x) :
    ∃ l : List UInt8, RdB w v l ∧ l.length ≤ Rows.uptoBulk x.1 := by
  rcases open_ints Try.underlying22 Try.underlying5 bytes_cells h with ⟨hcs, hx⟩ | ⟨a, len, cap, zs, hcs, _, hl, hm, hz, hx, hcell, hwz⟩
  · have : v = .slice none 0 0 := by simpa using hcs
    subst this
    exact ⟨[], .inl ⟨rfl, rfl⟩, by simp⟩
  · obtain ⟨l, h1, _⟩ := bytes_of h
    have hv : v = .slice (some a) len cap := by simpa using hcs
    refine ⟨l, h1, ?_⟩
    have hle : len = l.length := by
      subst hv
      have := (RdV.le h1).1
      simpa using this
    have hz : zs.length = cap := by simpa using hz
    subst hx
    have := bulk_len (lits (H := H) .u8 (zs.take len))
    simp only [Rows.uptoBulk]
    simp only [lits, List.length_map, List.length_take] at this ⊢
    omega
theorem flatten_bulk {H : Type} (f : Nat → List UInt8) (D : Nat → DataW H) : ∀ is : List Nat, (∀ i ∈ is, (f i).length ≤ Rows.uptoBulk (D i)) → (is.map f).flatten.length ≤ Rows.uptoBulkAll (is.map D)
  | [], _ => by simp
  | i :: is, h => by
    have h1 := h i (by simp)
    have h2 := flatten_bulk f D is (fun j hj => h j (by simp [hj]))
    simp only [List.map_cons, List.flatten_cons, List.length_append, Rows.uptoBulkAll]
    omega

theorem pieces_open {H : Type} {enc : TypeId × Value → H} {w : World} {base : Nat} {v : Value} {d : DataW H} {p : List MemPlace} (hval : Value.okWide Try.prog w .any base 36 v)
    (h : DataW.Trod enc Try.prog w 0 (fun _ => true) true 36 v d p) : ∃ ls : List (List UInt8), RdP w v ls ∧ ls.flatten.length ≤ Rows.uptoBulk d ∧ ls.length ≤ Rows.uptoBulk d := by
  obtain ⟨a0, len0, cap0, rfl⟩ := okWide_slice Try.underlying36 hval
  obtain ⟨fuel, hf⟩ := h
  rcases Go.Deep.open_slice1 Try.underlying36 (show Try.prog.cellsOf 22 = 1 by kernel_rfl) hf with ⟨hcs, hx⟩ | ⟨a, len, cap, m, n, V, D, Pl, hcs, _, hl, hm, hmm, hx, hi⟩
  · have : (Value.slice a0 len0 cap0) = .slice none 0 0 := by simpa [Value.cells] using hcs
    rw [this]
    exact ⟨[], ⟨[], .inl ⟨rfl, rfl⟩, rfl, fun i h => absurd h (by simp)⟩, by simp, by simp⟩
  · have hv : (Value.slice a0 len0 cap0) = .slice (some a) len cap := by simpa [Value.cells] using hcs
    rw [hv]
    have hmm : m = cap := by simpa using hmm
    obtain ⟨f, hf⟩ := Go.Deep.choose_lt (α := List UInt8) (n := len) (p := fun i l => RdB w (V i) l ∧ l.length ≤ Rows.uptoBulk (D i)) (fun i hil => bytes_bulk (hi i (by omega)).2)
    have hd : d = .slice ((List.range len).map D) ((List.range (m - len)).map fun j => D (len + j)) := (Prod.mk.inj hx).1
    have hb : Rows.uptoBulkAll ((List.range len).map D) + 1 ≤ Rows.uptoBulk d := by rw [hd]; simp only [Rows.uptoBulk]; omega
    refine ⟨(List.range len).map f, ⟨(List.range len).map V, .inr ⟨a, cap, by simp, by simpa using hl, fun j u hj => ?_⟩, by simp, fun i h1 h2 => ?_⟩, ?_, ?_⟩
    · have hjl : j < len := by
        have := (List.getElem?_eq_some_iff.1 hj).1
        simpa using this
      have hc := (hi j (by omega)).1
      have hu : V j = u := by simpa [hjl] using hj
      rw [hu] at hc
      obtain ⟨b, off, pr⟩ := a
      cases pr with
      | none =>
        refine ⟨b, off, rfl, ?_⟩
        have hadd : (⟨b, off, none⟩ : Addr).add j = ⟨b, off + j, none⟩ := by unfold Addr.add; split <;> simp_all
        rw [hadd] at hc
        exact hc
      | some q =>
        have h0 := (hi 0 (by omega)).1
        simp [Addr.add, World.cell?] at h0
        split at h0 <;> simp at h0
    · have hil : i < len := by simpa using h1
      simpa using (hf i hil).1
    · have := flatten_bulk f D (List.range len) (fun i hil => (hf i (by simpa using hil)).2)
      omega
    · have := bulk_len ((List.range len).map D)
      simp only [List.length_map, List.length_range] at this ⊢
      omega

set_option maxRecDepth 100000 in
theorem pieces_contract (H : Type) (enc : TypeId × Value → H) (W : World) (base : Nat) (args : Array Value) (ds gs : List (DataW H)) (before : List MemPlace)
    (hval : ∀ (j : Nat) t v, Try.f6.params[j]? = some t → args[j]? = some v → Value.okWide Try.prog W .any base t v)
    (hW : DataW.Whole enc Try.prog Try.f6.params.toList Rows.shaPiecesSpec.vars false W args.toList ds gs before) (hk : Rows.uptoSmall H (ds ++ gs) = true) :
    Calls Try.prog 6 args W fun e W' => ∃ v, e = .returned v ∧ Rows.shaPiecesSpec.post enc Try.prog Try.f6 false true false false W args v W' := by
  have hW' := hW
  obtain ⟨p, q, hA0, hV, rfl, hfz, hnd⟩ := hW
  have hA : DataW.TrodAll enc Try.prog W 0 (fun _ => true) true Try.f6.params.toList args.toList ds p := hA0
  rw [Try.params6] at hA hval
  obtain ⟨v0, v1, d0, d1, p0, p1, rfl, rfl, rfl, h0, h1⟩ := trodAll_two hA
  obtain ⟨rfl, rfl⟩ := trodVars_none hV
  obtain ⟨ls, hrd, hfl, hln⟩ := pieces_open (hval 0 36 v0 rfl rfl) h0
  obtain ⟨a1, len1, cap1, rfl⟩ := okWide_slice Try.underlying22 (hval 1 22 v1 rfl rfl)
  obtain ⟨fuel1, hf1⟩ := id h1
  obtain ⟨more, hmo, hml⟩ := bytes_bulk hf1
  have hb : Rows.uptoBulkAll [d0, d1] ≤ 1048576 := of_decide_eq_true hk
  simp only [Rows.uptoBulkAll] at hb
  clear hA0 hk
  have hlt0 : ∀ x ∈ p0, x.block < W.heap.size := fun x hx => hW'.lt x (by simp [hx])
  have hlt1 : ∀ x ∈ p1, x.block < W.heap.size := fun x hx => hW'.lt x (by simp [hx])
  refine (pieces_any W v0 _ ls more hrd hmo (by simp only at hml; omega) (by omega)).mono fun e W' ⟨he, hb⟩ => ?_
  subst he
  refine ⟨_, rfl, _, _, _, [], p0 ++ p1, [], hW', ?_, ?_, ?_, hb.frame _, fun h => by cases h⟩
  · exact trodAll_mk1 (shut_bool Try.underlying4 true)
  · exact trodAll_mk2 (Below.trod Try.laidOut (by kernel_rfl) (of_decide_eq_true (by kernel_rfl)) h0 hb hlt0) (Below.trod Try.laidOut (by kernel_rfl) (of_decide_eq_true (by kernel_rfl)) h1 hb hlt1)
  · rfl

set_option maxRecDepth 100000 in
theorem pieces_lifted (os : Os) (started : os.Started) (H : Type) (enc : TypeId × Value → H) (F : Stop.Interp) :
    ReturnsInHanded {} Try.checked os 6 .any ((Rows.OpenSpec.upto Rows.shaPiecesSpec).pre6 enc Try.prog Try.f6 Rows.shaPiecesUptoRow.domain false) (((Rows.OpenSpec.upto Rows.shaPiecesSpec).at F).post enc Try.prog Try.f6 false true false false) := by
  refine returnsInHanded_of_cond (C := Try.checked) (s := Rows.OpenSpec.upto Rows.shaPiecesSpec) (k := Rows.uptoSmall) rfl Try.own started (by kernel_rfl) Try.func6
    (OpenSpec.witness (enc := enc) (C := Try.checked) (s := Rows.OpenSpec.upto Rows.shaPiecesSpec) (k := Rows.uptoSmall) rfl false ⟨#[], #[.slice none 0 0, .slice none 0 0], []⟩ 8 (by kernel_rfl) (by kernel_rfl) (by kernel_rfl)
      (x := ([.nil, .nil], [], [])) (by kernel_rfl) rfl (by kernel_rfl)) ?_
  intro W base args ds gs before hval hW _ hk _
  exact pieces_contract H enc W base args ds gs before hval hW hk

theorem pieces_proved : Rows.ShaPiecesUptoSaid :=
  OpenClaim.holds_of_cond 6 Try.f6 rfl rfl rfl rfl rfl rfl rfl ⟨rfl, rfl, rfl, rfl, rfl⟩ rfl rfl rfl rfl rfl (by kernel_rfl) Try.func6 (by kernel_rfl)
    (of_decide_eq_true (by kernel_rfl)) (by unfold Func.isWrapper; first | (rw [if_pos (by decide +kernel)]; kernel_rfl) | (rw [if_neg (by decide +kernel)]; exact ⟨rfl, rfl⟩))
    (fun os started H enc _ F => pieces_lifted os started H enc F)
end Go.Proofs.Ytkhgfaccmhknjaa
