/- What a log's ops do with a disk that may crash at any of them: plain lists. 'R v l': the value v reads as the bytes l. -/
import Derived.Test.YtlkieepfjhiflaaCrashed
import Derived.Test.YtlkieepfjhiflaaNew
namespace Go.Proofs.Ytlkieepfjhiflaa
open Go.RowKit Go.ChangeMaps

/-- Sector i reads as the bytes l. -/
def At (R : Value → List UInt8 → Prop) (D : List Value) (i : Nat) (l : List UInt8) : Prop := ∃ v, D[i]? = some v ∧ R v l
/-- A head's bytes. -/
def hdL (ns : List Nat) : List UInt8 := [0x44, 0x4e, UInt8.ofNat (ns.length / 256), UInt8.ofNat ns.length] ++ (ns.map fun n => [UInt8.ofNat (n / 256), UInt8.ofNat n]).flatten
def hdB (ns : List Nat) : List UInt8 := hdL ns ++ List.replicate (512 - (4 + 2 * ns.length)) 0
/-- Writes of values to sectors. -/
def mkW (f : Nat → Nat) (ks : List Nat) (vs : List Value) : List (Nat × Value) := (ks.zip vs).map fun p => (f p.1, p.2)
theorem mkW_nil (f : Nat → Nat) (ks : List Nat) : mkW f ks [] = [] := by simp [mkW]
theorem mkW_snoc (f : Nat → Nat) {ks : List Nat} {vs : List Value} {k : Nat} (v : Value) (h : ks[vs.length]? = some k) : mkW f ks (vs ++ [v]) = mkW f ks vs ++ [(f k, v)] := by
  unfold mkW
  induction vs generalizing ks with
  | nil =>
    cases ks with
    | nil => simp at h
    | cons a ks => simp at h; subst h; simp
  | cons x vs ih =>
    cases ks with
    | nil => simp at h
    | cons a ks =>
      simp only [List.length_cons, List.getElem?_cons_succ] at h
      simp only [List.cons_append, List.zip_cons_cons, List.map_cons]
      rw [ih h]
theorem mkW_mem {f : Nat → Nat} {ks : List Nat} {vs : List Value} {i : Nat} {v : Value} (h : (i, v) ∈ mkW f ks vs) : ∃ j k : Nat, ks[j]? = some k ∧ vs[j]? = some v ∧ i = f k := by
  unfold mkW at h
  obtain ⟨⟨k, x⟩, h1, h2⟩ := List.mem_map.1 h
  obtain ⟨j, hj⟩ := List.getElem?_of_mem h1
  rw [List.getElem?_zip_eq_some] at hj
  simp only [Prod.mk.injEq] at h2
  obtain ⟨rfl, rfl⟩ := h2
  exact ⟨j, k, hj.1, hj.2, rfl⟩
theorem mkW_at {f : Nat → Nat} {ks : List Nat} {vs : List Value} {j k : Nat} {v : Value} (h1 : ks[j]? = some k) (h2 : vs[j]? = some v) : (mkW f ks vs)[j]? = some (f k, v) := by
  unfold mkW
  rw [List.getElem?_map, (List.getElem?_zip_eq_some (z := (k, v))).2 ⟨h1, h2⟩]; rfl
theorem mkW_rise {f : Nat → Nat} (hf : ∀ a b, a < b → f a < f b) {ks : List Nat} (hk : ks.Pairwise (· < ·)) (vs : List Value) : (mkW f ks vs).Pairwise (fun a b => a.1 < b.1) := by
  rw [List.pairwise_iff_getElem]
  intro i j hi hj hij
  obtain ⟨⟨a, x⟩, hx⟩ : ∃ p, (mkW f ks vs)[i]? = some p := ⟨_, List.getElem?_eq_getElem hi⟩
  obtain ⟨⟨b, y⟩, hy⟩ : ∃ p, (mkW f ks vs)[j]? = some p := ⟨_, List.getElem?_eq_getElem hj⟩
  have go : ∀ {q : Nat} {c : Nat} {z : Value}, (mkW f ks vs)[q]? = some (c, z) → ∃ k : Nat, ks[q]? = some k ∧ c = f k := by
    intro q c z h
    unfold mkW at h
    rw [List.getElem?_map] at h
    obtain ⟨⟨k, x⟩, h1, h2⟩ := Option.map_eq_some_iff.1 h
    rw [List.getElem?_zip_eq_some] at h1
    simp only [Prod.mk.injEq] at h2
    exact ⟨k, h1.1, h2.1.symm⟩
  obtain ⟨k, hk1, rfl⟩ := go hx
  obtain ⟨k', hk2, rfl⟩ := go hy
  rw [List.getElem?_eq_getElem hi] at hx
  rw [List.getElem?_eq_getElem hj] at hy
  rw [Option.some.inj hx, Option.some.inj hy]
  exact hf _ _ (by
    obtain ⟨h1, e1⟩ := List.getElem?_eq_some_iff.1 hk1
    obtain ⟨h2, e2⟩ := List.getElem?_eq_some_iff.1 hk2
    rw [← e1, ← e2]
    exact List.pairwise_iff_getElem.1 hk i j h1 h2 hij)
theorem fluP_off {P : List Value} {m : List (Nat × Value)} {i : Nat} (h : ∀ v, (i, v) ∉ m) : (fluP P m)[i]? = P[i]? := by
  by_cases hi : i < P.length
  · have h1 : i < (fluP P m).length := by rw [fluP_length]; exact hi
    rw [List.getElem?_eq_getElem h1, List.getElem?_eq_getElem hi, fluP_get P m i h1 hi]
    cases hf : m.find? (fun p => p.1 == i) with
    | none => rfl
    | some p =>
      have hk : p.1 = i := by simpa using List.find?_some hf
      exact absurd (show (i, p.2) ∈ m by rw [← hk]; exact List.mem_of_find?_eq_some hf) (h _)
  · rw [List.getElem?_eq_none (by rw [fluP_length]; omega), List.getElem?_eq_none (by omega)]
theorem fluP_on {P : List Value} {m : List (Nat × Value)} {i : Nat} {v : Value} (hm : (i, v) ∈ m) (hp : m.Pairwise (fun a b => a.1 < b.1)) (hi : i < P.length) : (fluP P m)[i]? = some v := by
  have h1 : i < (fluP P m).length := by rw [fluP_length]; exact hi
  rw [List.getElem?_eq_getElem h1, fluP_get P m i h1 hi]
  cases hf : m.find? (fun p => p.1 == i) with
  | none =>
    have := List.find?_eq_none.1 hf (i, v) hm
    simp at this
  | some p =>
    have hk : p.1 = i := by simpa using List.find?_some hf
    have hpm := List.mem_of_find?_eq_some hf
    obtain ⟨a, ha⟩ := List.getElem?_of_mem hpm
    obtain ⟨b, hb⟩ := List.getElem?_of_mem hm
    obtain ⟨ha1, ha2⟩ := List.getElem?_eq_some_iff.1 ha
    obtain ⟨hb1, hb2⟩ := List.getElem?_eq_some_iff.1 hb
    have hab : a = b := by
      rcases Nat.lt_trichotomy a b with q | q | q
      · have := List.pairwise_iff_getElem.1 hp a b ha1 hb1 q
        rw [ha2, hb2, hk] at this; simp at this
      · exact q
      · have := List.pairwise_iff_getElem.1 hp b a hb1 ha1 q
        rw [ha2, hb2, hk] at this; simp at this
    subst hab
    rw [ha2] at hb2
    rw [hb2]

/-- A log that has nothing to bring home: its pages are pg. -/
structure Emp (R : Value → List UInt8 → Prop) (s M : Nat) (pg : Nat → List UInt8) (D : List Value) : Prop where
  len : D.length = s + 1 + M
  head : At R D 0 zBytes ∨ At R D 0 (hdB [])
  page : ∀ n, n < M → At R D (s + 1 + n) (pg n)
/-- A log that has a group to bring home. -/
structure Hed (R : Value → List UInt8 → Prop) (s M : Nat) (ns : List Nat) (old new : Nat → List UInt8) (D : List Value) : Prop where
  len : D.length = s + 1 + M
  head : At R D 0 (hdB ns)
  log : ∀ (i n : Nat), ns[i]? = some n → At R D (1 + i) (new n)
  page : ∀ n, n < M → At R D (s + 1 + n) (old n) ∨ (n ∈ ns ∧ At R D (s + 1 + n) (new n))
def Inv (R : Value → List UInt8 → Prop) (s M : Nat) (ns : List Nat) (old new : Nat → List UInt8) (D : List Value) : Prop := Emp R s M old D ∨ Emp R s M new D ∨ Hed R s M ns old new D
def Good (R : Value → List UInt8 → Prop) (s M : Nat) (ns : List Nat) (old new : Nat → List UInt8) (st : List Value × List (Nat × Value)) : Prop := ∀ D, Crashed st.1 st.2 D → Inv R s M ns old new D
def AllGood (R : Value → List UInt8 → Prop) (s M : Nat) (ns : List Nat) (old new : Nat → List UInt8) (st : List Value × List (Nat × Value)) (xs : List (Option (Nat × Value))) : Prop := ∀ j, j ≤ xs.length → Good R s M ns old new ((xs.take j).foldl stepP st)
section
variable {R : Value → List UInt8 → Prop} {s M : Nat} {ns : List Nat} {old new : Nat → List UInt8} {P D : List Value} {m : List (Nat × Value)}
theorem Good.anti {m' : List (Nat × Value)} (h : Good R s M ns old new (P, m)) (hs : ∀ p ∈ m', p ∈ m) : Good R s M ns old new (P, m') := fun D hD => h D ⟨hD.1, fun i => by
  rcases hD.2 i with h1 | ⟨v, h1, h2⟩
  · exact .inl h1
  · exact .inr ⟨v, hs _ h1, h2⟩⟩
theorem foldl_writes (m0 m : List (Nat × Value)) : (m.map some).foldl stepP (P, m0) = (P, m0 ++ m) := by
  induction m generalizing m0 with
  | nil => simp
  | cons p m ih =>
    rw [List.map_cons, List.foldl_cons]
    show List.foldl stepP (P, m0 ++ [p]) (m.map some) = _
    rw [ih]; simp
theorem allGood_nil {st : List Value × List (Nat × Value)} (h : Good R s M ns old new st) : AllGood R s M ns old new st [] := fun j hj => by
  simpa using h
theorem allGood_phase {rest : List (Option (Nat × Value))} (h : Good R s M ns old new (P, m)) (hr : AllGood R s M ns old new (fluP P m, []) rest) : AllGood R s M ns old new (P, []) (m.map some ++ none :: rest) := fun j hj => by
  by_cases hjm : j ≤ m.length
  · rw [List.take_append_of_le_length (by simpa using hjm), ← List.map_take, foldl_writes]
    exact h.anti (fun p hp => List.mem_of_mem_take (by simpa using hp))
  · obtain ⟨j', rfl⟩ : ∃ j', j = m.length + 1 + j' := ⟨j - m.length - 1, by omega⟩
    have e : (m.map some ++ none :: rest).take (m.length + 1 + j') = m.map some ++ none :: rest.take j' := by
      rw [List.take_append, List.take_of_length_le (by simp; omega), List.length_map, show m.length + 1 + j' - m.length = j' + 1 by omega, List.take_succ_cons]
    rw [e, List.foldl_append, foldl_writes, List.foldl_cons]
    exact hr j' (by simp at hj; omega)
theorem At.keep {P D : List Value} {i : Nat} {l : List UInt8} (h : At R P i l) (e : D[i]? = P[i]?) : At R D i l := by
  obtain ⟨v, h1, h2⟩ := h
  exact ⟨v, e.trans h1, h2⟩
theorem crashed_off (h : Crashed P m D) {i : Nat} (hi : ∀ v, (i, v) ∉ m) : D[i]? = P[i]? := by
  rcases h.2 i with h1 | ⟨v, h1, _⟩
  · exact h1
  · exact absurd h1 (hi v)

/-- The first phase: the group is written to the log. -/
theorem good_log {vs : List Value} {ks : List Nat} (hE : Emp R s M old P) (hk : ∀ k ∈ ks, k < s) : Good R s M ns old new (P, mkW (fun i => 1 + i) ks vs) := fun D hD => by
  have off : ∀ i, (i = 0 ∨ s < i) → D[i]? = P[i]? := fun i hi => crashed_off hD (fun v hv => by
    obtain ⟨j, k, h1, _, h3⟩ := mkW_mem hv
    have := hk k (List.mem_of_getElem? h1)
    omega)
  refine .inl ⟨hD.1.trans hE.len, ?_, fun n hn => (hE.page n hn).keep (off _ (by omega))⟩
  rcases hE.head with h | h
  · exact .inl (h.keep (off 0 (by omega)))
  · exact .inr (h.keep (off 0 (by omega)))
theorem log_flu {vs : List Value} (hE : Emp R s M old P) (hl : vs.length = ns.length) (hs : ns.length ≤ s) (hv : ∀ (i n : Nat) (v : Value), ns[i]? = some n → vs[i]? = some v → R v (new n)) :
    Emp R s M old (fluP P (mkW (fun i => 1 + i) (List.range ns.length) vs)) ∧ ∀ (i n : Nat), ns[i]? = some n → At R (fluP P (mkW (fun i => 1 + i) (List.range ns.length) vs)) (1 + i) (new n) := by
  have off : ∀ i, (i = 0 ∨ s < i) → (fluP P (mkW (fun i => 1 + i) (List.range ns.length) vs))[i]? = P[i]? := fun i hi => fluP_off (fun v hv => by
    obtain ⟨j, k, h1, _, h3⟩ := mkW_mem hv
    have := List.mem_range.1 (List.mem_of_getElem? h1)
    omega)
  refine ⟨⟨by rw [fluP_length]; exact hE.len, ?_, fun n hn => (hE.page n hn).keep (off _ (by omega))⟩, fun i n hi => ?_⟩
  · rcases hE.head with h | h
    · exact .inl (h.keep (off 0 (by omega)))
    · exact .inr (h.keep (off 0 (by omega)))
  · have hil := (List.getElem?_eq_some_iff.1 hi).1
    obtain ⟨v, hv2⟩ : ∃ v, vs[i]? = some v := ⟨vs[i], List.getElem?_eq_getElem (by omega)⟩
    refine ⟨v, ?_, hv i n v hi hv2⟩
    have hr : (List.range ns.length)[i]? = some i := by rw [List.getElem?_range hil]
    refine fluP_on (List.mem_of_getElem? (mkW_at (f := fun i => 1 + i) hr hv2)) (mkW_rise (by omega) (List.pairwise_lt_range) _) ?_
    have := hE.len
    omega
/-- The second: the head is written. -/
theorem good_head {vh : Value} (hE : Emp R s M old P) (hlog : ∀ (i n : Nat), ns[i]? = some n → At R P (1 + i) (new n)) (hh : R vh (hdB ns)) : Good R s M ns old new (P, [(0, vh)]) := fun D hD => by
  have off : ∀ i, 0 < i → D[i]? = P[i]? := fun i hi => crashed_off hD (fun v hv => by simp at hv; omega)
  rcases hD.2 0 with h0 | ⟨v, h1, h2⟩
  · refine .inl ⟨hD.1.trans hE.len, ?_, fun n hn => (hE.page n hn).keep (off _ (by omega))⟩
    rcases hE.head with h | h
    · exact .inl (h.keep h0)
    · exact .inr (h.keep h0)
  · simp at h1; subst h1
    exact .inr (.inr ⟨hD.1.trans hE.len, ⟨v, h2, hh⟩, fun i n hi => (hlog i n hi).keep (off _ (by omega)), fun n hn => .inl ((hE.page n hn).keep (off _ (by omega)))⟩)
theorem head_flu {vh : Value} (hE : Emp R s M old P) (hlog : ∀ (i n : Nat), ns[i]? = some n → At R P (1 + i) (new n)) (hh : R vh (hdB ns)) : Hed R s M ns old new (fluP P [(0, vh)]) := by
  have off : ∀ i, 0 < i → (fluP P [(0, vh)])[i]? = P[i]? := fun i hi => fluP_off (fun v hv => by simp at hv; omega)
  refine ⟨by rw [fluP_length]; exact hE.len, ⟨vh, fluP_on (by simp) (by simp) (by have := hE.len; omega), hh⟩, fun i n hi => (hlog i n hi).keep (off _ (by omega)), fun n hn => .inl ((hE.page n hn).keep (off _ (by omega)))⟩
/-- The third: the pages are brought home. -/
theorem good_home {vs : List Value} (hH : Hed R s M ns old new P) (hs : ns.length ≤ s) (hv : ∀ (i n : Nat) (v : Value), ns[i]? = some n → vs[i]? = some v → R v (new n)) : Good R s M ns old new (P, mkW (fun n => s + 1 + n) ns vs) := fun D hD => by
  have off : ∀ i, i ≤ s → D[i]? = P[i]? := fun i hi => crashed_off hD (fun v hv => by
    obtain ⟨j, k, h1, _, h3⟩ := mkW_mem hv
    omega)
  refine .inr (.inr ⟨hD.1.trans hH.len, hH.head.keep (off 0 (by omega)), fun i n hi => (hH.log i n hi).keep (off _ (by have := (List.getElem?_eq_some_iff.1 hi).1; omega)), fun n hn => ?_⟩)
  rcases hD.2 (s + 1 + n) with h1 | ⟨v, h1, h2⟩
  · rcases hH.page n hn with h | ⟨h, h'⟩
    · exact .inl (h.keep h1)
    · exact .inr ⟨h, h'.keep h1⟩
  · obtain ⟨j, k, h3, h4, h5⟩ := mkW_mem h1
    obtain rfl : k = n := by omega
    exact .inr ⟨List.mem_of_getElem? h3, v, h2, hv j k v h3 h4⟩
theorem home_flu {vs : List Value} (hH : Hed R s M ns old new P) (hl : vs.length = ns.length) (hs : ns.length ≤ s) (hr : ns.Pairwise (· < ·)) (hv : ∀ (i n : Nat) (v : Value), ns[i]? = some n → vs[i]? = some v → R v (new n)) (hon : ∀ n, n ∉ ns → old n = new n) :
    Hed R s M ns old new (fluP P (mkW (fun n => s + 1 + n) ns vs)) ∧ ∀ n, n < M → At R (fluP P (mkW (fun n => s + 1 + n) ns vs)) (s + 1 + n) (new n) := by
  have off : ∀ i, i ≤ s → (fluP P (mkW (fun n => s + 1 + n) ns vs))[i]? = P[i]? := fun i hi => fluP_off (fun v hv => by
    obtain ⟨j, k, h1, _, h3⟩ := mkW_mem hv
    omega)
  have pg : ∀ n, n < M → At R (fluP P (mkW (fun n => s + 1 + n) ns vs)) (s + 1 + n) (new n) := fun n hn => by
    by_cases hm : n ∈ ns
    · obtain ⟨i, hi⟩ := List.getElem?_of_mem hm
      have hil := (List.getElem?_eq_some_iff.1 hi).1
      obtain ⟨v, hv2⟩ : ∃ v, vs[i]? = some v := ⟨vs[i], List.getElem?_eq_getElem (by omega)⟩
      exact ⟨v, fluP_on (List.mem_of_getElem? (mkW_at (f := fun n => s + 1 + n) hi hv2)) (mkW_rise (by omega) hr _) (by have := hH.len; omega), hv i n v hi hv2⟩
    · rcases hH.page n hn with h | ⟨h, _⟩
      · rw [← hon n hm]
        exact h.keep (fluP_off (fun v hv => by
          obtain ⟨j, k, h1, _, h3⟩ := mkW_mem hv
          obtain rfl : k = n := by omega
          exact hm (List.mem_of_getElem? h1)))
      · exact absurd h hm
  refine ⟨⟨by rw [fluP_length]; exact hH.len, hH.head.keep (off 0 (by omega)), fun i n hi => (hH.log i n hi).keep (off _ (by have := (List.getElem?_eq_some_iff.1 hi).1; omega)), fun n hn => ?_⟩, pg⟩
  by_cases hm : n ∈ ns
  · exact .inr ⟨hm, pg n hn⟩
  · left; rw [hon n hm]; exact pg n hn
/-- The fourth: the head is made empty. -/
theorem good_done {vh : Value} (hH : Hed R s M ns old new P) (hpg : ∀ n, n < M → At R P (s + 1 + n) (new n)) (hh : R vh (hdB [])) : Good R s M ns old new (P, [(0, vh)]) := fun D hD => by
  have off : ∀ i, 0 < i → D[i]? = P[i]? := fun i hi => crashed_off hD (fun v hv => by simp at hv; omega)
  rcases hD.2 0 with h0 | ⟨v, h1, h2⟩
  · refine .inr (.inr ⟨hD.1.trans hH.len, hH.head.keep h0, fun i n hi => (hH.log i n hi).keep (off _ (by omega)), fun n hn => ?_⟩)
    rcases hH.page n hn with h | ⟨h, h'⟩
    · exact .inl (h.keep (off _ (by omega)))
    · exact .inr ⟨h, h'.keep (off _ (by omega))⟩
  · simp at h1; subst h1
    exact .inr (.inl ⟨hD.1.trans hH.len, .inr ⟨v, h2, hh⟩, fun n hn => (hpg n hn).keep (off _ (by omega))⟩)
theorem done_flu {vh : Value} (hl : P.length = s + 1 + M) (hpg : ∀ n, n < M → At R P (s + 1 + n) (new n)) (hh : R vh (hdB [])) : Emp R s M new (fluP P [(0, vh)]) :=
  ⟨by rw [fluP_length]; exact hl, .inr ⟨vh, fluP_on (by simp) (by simp) (by omega), hh⟩, fun n hn => (hpg n hn).keep (fluP_off (fun v hv => by simp at hv))⟩
theorem good_still (h : Inv R s M ns old new P) : Good R s M ns old new (P, []) := fun D hD => by
  have : D = P := List.ext_getElem? fun i => crashed_off hD (by simp)
  rw [this]; exact h
/-- What home does: the ops. -/
def homeOps (s : Nat) (ns : List Nat) (vs : List Value) (vh : Value) : List (Option (Nat × Value)) := (mkW (fun n => s + 1 + n) ns vs).map some ++ none :: ([(0, vh)].map some ++ none :: [])
/-- What Commit does: the ops. -/
def comOps (s : Nat) (ns : List Nat) (us : List Value) (uh : Value) (vs : List Value) (vh : Value) : List (Option (Nat × Value)) := (mkW (fun i => 1 + i) (List.range ns.length) us).map some ++ none :: ([(0, uh)].map some ++ none :: homeOps s ns vs vh)
/-- A group is brought home: each crash is one of a log; at the end the pages are there. -/
theorem home_good {vs : List Value} {vh : Value} (hH : Hed R s M ns old new P) (hl : vs.length = ns.length) (hs : ns.length ≤ s) (hr : ns.Pairwise (· < ·)) (hv : ∀ (i n : Nat) (v : Value), ns[i]? = some n → vs[i]? = some v → R v (new n)) (hon : ∀ n, n ∉ ns → old n = new n) (hh : R vh (hdB [])) :
    AllGood R s M ns old new (P, []) (homeOps s ns vs vh) ∧ ∃ P', (homeOps s ns vs vh).foldl stepP (P, []) = (P', []) ∧ Emp R s M new P' := by
  obtain ⟨h1, h2⟩ := home_flu hH hl hs hr hv hon
  have h3 := done_flu h1.len h2 hh
  refine ⟨allGood_phase (good_home hH hs hv) (allGood_phase (good_done h1 h2 hh) (allGood_nil (good_still (.inr (.inl h3))))), _, ?_, h3⟩
  unfold homeOps
  rw [List.foldl_append, foldl_writes, List.foldl_cons]
  rfl
/-- A group is committed. -/
theorem commit_good {us vs : List Value} {uh vh : Value} (hE : Emp R s M old P) (hul : us.length = ns.length) (hl : vs.length = ns.length) (hs : ns.length ≤ s) (hr : ns.Pairwise (· < ·)) (hu : ∀ (i n : Nat) (v : Value), ns[i]? = some n → us[i]? = some v → R v (new n)) (hv : ∀ (i n : Nat) (v : Value), ns[i]? = some n → vs[i]? = some v → R v (new n)) (hon : ∀ n, n ∉ ns → old n = new n) (huh : R uh (hdB ns)) (hh : R vh (hdB [])) :
    AllGood R s M ns old new (P, []) (comOps s ns us uh vs vh) ∧ ∃ P', (comOps s ns us uh vs vh).foldl stepP (P, []) = (P', []) ∧ Emp R s M new P' := by
  obtain ⟨h1, h2⟩ := log_flu hE hul hs hu
  obtain ⟨h3, P', h4, h5⟩ := home_good (head_flu h1 h2 huh) hl hs hr hv hon hh
  refine ⟨allGood_phase (good_log hE (fun k hk => by have := List.mem_range.1 hk; omega)) (allGood_phase (good_head h1 h2 huh) h3), P', ?_, h5⟩
  unfold comOps
  rw [List.foldl_append, foldl_writes, List.foldl_cons]
  exact h4
end
end Go.Proofs.Ytlkieepfjhiflaa
