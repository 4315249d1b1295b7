/- What a log's ops do with a disk that may crash at any of them: plain lists. 'R v l': the value v reads as the bytes l. -/
import Derived.Test.YtcblfkojkdaepaaGreatNew
import Derived.Test.YtcblfkojkdaepaaGreatDk
import Derived.Test.YtcblfkojkdaepaaGreatWf
import Derived.BigQuiet
namespace Go.Proofs.YtcblfkojkdaepaaGreat
open Go.RowKit Go.ChangeMaps

/-- Sector i reads as the bytes l. -/
def At (R : Value → List UInt8 → Prop) (D : List Value) (i : Nat) (l : List UInt8) : Prop := ∃ v, D[i]? = some v ∧ R v l
/-- A head's bytes. -/
def hdL (ns : List Nat) : List UInt8 := [0x44, 0x4e, UInt8.ofNat (ns.length / 256), UInt8.ofNat ns.length] ++ (ns.map fun n => [UInt8.ofNat (n / 256), UInt8.ofNat n]).flatten
def hdB (ns : List Nat) : List UInt8 := hdL ns ++ List.replicate (512 - (4 + 2 * ns.length)) 0
/-- Writes of values to sectors. -/
def mkW (f : Nat → Nat) (ks : List Nat) (vs : List Value) : List (Nat × Value) := (ks.zip vs).map fun p => (f p.1, p.2)
theorem mkW_nil (f : Nat → Nat) (ks : List Nat) : mkW f ks [] = [] := by simp [mkW]
theorem mkW_snoc (f : Nat → Nat) {ks : List Nat} {vs : List Value} {k : Nat} (v : Value) (h : ks[vs.length]? = some k) : mkW f ks (vs ++ [v]) = mkW f ks vs ++ [(f k, v)] := by
  unfold mkW
  induction vs generalizing ks with
  | nil =>
    cases ks with
    | nil => simp at h
    | cons a ks => simp at h; subst h; simp
  | cons x vs ih =>
    cases ks with
    | nil => simp at h
    | cons a ks =>
      simp only [List.length_cons, List.getElem?_cons_succ] at h
      simp only [List.cons_append, List.zip_cons_cons, List.map_cons]
      rw [ih h]
theorem mkW_mem {f : Nat → Nat} {ks : List Nat} {vs : List Value} {i : Nat} {v : Value} (h : (i, v) ∈ mkW f ks vs) : ∃ j k : Nat, ks[j]? = some k ∧ vs[j]? = some v ∧ i = f k := by
  unfold mkW at h
  obtain ⟨⟨k, x⟩, h1, h2⟩ := List.mem_map.1 h
  obtain ⟨j, hj⟩ := List.getElem?_of_mem h1
  rw [List.getElem?_zip_eq_some] at hj
  simp only [Prod.mk.injEq] at h2
  obtain ⟨rfl, rfl⟩ := h2
  exact ⟨j, k, hj.1, hj.2, rfl⟩
theorem mkW_at {f : Nat → Nat} {ks : List Nat} {vs : List Value} {j k : Nat} {v : Value} (h1 : ks[j]? = some k) (h2 : vs[j]? = some v) : (mkW f ks vs)[j]? = some (f k, v) := by
  unfold mkW
  rw [List.getElem?_map, (List.getElem?_zip_eq_some (z := (k, v))).2 ⟨h1, h2⟩]; rfl
theorem mkW_rise {f : Nat → Nat} (hf : ∀ a b, a < b → f a < f b) {ks : List Nat} (hk : ks.Pairwise (· < ·)) (vs : List Value) : (mkW f ks vs).Pairwise (fun a b => a.1 < b.1) := by
  rw [List.pairwise_iff_getElem]
  intro i j hi hj hij
  obtain ⟨⟨a, x⟩, hx⟩ : ∃ p, (mkW f ks vs)[i]? = some p := ⟨_, List.getElem?_eq_getElem hi⟩
  obtain ⟨⟨b, y⟩, hy⟩ : ∃ p, (mkW f ks vs)[j]? = some p := ⟨_, List.getElem?_eq_getElem hj⟩
  have go : ∀ {q : Nat} {c : Nat} {z : Value}, (mkW f ks vs)[q]? = some (c, z) → ∃ k : Nat, ks[q]? = some k ∧ c = f k := by
    intro q c z h
    unfold mkW at h
    rw [List.getElem?_map] at h
    obtain ⟨⟨k, x⟩, h1, h2⟩ := Option.map_eq_some_iff.1 h
    rw [List.getElem?_zip_eq_some] at h1
    simp only [Prod.mk.injEq] at h2
    exact ⟨k, h1.1, h2.1.symm⟩
  obtain ⟨k, hk1, rfl⟩ := go hx
  obtain ⟨k', hk2, rfl⟩ := go hy
  rw [List.getElem?_eq_getElem hi] at hx
  rw [List.getElem?_eq_getElem hj] at hy
  rw [Option.some.inj hx, Option.some.inj hy]
  exact hf _ _ (by
    obtain ⟨h1, e1⟩ := List.getElem?_eq_some_iff.1 hk1
    obtain ⟨h2, e2⟩ := List.getElem?_eq_some_iff.1 hk2
    rw [← e1, ← e2]
    exact List.pairwise_iff_getElem.1 hk i j h1 h2 hij)
theorem fluP_off {P : List Value} {m : List (Nat × Value)} {i : Nat} (h : ∀ v, (i, v) ∉ m) : (fluP P m)[i]? = P[i]? := by
  by_cases hi : i < P.length
  · have h1 : i < (fluP P m).length := by rw [fluP_length]; exact hi
    rw [List.getElem?_eq_getElem h1, List.getElem?_eq_getElem hi, fluP_get P m i h1 hi]
    cases hf : m.find? (fun p => p.1 == i) with
    | none => rfl
    | some p =>
      have hk : p.1 = i := by simpa using List.find?_some hf
      exact absurd (show (i, p.2) ∈ m by rw [← hk]; exact List.mem_of_find?_eq_some hf) (h _)
  · rw [List.getElem?_eq_none (by rw [fluP_length]; omega), List.getElem?_eq_none (by omega)]
theorem fluP_on {P : List Value} {m : List (Nat × Value)} {i : Nat} {v : Value} (hm : (i, v) ∈ m) (hp : m.Pairwise (fun a b => a.1 < b.1)) (hi : i < P.length) : (fluP P m)[i]? = some v := by
  have h1 : i < (fluP P m).length := by rw [fluP_length]; exact hi
  rw [List.getElem?_eq_getElem h1, fluP_get P m i h1 hi]
  cases hf : m.find? (fun p => p.1 == i) with
  | none =>
    have := List.find?_eq_none.1 hf (i, v) hm
    simp at this
  | some p =>
    have hk : p.1 = i := by simpa using List.find?_some hf
    have hpm := List.mem_of_find?_eq_some hf
    obtain ⟨a, ha⟩ := List.getElem?_of_mem hpm
    obtain ⟨b, hb⟩ := List.getElem?_of_mem hm
    obtain ⟨ha1, ha2⟩ := List.getElem?_eq_some_iff.1 ha
    obtain ⟨hb1, hb2⟩ := List.getElem?_eq_some_iff.1 hb
    have hab : a = b := by
      rcases Nat.lt_trichotomy a b with q | q | q
      · have := List.pairwise_iff_getElem.1 hp a b ha1 hb1 q
        rw [ha2, hb2, hk] at this; simp at this
      · exact q
      · have := List.pairwise_iff_getElem.1 hp b a hb1 ha1 q
        rw [ha2, hb2, hk] at this; simp at this
    subst hab
    rw [ha2] at hb2
    rw [hb2]

/-- A log that has nothing to bring home: its pages are pg. -/
structure Emp (R : Value → List UInt8 → Prop) (s M : Nat) (pg : Nat → List UInt8) (D : List Value) : Prop where
  len : D.length = s + 1 + M
  head : At R D 0 zBytes ∨ At R D 0 (hdB [])
  page : ∀ n, n < M → At R D (s + 1 + n) (pg n)
/-- A log that has a group to bring home. -/
structure Hed (R : Value → List UInt8 → Prop) (s M : Nat) (ns : List Nat) (old new : Nat → List UInt8) (D : List Value) : Prop where
  len : D.length = s + 1 + M
  head : At R D 0 (hdB ns)
  log : ∀ (i n : Nat), ns[i]? = some n → At R D (1 + i) (new n)
  page : ∀ n, n < M → At R D (s + 1 + n) (old n) ∨ (n ∈ ns ∧ At R D (s + 1 + n) (new n))
def Inv (R : Value → List UInt8 → Prop) (s M : Nat) (ns : List Nat) (old new : Nat → List UInt8) (D : List Value) : Prop := Emp R s M old D ∨ Emp R s M new D ∨ Hed R s M ns old new D
def Good (R : Value → List UInt8 → Prop) (s M : Nat) (ns : List Nat) (old new : Nat → List UInt8) (st : List Value × List (Nat × Value)) : Prop := ∀ D, Crashed st.1 st.2 D → Inv R s M ns old new D
def AllGood (R : Value → List UInt8 → Prop) (s M : Nat) (ns : List Nat) (old new : Nat → List UInt8) (st : List Value × List (Nat × Value)) (xs : List (Option (Nat × Value))) : Prop := ∀ j, j ≤ xs.length → Good R s M ns old new ((xs.take j).foldl stepP st)
section
variable {R : Value → List UInt8 → Prop} {s M : Nat} {ns : List Nat} {old new : Nat → List UInt8} {P D : List Value} {m : List (Nat × Value)}
theorem Good.anti {m' : List (Nat × Value)} (h : Good R s M ns old new (P, m)) (hs : ∀ p ∈ m', p ∈ m) : Good R s M ns old new (P, m') := fun D hD => h D ⟨hD.1, fun i => by
  rcases hD.2 i with h1 | ⟨v, h1, h2⟩
  · exact .inl h1
  · exact .inr ⟨v, hs _ h1, h2⟩⟩
theorem foldl_writes (m0 m : List (Nat × Value)) : (m.map some).foldl stepP (P, m0) = (P, m0 ++ m) := by
  induction m generalizing m0 with
  | nil => simp
  | cons p m ih =>
    rw [List.map_cons, List.foldl_cons]
    show List.foldl stepP (P, m0 ++ [p]) (m.map some) = _
    rw [ih]; simp
theorem allGood_nil {st : List Value × List (Nat × Value)} (h : Good R s M ns old new st) : AllGood R s M ns old new st [] := fun j hj => by
  simpa using h
theorem allGood_phase {rest : List (Option (Nat × Value))} (h : Good R s M ns old new (P, m)) (hr : AllGood R s M ns old new (fluP P m, []) rest) : AllGood R s M ns old new (P, []) (m.map some ++ none :: rest) := fun j hj => by
  by_cases hjm : j ≤ m.length
  · rw [List.take_append_of_le_length (by simpa using hjm), ← List.map_take, foldl_writes]
    exact h.anti (fun p hp => List.mem_of_mem_take (by simpa using hp))
  · obtain ⟨j', rfl⟩ : ∃ j', j = m.length + 1 + j' := ⟨j - m.length - 1, by omega⟩
    have e : (m.map some ++ none :: rest).take (m.length + 1 + j') = m.map some ++ none :: rest.take j' := by
      rw [List.take_append, List.take_of_length_le (by simp; omega), List.length_map, show m.length + 1 + j' - m.length = j' + 1 by omega, List.take_succ_cons]
    rw [e, List.foldl_append, foldl_writes, List.foldl_cons]
    exact hr j' (by simp at hj; omega)
theorem At.keep {P D : List Value} {i : Nat} {l : List UInt8} (h : At R P i l) (e : D[i]? = P[i]?) : At R D i l := by
  obtain ⟨v, h1, h2⟩ := h
  exact ⟨v, e.trans h1, h2⟩
theorem crashed_off (h : Crashed P m D) {i : Nat} (hi : ∀ v, (i, v) ∉ m) : D[i]? = P[i]? := by
  rcases h.2 i with h1 | ⟨v, h1, _⟩
  · exact h1
  · exact absurd h1 (hi v)

/-- The first phase: the group is written to the log. -/
theorem good_log {vs : List Value} {ks : List Nat} (hE : Emp R s M old P) (hk : ∀ k ∈ ks, k < s) : Good R s M ns old new (P, mkW (fun i => 1 + i) ks vs) := fun D hD => by
  have off : ∀ i, (i = 0 ∨ s < i) → D[i]? = P[i]? := fun i hi => crashed_off hD (fun v hv => by
    obtain ⟨j, k, h1, _, h3⟩ := mkW_mem hv
    have := hk k (List.mem_of_getElem? h1)
    omega)
  refine .inl ⟨hD.1.trans hE.len, ?_, fun n hn => (hE.page n hn).keep (off _ (by omega))⟩
  rcases hE.head with h | h
  · exact .inl (h.keep (off 0 (by omega)))
  · exact .inr (h.keep (off 0 (by omega)))
theorem log_flu {vs : List Value} (hE : Emp R s M old P) (hl : vs.length = ns.length) (hs : ns.length ≤ s) (hv : ∀ (i n : Nat) (v : Value), ns[i]? = some n → vs[i]? = some v → R v (new n)) :
    Emp R s M old (fluP P (mkW (fun i => 1 + i) (List.range ns.length) vs)) ∧ ∀ (i n : Nat), ns[i]? = some n → At R (fluP P (mkW (fun i => 1 + i) (List.range ns.length) vs)) (1 + i) (new n) := by
  have off : ∀ i, (i = 0 ∨ s < i) → (fluP P (mkW (fun i => 1 + i) (List.range ns.length) vs))[i]? = P[i]? := fun i hi => fluP_off (fun v hv => by
    obtain ⟨j, k, h1, _, h3⟩ := mkW_mem hv
    have := List.mem_range.1 (List.mem_of_getElem? h1)
    omega)
  refine ⟨⟨by rw [fluP_length]; exact hE.len, ?_, fun n hn => (hE.page n hn).keep (off _ (by omega))⟩, fun i n hi => ?_⟩
  · rcases hE.head with h | h
    · exact .inl (h.keep (off 0 (by omega)))
    · exact .inr (h.keep (off 0 (by omega)))
  · have hil := (List.getElem?_eq_some_iff.1 hi).1
    obtain ⟨v, hv2⟩ : ∃ v, vs[i]? = some v := ⟨vs[i], List.getElem?_eq_getElem (by omega)⟩
    refine ⟨v, ?_, hv i n v hi hv2⟩
    have hr : (List.range ns.length)[i]? = some i := by rw [List.getElem?_range hil]
    refine fluP_on (List.mem_of_getElem? (mkW_at (f := fun i => 1 + i) hr hv2)) (mkW_rise (by omega) (List.pairwise_lt_range) _) ?_
    have := hE.len
    omega
/-- The second: the head is written. -/
theorem good_head {vh : Value} (hE : Emp R s M old P) (hlog : ∀ (i n : Nat), ns[i]? = some n → At R P (1 + i) (new n)) (hh : R vh (hdB ns)) : Good R s M ns old new (P, [(0, vh)]) := fun D hD => by
  have off : ∀ i, 0 < i → D[i]? = P[i]? := fun i hi => crashed_off hD (fun v hv => by simp at hv; omega)
  rcases hD.2 0 with h0 | ⟨v, h1, h2⟩
  · refine .inl ⟨hD.1.trans hE.len, ?_, fun n hn => (hE.page n hn).keep (off _ (by omega))⟩
    rcases hE.head with h | h
    · exact .inl (h.keep h0)
    · exact .inr (h.keep h0)
  · simp at h1; subst h1
    exact .inr (.inr ⟨hD.1.trans hE.len, ⟨v, h2, hh⟩, fun i n hi => (hlog i n hi).keep (off _ (by omega)), fun n hn => .inl ((hE.page n hn).keep (off _ (by omega)))⟩)
theorem head_flu {vh : Value} (hE : Emp R s M old P) (hlog : ∀ (i n : Nat), ns[i]? = some n → At R P (1 + i) (new n)) (hh : R vh (hdB ns)) : Hed R s M ns old new (fluP P [(0, vh)]) := by
  have off : ∀ i, 0 < i → (fluP P [(0, vh)])[i]? = P[i]? := fun i hi => fluP_off (fun v hv => by simp at hv; omega)
  refine ⟨by rw [fluP_length]; exact hE.len, ⟨vh, fluP_on (by simp) (by simp) (by have := hE.len; omega), hh⟩, fun i n hi => (hlog i n hi).keep (off _ (by omega)), fun n hn => .inl ((hE.page n hn).keep (off _ (by omega)))⟩
/-- The third: the pages are brought home. -/
theorem good_home {vs : List Value} (hH : Hed R s M ns old new P) (hs : ns.length ≤ s) (hv : ∀ (i n : Nat) (v : Value), ns[i]? = some n → vs[i]? = some v → R v (new n)) : Good R s M ns old new (P, mkW (fun n => s + 1 + n) ns vs) := fun D hD => by
  have off : ∀ i, i ≤ s → D[i]? = P[i]? := fun i hi => crashed_off hD (fun v hv => by
    obtain ⟨j, k, h1, _, h3⟩ := mkW_mem hv
    omega)
  refine .inr (.inr ⟨hD.1.trans hH.len, hH.head.keep (off 0 (by omega)), fun i n hi => (hH.log i n hi).keep (off _ (by have := (List.getElem?_eq_some_iff.1 hi).1; omega)), fun n hn => ?_⟩)
  rcases hD.2 (s + 1 + n) with h1 | ⟨v, h1, h2⟩
  · rcases hH.page n hn with h | ⟨h, h'⟩
    · exact .inl (h.keep h1)
    · exact .inr ⟨h, h'.keep h1⟩
  · obtain ⟨j, k, h3, h4, h5⟩ := mkW_mem h1
    obtain rfl : k = n := by omega
    exact .inr ⟨List.mem_of_getElem? h3, v, h2, hv j k v h3 h4⟩
theorem home_flu {vs : List Value} (hH : Hed R s M ns old new P) (hl : vs.length = ns.length) (hs : ns.length ≤ s) (hr : ns.Pairwise (· < ·)) (hv : ∀ (i n : Nat) (v : Value), ns[i]? = some n → vs[i]? = some v → R v (new n)) (hon : ∀ n, n ∉ ns → old n = new n) :
    Hed R s M ns old new (fluP P (mkW (fun n => s + 1 + n) ns vs)) ∧ ∀ n, n < M → At R (fluP P (mkW (fun n => s + 1 + n) ns vs)) (s + 1 + n) (new n) := by
  have off : ∀ i, i ≤ s → (fluP P (mkW (fun n => s + 1 + n) ns vs))[i]? = P[i]? := fun i hi => fluP_off (fun v hv => by
    obtain ⟨j, k, h1, _, h3⟩ := mkW_mem hv
    omega)
  have pg : ∀ n, n < M → At R (fluP P (mkW (fun n => s + 1 + n) ns vs)) (s + 1 + n) (new n) := fun n hn => by
    by_cases hm : n ∈ ns
    · obtain ⟨i, hi⟩ := List.getElem?_of_mem hm
      have hil := (List.getElem?_eq_some_iff.1 hi).1
      obtain ⟨v, hv2⟩ : ∃ v, vs[i]? = some v := ⟨vs[i], List.getElem?_eq_getElem (by omega)⟩
      exact ⟨v, fluP_on (List.mem_of_getElem? (mkW_at (f := fun n => s + 1 + n) hi hv2)) (mkW_rise (by omega) hr _) (by have := hH.len; omega), hv i n v hi hv2⟩
    · rcases hH.page n hn with h | ⟨h, _⟩
      · rw [← hon n hm]
        exact h.keep (fluP_off (fun v hv => by
          obtain ⟨j, k, h1, _, h3⟩ := mkW_mem hv
          obtain rfl : k = n := by omega
          exact hm (List.mem_of_getElem? h1)))
      · exact absurd h hm
  refine ⟨⟨by rw [fluP_length]; exact hH.len, hH.head.keep (off 0 (by omega)), fun i n hi => (hH.log i n hi).keep (off _ (by have := (List.getElem?_eq_some_iff.1 hi).1; omega)), fun n hn => ?_⟩, pg⟩
  by_cases hm : n ∈ ns
  · exact .inr ⟨hm, pg n hn⟩
  · left; rw [hon n hm]; exact pg n hn
/-- The fourth: the head is made empty. -/
theorem good_done {vh : Value} (hH : Hed R s M ns old new P) (hpg : ∀ n, n < M → At R P (s + 1 + n) (new n)) (hh : R vh (hdB [])) : Good R s M ns old new (P, [(0, vh)]) := fun D hD => by
  have off : ∀ i, 0 < i → D[i]? = P[i]? := fun i hi => crashed_off hD (fun v hv => by simp at hv; omega)
  rcases hD.2 0 with h0 | ⟨v, h1, h2⟩
  · refine .inr (.inr ⟨hD.1.trans hH.len, hH.head.keep h0, fun i n hi => (hH.log i n hi).keep (off _ (by omega)), fun n hn => ?_⟩)
    rcases hH.page n hn with h | ⟨h, h'⟩
    · exact .inl (h.keep (off _ (by omega)))
    · exact .inr ⟨h, h'.keep (off _ (by omega))⟩
  · simp at h1; subst h1
    exact .inr (.inl ⟨hD.1.trans hH.len, .inr ⟨v, h2, hh⟩, fun n hn => (hpg n hn).keep (off _ (by omega))⟩)
theorem done_flu {vh : Value} (hl : P.length = s + 1 + M) (hpg : ∀ n, n < M → At R P (s + 1 + n) (new n)) (hh : R vh (hdB [])) : Emp R s M new (fluP P [(0, vh)]) :=
  ⟨by rw [fluP_length]; exact hl, .inr ⟨vh, fluP_on (by simp) (by simp) (by omega), hh⟩, fun n hn => (hpg n hn).keep (fluP_off (fun v hv => by simp at hv))⟩
theorem good_still (h : Inv R s M ns old new P) : Good R s M ns old new (P, []) := fun D hD => by
  have : D = P := List.ext_getElem? fun i => crashed_off hD (by simp)
  rw [this]; exact h
/-- What home does: the ops. -/
def homeOps (s : Nat) (ns : List Nat) (vs : List Value) (vh : Value) : List (Option (Nat × Value)) := (mkW (fun n => s + 1 + n) ns vs).map some ++ none :: ([(0, vh)].map some ++ none :: [])
/-- What Commit does: the ops. -/
def comOps (s : Nat) (ns : List Nat) (us : List Value) (uh : Value) (vs : List Value) (vh : Value) : List (Option (Nat × Value)) := (mkW (fun i => 1 + i) (List.range ns.length) us).map some ++ none :: ([(0, uh)].map some ++ none :: homeOps s ns vs vh)
/-- A group is brought home: each crash is one of a log; at the end the pages are there. -/
theorem home_good {vs : List Value} {vh : Value} (hH : Hed R s M ns old new P) (hl : vs.length = ns.length) (hs : ns.length ≤ s) (hr : ns.Pairwise (· < ·)) (hv : ∀ (i n : Nat) (v : Value), ns[i]? = some n → vs[i]? = some v → R v (new n)) (hon : ∀ n, n ∉ ns → old n = new n) (hh : R vh (hdB [])) :
    AllGood R s M ns old new (P, []) (homeOps s ns vs vh) ∧ ∃ P', (homeOps s ns vs vh).foldl stepP (P, []) = (P', []) ∧ Emp R s M new P' := by
  obtain ⟨h1, h2⟩ := home_flu hH hl hs hr hv hon
  have h3 := done_flu h1.len h2 hh
  refine ⟨allGood_phase (good_home hH hs hv) (allGood_phase (good_done h1 h2 hh) (allGood_nil (good_still (.inr (.inl h3))))), _, ?_, h3⟩
  unfold homeOps
  rw [List.foldl_append, foldl_writes, List.foldl_cons]
  rfl
/-- A group is committed. -/
theorem commit_good {us vs : List Value} {uh vh : Value} (hE : Emp R s M old P) (hul : us.length = ns.length) (hl : vs.length = ns.length) (hs : ns.length ≤ s) (hr : ns.Pairwise (· < ·)) (hu : ∀ (i n : Nat) (v : Value), ns[i]? = some n → us[i]? = some v → R v (new n)) (hv : ∀ (i n : Nat) (v : Value), ns[i]? = some n → vs[i]? = some v → R v (new n)) (hon : ∀ n, n ∉ ns → old n = new n) (huh : R uh (hdB ns)) (hh : R vh (hdB [])) :
    AllGood R s M ns old new (P, []) (comOps s ns us uh vs vh) ∧ ∃ P', (comOps s ns us uh vs vh).foldl stepP (P, []) = (P', []) ∧ Emp R s M new P' := by
  obtain ⟨h1, h2⟩ := log_flu hE hul hs hu
  obtain ⟨h3, P', h4, h5⟩ := home_good (head_flu h1 h2 huh) hl hs hr hv hon hh
  refine ⟨allGood_phase (good_log hE (fun k hk => by have := List.mem_range.1 hk; omega)) (allGood_phase (good_head h1 h2 huh) h3), P', ?_, h5⟩
  unfold comOps
  rw [List.foldl_append, foldl_writes, List.foldl_cons]
  exact h4
end
end Go.Proofs.YtcblfkojkdaepaaGreat
/- The contracts of wal's zeros and two, and what they reckon with. -/
namespace Go.Proofs.YtcblfkojkdaepaaGreat
open Go.RowKit

def allZ (l : List UInt8) : Bool := l.all (· == 0)
set_option maxRecDepth 100000 in
set_option maxHeartbeats 2000000 in
theorem isZ_any (w : World) (x : UInt8) : Calls Tryz.prog 77 #[vB x] w fun e w' => e = .returned (.bool (x != 0)) ∧ w' = w := by
  unfold vB n8
  have hx : (x != 0) = decide (x.toNat ≠ 0) := by
    by_cases h : x = 0
    · subst h; rfl
    · have : x.toNat ≠ 0 := fun q => h (UInt8.toNat_inj.1 (by rw [q]; rfl))
      simp [h, this]
  rw [hx]
  generalize x.toNat = q
  clear hx
  go_enter Tryz.func77, Tryz.ntmps77
  go_wp2_with fail
  go_ret
  exact ⟨ret_eq (by by_cases h : q = 0 <;> simp [h]), rfl⟩
/-- Where the first byte that is not 0 stands; -1. -/
def firstNZ : List UInt8 → Int
  | [] => -1
  | x :: l => if x = 0 then (if firstNZ l < 0 then -1 else firstNZ l + 1) else 0
theorem firstNZ_ge (l : List UInt8) : -1 ≤ firstNZ l := by
  induction l with
  | nil => simp [firstNZ]
  | cons x l ih =>
    unfold firstNZ
    split
    · split <;> omega
    · decide
theorem firstNZ_neg (l : List UInt8) : firstNZ l < 0 ↔ allZ l = true := by
  induction l with
  | nil => simp [firstNZ, allZ]
  | cons x l ih =>
    have h1 := firstNZ_ge l
    unfold firstNZ
    simp only [allZ, List.all_cons, Bool.and_eq_true, beq_iff_eq] at ih ⊢
    by_cases h : x = 0
    · rw [if_pos h]
      by_cases h2 : firstNZ l < 0
      · rw [if_pos h2]; simp [h, ih.1 h2]
      · rw [if_neg h2]
        constructor
        · intro q; omega
        · intro q; exact absurd (ih.2 q.2) h2
    · rw [if_neg h]; simp [h]
theorem firstNZ_at {l : List UInt8} {j : Nat} (hj : j < l.length) (h0 : allZ (l.take j) = true) (hx : l[j] ≠ 0) : firstNZ l = (j : Int) := by
  induction l generalizing j with
  | nil => simp at hj
  | cons y l ih =>
    cases j with
    | zero => unfold firstNZ; rw [if_neg (by simpa using hx)]; rfl
    | succ j =>
      simp only [List.take_succ_cons, allZ, List.all_cons, Bool.and_eq_true, beq_iff_eq] at h0
      have h2 := ih (by simpa using hj) h0.2 (by simpa using hx)
      unfold firstNZ
      rw [if_pos h0.1, h2, if_neg (by omega)]; simp
set_option maxRecDepth 100000 in
set_option maxHeartbeats 2000000 in
theorem indexNZ_any (w : World) (v : Value) (l : List UInt8) (hr : RdB w v l) (hl : l.length ≤ 9223372036854775807) :
    Calls Tryz.prog 88 #[v, .func (.func 77) #[] #[]] w fun e w' => e = .returned (.int .i64 (firstNZ l)) ∧ Below w.heap.size w w' := by
  obtain ⟨a, c, rfl, hc⟩ := RdB.open hr
  have HR := Lib.hid hr
  clear hr
  have b0 : (l.length : Int) ≤ 9223372036854775807 := by omega
  go_enter Tryz.func88, Tryz.ntmps88
  go_wp2_with fail
  go_loopw [8] (fun i wr => ∃ j : Nat, j ≤ l.length ∧ i = .int .i64 (j : Int) ∧ allZ (l.take j) = true ∧ Below w.heap.size w wr) (fun i _ => ((l.length : Int) - intOf i).toNat)
  case atStart => exact ⟨0, by omega, by simp, by simp [allZ], Below.refl _ _⟩
  case round =>
    obtain ⟨j, hj, rfl, hz, hB⟩ := hrel
    have HB := Lib.hid hB; have HZ := Lib.hid hz
    clear hB hz
    by_cases hlt : j < l.length
    · obtain ⟨b, off, rfl, hcell⟩ : ∃ b off, a = some ⟨b, off, none⟩ ∧ wr.cell? ⟨b, off + j, none⟩ = some (vB l[j]) := by
        obtain ⟨a', cap', e, hc⟩ := (RdV.below HR.out HB.out).open
        simp only [Value.slice.injEq] at e
        rw [e.1]
        exact hc j _ (by simp [hlt])
      have i0 : (j : Int) < (l.length : Int) := by omega
      have HC := Lib.hid (fun W => isZ_any W l[j])
      have HN := Lib.hid (show l[j] ≠ 0 → firstNZ l = (j : Int) from fun h => firstNZ_at hlt HZ.out h)
      have HZ2 := Lib.hid (show l[j] = 0 → allZ (l.take (j + 1)) = true by
        intro h; rw [List.take_succ_eq_append_getElem hlt]; have := HZ.out; simp only [allZ, List.all_append, List.all_cons, List.all_nil, h] at this ⊢; simp [this])
      unfold vB n8 at hcell HC
      generalize l[j] = x at *
      go_wp2_with fail
      refine (HC.out _).mono ?_
      rintro e w2 ⟨rfl, rfl⟩
      clear HC
      by_cases hx : x = 0
      · have hb : (x != 0) = false := by simp [hx]
        rw [hb]
        have HZ3 := Lib.hid (HZ2.out hx)
        clear hb HN HZ2
        go_wp2_with fail
        exact ⟨⟨j + 1, by omega, by simp, HZ3.out, HB.out⟩, by simp [intOf]; omega⟩
      · have hb : (x != 0) = true := by simp [hx]
        rw [hb]
        have HN2 := Lib.hid (HN.out hx)
        clear hb HN HZ2
        go_wp2_with fail
        exact bodyPost_ret (v := .int .i64 (j : Int)) (by simp [results, Tryz.results88, go_sem]) rfl ⟨by rw [HN2.out], HB.out⟩
    · obtain rfl : j = l.length := by omega
      have hn : firstNZ l = -1 := by
        have h1 := firstNZ_ge l
        have h2 := (firstNZ_neg l).2 (by have := HZ.out; rwa [List.take_length] at this)
        omega
      have HNN := Lib.hid hn
      clear hn
      go_wp2_with fail
      exact bodyPost_ret (v := .int .i64 (-1)) (by simp [results, Tryz.results88, go_sem]) rfl ⟨by rw [HNN.out], HB.out⟩
set_option maxRecDepth 100000 in
set_option maxHeartbeats 2000000 in
theorem zeros_any (w : World) (v : Value) (l : List UInt8) (hr : RdB w v l) (hl : l.length ≤ 9223372036854775807) :
    Calls Tryz.prog 47 #[v] w fun e w' => e = .returned (.bool (allZ l)) ∧ Below w.heap.size w w' := by
  have HC := Lib.hid (show Calls Tryz.prog 76 #[v, .func (.func 77) #[] #[]] w fun e w' => e = .returned (.bool (!allZ l)) ∧ Below w.heap.size w w' by
    have HI := Lib.hid (indexNZ_any w v l hr hl)
    have h1 := firstNZ_ge l
    have h2 := firstNZ_neg l
    have h3 : (!allZ l) = decide (0 ≤ firstNZ l) := by
      by_cases h : firstNZ l < 0
      · rw [h2.1 h]; simp; omega
      · have : allZ l = false := by
          cases hz : allZ l with
          | false => rfl
          | true => exact absurd (h2.2 hz) h
        rw [this]; simp; omega
    rw [h3]
    clear hr h2 h3
    generalize firstNZ l = q at *
    go_enter Tryz.func76, Tryz.ntmps76
    go_wp2_with fail
    refine HI.out.mono ?_
    rintro e w2 ⟨rfl, hb⟩
    have HB := Lib.hid hb
    clear hb
    go_wp2_with fail
    go_ret
    exact ⟨ret_eq (by simp), HB.out⟩)
  clear hr
  generalize allZ l = q at *
  go_enter Tryz.func47, Tryz.ntmps47
  go_wp2_with fail
  refine HC.out.mono ?_
  rintro e w2 ⟨rfl, hb⟩
  have HB := Lib.hid hb
  clear hb
  go_wp2_with fail
  go_ret
  exact ⟨ret_eq (by simp), HB.out⟩
theorem or_two (p q : Nat) (hp : p < 256) (hq : q < 256) : bits BinOp.or IntKind.i64 ((p : Int) * 256) (q : Int) = ((p * 256 + q : Nat) : Int) := by
  have h : p * 256 + q = (p * 256) ||| q := by
    have := Nat.shiftLeft_add_eq_or_of_lt (i := 8) (b := q) (by omega) p
    rw [Nat.shiftLeft_eq] at this
    exact this
  have e : (BitVec.ofInt IntKind.i64.bits ((p * 256 : Nat) : Int) ||| BitVec.ofInt IntKind.i64.bits (q : Int)).toNat = p * 256 + q := by
    rw [BitVec.ofInt_natCast, BitVec.ofInt_natCast, BitVec.toNat_or, BitVec.toNat_ofNat, BitVec.toNat_ofNat, show IntKind.i64.bits = 64 from rfl, Nat.mod_eq_of_lt (by omega), Nat.mod_eq_of_lt (by omega), h]
  unfold bits
  simp only
  rw [show ((p : Int) * 256) = ((p * 256 : Nat) : Int) by simp, e, IntKind.wrap_i64]
  omega
set_option maxRecDepth 100000 in
set_option maxHeartbeats 2000000 in
theorem two_any (w : World) (v : Value) (l : List UInt8) (n : Nat) (hr : RdB w v l) (h0 : l[0]? = some (UInt8.ofNat (n / 256))) (h1 : l[1]? = some (UInt8.ofNat n)) (hn : n < 65536) :
    Calls Tryz.prog 48 #[v] w fun e w' => e = .returned (.int .i64 (n : Int)) ∧ Fr [] w w' := by
  obtain ⟨a, cap, rfl, hc⟩ := RdB.open hr
  obtain ⟨l0, e0⟩ := List.getElem?_eq_some_iff.1 h0
  obtain ⟨l1, e1⟩ := List.getElem?_eq_some_iff.1 h1
  obtain ⟨b, off, rfl, c0⟩ := hc 0 l0
  obtain ⟨b', off', hx, c1⟩ := hc 1 l1
  simp only [Option.some.injEq, Addr.mk.injEq] at hx
  obtain ⟨rfl, rfl, _⟩ := hx
  rw [e0] at c0
  rw [e1] at c1
  have q0 : n8 (UInt8.ofNat (n / 256)) = ((n / 256 : Nat) : Int) := by unfold n8; rw [UInt8.toNat_ofNat']; omega
  have q1 : n8 (UInt8.ofNat n) = ((n % 256 : Nat) : Int) := by unfold n8; rw [UInt8.toNat_ofNat']
  rw [q0] at c0
  rw [q1] at c1
  obtain ⟨p, hp⟩ : ∃ p, p = n / 256 := ⟨_, rfl⟩
  obtain ⟨q, hq⟩ : ∃ q, q = n % 256 := ⟨_, rfl⟩
  rw [← hp] at c0
  rw [← hq] at c1
  have i0 : (1 : Int) < (l.length : Int) := by omega
  have i1 : (0 : Int) < (l.length : Int) := by omega
  have p0 : (p : Int) < 256 := by omega
  have p1 : (q : Int) < 256 := by omega
  have HN := Lib.hid (show n = p * 256 + q by omega)
  rw [Nat.add_zero] at c0
  clear hc h0 h1 e0 e1 q0 q1 hp hq hr l0 l1
  go_enter Tryz.func48, Tryz.ntmps48
  go_wp2_with fail
  refine wp_region_quiet_lit (by kernel_rfl) (by kernel_rfl) ?_
  have hor := or_two p q (by omega) (by omega)
  iterate 10 (go_big_quiet_step (fail))
  rw [show (p : Int) * 256 + (q : Int) = (n : Int) by have := HN.out; omega]
  go_big_quiet_step (fail)
  refine wpQuiet_nil ?_
  intro w' hw'
  obtain ⟨nq, rfl⟩ := hw'
  clear hor c0 c1
  go_wp2_with fail
  go_ret
  exact ⟨rfl, Fr.drewN w nq⟩
end Go.Proofs.YtcblfkojkdaepaaGreat
