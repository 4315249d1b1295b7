/- Something is done; what it wrote is forgotten where there is no room. -/
import Derived.Test.YtcblfkojkdaepaaGreatResize
import Derived.Defers
import Derived.Recover
namespace Go.Proofs.YtcblfkojkdaepaaGreat
open Go.RowKit Go.ChangeMaps
section
variable {K : Kx} {A Bx S : List Nat} {w : World} {N dm mb sb : Nat} {pg cur : Nat → List UInt8}
theorem StpB.front {w1 wi : World} (s : StpB K A N pg Bx S w1 wi cur) (h0 : Fr [] w w1) : StpB K A N pg Bx S w wi cur := by
  obtain ⟨f, Si, dmi, hS, x⟩ := s
  exact ⟨(h0.mono (by simp) : Fr (Bx ++ S) w w1).then f (fun k hk => .inl hk), Si, dmi, fun k hk => (hS k hk).imp id (fun h => Nat.le_trans h0.size h), x⟩
/-- The same cache, where no page is dirty. -/
abbrev Kz (K : Kx) : Kx := { K with pd := fun d => d = 0 }
theorem CX.z (h : CX K A w N S pg cur 0) : CX (Kz K) A w N S pg cur 0 := by
  obtain ⟨cm, rv, row, ops, df, cf, h, hN, hS, _⟩ := h
  exact ⟨cm, rv, row, ops, df, cf, h, hN, hS, rfl⟩
theorem StpB.openZ {w1 wi : World} (s : StpB K A N pg Bx S w1 wi cur) : ∃ Si dmi, CX K A wi N Si pg cur dmi ∧ (∀ b, b < w1.heap.size → b ∉ S → b ∉ Si) ∧ ∀ {w' : World}, Fr Si wi w' → CX (Kz K) A w' N Si pg pg 0 → StpB (Kz K) A N pg Bx S w1 w' pg := by
  obtain ⟨f, Si, dmi, hS, x⟩ := s
  exact ⟨Si, dmi, x, fun b hb hn hm => (hS b hm).elim hn (fun h => by omega), fun {w'} f2 x2 => ⟨f.then f2 (fun k hk => (hS k hk).imp (fun h => List.mem_append_right _ h) id), Si, 0, hS, x2⟩⟩
/-- A new box of another kind is turned. -/
theorem StpB.turnN {wi w' : World} (s : StpB K A N pg Bx S w wi cur) {b : Nat} (hb : w.heap.size ≤ b) (hf : Fr [b] wi w') {cs : Array Value} {t : TypeId} {fr : Nat × Nat} (e : wi.heap[b]? = some (.cells cs t fr)) (h1 : t ≠ 64) (h2 : t ≠ 114) (h3 : t = 46 → cs.size < 160) (h4 : t ≠ 3) (h5 : t ≠ 58) (h6 : t ≠ 149) (h7 : t = 5 → b ∈ A ∨ cs.size < 512) : StpB K A N pg Bx S w w' cur := by
  obtain ⟨Si, dmi, x, _⟩ := s.open
  exact s.turnA hb hf (fun Si dmi x => x.ne e h1 h2 h3 h4) (x.nep e h5) (Bok.of e h3 h6 h7)
set_option maxRecDepth 100000 in
set_option maxHeartbeats 1000000 in
theorem caught_fault [KAny K] (bs be : Nat) (e0 : Value) (w : World) (x : CX K A w N S pg cur dm) (m : MpAt w K mb) (so : SoAt w sb mb) (hs : w.heap[bs]? = some (.cells #[.pointer (some ⟨sb, 0, none⟩)] 36 (0, 0))) (he : w.heap[be]? = some (.cells #[e0] 24 (0, 0))) :
    CallsD Tryz.prog 61 #[.pointer (some ⟨bs, 0, none⟩), .pointer (some ⟨be, 0, none⟩)] (.panicking [{ v := faultV, recovered := false }]) w fun e u' w' =>
      e = .returned (.tuple #[]) ∧ u' = .panicking [{ v := faultV, recovered := true }] ∧ ∃ w2, Fr S w w2 ∧ CX K A w2 N S pg pg 0 ∧ w' = w2.setCell ⟨be, 0, none⟩ (.int .i64 7) := by
  have A1 := (Fr.refl [] w).alloc (.cells #[] 86)
  have x1 := x.fr0 A1
  have m1 := m.fr A1 (by simp)
  have so1 := so.fr A1 (by simp)
  have c0 := so1.c0
  have hs1 := A1.heap (by simp) hs
  have he1 := A1.heap (by simp) he
  have cs1 := (cell_of_row _ bs 0 _ _ _ hs1).trans (rfl : _ = some (Value.pointer (some ⟨sb, 0, none⟩)))
  have HCA := Lib.hid (acache_any _ m1)
  have HAB := Lib.hid (abortx_any x1)
  have HBE := Lib.hid (x1.ne he1 (by decide) (by decide) (fun e => absurd e (by decide)) (by decide))
  have HE1 := Lib.hid he1; have HA1 := Lib.hid A1
  clear x m so x1 m1 so1 hs he hs1 he1 A1
  refine callsD_of_wpS Tryz.func61 rfl fun c₀ cs hu => ?_
  apply wpS_seq
  apply wpS_region
  simp [wpOpsS, go_sem, recoverD, hu, Tryz.ntmps61, Exit.thenS, faultV]
  refine wpS_of_wp ?_
  change Code.wp _ _ _ (Act.mk #[.pointer (some ⟨bs, 0, none⟩), .pointer (some ⟨be, 0, none⟩), undef, undef, undef, .iface 86 (.agg #[]), undef, undef, undef, undef, undef, undef, undef, undef, undef, undef, undef] []) _
  have hta : ∀ w : World, (Instr.typeAssert (.iface 86 (.agg #[])) 20 86 true).run Tryz.prog w = .ok (.tuple #[.agg #[], .bool true]) w := fun w => by kernel_rfl
  go_wp2_with fail
  generalize w.alloc (.cells #[] 86) = w1 at *
  refine HCA.out.mono ?_
  rintro e w1' ⟨rfl, rfl⟩
  clear HCA c0 cs1
  go_wp2_with fail
  refine HAB.out.mono ?_
  rintro e w2 ⟨rfl, hf, hx⟩
  have he2 := hf.heap HBE.out HE1.out
  have k2 := (cell_of_row _ be 0 _ _ _ he2).trans (rfl : _ = some e0)
  have f2 := frozen_of_row w2 be 0 _ _ he2
  have HF := Lib.hid hf; have HX := Lib.hid hx
  clear HAB he2 hf hx
  go_wp2_with fail
  simp only [bodyPostS]
  exact ⟨trivial, _, rfl, .tuple #[], by simp [results, Tryz.results61], rfl, rfl, _, (HA1.out.mono (by simp)).trans HF.out, HX.out, rfl⟩
theorem caught_idle (a b : Value) (w : World) :
    CallsD Tryz.prog 61 #[a, b] .returning w fun e u' w' => e = .returned (.tuple #[]) ∧ u' = .returning ∧ w' = w := by
  refine callsD_of_wpS Tryz.func61 rfl fun c₀ cs hu => ?_
  apply wpS_seq
  apply wpS_region
  simp [wpOpsS, go_sem, recoverD, hu, Tryz.ntmps61, Exit.thenS]
  refine wpS_of_wp ?_
  change Code.wp _ _ _ (Act.mk #[a, b, undef, undef, undef, .nilIface, undef, undef, undef, undef, undef, undef, undef, undef, undef, undef, undef] []) _
  go_wp2_with fail
  cases c₀
  simp_all [bodyPostS, results, Tryz.results61]
set_option maxRecDepth 100000 in
set_option maxHeartbeats 2000000 in
theorem try_any [KAny K] (x : CX K A w N S pg cur dm) (m : MpAt w K mb) (so : SoAt w sb mb) (g : FuncId) (caps : Array Value) (Q : (Nat → List UInt8) → World → Prop) (Pn : World → Prop) (hBS : ∀ b ∈ Bx, b ∉ S) (hPn : ∀ w2 w3 U, Pn w2 → Fr U w2 w3 → (∀ b ∈ Bx, b ∉ U) → Pn w3)
    (hg : ∀ (args : Array Value) (w : World), (callFunc g args).run Tryz.prog w = .ok (.enter g args) w) (hmB : mb ∉ Bx) (hsB : sb ∉ Bx) (hBx : ∀ b ∈ Bx, b < w.heap.size)
    (hQ : ∀ c w2 w3, Q c w2 → Fr [w.heap.size + 1] w2 w3 → Q c w3)
    (hC : ∀ w1, Fr [] w w1 → Calls Tryz.prog g caps w1 fun e w2 => (e = .returned (.tuple #[]) ∧ ∃ c, StpB K A N pg Bx S w1 w2 c ∧ Q c w2) ∨ (e = .panicked [{ v := faultV, recovered := false }] ∧ Pn w2 ∧ ∃ c, StpB K A N pg Bx S w1 w2 c)) :
    Calls Tryz.prog 31 #[.pointer (some ⟨sb, 0, none⟩), .func (Fn.func g) #[] caps] w fun e w' => (e = .returned (.int .i64 0) ∧ ∃ c, StpB K A N pg Bx S w w' c ∧ Q c w') ∨ (e = .returned (.int .i64 7) ∧ Pn w' ∧ StpB (Kz K) A N pg Bx S w w' pg) := by
  have hmf : ∀ (fn : Fn) (first cap : Array Value) (w : World), (Instr.makeFunc fn first cap).run Tryz.prog w = .ok (.func fn first cap) w := fun _ _ _ _ => rfl
  have A1 := ((Fr.refl [] w).alloc (.cells #[.pointer (some ⟨sb, 0, none⟩)] 36)).alloc (.cells #[.int .i64 0] 24)
  have z1 : (w.alloc (.cells #[.pointer (some ⟨sb, 0, none⟩)] 36)).heap.size = w.heap.size + 1 := by simp
  have he1 := heap_alloc_new (w.alloc (.cells #[.pointer (some ⟨sb, 0, none⟩)] 36)) (.cells #[.int .i64 0] 24)
  rw [z1] at he1
  have hs1 : ((w.alloc (.cells #[.pointer (some ⟨sb, 0, none⟩)] 36)).alloc (.cells #[.int .i64 0] 24)).heap[w.heap.size]? = some (.cells #[.pointer (some ⟨sb, 0, none⟩)] 36 (0, 0)) := by
    exact (((Fr.refl [] _).alloc _ : Fr [] (w.alloc (.cells #[.pointer (some ⟨sb, 0, none⟩)] 36)) _).heap (by simp) (heap_alloc_new _ _))
  have HX := Lib.hid x; have HM := Lib.hid m; have HSO := Lib.hid so; have HC := Lib.hid hC; have HQ := Lib.hid hQ
  have HMB := Lib.hid hmB; have HSB := Lib.hid hsB; have HBX := Lib.hid hBx; have HA1 := Lib.hid A1; have HE1 := Lib.hid he1; have HS1 := Lib.hid hs1
  have HPP := Lib.hid hPn; have HBSS := Lib.hid hBS
  clear x m so hC hQ hmB hsB hBx A1 he1 hs1 z1 hPn hBS
  go_enter_defers Tryz.func31, Tryz.ntmps31
  go_wp2_with fail
  generalize (w.alloc (.cells #[.pointer (some ⟨sb, 0, none⟩)] 36)).alloc (.cells #[.int .i64 0] 24) = w1 at *
  obtain ⟨bs, hbs⟩ : ∃ b, b = w.heap.size := ⟨_, rfl⟩
  obtain ⟨be, hbe⟩ : ∃ b, b = w.heap.size + 1 := ⟨_, rfl⟩
  rw [← hbe] at HE1 HQ ⊢
  rw [← hbs] at HS1 ⊢
  have HBS := Lib.hid hbs; have HBE := Lib.hid hbe
  clear hbs hbe
  have HNB : Hid (∀ b, w.heap.size ≤ b → b ∉ Bx ++ S) := Lib.hid fun b hb hm => by
    rcases List.mem_append.1 hm with hm | hm
    · have := HBX.out b hm; omega
    · have := HX.out.lt b hm; omega
  refine (HC.out _ HA1.out).mono ?_
  rintro e w2 (⟨rfl, c, hs, hq⟩ | ⟨rfl, hpn, c, hs⟩)
  · have he2 := hs.1.heap (HNB.out be (by have := HBE.out; omega)) HE1.out
    have k2 := (cell_of_row _ be 0 _ _ _ he2).trans (rfl : _ = some (Value.int .i64 0))
    have f2 := frozen_of_row w2 be 0 _ _ he2
    have F3 : Fr [be] w2 (w2.setCell ⟨be, 0, none⟩ (.int .i64 0)) := (Fr.refl [be] w2).setCell (p := ⟨be, 0, none⟩) (.inl (by simp)) _
    have he3 := heap_setCell_same w2 be 0 _ _ (.int .i64 0) he2
    have k3 : (w2.setCell ⟨be, 0, none⟩ (.int .i64 0)).cell? ⟨be, 0, none⟩ = some (.int .i64 0) := (cell_of_row _ be 0 _ _ _ he3).trans rfl
    have HS2 := Lib.hid ((hs.front HA1.out).turnN (by have := HBE.out; omega) F3 he2 (by decide) (by decide) (fun e => absurd e (by decide)) (by decide) (by decide) (by decide) (fun e => absurd e (by decide)))
    have HQ2 := Lib.hid (HQ.out _ _ _ hq F3)
    clear he2 he3 hs hq F3 HC HQ
    go_wp2_with fail
    refine leaves_cons (f := 61) (args := #[.pointer (some ⟨bs, 0, none⟩), .pointer (some ⟨be, 0, none⟩)]) (by simp) (by simp [go_sem]) ?_
    refine (caught_idle _ _ _).mono ?_
    rintro e u' w'' ⟨rfl, rfl, rfl⟩
    simp only [Leaves, settle]
    exact ⟨.int .i64 0, by simp [results, Tryz.results31, go_sem, k3], .inl ⟨rfl, _, HS2.out, HQ2.out⟩⟩
  · have he2 := hs.1.heap (HNB.out be (by have := HBE.out; omega)) HE1.out
    have hs2 := hs.1.heap (HNB.out bs (by have := HBS.out; omega)) HS1.out
    obtain ⟨Si, dmi, xi, hni, hnx⟩ := (hs.front HA1.out).openZ
    have mi := HM.out.stpB HX.out HMB.out (hs.front HA1.out)
    have si := HSO.out.stpB HX.out HSB.out (hs.front HA1.out)
    have HCF := Lib.hid (caught_fault bs be (.int .i64 0) w2 xi mi si hs2 he2)
    have HNX := Lib.hid (fun (w' : World) (h1 : Fr Si w2 w') (h2 : CX (Kz K) A w' N Si pg pg 0) => hnx h1 h2)
    have HEI := Lib.hid (xi.ne he2 (by decide) (by decide) (fun e => absurd e (by decide)) (by decide))
    have HE2 := Lib.hid he2; have HPN := Lib.hid hpn; have HNI := Lib.hid hni
    clear hpn he2 hs2 xi hni hnx mi si hs HC HQ
    go_wp2_with fail
    refine leaves_cons (f := 61) (args := #[.pointer (some ⟨bs, 0, none⟩), .pointer (some ⟨be, 0, none⟩)]) (by simp) (by simp [go_sem]) ?_
    refine HCF.out.mono ?_
    rintro e u' w'' ⟨rfl, rfl, w3, hf, hx, rfl⟩
    have he3 := hf.heap HEI.out HE2.out
    have F4 : Fr [be] w3 (w3.setCell ⟨be, 0, none⟩ (.int .i64 7)) := (Fr.refl [be] w3).setCell (p := ⟨be, 0, none⟩) (.inl (by simp)) _
    have he4 := heap_setCell_same w3 be 0 _ _ (.int .i64 7) he3
    have k3 : (w3.setCell ⟨be, 0, none⟩ (.int .i64 7)).cell? ⟨be, 0, none⟩ = some (.int .i64 7) := (cell_of_row _ be 0 _ _ _ he4).trans rfl
    have hs3 : StpB (Kz K) A N pg Bx S w w3 pg := HNX.out _ hf hx.z
    have HS4 := Lib.hid (hs3.turnN (by have := HBE.out; omega) F4 he3 (by decide) (by decide) (fun e => absurd e (by decide)) (by decide) (by decide) (by decide) (fun e => absurd e (by decide)))
    have hbe : ∀ b ∈ Bx, b ∉ [be] := fun b hb hm => by
      simp at hm; subst hm
      have := HBX.out _ hb; have := HBE.out; omega
    have hp4 := HPP.out _ _ _ (HPP.out _ _ _ HPN.out hf (fun b hb => HNI.out b (HBX.out b hb) (HBSS.out b hb))) F4 hbe
    simp only [Leaves, settle, List.dropWhile_nil]
    exact ⟨.int .i64 7, by simp [results, Tryz.results31, go_sem, k3], .inr ⟨rfl, hp4, HS4.out⟩⟩
end
end Go.Proofs.YtcblfkojkdaepaaGreat
