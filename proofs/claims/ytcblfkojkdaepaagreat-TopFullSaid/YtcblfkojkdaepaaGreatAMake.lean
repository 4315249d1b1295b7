/- A map of a new disk is made. -/
import Derived.Test.YtcblfkojkdaepaaGreatNums
namespace Go.Proofs.YtcblfkojkdaepaaGreat
open Go.RowKit Go.ChangeMaps
def slP (q : Nat) : Value := .slice (some ⟨q, 0, none⟩) 512 512
/-- While the pages are made: k + 1 of them. -/
structure MkI (B : Nat) (w wr : World) (k : Nat) (v : Value) (qs : List Nat) : Prop where
  own : wr.ownsRow B 46 1 v (k + 1) (qs.map slP)
  len : qs.length = k + 1
  nd : qs.Nodup
  pg0 : ∀ q, qs[0]? = some q → PgX wr B q
  pgs : ∀ j q, 0 < j → qs[j]? = some q → PgO wr B q 512 zBytes
  fr : Fr [] w wr
  bs : B ≤ wr.heap.size
  wb : w.heap.size ≤ B
theorem MkI.lt {B : Nat} {w wr : World} {k : Nat} {v : Value} {qs : List Nat} (h : MkI B w wr k v qs) : ∀ q ∈ qs, B ≤ q ∧ q < wr.heap.size ∧ ∃ cs, wr.heap[q]? = some (.cells cs 5 (0, 0)) := fun q hq => by
  obtain ⟨j, hj⟩ := List.getElem?_of_mem hq
  rcases Nat.eq_zero_or_pos j with rfl | h0
  · obtain ⟨L, hp⟩ := h.pg0 q hj
    obtain ⟨cs, e, _, hb⟩ := own_kind hp
    exact ⟨hb, hp.lt, cs, e⟩
  · have hp := h.pgs j q h0 hj
    obtain ⟨cs, e, _, hb⟩ := own_kind hp
    exact ⟨hb, hp.lt, cs, e⟩
theorem MkI.step {B : Nat} {w wr w' : World} {k : Nat} {v v' : Value} {qs : List Nat} (h : MkI B w wr k v qs) (hown : w'.ownsRow B 46 1 v' (k + 2) ((qs ++ [wr.heap.size]).map slP)) (hg : ((wr.alloc (.cells zRow 5)).alloc (.cells #[slP wr.heap.size] 46)).grownBy w' v.ownBlock) : MkI B w w' (k + 1) v' (qs ++ [wr.heap.size]) := by
  have hlt := h.lt
  have A1 := ((Fr.refl [] wr).alloc (.cells zRow 5)).alloc (.cells #[slP wr.heap.size] 46)
  have F2 : Fr v.ownBlock.toList wr w' := (A1.mono (by simp) : Fr v.ownBlock.toList wr _).grown hg (fun b hb => .inl (by rw [hb]; simp))
  have hvb : ∀ b ∈ v.ownBlock.toList, B ≤ b ∧ ∃ cs, wr.heap[b]? = some (.cells cs 46 (0, 0)) := fun b hb => by
    rcases h.own.2 with ⟨h0, _⟩ | ⟨g, cp, cur, h0, hbg, hh, _⟩
    · rw [h0] at hb; simp [Value.ownBlock] at hb
    · rw [h0] at hb; simp [Value.ownBlock] at hb; subst hb; exact ⟨hbg, _, hh⟩
  have hne : ∀ q ∈ qs, q ∉ v.ownBlock.toList := fun q hq hb => by
    obtain ⟨_, _, cs, e⟩ := hlt q hq
    obtain ⟨_, cs', e'⟩ := hvb q hb
    exact ne_ty e e' (by decide) rfl
  have hnew : wr.heap.size ∉ v.ownBlock.toList := fun hb => by
    obtain ⟨_, cs', e'⟩ := hvb _ hb
    have := (Array.getElem?_eq_some_iff.1 e').1
    omega
  have P0 := PgO.new wr
  have hs1 : wr.heap.size < (wr.alloc (.cells zRow 5)).heap.size := by simp
  have P1 : PgO w' B wr.heap.size 512 zBytes := by
    have F1 : Fr v.ownBlock.toList (wr.alloc (.cells zRow 5)) w' := (((Fr.refl [] _).alloc _).mono (by simp) : Fr v.ownBlock.toList (wr.alloc (.cells zRow 5)) _).grown hg (fun b hb => .inl (by rw [hb]; simp))
    exact own_mono (P0.kept F1 hnew) h.bs
  refine ⟨hown, by simp [h.len], ?_, fun q hq => ?_, fun j q h0 hq => ?_, ?_, Nat.le_trans h.bs F2.size, h.wb⟩
  · rw [List.nodup_append]
    refine ⟨h.nd, by simp, fun a ha b hb => ?_⟩
    simp at hb; subst hb
    have := (hlt a ha).2.1
    omega
  · rw [List.getElem?_append_left (by rw [h.len]; omega)] at hq
    obtain ⟨L, hp⟩ := h.pg0 q hq
    exact ⟨L, hp.kept F2 (hne q (List.mem_of_getElem? hq))⟩
  · by_cases hj : j < qs.length
    · rw [List.getElem?_append_left hj] at hq
      exact (h.pgs j q h0 hq).kept F2 (hne q (List.mem_of_getElem? hq))
    · rw [List.getElem?_append_right (by omega)] at hq
      have hj0 : j - qs.length = 0 := by
        have := (List.getElem?_eq_some_iff.1 hq).1
        simp at this; omega
      rw [hj0] at hq
      simp at hq; subst hq
      exact P1
  · exact h.fr.then F2 (fun b hb => .inr (Nat.le_trans h.wb (hvb b hb).1))
theorem MkI.off {B : Nat} {w wr : World} {k : Nat} {v : Value} {qs : List Nat} (h : MkI B w wr k v qs) {b : Nat} {cs : Array Value} {t : TypeId} {fr : Nat × Nat} (e : wr.heap[b]? = some (.cells cs t fr)) (ht : t ≠ 46) : b ∉ v.ownBlock.toList := fun hb => by
  rcases h.own.2 with ⟨h0, _⟩ | ⟨g, cp, cur, h0, hbg, hh, _⟩
  · rw [h0] at hb; simp [Value.ownBlock] at hb
  · rw [h0] at hb; simp [Value.ownBlock] at hb; subst hb; exact ne_ty e hh ht rfl
theorem MkI.grow {wr w' : World} {v : Value} {o1 o2 : Obj} (hg : ((wr.alloc o1).alloc o2).grownBy w' v.ownBlock) : Fr v.ownBlock.toList wr w' :=
  ((((Fr.refl [] wr).alloc o1).alloc o2).mono (by simp) : Fr v.ownBlock.toList wr _).grown hg (fun b hb => .inl (by rw [hb]; simp))
theorem wpList_rowP {w : World} {ops : Array Oper} {rest : List Oper} {o : Oper} {a : Act} {Q : Exit → Act → World → Prop} (hgd : o.guard = none) (s x : Operand)
    (ho : o.op = .call { callee := .builtin .append, args := #[s, x], argTypes := #[51, 51] })
    (base : Nat) (v : Value) (k : Nat) (qs : List Nat) (hs : a.eval s = v) (hown : w.ownsRow base 46 1 v k (qs.map slP)) (b q : Nat) (hx : a.eval x = .slice (some ⟨b, 0, none⟩) 1 1) (hb : w.heap[b]? = some (.cells #[slP q] 46 (0, 0))) (hl : k ≤ 1000) (hbase : base ≤ w.heap.size)
    (h : ∀ v' w', w'.ownsRow base 46 1 v' (k + 1) ((qs ++ [q]).map slP) → w.grownBy w' v.ownBlock → wpList Tryz.prog ops Q rest (a.put o.dst v') w') : wpList Tryz.prog ops Q (o :: rest) a w := by
  obtain ⟨i0, hi, hz0, hz1, hz2⟩ := info_parts info_row
  refine wpList_append_own w hgd s x 51 ho base 46 i0 (.slice none 0 0) 1 24 Tryz.underlying51 hi hz0 hz1 hz2 rfl (by decide) v k (qs.map slP) hs hown ⟨b, 0, none⟩ 1 1 [slP q] hx rfl (fun j u hj => by
    rw [show (⟨b, 0, none⟩ : Addr).add j = ⟨b, j, none⟩ by unfold Addr.add; split <;> simp_all]
    rw [cell_of_row w b j _ _ _ hb]; simpa using hj) (fun u hu => by simp at hu; subst hu; rfl) (by simp only [maxLen]; omega) (by omega) hbase ?_
  intro v' w' q1 q2 _
  exact h v' w' (by rw [List.map_append]; exact q1) q2
theorem bm_one : zBytes.set 0 1 = bmL 1 := by decide +kernel
theorem bm_zero : zBytes = bmL 0 := by decide +kernel
theorem bm_cell0 : ∀ k : Fin 5, (bmL k.val)[0]? = some (UInt8.ofNat (2 ^ k.val - 1)) := by decide +kernel
theorem bm_set0 : ∀ k : Fin 5, (bmL k.val).set 0 (UInt8.ofNat (2 ^ (k.val + 1) - 1)) = bmL (k.val + 1) := by decide +kernel
section
variable {K : Kx} {A S : List Nat} {w : World} {N dm : Nat} {pg cur : Nat → List UInt8}
set_option maxRecDepth 100000 in
set_option maxHeartbeats 8000000 in
theorem amake_any [KAny K] (x : CX K A w N S pg cur dm) :
    Calls Tryz.prog 7 #[.pointer (some ⟨K.c, 0, none⟩), .int .i64 16] w fun e w' => ∃ mb c, e = .returned (.tuple #[.pointer (some ⟨mb, 0, none⟩), .int .i64 0]) ∧ w.heap.size ≤ mb ∧ MpAt w' K mb ∧ Stp K A N pg S w w' c ∧ c 1 = bmL 1 ∧ c 2 = bmL 5 := by
  have HLG := Lib.hid (logx_any x)
  have HPG := Lib.hid (pagesx_any x)
  have hmk := run_makeSec
  have HX := Lib.hid x
  clear x
  go_enter Tryz.func7, Tryz.ntmps7
  go_wp2_with fail
  refine HLG.out.mono ?_
  rintro e w' ⟨rfl, rfl⟩
  go_wp2_with fail
  refine HPG.out.mono ?_
  rintro e w2 ⟨rfl, nq, hw2⟩
  have HMAY := Lib.hid (may_any w2)
  have F2 : Fr [] w' w2 := by rw [hw2]; exact Fr.drewN w' nq
  have hz2 : w2.heap.size = w'.heap.size := by rw [hw2]; rfl
  clear hw2 HLG HPG
  go_wp2_with fail
  refine HMAY.out.mono ?_
  rintro e w2' ⟨rfl, rfl⟩
  clear HMAY
  have HSU := Lib.hid (super_any (w2'.alloc (.cells #[.pointer (some ⟨K.c, 0, none⟩), .int .i64 16] 68)))
  have A3 := F2.trans ((Fr.refl [] w2').alloc (.cells #[.pointer (some ⟨K.c, 0, none⟩), .int .i64 16] 68))
  have HM3 := Lib.hid (heap_alloc_new w2' (.cells #[.pointer (some ⟨K.c, 0, none⟩), .int .i64 16] 68))
  have HA3 := Lib.hid A3
  clear A3
  go_wp2_with fail
  generalize w2'.alloc (.cells #[.pointer (some ⟨K.c, 0, none⟩), .int .i64 16] 68) = w3 at *
  obtain ⟨mb, hmb⟩ : ∃ b, b = w2'.heap.size := ⟨_, rfl⟩
  obtain ⟨B, hB⟩ : ∃ b, b = w'.heap.size := ⟨_, rfl⟩
  rw [← hmb] at HM3
  rw [← hB]
  have HMB := Lib.hid (show mb = B by omega)
  have HBE := Lib.hid hB
  clear hmb hB hz2 F2
  refine HSU.out.mono ?_
  rintro e w4 ⟨q0, rfl, hq0, hx0, hf4⟩
  have A5 := (Fr.refl [] w4).alloc (.cells #[slP q0] 46)
  have N5 := heap_alloc_new w4 (.cells #[slP q0] 46)
  have hB3 : B ≤ w3.heap.size := by rw [HBE.out]; exact HA3.out.size
  have HI := Lib.hid (show MkI B w' (w4.alloc (.cells #[slP q0] 46)) 0 (.slice (some ⟨w4.heap.size, 0, none⟩) 1 1) [q0] from
    ⟨⟨rfl, .inr ⟨_, 1, _, rfl, by have := hf4.size; omega, N5, Nat.le_refl _, by decide, rfl, rfl⟩⟩, rfl, by simp, fun q hq => by
      simp at hq; subst hq
      exact hx0.elim fun L h => ⟨L, own_mono (h.kept A5 (by simp)) hB3⟩, fun j q h0 hq => by
      obtain ⟨j', rfl⟩ : ∃ j', j = j' + 1 := ⟨j - 1, by omega⟩
      simp at hq, (HA3.out.trans hf4).trans A5, by have := (hf4.trans A5).size; omega, by rw [HBE.out]; exact Nat.le_refl _⟩)
  have hm5 : MpAt (w4.alloc (.cells #[slP q0] 46)) K mb := (hf4.trans A5).heap (by simp) HM3.out
  have HFI := Lib.hid (afirst_any _ hm5)
  have HM5 := Lib.hid hm5
  clear hx0 hf4 A5 N5 hm5 HSU
  unfold slP at HI HM5 HFI
  rw [show B = mb from HMB.out.symm]
  go_wp2_with fail
  generalize w4.alloc (.cells #[.slice (some ⟨q0, 0, none⟩) 512 512] 46) = w5 at *
  generalize Value.slice (some ⟨w4.heap.size, 0, none⟩) 1 1 = v5 at *
  refine HFI.out.mono ?_
  rintro e w5' ⟨rfl, rfl⟩
  clear HFI
  have HMI : Hid (∀ wr, Fr [] w5' wr → MpAt wr K mb) := Lib.hid fun wr h => HM5.out.fr h (by simp)
  go_wp2_with fail
  go_loopw [32, 8] (fun kv v wr => ∃ (k : Nat) (qs : List Nat), k ≤ 4 ∧ kv = .int .i64 (k : Int) ∧ MkI B w' wr k v qs ∧ MpAt wr K mb) (fun kv _ _ => ((4 : Int) - intOf kv).toNat)
  case atStart => exact ⟨0, _, by omega, rfl, HI.out, HM5.out⟩
  case round =>
    obtain ⟨k, qs, hk, rfl, hI, hF3⟩ := hrel
    clear HI
    by_cases hlt : k < 4
    · have hltI : (k : Int) < 4 := by omega
      have HI := Lib.hid hI; have HF3 := Lib.hid hF3
      have hmk2 := run_makeSec wr
      have A6 := ((Fr.refl [] wr).alloc (.cells zRow 5)).alloc (.cells #[slP wr.heap.size] 46)
      have HO6 := Lib.hid (own_keep (S := []) hI.own A6 (by simp))
      have HN6 := Lib.hid (heap_alloc_new (wr.alloc (.cells zRow 5)) (.cells #[slP wr.heap.size] 46))
      have HB6 := Lib.hid (Nat.le_trans hI.bs A6.size)
      clear hI hF3 A6
      go_wp2_with (refine wpList_rowP rfl _ _ rfl B _ (k + 1) qs rfl HO6.out (wr.alloc (.cells zRow 5)).heap.size wr.heap.size (by simp [Act.eval]) HN6.out (by omega) HB6.out ?_; intro v' w6 hown hgr; (have HW := Lib.hid hown); (have HG := Lib.hid hgr); clear hown hgr)
      have hm6 := HF3.out.fr (MkI.grow HG.out) (HI.out.off HF3.out (by decide))
      exact ⟨⟨k + 1, _, by omega, by simp, HI.out.step HW.out HG.out, hm6⟩, by simp [intOf]; omega⟩
    · obtain rfl : k = 4 := by omega
      obtain ⟨q0', q1, q2, q3, q4, hqs⟩ : ∃ a b c d e, qs = [a, b, c, d, e] := by
        have hl := hI.len
        match qs, hl with
        | [a, b, c, d, e], _ => exact ⟨a, b, c, d, e, rfl⟩
      subst hqs
      have p0 := hI.pg0 q0' rfl
      have p1 := hI.pgs 1 q1 (by omega) rfl
      have p2 := hI.pgs 2 q2 (by omega) rfl
      have p3 := hI.pgs 3 q3 (by omega) rfl
      have p4 := hI.pgs 4 q4 (by omega) rfl
      have hnd := hI.nd
      have hF := hI.fr
      rcases hI.own.2 with ⟨_, h0⟩ | ⟨gv, cv, cs, rfl, hbg, hgv, hn5, _, hcs, htk⟩
      · omega
      have hat : ∀ (j q : Nat), [q0', q1, q2, q3, q4][j]? = some q → cs[j]? = some (slP q) := fun j q hj => by
        have h1 : (cs.toList.take (5 * 1))[j]? = some (slP q) := by rw [htk, List.getElem?_map, hj]; rfl
        rw [List.getElem?_take] at h1
        split at h1
        · simpa using h1
        · cases h1
      simp only [List.nodup_cons, List.mem_cons, List.not_mem_nil, or_false, not_or] at hnd
      have P4 := p1.set 0 1
      rw [bm_one] at P4
      have F4 := (Fr.refl [q1] wr).setCell (p := ⟨q1, 0, none⟩) (.inl (by simp)) (vB 1)
      have c1 := (cell_of_row wr gv 1 _ _ _ hgv).trans (hat 1 q1 rfl)
      have k1 : wr.cell? ⟨q1, 0, none⟩ = some (.int .u8 0) := p1.cell 0 0 rfl
      have f1 := p1.free 0
      have hgq : ∀ q L, PgO wr B q 512 L → gv ≠ q := fun q L h => by
        obtain ⟨cs', e, _⟩ := own_kind h
        exact ne_ty hgv e (by decide)
      have hmq : ∀ q L, PgO wr B q 512 L → mb ≠ q := fun q L h => by
        obtain ⟨cs', e, _⟩ := own_kind h
        exact ne_ty hF3 e (by decide)
      have HT : Hid (∀ (j q : Nat), [q0', q1, q2, q3, q4][j]? = some q → cs[j]? = some (slP q)) := Lib.hid hat
      have HGV := Lib.hid (F4.heap (by simpa using hgq _ _ p1) hgv)
      have HMP := Lib.hid (hF3.fr F4 (by simpa using hmq _ _ p1))
      have HP0 := Lib.hid (p0.elim fun L h => (⟨L, h.kept F4 (by simp; omega)⟩ : PgX _ B q0'))
      have HP1 := Lib.hid P4
      have HP2 := Lib.hid (p2.kept F4 (by simp; omega)); have HP3 := Lib.hid (p3.kept F4 (by simp; omega)); have HP4 := Lib.hid (p4.kept F4 (by simp; omega))
      have hb1 : B ≤ q1 := (own_kind p1).elim fun _ h => h.2.2
      have HFR := Lib.hid (hF.then F4 (fun b hb => .inr (by simp at hb; subst hb; exact Nat.le_trans hI.wb hb1)))
      have HGQ2 := Lib.hid (hgq _ _ p2); have HMQ2 := Lib.hid (hmq _ _ p2)
      have HND := Lib.hid hnd; have HBG := Lib.hid hbg
      unfold slP at c1
      clear hI hF3 p0 p1 p2 p3 p4 hnd hF hbg hgv hcs htk hat P4 F4 hgq hmq hb1 hlt hk
      go_wp2_with fail
      clear c1 k1 f1
      change Calls _ _ _ (wr.setCell ⟨q1, 0, none⟩ (vB 1)) _
      generalize wr.setCell ⟨q1, 0, none⟩ (vB 1) = w6 at *
      refine (afirst_any w6 HMP.out).mono ?_
      rintro e w6' ⟨rfl, rfl⟩
      go_wp2_with fail
      go_loopw [45] (fun kv wr2 => ∃ k : Nat, k ≤ 5 ∧ kv = .int .i64 (k : Int) ∧ PgO wr2 B q2 512 (bmL k) ∧ Fr [q2] w6' wr2) (fun kv _ => ((5 : Int) - intOf kv).toNat)
      case atStart => exact ⟨0, by omega, rfl, by rw [← bm_zero]; exact HP2.out, Fr.refl _ _⟩
      case round =>
        obtain ⟨k, hk, rfl, hP, hF⟩ := hrel
        have hk6 : k = 0 ∨ k = 1 ∨ k = 2 ∨ k = 3 ∨ k = 4 ∨ k = 5 := by omega
        have g2 := hF.heap (by simpa using HGQ2.out) HGV.out
        have c2 := (cell_of_row _ gv 2 _ _ _ g2).trans (HT.out 2 q2 rfl)
        unfold slP at c2
        have HP := Lib.hid hP; have HF := Lib.hid hF
        clear hF g2
        rcases hk6 with rfl | rfl | rfl | rfl | rfl | rfl
        · have k2 : wr.cell? ⟨q2, 0, none⟩ = some (.int .u8 0) := hP.cell 0 _ (bm_cell0 ⟨0, by omega⟩)
          have HF5 := Lib.hid (fun nq => (HP.out.kept (Fr.drewN (S := []) wr nq) (by simp)).set 0 (UInt8.ofNat (2 ^ (0 + 1) - 1)))
          have HFF := Lib.hid (fun nq => (HF.out.trans (Fr.drewN (S := [q2]) wr nq)).setCell (p := ⟨q2, 0, none⟩) (.inl (by simp)) (vB (UInt8.ofNat (2 ^ (0 + 1) - 1))))
          clear hP
          go_wp2_with fail
          refine wp_region_qtail_lit 12 (by kernel_rfl) (by kernel_rfl) ?_
          simp only [List.take_succ_cons, List.take_zero, List.drop_succ_cons, List.drop_zero]
          repeat go_big_quiet_step (fail)
          refine wpQuiet_nil ?_
          intro w' hw'
          obtain ⟨nq, rfl⟩ := hw'
          have f2 : (wr.drewN nq).frozen? ⟨q2, 0, none⟩ = false := HP.out.free 0
          have kk2 : (wr.drewN nq).cell? ⟨q2, 0, none⟩ = some (.int .u8 0) := k2
          have hp5 := HF5.out nq
          rw [bm_set0 ⟨0, by omega⟩] at hp5
          have HP5 := Lib.hid hp5; have HF6 := Lib.hid (HFF.out nq)
          clear hp5 HF5 HFF
          go_wp2_with fail
          exact ⟨⟨0 + 1, by omega, rfl, HP5.out, HF6.out⟩, by simp [intOf]⟩
        · have k2 : wr.cell? ⟨q2, 0, none⟩ = some (.int .u8 1) := hP.cell 0 _ (bm_cell0 ⟨1, by omega⟩)
          have HF5 := Lib.hid (fun nq => (HP.out.kept (Fr.drewN (S := []) wr nq) (by simp)).set 0 (UInt8.ofNat (2 ^ (1 + 1) - 1)))
          have HFF := Lib.hid (fun nq => (HF.out.trans (Fr.drewN (S := [q2]) wr nq)).setCell (p := ⟨q2, 0, none⟩) (.inl (by simp)) (vB (UInt8.ofNat (2 ^ (1 + 1) - 1))))
          clear hP
          go_wp2_with fail
          refine wp_region_qtail_lit 12 (by kernel_rfl) (by kernel_rfl) ?_
          simp only [List.take_succ_cons, List.take_zero, List.drop_succ_cons, List.drop_zero]
          repeat go_big_quiet_step (fail)
          refine wpQuiet_nil ?_
          intro w' hw'
          obtain ⟨nq, rfl⟩ := hw'
          have f2 : (wr.drewN nq).frozen? ⟨q2, 0, none⟩ = false := HP.out.free 0
          have kk2 : (wr.drewN nq).cell? ⟨q2, 0, none⟩ = some (.int .u8 1) := k2
          have hp5 := HF5.out nq
          rw [bm_set0 ⟨1, by omega⟩] at hp5
          have HP5 := Lib.hid hp5; have HF6 := Lib.hid (HFF.out nq)
          clear hp5 HF5 HFF
          go_wp2_with fail
          exact ⟨⟨1 + 1, by omega, rfl, HP5.out, HF6.out⟩, by simp [intOf]⟩
        · have k2 : wr.cell? ⟨q2, 0, none⟩ = some (.int .u8 3) := hP.cell 0 _ (bm_cell0 ⟨2, by omega⟩)
          have HF5 := Lib.hid (fun nq => (HP.out.kept (Fr.drewN (S := []) wr nq) (by simp)).set 0 (UInt8.ofNat (2 ^ (2 + 1) - 1)))
          have HFF := Lib.hid (fun nq => (HF.out.trans (Fr.drewN (S := [q2]) wr nq)).setCell (p := ⟨q2, 0, none⟩) (.inl (by simp)) (vB (UInt8.ofNat (2 ^ (2 + 1) - 1))))
          clear hP
          go_wp2_with fail
          refine wp_region_qtail_lit 12 (by kernel_rfl) (by kernel_rfl) ?_
          simp only [List.take_succ_cons, List.take_zero, List.drop_succ_cons, List.drop_zero]
          repeat go_big_quiet_step (fail)
          refine wpQuiet_nil ?_
          intro w' hw'
          obtain ⟨nq, rfl⟩ := hw'
          have f2 : (wr.drewN nq).frozen? ⟨q2, 0, none⟩ = false := HP.out.free 0
          have kk2 : (wr.drewN nq).cell? ⟨q2, 0, none⟩ = some (.int .u8 3) := k2
          have hp5 := HF5.out nq
          rw [bm_set0 ⟨2, by omega⟩] at hp5
          have HP5 := Lib.hid hp5; have HF6 := Lib.hid (HFF.out nq)
          clear hp5 HF5 HFF
          go_wp2_with fail
          exact ⟨⟨2 + 1, by omega, rfl, HP5.out, HF6.out⟩, by simp [intOf]⟩
        · have k2 : wr.cell? ⟨q2, 0, none⟩ = some (.int .u8 7) := hP.cell 0 _ (bm_cell0 ⟨3, by omega⟩)
          have HF5 := Lib.hid (fun nq => (HP.out.kept (Fr.drewN (S := []) wr nq) (by simp)).set 0 (UInt8.ofNat (2 ^ (3 + 1) - 1)))
          have HFF := Lib.hid (fun nq => (HF.out.trans (Fr.drewN (S := [q2]) wr nq)).setCell (p := ⟨q2, 0, none⟩) (.inl (by simp)) (vB (UInt8.ofNat (2 ^ (3 + 1) - 1))))
          clear hP
          go_wp2_with fail
          refine wp_region_qtail_lit 12 (by kernel_rfl) (by kernel_rfl) ?_
          simp only [List.take_succ_cons, List.take_zero, List.drop_succ_cons, List.drop_zero]
          repeat go_big_quiet_step (fail)
          refine wpQuiet_nil ?_
          intro w' hw'
          obtain ⟨nq, rfl⟩ := hw'
          have f2 : (wr.drewN nq).frozen? ⟨q2, 0, none⟩ = false := HP.out.free 0
          have kk2 : (wr.drewN nq).cell? ⟨q2, 0, none⟩ = some (.int .u8 7) := k2
          have hp5 := HF5.out nq
          rw [bm_set0 ⟨3, by omega⟩] at hp5
          have HP5 := Lib.hid hp5; have HF6 := Lib.hid (HFF.out nq)
          clear hp5 HF5 HFF
          go_wp2_with fail
          exact ⟨⟨3 + 1, by omega, rfl, HP5.out, HF6.out⟩, by simp [intOf]⟩
        · have k2 : wr.cell? ⟨q2, 0, none⟩ = some (.int .u8 15) := hP.cell 0 _ (bm_cell0 ⟨4, by omega⟩)
          have HF5 := Lib.hid (fun nq => (HP.out.kept (Fr.drewN (S := []) wr nq) (by simp)).set 0 (UInt8.ofNat (2 ^ (4 + 1) - 1)))
          have HFF := Lib.hid (fun nq => (HF.out.trans (Fr.drewN (S := [q2]) wr nq)).setCell (p := ⟨q2, 0, none⟩) (.inl (by simp)) (vB (UInt8.ofNat (2 ^ (4 + 1) - 1))))
          clear hP
          go_wp2_with fail
          refine wp_region_qtail_lit 12 (by kernel_rfl) (by kernel_rfl) ?_
          simp only [List.take_succ_cons, List.take_zero, List.drop_succ_cons, List.drop_zero]
          repeat go_big_quiet_step (fail)
          refine wpQuiet_nil ?_
          intro w' hw'
          obtain ⟨nq, rfl⟩ := hw'
          have f2 : (wr.drewN nq).frozen? ⟨q2, 0, none⟩ = false := HP.out.free 0
          have kk2 : (wr.drewN nq).cell? ⟨q2, 0, none⟩ = some (.int .u8 15) := k2
          have hp5 := HF5.out nq
          rw [bm_set0 ⟨4, by omega⟩] at hp5
          have HP5 := Lib.hid hp5; have HF6 := Lib.hid (HFF.out nq)
          clear hp5 HF5 HFF
          go_wp2_with fail
          exact ⟨⟨4 + 1, by omega, rfl, HP5.out, HF6.out⟩, by simp [intOf]⟩
        · have hnd := HND.out
          have hm7 := HMP.out.fr HF.out (by simpa using HMQ2.out)
          have x7 : Fr [] w' wr := HFR.out.then HF.out (fun b hb => .inr (by
            simp at hb; subst hb
            have := (own_kind hP).elim fun _ h => h.2.2
            have := HBE.out; omega))
          have HP7 := Lib.hid (HP0.out.elim fun L h => (⟨L, h.kept HF.out (by simp; omega)⟩ : PgX wr B q0'))
          have HP71 := Lib.hid (HP1.out.kept HF.out (by simp; omega)); have HP73 := Lib.hid (HP3.out.kept HF.out (by simp; omega)); have HP74 := Lib.hid (HP4.out.kept HF.out (by simp; omega))
          have HG7 := Lib.hid (HF.out.heap (by simpa using HGQ2.out) HGV.out)
          have HFI := Lib.hid (afirst_any wr hm7)
          have HNU := Lib.hid (numbers_any wr 5 (by omega))
          have HM7 := Lib.hid hm7; have HX7 := Lib.hid x7
          clear hP hnd hm7 x7 c2
          go_wp2_with fail
          refine HFI.out.mono ?_
          rintro e wr' ⟨rfl, rfl⟩
          clear HFI
          go_wp2_with fail
          refine HNU.out.mono ?_
          rintro e w8 ⟨v8, rfl, ho8, hf8⟩
          obtain ⟨a8, c8, rfl⟩ := own_slice' ho8
          have HFT := Lib.hid (fits_any (HX.out.fr0 (HX7.out.trans hf8)) (HM7.out.fr hf8 (by simp)) _ (List.range 5) (RdV_of_owns ho8) (by simp))
          have HF8 := Lib.hid hf8
          clear ho8 hf8 HNU
          go_wp2_with fail
          refine HFT.out.mono ?_
          rintro e w9 ⟨rfl, hf9⟩
          have HF79 := Lib.hid (HF8.out.trans hf9)
          clear hf9 HFT HF8
          go_wp2_with fail
          have hSn : ∀ b, B ≤ b → b ∉ S := fun b hb hm => by have := HX.out.lt b hm; have := HBE.out; omega
          have HSN := Lib.hid hSn
          have HKP : Hid (∀ (q : Nat) (L : List UInt8) (wq : World) (c : Nat → List UInt8), PgO wr' B q 512 L → StpB K A N pg [] S w9 wq c → PgO wq B q 512 L) := Lib.hid fun q L wq c h s => by
            have h9 := h.kept HF79.out (by simp)
            exact h9.kept s.1 (by simpa using hSn q ((own_kind h9).elim fun _ h => h.2.2))
          have HGK : Hid (∀ (wq : World) (c : Nat → List UInt8), StpB K A N pg [] S w9 wq c → wq.heap[gv]? = some (.cells cs 46 (0, 0))) := Lib.hid fun wq c s => s.1.heap (by simpa using hSn gv HBG.out) (HF79.out.heap (by simp) HG7.out)
          have HS9 := Lib.hid (StpB.refl (HX.out.fr0 (HX7.out.trans HF79.out)) [])
          have HPM := Lib.hid HP.out
          clear hSn
          go_loopw [69] (fun kv wq => ∃ (k : Nat) (c : Nat → List UInt8), k ≤ 5 ∧ kv = .int .i64 (k : Int) ∧ StpB K A N pg [] S w9 wq c ∧ (1 < k → c 1 = bmL 1) ∧ (2 < k → c 2 = bmL 5)) (fun kv _ => ((5 : Int) - intOf kv).toNat)
          case atStart => exact ⟨0, _, by omega, rfl, HS9.out, fun h => absurd h (by omega), fun h => absurd h (by omega)⟩
          case round =>
            obtain ⟨k, c, hk, rfl, hS, hc1, hc2⟩ := hrel
            have hk6 : k = 0 ∨ k = 1 ∨ k = 2 ∨ k = 3 ∨ k = 4 ∨ k = 5 := by omega
            have HS := Lib.hid hS; have HC1 := Lib.hid hc1; have HC2 := Lib.hid hc2
            have gr := HGK.out _ _ hS
            clear hS hc1 hc2
            rcases hk6 with rfl | rfl | rfl | rfl | rfl | rfl
            · have cg := (cell_of_row _ gv 0 _ _ _ gr).trans (HT.out 0 q0' rfl)
              unfold slP at cg
              obtain ⟨L, hL⟩ := HP7.out
              have hp := HKP.out _ _ _ _ hL HS.out
              obtain ⟨Si, dmi, xi, _, hgo⟩ := HS.out.open
              have HWR := Lib.hid (wrx_any xi 0 (by omega) _ _ hp.rd hp.len)
              have HGO := Lib.hid (fun (w' : World) (c' : Nat → List UInt8) (h : Stp K A N pg Si _ w' c') => hgo h)
              clear xi hgo hp gr
              go_wp2_with fail
              refine HWR.out.mono ?_
              rintro e wz ⟨rfl, hs⟩
              have HSZ := Lib.hid (HGO.out _ _ hs)
              clear hs HWR HGO cg
              go_wp2_with fail
              exact ⟨⟨0 + 1, _, by omega, rfl, HSZ.out, fun h => by exact absurd h (by omega), fun h => by exact absurd h (by omega)⟩, by simp [intOf]⟩
            · have cg := (cell_of_row _ gv 1 _ _ _ gr).trans (HT.out 1 q1 rfl)
              unfold slP at cg
              have hp := HKP.out _ _ _ _ HP71.out HS.out
              obtain ⟨Si, dmi, xi, _, hgo⟩ := HS.out.open
              have HWR := Lib.hid (wrx_any xi 1 (by omega) _ _ hp.rd hp.len)
              have HGO := Lib.hid (fun (w' : World) (c' : Nat → List UInt8) (h : Stp K A N pg Si _ w' c') => hgo h)
              clear xi hgo hp gr
              go_wp2_with fail
              refine HWR.out.mono ?_
              rintro e wz ⟨rfl, hs⟩
              have HSZ := Lib.hid (HGO.out _ _ hs)
              clear hs HWR HGO cg
              go_wp2_with fail
              exact ⟨⟨1 + 1, _, by omega, rfl, HSZ.out, fun h => by unfold updF; rw [if_pos rfl], fun h => by exact absurd h (by omega)⟩, by simp [intOf]⟩
            · have cg := (cell_of_row _ gv 2 _ _ _ gr).trans (HT.out 2 q2 rfl)
              unfold slP at cg
              have hp := HKP.out _ _ _ _ HPM.out HS.out
              obtain ⟨Si, dmi, xi, _, hgo⟩ := HS.out.open
              have HWR := Lib.hid (wrx_any xi 2 (by omega) _ _ hp.rd hp.len)
              have HGO := Lib.hid (fun (w' : World) (c' : Nat → List UInt8) (h : Stp K A N pg Si _ w' c') => hgo h)
              clear xi hgo hp gr
              go_wp2_with fail
              refine HWR.out.mono ?_
              rintro e wz ⟨rfl, hs⟩
              have HSZ := Lib.hid (HGO.out _ _ hs)
              clear hs HWR HGO cg
              go_wp2_with fail
              exact ⟨⟨2 + 1, _, by omega, rfl, HSZ.out, fun h => by unfold updF; rw [if_neg (by omega)]; exact HC1.out (by omega), fun h => by unfold updF; rw [if_pos rfl]⟩, by simp [intOf]⟩
            · have cg := (cell_of_row _ gv 3 _ _ _ gr).trans (HT.out 3 q3 rfl)
              unfold slP at cg
              have hp := HKP.out _ _ _ _ HP73.out HS.out
              obtain ⟨Si, dmi, xi, _, hgo⟩ := HS.out.open
              have HWR := Lib.hid (wrx_any xi 3 (by omega) _ _ hp.rd hp.len)
              have HGO := Lib.hid (fun (w' : World) (c' : Nat → List UInt8) (h : Stp K A N pg Si _ w' c') => hgo h)
              clear xi hgo hp gr
              go_wp2_with fail
              refine HWR.out.mono ?_
              rintro e wz ⟨rfl, hs⟩
              have HSZ := Lib.hid (HGO.out _ _ hs)
              clear hs HWR HGO cg
              go_wp2_with fail
              exact ⟨⟨3 + 1, _, by omega, rfl, HSZ.out, fun h => by unfold updF; rw [if_neg (by omega)]; exact HC1.out (by omega), fun h => by unfold updF; rw [if_neg (by omega)]; exact HC2.out (by omega)⟩, by simp [intOf]⟩
            · have cg := (cell_of_row _ gv 4 _ _ _ gr).trans (HT.out 4 q4 rfl)
              unfold slP at cg
              have hp := HKP.out _ _ _ _ HP74.out HS.out
              obtain ⟨Si, dmi, xi, _, hgo⟩ := HS.out.open
              have HWR := Lib.hid (wrx_any xi 4 (by omega) _ _ hp.rd hp.len)
              have HGO := Lib.hid (fun (w' : World) (c' : Nat → List UInt8) (h : Stp K A N pg Si _ w' c') => hgo h)
              clear xi hgo hp gr
              go_wp2_with fail
              refine HWR.out.mono ?_
              rintro e wz ⟨rfl, hs⟩
              have HSZ := Lib.hid (HGO.out _ _ hs)
              clear hs HWR HGO cg
              go_wp2_with fail
              exact ⟨⟨4 + 1, _, by omega, rfl, HSZ.out, fun h => by unfold updF; rw [if_neg (by omega)]; exact HC1.out (by omega), fun h => by unfold updF; rw [if_neg (by omega)]; exact HC2.out (by omega)⟩, by simp [intOf]⟩
            · clear gr
              have hm9 := (HM7.out.fr HF79.out (by simp)).fr HS.out.1 (by simpa using HSN.out mb (by have := HMB.out; omega))
              have HM9 := Lib.hid hm9
              have hfin := HS.out.close (HX7.out.trans HF79.out) (by simp)
              have HFIN := Lib.hid hfin
              clear hm9 hfin
              go_wp2_with fail
              go_ret2
              exact ⟨mb, c, rfl, by have := HMB.out; have := HBE.out; omega, HM9.out, HFIN.out, HC1.out (by omega), HC2.out (by omega)⟩
end
end Go.Proofs.YtcblfkojkdaepaaGreat
