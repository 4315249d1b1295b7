/- The law ShaPieces: at pieces of a bounded length in all. -/
import Derived.Test.YtkhgfaccmhknjaaLive
import Derived.Test.YtkhgfaccmhknjaaEqHash
import Derived.Test.YtkhgfaccmhknjaaFork
namespace Go.Proofs.Ytkhgfaccmhknjaa
open Go.RowKit

theorem RdV.far {w w' : World} {B g : Nat} {v : Value} {xs : List Value} (h : RdV w v xs) (hf : RdF B v) (hg : w.grownBy w' (some g)) (hlt : g < B) : RdV w' v xs := by
  rcases h with h | ⟨ad, cap, rfl, hle, hc⟩
  · exact .inl h
  · refine .inr ⟨ad, cap, rfl, hle, fun j u hj => ?_⟩
    obtain ⟨b, off, rfl, hcell⟩ := hc j u hj
    have hn : xs.length ≠ 0 := by have := (List.getElem?_eq_some_iff.1 hj).1; omega
    have := hf _ _ _ rfl hn
    exact ⟨b, off, rfl, hg.cell hcell (fun e => by have := Option.some.inj e; simp at *; omega)⟩
theorem IsHF.far {w w' : World} {B b g : Nat} {all : List UInt8} (h : IsHF w B b all) (hg : w.grownBy w' (some g)) (hlt : g < B) (hne : b ≠ g) : IsHF w' B b all := by
  obtain ⟨rest, h1, h2, h3⟩ := h
  exact ⟨rest, (hg.block b (Array.getElem?_eq_some_iff.1 h1).1 (fun e => hne (Option.some.inj e))).trans h1, h2.far h3 hg hlt, h3⟩
theorem IsHF.none {w w' : World} {B b : Nat} {all : List UInt8} (h : IsHF w B b all) (hg : w.grownBy w' none) : IsHF w' B b all := by
  obtain ⟨rest, h1, h2, h3⟩ := h
  exact ⟨rest, (hg.block b (Array.getElem?_eq_some_iff.1 h1).1 (fun e => by cases e)).trans h1, RdV.below h2 ⟨hg.os, hg.tape, hg.output, hg.size, fun k hk => hg.block k hk (fun e => by cases e)⟩, h3⟩
theorem IsHF.row {w w' : World} {B b : Nat} {all : List UInt8} {row : Option Nat} (h : IsHF w B b all) (hg : w.grownBy w' row) (hlt : ∀ g, row = some g → g < B ∧ b ≠ g) : IsHF w' B b all := by
  cases row with
  | none => exact h.none hg
  | some g => exact h.far hg (hlt g rfl).1 (hlt g rfl).2
theorem IsHF.below {w w' : World} {B b : Nat} {all : List UInt8} (h : IsHF w B b all) (hb : Below w.heap.size w w') : IsHF w' B b all :=
  IsHF.none h (grownBy_below hb Option.none)
theorem grownBy_refl' (w : World) (row : Option Nat) : w.grownBy w row := ⟨rfl, rfl, rfl, Nat.le_refl _, fun _ _ _ => rfl⟩

/-- The pieces' slices, and what they read. -/
def RdP (w : World) (v : Value) (ls : List (List UInt8)) : Prop :=
  ∃ vs : List Value, RdV w v vs ∧ vs.length = ls.length ∧ ∀ i (h : i < ls.length) (h' : i < vs.length), RdB w vs[i] ls[i]

/-- The law's loop. -/
structure PcW (w : World) (acc : List UInt8) (av : Value) (wr : World) : Prop where
  hash : IsH wr w.heap.size acc
  own : wr.ownsRow (w.heap.size + 1) 5 1 av acc.length (acc.map vB)
  below : Below w.heap.size w wr
theorem IsH.below {w w' : World} {b : Nat} {all : List UInt8} (h : IsH w b all) (hb : Below w.heap.size w w') : IsH w' b all := by
  obtain ⟨r, h1, h2⟩ := h
  exact ⟨r, (hb.block b (Array.getElem?_eq_some_iff.1 h1).1).trans h1, RdV.below h2 hb⟩
theorem owns_below {w w' : World} {B : Nat} {v : Value} {n : Nat} {xs : List Value} (h : w.ownsRow B 5 1 v n xs) (hb : Below w.heap.size w w') : w'.ownsRow B 5 1 v n xs :=
  World.ownsRow.kept (row := none) h (grownBy_below hb none) (by cases h : v.ownBlock with | none => exact .inl rfl | some g => exact .inr (by simp))
theorem PcW.keep {w wr w' : World} {acc : List UInt8} {av : Value} (M : PcW w acc av wr) (hb : Below wr.heap.size wr w') : PcW w acc av w' :=
  ⟨M.hash.below hb, owns_below M.own hb, M.below.trans (hb.mono M.below.size)⟩
theorem PcW.lt {w wr : World} {acc : List UInt8} {av : Value} (M : PcW w acc av wr) : w.heap.size < wr.heap.size := by
  obtain ⟨_, h, _⟩ := M.hash; exact (Array.getElem?_eq_some_iff.1 h).1
/-- The row of one's own, as the walk wants it. -/
theorem owns_open {w : World} {B : Nat} {r : Value} {n : Nat} {xs : List Value} (h : w.ownsRow B 5 1 r n xs) :
    ∃ qa qc, r = .slice qa n qc ∧ (∀ g, r.ownBlock = some g → B ≤ g ∧ g < w.heap.size ∧ ∃ cur, w.heap[g]? = some (.cells cur 5 (0, 0)) ∧ n ≤ cur.size) ∧ (n ≠ 0 → ∃ g, qa = some ⟨g, 0, none⟩) := by
  obtain ⟨_, h⟩ := h
  rcases h with ⟨rfl, rfl⟩ | ⟨g, cap, cur, rfl, hb, hg, hn, hm, hs, _⟩
  · exact ⟨none, 0, rfl, (fun g h => by cases h), (fun h => absurd rfl h)⟩
  · refine ⟨_, cap, rfl, fun g' h => ?_, fun _ => ⟨g, rfl⟩⟩
    have : g = g' := Option.some.inj h
    subst this
    exact ⟨hb, (Array.getElem?_eq_some_iff.1 hg).1, cur, hg, by omega⟩
def PcI (w : World) (ls : List (List UInt8)) (i av : Value) (wr : World) : Prop :=
  ∃ k : Nat, k ≤ ls.length ∧ k ≤ 40 ∧ i = .int .i64 k ∧ PcW w (ls.take k).flatten av wr
/-- The round's own row overwritten. -/
def OwI (wp : World) (r : Value) (n : Nat) (i : Value) (wr : World) : Prop :=
  ∃ j : Nat, j ≤ n ∧ i = .int .i64 j ∧ wp.grownBy wr r.ownBlock ∧ ∀ g, r.ownBlock = some g → ∃ cur, wr.heap[g]? = some (.cells cur 5 (0, 0)) ∧ n ≤ cur.size

/-- Another hasher is written: this one stays. -/
theorem IsH.other {w w' : World} {b b' B : Nat} {all all' : List UInt8} (h : IsH w b all) (h' : IsHF w B b' all') (hne : b ≠ b') (hg : w.grownBy w' (some b')) : IsH w' b all := by
  obtain ⟨r, h1, h2⟩ := h
  obtain ⟨r', h3, h4, _⟩ := h'
  obtain ⟨ra, rn, rc, rfl⟩ := RdV.slice h4
  exact ⟨r, (hg.block b (Array.getElem?_eq_some_iff.1 h1).1 (fun e => hne (Option.some.inj e))).trans h1, RdB.keepH h2 h3 hg⟩
theorem take_flatten {ls : List (List UInt8)} {k : Nat} (h : k < ls.length) : (ls.take (k + 1)).flatten = (ls.take k).flatten ++ ls[k] := by
  rw [List.take_succ_eq_append_getElem h, List.flatten_append]; simp
theorem take_flatten_le {ls : List (List UInt8)} {k : Nat} : (ls.take k).flatten.length ≤ ls.flatten.length := by
  have : ls.flatten = (ls.take k).flatten ++ (ls.drop k).flatten := by rw [← List.flatten_append, List.take_append_drop]
  rw [this]; simp

set_option maxRecDepth 100000 in
set_option maxHeartbeats 4000000 in
theorem pieces_any (w : World) (v m : Value) (ls : List (List UInt8)) (more : List UInt8) (hv : RdP w v ls) (hm : RdB w m more) (hl : ls.flatten.length + more.length ≤ 4194304) (hn : ls.length ≤ 4194304) :
    Calls Try.prog 6 #[v, m] w fun e w' => e = .returned (.bool true) ∧ Below w.heap.size w w' := by
  obtain ⟨i0, hi, hz0, hz1, hz2⟩ := info_parts info_u8
  obtain ⟨vs, hvs, hvl, hve⟩ := hv
  obtain ⟨va, vc, rfl, hcell⟩ := hvs.open
  rw [hvl]
  have HV := Lib.hid hvs; have HE := Lib.hid hve; have HVC := Lib.hid hcell; have HVL := Lib.hid hvl
  obtain ⟨ma, mc, rfl, _⟩ := hm.open
  have HMO := Lib.hid hm
  clear hvs hve hcell hvl hm
  go_enter Try.func6, Try.ntmps6
  go_wp2_with fail
  refine (new_any w).mono ?_
  rintro e w1 ⟨rfl, rfl⟩
  have P0 : Hid (PcW w [] (.slice none 0 0) (w.alloc (.cells (hCells s0 (.slice none 0 0) 0) 56))) :=
    ⟨isH_new w, World.ownsRow_nil _ _ _ _, (Below.refl _ _).alloc (Nat.le_refl _) _⟩
  revert P0
  generalize w.alloc (.cells (hCells s0 (.slice none 0 0) 0) 56) = w1
  intro P0
  go_wp2
  go_loopw [7, 6, 8, 9] (fun i av _ _ wr => PcI w ls i av wr) (fun i _ _ _ _ => ls.length - (intOf i).toNat)
  case atStart => exact ⟨0, by omega, by omega, rfl, by simpa using P0.out⟩
  case round =>
    obtain ⟨k, hk, hk40, rfl, M⟩ := hrel
    have HM := Lib.hid M
    clear M
    have hk0 : (k : Int) ≤ 40 := by omega
    by_cases hlt : k < ls.length
    · by_cases hlt40 : k < 40
      · have hkv : k < vs.length := by rw [HVL.out]; exact hlt
        obtain ⟨b0, o0, rfl, g0⟩ := HVC.out k _ (List.getElem?_eq_getElem hkv)
        have hpc := HE.out k hlt hkv
        have hpl : ls[k].length + (ls.take k).flatten.length ≤ 4194304 := by
          have h1 := take_flatten (k := k) hlt
          have h2 := take_flatten_le (ls := ls) (k := k + 1)
          rw [h1] at h2
          simp only [List.length_append] at h2
          omega
        have HNX := Lib.hid (take_flatten hlt)
        have HPC := Lib.hid hpc
        generalize hq : ls[k] = pc at *
        generalize vs[k] = vk at *
        generalize (ls.take k).flatten = acc at *
        have k0 := (HM.out.below.cell (p := ⟨b0, o0 + k, none⟩) (block_lt_of_cell g0)).trans g0
        have hkz : (k : Int) < ls.length := by omega
        have hk4 : (k : Int) < 40 := by omega
        obtain ⟨pa, pcap, rfl, _⟩ := hpc.open
        have HG0 := Lib.hid g0
        clear g0 hpc
        go_wp2_with fail
        refine (copy_any wr _ pc (RdV.below HPC.out HM.out.below) (by omega)).mono ?_
        rintro e w2 ⟨r, rfl, hown, hb2⟩
        have hbl : w.heap.size < wr.heap.size := by obtain ⟨_, h, _⟩ := HM.out.hash; exact (Array.getElem?_eq_some_iff.1 h).1
        obtain ⟨qa, qc, rfl, hq1, hq2⟩ := owns_open hown
        have HM2 := Lib.hid (HM.out.keep hb2)
        have HO2 := Lib.hid hown
        have hsz2 := hb2.size
        have HAB : Hid (∀ g, u6.ownBlock = some g → w.heap.size + 1 ≤ g ∧ g < wr.heap.size) := World.ownsRow.lt HM.out.own
        have HQ1 := Lib.hid hq1; have HQ2 := Lib.hid hq2
        clear hown hb2 hq1 hq2 HM k0
        go_wp2_with fail
        refine (write_from w2 w.heap.size _ acc pc HM2.out.hash (RdV_of_owns HO2.out) (by omega)).mono ?_
        rintro e w3 ⟨rfl, hf3, hg3⟩
        have HO3 := Lib.hid (World.ownsRow.kept HO2.out hg3 (.inr (fun e => by have := (HQ1.out _ e).1; omega)))
        have HA3 := Lib.hid (World.ownsRow.kept HM2.out.own hg3 (.inr (fun e => by have := (HAB.out _ e).1; omega)))
        have HB3 : Hid (Below w.heap.size w w3) := HM2.out.below.grown hg3 HM2.out.below.size (fun g e => by cases e; exact Nat.le_refl _)
        have HF3 := Lib.hid hf3
        have hsz3 := hg3.size
        obtain ⟨qa', qc', hqe, hq3, _⟩ := owns_open HO3.out
        have HQ3 := Lib.hid hq3
        clear hf3 hg3 HM2 HO2 hq3 hqe
        have hNw : w.heap.size + 1 ≤ wr.heap.size := hbl
        clear hbl
        generalize wr.heap.size = N at *
        go_wp2
        go_loopw [9] (fun i wv => OwI w3 (.slice qa pc.length qc) pc.length i wv) (fun i _ => pc.length - (intOf i).toNat)
        case atStart => exact ⟨0, by omega, rfl, grownBy_refl' _ _, fun g e => (HQ3.out g e).2.2⟩
        case round =>
          obtain ⟨j, hj, rfl, hgj, hcj⟩ := hrel
          by_cases hjl : j < pc.length
          · obtain ⟨g, rfl⟩ := HQ2.out (by omega)
            obtain ⟨cur, hgc, hcs⟩ := hcj g rfl
            have hjc : j < cur.size := by omega
            have hcell : wr.cell? ⟨g, j, none⟩ = some cur[j] := by rw [cell_of_row wr g j cur _ _ hgc]; simp [hjc]
            have hfz : wr.frozen? ⟨g, j, none⟩ = false := by simp [World.frozen?, hgc]
            have hjz : (j : Int) < pc.length := by omega
            have hplz : (pc.length : Int) ≤ 4194304 := by omega
            have hnew : OwI w3 (.slice (some ⟨g, 0, none⟩) pc.length qc) pc.length (.int .i64 ((j : Int) + 1)) (wr.setCell ⟨g, j, none⟩ (.int .u8 7)) := by
              refine ⟨j + 1, by omega, by go_num, grownBy_trans hgj (grownBy_setCell _ _ _ _), fun g' e => ?_⟩
              have : g = g' := Option.some.inj e
              subst this
              exact ⟨_, heap_setCell_same wr g j cur _ _ hgc, by simpa using hcs⟩
            have HNEW := Lib.hid hnew
            clear hnew hgj hcj hgc
            go_wp2
            go_roundw
            case rel => first | exact HNEW.out | ((repeat apply Exists.intro); exact ⟨HNEW.out, rfl⟩)
            case measure => simp [intOf]; omega
          · obtain rfl : j = pc.length := by omega
            have hrow : ∀ g, (Value.slice qa pc.length qc).ownBlock = some g → N ≤ g ∧ g < w2.heap.size := fun g e => ⟨(HQ1.out g e).1, (HQ1.out g e).2.1⟩
            have HF4 := Lib.hid (HF3.out.row hgj (fun g e => ⟨(hrow g e).2, by have := (hrow g e).1; omega⟩))
            have HA4 := Lib.hid (World.ownsRow.kept HA3.out hgj (by
              cases hu : u6.ownBlock with
              | none => exact .inl rfl
              | some g => exact .inr (fun e => by have := (HAB.out g hu).2; have := (hrow g e.symm).1; omega)))
            have HB4 : Hid (Below w.heap.size w wr) := HB3.out.grown hgj HB3.out.size (fun g e => by have := (hrow g e).1; omega)
            have hsz4 := hgj.size
            have k0 := (HB4.out.cell (p := ⟨b0, o0 + k, none⟩) (block_lt_of_cell HG0.out)).trans HG0.out
            have PR4 := Lib.hid (RdV.below HPC.out HB4.out)
            clear hgj hcj hj hjl HF3 HA3 HB3 HQ1 HQ2 HQ3 HO3
            go_wp2_with (refine wpList_app rfl _ _ 22 rfl (w.heap.size + 1) 5 i0 (.int .u8 0) 1 Try.underlying22 hi hz0 hz1 hz2 rfl u6 _ _ rfl HA4.out _ (pc.map vB) rfl PR4.out ?c1 ?c2 (by omega) ?c3 ?_)
            case c1 => exact vB_one pc
            case c2 => simp; omega
            case c3 => omega
            intro v5 w5 hown hgr
            try simp only [List.length_map] at hown
            rw [← List.map_append] at hown
            have hB5 : Below w.heap.size w w5 := HB4.out.grown hgr HB4.out.size (fun g e => by have := (HAB.out g e).1; omega)
            have hF5 := HF4.out.row hgr (fun g e => ⟨by have := (HAB.out g e).2; omega, by have := (HAB.out g e).1; omega⟩)
            have hM5 : PcW w (acc ++ pc) v5 w5 := ⟨hF5.isH, by simpa using hown, hB5⟩
            have HM5 := Lib.hid hM5
            clear hown hgr hB5 hF5 hM5 PR4 HF4 HA4 HB4 k0
            have hal : (acc ++ pc).length ≤ 4194304 := by simp; omega
            rw [← HNX.out] at HM5 hal
            obtain ⟨acc2, hacc⟩ : ∃ x, x = (ls.take (k + 1)).flatten := ⟨_, rfl⟩
            rw [← hacc] at HM5 hal
            have HAC := Lib.hid hacc
            clear hacc
            obtain ⟨sa, scap, hv5, _⟩ := owns_open HM5.out.own
            subst hv5
            have hdl := sha_len acc2
            have eqd : ∀ w, (Op.equalIn 10000 26 (.agg (aB (sha acc2))) (.agg (aB (sha acc2)))).run Try.prog w = .ok true w := fun w => by rw [run_equalIn_hash w _ _ hdl hdl]; simp
            have EQD := Lib.hid eqd
            clear eqd hdl
            go_wp2_with fail
            refine (hsum_any w5 w.heap.size acc2 HM5.out.hash (by omega)).mono ?_
            rintro e w6 ⟨rfl, hb6⟩
            have HM6 := Lib.hid (HM5.out.keep hb6)
            clear hb6 HM5
            go_wp2_with fail
            refine (sum_any w6 _ acc2 (RdV_of_owns HM6.out.own) (by omega)).mono ?_
            rintro e w7 ⟨rfl, hb7⟩
            have HM7 := Lib.hid (HM6.out.keep hb7)
            have eqd := EQD.out
            clear hb7 HM6 EQD
            generalize sha acc2 = dg at *
            go_wp2_with fail
            refine (len_any w7 w.heap.size acc2 HM7.out.hash).mono ?_
            rintro e w' ⟨rfl, rfl⟩
            clear eqd
            go_wp2
            go_roundw
            case rel => first | exact ⟨k + 1, by omega, by omega, by go_num, by rw [← HAC.out]; exact HM7.out⟩ | ((repeat apply Exists.intro); exact ⟨⟨k + 1, by omega, by omega, by go_num, by rw [← HAC.out]; exact HM7.out⟩, rfl⟩)
            case measure => simp [intOf]; omega
      · obtain rfl : k = 40 := by omega
        have hkz : ((40 : Nat) : Int) < ls.length := by omega
        rw [show ((40 : Nat) : Int) = (40 : Int) from rfl] at hkz ⊢
        generalize hk40' : (40 : Nat) = k at HM
        have hal : (ls.take k).flatten.length ≤ ls.flatten.length := take_flatten_le
        generalize (ls.take k).flatten = acc at *
        have hacc : acc.length + more.length ≤ 4194304 := by omega
        have HAB : Hid (∀ g, u6.ownBlock = some g → w.heap.size + 1 ≤ g ∧ g < wr.heap.size) := World.ownsRow.lt HM.out.own
        have hNw := HM.out.lt
        obtain ⟨sa, scap, hav, _⟩ := owns_open HM.out.own
        subst hav
        clear HV HE HVC
        go_wp2_with fail
        refine (fork_any wr w.heap.size acc HM.out.hash (by omega)).mono ?_
        rintro e w2 ⟨b', rfl, hb', hf, hb2⟩
        have HM2 := Lib.hid (HM.out.keep hb2)
        have hsz2 := hb2.size
        have HF := Lib.hid hf
        clear hf hb2 HM
        generalize wr.heap.size = N at *
        go_wp2_with fail
        refine (write_from w2 b' _ acc more HF.out.isH (RdV.below HMO.out HM2.out.below) (by omega)).mono ?_
        rintro e w3 ⟨rfl, hf3, hg3⟩
        have hM3 : PcW w acc (.slice sa acc.length scap) w3 :=
          ⟨HM2.out.hash.other HF.out (by omega) hg3, World.ownsRow.kept HM2.out.own hg3 (.inr (fun e => by have := (HAB.out _ e).2; omega)), HM2.out.below.grown hg3 HM2.out.below.size (fun g e => by cases e; omega)⟩
        have HM3 := Lib.hid hM3; have HF3 := Lib.hid hf3
        have hsz3 := hg3.size
        have hdl := sha_len acc
        have eqd : ∀ w, (Op.equalIn 10000 26 (.agg (aB (sha acc))) (.agg (aB (sha acc)))).run Try.prog w = .ok true w := fun w => by rw [run_equalIn_hash w _ _ hdl hdl]; simp
        have EQD := Lib.hid eqd
        clear eqd hdl hM3 hf3 hg3 HM2 HF
        go_wp2_with fail
        refine (hsum_any w3 w.heap.size acc HM3.out.hash (by omega)).mono ?_
        rintro e w4 ⟨rfl, hb4⟩
        have HM4 := Lib.hid (HM3.out.keep hb4)
        have HF4 := Lib.hid (HF3.out.below hb4)
        have hsz4 := hb4.size
        clear hb4 HM3 HF3
        go_wp2_with fail
        refine (sum_any w4 _ acc (RdV_of_owns HM4.out.own) (by omega)).mono ?_
        rintro e w5 ⟨rfl, hb5⟩
        have HM5 := Lib.hid (HM4.out.keep hb5)
        have HF5 := Lib.hid (HF4.out.below hb5)
        have hsz5 := hb5.size
        have eqd := EQD.out
        clear hb5 HM4 HF4 EQD
        generalize sha acc = dg at *
        have hbs : w.heap.size + 1 ≤ w5.heap.size := by omega
        have PR5 := Lib.hid (RdV.below HMO.out HM5.out.below)
        have HA5 := Lib.hid HM5.out.own
        go_wp2_with (refine wpList_app rfl _ _ 22 rfl (w.heap.size + 1) 5 i0 (.int .u8 0) 1 Try.underlying22 hi hz0 hz1 hz2 rfl (.slice sa acc.length scap) _ _ rfl HA5.out _ (more.map vB) rfl PR5.out ?c1 ?c2 (by omega) ?c3 ?_)
        case c1 => exact vB_one more
        case c2 => simp; omega
        case c3 => exact hbs
        clear eqd
        intro v6 w6 hown hgr
        try simp only [List.length_map] at hown
        rw [← List.map_append] at hown
        have hB6 : Below w.heap.size w w6 := HM5.out.below.grown hgr HM5.out.below.size (fun g e => by have := (HAB.out g e).1; omega)
        have hF6 := HF5.out.row hgr (fun g e => ⟨by have := (HAB.out g e).2; omega, by have := (HAB.out g e).2; omega⟩)
        have hown6 : w6.ownsRow (w.heap.size + 1) 5 1 v6 (acc ++ more).length ((acc ++ more).map vB) := by simpa using hown
        have HB6 := Lib.hid hB6; have HF6 := Lib.hid hF6; have HO6 := Lib.hid hown6
        have hal2 : (acc ++ more).length ≤ 4194304 := by simp; omega
        clear hown hgr hB6 hF6 hown6 HM5 HF5 HA5 PR5
        generalize acc ++ more = acc2 at *
        obtain ⟨ta, tcap, hv6, _⟩ := owns_open HO6.out
        subst hv6
        go_wp2_with fail
        refine (live_any w6).mono ?_
        rintro e w7 ⟨rfl, hb7⟩
        have HB7 := Lib.hid (HB6.out.trans (hb7.mono HB6.out.size))
        have HF7 := Lib.hid (HF6.out.below hb7)
        have HO7 := Lib.hid (owns_below HO6.out hb7)
        clear hb7 HB6 HF6 HO6
        have hdl := sha_len acc2
        have eqd : ∀ w, (Op.equalIn 10000 26 (.agg (aB (sha acc2))) (.agg (aB (sha acc2)))).run Try.prog w = .ok true w := fun w => by rw [run_equalIn_hash w _ _ hdl hdl]; simp
        have EQD := Lib.hid eqd
        clear eqd hdl
        go_wp2_with fail
        refine (hsum_any w7 b' acc2 HF7.out.isH (by omega)).mono ?_
        rintro e w8 ⟨rfl, hb8⟩
        have HB8 := Lib.hid (HB7.out.trans (hb8.mono HB7.out.size))
        have HF8 := Lib.hid (HF7.out.below hb8)
        have HO8 := Lib.hid (owns_below HO7.out hb8)
        clear hb8 HB7 HF7 HO7
        go_wp2_with fail
        refine (sum_any w8 _ acc2 (RdV_of_owns HO8.out) (by omega)).mono ?_
        rintro e w9 ⟨rfl, hb9⟩
        have HB9 := Lib.hid (HB8.out.trans (hb9.mono HB8.out.size))
        have HF9 := Lib.hid (HF8.out.below hb9)
        have eqd := EQD.out
        clear hb9 HB8 HF8 HO8 EQD
        generalize sha acc2 = dg2 at *
        go_wp2_with fail
        refine (len_any w9 b' acc2 HF9.out.isH).mono ?_
        rintro e w' ⟨rfl, rfl⟩
        clear eqd
        go_wp2
        go_ret
        exact ⟨rfl, HB9.out⟩
    · obtain rfl : k = ls.length := by omega
      have hal : (ls.take ls.length).flatten.length ≤ ls.flatten.length := take_flatten_le
      generalize (ls.take ls.length).flatten = acc at *
      have hacc : acc.length + more.length ≤ 4194304 := by omega
      have HAB : Hid (∀ g, u6.ownBlock = some g → w.heap.size + 1 ≤ g ∧ g < wr.heap.size) := World.ownsRow.lt HM.out.own
      have hNw := HM.out.lt
      obtain ⟨sa, scap, hav, _⟩ := owns_open HM.out.own
      subst hav
      clear HV HE HVC
      go_wp2_with fail
      refine (fork_any wr w.heap.size acc HM.out.hash (by omega)).mono ?_
      rintro e w2 ⟨b', rfl, hb', hf, hb2⟩
      have HM2 := Lib.hid (HM.out.keep hb2)
      have hsz2 := hb2.size
      have HF := Lib.hid hf
      clear hf hb2 HM
      generalize wr.heap.size = N at *
      go_wp2_with fail
      refine (write_from w2 b' _ acc more HF.out.isH (RdV.below HMO.out HM2.out.below) (by omega)).mono ?_
      rintro e w3 ⟨rfl, hf3, hg3⟩
      have hM3 : PcW w acc (.slice sa acc.length scap) w3 :=
        ⟨HM2.out.hash.other HF.out (by omega) hg3, World.ownsRow.kept HM2.out.own hg3 (.inr (fun e => by have := (HAB.out _ e).2; omega)), HM2.out.below.grown hg3 HM2.out.below.size (fun g e => by cases e; omega)⟩
      have HM3 := Lib.hid hM3; have HF3 := Lib.hid hf3
      have hsz3 := hg3.size
      have hdl := sha_len acc
      have eqd : ∀ w, (Op.equalIn 10000 26 (.agg (aB (sha acc))) (.agg (aB (sha acc)))).run Try.prog w = .ok true w := fun w => by rw [run_equalIn_hash w _ _ hdl hdl]; simp
      have EQD := Lib.hid eqd
      clear eqd hdl hM3 hf3 hg3 HM2 HF
      go_wp2_with fail
      refine (hsum_any w3 w.heap.size acc HM3.out.hash (by omega)).mono ?_
      rintro e w4 ⟨rfl, hb4⟩
      have HM4 := Lib.hid (HM3.out.keep hb4)
      have HF4 := Lib.hid (HF3.out.below hb4)
      have hsz4 := hb4.size
      clear hb4 HM3 HF3
      go_wp2_with fail
      refine (sum_any w4 _ acc (RdV_of_owns HM4.out.own) (by omega)).mono ?_
      rintro e w5 ⟨rfl, hb5⟩
      have HM5 := Lib.hid (HM4.out.keep hb5)
      have HF5 := Lib.hid (HF4.out.below hb5)
      have hsz5 := hb5.size
      have eqd := EQD.out
      clear hb5 HM4 HF4 EQD
      generalize sha acc = dg at *
      have hbs : w.heap.size + 1 ≤ w5.heap.size := by omega
      have PR5 := Lib.hid (RdV.below HMO.out HM5.out.below)
      have HA5 := Lib.hid HM5.out.own
      go_wp2_with (refine wpList_app rfl _ _ 22 rfl (w.heap.size + 1) 5 i0 (.int .u8 0) 1 Try.underlying22 hi hz0 hz1 hz2 rfl (.slice sa acc.length scap) _ _ rfl HA5.out _ (more.map vB) rfl PR5.out ?c1 ?c2 (by omega) ?c3 ?_)
      case c1 => exact vB_one more
      case c2 => simp; omega
      case c3 => exact hbs
      clear eqd
      intro v6 w6 hown hgr
      try simp only [List.length_map] at hown
      rw [← List.map_append] at hown
      have hB6 : Below w.heap.size w w6 := HM5.out.below.grown hgr HM5.out.below.size (fun g e => by have := (HAB.out g e).1; omega)
      have hF6 := HF5.out.row hgr (fun g e => ⟨by have := (HAB.out g e).2; omega, by have := (HAB.out g e).2; omega⟩)
      have hown6 : w6.ownsRow (w.heap.size + 1) 5 1 v6 (acc ++ more).length ((acc ++ more).map vB) := by simpa using hown
      have HB6 := Lib.hid hB6; have HF6 := Lib.hid hF6; have HO6 := Lib.hid hown6
      have hal2 : (acc ++ more).length ≤ 4194304 := by simp; omega
      clear hown hgr hB6 hF6 hown6 HM5 HF5 HA5 PR5
      generalize acc ++ more = acc2 at *
      obtain ⟨ta, tcap, hv6, _⟩ := owns_open HO6.out
      subst hv6
      go_wp2_with fail
      refine (live_any w6).mono ?_
      rintro e w7 ⟨rfl, hb7⟩
      have HB7 := Lib.hid (HB6.out.trans (hb7.mono HB6.out.size))
      have HF7 := Lib.hid (HF6.out.below hb7)
      have HO7 := Lib.hid (owns_below HO6.out hb7)
      clear hb7 HB6 HF6 HO6
      have hdl := sha_len acc2
      have eqd : ∀ w, (Op.equalIn 10000 26 (.agg (aB (sha acc2))) (.agg (aB (sha acc2)))).run Try.prog w = .ok true w := fun w => by rw [run_equalIn_hash w _ _ hdl hdl]; simp
      have EQD := Lib.hid eqd
      clear eqd hdl
      go_wp2_with fail
      refine (hsum_any w7 b' acc2 HF7.out.isH (by omega)).mono ?_
      rintro e w8 ⟨rfl, hb8⟩
      have HB8 := Lib.hid (HB7.out.trans (hb8.mono HB7.out.size))
      have HF8 := Lib.hid (HF7.out.below hb8)
      have HO8 := Lib.hid (owns_below HO7.out hb8)
      clear hb8 HB7 HF7 HO7
      go_wp2_with fail
      refine (sum_any w8 _ acc2 (RdV_of_owns HO8.out) (by omega)).mono ?_
      rintro e w9 ⟨rfl, hb9⟩
      have HB9 := Lib.hid (HB8.out.trans (hb9.mono HB8.out.size))
      have HF9 := Lib.hid (HF8.out.below hb9)
      have eqd := EQD.out
      clear hb9 HB8 HF8 HO8 EQD
      generalize sha acc2 = dg2 at *
      go_wp2_with fail
      refine (len_any w9 b' acc2 HF9.out.isH).mono ?_
      rintro e w' ⟨rfl, rfl⟩
      clear eqd
      go_wp2
      go_ret
      exact ⟨rfl, HB9.out⟩
end Go.Proofs.Ytkhgfaccmhknjaa
