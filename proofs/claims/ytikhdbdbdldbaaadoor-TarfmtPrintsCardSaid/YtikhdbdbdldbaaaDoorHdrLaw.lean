/- A header in plain lists: fields that are laid one by one over noughts are the header. -/
import Derived.Test.YtikhdbdbdldbaaaDoorTarLaw
import Derived.Laws.CopyOwn
namespace Go.Proofs.YtikhdbdbdldbaaaDoor

theorem splice_left (A B D : List UInt8) (o : Nat) (h : o + D.length ≤ A.length) : splice (A ++ B) o D = splice A o D ++ B := by
  unfold splice
  rw [List.take_append_of_le_length (by omega), List.drop_append_of_le_length h]
  simp
theorem splice_right (A B D : List UInt8) (o : Nat) : splice (A ++ B) (A.length + o) D = A ++ splice B o D := by
  unfold splice
  rw [List.take_length_add_append, Nat.add_assoc, List.drop_length_add_append]
  simp
theorem splice_segs (D : List UInt8) : ∀ (segs : List (List UInt8)) (i : Nat) (s : List UInt8) (o : Nat), segs[i]? = some s → o = ((segs.take i).map List.length).sum → D.length ≤ s.length →
    splice segs.flatten o D = (segs.set i (D ++ s.drop D.length)).flatten := by
  intro segs
  induction segs with
  | nil => intro i s o h; simp at h
  | cons x segs ih =>
    intro i s o h ho hD
    cases i with
    | zero =>
      simp only [List.getElem?_cons_zero, Option.some.injEq] at h
      subst h
      simp only [List.take_zero, List.map_nil, List.sum_nil] at ho
      subst ho
      rw [List.flatten_cons, splice_left _ _ _ _ (by omega), List.set_cons_zero, List.flatten_cons]
      simp [splice]
    | succ i =>
      simp only [List.take_succ_cons, List.map_cons, List.sum_cons] at ho
      subst ho
      rw [List.flatten_cons, splice_right, ih i s _ (by simpa using h) rfl hD, List.set_cons_succ, List.flatten_cons]
theorem zer_len (n : Nat) : (zer n).length = n := by simp [zer]
theorem txtF_len {D : List UInt8} {n : Nat} (h : D.length ≤ n) : (txtF D n).length = n := by simp [txtF, zer_len]; omega
theorem octF_len (v n : Nat) (h : 1 ≤ n) : (octF v n).length = n := by simp [octF, digs_len]; omega
theorem fld_txt (D : List UInt8) (n : Nat) : D ++ (zer n).drop D.length = txtF D n := by simp [txtF, zer]
theorem fld_oct (v n : Nat) (h : 1 ≤ n) : digs v (n - 1) ++ (zer n).drop (digs v (n - 1)).length = octF v n := by
  rw [digs_len]
  unfold octF zer
  rw [List.drop_replicate, show n - (n - 1) = 1 by omega]
  rfl
/-- Numbers' fields, noughts written into them. -/
def put0 (L : List UInt8) (l : List (Nat × Nat)) : List UInt8 := l.foldl (fun L p => splice L p.1 (digs 0 (p.2 - 1))) L
def numsL : List (Nat × Nat) := [(108, 8), (116, 8), (136, 12), (329, 8), (337, 8)]
def textsL : List (Nat × Nat) := [(265, 32), (297, 32)]
def hdA (p : List UInt8 × List UInt8) (e : EntD) : List UInt8 := splice (splice (splice (splice (splice (splice (zer 512) 345 p.1) 0 p.2) 157 e.link) 257 magicL) 100 (digs e.mode.toNat 7)) 124 (digs e.data.length 11)
def hdB (p : List UInt8 × List UInt8) (e : EntD) : List UInt8 := (put0 (hdA p e) numsL).set 156 (kindB e.kind)
def hdC (p : List UInt8 × List UInt8) (e : EntD) : List UInt8 := splice (hdB p e) 148 (digs (sumH (hdB p e)) 7)
/-- The fields' rows. -/
def segs (nm mo f1 f2 sz mt sm kd lk mg u1 u2 d1 d2 px pd : List UInt8) : List (List UInt8) := [nm, mo, f1, f2, sz, mt, sm, kd, lk, mg, u1, u2, d1, d2, px, pd]
theorem segs_0 : zer 512 = (segs (zer 100) (zer 8) (zer 8) (zer 8) (zer 12) (zer 12) (zer 8) (zer 1) (zer 100) (zer 8) (zer 32) (zer 32) (zer 8) (zer 8) (zer 155) (zer 12)).flatten := by
  simp only [segs, zer, List.flatten_cons, List.flatten_nil, List.append_nil, List.replicate_append_replicate]
theorem set_splice (L : List UInt8) (o : Nat) (x : UInt8) (h : o < L.length) : L.set o x = splice L o [x] := by
  unfold splice
  rw [List.set_eq_take_append_cons_drop, if_pos h]
  simp
set_option maxRecDepth 10000 in
theorem hdA_eq (p : List UInt8 × List UInt8) (e : EntD) (h1 : p.1.length ≤ 155) (h2 : p.2.length ≤ 100) (h3 : e.link.length ≤ 100) :
    hdB p e = headA p.2 e.mode.toNat e.data.length ++ zer 8 ++ headB e.kind e.link p.1 := by
  have l1 := txtF_len h1; have l2 := txtF_len h2; have l3 := txtF_len h3
  have o8 := fun v => octF_len v 8 (by omega)
  have o12 := fun v => octF_len v 12 (by omega)
  have e8 := fun v => fld_oct v 8 (by omega)
  have e12 := fun v => fld_oct v 12 (by omega)
  have mg : magicL ++ (zer 8).drop magicL.length = magicL := by simp [magicL, zer]
  have kd : [kindB e.kind] ++ (zer 1).drop [kindB e.kind].length = [kindB e.kind] := by simp [zer]
  have ml : magicL.length = 8 := rfl
  unfold hdB hdA
  rw [segs_0]
  unfold segs
  rw [splice_segs p.1 _ 14 (zer 155) 345 rfl (by simp [zer_len]) (by rw [zer_len]; exact h1), fld_txt]
  simp only [List.set_cons_succ, List.set_cons_zero]
  rw [splice_segs p.2 _ 0 (zer 100) 0 rfl (by simp) (by rw [zer_len]; exact h2), fld_txt]
  simp only [List.set_cons_zero]
  rw [splice_segs e.link _ 8 (zer 100) 157 rfl (by simp [zer_len, l2]) (by rw [zer_len]; exact h3), fld_txt]
  simp only [List.set_cons_succ, List.set_cons_zero]
  rw [splice_segs magicL _ 9 (zer 8) 257 rfl (by simp [zer_len, l2, l3]) (by rw [zer_len]; exact Nat.le_refl _), mg]
  simp only [List.set_cons_succ, List.set_cons_zero]
  rw [splice_segs (digs e.mode.toNat 7) _ 1 (zer 8) 100 rfl (by simp [l2]) (by rw [zer_len, digs_len]; omega), e8]
  simp only [List.set_cons_succ, List.set_cons_zero]
  rw [splice_segs (digs e.data.length 11) _ 4 (zer 12) 124 rfl (by simp [zer_len, l2, o8]) (by rw [zer_len, digs_len]; omega), e12]
  simp only [List.set_cons_succ, List.set_cons_zero]
  unfold put0 numsL
  simp only [List.foldl_cons, List.foldl_nil]
  rw [splice_segs (digs 0 (8 - 1)) _ 2 (zer 8) 108 rfl (by simp [l2, o8]) (by rw [zer_len, digs_len]; omega), e8]
  simp only [List.set_cons_succ, List.set_cons_zero]
  rw [splice_segs (digs 0 (8 - 1)) _ 3 (zer 8) 116 rfl (by simp [l2, o8]) (by rw [zer_len, digs_len]; omega), e8]
  simp only [List.set_cons_succ, List.set_cons_zero]
  rw [splice_segs (digs 0 (12 - 1)) _ 5 (zer 12) 136 rfl (by simp [l2, o8, o12]) (by rw [zer_len, digs_len]; omega), e12]
  simp only [List.set_cons_succ, List.set_cons_zero]
  rw [splice_segs (digs 0 (8 - 1)) _ 12 (zer 8) 329 rfl (by simp [zer_len, l2, l3, o8, o12, ml]) (by rw [zer_len, digs_len]; omega), e8]
  simp only [List.set_cons_succ, List.set_cons_zero]
  rw [splice_segs (digs 0 (8 - 1)) _ 13 (zer 8) 337 rfl (by simp [zer_len, l2, l3, o8, o12, ml]) (by rw [zer_len, digs_len]; omega), e8]
  simp only [List.set_cons_succ, List.set_cons_zero]
  rw [set_splice _ _ _ (by simp [zer_len, l1, l2, l3, o8, o12, ml])]
  rw [splice_segs [kindB e.kind] _ 7 (zer 1) 156 rfl (by simp [zer_len, l2, o8, o12]) (by rw [zer_len]; simp), kd]
  simp only [List.set_cons_succ, List.set_cons_zero]
  simp [headA, headB]
theorem headA_len {r : List UInt8} (h : r.length ≤ 100) (m s : Nat) : (headA r m s).length = 148 := by
  simp [headA, txtF_len h, octF_len]
theorem headB_len {k : Int} {l a : List UInt8} (h : l.length ≤ 100) (h2 : a.length ≤ 155) : (headB k l a).length = 356 := by
  simp [headB, txtF_len h, txtF_len h2, octF_len, zer_len, magicL]
theorem hdC_eq (p : List UInt8 × List UInt8) (e : EntD) (hp : partedL e.name = some p) (h1 : p.1.length ≤ 155) (h2 : p.2.length ≤ 100) (h3 : e.link.length ≤ 100) : hdC p e = headerL e := by
  unfold hdC
  rw [hdA_eq p e h1 h2 h3]
  unfold headerL
  rw [hp]
  simp only [Option.getD_some]
  generalize hs : sumH _ = s
  have hA := headA_len h2 e.mode.toNat e.data.length
  rw [List.append_assoc, show 148 = (headA p.2 e.mode.toNat e.data.length).length + 0 by rw [hA], splice_right, splice_left _ _ _ _ (by rw [digs_len, zer_len]; omega)]
  have : splice (zer 8) 0 (digs s 7) = octF s 8 := by
    rw [← fld_oct s 8 (by omega)]; simp [splice]
  rw [this, List.append_assoc]
end Go.Proofs.YtikhdbdbdldbaaaDoor
