/- The contract of manifest.Encode, at whatever manifest. -/
import Derived.Test.YtkpcmgacjhjllaaDoorRight
import Derived.Test.YtkpcmgacjhjllaaDoorOwn
import Derived.Lib.SlBytesConst
namespace Go.Proofs.YtkpcmgacjhjllaaDoor
open Go.RowKit

def sk (o a : ByteArray) (k : Nat) : ByteArray := if k = 0 then o else a
def encPre (o a : ByteArray) : Nat → List UInt8
  | 0 => [68, 77, 1]
  | k + 1 => encPre o a k ++ (UInt8.ofNat (sk o a k).size :: (sk o a k).data.toList)
def encOf (o a : ByteArray) (hs : List (List UInt8)) : List UInt8 := encPre o a 2 ++ [UInt8.ofNat hs.length] ++ hs.flatten
theorem encPre_len (o a : ByteArray) (ho : o.size ≤ 24) (ha : a.size ≤ 24) (k : Nat) (hk : k ≤ 2) : (encPre o a k).length ≤ 3 + 25 * k := by
  have h : ∀ j, (sk o a j).size ≤ 24 := fun j => by unfold sk; split <;> omega
  induction k with
  | zero => simp [encPre]
  | succ k ih =>
    have := ih (by omega)
    have := h k
    simp only [encPre, List.length_append, List.length_cons]
    have e : (sk o a k).data.toList.length = (sk o a k).size := rfl
    omega
theorem isWord_len {l : List UInt8} (h : isWord l = true) : 1 ≤ l.length ∧ l.length ≤ 24 := by
  simp only [isWord, Bool.and_eq_true, decide_eq_true_eq] at h
  exact ⟨h.1.2, h.2⟩
theorem rightOf_zero {o a : List UInt8} {n : Nat} (h : rightOf o a n = 0) : isWord o = true ∧ isWord a = true ∧ n ≤ 8 := by
  unfold rightOf at h
  split at h
  · rename_i h1
    rw [Bool.and_eq_true] at h1
    split at h
    · exact ⟨h1.1, h1.2, by assumption⟩
    · omega
  · omega
theorem strCells_vB (s : ByteArray) : Lib.strCells s = s.data.toList.map vB := rfl
theorem u8_len (n : Nat) (h : n ≤ 255) : Value.int .u8 (n : Int) = vB (UInt8.ofNat n) := by
  simp only [vB, n8, UInt8.toNat_ofNat']
  congr 1
  rw [Nat.mod_eq_of_lt (by omega)]

theorem flatten_len {hs : List (List UInt8)} (h : ∀ (i : Nat) (x : List UInt8), hs[i]? = some x → x.length = 32) (h8 : hs.length ≤ 8) (k : Nat) : ((hs.take k).flatten).length ≤ 256 := by
  have h1 : ∀ l : List (List UInt8), (∀ x ∈ l, x.length = 32) → l.flatten.length = 32 * l.length := by
    intro l
    induction l with
    | nil => intro _; rfl
    | cons x l ih => intro hl; simp only [List.flatten_cons, List.length_append, List.length_cons]; rw [ih (fun y hy => hl y (by simp [hy])), hl x (by simp)]; omega
  rw [h1 _ (fun x hx => by
    obtain ⟨i, hi⟩ := List.mem_iff_getElem?.1 (List.mem_of_mem_take hx)
    exact h i x hi)]
  have : (hs.take k).length ≤ hs.length := by rw [List.length_take]; omega
  omega

/-- Under way: the box, the row of words. -/
structure EncS (w wr : World) (o a : ByteArray) (lv : Value) (sb : Nat) : Prop where
  box : MBox w wr o a lv
  row : wr.heap[sb]? = some (.cells #[.string o, .string a] 9 (0, 0))
  lt : w.heap.size < sb
theorem EncS.word {w wr : World} {o a : ByteArray} {lv : Value} {sb : Nat} (M : EncS w wr o a lv sb) (k : Nat) (hk : k < 2) : wr.cell? ⟨sb, k, none⟩ = some (.string (sk o a k)) := by
  rw [cell_of_row wr sb k _ _ _ M.row]
  match k, hk with
  | 0, _ => rfl
  | 1, _ => rfl
theorem EncS.alloc {w wr : World} {o a : ByteArray} {lv : Value} {sb : Nat} (M : EncS w wr o a lv sb) (x : Obj) : EncS w (wr.alloc x) o a lv sb :=
  ⟨M.box.keep ((Below.refl _ _).alloc (Nat.le_refl _) _), (((Below.refl _ _).alloc (Nat.le_refl _) _).block _ (Array.getElem?_eq_some_iff.1 M.row).1).trans M.row, M.lt⟩
theorem EncS.keep {w wr w' : World} {o a : ByteArray} {lv : Value} {sb : Nat} (M : EncS w wr o a lv sb) (hb : Below (w.heap.size + 1) wr w') (hx : ApartB wr w') : EncS w w' o a lv sb :=
  ⟨M.box.keepAt (Nat.lt_succ_self _) hb, hx _ _ _ _ (by decide) M.row, M.lt⟩
/-- The words' loop. -/
def EncI (w : World) (o a : ByteArray) (lv : Value) (sb : Nat) (i v : Value) (wr : World) : Prop :=
  ∃ k : Nat, k ≤ 2 ∧ i = .int .i64 k ∧ EncS w wr o a lv sb ∧ OutB wr (w.heap.size + 1) v (encPre o a k)

set_option maxRecDepth 100000 in
set_option maxHeartbeats 4000000 in
theorem encode_any (w : World) (o a : ByteArray) (lv : Value) (hs : List (List UInt8)) (hr : RdHs w lv hs) :
    Calls Tryd.prog 9 #[mV o a lv] w fun e w' => Below w.heap.size w w' ∧
      ((rightOf o.data.toList a.data.toList hs.length = 0 ∧ ∃ r, e = .returned (.tuple #[r, .int .i64 0]) ∧ OwnB w' w.heap.size r (encOf o a hs)) ∨
       (rightOf o.data.toList a.data.toList hs.length ≠ 0 ∧ e = .returned (.tuple #[.slice none 0 0, .int .i64 (rightOf o.data.toList a.data.toList hs.length)]))) := by
  obtain ⟨i0, hi, hz0, hz1, hz2⟩ := info_parts info_u8
  obtain ⟨la, c, rfl⟩ := hr.slice
  have HR := Lib.hid hr
  clear hr
  unfold mV
  go_enter Tryd.func9, Tryd.ntmps9
  go_wp2_with fail
  have M := Lib.hid (mbox_new w o a (.slice la hs.length c))
  revert M
  generalize w.alloc (.cells #[.string o, .string a, .slice la hs.length c] 24) = w1
  intro M
  refine (right_any w1 o a la hs.length c).mono ?_
  rintro e w2 ⟨rfl, hb⟩
  have M2 := Lib.hid (M.out.keep hb)
  clear M hb
  by_cases hr : rightOf o.data.toList a.data.toList hs.length = 0
  · obtain ⟨hwo, hwa, h8⟩ := rightOf_zero hr
    have ho : o.size ≤ 24 := (isWord_len hwo).2
    have ha : a.size ≤ 24 := (isWord_len hwa).2
    have HRR := Lib.hid hr
    rw [hr]
    clear hr hwo hwa
    have kc := fun (C : Array Value) (n c : Nat) => Lib.run_convert_bytes_const (P := Tryd.prog) w2 25 5 C n c Tryd.underlying25 Tryd.underlying5
    have O0 := Lib.hid (rd_new w2 (encPre o a 0) #[.int .u8 68, .int .u8 77, .int .u8 1] 5 (3, 4) rfl 3 rfl)
    have M3 := Lib.hid (M2.out.keep ((Below.refl _ _).alloc (Nat.le_refl _) (.cells #[.int .u8 68, .int .u8 77, .int .u8 1] 5 (3, 4))))
    have hlt := M2.out.lt
    have k0 := M3.out.c0; have k1 := M3.out.c1; have k2 := M3.out.c2
    go_wp2_with fail
    have S4 : Hid (EncS w ((w2.alloc (.cells #[.int .u8 68, .int .u8 77, .int .u8 1] 5 (3, 4))).alloc (.cells #[.string o, .string a] 9)) o a (.slice la hs.length c) (w2.heap.size + 1)) := by
      refine ⟨M3.out.keep ((Below.refl _ _).alloc (Nat.le_refl _) _), ?_, by omega⟩
      have h := heap_alloc_new (w2.alloc (.cells #[.int .u8 68, .int .u8 77, .int .u8 1] 5 (3, 4))) (.cells #[.string o, .string a] 9)
      have e : (w2.alloc (.cells #[.int .u8 68, .int .u8 77, .int .u8 1] 5 (3, 4))).heap.size = w2.heap.size + 1 := by simp
      rw [e] at h
      exact h
    have O4 : Hid (OutB ((w2.alloc (.cells #[.int .u8 68, .int .u8 77, .int .u8 1] 5 (3, 4))).alloc (.cells #[.string o, .string a] 9)) (w.heap.size + 1) (.slice (some ⟨w2.heap.size, 0, none⟩) 3 3) (encPre o a 0)) :=
      .inr ⟨w2.heap.size, rfl, hlt, RdV.below O0.out ((Below.refl _ _).alloc (Nat.le_refl _) _)⟩
    clear kc O0 M3 k0 k1 k2
    revert S4 O4
    generalize (w2.alloc (.cells #[.int .u8 68, .int .u8 77, .int .u8 1] 5 (3, 4))).alloc (.cells #[.string o, .string a] 9) = w4
    generalize hsb : w2.heap.size + 1 = sb
    intro S4 O4
    clear hsb
    go_loopw [23, 5, 7] (fun i v _ wr => EncI w o a (.slice la hs.length c) sb i v wr) (fun i _ _ _ => 2 - (intOf i).toNat)
    case atStart => exact ⟨0, by omega, rfl, S4.out, O4.out⟩
    case round =>
      obtain ⟨k, hk, rfl, S, O⟩ := hrel
      have HS := Lib.hid S; have HO := Lib.hid O
      clear S O S4 O4 M2
      have hpl := encPre_len o a ho ha k hk
      by_cases hlk : k < 2
      · have hlkz : (k : Int) < 2 := by omega
        have hw := HS.out.word k hlk
        have hpre : encPre o a (k + 1) = encPre o a k ++ (UInt8.ofNat (sk o a k).size :: (sk o a k).data.toList) := rfl
        have hsz : (sk o a k).size ≤ 24 := by unfold sk; split <;> omega
        have HP := Lib.hid hpre
        clear hpre
        generalize sk o a k = s at *
        generalize encPre o a k = pre at *
        have hu8 : IntKind.u8.wrap (s.size : Int) = s.size := by rw [IntKind.wrap_u8]; omega
        have hu8' : (s.size : Int) % 256 = s.size := by omega
        have R1 := Lib.hid (rd_len wr s.size (by omega))
        have O1 := Lib.hid (HO.out.below ((Below.refl _ _).alloc (Nat.le_refl _) (.cells #[.int .u8 (s.size : Int)] 5)))
        have S1 := Lib.hid (HS.out.alloc (.cells #[.int .u8 (s.size : Int)] 5))
        clear HO HS
        have hB1 : w.heap.size + 1 ≤ (wr.alloc (.cells #[.int .u8 (s.size : Int)] 5)).heap.size := S1.out.box.lt
        go_wp2_with (refine wpList_out rfl _ _ rfl (w.heap.size + 1) u5 pre rfl O1.out _ [UInt8.ofNat s.size] rfl R1.out (by simp) (by simp; omega) hB1 ?_)
        intro v5 w5 hown hb hx
        have S5 := Lib.hid (S1.out.keep hb hx)
        have O5 := Lib.hid hown
        clear hown hb hx O1 R1 S1 hB1
        go_wp2_with (refine wpList_outS rfl _ _ rfl (w.heap.size + 1) v5 (pre ++ [UInt8.ofNat s.size]) rfl O5.out s rfl (by simp; omega) S5.out.box.lt ?_)
        intro v6 w6 hown hb hx
        have S6 := Lib.hid (S5.out.keep hb hx)
        have O6 : Hid (OutB w6 (w.heap.size + 1) v6 (encPre o a (k + 1))) := by
          rw [HP.out]
          exact .inl hown
        clear hown hb hx O5 S5 HP hu8 hu8'
        go_wp2
        go_roundw
        case rel => first | exact ⟨k + 1, by omega, by go_num, S6.out, O6.out⟩ | ((repeat apply Exists.intro); exact ⟨⟨k + 1, by omega, by go_num, S6.out, O6.out⟩, rfl⟩)
        case measure => simp [intOf]; omega
      · obtain rfl : k = 2 := by omega
        rw [show ((2 : Nat) : Int) = (2 : Int) from rfl]
        have k2 := HS.out.box.c2
        have hp2 : (encPre o a 2).length ≤ 53 := hpl
        have hen : encOf o a hs = encPre o a 2 ++ [UInt8.ofNat hs.length] ++ hs.flatten := rfl
        have HEN := Lib.hid hen
        generalize encPre o a 2 = pre at *
        have hu8 : IntKind.u8.wrap (hs.length : Int) = hs.length := by rw [IntKind.wrap_u8]; omega
        have hu8' : (hs.length : Int) % 256 = hs.length := by omega
        have R1 := Lib.hid (rd_len wr hs.length (by omega))
        have O1 := Lib.hid (HO.out.below ((Below.refl _ _).alloc (Nat.le_refl _) (.cells #[.int .u8 (hs.length : Int)] 5)))
        have M1 := Lib.hid (HS.out.box.keep ((Below.refl _ _).alloc (Nat.le_refl _) (.cells #[.int .u8 (hs.length : Int)] 5)))
        have hB1 : w.heap.size + 1 ≤ (wr.alloc (.cells #[.int .u8 (hs.length : Int)] 5)).heap.size := M1.out.lt
        clear HO HS hen hpl
        go_wp2_with (refine wpList_out rfl _ _ rfl (w.heap.size + 1) u5 pre rfl O1.out _ [UInt8.ofNat hs.length] rfl R1.out (by simp) (by simp; omega) hB1 ?_)
        intro v5 w5 hown hb hx
        have M5 := Lib.hid (M1.out.keepAt (Nat.lt_succ_self _) hb)
        have O5 := Lib.hid hown
        clear hown hb hx O1 R1 M1 hB1 k2
        have k2 := M5.out.c2
        go_wp2
        clear hu8 hu8' k2
        go_loopw [46, 5, 9] (fun i v _ wr => ∃ k : Nat, k ≤ hs.length ∧ i = .int .i64 k ∧ MBox w wr o a (.slice la hs.length c) ∧ OwnB wr (w.heap.size + 1) v (pre ++ [UInt8.ofNat hs.length] ++ (hs.take k).flatten)) (fun i _ _ _ => hs.length - (intOf i).toNat)
        case atStart => exact ⟨0, by omega, rfl, M5.out, by simpa using O5.out⟩
        case round =>
          obtain ⟨k, hk, rfl, M, O⟩ := hrel
          have HM := Lib.hid M; have HO := Lib.hid O
          clear M O M5 O5
          by_cases hlk : k < hs.length
          · have hlkz : (k : Int) < hs.length := by omega
            have hx : hs[k]? = some hs[k] := List.getElem?_eq_getElem hlk
            obtain ⟨b, off, rfl, _, hnc, hrg, hxl⟩ := (HR.out.below HM.out.below).at k _ hx
            have hne : hs[k] ≠ [] := fun e => by rw [e] at hxl; simp at hxl
            have hfl : (hs.take (k + 1)).flatten = (hs.take k).flatten ++ hs[k] := by rw [List.take_succ_eq_append_getElem hlk, List.flatten_append]; simp [-List.take_append_getElem]
            have HFL := Lib.hid hfl; have HXL := Lib.hid hxl; have HRG := Lib.hid hrg; have HNE := Lib.hid hne
            have hfn : ((hs.take k).flatten).length ≤ 256 := flatten_len (fun i x hi => HR.out.len i x hi) h8 k
            generalize hs[k] = x at *
            clear hx hfl hxl hrg hne
            have BX := box_hash wr x HXL.out
            rw [← zeros32] at BX
            obtain ⟨wx, hwx⟩ : ∃ wx, wx = (wr.alloc (.cells #[Value.int IntKind.u8 0, Value.int IntKind.u8 0, Value.int IntKind.u8 0, Value.int IntKind.u8 0, Value.int IntKind.u8 0, Value.int IntKind.u8 0, Value.int IntKind.u8 0, Value.int IntKind.u8 0, Value.int IntKind.u8 0, Value.int IntKind.u8 0, Value.int IntKind.u8 0, Value.int IntKind.u8 0, Value.int IntKind.u8 0, Value.int IntKind.u8 0, Value.int IntKind.u8 0, Value.int IntKind.u8 0, Value.int IntKind.u8 0, Value.int IntKind.u8 0, Value.int IntKind.u8 0, Value.int IntKind.u8 0, Value.int IntKind.u8 0, Value.int IntKind.u8 0, Value.int IntKind.u8 0, Value.int IntKind.u8 0, Value.int IntKind.u8 0, Value.int IntKind.u8 0, Value.int IntKind.u8 0, Value.int IntKind.u8 0, Value.int IntKind.u8 0, Value.int IntKind.u8 0, Value.int IntKind.u8 0, Value.int IntKind.u8 0] 33)).setRow wr.heap.size (x.map vB).toArray := ⟨_, rfl⟩
            have HWX := Lib.hid hwx
            rw [← hwx] at BX
            clear hwx
            have X1 := Lib.hid BX.1
            have O1 : Hid (OwnB wx (w.heap.size + 1) u5 (pre ++ [UInt8.ofNat hs.length] ++ (hs.take k).flatten)) := own_below HO.out BX.2
            have M1 := Lib.hid (HM.out.keep BX.2)
            have hl5 : (pre ++ [UInt8.ofNat hs.length] ++ (hs.take k).flatten).length + x.length ≤ 140737488355328 := by have := HXL.out; simp only [List.length_append, List.length_cons, List.length_nil]; omega
            have hB1 := M1.out.lt
            have HL5 := Lib.hid hl5
            clear BX HM HO hl5
            go_wp2_with (first
              | refine wpList_load_mid rfl 33 _ rfl b (off + k * 32) rfl (x.map vB) _ HRG.out Tryd.underlying33 rfl (by rw [hash_size]; simp [HXL.out]) ?_
              | (refine wpList_store_row rfl _ _ _ rfl wr.heap.size (x.map vB).toArray rfl rfl 33 ((List.replicate 32 0).map vB).toArray (heap_alloc_new wr _) (by rw [hash_size]; simp [HXL.out]) (by simp [HXL.out]) (hashA_one x) ?_; rw [← HWX.out])
              | refine wpList_out rfl _ _ rfl (w.heap.size + 1) u5 _ rfl (.inl O1.out) _ x rfl X1.out HNE.out HL5.out hB1 ?_)
            intro v6 w6 hown hb hxp
            have M6 := Lib.hid (M1.out.keepAt (Nat.lt_succ_self _) hb)
            have o6 : OwnB w6 (w.heap.size + 1) v6 (pre ++ [UInt8.ofNat hs.length] ++ (hs.take (k + 1)).flatten) := by
              rw [HFL.out, ← List.append_assoc]
              simpa using hown
            have O6 := Lib.hid o6
            clear hown hb hxp o6 O1 X1 M1 HFL HXL HRG HNE HL5 hB1 HWX
            go_wp2
            go_roundw
            case rel => first | exact ⟨k + 1, by omega, by go_num, M6.out, O6.out⟩ | ((repeat apply Exists.intro); exact ⟨⟨k + 1, by omega, by go_num, M6.out, O6.out⟩, rfl⟩)
            case measure => simp [intOf]; omega
          · obtain rfl : k = hs.length := by omega
            have O7 : Hid (OwnB wr w.heap.size u5 (encOf o a hs)) := by
              rw [HEN.out]
              have h := HO.out
              rw [List.take_length] at h
              exact own_from h (by omega)
            clear HO HEN hk hlk
            go_wp2
            exact bodyPost_ret (results_tmp2 rfl _ _ _) rfl ⟨HM.out.below, .inl ⟨HRR.out, _, rfl, O7.out⟩⟩
  · have hne : (rightOf o.data.toList a.data.toList hs.length != 0) = true := by simpa using hr
    have HRR := Lib.hid hr
    clear hr
    go_wp2
    exact bodyPost_ret (results_tmp2 rfl _ _ _) rfl ⟨M2.out.below, .inr ⟨HRR.out, rfl⟩⟩
end Go.Proofs.YtkpcmgacjhjllaaDoor
