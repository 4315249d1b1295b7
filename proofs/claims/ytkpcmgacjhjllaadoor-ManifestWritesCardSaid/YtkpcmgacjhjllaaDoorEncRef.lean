/- The contract of the reference's Encode, at whatever manifest. -/
import Derived.Test.YtkpcmgacjhjllaaDoorApart
import Derived.Test.YtkpcmgacjhjllaaDoorBytes
namespace Go.Proofs.YtkpcmgacjhjllaaDoor
open Go.RowKit

set_option maxRecDepth 100000 in
set_option maxHeartbeats 4000000 in
theorem encref_any (w : World) (o a : ByteArray) (ho : o.size ≤ 9223372036854775807) (ha : a.size ≤ 9223372036854775807) (lv : Value) (hs : List (List UInt8)) (hr : RdHs w lv hs) :
    Calls Tryd.prog 17 #[mV o a lv] w fun e w' => Below w.heap.size w w' ∧
      ((rightOf o.data.toList a.data.toList hs.length = 0 ∧ ∃ r, e = .returned (.tuple #[r, .int .i64 0]) ∧ OwnB w' w.heap.size r (encOf o a hs)) ∨
       (rightOf o.data.toList a.data.toList hs.length ≠ 0 ∧ e = .returned (.tuple #[.slice none 0 0, .int .i64 (rightOf o.data.toList a.data.toList hs.length)]))) := by
  obtain ⟨la, c, rfl⟩ := hr.slice
  have HR := Lib.hid hr
  clear hr
  unfold mV
  go_enter Tryd.func17, Tryd.ntmps17
  go_wp2_with fail
  have M := Lib.hid (mbox_new w o a (.slice la hs.length c))
  revert M
  generalize w.alloc (.cells #[.string o, .string a, .slice la hs.length c] 24) = w1
  intro M
  refine (rightref_any w1 o a ho ha la hs.length c).mono ?_
  rintro e w2 ⟨rfl, hb⟩
  have M2 := Lib.hid (M.out.keep hb)
  clear M hb
  by_cases hr : rightOf o.data.toList a.data.toList hs.length = 0
  · obtain ⟨hwo, hwa, h8⟩ := rightOf_zero hr
    have ho : o.size ≤ 24 := (isWord_len hwo).2
    have ha : a.size ≤ 24 := (isWord_len hwa).2
    have HRR := Lib.hid hr
    rw [hr]
    clear hr hwo hwa
    have hso : IntKind.u8.wrap (o.size : Int) = o.size := by rw [IntKind.wrap_u8]; omega
    have hso' : (o.size : Int) % 256 = o.size := by omega
    have hsa : IntKind.u8.wrap (a.size : Int) = a.size := by rw [IntKind.wrap_u8]; omega
    have hsa' : (a.size : Int) % 256 = a.size := by omega
    have hsn : IntKind.u8.wrap (hs.length : Int) = hs.length := by rw [IntKind.wrap_u8]; omega
    have hsn' : (hs.length : Int) % 256 = hs.length := by omega
    have hcs : (#[Value.int .u8 68, .int .u8 77, .int .u8 1, .int .u8 (o.size : Int)] : Array Value) = ([68, 77, 1, UInt8.ofNat o.size].map vB).toArray := by
      rw [u8_len o.size (by omega)]; rfl
    have hal : Below w2.heap.size w2 (w2.alloc (.cells #[.int .u8 68, .int .u8 77, .int .u8 1, .int .u8 (o.size : Int)] 5)) := (Below.refl _ _).alloc (Nat.le_refl _) _
    have O1 : Hid (OwnB (w2.alloc (.cells #[.int .u8 68, .int .u8 77, .int .u8 1, .int .u8 (o.size : Int)] 5)) (w.heap.size + 1) (.slice (some ⟨w2.heap.size, 0, none⟩) 4 4) [68, 77, 1, UInt8.ofNat o.size]) :=
      own_new w2 (w.heap.size + 1) M2.out.lt _ _ hcs 4 rfl (by decide)
    have M1 := Lib.hid (M2.out.keep hal)
    have j0 := M2.out.c0
    clear M2 hcs
    have k0 := M1.out.c0
    go_wp2_with (refine wpList_outS rfl _ _ rfl (w.heap.size + 1) (.slice (some ⟨w2.heap.size, 0, none⟩) 4 4) [68, 77, 1, UInt8.ofNat o.size] rfl O1.out o rfl (by simp; omega) M1.out.lt ?_)
    intro v3 w3 hown hb hx
    have M3 := Lib.hid (M1.out.keepAt (Nat.lt_succ_self _) hb)
    have O3 := Lib.hid hown
    clear hown hb hx O1 M1 k0 hal j0
    obtain ⟨p, hp⟩ : ∃ p, p = [68, 77, 1, UInt8.ofNat o.size] ++ o.data.toList := ⟨_, rfl⟩
    have HP := Lib.hid hp
    have hpl : p.length ≤ 28 := by
      rw [hp]
      have : o.data.toList.length = o.size := rfl
      simp only [List.length_append, List.length_cons, List.length_nil]; omega
    have O3' : Hid (OwnB w3 (w.heap.size + 1) v3 p) := by
      show OwnB _ _ _ _
      rw [hp]; exact O3.out
    clear O3 hp
    have k1 := M3.out.c1
    have Q1 := Lib.hid (rd_len w3 a.size (by omega))
    have O1 : Hid (OwnB (w3.alloc (.cells #[.int .u8 (a.size : Int)] 5)) (w.heap.size + 1) v3 p) := own_below O3'.out ((Below.refl _ _).alloc (Nat.le_refl _) _)
    have M1 := Lib.hid (M3.out.keep ((Below.refl _ _).alloc (Nat.le_refl _) (.cells #[.int .u8 (a.size : Int)] 5)))
    clear O3' M3
    go_wp2_with (refine wpList_out rfl _ _ rfl (w.heap.size + 1) v3 p rfl (.inl O1.out) _ [UInt8.ofNat a.size] rfl Q1.out (by simp) (by simp; omega) M1.out.lt ?_)
    intro v4 w4 hown hb hx
    have M4 := Lib.hid (M1.out.keepAt (Nat.lt_succ_self _) hb)
    have O4 := Lib.hid hown
    clear hown hb hx O1 M1 Q1 k1
    have k1 := M4.out.c1
    go_wp2_with (refine wpList_outS rfl _ _ rfl (w.heap.size + 1) v4 (p ++ [UInt8.ofNat a.size]) rfl O4.out a rfl (by simp; omega) M4.out.lt ?_)
    intro v5 w5 hown hb hx
    have M5 := Lib.hid (M4.out.keepAt (Nat.lt_succ_self _) hb)
    obtain ⟨q, hq⟩ : ∃ q, q = p ++ [UInt8.ofNat a.size] ++ a.data.toList := ⟨_, rfl⟩
    have HQ := Lib.hid hq
    have hql : q.length ≤ 53 := by
      rw [hq]
      have : a.data.toList.length = a.size := rfl
      simp only [List.length_append, List.length_cons, List.length_nil]; omega
    have O5 : Hid (OwnB w5 (w.heap.size + 1) v5 q) := by
      show OwnB _ _ _ _
      rw [hq]; simpa using hown
    clear hown hb hx O4 M4 k1 hq
    have k2 := M5.out.c2
    have Q1 := Lib.hid (rd_len w5 hs.length (by omega))
    have O1 : Hid (OwnB (w5.alloc (.cells #[.int .u8 (hs.length : Int)] 5)) (w.heap.size + 1) v5 q) := own_below O5.out ((Below.refl _ _).alloc (Nat.le_refl _) _)
    have M1 := Lib.hid (M5.out.keep ((Below.refl _ _).alloc (Nat.le_refl _) (.cells #[.int .u8 (hs.length : Int)] 5)))
    clear O5 M5
    go_wp2_with (refine wpList_out rfl _ _ rfl (w.heap.size + 1) v5 q rfl (.inl O1.out) _ [UInt8.ofNat hs.length] rfl Q1.out (by simp) (by simp; omega) M1.out.lt ?_)
    intro v6 w6 hown hb hx
    have M6 := Lib.hid (M1.out.keepAt (Nat.lt_succ_self _) hb)
    have hen : encOf o a hs = q ++ [UInt8.ofNat hs.length] ++ hs.flatten := by
      rw [HQ.out, HP.out, encOf_shape]
      have e1 : o.data.toList.length = o.size := rfl
      have e2 : a.data.toList.length = a.size := rfl
      rw [e1, e2]
      simp
    have HEN := Lib.hid hen
    obtain ⟨z, hz⟩ : ∃ z, z = q ++ [UInt8.ofNat hs.length] := ⟨_, rfl⟩
    have hzl : z.length ≤ 54 := by rw [hz]; simp; omega
    have O6 : Hid (OwnB w6 (w.heap.size + 1) v6 z) := by
      show OwnB _ _ _ _
      rw [hz]; exact hown
    rw [← hz] at HEN
    clear hown hb hx O1 M1 Q1 k2 hen hz HP HQ hso hso' hsa hsa' hsn hsn'
    have k2 := M6.out.c2
    go_wp2
    go_loopw [6, 5] (fun i v wr => ∃ k : Nat, k ≤ hs.length ∧ i = .int .i64 k ∧ MBox w wr o a (.slice la hs.length c) ∧ OwnB wr (w.heap.size + 1) v (z ++ (hs.take k).flatten)) (fun i _ _ => hs.length - (intOf i).toNat)
    case atStart => exact ⟨0, by omega, rfl, M6.out, by simpa using O6.out⟩
    case round =>
      obtain ⟨k, hk, rfl, M, O⟩ := hrel
      have HM := Lib.hid M; have HO := Lib.hid O
      clear M O M6 O6 k2
      have k2 := HM.out.c2
      by_cases hlk : k < hs.length
      · have hlkz : (k : Int) < hs.length := by omega
        have hx : hs[k]? = some hs[k] := List.getElem?_eq_getElem hlk
        obtain ⟨b, off, rfl, _, hnc, hrg, hxl⟩ := (HR.out.below HM.out.below).at k _ hx
        have hne : hs[k] ≠ [] := fun e => by rw [e] at hxl; simp at hxl
        have hfl : (hs.take (k + 1)).flatten = (hs.take k).flatten ++ hs[k] := by rw [List.take_succ_eq_append_getElem hlk, List.flatten_append]; simp [-List.take_append_getElem]
        have HFL := Lib.hid hfl; have HXL := Lib.hid hxl; have HRG := Lib.hid hrg; have HNE := Lib.hid hne
        have hfn : ((hs.take k).flatten).length ≤ 256 := flatten_len (fun i x hi => HR.out.len i x hi) h8 k
        generalize hs[k] = x at *
        clear hx hfl hxl hrg hne
        go_wp2_with (refine wpList_load_mid rfl 33 _ rfl b (off + k * 32) rfl (x.map vB) _ HRG.out Tryd.underlying33 rfl (by rw [hash_size]; simp [HXL.out]) ?_)
        refine (bytes_any wr x HXL.out).mono ?_
        rintro e w7 ⟨r7, rfl, hr7, hb7⟩
        have R7 := Lib.hid hr7
        have M7 := Lib.hid (HM.out.keep hb7)
        have O7 : Hid (OwnB w7 (w.heap.size + 1) u5 (z ++ (hs.take k).flatten)) := own_below HO.out hb7
        have hl5 : (z ++ (hs.take k).flatten).length + x.length ≤ 140737488355328 := by have := HXL.out; simp only [List.length_append]; omega
        have HL5 := Lib.hid hl5
        have hB1 := M7.out.lt
        clear hr7 hb7 HO HM hl5 k2
        go_wp2_with (refine wpList_out rfl _ _ rfl (w.heap.size + 1) u5 _ rfl (.inl O7.out) _ x rfl R7.out HNE.out HL5.out hB1 ?_)
        intro v8 w8 hown hb hxp
        have M8 := Lib.hid (M7.out.keepAt (Nat.lt_succ_self _) hb)
        have o8 : OwnB w8 (w.heap.size + 1) v8 (z ++ (hs.take (k + 1)).flatten) := by
          rw [HFL.out, ← List.append_assoc]
          simpa using hown
        have O8 := Lib.hid o8
        clear hown hb hxp o8 O7 R7 M7 HFL HXL HRG HNE HL5 hB1
        go_wp2
        exact ⟨⟨k + 1, by omega, by go_num, M8.out, O8.out⟩, by simp [intOf]; omega⟩
      · obtain rfl : k = hs.length := by omega
        have O9 : Hid (OwnB wr w.heap.size u5 (encOf o a hs)) := by
          show OwnB _ _ _ _
          rw [HEN.out]
          have h := HO.out
          rw [List.take_length] at h
          exact own_from h (by omega)
        clear HO HEN hk hlk
        go_wp2
        exact bodyPost_ret (results_tmp2 rfl _ _ _) rfl ⟨HM.out.below, .inl ⟨HRR.out, _, rfl, O9.out⟩⟩
  · have hne : (rightOf o.data.toList a.data.toList hs.length != 0) = true := by simpa using hr
    have HRR := Lib.hid hr
    clear hr
    go_wp2
    exact bodyPost_ret (results_tmp2 rfl _ _ _) rfl ⟨M2.out.below, .inr ⟨HRR.out, rfl⟩⟩
end Go.Proofs.YtkpcmgacjhjllaaDoor
