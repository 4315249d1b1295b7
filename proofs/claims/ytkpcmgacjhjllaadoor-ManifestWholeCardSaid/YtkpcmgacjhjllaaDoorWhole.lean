/- The contract of ManifestWhole: at whatever manifest, number and byte. -/
import Derived.Test.YtkpcmgacjhjllaaDoorBack
import Derived.Test.YtkpcmgacjhjllaaDoorBytes
namespace Go.Proofs.YtkpcmgacjhjllaaDoor
open Go.RowKit

theorem flat_len {hs : List (List UInt8)} : (∀ (i : Nat) x, hs[i]? = some x → x.length = 32) → hs.flatten.length = 32 * hs.length := by
  induction hs with
  | nil => intro _; rfl
  | cons x l ih => intro hx; simp only [List.flatten_cons, List.length_append, List.length_cons]; rw [ih (fun i y hi => hx (i + 1) y hi), hx 0 x rfl]; omega
/-- No encoding goes on as another one. -/
theorem enc_prefix {o a o' a' : ByteArray} {hs hs' : List (List UInt8)} {t : List UInt8} (h1 : rightOf o.data.toList a.data.toList hs.length = 0) (h2 : rightOf o'.data.toList a'.data.toList hs'.length = 0)
    (hl : ∀ (i : Nat) x, hs[i]? = some x → x.length = 32) (hl' : ∀ (i : Nat) x, hs'[i]? = some x → x.length = 32) (h : encOf o' a' hs' ++ t = encOf o a hs) : t = [] := by
  obtain ⟨p1, p2, p3⟩ := rightOf_zero h1
  obtain ⟨q1, q2, q3⟩ := rightOf_zero h2
  have := isWord_len p1; have := isWord_len p2; have := isWord_len q1; have := isWord_len q2
  rw [encOf_shape, encOf_shape] at h
  simp only [List.cons_append, List.append_assoc, List.cons.injEq, true_and] at h
  obtain ⟨e1, h⟩ := word_inj (by omega) (by omega) (List.cons_eq_cons.2 h)
  obtain ⟨e2, h⟩ := word_inj (by omega) (by omega) h
  obtain ⟨e3, h⟩ := List.cons.inj h
  have e4 := len_ofNat_inj (by omega) (by omega) e3
  have h5 := congrArg List.length h
  rw [List.length_append, flat_len hl, flat_len hl', e4] at h5
  exact List.eq_nil_of_length_eq_zero (by omega)
theorem dec_cut {o a : ByteArray} {hs : List (List UInt8)} (h1 : rightOf o.data.toList a.data.toList hs.length = 0) (hl : ∀ (i : Nat) x, hs[i]? = some x → x.length = 32) {n : Nat} (hn : n < (encOf o a hs).length) : decOf ((encOf o a hs).take n) = none := by
  cases hd : decOf ((encOf o a hs).take n) with
  | none => rfl
  | some q =>
    obtain ⟨o', a', hs'⟩ := q
    obtain ⟨h0, h32, he⟩ := enc_dec hd
    have h := enc_prefix (o := o) (a := a) (hs := hs) (o' := ⟨o'.toArray⟩) (a' := ⟨a'.toArray⟩) (hs' := hs') (t := (encOf o a hs).drop n) h1 h0 hl h32 (by rw [he, List.take_append_drop])
    have h2 := congrArg List.length h
    rw [List.length_drop] at h2
    simp only [List.length_nil] at h2
    omega
theorem dec_more {o a : ByteArray} {hs : List (List UInt8)} (h1 : rightOf o.data.toList a.data.toList hs.length = 0) (hl : ∀ (i : Nat) x, hs[i]? = some x → x.length = 32) (x : UInt8) : decOf (encOf o a hs ++ [x]) = none := by
  cases hd : decOf (encOf o a hs ++ [x]) with
  | none => rfl
  | some q =>
    obtain ⟨o', a', hs'⟩ := q
    obtain ⟨h0, h32, he⟩ := enc_dec hd
    have h := enc_prefix (o := ⟨o'.toArray⟩) (a := ⟨a'.toArray⟩) (hs := hs') (o' := o) (a' := a) (hs' := hs) (t := [x]) h0 h1 h32 hl he.symm
    cases h
theorem rd_take {w : World} {g c : Nat} {l : List UInt8} (h : RdB w (.slice (some ⟨g, 0, none⟩) l.length c) l) (n : Nat) (hn : n ≤ l.length) : RdB w (.slice (some ⟨g, 0, none⟩) n c) (l.take n) := by
  rcases h with ⟨hx, _⟩ | ⟨ad, cap, hx, hle, hc⟩
  · cases hx
  · simp only [Value.slice.injEq, Option.some.injEq] at hx
    obtain ⟨rfl, _, rfl⟩ := hx
    refine .inr ⟨_, c, by rw [List.length_map, List.length_take, Nat.min_eq_left hn], by rw [List.length_map, List.length_take]; rw [List.length_map] at hle; omega, fun j u hj => hc j u ?_⟩
    rw [List.getElem?_map, List.getElem?_take] at hj
    split at hj
    · rw [List.getElem?_map]; exact hj
    · cases hj

set_option maxRecDepth 100000 in
set_option maxHeartbeats 4000000 in
theorem whole_any (w : World) (o a : ByteArray) (lv : Value) (hs : List (List UInt8)) (k : Nat) (hk : k ≤ 65535) (x : UInt8) (hr : RdHs w lv hs) :
    Calls Tryd.prog 7 #[mV o a lv, .int .u16 k, .int .u8 (n8 x)] w fun e w' => e = .returned (.bool true) ∧ Below w.heap.size w w' := by
  obtain ⟨la, lc, rfl⟩ := hr.slice
  have HR := Lib.hid hr
  have M := Lib.hid (mbox_new w o a (.slice la hs.length lc))
  clear hr
  unfold mV
  go_enter Tryd.func7, Tryd.ntmps7
  go_wp2_with fail
  revert M
  generalize w.alloc (.cells #[.string o, .string a, .slice la hs.length lc] 24) = w1
  intro M
  refine (encode_any w1 o a (.slice la hs.length lc) hs (HR.out.below M.out.below)).mono ?_
  rintro e w2 ⟨hb2, hp⟩
  have B2 := Lib.hid (M.out.keep hb2).below
  clear M hb2
  rcases hp with ⟨h0, r, rfl, hown⟩ | ⟨h0, rfl⟩
  · have hle := encOf_le h0 HR.out.len
    have hpos : 0 < (encOf o a hs).length := by rw [encOf_shape]; simp
    have hcut := fun n (hn : n < (encOf o a hs).length) => dec_cut h0 HR.out.len hn
    have hmore := dec_more h0 HR.out.len x
    obtain ⟨g, cap, rfl, _, _⟩ := World.ownsRow.form hown hpos
    have HRD := Lib.hid (show RdB w2 (.slice (some ⟨g, 0, none⟩) (encOf o a hs).length cap) (encOf o a hs) from RdV_of_owns hown)
    have hcap : (encOf o a hs).length ≤ cap := by
      rcases HRD.out with ⟨hx, _⟩ | ⟨ad, c2, hx, hle2, _⟩
      · cases hx
      · simp only [Value.slice.injEq] at hx
        rw [List.length_map] at hle2
        omega
    clear hown h0
    generalize encOf o a hs = E at *
    have hm : (k : Int).tmod (E.length : Int) = ((k % E.length : Nat) : Int) := by rw [Int.tmod_eq_emod_of_nonneg (by omega)]; exact (Int.natCast_emod k _).symm
    have hmlt : k % E.length < E.length := Nat.mod_lt _ hpos
    have hd1 := hcut _ hmlt
    have HD1 := Lib.hid hd1; have HD2 := Lib.hid hmore
    have hne : ((E.length : Int) == 0) = false := by rw [beq_eq_false_iff_ne]; omega
    have hw16 : IntKind.i64.wrap (k : Int) = k := IntWalk.i64_in _ (by omega)
    have b1 : ((k % E.length : Nat) : Int) ≤ cap := Int.ofNat_le.2 (by omega)
    have b2 : (0 : Int) ≤ ((k % E.length : Nat) : Int) := Int.natCast_nonneg _
    have T2 := Lib.hid (rd_take HRD.out (k % E.length) (by omega))
    have htl : (E.take (k % E.length)).length ≤ 140737488355328 := by rw [List.length_take]; omega
    generalize E.take (k % E.length) = T at *
    generalize k % E.length = m at *
    clear hcut hmore hd1
    go_wp2_with fail
    refine (decode_any w2 _ T T2.out htl).mono ?_
    rintro e w3 ⟨hb3, hp⟩
    obtain rfl : e = .returned (.tuple #[mV ⟨#[]⟩ ⟨#[]⟩ (.slice none 0 0), .int .i64 3]) := by
      rcases hp with ⟨_, he⟩ | ⟨o', a', hs', lv', hd, _⟩
      · exact he
      · rw [HD1.out] at hd; cases hd
    clear hp
    unfold mV
    have BX := (man_box w3 (.string ⟨#[]⟩) (.string ⟨#[]⟩) (.slice none 0 0)).2
    obtain ⟨wx, hwx⟩ : ∃ wx, wx = (w3.alloc (.cells #[.string ⟨#[]⟩, .string ⟨#[]⟩, .slice none 0 0] 24)).setRow w3.heap.size #[.string ⟨#[]⟩, .string ⟨#[]⟩, .slice none 0 0] := ⟨_, rfl⟩
    have HWX := Lib.hid hwx
    rw [← hwx] at BX
    clear hwx
    have BA := Lib.hid (hb3.trans (BX.mono hb3.size))
    have B4 := Lib.hid (B2.out.trans (BA.out.mono B2.out.size))
    have R4 := Lib.hid (RdV.below HRD.out BA.out)
    clear BX hb3 HRD T2 HD1 hm hmlt b1 b2 htl B2 BA
    go_wp2_with (refine wpList_store_row rfl _ _ _ rfl w3.heap.size #[.string ⟨#[]⟩, .string ⟨#[]⟩, .slice none 0 0] rfl rfl 24 #[.string ⟨#[]⟩, .string ⟨#[]⟩, .slice none 0 0] (heap_alloc_new w3 _) (by kernel_rfl) rfl (by kernel_rfl) ?_; rw [← HWX.out])
    refine (copy_any wx _ E R4.out (by omega)).mono ?_
    rintro e w5 ⟨r5, rfl, hown, hb5⟩
    have hal : Below w5.heap.size w5 (w5.alloc (.cells #[.int .u8 (n8 x)] 5)) := (Below.refl _ _).alloc (Nat.le_refl _) _
    have O6 : Hid (OwnB (w5.alloc (.cells #[.int .u8 (n8 x)] 5)) wx.heap.size r5 E) := own_below hown hal
    have Q6 := Lib.hid (rd_byte w5 x)
    have B6 := Lib.hid ((B4.out.trans (hb5.mono B4.out.size)).trans (hal.mono (B4.out.trans (hb5.mono B4.out.size)).size))
    have hB6 : wx.heap.size ≤ (w5.alloc (.cells #[.int .u8 (n8 x)] 5)).heap.size := Nat.le_trans hb5.size hal.size
    have hwx2 : w.heap.size ≤ wx.heap.size := B4.out.size
    clear hown hb5 hal HWX B4 R4
    go_wp2_with (refine wpList_out rfl _ _ rfl wx.heap.size r5 E rfl (.inl O6.out) _ [x] rfl Q6.out (by simp) (by simp; omega) hB6 ?_)
    intro v7 w7 hown hb7 hx7
    have R7 := Lib.hid (show RdB w7 v7 (E ++ [x]) from RdV_of_owns hown)
    have B7 := Lib.hid (B6.out.trans (hb7.mono hwx2))
    clear hown hb7 hx7 O6 Q6 B6 hB6 hwx2
    go_wp2_with fail
    refine (decode_any w7 v7 (E ++ [x]) R7.out (by simp; omega)).mono ?_
    rintro e w8 ⟨hb8, hp⟩
    obtain rfl : e = .returned (.tuple #[mV ⟨#[]⟩ ⟨#[]⟩ (.slice none 0 0), .int .i64 3]) := by
      rcases hp with ⟨_, he⟩ | ⟨o', a', hs', lv', hd, _⟩
      · exact he
      · rw [HD2.out] at hd; cases hd
    clear hp
    unfold mV
    have B8 := Lib.hid (B7.out.trans (hb8.mono B7.out.size))
    have B9 := Lib.hid (B8.out.trans ((man_box w8 (.string ⟨#[]⟩) (.string ⟨#[]⟩) (.slice none 0 0)).2.mono B8.out.size))
    clear hb8 B7 B8 R7 HD2
    go_wp2_with (refine wpList_store_row rfl _ _ _ rfl w8.heap.size #[.string ⟨#[]⟩, .string ⟨#[]⟩, .slice none 0 0] rfl rfl 24 #[.string ⟨#[]⟩, .string ⟨#[]⟩, .slice none 0 0] (heap_alloc_new w8 _) (by kernel_rfl) rfl (by kernel_rfl) ?_)
    refine (live_any _).mono ?_
    rintro e w10 ⟨rfl, hb10⟩
    have B10 := Lib.hid (B9.out.trans (hb10.mono B9.out.size))
    clear hb10 B9
    go_wp2
    go_ret
    exact ⟨rfl, B10.out⟩
  · have hne : (rightOf o.data.toList a.data.toList hs.length != 0) = true := by simpa using h0
    clear h0
    go_wp2_with fail
    refine (live_any _).mono ?_
    rintro e w4 ⟨rfl, hb⟩
    have HB := Lib.hid (B2.out.trans (hb.mono B2.out.size))
    clear hb
    go_wp2
    go_ret
    exact ⟨rfl, HB.out⟩
end Go.Proofs.YtkpcmgacjhjllaaDoor
