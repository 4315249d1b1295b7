/- The contract of ManifestApart: at whatever two manifests. -/
import Derived.Test.YtkpcmgacjhjllaaDoorLiveM
import Derived.Test.YtkpcmgacjhjllaaDoorSameM
import Derived.Test.YtkpcmgacjhjllaaDoorClass
namespace Go.Proofs.YtkpcmgacjhjllaaDoor
open Go.RowKit

theorem len_ofNat_inj {n m : Nat} (hn : n ≤ 255) (hm : m ≤ 255) (h : UInt8.ofNat n = UInt8.ofNat m) : n = m := by
  have h2 := congrArg UInt8.toNat h
  rw [UInt8.toNat_ofNat', UInt8.toNat_ofNat', Nat.mod_eq_of_lt (by omega), Nat.mod_eq_of_lt (by omega)] at h2
  exact h2
theorem word_inj {a b x y : List UInt8} (ha : a.length ≤ 255) (hb : b.length ≤ 255) (h : UInt8.ofNat a.length :: (a ++ x) = UInt8.ofNat b.length :: (b ++ y)) : a = b ∧ x = y := by
  obtain ⟨h1, h2⟩ := List.cons.inj h
  exact List.append_inj h2 (len_ofNat_inj ha hb h1)
theorem flatten_inj : ∀ {hs hs' : List (List UInt8)}, hs.length = hs'.length → (∀ (i : Nat) x, hs[i]? = some x → x.length = 32) → (∀ (i : Nat) x, hs'[i]? = some x → x.length = 32) → hs.flatten = hs'.flatten → hs = hs'
  | [], [], _, _, _, _ => rfl
  | [], _ :: _, h, _, _, _ => by cases h
  | _ :: _, [], h, _, _, _ => by cases h
  | x :: hs, y :: hs', h, hx, hy, he => by
    simp only [List.flatten_cons] at he
    obtain ⟨h1, h2⟩ := List.append_inj he ((hx 0 x rfl).trans (hy 0 y rfl).symm)
    rw [h1, flatten_inj (by simpa using h) (fun i z hz => hx (i + 1) z hz) (fun i z hz => hy (i + 1) z hz) h2]
theorem encOf_shape (o a : ByteArray) (hs : List (List UInt8)) : encOf o a hs = 68 :: 77 :: 1 :: UInt8.ofNat o.data.toList.length :: (o.data.toList ++ UInt8.ofNat a.data.toList.length :: (a.data.toList ++ UInt8.ofNat hs.length :: hs.flatten)) := by
  have e0 : sk o a 0 = o := rfl
  have e1 : sk o a 1 = a := rfl
  have s0 : o.size = o.data.toList.length := rfl
  have s1 : a.size = a.data.toList.length := rfl
  simp only [encOf, encPre, e0, e1, s0, s1, List.append_assoc, List.cons_append, List.nil_append]
theorem encOf_le {o a : ByteArray} {hs : List (List UInt8)} (h1 : rightOf o.data.toList a.data.toList hs.length = 0) (hl : ∀ (i : Nat) x, hs[i]? = some x → x.length = 32) : (encOf o a hs).length ≤ 1000 := by
  obtain ⟨p1, p2, p3⟩ := rightOf_zero h1
  have := isWord_len p1; have := isWord_len p2
  have hf := flatten_len hl p3 hs.length
  rw [List.take_length] at hf
  rw [encOf_shape]
  simp only [List.length_cons, List.length_append]
  omega
theorem enc_inj {o a o' a' : ByteArray} {hs hs' : List (List UInt8)} (h1 : rightOf o.data.toList a.data.toList hs.length = 0) (h2 : rightOf o'.data.toList a'.data.toList hs'.length = 0)
    (hl : ∀ (i : Nat) x, hs[i]? = some x → x.length = 32) (hl' : ∀ (i : Nat) x, hs'[i]? = some x → x.length = 32) :
    decide (encOf o a hs = encOf o' a' hs') = SameM o a hs o' a' hs' := by
  obtain ⟨p1, p2, p3⟩ := rightOf_zero h1
  obtain ⟨q1, q2, q3⟩ := rightOf_zero h2
  have := isWord_len p1; have := isWord_len p2; have := isWord_len q1; have := isWord_len q2
  unfold SameM
  rw [decide_eq_decide, encOf_shape, encOf_shape]
  constructor
  · intro h
    simp only [List.cons.injEq, true_and] at h
    obtain ⟨e1, h⟩ := word_inj (by omega) (by omega) (List.cons_eq_cons.2 h)
    obtain ⟨e2, h⟩ := word_inj (by omega) (by omega) h
    obtain ⟨e3, h⟩ := List.cons.inj h
    exact ⟨e1, e2, flatten_inj (len_ofNat_inj (by omega) (by omega) e3) hl hl' h⟩
  · rintro ⟨e1, e2, rfl⟩
    rw [e1, e2]

set_option maxRecDepth 100000 in
set_option maxHeartbeats 2000000 in
theorem apart_any (w : World) (o a : ByteArray) (v : Value) (hs : List (List UInt8)) (o' a' : ByteArray) (v' : Value) (hs' : List (List UInt8)) (hr : RdHs w v hs) (hr' : RdHs w v' hs') :
    Calls Tryd.prog 3 #[mV o a v, mV o' a' v'] w fun e w' => e = .returned (.bool true) ∧ Below w.heap.size w w' := by
  have HR := Lib.hid hr; have HR' := Lib.hid hr'
  have hei := fun h1 h2 => enc_inj (o := o) (a := a) (o' := o') (a' := a') (hs := hs) (hs' := hs') h1 h2 hr.len hr'.len
  have HEI := Lib.hid hei
  have HMN := Lib.hid (mbox2_new w o a v o' a' v')
  clear hr hr' hei
  unfold mV
  go_enter Tryd.func3, Tryd.ntmps3
  go_wp2_with fail
  revert HMN
  generalize (w.alloc (.cells #[.string o, .string a, v] 24)).alloc (.cells #[.string o', .string a', v'] 24) = w1
  intro HMN
  refine (encode_any w1 o a v hs (HR.out.below HMN.out.below)).mono ?_
  rintro e w2 ⟨hb2, hp⟩
  have HM2 := Lib.hid (HMN.out.keep hb2)
  clear HMN hb2
  have d0 := HM2.out.d0; have d1 := HM2.out.d1; have d2 := HM2.out.d2
  rcases hp with ⟨h0, r, rfl, hown⟩ | ⟨h0, rfl⟩
  · have R2 := Lib.hid (RdV_of_owns hown)
    have H0 := Lib.hid h0
    clear h0 hown
    go_wp2_with fail
    refine (encode_any w2 o' a' v' hs' (HR'.out.below HM2.out.below)).mono ?_
    rintro e w3 ⟨hb3, hp⟩
    have HM3 := Lib.hid (HM2.out.keep hb3)
    have R3 := Lib.hid (RdV.below R2.out hb3)
    clear HM2 hb3 d0 d1 d2 R2
    rcases hp with ⟨h0, r', rfl, hown⟩ | ⟨h0, rfl⟩
    · have S3 := Lib.hid (RdV_of_owns hown)
      have H0' := Lib.hid h0
      clear h0 hown
      have e1 := encOf_le H0.out HR.out.len
      have e2 := encOf_le H0'.out HR'.out.len
      have hne := cl_some w3
      have C1 : Hid (∀ q : ClT w3, _) := cl_call (W := w3) (f := 10) (args := #[]) (E := .returned (.bool true)) (fun w _ => live_any w)
      have C2 : Hid (∀ q : ClT w3, _) := cl_call (W := w3) (f := 11) (args := #[r, r']) (E := .returned (.bool (SameM o a hs o' a' hs'))) (fun w h => by
        rw [← HEI.out H0.out H0'.out]
        exact (same_any w r r' _ _ (RdV.below R3.out h) (RdV.below S3.out h) (by omega) (by omega)).mono fun e w' ⟨he, n, hn⟩ => ⟨he, by rw [hn]; exact below_drewN w n⟩)
      have C3 : Hid (∀ q : ClT w3, _) := cl_call (W := w3) (f := 12) (args := #[mV o a v, mV o' a' v']) (E := .returned (.bool (SameM o a hs o' a' hs'))) (fun wx h =>
        sameM_any wx o a v hs o' a' v' hs' (HR.out.below (HM3.out.below.trans (h.mono HM3.out.below.size))) (HR'.out.below (HM3.out.below.trans (h.mono HM3.out.below.size))))
      have l1 := Lib.hid (cl_load (W := w3) (cs := [.string o, .string a, v]) HM3.out.row Tryd.underlying24 rfl (by kernel_rfl))
      have l2 := Lib.hid (cl_load (W := w3) (cs := [.string o', .string a', v']) HM3.out.row' Tryd.underlying24 rfl (by kernel_rfl))
      have HB3 := Lib.hid HM3.out.below
      clear e1 e2 HEI R3 S3 HM3
      generalize SameM o a hs o' a' hs' = sm at *
      go_wp2
      refine wp_region_class (fun q : ClT w3 => q.w) (by kernel_rfl) (by kernel_rfl) (cl_start w3) ?_
      quiet_step (exact C1.out _)
      iterate 3 quiet_step (fail)
      quiet_step (exact C2.out _)
      refine wpQuiet_loadAt _ _ w.heap.size 0 _ l1.out (by kernel_rfl) rfl rfl ?_
      refine wpQuiet_loadAt _ _ (w.heap.size + 1) 0 _ l2.out (by kernel_rfl) rfl rfl ?_
      quiet_step (exact C3.out _)
      repeat (quiet_step (fail))
      refine wpQuiet_nil ?_
      intro w' hw'
      obtain ⟨q, rfl⟩ := hw'
      have HB := Lib.hid (HB3.out.trans (q.2.mono HB3.out.size))
      go_wp2
      go_ret
      exact ⟨rfl, HB.out⟩
    · have hne : (rightOf o'.data.toList a'.data.toList hs'.length != 0) = true := by simpa using h0
      clear h0
      go_wp2_with fail
      refine (live_any _).mono ?_
      rintro e w4 ⟨rfl, hb⟩
      have HB := Lib.hid (HM3.out.keep hb).below
      clear hb
      go_wp2
      go_ret
      exact ⟨rfl, HB.out⟩
  · have hne : (rightOf o.data.toList a.data.toList hs.length != 0) = true := by simpa using h0
    clear h0
    go_wp2_with fail
    refine (encode_any w2 o' a' v' hs' (HR'.out.below HM2.out.below)).mono ?_
    rintro e w3 ⟨hb3, hp⟩
    have HM3 := Lib.hid (HM2.out.keep hb3)
    clear HM2 hb3 d0 d1 d2
    have hex : ∃ r f, e = .returned (.tuple #[r, .int .i64 f]) := by
      rcases hp with ⟨_, r', rfl, _⟩ | ⟨_, rfl⟩
      · exact ⟨_, _, rfl⟩
      · exact ⟨_, _, rfl⟩
    obtain ⟨r', f', rfl⟩ := hex
    clear hp
    go_wp2_with fail
    refine (live_any _).mono ?_
    rintro e w4 ⟨rfl, hb⟩
    have HB := Lib.hid (HM3.out.keep hb).below
    clear hb
    go_wp2
    go_ret
    exact ⟨rfl, HB.out⟩
end Go.Proofs.YtkpcmgacjhjllaaDoor
