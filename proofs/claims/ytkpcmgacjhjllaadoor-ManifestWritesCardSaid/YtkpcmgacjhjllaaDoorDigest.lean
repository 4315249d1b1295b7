/- The contract of manifest.Digest, at whatever manifest. -/
import Derived.Test.YtkpcmgacjhjllaaDoorUses
import Derived.Test.YtkpcmgacjhjllaaDoorEncode
import Derived.Test.YtkpcmgacjhjllaaDoorApart
import Derived.Test.YtkpcmgacjhjllaaDoorSum
import Derived.Laws.ResultCell
namespace Go.Proofs.YtkpcmgacjhjllaaDoor
open Go.RowKit

theorem results_hsh_tmp {fn : Func} {p u : Tmp} (h : fn.results = #[.cell p 33, .tmp u]) (tmps : Array Value) (w : World) (g : Nat) (cs : List Value) (x : Value)
    (hp : tmps.getD p undef = .pointer (some ⟨g, 0, none⟩)) (hg : w.heap[g]? = some (.cells cs.toArray 33 (0, 0))) (hx : tmps.getD u undef = x) (hl : cs.length = 32) :
    (results fn tmps).run Tryd.prog w = .ok (.tuple #[.agg cs.toArray, x]) w := by
  have hi : (Tryd.prog.info? 33).map (·.size) = some cs.length := by rw [hl]; exact hash_size
  rw [results_cell_tmp h, hp, hx]
  simp [asAddr, run_loadVar_mid w g 0 33 cs _ (row_range hg) Tryd.underlying33 rfl hi]
def noHash : List UInt8 := List.replicate 32 0
/-- The digest and the error. -/
def digOf (o a : ByteArray) (hs : List (List UInt8)) : List UInt8 := if rightOf o.data.toList a.data.toList hs.length = 0 then sha (encOf o a hs) else noHash
theorem digOf_len (o a : ByteArray) (hs : List (List UInt8)) : (digOf o a hs).length = 32 := by
  unfold digOf
  split
  · exact sha_len _
  · rfl

set_option maxRecDepth 100000 in
set_option maxHeartbeats 2000000 in
theorem digest_any (w : World) (o a : ByteArray) (lv : Value) (hs : List (List UInt8)) (hr : RdHs w lv hs) :
    Calls Tryd.prog 18 #[mV o a lv] w fun e w' => e = .returned (.tuple #[.agg ((digOf o a hs).map vB).toArray, .int .i64 (rightOf o.data.toList a.data.toList hs.length)]) ∧ Below w.heap.size w w' := by
  have M := Lib.hid (hbox_new w o a lv noHash)
  have HR := Lib.hid hr
  clear hr
  unfold mV
  go_enter Tryd.func18, Tryd.ntmps18
  go_wp2_with fail
  rw [zeros32, show List.replicate 32 (0 : UInt8) = noHash from rfl]
  revert M
  generalize (w.alloc (.cells #[.string o, .string a, lv] 24)).alloc (.cells (noHash.map vB).toArray 33) = w1
  intro M
  refine (encode_any w1 o a lv hs (HR.out.below M.out.below)).mono ?_
  rintro e w2 ⟨hb2, hp⟩
  have HM2 := Lib.hid (M.out.keep hb2)
  clear M hb2
  rcases hp with ⟨h0, r, rfl, hown⟩ | ⟨h0, rfl⟩
  · have R2 := Lib.hid (RdV_of_owns hown)
    have hd : digOf o a hs = sha (encOf o a hs) := by unfold digOf; rw [if_pos h0]
    have hle := encOf_le h0 HR.out.len
    have HD := Lib.hid hd; have H0 := Lib.hid h0
    clear hown hd h0
    go_wp2_with fail
    refine (sum_any w2 r (encOf o a hs) R2.out (by omega)).mono ?_
    rintro e w3 ⟨rfl, hb3⟩
    have HM3 := Lib.hid (HM2.out.keep hb3)
    have hsl := sha_len (encOf o a hs)
    rw [← HD.out] at hsl ⊢
    have HS := Lib.hid hsl
    clear HM2 hb3 R2 hsl HD
    obtain ⟨d, hdd⟩ : ∃ d, d = digOf o a hs := ⟨_, rfl⟩
    rw [← hdd] at HS ⊢
    have HDD := Lib.hid hdd
    clear hdd
    go_wp2_with (refine wpList_store_row rfl _ _ _ rfl (w.heap.size + 1) (aB d) rfl rfl 33 (noHash.map vB).toArray HM3.out.rowh (by rw [hash_size]; simp [aB, HS.out]) (by simp [aB, HS.out]; rfl) (aB_one d) ?_)
    exact bodyPost_ret (results_hsh_tmp rfl _ _ (w.heap.size + 1) (d.map vB) (.int .i64 0) rfl (setRow_heap _ _ _ _ _ _ HM3.out.rowh) rfl (by simp [HS.out])) rfl ⟨by rw [← HDD.out, H0.out], below_setRow HM3.out.below (by omega) _⟩
  · have hne : (rightOf o.data.toList a.data.toList hs.length != 0) = true := by simpa using h0
    have hd : digOf o a hs = noHash := by unfold digOf; rw [if_neg h0]
    have HD := Lib.hid hd
    clear h0 hd
    go_wp2_with (refine wpList_store_row rfl _ _ _ rfl (w.heap.size + 1) _ rfl rfl 33 (noHash.map vB).toArray HM2.out.rowh (by kernel_rfl) (by kernel_rfl) (by kernel_rfl) ?_)
    rw [zeros32, show List.replicate 32 (0 : UInt8) = noHash from rfl]
    exact bodyPost_ret (results_hsh_tmp rfl _ _ (w.heap.size + 1) (noHash.map vB) (.int .i64 (rightOf o.data.toList a.data.toList hs.length)) rfl (setRow_heap _ _ _ _ _ _ HM2.out.rowh) rfl rfl) rfl ⟨by rw [HD.out], below_setRow HM2.out.below (by omega) _⟩
end Go.Proofs.YtkpcmgacjhjllaaDoor
