/- The law TarfmtCuts. -/
import Derived.Test.YtikhdbdbdldbaaaDoorLive
import Derived.Test.YtikhdbdbdldbaaaDoorParTar
namespace Go.Proofs.YtikhdbdbdldbaaaDoor
open Go.RowKit

theorem print_err {es : List EntD} (h : (printL es).2 ≠ 0) : (printL es).1 = [] := by
  unfold printL at h ⊢
  split
  · rfl
  · split
    · rfl
    · split
      · rename_i h1 h2 h3
        rw [h1] at h
        simp only at h
        rw [if_neg h2, if_pos h3] at h
        exact absurd rfl h
      · rfl
theorem ans_none {w : World} {B : Nat} {v : Value} (h : Ans w B v []) : ∃ a c, v = .slice a 0 c := by
  rcases h with ⟨rfl, _⟩ | h
  · exact ⟨none, 0, rfl⟩
  · obtain ⟨a, c, e, _⟩ := rd_slice h.rd
    exact ⟨a, c, e⟩
set_option maxRecDepth 100000 in
set_option maxHeartbeats 4000000 in
theorem tcuts_any (w : World) (v : Value) (es : List EntD) (n : Nat) (hr : RdEs w v es) (hsz : ∀ e ∈ es, e.name.length ≤ 9223372036854775807) (hn : n ≤ 65535) :
    Calls Tryd.prog 7 #[v, .int .u16 (n : Int)] w fun e w' => e = .returned (.bool true) ∧ Below w.heap.size w w' := by
  have HP := Lib.hid (print_any w v es hr hsz)
  obtain ⟨va, vc, rfl, _, _⟩ := hr.slice
  clear hr hsz
  have n0 : (n : Int) ≤ 65535 := by omega
  by_cases h0 : (printL es).2 = 0
  case neg =>
    have he := print_err h0
    generalize (printL es).2 = err at *
    generalize (printL es).1 = l at *
    subst he
    have i0 : (err != 0) = true := by simp [h0]
    go_enter Tryd.func7, Tryd.ntmps7
    go_wp2_with fail
    refine HP.out.mono ?_
    rintro r w1 ⟨rv, rfl, hans, hb⟩
    obtain ⟨ra, rc, rfl⟩ := ans_none hans
    have HB := Lib.hid hb
    clear hans hb HP
    go_wp2_with fail
    refine (live_any _).mono ?_
    rintro r w2 ⟨rfl, hb⟩
    have HB2 := Lib.hid (HB.out.trans (hb.mono HB.out.size))
    clear hb HB
    go_wp2_with fail
    exact bodyPost_ret (v := .bool true) (by simp [results, Tryd.results7, go_sem]) rfl ⟨rfl, HB2.out⟩
  case pos =>
    obtain ⟨hr1, hr2, hr3, hr4⟩ := print_ok h0
    have HS := Lib.hid (fun c hc => parse_short h0 c hc)
    have hL : 1024 ≤ (printL es).1.length := by rw [hr3, List.length_append, zer_len]; omega
    rw [h0] at HP
    generalize (printL es).1 = l at *
    obtain ⟨L, hLL⟩ : ∃ L, L = l.length := ⟨_, rfl⟩
    rw [← hLL] at HS hL hr4
    have HLL := Lib.hid hLL
    clear hr1 hr2 hr3 h0 hLL
    obtain ⟨c, hc⟩ : ∃ c, c = n % L := ⟨_, rfl⟩
    have hcl : c < L := by rw [hc]; exact Nat.mod_lt _ (by omega)
    have tm : (n : Int).tmod (L : Int) = (c : Int) := by rw [Int.tmod_eq_emod_of_nonneg (by omega), hc]; rfl
    have j0 : (c : Int) < (L : Int) := by omega
    have j1 : (1024 : Int) ≤ (L : Int) := by omega
    have j2 : (L : Int) ≤ 60000 := by omega
    clear hc
    go_enter Tryd.func7, Tryd.ntmps7
    go_wp2_with fail
    refine HP.out.mono ?_
    rintro r w1 ⟨rv, rfl, hans, hb⟩
    obtain ⟨g, cc, rfl, hcc, hcc2, hrd⟩ := ans_slice hans (by intro q; have := HLL.out; rw [q] at this; simp at this; omega) (by have := HLL.out; omega)
    rw [← HLL.out] at hcc ⊢
    have HB := Lib.hid hb
    have hrd2 := rd_sub hrd 0 c cc (by have := HLL.out; omega) (by omega)
    rw [Nat.zero_add, show fld l (0, c) = l.take c from rfl] at hrd2
    have hlc : (l.take c).length = c := by rw [List.length_take]; have := HLL.out; omega
    have HPP := Lib.hid (parse_any w1 ⟨g, 0, none⟩ cc (l.take c) (by rw [hlc]; exact hrd2) (by rw [hlc]; omega) (by rw [hlc]; omega) hcc2 rfl)
    obtain ⟨t, ht, htc⟩ := HS.out c hcl
    rw [ht, hlc] at HPP
    simp only at HPP
    have k0 : (L : Int) ≤ (cc : Int) := by omega
    have k1 : (cc : Int) ≤ 9223372036854775807 := by omega
    have k2 : (t : Int) ≤ (c : Int) := by omega
    have hLn : ((L : Int) == 0) = false := by simp; omega
    clear hans hb HP hrd hrd2 hlc ht HS
    go_wp2_with fail
    refine HPP.out.mono ?_
    rintro r w2 ⟨ov, rfl, hes, hb⟩
    obtain ⟨oa, oc, rfl, _, _⟩ := hes.slice
    have HB2 := Lib.hid (HB.out.trans (hb.mono HB.out.size))
    clear hes hb HB HPP
    rw [show ([] : List EntD).length = 0 from rfl]
    go_wp2_with fail
    refine (live_any _).mono ?_
    rintro r w3 ⟨rfl, hb⟩
    have HB3 := Lib.hid (HB2.out.trans (hb.mono HB2.out.size))
    clear hb HB2
    go_wp2_with fail
    exact bodyPost_ret (v := .bool true) (by simp [results, Tryd.results7, go_sem]) rfl ⟨rfl, HB3.out⟩
end Go.Proofs.YtikhdbdbdldbaaaDoor
