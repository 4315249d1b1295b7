/- The contract of the reference's word, at whatever bytes and place. -/
import Derived.Test.YtkpcmgacjhjllaaDoorDecLaw
import Derived.OwnWalk
namespace Go.Proofs.YtkpcmgacjhjllaaDoor
open Go.RowKit

theorem rd_at {w : World} {a : Option Addr} {c : Nat} {l : List UInt8} (h : RdB w (.slice a l.length c) l) (hpos : 0 < l.length) : ∃ g off, a = some ⟨g, off, none⟩ ∧ l.length ≤ c ∧ ∀ i (hi : i < l.length), w.cell? ⟨g, off + i, none⟩ = some (.int .u8 (n8 l[i])) := by
  rcases h with ⟨hx, h0⟩ | ⟨ad, cap, hx, hle, hc⟩
  · simp at h0; rw [h0] at hpos; simp at hpos
  · simp only [Value.slice.injEq] at hx
    obtain ⟨g, off, e, _⟩ := hc 0 (vB l[0]) (by simp [hpos])
    refine ⟨g, off, by rw [hx.1, e], by rw [hx.2.2]; simpa using hle, fun i hi => ?_⟩
    obtain ⟨g', off', e', hcell⟩ := hc i (vB l[i]) (by simp [hi])
    rw [e] at e'
    cases e'
    exact hcell
theorem rd_sub {w : World} {g off : Nat} {l : List UInt8} (h : ∀ i (hi : i < l.length), w.cell? ⟨g, off + i, none⟩ = some (.int .u8 (n8 l[i]))) (p n cap : Nat) (hn : p + n ≤ l.length) (hc : n ≤ cap) :
    RdB w (.slice (some ⟨g, off + p, none⟩) n cap) ((l.drop p).take n) := by
  have hl : ((l.drop p).take n).length = n := by rw [List.length_take, List.length_drop]; omega
  refine .inr ⟨_, cap, by rw [List.length_map, hl], by rw [List.length_map, hl]; exact hc, fun j u hj => ⟨g, off + p, rfl, ?_⟩⟩
  have hjn : j < n := by
    have := (List.getElem?_eq_some_iff.1 hj).1
    have h3 : j < ((l.drop p).take n).length := by simpa using this
    omega
  have h1 := h (p + j) (by omega)
  rw [Nat.add_assoc, h1]
  rw [← hj, List.getElem?_map, List.getElem?_take, if_pos hjn, List.getElem?_drop, List.getElem?_eq_getElem (by omega)]
  rfl

set_option maxRecDepth 100000 in
set_option maxHeartbeats 2000000 in
theorem wordAt_any (w : World) (v : Value) (l : List UInt8) (hv : RdB w v l) (hl : l.length ≤ 140737488355328) (p : Nat) (hp : p ≤ 140737488356000) :
    Calls Tryd.prog 26 #[v, .int .i64 p] w fun e w' => w = w' ∧
      ((decW (l.drop p) = none ∧ e = .returned (.tuple #[.string ⟨#[]⟩, .int .i64 0, .bool false])) ∨
       ∃ x r, decW (l.drop p) = some (x, r) ∧ p + 1 + x.length ≤ l.length ∧ r = l.drop (p + 1 + x.length) ∧ e = .returned (.tuple #[.string ⟨x.toArray⟩, .int .i64 ((p + 1 + x.length : Nat) : Int), .bool (isWord x)])) := by
  obtain ⟨a, c, rfl, _⟩ := hv.open
  by_cases hpl : p < l.length
  · obtain ⟨g, off, rfl, hlc, hcell⟩ := rd_at hv (by omega)
    have hpz : (p : Int) < l.length := by omega
    have hd : l.drop p = l[p] :: l.drop (p + 1) := List.drop_eq_getElem_cons hpl
    have hb := hcell p hpl
    have hdl : (l.drop (p + 1)).length = l.length - (p + 1) := List.length_drop
    have hx255 := l[p].toNat_lt
    have hn8 : n8 l[p] = (l[p].toNat : Int) := rfl
    have HC := Lib.hid hcell
    obtain ⟨n, hn⟩ : ∃ n, n = l[p].toNat := ⟨_, rfl⟩
    rw [hn8, ← hn] at hb
    have hsub := fun hn hc => rd_sub (l := l) HC.out (p + 1) n (c - (p + 1)) hn hc
    have HS := Lib.hid hsub
    have hdw : decW (l.drop p) = if (l.drop (p + 1)).length < n then none else some ((l.drop (p + 1)).take n, (l.drop (p + 1)).drop n) := by rw [hd]; simp only [decW, ← hn]
    rw [← hn] at hx255
    have HDW := Lib.hid hdw
    have w1 : IntKind.i64.wrap ((p : Int) + 1) = p + 1 := IntWalk.i64_in _ (by omega)
    have w2 : IntKind.i64.wrap ((p : Int) + 1 + n) = p + 1 + n := IntWalk.i64_in _ (by omega)
    have w3 : IntKind.i64.wrap (n : Int) = n := IntWalk.i64_in _ (by omega)
    clear hcell hd hv hsub hdw hn hn8
    by_cases hok : p + 1 + n ≤ l.length
    · have hokz : ¬ (l.length : Int) < (p : Int) + 1 + n := by omega
      have hdw := HDW.out
      rw [if_neg (by omega)] at hdw
      have hT : ((l.drop (p + 1)).take n).length = n := by rw [List.length_take]; omega
      have hdr : (l.drop (p + 1)).drop n = l.drop (p + 1 + n) := by rw [List.drop_drop]
      rw [hdr] at hdw
      have htx := run_text (HS.out hok (by omega))
      have HDW2 := Lib.hid hdw; have HTL := Lib.hid hT
      have hts : (⟨((l.drop (p + 1)).take n).toArray⟩ : ByteArray).size ≤ 9223372036854775807 := by
        show ((l.drop (p + 1)).take n).length ≤ _
        omega
      have z1 : (0 : Int) ≤ (p : Int) + 1 := by omega
      have z2 : (p : Int) + 1 ≤ (p : Int) + 1 + n := by omega
      have z3 : (p : Int) + 1 + n ≤ c := by omega
      have z4 : ((p : Int) + 1).toNat = p + 1 := by omega
      have z5 : ((p : Int) + 1 + n).toNat = p + 1 + n := by omega
      have z6 : p + 1 + n - (p + 1) = n := by omega
      clear hdw hT hdr HS HDW hdl
      generalize (l.drop (p + 1)).take n = T at *
      by_cases hcp : c = p + 1
      · have hn0 : n = 0 := by omega
        have hTn : T = [] := List.eq_nil_of_length_eq_zero (by rw [HTL.out]; exact hn0)
        have htx0 : (convert 25 9 (.slice (some ⟨g, off, none⟩) n 0)).run Tryd.prog w = .ok (.string ⟨T.toArray⟩) w := by
          rw [hn0, hTn]
          exact run_text (l := []) (.inr ⟨⟨g, off, none⟩, 0, by simp, by simp, fun j u h => by simp at h⟩)
        have hcz : (c : Int) = p + 1 := by omega
        subst hcp
        clear htx hTn hn0
        go_enter Tryd.func26, Tryd.ntmps26
        go_wp2_with fail
        refine (iswordref_any ⟨T.toArray⟩ hts w).mono ?_
        rintro e w2 ⟨rfl, rfl⟩
        go_wp2
        exact bodyPost_ret (results_tmp3 rfl _ _ _) rfl ⟨rfl, .inr ⟨T, _, HDW2.out, by rw [HTL.out]; exact hok, by rw [HTL.out], by rw [HTL.out]; rfl⟩⟩
      · have hcz : ¬ (c : Int) = p + 1 := by omega
        have hcp2 : ¬ p + 1 = c := fun e => hcp e.symm
        go_enter Tryd.func26, Tryd.ntmps26
        go_wp2_with fail
        refine (iswordref_any ⟨T.toArray⟩ hts w).mono ?_
        rintro e w2 ⟨rfl, rfl⟩
        go_wp2
        exact bodyPost_ret (results_tmp3 rfl _ _ _) rfl ⟨rfl, .inr ⟨T, _, HDW2.out, by rw [HTL.out]; exact hok, by rw [HTL.out], by rw [HTL.out]; rfl⟩⟩
    · have hokz : (l.length : Int) < (p : Int) + 1 + n := by omega
      have hdw := HDW.out
      rw [if_pos (by omega)] at hdw
      have HDW2 := Lib.hid hdw
      clear hdw HS HDW hdl
      go_enter Tryd.func26, Tryd.ntmps26
      go_wp2_with fail
      exact bodyPost_ret (results_tmp3 rfl _ _ _) rfl ⟨rfl, .inl ⟨HDW2.out, rfl⟩⟩
  · have hpz : ¬ (p : Int) < l.length := by omega
    have hdw : decW (l.drop p) = none := by rw [List.drop_of_length_le (by omega)]; rfl
    have HDW2 := Lib.hid hdw
    clear hdw hv
    go_enter Tryd.func26, Tryd.ntmps26
    go_wp2_with fail
    exact bodyPost_ret (results_tmp3 rfl _ _ _) rfl ⟨rfl, .inl ⟨HDW2.out, rfl⟩⟩
end Go.Proofs.YtkpcmgacjhjllaaDoor
