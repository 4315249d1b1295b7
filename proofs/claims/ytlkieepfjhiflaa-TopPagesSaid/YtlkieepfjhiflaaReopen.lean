/- wal.Open over what a crash has left: a log again, with all pages of the group, or none. -/
import Derived.Test.YtlkieepfjhiflaaAgain
namespace Go.Proofs.Ytlkieepfjhiflaa
open Go.RowKit Go.ChangeMaps

theorem Hed.none {R : Value → List UInt8 → Prop} {s M : Nat} {old new : Nat → List UInt8} {D : List Value} (h : Hed R s M [] old new D) : Emp R s M old D :=
  ⟨h.len, .inr h.head, fun n hn => (h.page n hn).elim id (fun ⟨hm, _⟩ => by cases hm)⟩
theorem reopen_any (w : World) {g bs bm s M : Nat} {S' : List Value} {ns : List Nat} {old new : Nat → List UInt8} (D : DiskAt w g bs bm S' [] S' []) (hI : Inv (Dat [g, bs, bm] w) s M ns old new S') (hF : S'.length ≤ 4096) (hM : S'.length = s + 1 + M) (hM0 : 0 < M) (hs : s ≤ 100) (hs0 : 0 < s) (hl : ns.length ≤ s) (hb : ∀ n ∈ ns, n < M) (hr : ns.Pairwise (· < ·)) (hon : ∀ n, n ∉ ns → old n = new n) (h5 : ∀ n ∈ ns, (new n).length = 512) :
    Calls Try.prog 20 #[.pointer (some ⟨g, 0, none⟩), .int .i64 (s : Int)] w fun e w' => ∃ p g' bs' bm' ops pg, e = .returned (.tuple #[.pointer (some ⟨p, 0, none⟩), .int .i64 0]) ∧ LogOk w' p g' bs' bm' s M S' ops ns old new pg ∧ (pg = old ∨ pg = new) ∧ Below w.heap.size w w' := by
  have DP : DiskP w g bs bm S' [] := ⟨[], D, rfl⟩
  have hR : ∀ {w' : World} {p g' bs' bm' : Nat}, Opened w w' p g' bs' bm' s → ∀ v l, Dat [g, bs, bm] w v l → Dat [g', bs', bm'] w' v l := fun O v l h =>
    (RdN.to h (fun k hk => .inr (by have := O.new; simp at hk; omega))).fr (Fr.of_below (S := []) O.below) (by simp)
  have empCase : ∀ pg, (pg = old ∨ pg = new) → Emp (Dat [g, bs, bm] w) s M pg S' → Calls Try.prog 20 #[.pointer (some ⟨g, 0, none⟩), .int .i64 (s : Int)] w fun e w' => ∃ p g' bs' bm' ops pg, e = .returned (.tuple #[.pointer (some ⟨p, 0, none⟩), .int .i64 0]) ∧ LogOk w' p g' bs' bm' s M S' ops ns old new pg ∧ (pg = old ∨ pg = new) ∧ Below w.heap.size w w' := by
    intro pg hpg hE
    obtain ⟨v, l, hv, hd, hh⟩ : ∃ v l, S'[0]? = some v ∧ Dat [g, bs, bm] w v l ∧ (l = zBytes ∧ ([] : List Nat) = [] ∨ l = hdB []) := by
      rcases hE.head with ⟨v, a, b⟩ | ⟨v, a, b⟩
      · exact ⟨v, _, a, b, .inl ⟨rfl, rfl⟩⟩
      · exact ⟨v, _, a, b, .inr rfl⟩
    refine (open_any w DP hF hM hM0 hs hs0 [] new (by simp) (by simp) List.Pairwise.nil v l hv hd hh (by simp) (by simp)).mono ?_
    rintro e w' ⟨p, g', bs', bm', rfl, O, h⟩
    rcases h with ⟨_, D'⟩ | ⟨h, _⟩
    · exact ⟨p, g', bs', bm', [], pg, rfl, ⟨O.log, D', O.apart, Playable.nil _, allGood_nil (good_still (hI.mono (hR O))), hE.mono (hR O), rfl, by simp⟩, hpg, O.below⟩
    · exact absurd rfl h
  rcases hI with hE | hE | hH
  · exact empCase old (.inl rfl) hE
  · exact empCase new (.inr rfl) hE
  · by_cases hn0 : ns = []
    · subst hn0
      exact empCase old (.inl rfl) hH.none
    · obtain ⟨v, hv, hd⟩ := hH.head
      refine (open_any w DP hF hM hM0 hs hs0 ns new hl hb hr v (hdB ns) hv hd (.inr rfl) (fun i n hi => hH.log i n hi) h5).mono ?_
      rintro e w' ⟨p, g', bs', bm', rfl, O, h⟩
      rcases h with ⟨h, _⟩ | ⟨_, vs, vh, hvl, hvs, hvd, hvh, D'⟩
      · exact absurd h hn0
      · obtain ⟨h1, P', h2, h3⟩ := home_good (hH.mono (hR O)) hvl hl hr hvd hon hvh
        have hpl : play S' (homeOps s ns vs vh) = (P', []) := h2
        refine ⟨p, g', bs', bm', homeOps s ns vs vh, new, rfl, ⟨O.log, D', O.apart, ?_, h1, ?_, ?_, ?_⟩, .inr rfl, O.below⟩
        · exact playable_home (Playable.nil S') rfl hM ns hr hb vs vh hvs
        · rw [hpl]; exact h3
        · rw [hpl]
        · simp [homeOps, mkW]; omega
end Go.Proofs.Ytlkieepfjhiflaa
