/- wal.Open over what a crash has left: a log again, with all pages of the group, or none. -/
import Derived.Test.YtcblfkojkdaepaaGreatAgain
namespace Go.Proofs.YtcblfkojkdaepaaGreat
open Go.RowKit Go.ChangeMaps

theorem Hed.none {R : Value → List UInt8 → Prop} {s M : Nat} {old new : Nat → List UInt8} {D : List Value} (h : Hed R s M [] old new D) : Emp R s M old D :=
  ⟨h.len, .inr h.head, fun n hn => (h.page n hn).elim id (fun ⟨hm, _⟩ => by cases hm)⟩
theorem reopen_any (w : World) {g bs bm s M : Nat} {S' : List Value} {ns : List Nat} {old new : Nat → List UInt8} (D : DiskAt w g bs bm S' [] S' []) (hI : Inv (Dat [g, bs, bm] w) s M ns old new S') (hF : S'.length ≤ 4096) (hM : S'.length = s + 1 + M) (hM0 : 0 < M) (hs : s ≤ 100) (hs0 : 0 < s) (hl : ns.length ≤ s) (hb : ∀ n ∈ ns, n < M) (hr : ns.Pairwise (· < ·)) (hon : ∀ n, n ∉ ns → old n = new n) (h5 : ∀ n ∈ ns, (new n).length = 512) :
    Calls Tryz.prog 5 #[.pointer (some ⟨g, 0, none⟩), .int .i64 (s : Int)] w fun e w' => ∃ p g' bs' bm' ops pg, e = .returned (.tuple #[.pointer (some ⟨p, 0, none⟩), .int .i64 0]) ∧ LogOk w' p g' bs' bm' s M S' ops ns old new pg ∧ (pg = old ∨ pg = new) ∧ Below w.heap.size w w' := by
  have DP : DiskP w g bs bm S' [] := ⟨[], D, rfl⟩
  have hR : ∀ {w' : World} {p g' bs' bm' : Nat}, Opened w w' p g' bs' bm' s → ∀ v l, Dat [g, bs, bm] w v l → Dat [g', bs', bm'] w' v l := fun O v l h =>
    (RdN.to h (fun k hk => .inr (by have := O.new; simp at hk; omega))).fr (Fr.of_below (S := []) O.below) (by simp)
  have empCase : ∀ pg, (pg = old ∨ pg = new) → Emp (Dat [g, bs, bm] w) s M pg S' → Calls Tryz.prog 5 #[.pointer (some ⟨g, 0, none⟩), .int .i64 (s : Int)] w fun e w' => ∃ p g' bs' bm' ops pg, e = .returned (.tuple #[.pointer (some ⟨p, 0, none⟩), .int .i64 0]) ∧ LogOk w' p g' bs' bm' s M S' ops ns old new pg ∧ (pg = old ∨ pg = new) ∧ Below w.heap.size w w' := by
    intro pg hpg hE
    obtain ⟨v, l, hv, hd, hh⟩ : ∃ v l, S'[0]? = some v ∧ Dat [g, bs, bm] w v l ∧ (l = zBytes ∧ ([] : List Nat) = [] ∨ l = hdB []) := by
      rcases hE.head with ⟨v, a, b⟩ | ⟨v, a, b⟩
      · exact ⟨v, _, a, b, .inl ⟨rfl, rfl⟩⟩
      · exact ⟨v, _, a, b, .inr rfl⟩
    refine (open_any w DP hF hM hM0 hs hs0 [] new (by simp) (by simp) List.Pairwise.nil v l hv hd hh (by simp) (by simp)).mono ?_
    rintro e w' ⟨p, g', bs', bm', rfl, O, h⟩
    rcases h with ⟨_, D'⟩ | ⟨h, _⟩
    · exact ⟨p, g', bs', bm', [], pg, rfl, ⟨O.log, D', O.apart, Playable.nil _, allGood_nil (good_still (hI.mono (hR O))), hE.mono (hR O), rfl, by simp⟩, hpg, O.below⟩
    · exact absurd rfl h
  rcases hI with hE | hE | hH
  · exact empCase old (.inl rfl) hE
  · exact empCase new (.inr rfl) hE
  · by_cases hn0 : ns = []
    · subst hn0
      exact empCase old (.inl rfl) hH.none
    · obtain ⟨v, hv, hd⟩ := hH.head
      refine (open_any w DP hF hM hM0 hs hs0 ns new hl hb hr v (hdB ns) hv hd (.inr rfl) (fun i n hi => hH.log i n hi) h5).mono ?_
      rintro e w' ⟨p, g', bs', bm', rfl, O, h⟩
      rcases h with ⟨h, _⟩ | ⟨_, vs, vh, hvl, hvs, hvd, hvh, D'⟩
      · exact absurd h hn0
      · obtain ⟨h1, P', h2, h3⟩ := home_good (hH.mono (hR O)) hvl hl hr hvd hon hvh
        have hpl : play S' (homeOps s ns vs vh) = (P', []) := h2
        refine ⟨p, g', bs', bm', homeOps s ns vs vh, new, rfl, ⟨O.log, D', O.apart, ?_, h1, ?_, ?_, ?_⟩, .inr rfl, O.below⟩
        · exact playable_home (Playable.nil S') rfl hM ns hr hb vs vh hvs
        · rw [hpl]; exact h3
        · rw [hpl]
        · simp [homeOps, mkW]; omega
end Go.Proofs.YtcblfkojkdaepaaGreat
/- Commit of a group, or of none: a log again that may crash at any op. -/
namespace Go.Proofs.YtcblfkojkdaepaaGreat
open Go.RowKit Go.ChangeMaps

/-- The page that is written. -/
def pgB (q : UInt8) : List UInt8 := zBytes.set 3 (q ||| 1)
theorem pgB_len (q : UInt8) : (pgB q).length = 512 := by unfold pgB; rw [List.length_set]; exact zBytes_len
/-- What the pages are when the group is there. -/
def newB (q : UInt8) (ns : List Nat) (n : Nat) : List UInt8 := if n ∈ ns then pgB q else zBytes
theorem rising_of (ks : List Nat) (h : ks.Nodup) : ∃ ns : List Nat, ns.Perm ks ∧ ns.Pairwise (· < ·) := by
  refine ⟨ks.mergeSort (fun a b => decide (a ≤ b)), List.mergeSort_perm _ _, ?_⟩
  have h1 : (ks.mergeSort (fun a b => decide (a ≤ b))).Pairwise (fun a b => (decide (a ≤ b)) = true) := List.pairwise_mergeSort (fun a b c h1 h2 => by simp only [decide_eq_true_eq] at *; omega) (fun a b => by simp only [Bool.or_eq_true, decide_eq_true_eq]; omega) ks
  have h2 : (ks.mergeSort (fun a b => decide (a ≤ b))).Nodup := (List.mergeSort_perm ks _).nodup_iff.2 h
  refine (h1.and h2).imp fun {a b} h => ?_
  have := h.1
  have := h.2
  simp only [decide_eq_true_eq] at *
  omega
theorem commit_ok (w : World) {p g bs bm : Nat} {F : List Value} {q : UInt8} (L : LogAt w p g 12) (D : DiskP w g bs bm F []) (hp : p ∉ [g, bs, bm]) (hF : F.length = 40) (hE : Emp (Dat [g, bs, bm] w) 12 27 (fun _ => zBytes) F) (pv : Value) (ps : List (Nat × Value)) (hps : RdPg w pv ps) (hl : ps.length ≤ 12) (hn : ∀ x ∈ ps, x.1 < 27) (hnd : (ps.map (·.1)).Nodup) (hd : ∀ x ∈ ps, Dat [g, bs, bm] w x.2 (pgB q)) :
    Calls Tryz.prog 28 #[.pointer (some ⟨p, 0, none⟩), pv] w fun e w' => e = .returned (.int .i64 0) ∧ Fr [g, bs, bm] w w' ∧ ∃ ns ops pg, ns.Perm (ps.map (·.1)) ∧ ns.Pairwise (· < ·) ∧ LogOk w' p g bs bm 12 27 F ops ns (fun _ => zBytes) (newB q ns) pg ∧ (pg = (fun _ => zBytes) ∨ pg = newB q ns) := by
  by_cases h0 : ps = []
  · subst h0
    obtain ⟨a, c, rfl, _⟩ := hps
    refine (commit_none w L a c).mono ?_
    rintro e w' ⟨rfl, hf⟩
    have hR : ∀ v l, Dat [g, bs, bm] w v l → Dat [g, bs, bm] w' v l := fun v l h => RdN.fr h hf (by simp)
    exact ⟨rfl, hf.mono (by simp), [], [], fun _ => zBytes, by simp, List.Pairwise.nil, ⟨L.fr hf (by simp), D.fr hf (by simp), hp, Playable.nil _, allGood_nil (good_still (.inl (hE.mono hR))), hE.mono hR, rfl, by simp⟩, .inl rfl⟩
  · obtain ⟨ns, hns, hr⟩ := rising_of _ hnd
    have hin : ∀ x ∈ ps, newB q ns x.1 = pgB q := fun x hx => by
      unfold newB
      rw [if_pos (hns.mem_iff.2 (List.mem_map.2 ⟨x, hx, rfl⟩))]
    have hnl : ns.length = ps.length := by have := hns.length_eq; simpa using this
    have hnb : ∀ n ∈ ns, n < 27 := fun n h => by
      obtain ⟨x, h1, h2⟩ := List.mem_map.1 (hns.mem_iff.1 h)
      have := hn x h1; omega
    refine (commit_any w (M := 27) L D hp rfl (by omega) hF (by omega) (by simp) pv ps hps h0 hl hn hnd (newB q ns) (fun x hx => by rw [hin x hx]; exact hd x hx) (fun x hx => by rw [hin x hx]; exact pgB_len q) ns hns hr).mono ?_
    rintro e w' ⟨rfl, hf, us, uh, vs, vh, hul, hvl, hsl, hud, huh, hvd, hvh, D'⟩
    have hR : ∀ v l, Dat [g, bs, bm] w v l → Dat [g, bs, bm] w' v l := fun v l h => RdN.fr h hf (fun k hk => .inl hk)
    obtain ⟨h1, P', h2, h3⟩ := commit_good (ns := ns) (new := newB q ns) (hE.mono hR) hul hvl (by omega) hr hud hvd (fun n hn => by unfold newB; rw [if_neg hn]) huh hvh
    have hpl : play F (comOps 12 ns us uh vs vh) = (P', []) := h2
    refine ⟨rfl, hf, ns, comOps 12 ns us uh vs vh, newB q ns, hns, hr, ⟨L.fr hf hp, D', hp, ?_, h1, ?_, ?_, ?_⟩, .inr rfl⟩
    · exact playable_com (Playable.nil F) rfl hF ns (by omega) hr hnb us uh vs vh hsl
    · rw [hpl]; exact h3
    · rw [hpl]
    · simp [comOps, homeOps, mkW]; omega
end Go.Proofs.YtcblfkojkdaepaaGreat
