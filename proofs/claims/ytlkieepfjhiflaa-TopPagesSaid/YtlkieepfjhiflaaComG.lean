/- Commit of a group upon any pages: the pages are there at the end; nothing waits. -/
import Derived.Test.YtlkieepfjhiflaaComOk
namespace Go.Proofs.Ytlkieepfjhiflaa
open Go.RowKit Go.ChangeMaps

theorem commit_gen (w : World) {p g bs bm s M : Nat} {F : List Value} {old : Nat → List UInt8} (L : LogAt w p g s) (D : DiskP w g bs bm F []) (hp : p ∉ [g, bs, bm]) (hF : F.length ≤ 4096) (hM : F.length = s + 1 + M) (hs : s ≤ 100) (hE : Emp (Dat [g, bs, bm] w) s M old F) (pv : Value) (ps : List (Nat × Value)) (hps : RdPg w pv ps) (hl : ps.length ≤ s) (hn : ∀ x ∈ ps, x.1 < M) (hnd : (ps.map (·.1)).Nodup) (new : Nat → List UInt8) (hon : ∀ n, n ∉ ps.map (·.1) → old n = new n) (hd : ∀ x ∈ ps, Dat [g, bs, bm] w x.2 (new x.1)) (h5 : ∀ x ∈ ps, (new x.1).length = 512) :
    Calls Try.prog 21 #[.pointer (some ⟨p, 0, none⟩), pv] w fun e w' => e = .returned (.int .i64 0) ∧ Fr [g, bs, bm] w w' ∧ ∃ ops, LogAt w' p g s ∧ DiskP w' g bs bm F ops ∧ Playable F ops ∧ (play F ops).2 = [] ∧ ops.length ≤ 1000 ∧ Emp (Dat [g, bs, bm] w') s M new (play F ops).1 := by
  by_cases h0 : ps = []
  · subst h0
    obtain ⟨a, c, rfl, _⟩ := hps
    refine (commit_none w L a c).mono ?_
    rintro e w' ⟨rfl, hf⟩
    have hR : ∀ v l, Dat [g, bs, bm] w v l → Dat [g, bs, bm] w' v l := fun v l h => RdN.fr h hf (by simp)
    have e : old = new := funext fun n => hon n (by simp)
    exact ⟨rfl, hf.mono (by simp), [], L.fr hf (by simp), D.fr hf (by simp), Playable.nil _, rfl, by simp, e ▸ hE.mono hR⟩
  · obtain ⟨ns, hns, hr⟩ := rising_of _ hnd
    have hnl : ns.length = ps.length := by have := hns.length_eq; simpa using this
    have hnb : ∀ n ∈ ns, n < M := fun n h => by
      obtain ⟨x, h1, h2⟩ := List.mem_map.1 (hns.mem_iff.1 h)
      have := hn x h1; omega
    refine (commit_any w (M := M) L D hp rfl hF hM hs (by simp) pv ps hps h0 hl hn hnd new hd h5 ns hns hr).mono ?_
    rintro e w' ⟨rfl, hf, us, uh, vs, vh, hul, hvl, hsl, hud, huh, hvd, hvh, D'⟩
    have hR : ∀ v l, Dat [g, bs, bm] w v l → Dat [g, bs, bm] w' v l := fun v l h => RdN.fr h hf (fun k hk => .inl hk)
    obtain ⟨_, P', h2, h3⟩ := commit_good (ns := ns) (new := new) (hE.mono hR) hul hvl (by omega) hr hud hvd (fun n hn => hon n (fun h => hn (hns.mem_iff.2 h))) huh hvh
    have hpl : play F (comOps s ns us uh vs vh) = (P', []) := h2
    refine ⟨rfl, hf, comOps s ns us uh vs vh, L.fr hf hp, D', ?_, ?_, ?_, ?_⟩
    · exact playable_com (Playable.nil F) rfl hM ns (by omega) hr hnb us uh vs vh hsl
    · rw [hpl]
    · simp [comOps, homeOps, mkW]; omega
    · rw [hpl]; exact h3
end Go.Proofs.Ytlkieepfjhiflaa
