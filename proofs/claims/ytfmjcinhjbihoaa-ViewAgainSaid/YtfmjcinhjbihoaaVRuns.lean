import Derived.Test.YtfmjcinhjbihoaaRefRun7
namespace Go.Proofs.Ytfmjcinhjbihoaa
open Go.RowKit Go.Bas SorPlain Go.Sor IMap_ VIn VPlain MapI
namespace VRuns
open View

set_option maxRecDepth 100000 in
set_option maxHeartbeats 8000000 in
theorem walk_in {w : World} {sk sl : Value} {kn : M} {l : List Ins} (h : Pairs w w.heap.size sk kn) (hk : PIn kn) (hs : VIn.Steps w w.heap.size sl l) (hl : SIn l) :
    Calls Try.prog 3 #[sk, sl] w fun e w' => e = .returned (.bool true) ∧ Below w.heap.size w w' := by
  obtain ⟨A1, c1, rfl, m1, _⟩ := id h
  obtain ⟨A2, c2, rfl, m2, _⟩ := id hs
  obtain ⟨n1, hn1⟩ : ∃ n, kn.length = n := ⟨_, rfl⟩
  obtain ⟨n2, hn2⟩ : ∃ n, l.length = n := ⟨_, rfl⟩
  obtain ⟨g, hg⟩ : ∃ g, w.heap.size = g := ⟨_, rfl⟩
  have H := Lib.hid h; have HS := Lib.hid hs; have HKI := Lib.hid hk; have HLI := Lib.hid hl
  have HN1 := Lib.hid hn1; have HN2 := Lib.hid hn2
  rw [hg] at H HS ⊢
  rw [hn1] at H m1 ⊢
  rw [hn2] at HS m2 ⊢
  have m1 : n1 ≤ 9223372036854775807 := m1
  have m2 : n2 ≤ 9223372036854775807 := m2
  clear h hs hk hl hn1 hn2
  by_cases hbig : 100 < n1 ∨ 200 < n2
  · rcases hbig with hb | hb
    · go_enter Try.func3, Try.ntmps3
      go_wp2_with (first
        | (go_at_call 9; refine (lives_any _).mono ?_; rintro e w2 ⟨rfl, hb2⟩))
      go_ret
      exact ⟨rfl, hb2.mono (by omega)⟩
    · by_cases hb1 : 100 < n1
      · go_enter Try.func3, Try.ntmps3
        go_wp2_with (first
          | (go_at_call 9; refine (lives_any _).mono ?_; rintro e w2 ⟨rfl, hb2⟩))
        go_ret
        exact ⟨rfl, hb2.mono (by omega)⟩
      · go_enter Try.func3, Try.ntmps3
        go_wp2_with (first
          | (go_at_call 9; refine (lives_any _).mono ?_; rintro e w2 ⟨rfl, hb2⟩))
        go_ret
        exact ⟨rfl, hb2.mono (by omega)⟩
  · have hb1 : ¬ 100 < n1 := fun h => hbig (.inl h)
    have hb2 : ¬ 200 < n2 := fun h => hbig (.inr h)
    clear hbig
    have RA : Hid (Calls Try.prog 10 #[.slice A1 n1 c1, .slice A2 n2 c2] w fun e w' => RunTold g (play (first kn) l false 0 [] []).1 e w' ∧ Below g w w') := by
      have := runs_any (w := w) (hg ▸ H.out) HKI.out (by rw [HN1.out]; omega) (hg ▸ HS.out) HLI.out (by rw [HN2.out]; omega)
      rwa [hg] at this
    have RB : Hid (∀ w', Below g w w' → Calls Try.prog 11 #[.slice A1 n1 c1, .slice A2 n2 c2] w' fun e w'' => RunSaid w'.heap.size (play (first kn) l false 0 [] []).1 e w'' ∧ Below w'.heap.size w' w'') := fun w' hb =>
      refrun_any ((H.out.below hb).mono (by have := hb.size; omega)) ((HS.out.below hb).mono (by have := hb.size; omega)) (by rw [HN2.out]; omega)
    obtain ⟨R, hR⟩ : ∃ R, (play (first kn) l false 0 [] []).1 = R := ⟨_, rfl⟩
    rw [hR] at RA RB
    clear hR
    cases R with
    | inr m =>
      go_enter Try.func3, Try.ntmps3
      go_upto_region 5 with (first
        | (go_at_call 10; refine RA.out.mono ?_; rintro e w2 ⟨⟨m', r, q1, rfl, q2, _⟩ | ⟨_, q1, _⟩, q3⟩
           rotate_left
           · cases q1
           obtain rfl : m = m' := by simpa using q1)
        | (go_at_call 11; refine (RB.out _ q3).mono ?_; rintro e w3 ⟨⟨m', r', q4, rfl, q5⟩ | ⟨_, q4, _⟩, q6⟩
           rotate_left
           · cases q4
           obtain rfl : m = m' := by simpa using q4))
      have hs6 := q6.size
      have SM := Lib.hid (same_any ((q2.pairs.below q6).mono hs6) q5.pairs)
      have B3 : Hid (Below g w w3) := q3.trans (q6.mono (by have := q3.size; omega))
      clear q2 q3 q5 q6 RA RB q1 q4
      have hgw : g ≤ w3.heap.size := by have := B3.out.size; omega
      simp only [decide_true] at SM
      go_wp2_with (first
        | (go_at_call 12; refine SM.out.mono ?_; rintro e w4 ⟨rfl, j, rfl⟩)
        | (go_at_call 9; refine (lives_any _).mono ?_; rintro e w5 ⟨rfl, hb5⟩))
      go_ret
      exact ⟨rfl, (B3.out.trans (drewN_below _ _ _)).trans (hb5.mono hgw)⟩
    | inl a =>
      go_enter Try.func3, Try.ntmps3
      go_upto_region 5 with (first
        | (go_at_call 10; refine RA.out.mono ?_; rintro e w2 ⟨⟨_, _, q1, _⟩ | ⟨a', q1, rfl⟩, q3⟩
           · cases q1
           obtain rfl : a = a' := by simpa using q1)
        | (go_at_call 11; refine (RB.out _ q3).mono ?_; rintro e w3 ⟨⟨_, _, q4, _⟩ | ⟨a', q4, rfl⟩, q6⟩
           · cases q4
           obtain rfl : a = a' := by simpa using q4))
      have SM := Lib.hid (same_any (no_pairs w3 0) (no_pairs w3 0))
      have B3 : Hid (Below g w w3) := q3.trans (q6.mono (by have := q3.size; omega))
      clear q3 q6 RA RB q1 q4
      have hgw : g ≤ w3.heap.size := by have := B3.out.size; omega
      simp only [decide_true] at SM
      go_wp2_with (first
        | (go_at_call 12; refine SM.out.mono ?_; rintro e w4 ⟨rfl, j, rfl⟩)
        | (go_at_call 9; refine (lives_any _).mono ?_; rintro e w5 ⟨rfl, hb5⟩))
      go_ret
      exact ⟨rfl, (B3.out.trans (drewN_below _ _ _)).trans (hb5.mono hgw)⟩

set_option maxRecDepth 100000 in
theorem walk {H : Type} {enc : TypeId × Value → H} {base : Nat} {spare : Nat → Bool} {held : Bool} {d0 d1 : DataW H} {p0 p1 : List MemPlace} {r : Reach} {b0 : Nat} (v0 v1 : Value) (w : World)
    (hv0 : Value.okWide Try.prog w r b0 22 v0) (t0 : DataW.Trod enc Try.prog w base spare held 22 v0 d0 p0)
    (hv1 : Value.okWide Try.prog w r b0 23 v1) (t1 : DataW.Trod enc Try.prog w base spare held 23 v1 d1 p1) :
    Calls Try.prog 3 #[v0, v1] w fun e w' => e = .returned (.bool true) ∧ Below w.heap.size w w' := by
  obtain ⟨kn, h1, h2⟩ := known_of hv0 t0
  obtain ⟨l, h3, h4⟩ := steps_of hv1 t1
  exact walk_in h1 h2 h3 h4

end VRuns
end Go.Proofs.Ytfmjcinhjbihoaa
