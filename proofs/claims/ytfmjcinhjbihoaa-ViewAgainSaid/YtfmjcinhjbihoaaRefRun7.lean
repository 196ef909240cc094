import Derived.Test.YtfmjcinhjbihoaaPut7v
namespace Go.Proofs.Ytfmjcinhjbihoaa
open Go.RowKit Go.Bas SorPlain Go.Sor IMap_ VIn VPlain MapI
namespace View

/-- what Run tells, without more -/
def RunSaid (base : Nat) (R : Int ⊕ M) (e : Ending) (w' : World) : Prop :=
  (∃ m r, R = .inr m ∧ e = .returned (.tuple #[.int .i64 (-1), r]) ∧ Told w' base m r) ∨ (∃ a, R = .inl a ∧ e = .returned (.tuple #[.int .i64 a, .slice none 0 0]))

set_option maxRecDepth 100000 in
set_option maxHeartbeats 8000000 in
theorem refrun_any {w : World} {sk sl : Value} {kn : M} {l : List Ins} (h : Pairs w w.heap.size sk kn) (hs : VIn.Steps w w.heap.size sl l) (hn : l.length ≤ 900) :
    Calls Try.prog 11 #[sk, sl] w fun e w' => RunSaid w.heap.size (play (first kn) l false 0 [] []).1 e w' ∧ Below w.heap.size w w' := by
  obtain ⟨A, c, rfl, hm, _⟩ := id hs
  obtain ⟨n, hnn⟩ : ∃ n, l.length = n := ⟨_, rfl⟩
  have HN := Lib.hid hnn
  obtain ⟨g, hg⟩ : ∃ g, w.heap.size = g := ⟨_, rfl⟩
  rw [hg] at h hs ⊢
  rw [hnn] at hn hs ⊢
  obtain ⟨R, hR⟩ : ∃ R, (play (first kn) l false 0 [] []).1 = R := ⟨_, rfl⟩
  rw [hR]
  have H0 : Hid (∃ qs, (play (first kn) (l.drop 0) false 0 [] qs).1 = R) := ⟨[], hR⟩
  have HK : Hid (∀ w', Below g w w' → Pairs w' g sk kn) := fun w' hb => h.below hb
  have HS : Hid (∀ w', Below g w w' → VIn.Steps w' g (.slice A n c) l) := fun w' hb => hs.below hb
  have T0 : Hid (Told w g [] (.slice none 0 0)) := ⟨none, 0, rfl, by simpa [vals, flat] using World.ownsRow_nil _ _ _ _⟩
  have B0 : Hid (Below g w w) := Below.refl _ _
  have R0 : Hid (Rising ([] : M)) := by simp [Hid, Rising, keys]
  have hgw : g ≤ w.heap.size := by omega
  clear h hs hR hnn hm
  go_enter Try.func11, Try.ntmps11
  go_wp2
  go_loopw [8, 6, 7] (fun u8 u6 u7 wr => ∃ (k : Nat) (x : Int) (m : M), k ≤ n + 1 ∧ u8 = .int .i64 k ∧ u6 = .int .i64 x ∧ m.length ≤ k ∧ Hid (Told wr g m u7) ∧ Hid (Rising m) ∧ Hid (Below g w wr) ∧ Hid (∃ qs, (play (first kn) (l.drop k) false x m qs).1 = R)) (fun u8 _ _ _ => n + 1 - (intOf u8).toNat)
  case atStart => exact ⟨0, 0, [], by omega, rfl, rfl, by simp, T0, R0, B0, H0⟩
  case round =>
    clear H0 T0 R0 B0
    obtain ⟨k, x, m, hk, rfl, rfl, hml, HT, HRs, HB, HP⟩ := hrel
    have hsz := HB.out.size
    have hgr : g ≤ wr.heap.size := by omega
    by_cases hlt : k < n
    · have hlen : k < l.length := by rw [HN.out]; exact hlt
      obtain ⟨b, off, rfl, hbB, c0, c1, c2⟩ := step_row (HS.out _ HB.out) hlen
      have hdr : l.drop k = l[k] :: l.drop (k + 1) := List.drop_eq_getElem_cons hlen
      obtain ⟨⟨kd, a, bb⟩, hi⟩ : ∃ i, l[k] = i := ⟨_, rfl⟩
      rw [hi] at c0 c1 c2 hdr
      dsimp only at c0 c1 c2
      obtain ⟨qs, hq⟩ := HP.out
      rw [hdr] at hq
      have hpl : Hid (R = (if kd = 0 then (match rd (first kn) m a with | some y => play (first kn) (l.drop (k + 1)) false y m (asks m a qs) | none => (.inl a, qs))
          else if kd = 1 then play (first kn) (l.drop (k + 1)) false x (VPlain.wr m a bb) qs
          else if kd = 2 then play (first kn) (l.drop (k + 1)) false x (VPlain.wr m a x) qs
          else if kd = 3 then (match rd (first kn) m x with | some y => play (first kn) (l.drop (k + 1)) false y m (asks m x qs) | none => (.inl x, qs))
          else if kd = 4 then play (first kn) (l.drop (k + 1)) (decide (x = bb)) x m qs
          else play (first kn) (l.drop (k + 1)) false x m qs).1) := hq.symm
      clear hq hdr hi hlen HP
      have HTP : Hid (Pairs wr wr.heap.size u7 m) := HT.out.pairs
      by_cases h0 : kd = 0
      · subst h0
        rw [if_pos rfl] at hpl
        have WD := Lib.hid (word_any ((HK.out _ HB.out).mono hgr) HTP.out a)
        rw [word_rd kn HRs.out] at WD
        cases hrd : rd (first kn) m a with
        | some y =>
          rw [hrd] at WD hpl
          have hp2 : Hid (∃ qs, (play (first kn) (l.drop (k + 1)) false y m qs).1 = R) := ⟨_, hpl.out.symm⟩
          clear hrd hpl
          go_wp2_with (first
            | (go_at_call 24; refine WD.out.mono ?_; rintro e w' ⟨rfl, rfl⟩))
          go_roundw
          case rel => exact ⟨k + 1, y, m, by omega, by go_num, rfl, by omega, HT, HRs, HB, hp2⟩
          case measure => simp [intOf]; omega
        | none =>
          rw [hrd] at WD hpl
          have hp2 : Hid (R = .inl a) := hpl.out
          clear hrd hpl
          go_wp2_with (first
            | (go_at_call 24; refine WD.out.mono ?_; rintro e w' ⟨rfl, rfl⟩))
          go_ret2
          exact ⟨.inr ⟨a, hp2.out, rfl⟩, HB.out⟩
      rw [if_neg h0] at hpl
      by_cases h1 : kd = 1
      · subst h1
        rw [if_pos rfl] at hpl
        have hp2 : Hid (∃ qs, (play (first kn) (l.drop (k + 1)) false x (VPlain.wr m a bb) qs).1 = R) := ⟨_, hpl.out.symm⟩
        have HW2 := Lib.hid (wr_rising HRs.out a bb)
        have hwl := wr_length m a bb
        by_cases ha : a < 0
        · have e : VPlain.wr m a bb = m := by unfold VPlain.wr; rw [if_pos ha]
          rw [e] at hp2
          clear e hpl HW2 hwl
          go_wp2
          go_roundw
          case rel => exact ⟨k + 1, x, m, by omega, by go_num, rfl, by omega, HT, HRs, HB, hp2⟩
          case measure => simp [intOf]; omega
        · have e : VPlain.wr m a bb = put a bb m := by unfold VPlain.wr; rw [if_neg ha]
          rw [e] at hp2 HW2 hwl
          have PT := Lib.hid (refput_any HTP.out (by omega) a bb)
          rw [rp_put a bb HRs.out] at PT
          clear e hpl
          go_wp2_with (first
            | (go_at_call 25; refine PT.out.mono ?_; rintro e w2 ⟨r, rfl, t2, b2⟩))
          have T2 := Lib.hid (t2.low hgr)
          have B2 : Hid (Below g w w2) := HB.out.trans (b2.mono hgr)
          clear t2 b2 PT
          go_roundw
          case rel => exact ⟨k + 1, x, put a bb m, by omega, by go_num, rfl, by omega, T2, HW2, B2, hp2⟩
          case measure => simp [intOf]; omega
      rw [if_neg h1] at hpl
      by_cases h2 : kd = 2
      · subst h2
        rw [if_pos rfl] at hpl
        have hp2 : Hid (∃ qs, (play (first kn) (l.drop (k + 1)) false x (VPlain.wr m a x) qs).1 = R) := ⟨_, hpl.out.symm⟩
        have HW2 := Lib.hid (wr_rising HRs.out a x)
        have hwl := wr_length m a x
        by_cases ha : a < 0
        · have e : VPlain.wr m a x = m := by unfold VPlain.wr; rw [if_pos ha]
          rw [e] at hp2
          clear e hpl HW2 hwl
          go_wp2
          go_roundw
          case rel => exact ⟨k + 1, x, m, by omega, by go_num, rfl, by omega, HT, HRs, HB, hp2⟩
          case measure => simp [intOf]; omega
        · have e : VPlain.wr m a x = put a x m := by unfold VPlain.wr; rw [if_neg ha]
          rw [e] at hp2 HW2 hwl
          have PT := Lib.hid (refput_any HTP.out (by omega) a x)
          rw [rp_put a x HRs.out] at PT
          clear e hpl
          go_wp2_with (first
            | (go_at_call 25; refine PT.out.mono ?_; rintro e w2 ⟨r, rfl, t2, b2⟩))
          have T2 := Lib.hid (t2.low hgr)
          have B2 : Hid (Below g w w2) := HB.out.trans (b2.mono hgr)
          clear t2 b2 PT
          go_roundw
          case rel => exact ⟨k + 1, x, put a x m, by omega, by go_num, rfl, by omega, T2, HW2, B2, hp2⟩
          case measure => simp [intOf]; omega
      rw [if_neg h2] at hpl
      by_cases h3 : kd = 3
      · subst h3
        rw [if_pos rfl] at hpl
        have WD := Lib.hid (word_any ((HK.out _ HB.out).mono hgr) HTP.out x)
        rw [word_rd kn HRs.out] at WD
        cases hrd : rd (first kn) m x with
        | some y =>
          rw [hrd] at WD hpl
          have hp2 : Hid (∃ qs, (play (first kn) (l.drop (k + 1)) false y m qs).1 = R) := ⟨_, hpl.out.symm⟩
          clear hrd hpl
          go_wp2_with (first
            | (go_at_call 24; refine WD.out.mono ?_; rintro e w' ⟨rfl, rfl⟩))
          go_roundw
          case rel => exact ⟨k + 1, y, m, by omega, by go_num, rfl, by omega, HT, HRs, HB, hp2⟩
          case measure => simp [intOf]; omega
        | none =>
          rw [hrd] at WD hpl
          have hp2 : Hid (R = .inl x) := hpl.out
          clear hrd hpl
          go_wp2_with (first
            | (go_at_call 24; refine WD.out.mono ?_; rintro e w' ⟨rfl, rfl⟩))
          go_ret2
          exact ⟨.inr ⟨x, hp2.out, rfl⟩, HB.out⟩
      rw [if_neg h3] at hpl
      by_cases h4 : kd = 4
      · subst h4
        rw [if_pos rfl] at hpl
        by_cases hxb : x = bb
        · subst hxb
          have hp2 : Hid (∃ qs, (play (first kn) (l.drop (k + 2)) false x m qs).1 = R) := by
            have := hpl.out
            simp only [decide_true, play_skip] at this
            exact ⟨_, this.symm⟩
          clear hpl
          go_wp2
          go_roundw
          case rel => exact ⟨k + 2, x, m, by omega, by go_num, rfl, by omega, HT, HRs, HB, hp2⟩
          case measure => simp [intOf]; omega
        · have hp2 : Hid (∃ qs, (play (first kn) (l.drop (k + 1)) false x m qs).1 = R) := by
            have := hpl.out
            rw [decide_eq_false hxb] at this
            exact ⟨_, this.symm⟩
          clear hpl
          go_wp2
          go_roundw
          case rel => exact ⟨k + 1, x, m, by omega, by go_num, rfl, by omega, HT, HRs, HB, hp2⟩
          case measure => simp [intOf]; omega
      · rw [if_neg h4] at hpl
        have hp2 : Hid (∃ qs, (play (first kn) (l.drop (k + 1)) false x m qs).1 = R) := ⟨_, hpl.out.symm⟩
        clear hpl
        go_wp2
        go_roundw
        case rel => exact ⟨k + 1, x, m, by omega, by go_num, rfl, by omega, HT, HRs, HB, hp2⟩
        case measure => simp [intOf]; omega
    · have hd : l.drop k = [] := List.drop_eq_nil_of_le (by rw [HN.out]; omega)
      have hp2 : Hid (R = .inr m) := by
        obtain ⟨qs, hq⟩ := HP.out
        rw [hd] at hq
        exact hq.symm
      clear hd HP
      go_wp2
      go_ret2
      exact ⟨.inl ⟨m, _, hp2.out, rfl, HT.out⟩, HB.out⟩

end View
end Go.Proofs.Ytfmjcinhjbihoaa
