import Derived.Test.YtllohpkbnopbfaaRows
import Derived.Test.YtllohpkbnopbfaaSorHeap
import Derived.Deep.QuietTactic
import Derived.BigQuiet
import Derived.IntWalk
import Derived.Deep.RegionLaw
import Derived.StillTailTactics
namespace Go.Proofs.Ytllohpkbnopbfaa
open Go.RowKit Go.Bas SorPlain Go.Sor
namespace SorStr

theorem place_nil (b : Nat) (k : Int) (w : World) (hb : w.cell? ⟨b, 0, none⟩ = some (.slice none 0 0)) :
    Calls Try.prog 33 #[.pointer (some ⟨b, 0, none⟩), .int .i64 k] w fun e w' => e = .returned (.tuple #[.int .i64 0, .bool false]) ∧ ∃ m, w' = w.drewN m := by
  have hd : decide ((0 : Nat) < 0) = false := by decide
  go_enter Try.func33, Try.ntmps33
  go_wp2
  go_quiet (fail)
  go_wp2
  refine wp_loop_rounds 1 ?_
  rw [rounds_succ]
  go_wp2
  go_quiet (fail)
  go_wp2
  go_ret2
  exact ⟨rfl, _, World.drewN_drewN _ _ _⟩

set_option maxHeartbeats 400000 in
theorem place_some (b g c : Nat) (ks : List Int) (k : Int) (w : World) (hn : ks.length ≤ 4611686018427387904)
    (hb : w.cell? ⟨b, 0, none⟩ = some (.slice (some ⟨g, 0, none⟩) ks.length c))
    (hc : ∀ i, i < ks.length → w.cell? ⟨g, i * 2, none⟩ = some (.int .i64 (ks.getD i 0)))
    (hs : ks.Pairwise (· < ·)) :
    Calls Try.prog 33 #[.pointer (some ⟨b, 0, none⟩), .int .i64 k] w fun e w' => e = .returned (.tuple #[.int .i64 (lower k ks), .bool (decide (lower k ks < ks.length ∧ ks.getD (lower k ks) 0 = k))]) ∧ ∃ m, w' = w.drewN m := by
  have HS := Lib.hid hs
  clear hs
  go_enter Try.func33, Try.ntmps33
  go_wp2
  go_quiet (fail)
  go_wp2
  go_loop [6, 7, 8] (fun lo hi mid => ∃ l h : Nat, l ≤ h ∧ h ≤ ks.length ∧ lo = .int .i64 l ∧ hi = .int .i64 h ∧ Hid ((∀ i, i < l → ks.getD i 0 < k) ∧ (∀ i, h ≤ i → i < ks.length → k ≤ ks.getD i 0))) (fun lo hi mid => (intOf hi - intOf lo).toNat)
  case atStart => exact ⟨0, ks.length, by omega, by omega, rfl, rfl, by constructor <;> (intros; omega)⟩
  case round =>
    obtain ⟨l, h, hlh, hh, rfl, rfl, H⟩ := hrel
    by_cases hlt : l < h
    · obtain ⟨x, hx⟩ : ∃ x, ks.getD (l + (h - l) / 2) 0 = x := ⟨_, rfl⟩
      have hm := hc (l + (h - l) / 2) (by omega)
      rw [hx] at hm
      have HX := Lib.hid hx
      clear hx hc
      by_cases hxk : x < k
      · go_wp2
        go_round
        case rel => exact ⟨l + (h - l) / 2 + 1, h, by omega, by omega, by go_num, rfl, mid_lo HS.out (by omega) (by omega) HX.out hxk H.out⟩
        case measure => simp [intOf]; omega
      · go_wp2
        go_round
        case rel => exact ⟨l, l + (h - l) / 2, by omega, by omega, rfl, by congr 1; omega, mid_hi HS.out (by omega) (by omega) HX.out hxk H.out⟩
        case measure => simp [intOf]; omega
    · obtain rfl : l = h := by omega
      obtain rfl := lower_unique HS.out hh H.out.1 (fun hl => H.out.2 _ (Nat.le_refl _) hl)
      have hr := fun hi => hc (lower k ks) hi
      clear hc
      by_cases hi : lower k ks < ks.length
      · have hr := hr hi
        go_wp2
        go_quiet (fail)
        go_wp2
        go_ret2
        refine ⟨?_, _, World.drewN_drewN _ _ _⟩
        simp [hi]
        exact Bool.eq_iff_iff.2 (by simp)
      · clear hr
        have hd : decide (lower k ks < ks.length) = false := by simpa using hi
        go_wp2
        go_quiet (fail)
        go_wp2
        go_ret2
        refine ⟨?_, _, World.drewN_drewN _ _ _⟩
        simp [hi]

/-- place, of any map -/
theorem place_any {w : World} {b : Nat} {v : Value} {xs : List (Int × Value)} (h : IsMap 56 58 w b v xs) (hn : xs.length ≤ 4611686018427387904) (k : Int) :
    Calls Try.prog 33 #[.pointer (some ⟨b, 0, none⟩), .int .i64 k] w fun e w' => e = .returned (.tuple #[.int .i64 (place k xs), .bool (has k xs)]) ∧ ∃ m, w' = w.drewN m := by
  rcases h.shape with ⟨rfl, rfl⟩ | ⟨g, cap, cur, rfl, hgb, hg, hc, hcm, hcs, ht⟩
  · exact place_nil b k w h.head
  · have := place_some b g cap (keys xs) k w (by simpa using hn) (by simpa using h.head) (fun i hi => row_cell hg ht (flat_key xs i (by simpa using hi))) h.asc
    exact this

/-- Len -/
theorem len_any {w : World} {b : Nat} {v : Value} {xs : List (Int × Value)} (h : IsMap 56 58 w b v xs) :
    Calls Try.prog 15 #[.pointer (some ⟨b, 0, none⟩)] w fun e w' => e = .returned (.int .i64 xs.length) ∧ w = w' := by
  have hv := h.head
  obtain ⟨ad, cap, rfl⟩ : ∃ ad cap, v = .slice ad xs.length cap := by
    rcases h.shape with ⟨rfl, rfl⟩ | ⟨g, cap, cur, rfl, _⟩
    · exact ⟨_, _, rfl⟩
    · exact ⟨_, _, rfl⟩
  clear h
  go_enter Try.func15, Try.ntmps15
  go_wp2
  go_ret
  exact ⟨rfl, rfl⟩

/-- Get -/
theorem get_any {w : World} {b : Nat} {v : Value} {xs : List (Int × Value)} (h : IsMap 56 58 w b v xs) (hn : xs.length ≤ 4611686018427387904) (k : Int) :
    Calls Try.prog 16 #[.pointer (some ⟨b, 0, none⟩), .int .i64 k] w fun e w' => e = .returned (.tuple #[getD k (.string { data := #[] }) xs, .bool (has k xs)]) ∧ ∃ m, w' = w.drewN m := by
  have hp := place_any h hn k
  by_cases hh : has k xs = true
  · have hi := has_lt hh
    obtain ⟨hs, rfl⟩ | ⟨g, cap, cur, rfl, hgb, hg, hc, hcm, hcs, ht⟩ := h.shape
    · simp at hi
    have hb := h.head
    have hv := row_cell hg ht (flat_val xs _ hi)
    have hr : getD k (.string { data := #[] }) xs = (xs.map (·.2)).getD (place k xs) undef := by
      unfold getD; rw [if_pos hh]; simp [hi]
    obtain ⟨u, hu⟩ : ∃ u, (xs.map (·.2)).getD (place k xs) undef = u := ⟨_, rfl⟩
    rw [hr, hu]; rw [hu] at hv; rw [hh] at hp ⊢
    obtain ⟨i, hii⟩ : ∃ i, place k xs = i := ⟨_, rfl⟩
    obtain ⟨n, hnn⟩ : ∃ n, xs.length = n := ⟨_, rfl⟩
    rw [hii] at hp hi hv
    rw [hnn] at hi hb hn
    clear hr hu hh hii hnn h hg hc hcs ht
    go_enter Try.func16, Try.ntmps16
    go_wp2_with (go_at_call 33; refine hp.mono ?_; rintro e w' ⟨rfl, m, rfl⟩)
    go_ret2
    exact ⟨rfl, _, rfl⟩
  · have hf : has k xs = false := by simpa using hh
    have hr : getD k (.string { data := #[] }) xs = .string { data := #[] } := by unfold getD; rw [if_neg hh]
    rw [hr]; rw [hf] at hp ⊢
    obtain ⟨i, hii⟩ : ∃ i, place k xs = i := ⟨_, rfl⟩
    rw [hii] at hp
    clear hr hh hf hii h hn
    go_enter Try.func16, Try.ntmps16
    go_wp2_with (go_at_call 33; refine hp.mono ?_; rintro e w' ⟨rfl, m, rfl⟩)
    go_ret2
    exact ⟨rfl, _, rfl⟩

/-- At, inside -/
theorem at_some {w : World} {b : Nat} {v : Value} {xs : List (Int × Value)} (h : IsMap 56 58 w b v xs) (hn : xs.length ≤ 4611686018427387904) (i : Nat) (hi : i < xs.length) :
    Calls Try.prog 14 #[.pointer (some ⟨b, 0, none⟩), .int .i64 i] w fun e w' => e = .returned (.tuple #[.int .i64 ((keys xs).getD i 0), (xs.map (·.2)).getD i undef, .bool true]) ∧ ∃ m, w' = w.drewN m := by
  have hl := len_any h
  obtain ⟨hs, rfl⟩ | ⟨g, cap, cur, rfl, hgb, hg, hc, hcm, hcs, ht⟩ := h.shape
  · simp at hi
  have hb := h.head
  have hk := row_cell hg ht (flat_key xs _ hi)
  have hv := row_cell hg ht (flat_val xs _ hi)
  obtain ⟨u, hu⟩ : ∃ u, (xs.map (·.2)).getD i undef = u := ⟨_, rfl⟩
  obtain ⟨x, hx⟩ : ∃ x, (keys xs).getD i 0 = x := ⟨_, rfl⟩
  have hx' : (xs.map (·.1)).getD i 0 = x := hx
  rw [hu] at hv ⊢; rw [hx'] at hk; rw [hx]
  obtain ⟨n, hnn⟩ : ∃ n, xs.length = n := ⟨_, rfl⟩
  rw [hnn] at hi hb hn hl
  clear hu hx hx' hnn h hg hc hcs ht
  have hlt : ¬ n ≤ i := by omega
  go_enter Try.func14, Try.ntmps14
  go_wp2_with (go_at_call 15; refine hl.mono ?_; rintro e w' ⟨rfl, rfl⟩)
  go_quiet (fail)
  go_wp2
  go_ret3
  exact ⟨rfl, _, rfl⟩

/-- At, outside -/
theorem at_none {w : World} {b : Nat} {v : Value} {xs : List (Int × Value)} (h : IsMap 56 58 w b v xs) (hn : xs.length ≤ 4611686018427387904) (i : Int) (hi : i < 0 ∨ (xs.length : Int) ≤ i) :
    Calls Try.prog 14 #[.pointer (some ⟨b, 0, none⟩), .int .i64 i] w fun e w' => e = .returned (.tuple #[.int .i64 0, .string { data := #[] }, .bool false]) ∧ ∃ m, w' = w.drewN m := by
  have hl := len_any h
  obtain ⟨n, hnn⟩ : ∃ n, xs.length = n := ⟨_, rfl⟩
  rw [hnn] at hi hn hl
  clear hnn h
  by_cases h0 : i < 0
  · clear hi
    go_enter Try.func14, Try.ntmps14
    go_wp2
    go_ret3
    exact ⟨rfl, 0, rfl⟩
  · have hi : (n : Int) ≤ i := by omega
    go_enter Try.func14, Try.ntmps14
    go_wp2_with (go_at_call 15; refine hl.mono ?_; rintro e w' ⟨rfl, rfl⟩)
    go_ret3
    exact ⟨rfl, 0, rfl⟩

end SorStr
end Go.Proofs.Ytllohpkbnopbfaa
