import Derived.Test.YtfmjcinhjbihoabVMem
import Derived.Deep.QuietTactic
import Derived.BigQuiet
/- whether words are the same -/
namespace Go.Proofs.Ytfmjcinhjbihoab
open Go.RowKit Go.Bas SorPlain Go.Sor IMap_ VIn VPlain MapI
namespace View

set_option maxRecDepth 100000 in
set_option maxHeartbeats 4000000 in
theorem ints_same {w : World} {Ba Bb : Nat} {sa sb : Value} {a b : List Int} (ha : Words w Ba sa a) (hb : Words w Bb sb b) :
    Calls Try.prog 11 #[sa, sb] w fun e w' => e = .returned (.bool (decide (a = b))) ∧ ∃ m, w' = w.drewN m := by
  obtain ⟨Aa, ca, rfl, ma, _⟩ := id ha
  obtain ⟨Ab, cb, rfl, mb, _⟩ := id hb
  obtain ⟨n, hn⟩ : ∃ n, a.length = n := ⟨_, rfl⟩
  obtain ⟨n2, hn2⟩ : ∃ n, b.length = n := ⟨_, rfl⟩
  have HN := Lib.hid hn; have HN2 := Lib.hid hn2
  rw [hn] at ma ha ⊢
  rw [hn2] at mb hb ⊢
  have HA := Lib.hid ha; have HB := Lib.hid hb
  have ma : n ≤ 9223372036854775807 := ma
  have mb : n2 ≤ 9223372036854775807 := mb
  obtain ⟨r, hr⟩ : ∃ r, decide (a = b) = r := ⟨_, rfl⟩
  rw [hr]
  have HR := Lib.hid hr
  clear ha hb hn hn2 hr
  by_cases hne : n = n2
  · subst hne
    go_enter Try.func11, Try.ntmps11
    go_wp2
    go_loopw [5] (fun u5 wr => ∃ k : Nat, k ≤ n ∧ u5 = .int .i64 k ∧ Hid (a.take k = b.take k) ∧ ∃ m, Hid (wr = w.drewN m)) (fun u5 _ => n - (intOf u5).toNat)
    case atStart => exact ⟨0, by omega, rfl, rfl, 0, rfl⟩
    case round =>
      obtain ⟨k, hk, rfl, HT, m, HW⟩ := hrel
      by_cases hlt : k < n
      · have hla : k < a.length := by rw [HN.out]; exact hlt
        have hlb : k < b.length := by rw [HN2.out]; exact hlt
        obtain ⟨ba, oa, rfl, _, rowa⟩ := word_row HA.out hla
        obtain ⟨bb, ob, rfl, _, rowb⟩ := word_row HB.out hlb
        have e1 : a.take (k + 1) = a.take k ++ [a[k]] := List.take_succ_eq_append_getElem hla
        have e2 : b.take (k + 1) = b.take k ++ [b[k]] := List.take_succ_eq_append_getElem hlb
        have hab : a = b → a[k] = b[k] := fun e => by subst e; rfl
        obtain ⟨x1, h1⟩ : ∃ p, a[k] = p := ⟨_, rfl⟩
        obtain ⟨x2, h2⟩ : ∃ p, b[k] = p := ⟨_, rfl⟩
        rw [h1] at rowa e1 hab
        rw [h2] at rowb e2 hab
        have E1 := Lib.hid e1; have E2 := Lib.hid e2; have HAB := Lib.hid hab
        have c1 : wr.cell? ⟨ba, oa + k, none⟩ = some (.int .i64 x1) := by rw [HW.out]; exact rowa
        have c3 : wr.cell? ⟨bb, ob + k, none⟩ = some (.int .i64 x2) := by rw [HW.out]; exact rowb
        clear h1 h2 e1 e2 hab rowa rowb hla hlb
        by_cases hx : x1 = x2
        · subst hx
          go_wp2
          go_quiet (fail)
          go_wp2
          go_roundw
          case rel => exact ⟨k + 1, by omega, by go_num, by rw [Hid, E1.out, E2.out, HT.out], m + nq, by rw [Hid, HW.out, World.drewN_drewN]⟩
          case measure => simp [intOf]; omega
        · have hrf : Hid (r = false) := by
            rw [Hid, ← HR.out]
            exact decide_eq_false (fun e => hx (HAB.out e))
          go_wp2
          go_quiet (fail)
          go_wp2
          go_ret
          exact ⟨by rw [hrf.out]; rfl, m + nq, by rw [HW.out, World.drewN_drewN]⟩
      · obtain rfl : n = k := by omega
        have e : a = b := by
          have h1 := HT.out
          rwa [List.take_of_length_le (by rw [HN.out]; exact Nat.le_refl _), List.take_of_length_le (by rw [HN2.out]; exact Nat.le_refl _)] at h1
        have hrt : Hid (r = true) := by rw [Hid, ← HR.out]; exact decide_eq_true e
        clear e
        go_wp2
        go_ret
        exact ⟨by rw [hrt.out]; rfl, m, HW.out⟩
  · have hrf : Hid (r = false) := by
      rw [Hid, ← HR.out]
      exact decide_eq_false (fun e => hne (by rw [← HN.out, ← HN2.out, e]))
    go_enter Try.func11, Try.ntmps11
    go_wp2
    go_ret
    exact ⟨by rw [hrf.out]; rfl, 0, rfl⟩

end View
end Go.Proofs.Ytfmjcinhjbihoab
