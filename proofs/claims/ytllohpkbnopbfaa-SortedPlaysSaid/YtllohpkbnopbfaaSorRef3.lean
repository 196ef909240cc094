import Derived.Test.YtllohpkbnopbfaaSorRef2
namespace Go.Proofs.Ytllohpkbnopbfaa
open Go.RowKit Go.Bas SorPlain Go.Sor
namespace SorRef

/-- the answer of Nth -/
def nthV (xs : List (Int × Value)) (i : Int) : Value :=
  if 0 ≤ i ∧ i < xs.length then .tuple #[.int .i64 ((keys xs).getD i.toNat 0), (xs.map (·.2)).getD i.toNat undef, .bool true] else .tuple #[.int .i64 0, .string { data := #[] }, .bool false]

set_option maxRecDepth 100000 in
set_option maxHeartbeats 1000000 in
/-- Nth -/
theorem nth_any {w : World} {b : Nat} {v : Value} {ys xs : List (Int × Value)} (h : IsRef w b v ys) (hs : Same ys xs) (hn : ys.length ≤ 1000) (i : Int) :
    Calls Try.prog 22 #[.pointer (some ⟨b, 0, none⟩), .int .i64 i] w fun e w' => e = .returned (nthV xs i) ∧ ∃ m, w' = w.drewN m := by
  have hb := h.head
  have H := Lib.hid h
  obtain ⟨A, cap, hv, HL⟩ := h.look
  have HS := Lib.hid hs
  have HX : Hid (ys.length = xs.length) := hs.length
  clear h hs
  obtain ⟨n, hnn⟩ : ∃ n, ys.length = n := ⟨_, rfl⟩
  have HN := Lib.hid hnn
  rw [hv, hnn] at hb
  rw [hnn] at hn
  clear hnn hv
  go_enter Try.func22, Try.ntmps22
  go_wp2
  go_loopw [7, 8, 9] (fun i7 i8 i9 wr => ∃ q m : Nat, q ≤ n ∧ i7 = .int .i64 q ∧ Hid (∀ (p : Nat) (hp : p < ys.length), p < q → ((less (ys[p]).1 ys : Nat) : Int) ≠ i) ∧ wr = w.drewN m) (fun i7 _ _ _ => n - (intOf i7).toNat)
  case atStart => exact ⟨0, 0, by omega, rfl, fun p hp h => absurd h (by omega), rfl⟩
  case round =>
    obtain ⟨q, m, hq, rfl, HNO, rfl⟩ := hrel
    by_cases hlt : q < n
    · have hql : q < ys.length := by rw [HN.out]; exact hlt
      obtain ⟨g, rfl, hc1, hc2⟩ := HL.out q hql
      obtain ⟨x, hx⟩ : ∃ x, (ys[q]).1 = x := ⟨_, rfl⟩
      obtain ⟨u, hu⟩ : ∃ x, (ys[q]).2 = x := ⟨_, rfl⟩
      rw [hx] at hc1; rw [hu] at hc2
      have HXX := Lib.hid hx; have HUU := Lib.hid hu
      clear hx hu
      go_wp2
      go_loopw [8, 9] (fun i8 i9 wr => ∃ k m' : Nat, k ≤ n ∧ i9 = .int .i64 k ∧ i8 = .int .i64 (less x (ys.take k)) ∧ wr = w.drewN m') (fun _ i9 _ => n - (intOf i9).toNat)
      case atStart => exact ⟨0, m, by omega, rfl, rfl, rfl⟩
      case round =>
        obtain ⟨k, m', hk, rfl, rfl, rfl⟩ := hrel
        have hle : less x (ys.take k) ≤ k := by
          have := List.countP_le_length (p := fun p : Int × Value => decide (p.1 < x)) (l := ys.take k)
          unfold less; simp at this; omega
        by_cases hlt2 : k < n
        · have hkl : k < ys.length := by rw [HN.out]; exact hlt2
          obtain ⟨g', hg', hd1, _⟩ := HL.out k hkl
          injection hg' with hg'
          injection hg' with hg'
          subst hg'
          obtain ⟨y, hy⟩ : ∃ y, (ys[k]).1 = y := ⟨_, rfl⟩
          rw [hy] at hd1
          have hst := less_take_succ x ys hkl
          rw [hy] at hst
          obtain ⟨c, hc⟩ : ∃ c, less x (ys.take k) = c := ⟨_, rfl⟩
          rw [hc] at hle hst ⊢
          have HC := Lib.hid hc
          clear hy hc
          by_cases hyx : y < x
          · rw [if_pos hyx] at hst
            have HST := Lib.hid hst
            clear hst
            go_wp2
            go_quiet (fail)
            go_wp2
            go_roundw
            case rel => exact ⟨k + 1, m' + nq, by omega, by go_num, by rw [HST.out]; go_num, by simp [World.drewN_drewN]⟩
            case measure => simp [intOf]; omega
          · rw [if_neg hyx, Nat.add_zero] at hst
            have HST := Lib.hid hst
            clear hst
            go_wp2
            go_quiet (fail)
            go_wp2
            go_roundw
            case rel => exact ⟨k + 1, m' + nq, by omega, by go_num, by rw [HST.out]; rfl, by simp [World.drewN_drewN]⟩
            case measure => simp [intOf]; omega
        · obtain rfl : n = k := by omega
          have htk : ys.take n = ys := List.take_of_length_le (by rw [HN.out]; exact Nat.le_refl _)
          rw [htk] at hle ⊢
          clear htk
          obtain ⟨c, hc⟩ : ∃ c, less x ys = c := ⟨_, rfl⟩
          rw [hc] at hle ⊢
          by_cases hci : (c : Int) = i
          · have fin : Hid (nthV xs i = .tuple #[.int .i64 x, u, .bool true]) := by
              obtain ⟨hj, e⟩ := HS.out.nth hql
              rw [HXX.out, hc] at hj
              have e' : ys[q] = xs[c] := by rw [e]; congr 1; rw [HXX.out, hc]
              unfold Hid nthV
              rw [if_pos ⟨by omega, by omega⟩, ← hci]
              have e1 : (xs[c]).1 = x := by rw [← e', HXX.out]
              have e2 : (xs[c]).2 = u := by rw [← e', HUU.out]
              simp [keys, hj, e1, e2]
            clear hc
            subst hci
            go_wp2
            go_quiet (fail)
            go_wp2
            go_ret3
            exact ⟨by rw [fin.out]; rfl, ⟨_, by rw [World.drewN_drewN]⟩⟩
          · have fin : Hid (∀ (p : Nat) (hp : p < ys.length), p < q + 1 → ((less (ys[p]).1 ys : Nat) : Int) ≠ i) := by
              intro p hp hpq
              by_cases e : p = q
              · subst e; rw [HXX.out, hc]; exact hci
              · exact HNO.out p hp (by omega)
            clear hc
            go_wp2
            go_roundw
            case rel => exact ⟨q + 1, m', by omega, by go_num, fin, rfl⟩
            case measure => simp [intOf]; omega
    · obtain rfl : n = q := by omega
      have fin : Hid (nthV xs i = .tuple #[.int .i64 0, .string { data := #[] }, .bool false]) := by
        unfold Hid nthV
        rw [if_neg ?_]
        rintro ⟨h0, h1⟩
        obtain ⟨p, hp, e⟩ := HS.out.ex (j := i.toNat) (by omega)
        have := HNO.out p hp (by rw [HN.out] at hp; exact hp)
        rw [e] at this
        omega
      go_wp2
      go_ret3
      exact ⟨by rw [fin.out]; rfl, _, rfl⟩

end SorRef
end Go.Proofs.Ytllohpkbnopbfaa
