import Derived.Test.YtfmjcinhjbihoaaDo
/- words that came in; whether two are the same -/
namespace Go.Proofs.Ytfmjcinhjbihoaa
open Go.RowKit Go.Bas SorPlain Go.Sor IMap_ VIn VPlain MapI
open Go.WideShapes Go.Deep Go.ChangeShapes
namespace View

set_option maxRecDepth 100000 in
set_option maxHeartbeats 4000000 in
theorem ints_same {w : World} {Ba Bb : Nat} {sa sb : Value} {a b : List Int} (ha : Words w Ba sa a) (hb : Words w Bb sb b) :
    Calls Try.prog 21 #[sa, sb] w fun e w' => e = .returned (.bool (decide (a = b))) ∧ ∃ m, w' = w.drewN m := by
  obtain ⟨Aa, ca, rfl, ma, _⟩ := id ha
  obtain ⟨Ab, cb, rfl, mb, _⟩ := id hb
  obtain ⟨n, hn⟩ : ∃ n, a.length = n := ⟨_, rfl⟩
  obtain ⟨n2, hn2⟩ : ∃ n, b.length = n := ⟨_, rfl⟩
  have HN := Lib.hid hn; have HN2 := Lib.hid hn2
  rw [hn] at ma ha ⊢
  rw [hn2] at mb hb ⊢
  have HA := Lib.hid ha; have HB := Lib.hid hb
  have ma : n ≤ 9223372036854775807 := ma
  have mb : n2 ≤ 9223372036854775807 := mb
  obtain ⟨r, hr⟩ : ∃ r, decide (a = b) = r := ⟨_, rfl⟩
  rw [hr]
  have HR := Lib.hid hr
  clear ha hb hn hn2 hr
  by_cases hne : n = n2
  · subst hne
    go_enter Try.func21, Try.ntmps21
    go_wp2
    go_loopw [5] (fun u5 wr => ∃ k : Nat, k ≤ n ∧ u5 = .int .i64 k ∧ Hid (a.take k = b.take k) ∧ ∃ m, Hid (wr = w.drewN m)) (fun u5 _ => n - (intOf u5).toNat)
    case atStart => exact ⟨0, by omega, rfl, rfl, 0, rfl⟩
    case round =>
      obtain ⟨k, hk, rfl, HT, m, HW⟩ := hrel
      by_cases hlt : k < n
      · have hla : k < a.length := by rw [HN.out]; exact hlt
        have hlb : k < b.length := by rw [HN2.out]; exact hlt
        obtain ⟨ba, oa, rfl, _, rowa⟩ := word_row HA.out hla
        obtain ⟨bb, ob, rfl, _, rowb⟩ := word_row HB.out hlb
        have e1 : a.take (k + 1) = a.take k ++ [a[k]] := List.take_succ_eq_append_getElem hla
        have e2 : b.take (k + 1) = b.take k ++ [b[k]] := List.take_succ_eq_append_getElem hlb
        have hab : a = b → a[k] = b[k] := fun e => by subst e; rfl
        obtain ⟨x1, h1⟩ : ∃ p, a[k] = p := ⟨_, rfl⟩
        obtain ⟨x2, h2⟩ : ∃ p, b[k] = p := ⟨_, rfl⟩
        rw [h1] at rowa e1 hab
        rw [h2] at rowb e2 hab
        have E1 := Lib.hid e1; have E2 := Lib.hid e2; have HAB := Lib.hid hab
        have c1 : wr.cell? ⟨ba, oa + k, none⟩ = some (.int .i64 x1) := by rw [HW.out]; exact rowa
        have c3 : wr.cell? ⟨bb, ob + k, none⟩ = some (.int .i64 x2) := by rw [HW.out]; exact rowb
        clear h1 h2 e1 e2 hab rowa rowb hla hlb
        by_cases hx : x1 = x2
        · subst hx
          go_wp2
          go_quiet (fail)
          go_wp2
          go_roundw
          case rel => exact ⟨k + 1, by omega, by go_num, by rw [Hid, E1.out, E2.out, HT.out], m + nq, by rw [Hid, HW.out, World.drewN_drewN]⟩
          case measure => simp [intOf]; omega
        · have hrf : Hid (r = false) := by
            rw [Hid, ← HR.out]
            exact decide_eq_false (fun e => hx (HAB.out e))
          go_wp2
          go_quiet (fail)
          go_wp2
          go_ret
          exact ⟨by rw [hrf.out]; rfl, m + nq, by rw [HW.out, World.drewN_drewN]⟩
      · obtain rfl : n = k := by omega
        have e : a = b := by
          have h1 := HT.out
          rwa [List.take_of_length_le (by rw [HN.out]; exact Nat.le_refl _), List.take_of_length_le (by rw [HN2.out]; exact Nat.le_refl _)] at h1
        have hrt : Hid (r = true) := by rw [Hid, ← HR.out]; exact decide_eq_true e
        clear e
        go_wp2
        go_ret
        exact ⟨by rw [hrt.out]; rfl, m, HW.out⟩
  · have hrf : Hid (r = false) := by
      rw [Hid, ← HR.out]
      exact decide_eq_false (fun e => hne (by rw [← HN.out, ← HN2.out, e]))
    go_enter Try.func21, Try.ntmps21
    go_wp2
    go_ret
    exact ⟨by rw [hrf.out]; rfl, 0, rfl⟩

theorem no_words (w : World) (B : Nat) : Words w B (.slice none 0 0) [] := ⟨none, 0, rfl, Nat.zero_le _, fun h => by simp at h⟩

set_option maxRecDepth 100000 in
theorem words_in {H : Type} {enc : TypeId × Value → H} {w : World} {base : Nat} {spare : Nat → Bool} {held : Bool} {d : DataW H} {p : List MemPlace} {A : Option Addr} {n c : Nat}
    (h : DataW.Trod enc Try.prog w base spare held 42 (.slice A n c) d p) : ∃ l : List Int, Words w w.heap.size (.slice A n c) l ∧ WIn l := by
  obtain ⟨fuel, hf⟩ := h
  rcases open_slice (cs := [.slice A n c]) Try.underlying42 hf with ⟨hcs, _⟩ | ⟨ad, len, cap, m, k, D, Pl, hcs, _, hl, hm, hmm, _, hi⟩
  · injection hcs with hcs
    injection hcs with e1 e2 e3
    subst e1 e2 e3
    exact ⟨[], no_words _ _, fun p hp => by simp at hp⟩
  · injection hcs with hcs
    injection hcs with e1 e2 e3
    subst e1 e2 e3
    by_cases hn : n = 0
    · subst hn
      exact ⟨[], ⟨_, _, rfl, Nat.zero_le _, fun h => absurd h (by simp)⟩, fun p hp => by simp at hp⟩
    · have hmn : n ≤ m := by rw [hmm]; split <;> omega
      have key : ∀ i, ∃ x : Int, In64 x ∧ (i < n → w.cell? (ad.add i) = some (.int .i64 x)) := fun i => by
        by_cases hlt : i < n
        · obtain ⟨cs', hc, ht'⟩ := hi i (by omega)
          rw [show Try.prog.cellsOf 3 = 1 by kernel_rfl] at hc
          obtain ⟨x0, e0, _, f0⟩ := DataW.trod_int Try.underlying3 ht'
          subst e0
          obtain ⟨_, hcl, hat⟩ := World.cells?_some hc
          have := hat 0 (by simp)
          exact ⟨x0, in64_of_wf f0, fun _ => by rw [Nat.mul_one] at this; simpa [Addr.add] using this⟩
        · exact ⟨0, by unfold In64; simp, fun h => absurd h hlt⟩
      obtain ⟨b, off, spot⟩ := ad
      have h0 := (Classical.choose_spec (key 0)).2 (by omega)
      have hs : spot = none := by
        have h00 : ∃ u, w.cell? ⟨b, off, spot⟩ = some u := ⟨_, by simpa [Addr.add] using h0⟩
        obtain ⟨u, h00⟩ := h00
        cases spot with
        | none => rfl
        | some x =>
          simp [World.cell?] at h00
          split at h00 <;> simp at h00
      subst hs
      have hbl : b < w.heap.size := by
        have := World.block_lt_of_cell? w _ h0
        simpa [Addr.add] using this
      refine ⟨(List.range n).map fun i => Classical.choose (key i), ⟨_, _, by simp; rfl, by simp; omega, fun _ => ⟨b, off, rfl, hbl, fun i hi => ?_⟩⟩, fun p hp => ?_⟩
      · have hi' : i < n := by simpa using hi
        simp only [List.getElem_map, List.getElem_range]
        have := (Classical.choose_spec (key i)).2 hi'
        rw [← this]
        unfold Addr.add
        split
        · rename_i h0; rw [h0]; rfl
        · rfl
      · obtain ⟨i, _, rfl⟩ := List.mem_map.1 hp
        exact (Classical.choose_spec (key i)).1
set_option maxRecDepth 100000 in
theorem words_of {H : Type} {enc : TypeId × Value → H} {w : World} {base : Nat} {spare : Nat → Bool} {held : Bool} {v : Value} {d : DataW H} {p : List MemPlace} {r : Reach} {b0 : Nat}
    (hv : Value.okWide Try.prog w r b0 42 v) (h : DataW.Trod enc Try.prog w base spare held 42 v d p) : ∃ l, Words w w.heap.size v l ∧ WIn l := by
  obtain ⟨a0, n0, c0, rfl⟩ := okWide_slice Try.underlying42 hv
  exact words_in h

end View
end Go.Proofs.Ytfmjcinhjbihoaa
