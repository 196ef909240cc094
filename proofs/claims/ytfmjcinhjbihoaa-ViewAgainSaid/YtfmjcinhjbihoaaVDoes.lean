import Derived.Test.YtfmjcinhjbihoaaIntsSame
import Derived.Test.YtfmjcinhjbihoaaRefDo
import Derived.Test.YtfmjcinhjbihoaaVRuns
/- assartlaw07.ViewDoes -/
namespace Go.Proofs.Ytfmjcinhjbihoaa
open Go.RowKit Go.Bas SorPlain Go.Sor IMap_ VIn VPlain MapI
namespace VDoes
open View

theorem prog_any {A : View.Ask} {P : Nat → Prop} {bv bm B c : Nat} {w : World} {s : Value} {l : List Ins} (hc : w.heap[c]? = some (.cells #[s] 23 (0, 0))) (h : VWs A P bv bm true [] [] w) (hs : VIn.Steps w B s l) (hl : SIn l) (hn : l.length ≤ 1000) (hPB : ∀ k, k < B → P k) :
    Calls Try.prog 18 #[.pointer (some ⟨bv, 0, none⟩), .pointer (some ⟨c, 0, none⟩)] w fun e w' => Ran A P bv bm (play A.f l false 0 [] []) e w' ∧ Kept P w w' := by
  have k0 : w.cell? ⟨c, 0, none⟩ = some s := by rw [cell_of_row _ _ _ _ _ _ hc]; rfl
  have PL := Lib.hid (plays_any h hs hl hn hPB)
  clear h hs hl hn hPB hc
  go_enter Try.func18, Try.ntmps18
  go_wp2_with (first
    | (go_at_call 19; refine PL.out.mono ?_; rintro e w2 ⟨⟨m, q1, rfl, q2⟩ | ⟨a, m, q1, rfl, q2⟩, q3⟩))
  · go_end0
    exact ⟨.inl ⟨m, q1, rfl, q2⟩, q3⟩
  · exact ⟨rfl, .inr ⟨a, m, q1, rfl, q2⟩, q3⟩

/-- Do of a small program -/
theorem do_play {w : World} {sw sl : Value} {words : List Int} {l : List Ins} {c : Nat} (h : Words w w.heap.size sw words) (hwi : WIn words) (hwn : words.length ≤ 1000) (hc : w.heap[c]? = some (.cells #[sl] 23 (0, 0)))
    (hs : VIn.Steps w w.heap.size sl l) (hl : SIn l) (hn : l.length ≤ 1000) :
    Calls Try.prog 17 #[sw, .func (.func 18) #[] #[.pointer (some ⟨c, 0, none⟩)]] w fun e w' => DoTold w.heap.size words (play (fW words) l false 0 [] []) e w' ∧ Below w.heap.size w w' := by
  have pe := play_end (fW words) l false 0 [] []
  have pp := play_pos (fW words) l false 0 [] [] ⟨by simp [Rising, keys], by simp⟩
  refine do_any h hwi hwn 18 #[.pointer (some ⟨c, 0, none⟩)] _
    (callFunc_run Try.func18 (by kernel_rfl) (by kernel_rfl))
    (fun A hA bv bm Q w' hQ hb hv => by
      have := prog_any (A := A) (P := Q) (bv := bv) (bm := bm) (B := w.heap.size) (c := c) (w := w') (s := sl) (l := l) (by rw [hb.block c (Array.getElem?_eq_some_iff.1 hc).1]; exact hc) hv (hs.below hb) hl hn (fun k hk => hQ k hk)
      rw [hA] at this
      exact this)
    (fun m hm => ⟨by have := pe.2 m hm; simp at this; omega, pp m hm⟩) pe.1

/-- what Do tells, as a function -/
def ans (words : List Int) (R : (Int ⊕ M) × List Int) : List Int × M × Int :=
  match R.1 with
  | .inl _ => ([], [], 3)
  | .inr m => if ∀ p ∈ m, p.1 < words.length then (putW words m, need words R.2, 0) else ([], [], 3)
theorem told_ans {b : Nat} {words : List Int} {R : (Int ⊕ M) × List Int} {e : Ending} {w : World} (h : DoTold b words R e w) :
    ∃ A n c A' n' c', e = .returned (.tuple #[.slice A n c, .slice A' n' c', .int .i64 (ans words R).2.2]) ∧ Words w w.heap.size (.slice A n c) (ans words R).1 ∧ Pairs w w.heap.size (.slice A' n' c') (ans words R).2.1 ∧
      ((ans words R).2.2 = 0 → TW w b (ans words R).1 (.slice A n c) ∧ View.Told w b (ans words R).2.1 (.slice A' n' c')) := by
  rcases h with ⟨hc1, rfl⟩ | ⟨m1, v1, q1, a1, a2, rfl, a3, a4⟩
  · have e : ans words R = ([], [], 3) := by
      unfold ans
      rcases hc1 with ⟨a, ha⟩ | ⟨m, hm, p, hp, hlt⟩
      · rw [ha]
      · rw [hm]
        exact if_neg (fun h => by have := h p hp; omega)
    rw [e]
    exact ⟨_, _, _, _, _, _, rfl, no_words _ _, no_pairs _ _, fun h => by simp at h⟩
  · have e : ans words R = (putW words m1, need words R.2, 0) := by
      unfold ans
      rw [a1]
      exact if_pos a2
    rw [e]
    obtain ⟨A, c, rfl, _⟩ := id a3
    obtain ⟨A', c', rfl, _⟩ := id a4
    exact ⟨_, _, _, _, _, _, rfl, a3.words, a4.pairs, fun _ => ⟨a3, a4⟩⟩

set_option maxRecDepth 100000 in
set_option maxHeartbeats 8000000 in
theorem walk_in {w : World} {sw sl : Value} {words : List Int} {l : List Ins} (h : Words w w.heap.size sw words) (hk : WIn words) (hs : VIn.Steps w w.heap.size sl l) (hl : SIn l) :
    Calls Try.prog 7 #[sw, sl] w fun e w' => e = .returned (.bool true) ∧ Below w.heap.size w w' := by
  have hmf : ∀ (fn : Fn) (first cap : Array Value) (w : World), (Instr.makeFunc fn first cap).run Try.prog w = .ok (.func fn first cap) w := fun _ _ _ _ => rfl
  obtain ⟨A1, c1, rfl, m1, _⟩ := id h
  obtain ⟨A2, c2, rfl, m2, _⟩ := id hs
  obtain ⟨n1, hn1⟩ : ∃ n, words.length = n := ⟨_, rfl⟩
  obtain ⟨n2, hn2⟩ : ∃ n, l.length = n := ⟨_, rfl⟩
  obtain ⟨g, hg⟩ : ∃ g, w.heap.size = g := ⟨_, rfl⟩
  have H := Lib.hid h; have HS := Lib.hid hs; have HKI := Lib.hid hk; have HLI := Lib.hid hl
  have HN1 := Lib.hid hn1; have HN2 := Lib.hid hn2
  obtain ⟨w1, hw1⟩ : ∃ w1, w.alloc (.cells #[.slice A2 n2 c2] 23) = w1 := ⟨_, rfl⟩
  have s1 : w1.heap.size = g + 1 := by rw [← hw1, ← hg]; simp
  have b1 : Below g w w1 := by rw [← hw1, ← hg]; exact (Below.refl _ _).alloc (Nat.le_refl _) _
  have r1 : w1.heap[g]? = some (.cells #[.slice A2 n2 c2] 23 (0, 0)) := by rw [← hw1, ← hg]; exact new_row _ _ _
  have k1 : w1.cell? ⟨g, 0, none⟩ = some (.slice A2 n2 c2) := by rw [cell_of_row _ _ _ _ _ _ r1]; rfl
  rw [hg] at H HS ⊢
  rw [hn1] at H m1 ⊢
  rw [hn2] at HS m2 ⊢
  have m1 : n1 ≤ 9223372036854775807 := m1
  have m2 : n2 ≤ 9223372036854775807 := m2
  have B1 := Lib.hid b1; have R1 := Lib.hid r1
  clear h hs hk hl hn1 hn2 b1 r1
  by_cases hbig : 200 < n1 ∨ 200 < n2
  · rcases hbig with hb | hb
    · go_enter Try.func7, Try.ntmps7
      go_wp2_with (first
        | (go_at_call 9; refine (lives_any _).mono ?_; rintro e w2 ⟨rfl, hb2⟩))
      go_ret
      exact ⟨rfl, B1.out.trans (hb2.mono (by omega))⟩
    · by_cases hb1 : 200 < n1
      · go_enter Try.func7, Try.ntmps7
        go_wp2_with (first
          | (go_at_call 9; refine (lives_any _).mono ?_; rintro e w2 ⟨rfl, hb2⟩))
        go_ret
        exact ⟨rfl, B1.out.trans (hb2.mono (by omega))⟩
      · go_enter Try.func7, Try.ntmps7
        go_wp2_with (first
          | (go_at_call 9; refine (lives_any _).mono ?_; rintro e w2 ⟨rfl, hb2⟩))
        go_ret
        exact ⟨rfl, B1.out.trans (hb2.mono (by omega))⟩
  · have hb1 : ¬ 200 < n1 := fun h => hbig (.inl h)
    have hb2 : ¬ 200 < n2 := fun h => hbig (.inr h)
    clear hbig
    obtain ⟨w2, hw2⟩ : ∃ w2, w1.alloc (.cells #[] 3) = w2 := ⟨_, rfl⟩
    have T2 : Hid (TW w2 (g + 1) [] (.slice (some ⟨g + 1, 0, none⟩) 0 0)) := by have := TW.made w1; rw [hw2, s1] at this; exact this
    have s2 : w2.heap.size = g + 2 := by rw [← hw2]; simp; omega
    have B2 : Hid (Below (g + 1) w1 w2) := by rw [← hw2, Hid, ← s1]; exact (Below.refl _ _).alloc (Nat.le_refl _) _
    have HT3 : Hid (∀ w3 A3 c3, TW w3 (g + 1) words (.slice A3 n1 c3) → Below (g + 1) w1 w3 → Calls Try.prog 17 #[.slice A3 n1 c3, .func (.func 18) #[] #[.pointer (some ⟨g, 0, none⟩)]] w3 fun e w' => DoTold w3.heap.size words (play (fW words) l false 0 [] []) e w' ∧ Below w3.heap.size w3 w') := fun w3 A3 c3 ht hb =>
      do_play ht.words HKI.out (by rw [HN1.out]; omega) (by rw [hb.block g (by omega)]; exact R1.out) (((HS.out.below B1.out).below (hb.mono (by omega))).mono (by have := hb.size; omega)) HLI.out (by rw [HN2.out]; omega)
    have RD : Hid (∀ w', Below g w w' → Calls Try.prog 20 #[.slice A1 n1 c1, .slice A2 n2 c2] w' fun e w'' => DoTold w'.heap.size words (play (fW words) l false 0 [] []) e w'' ∧ Below w'.heap.size w' w'') := fun w' hb =>
      refdo_any ((H.out.below hb).mono (by have := hb.size; omega)) (by rw [HN1.out]; omega) ((HS.out.below hb).mono (by have := hb.size; omega)) (by rw [HN2.out]; omega)
    go_enter Try.func7, Try.ntmps7
    go_wp2_with (first
      | (at_builtin; refine wpList_addwords rfl _ _ rfl (g + 1) [] (.slice (some ⟨g + 1, 0, none⟩) 0 0) rfl T2.out (by simp) (by omega) g words _ _ _ rfl ((H.out.below B1.out).below (B2.out.mono (by omega))) (by omega) ?_; intro v3 w3 t3 g3 o3
         have T3 : Hid (TW w3 (g + 1) words v3) := t3
         have B3 : Hid (Below (g + 1) w1 w3) := B2.out.trans ((Chg.grown (S := fun k => g + 1 ≤ k) g3 (fun k hk => by simp [Value.ownBlock] at hk; omega)).below (by omega) (fun k hk => hk))
         clear t3 g3 o3
         obtain ⟨A3, c3, rfl, _⟩ := id T3.out
         rw [HN1.out] at T3 ⊢
         have DC := HT3.out w3 A3 c3 T3.out B3.out
         have hs3 := B3.out.size)
      | (go_at_call 17; refine DC.mono ?_; rintro e w4 ⟨hd4, hb4⟩
         obtain ⟨A4, n4, c4, A5, n5, c5, rfl, hw4, hq4, _⟩ := told_ans hd4
         have W4 := Lib.hid hw4; have Q4 := Lib.hid hq4
         have B4 : Hid (Below (g + 1) w1 w4) := B3.out.trans (hb4.mono (by omega))
         have k4 : w4.cell? ⟨g, 0, none⟩ = some (.slice A2 n2 c2) := by rw [B4.out.cell (by simp)]; exact k1
         have RC := RD.out w4 (B1.out.trans (B4.out.mono (by omega)))
         have hs4 := B4.out.size
         clear hd4 hb4 DC hw4 hq4)
      | (go_at_call 20; refine RC.mono ?_; rintro e w5 ⟨hd5, hb5⟩
         obtain ⟨A6, n6, c6, A7, n7, c7, rfl, hw5, hq5, _⟩ := told_ans hd5
         have B5 : Hid (Below g w w5) := (B1.out.trans (B4.out.mono (by omega))).trans (hb5.mono (by omega))
         have hs5 := hb5.size
         have SI := Lib.hid (fun j => ints_same ((W4.out.below hb5).below (drewN_below _ _ j)) (hw5.below (drewN_below _ _ j)))
         have SM := Lib.hid (fun j => same_any (((Q4.out.below hb5).mono hs5).below (drewN_below _ _ j)) (hq5.below (drewN_below _ _ j)))
         simp only [decide_true] at SI SM
         clear hd5 hb5 RC hw5 hq5)
      | (go_at_call 21; refine (SI.out 0).mono ?_; rintro e w6 ⟨rfl, j, rfl⟩)
      | (go_at_call 12; refine (SM.out _).mono ?_; rintro e w7 ⟨rfl, j2, rfl⟩)
      | (go_at_call 9; refine (lives_any _).mono ?_; rintro e w8 ⟨rfl, hb8⟩))
    go_ret
    refine ⟨rfl, (B5.out.trans ?_).trans (hb8.mono ?_)⟩
    · exact drewN_below _ _ _
    · show g ≤ w5.heap.size; omega

set_option maxRecDepth 100000 in
theorem walk {H : Type} {enc : TypeId × Value → H} {base : Nat} {spare : Nat → Bool} {held : Bool} {d0 d1 : DataW H} {p0 p1 : List MemPlace} {r : Reach} {b0 : Nat} (v0 v1 : Value) (w : World)
    (hv0 : Value.okWide Try.prog w r b0 42 v0) (t0 : DataW.Trod enc Try.prog w base spare held 42 v0 d0 p0)
    (hv1 : Value.okWide Try.prog w r b0 23 v1) (t1 : DataW.Trod enc Try.prog w base spare held 23 v1 d1 p1) :
    Calls Try.prog 7 #[v0, v1] w fun e w' => e = .returned (.bool true) ∧ Below w.heap.size w w' := by
  obtain ⟨ws, h1, h2⟩ := words_of hv0 t0
  obtain ⟨l, h3, h4⟩ := steps_of hv1 t1
  exact walk_in h1 h2 h3 h4

end VDoes
end Go.Proofs.Ytfmjcinhjbihoaa
