import Derived.Test.YtfmjcinhjbihoaaVRuns
namespace Go.Proofs.Ytfmjcinhjbihoaa
open Go.RowKit Go.Bas SorPlain Go.Sor IMap_ VIn VPlain MapI
namespace View

theorem Told.made (w : World) : Told (w.alloc (.cells #[] 38)) w.heap.size [] (.slice (some ⟨w.heap.size, 0, none⟩) 0 0) :=
  ⟨some ⟨w.heap.size, 0, none⟩, 0, rfl, by simpa [vals, flat] using World.ownsRow_made w #[] 0 (Nat.le_refl _) (Nat.zero_le _) rfl⟩

theorem flat_vals_append (a b : M) : flat (vals (a ++ b)) = flat (vals a) ++ flat (vals b) := by simp [vals, flat_append]

theorem wpList_addall {ops : Array Oper} {rest : List Oper} {o : Oper} {a : Act} {w : World} {Q : Exit → Act → World → Prop} (hgd : o.guard = none) (s x : Operand)
    (ho : o.op = .call { callee := .builtin .append, args := #[s, x], argTypes := #[22, 22] })
    (base : Nat) (out : M) (v : Value) (hs : a.eval s = v) (h : Told w base out v) (hn : out.length ≤ 10000) (hb : base ≤ w.heap.size) (B : Nat) (l : M) (A2 : Option Addr) (n2 c2 : Nat) (hx : a.eval x = .slice A2 n2 c2) (hl : Pairs w B (.slice A2 n2 c2) l) (hln : n2 ≤ 10000)
    (H : ∀ v' w', Told w' base (out ++ l) v' → w.grownBy w' v.ownBlock → wpList Try.prog ops Q rest (a.put o.dst v') w') : wpList Try.prog ops Q (o :: rest) a w := by
  obtain ⟨i0, hi0, hz0, hz1, hz2⟩ := info_parts infoPair
  obtain ⟨A, cap, rfl, hown⟩ := h
  obtain ⟨A', c', e, hm, hc⟩ := hl
  simp only [Value.slice.injEq] at e
  obtain ⟨rfl, rfl, rfl⟩ := e
  refine wpList_append_any hgd s x 22 ho base 38 i0 (.agg #[.int .i64 0, .int .i64 0]) 2 16 Try.underlying22 hi0 hz0 hz1 hz2 rfl (by decide) _ out.length (flat (vals out)) hs hown A2 l.length c2 (flat (vals l)) hx (by rw [flat_length, vals_length]) ?_ ?_ ?_ ?_ hb ?_
  · intro h0
    obtain ⟨b, off, rfl, hlt, hc⟩ := hc h0
    refine ⟨_, rfl, fun j u hj => ?_⟩
    have hjl : j < l.length * 2 := by
      have := (List.getElem?_eq_some_iff.1 hj).1
      rw [flat_length, vals_length] at this; exact this
    have hadd : (⟨b, off, none⟩ : Addr).add j = ⟨b, off + j, none⟩ := by unfold Addr.add; split <;> simp_all
    rw [hadd]
    obtain ⟨k, hk⟩ : ∃ k, j = k * 2 ∨ j = k * 2 + 1 := ⟨j / 2, by omega⟩
    have hi : k < l.length := by omega
    obtain ⟨h1, h2⟩ := hc _ hi
    obtain ⟨g1, g2⟩ := flat_at l _ hi
    rcases hk with rfl | rfl
    · rw [g1] at hj
      injection hj with hj
      rw [← hj]; exact h1
    · rw [g2] at hj
      injection hj with hj
      rw [← hj, ← Nat.add_assoc]; exact h2
  · intro u hu
    simp only [flat, vals, List.mem_flatMap] at hu
    obtain ⟨p, hp, hu⟩ := hu
    obtain ⟨q, _, rfl⟩ := List.mem_map.1 hp
    simp at hu
    rcases hu with rfl | rfl <;> rfl
  · unfold maxLen; omega
  · omega
  · intro v' w' hown' hg hb'
    obtain ⟨A1, c1, rfl⟩ := own_slice hown'
    refine H _ w' ⟨A1, c1, by simp, ?_⟩ hg
    rw [flat_vals_append]
    simpa using hown'

theorem play_more {f f' : Int → Option Int} (hf : ∀ a x, f a = some x → f' a = some x) {m' : M} : ∀ (l : List Ins) (sk : Bool) (x : Int) (m : M) (qs : List Int), (play f l sk x m qs).1 = .inr m' → (play f' l sk x m qs).1 = .inr m'
  | [], sk, x, m, qs => by cases sk <;> exact fun h => h
  | i :: r, true, x, m, qs => by simp only [play]; exact play_more hf r false x m qs
  | i :: r, false, x, m, qs => by
    have hr : ∀ a y, rd f m a = some y → rd f' m a = some y := fun a y h => by
      unfold rd at h ⊢
      by_cases h1 : a < 0
      · rw [if_pos h1] at h ⊢; exact h
      · rw [if_neg h1] at h ⊢
        by_cases h2 : has a m = true
        · rw [if_pos h2] at h ⊢; exact h
        · rw [if_neg h2] at h ⊢; exact hf _ _ h
    simp only [play]
    split
    · cases h : rd f m i.a with
      | some y => rw [hr _ _ h]; exact play_more hf r _ _ _ _
      | none => intro h; simp at h
    · split
      · exact play_more hf r _ _ _ _
      · split
        · exact play_more hf r _ _ _ _
        · split
          · cases h : rd f m x with
            | some y => rw [hr _ _ h]; exact play_more hf r _ _ _ _
            | none => intro h; simp at h
          · split
            · exact play_more hf r _ _ _ _
            · exact play_more hf r _ _ _ _
theorem first_more (l r : M) (a x : Int) (h : first l a = some x) : first (l ++ r) a = some x := by
  unfold first at h ⊢
  rw [List.find?_append]
  cases hf : l.find? (fun p => p.1 == a) with
  | some p => rw [hf] at h; simpa using h
  | none => rw [hf] at h; simp at h

end View
namespace VMore
open View

set_option maxRecDepth 100000 in
set_option maxHeartbeats 8000000 in
theorem walk_in {w : World} {sk sl sm : Value} {kn more : M} {l : List Ins} (h : Pairs w w.heap.size sk kn) (hk : PIn kn) (hs : VIn.Steps w w.heap.size sl l) (hl : SIn l) (hm : Pairs w w.heap.size sm more) (hmk : PIn more) :
    Calls Try.prog 5 #[sk, sl, sm] w fun e w' => e = .returned (.bool true) ∧ Below w.heap.size w w' := by
  obtain ⟨A1, c1, rfl, m1, _⟩ := id h
  obtain ⟨A2, c2, rfl, m2, _⟩ := id hs
  obtain ⟨A3, c3, rfl, m3, _⟩ := id hm
  obtain ⟨n1, hn1⟩ : ∃ n, kn.length = n := ⟨_, rfl⟩
  obtain ⟨n2, hn2⟩ : ∃ n, l.length = n := ⟨_, rfl⟩
  obtain ⟨n3, hn3⟩ : ∃ n, more.length = n := ⟨_, rfl⟩
  obtain ⟨g, hg⟩ : ∃ g, w.heap.size = g := ⟨_, rfl⟩
  have H := Lib.hid h; have HS := Lib.hid hs; have HM := Lib.hid hm; have HKI := Lib.hid hk; have HLI := Lib.hid hl; have HMI := Lib.hid hmk
  have HN1 := Lib.hid hn1; have HN2 := Lib.hid hn2; have HN3 := Lib.hid hn3
  rw [hg] at H HS HM ⊢
  rw [hn1] at H m1 ⊢
  rw [hn2] at HS m2 ⊢
  rw [hn3] at HM m3 ⊢
  have m1 : n1 ≤ 9223372036854775807 := m1
  have m2 : n2 ≤ 9223372036854775807 := m2
  have m3 : n3 ≤ 9223372036854775807 := m3
  clear h hs hm hk hl hmk hn1 hn2 hn3
  by_cases hbig : 60 < n1 ∨ 60 < n3 ∨ 100 < n2
  · have key : (60 < n1) ∨ (¬ 60 < n1 ∧ 60 < n3) ∨ (¬ 60 < n1 ∧ ¬ 60 < n3 ∧ 100 < n2) := by omega
    rcases key with h1 | ⟨h1, h2⟩ | ⟨h1, h2, h3⟩
    all_goals (
      clear hbig
      go_enter Try.func5, Try.ntmps5
      go_wp2_with (first
        | (go_at_call 9; refine (lives_any _).mono ?_; rintro e w2 ⟨rfl, hb2⟩))
      go_ret
      exact ⟨rfl, hb2.mono (by omega)⟩)
  · have h1 : ¬ 60 < n1 := fun h => hbig (.inl h)
    have h2 : ¬ 60 < n3 := fun h => hbig (.inr (.inl h))
    have h3 : ¬ 100 < n2 := fun h => hbig (.inr (.inr h))
    clear hbig
    have RA : Hid (Calls Try.prog 10 #[.slice A1 n1 c1, .slice A2 n2 c2] w fun e w' => RunTold g (play (first kn) l false 0 [] []).1 e w' ∧ Below g w w') := by
      have := runs_any (w := w) (hg ▸ H.out) HKI.out (by rw [HN1.out]; omega) (hg ▸ HS.out) HLI.out (by rw [HN2.out]; omega)
      rwa [hg] at this
    have RB : Hid (∀ w' v, Below g w w' → View.Told w' g (kn ++ more) v → Calls Try.prog 10 #[v, .slice A2 n2 c2] w' fun e w'' => RunTold w'.heap.size (play (first (kn ++ more)) l false 0 [] []).1 e w'' ∧ Below w'.heap.size w' w'') := fun w' v hb ht =>
      runs_any ht.pairs (fun p hp => by
        rcases List.mem_append.1 hp with h | h
        · exact HKI.out p h
        · exact HMI.out p h) (by rw [List.length_append, HN1.out, HN3.out]; omega) ((HS.out.below hb).mono (by have := hb.size; omega)) HLI.out (by rw [HN2.out]; omega)
    have PM : Hid (∀ m, (play (first kn) l false 0 [] []).1 = .inr m → (play (first (kn ++ more)) l false 0 [] []).1 = .inr m) := fun m hm => play_more (fun a x h => first_more kn more a x h) l false 0 [] [] hm
    have HA := Lib.hid (play_end (first kn) l false 0 [] []).1
    obtain ⟨R, hR⟩ : ∃ R, (play (first kn) l false 0 [] []).1 = R := ⟨_, rfl⟩
    rw [hR] at RA PM HA
    clear hR
    cases R with
    | inr m =>
      rw [PM.out m rfl] at RB
      clear PM
      go_enter Try.func5, Try.ntmps5
      go_upto_region 4 with (first
        | (go_at_call 10; refine RA.out.mono ?_; rintro e w2 ⟨⟨m', r, q1, rfl, q2, _⟩ | ⟨_, q1, _⟩, q3⟩
           rotate_left
           · cases q1
           obtain rfl : m = m' := by simpa using q1))
      obtain ⟨q, hq⟩ : ∃ q, w2.heap.size = q := ⟨_, rfl⟩
      obtain ⟨w3, hw3⟩ : ∃ w3, w2.alloc (.cells #[] 38) = w3 := ⟨_, rfl⟩
      have T3 : Hid (View.Told w3 q [] (.slice (some ⟨q, 0, none⟩) 0 0)) := by have := Told.made w2; rw [hw3, hq] at this; exact this
      have s3 : w3.heap.size = q + 1 := by rw [← hw3, ← hq]; simp
      have hgq : g ≤ q := by have := q3.size; omega
      have P2 := Lib.hid q2.pairs
      have C3 : Hid (Below q w2 w3) := by rw [← hw3, ← hq]; exact (Below.refl _ _).alloc (Nat.le_refl _) _
      have B3 : Hid (Below g w w3) := q3.trans (C3.out.mono hgq)
      rw [hq] at P2
      clear q1 q2 q3 RA
      go_upto_region 5 with (first
        | (at_builtin; refine wpList_addall rfl _ _ rfl q [] (.slice (some ⟨q, 0, none⟩) 0 0) rfl T3.out (by simp) (by omega) g kn _ _ _ rfl (H.out.below B3.out) (by omega) ?_; intro v4 w4 t4 g4
           have T4 : Hid (View.Told w4 q kn v4) := t4
           have b4 : Below q w3 w4 := (Chg.grown (S := fun k => q ≤ k) g4 (fun k hk => by simp [Value.ownBlock] at hk; omega)).below (by omega) (fun k hk => hk)
           have B4 : Hid (Below g w w4) := B3.out.trans (b4.mono hgq)
           have C4 : Hid (Below q w2 w4) := C3.out.trans b4
           have s4 : q ≤ w4.heap.size := by have := b4.size; omega
           have l4 : Hid (∀ k, v4.ownBlock = some k → q ≤ k) := fun k hk => T4.out.block hk
           clear t4 g4 b4)
        | (at_builtin; refine wpList_addall rfl _ _ rfl q kn v4 rfl T4.out (by rw [HN1.out]; omega) s4 g more _ _ _ rfl (HM.out.below B4.out) (by omega) ?_; intro v5 w5 t5 g5
           have T5 : Hid (View.Told w5 g (kn ++ more) v5) := t5.low hgq
           have b5 : Below q w4 w5 := (Chg.grown (S := fun k => q ≤ k) g5 l4.out).below s4 (fun k hk => hk)
           have B5 : Hid (Below g w w5) := B4.out.trans (b5.mono hgq)
           have C5 : Hid (Below q w2 w5) := C4.out.trans b5
           have s5 : q ≤ w5.heap.size := by have := b5.size; omega
           clear t5 g5 b5 T4)
        | (go_at_call 10; refine (RB.out _ _ B5.out T5.out).mono ?_; rintro e w6 ⟨⟨m', r', q4, rfl, q5, _⟩ | ⟨_, q4, _⟩, q6⟩
           rotate_left
           · cases q4
           obtain rfl : m = m' := by simpa using q4))
      have h6 := q6.size
      have SM := Lib.hid (same_any (((P2.out.below (C5.out.trans (q6.mono s5))).mono (by omega)) : Pairs w6 w6.heap.size r m) q5.pairs)
      have B6 : Hid (Below g w w6) := B5.out.trans (q6.mono (by omega))
      clear q4 q5 q6 RB T3 T5
      have hgw : g ≤ w6.heap.size := by omega
      simp only [decide_true] at SM
      go_wp2_with (first
        | (go_at_call 12; refine SM.out.mono ?_; rintro e w7 ⟨rfl, j, rfl⟩)
        | (go_at_call 9; refine (lives_any _).mono ?_; rintro e w8 ⟨rfl, hb8⟩))
      go_ret
      exact ⟨rfl, (B6.out.trans (drewN_below _ _ _)).trans (hb8.mono hgw)⟩
    | inl a =>
      have ha0 : 0 ≤ a := HA.out a rfl
      clear PM
      go_enter Try.func5, Try.ntmps5
      go_upto_region 4 with (first
        | (go_at_call 10; refine RA.out.mono ?_; rintro e w2 ⟨⟨_, _, q1, _⟩ | ⟨a', q1, rfl⟩, q3⟩
           · cases q1
           obtain rfl : a = a' := by simpa using q1))
      obtain ⟨q, hq⟩ : ∃ q, w2.heap.size = q := ⟨_, rfl⟩
      obtain ⟨w3, hw3⟩ : ∃ w3, w2.alloc (.cells #[] 38) = w3 := ⟨_, rfl⟩
      have T3 : Hid (View.Told w3 q [] (.slice (some ⟨q, 0, none⟩) 0 0)) := by have := Told.made w2; rw [hw3, hq] at this; exact this
      have s3 : w3.heap.size = q + 1 := by rw [← hw3, ← hq]; simp
      have hgq : g ≤ q := by have := q3.size; omega
      have C3 : Hid (Below q w2 w3) := by rw [← hw3, ← hq]; exact (Below.refl _ _).alloc (Nat.le_refl _) _
      have B3 : Hid (Below g w w3) := q3.trans (C3.out.mono hgq)
      clear q1 q3 RA
      go_upto_region 5 with (first
        | (at_builtin; refine wpList_addall rfl _ _ rfl q [] (.slice (some ⟨q, 0, none⟩) 0 0) rfl T3.out (by simp) (by omega) g kn _ _ _ rfl (H.out.below B3.out) (by omega) ?_; intro v4 w4 t4 g4
           have T4 : Hid (View.Told w4 q kn v4) := t4
           have b4 : Below q w3 w4 := (Chg.grown (S := fun k => q ≤ k) g4 (fun k hk => by simp [Value.ownBlock] at hk; omega)).below (by omega) (fun k hk => hk)
           have B4 : Hid (Below g w w4) := B3.out.trans (b4.mono hgq)
           have C4 : Hid (Below q w2 w4) := C3.out.trans b4
           have s4 : q ≤ w4.heap.size := by have := b4.size; omega
           have l4 : Hid (∀ k, v4.ownBlock = some k → q ≤ k) := fun k hk => T4.out.block hk
           clear t4 g4 b4)
        | (at_builtin; refine wpList_addall rfl _ _ rfl q kn v4 rfl T4.out (by rw [HN1.out]; omega) s4 g more _ _ _ rfl (HM.out.below B4.out) (by omega) ?_; intro v5 w5 t5 g5
           have T5 : Hid (View.Told w5 g (kn ++ more) v5) := t5.low hgq
           have b5 : Below q w4 w5 := (Chg.grown (S := fun k => q ≤ k) g5 l4.out).below s4 (fun k hk => hk)
           have B5 : Hid (Below g w w5) := B4.out.trans (b5.mono hgq)
           have C5 : Hid (Below q w2 w5) := C4.out.trans b5
           have s5 : q ≤ w5.heap.size := by have := b5.size; omega
           clear t5 g5 b5 T4)
        | (go_at_call 10; refine (RB.out _ _ B5.out T5.out).mono ?_; rintro e w6 ⟨⟨_, _, _, rfl, _, _⟩ | ⟨_, _, rfl⟩, q6⟩))
      all_goals (
        have h6 := q6.size
        have B6 : Hid (Below g w w6) := B5.out.trans (q6.mono (by omega))
        clear q6 RB T3 T5
        have hgw : g ≤ w6.heap.size := by omega
        go_wp2_with (first
          | (go_at_call 9; refine (lives_any _).mono ?_; rintro e w8 ⟨rfl, hb8⟩))
        go_ret
        exact ⟨rfl, B6.out.trans (hb8.mono hgw)⟩)

set_option maxRecDepth 100000 in
theorem walk {H : Type} {enc : TypeId × Value → H} {base : Nat} {spare : Nat → Bool} {held : Bool} {d0 d1 d2 : DataW H} {p0 p1 p2 : List MemPlace} {r : Reach} {b0 : Nat} (v0 v1 v2 : Value) (w : World)
    (hv0 : Value.okWide Try.prog w r b0 22 v0) (t0 : DataW.Trod enc Try.prog w base spare held 22 v0 d0 p0)
    (hv1 : Value.okWide Try.prog w r b0 23 v1) (t1 : DataW.Trod enc Try.prog w base spare held 23 v1 d1 p1)
    (hv2 : Value.okWide Try.prog w r b0 22 v2) (t2 : DataW.Trod enc Try.prog w base spare held 22 v2 d2 p2) :
    Calls Try.prog 5 #[v0, v1, v2] w fun e w' => e = .returned (.bool true) ∧ Below w.heap.size w w' := by
  obtain ⟨kn, h1, h2⟩ := known_of hv0 t0
  obtain ⟨l, h3, h4⟩ := steps_of hv1 t1
  obtain ⟨more, h5, h6⟩ := known_of hv2 t2
  exact walk_in h1 h2 h3 h4 h5 h6

end VMore
end Go.Proofs.Ytfmjcinhjbihoaa
