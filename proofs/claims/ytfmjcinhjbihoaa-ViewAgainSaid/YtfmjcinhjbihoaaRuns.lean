import Derived.Test.YtfmjcinhjbihoaaPlays
namespace Go.Proofs.Ytfmjcinhjbihoaa
open Go.RowKit Go.Bas SorPlain Go.Sor IMap_ VIn VPlain MapI
namespace View

theorem play_end (f : Int → Option Int) : ∀ (l : List Ins) (sk : Bool) (x : Int) (m : M) (qs : List Int), (∀ a, (play f l sk x m qs).1 = .inl a → 0 ≤ a) ∧ (∀ m', (play f l sk x m qs).1 = .inr m' → m'.length ≤ m.length + l.length)
  | [], sk, x, m, qs => by
    cases sk <;> exact ⟨fun a h => by simp [play] at h, fun m' h => by simp [play] at h; subst h; simp⟩
  | i :: r, true, x, m, qs => by
    have h := play_end f r false x m qs
    simp only [play, List.length_cons]
    exact ⟨h.1, fun m' hm => by have := h.2 m' hm; omega⟩
  | i :: r, false, x, m, qs => by
    have key : ∀ sk y m2 q2, m2.length ≤ m.length + 1 → (∀ a, (play f r sk y m2 q2).1 = .inl a → 0 ≤ a) ∧ (∀ m', (play f r sk y m2 q2).1 = .inr m' → m'.length ≤ m.length + (r.length + 1)) := fun sk y m2 q2 hm2 => by
      have h := play_end f r sk y m2 q2
      exact ⟨h.1, fun m' hm => by have := h.2 m' hm; omega⟩
    have hr : ∀ a, rd f m a = none → 0 ≤ a := fun a h => by
      unfold rd at h
      split at h
      · simp at h
      · omega
    have h1 := wr_length m i.a i.b
    have h2 := wr_length m i.a x
    simp only [play, List.length_cons]
    split
    · cases h : rd f m i.a with
      | some y => exact key _ _ _ _ (by omega)
      | none => exact ⟨fun a ha => by simp at ha; subst ha; exact hr _ h, fun m' hm => by simp at hm⟩
    · split
      · exact key _ _ _ _ (by omega)
      · split
        · exact key _ _ _ _ (by omega)
        · split
          · cases h : rd f m x with
            | some y => exact key _ _ _ _ (by omega)
            | none => exact ⟨fun a ha => by simp at ha; subst ha; exact hr _ h, fun m' hm => by simp at hm⟩
          · split
            · exact key _ _ _ _ (by omega)
            · exact key _ _ _ _ (by omega)

/-- what Run tells -/
def RunTold (base : Nat) (R : Int ⊕ M) (e : Ending) (w' : World) : Prop :=
  (∃ m r, R = .inr m ∧ e = .returned (.tuple #[.int .i64 (-1), r]) ∧ Told w' base m r ∧ PIn m) ∨ (∃ a, R = .inl a ∧ e = .returned (.tuple #[.int .i64 a, .slice none 0 0]))

theorem prog_any {A : Ask} {P : Nat → Prop} {bv bm B c : Nat} {w : World} {s : Value} {l : List Ins} (hc : w.heap[c]? = some (.cells #[s] 23 (0, 0))) (h : VWs A P bv bm true [] [] w) (hs : VIn.Steps w B s l) (hl : SIn l) (hn : l.length ≤ 1000) (hPB : ∀ k, k < B → P k) :
    Calls Try.prog 23 #[.pointer (some ⟨bv, 0, none⟩), .pointer (some ⟨c, 0, none⟩)] w fun e w' => Ran A P bv bm (play A.f l false 0 [] []) e w' ∧ Kept P w w' := by
  have k0 : w.cell? ⟨c, 0, none⟩ = some s := by rw [cell_of_row _ _ _ _ _ _ hc]; rfl
  have PL := Lib.hid (plays_any h hs hl hn hPB)
  clear h hs hl hn hPB hc
  go_enter Try.func23, Try.ntmps23
  go_wp2_with (first
    | (go_at_call 19; refine PL.out.mono ?_; rintro e w2 ⟨⟨m, q1, rfl, q2⟩ | ⟨a, m, q1, rfl, q2⟩, q3⟩))
  · go_end0
    exact ⟨.inl ⟨m, q1, rfl, q2⟩, q3⟩
  · exact ⟨rfl, .inr ⟨a, m, q1, rfl, q2⟩, q3⟩

set_option maxRecDepth 100000 in
set_option maxHeartbeats 4000000 in
theorem runs_any {w : World} {sk sl : Value} {known : M} {l : List Ins} (h : Pairs w w.heap.size sk known) (hk : PIn known) (hkn : known.length ≤ 1000) (hs : VIn.Steps w w.heap.size sl l) (hl : SIn l) (hn : l.length ≤ 1000) :
    Calls Try.prog 10 #[sk, sl] w fun e w' => RunTold w.heap.size (play (first known) l false 0 [] []).1 e w' ∧ Below w.heap.size w w' := by
  have hmf : ∀ (fn : Fn) (first cap : Array Value) (w : World), (Instr.makeFunc fn first cap).run Try.prog w = .ok (.func fn first cap) w := fun _ _ _ _ => rfl
  obtain ⟨sl', hsl⟩ : ∃ s', sl = s' := ⟨_, rfl⟩
  obtain ⟨Al, cl, e0, _, _⟩ := id hs
  obtain ⟨nl, hnl⟩ : ∃ n, l.length = n := ⟨_, rfl⟩
  rw [hnl] at e0
  subst e0
  clear hsl sl'
  obtain ⟨g, hg⟩ : ∃ g, w.heap.size = g := ⟨_, rfl⟩
  obtain ⟨w1, hw1⟩ : ∃ w1, w.alloc (.cells #[.slice Al nl cl] 23) = w1 := ⟨_, rfl⟩
  have s1 : w1.heap.size = g + 1 := by rw [← hw1, ← hg]; simp
  have b1 : Below g w w1 := by rw [← hw1, ← hg]; exact (Below.refl _ _).alloc (Nat.le_refl _) _
  have r1 : w1.heap[g]? = some (.cells #[.slice Al nl cl] 23 (0, 0)) := by rw [← hw1, ← hg]; exact new_row _ _ _
  rw [hg] at h hs ⊢
  have pe := play_end (first known) l false 0 [] []
  have RK := Lib.hid (run_known (w := w1) ((h.below b1).mono (by omega)) hk hkn 23 #[.pointer (some ⟨g, 0, none⟩)] (play (first known) l false 0 [] [])
    (callFunc_run Try.func23 (by kernel_rfl) (by kernel_rfl))
    (fun A hA bv bm Q w' hQ hb hv => by
      have := prog_any (A := A) (P := Q) (bv := bv) (bm := bm) (B := g + 1) (c := g) (w := w') (s := .slice Al nl cl) (l := l) (by rw [hb.block g (by omega)]; exact r1) hv (((hs.below b1).mono (by omega)).below (hb.mono (by omega))) hl hn (fun k hk => hQ k (by omega))
      rw [hA] at this
      exact this)
    (fun m hm => by have := pe.2 m hm; simp at this; omega) pe.1)
  have B1 := Lib.hid b1
  clear h hs pe b1 r1 hnl
  go_enter Try.func10, Try.ntmps10
  go_wp2_with (first
    | (go_at_call 15; refine RK.out.mono ?_; rintro e w2 ⟨⟨m, r, q1, rfl, q2, q3⟩ | ⟨a, q1, rfl⟩, q4⟩))
  · have fin : Hid (RunTold g (play (first known) l false 0 [] []).1 (.returned (.tuple #[.int .i64 (-1), r])) w2 ∧ Below g w w2) := ⟨.inl ⟨m, r, q1, rfl, q2.low (by omega), q3⟩, B1.out.trans (q4.mono (by omega))⟩
    clear q1 q2 q3 q4
    go_wp2
    go_ret2
    exact fin.out
  · have fin : Hid (RunTold g (play (first known) l false 0 [] []).1 (.returned (.tuple #[.int .i64 a, .slice none 0 0])) w2 ∧ Below g w w2) := ⟨.inr ⟨a, q1, rfl⟩, B1.out.trans (q4.mono (by omega))⟩
    clear q1 q4
    go_wp2
    go_ret2
    exact fin.out

end View
end Go.Proofs.Ytfmjcinhjbihoaa
