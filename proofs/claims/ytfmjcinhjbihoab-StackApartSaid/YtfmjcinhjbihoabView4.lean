import Derived.Test.YtfmjcinhjbihoabView3
namespace Go.Proofs.Ytfmjcinhjbihoab
open Go.RowKit Go.Bas SorPlain Go.Sor IMap_ VIn VPlain MapI
namespace View

/-- how a program has ended -/
def Ran (A : Ask) (P : Nat → Prop) (bv bm : Nat) (R : (Int ⊕ M) × List Int) (e : Ending) (w : World) : Prop :=
  (∃ m, R.1 = .inr m ∧ e = .returned (.tuple #[]) ∧ VWs A P bv bm true R.2 m w) ∨
  (∃ a m, R.1 = .inl a ∧ e = .panicked [{ v := .iface 75 (.int .i64 a), recovered := false }] ∧ VWs A P bv bm true R.2 m w)

/-- what a program leaves: as Ran says; of what others have (Q) only C is changed; and Φ holds whatever else is changed -/
def Left (A : Ask) (P C Q : Nat → Prop) (bv bm : Nat) (R : (Int ⊕ M) × List Int) (Φ : World → Prop) (w : World) (e : Ending) (w' : World) : Prop :=
  ∃ N : Nat → Prop, (∀ k, N k → w.heap.size ≤ k) ∧ Ran A (fun k => Q k ∨ N k) bv bm R e w' ∧ Chg (fun k => ¬ Q k ∨ C k) w w' ∧ ∀ w3 : World, (∀ k, P k ∨ N k → w3.heap[k]? = w'.heap[k]?) → Φ w3
theorem Ran.less {A : Ask} {P Q : Nat → Prop} {bv bm : Nat} {R : (Int ⊕ M) × List Int} {e : Ending} {w : World} (h : Ran A P bv bm R e w) (hQ : ∀ k, Q k → P k) : Ran A Q bv bm R e w := by
  rcases h with ⟨m, h1, h2, h3⟩ | ⟨a, m, h1, h2, h3⟩
  · exact .inl ⟨m, h1, h2, h3.less hQ⟩
  · exact .inr ⟨a, m, h1, h2, h3.less hQ⟩
theorem Left.of_kept {A : Ask} {P Q : Nat → Prop} {bv bm : Nat} {R : (Int ⊕ M) × List Int} {w w' : World} {e : Ending} (h : Ran A Q bv bm R e w' ∧ Kept Q w w') : Left A P (fun _ => False) Q bv bm R (fun _ => True) w e w' :=
  ⟨fun _ => False, fun _ h => h.elim, h.1.less (fun k hk => hk.elim id False.elim), h.2.mono (fun k _ h => .inl h), fun _ _ => trivial⟩
/-- what run leaves -/
def RunOut (A : Ask) (P C : Nat → Prop) (bv bm : Nat) (R : (Int ⊕ M) × List Int) (Φ : World → Prop) (w : World) (e : Ending) (w' : World) : Prop :=
  ∃ N : Nat → Prop, (∀ k, N k → w.heap.size ≤ k) ∧ ((∃ m, R.1 = .inr m ∧ e = .returned (.int .i64 (-1)) ∧ VWs A (fun k => P k ∨ N k) bv bm false R.2 m w') ∨ (∃ a m, R.1 = .inl a ∧ e = .returned (.int .i64 a) ∧ VWs A (fun k => P k ∨ N k) bv bm false R.2 m w')) ∧
    Chg (fun k => ¬ P k ∨ C k) w w' ∧ ∀ w3 : World, (∀ k, P k ∨ N k → w3.heap[k]? = w'.heap[k]?) → Φ w3
theorem VWs.size {A : Ask} {P : Nat → Prop} {bv bm : Nat} {st : Bool} {qs : List Int} {m : M} {w : World} (h : VWs A P bv bm st qs m w) {k : Nat} (hk : P k) : k < w.heap.size := by
  obtain ⟨S, v, _, hP⟩ := h
  exact (hP k hk).1

set_option maxRecDepth 100000 in
set_option maxHeartbeats 2000000 in
theorem run_any {A : Ask} {P : Nat → Prop} {bv bm : Nat} {w : World} (h : VWs A P bv bm true [] [] w) (pf : FuncId) (pcap : Array Value) (R : (Int ⊕ M) × List Int)
    (hrun : ∀ args w, (callFunc pf args).run Try.prog w = .ok (.enter pf args) w)
    (C : Nat → Prop) (hC : ∀ k, C k → P k) (Φ : World → Prop)
    (hprog : ∀ Q w', (∀ k, P k → Q k) → Below w.heap.size w w' → VWs A Q bv bm true [] [] w' → Calls Try.prog pf (#[.pointer (some ⟨bv, 0, none⟩)] ++ pcap) w' (Left A P C Q bv bm R Φ w')) :
    Calls Try.prog 28 #[.pointer (some ⟨bv, 0, none⟩), .func (.func pf) #[] pcap] w (RunOut A P C bv bm R Φ w) := by
  have hmf : ∀ (fn : Fn) (first cap : Array Value) (w : World), (Instr.makeFunc fn first cap).run Try.prog w = .ok (.func fn first cap) w := fun _ _ _ _ => rfl
  obtain ⟨g, hg⟩ : ∃ g, w.heap.size = g := ⟨_, rfl⟩
  obtain ⟨w1, hw1⟩ : ∃ w1, (w.alloc (.cells #[.pointer (some ⟨bv, 0, none⟩)] 30)).alloc (.cells #[.int .i64 0] 3) = w1 := ⟨_, rfl⟩
  have s1 : w1.heap.size = g + 2 := by rw [← hw1, ← hg]; simp
  have b1 : Below g w w1 := by rw [← hw1, ← hg]; exact ((Below.refl _ _).alloc (Nat.le_refl _) _).alloc (by simp) _
  have r1 : Hid (w1.heap[g]? = some (.cells #[.pointer (some ⟨bv, 0, none⟩)] 30 (0, 0))) := by rw [← hw1, Hid, alloc_heap _ _ _ (by simp; omega), ← hg]; exact new_row _ _ _
  have r2 : Hid (w1.heap[g + 1]? = some (.cells #[.int .i64 0] 3 (0, 0))) := by
    rw [← hw1, Hid, show g + 1 = (w.alloc (.cells #[.pointer (some ⟨bv, 0, none⟩)] 30)).heap.size by rw [← hg]; simp]
    exact new_row _ _ _
  have HRG : Hid (¬ A.R (g + 1)) := by
    obtain ⟨S, v, h', _⟩ := id h
    exact fun hr => by have := A.rlt _ hr; have := h'.low.1; have := (Array.getElem?_eq_some_iff.1 h'.row).1; omega
  have hP : ∀ k, P k → k < g := fun k hk => by
    obtain ⟨S, v, _, hP⟩ := h
    have := (hP k hk).1; omega
  obtain ⟨Q, hQ⟩ : ∃ Q : Nat → Prop, Q = fun k => P k ∨ k = g ∨ k = g + 1 := ⟨_, rfl⟩
  have hv1 : VWs A Q bv bm true [] [] w1 := h.add (hg ▸ b1) (fun k hk => by
    rw [hQ] at hk
    rcases hk with hk | hk | hk
    · exact .inl hk
    · exact .inr ⟨by omega, by omega⟩
    · exact .inr ⟨by omega, by omega⟩)
  have hPQ : ∀ k, P k → Q k := fun k hk => by rw [hQ]; exact .inl hk
  have q1 : Q g := by rw [hQ]; exact .inr (.inl rfl)
  have q2 : Q (g + 1) := by rw [hQ]; exact .inr (.inr rfl)
  have hp := Lib.hid (hprog Q w1 hPQ (hg ▸ b1) hv1)
  have HC := Lib.hid hC
  have B1 := Lib.hid b1
  have HPQ := Lib.hid hPQ; have HP := Lib.hid hP
  have Q1 := Lib.hid q1; have Q2 := Lib.hid q2
  have kp : w1.cell? ⟨g, 0, none⟩ = some (.pointer (some ⟨bv, 0, none⟩)) := by rw [cell_of_row _ _ _ _ _ _ r1.out]; rfl
  clear hprog h hv1 hPQ b1 hP q1 q2 hQ hC
  go_enter_defers Try.func28, Try.ntmps28
  go_wp2
  refine hp.out.mono ?_
  rintro e w2 ⟨N, hN, ⟨m, hR, rfl, hv2⟩ | ⟨a, m, hR, rfl, hv2⟩, hc2, hΦ⟩
  · have HR := Lib.hid hR; have HV2 := Lib.hid hv2; have HC2 := Lib.hid hc2; have HN := Lib.hid hN; have HF := Lib.hid hΦ
    have nq : ∀ j, g ≤ j → Q j → ¬ (¬ Q j ∨ C j) := fun j hj hq h => by
      rcases h with h | h
      · exact h hq
      · have := HP.out j (HC.out j h); omega
    have r1' : Hid (w2.heap[g]? = some (.cells #[.pointer (some ⟨bv, 0, none⟩)] 30 (0, 0))) := by rw [Hid, hc2.block _ (by omega) (nq g (by omega) Q1.out)]; exact r1.out
    have r2' : Hid (w2.heap[g + 1]? = some (.cells #[.int .i64 0] 3 (0, 0))) := by rw [Hid, hc2.block _ (by omega) (nq (g + 1) (by omega) Q2.out)]; exact r2.out
    have c3 : w2.cell? ⟨g + 1, 0, none⟩ = some (.int .i64 0) := by rw [cell_of_row _ _ _ _ _ _ r2'.out]; rfl
    have f3 : w2.frozen? ⟨g + 1, 0, none⟩ = false := row_frozen r2'.out 0
    clear hR hv2 hc2 kp hN hΦ nq
    go_wp2
    refine leaves_cons (f := 33) (args := #[.pointer (some ⟨g, 0, none⟩), .pointer (some ⟨g + 1, 0, none⟩)]) (by simp) (by simp [go_sem]) ?_
    refine (defer_any (A := A) (P := fun k => Q k ∨ N k) (qs := R.2) (m := m) (x := -1) (HV2.out.cell (.inl Q2.out) HRG.out (Chg.setCell _ _ _ rfl)) (.inl Q1.out) (.inl Q2.out) HRG.out (by rw [heap_setCell_other _ _ _ _ (by simp)]; exact r1'.out) (by rw [setCell_row r2'.out]; exact setRow_same r2'.out) none).mono ?_
    rintro e u' w3 ⟨rfl, rfl, hv3, r3, hc3⟩
    have ng : ∀ k, P k ∨ N k → k ≠ g + 1 := fun k hk => by
      rcases hk with h | h
      · have := HP.out k h; omega
      · have := HN.out k h; omega
    have hq2 : Chg (fun k => ¬ P k ∨ C k) w1 w2 := HC2.out.mono (fun k _ h => h.elim (fun h => .inl fun hp => h (HPQ.out k hp)) .inr)
    have hc : Chg (fun k => ¬ P k ∨ C k) w w3 := by
      refine ((Chg.of_below (B := g) B1.out).mono (fun k hk h => .inl fun hp => by have := HP.out k hp; omega)).trans ?_
      refine (Chg.trans (hq2.trans (Chg.setCell _ _ _ (.inl fun hp => by have := HP.out _ hp; simp at this; omega))) (hc3.mono (fun k _ h => ?_)))
      rcases h with h | h
      · exact .inl fun hp => h (.inl (HPQ.out k hp))
      · exact .inl fun hp => by have := HP.out k hp; omega
    have hF : ∀ w4 : World, (∀ k, P k ∨ N k → w4.heap[k]? = w3.heap[k]?) → Φ w4 := fun w4 h4 => by
      refine HF.out w4 fun k hk => ?_
      have hkl : k < w2.heap.size := HV2.out.size (hk.elim (fun h => .inl (HPQ.out k h)) .inr)
      rw [h4 k hk, hc3.block k (by simpa [World.setCell] using hkl) (fun h => by
        rcases h with h | h
        · exact h (hk.elim (fun h => .inl (HPQ.out k h)) .inr)
        · exact ng k hk h), heap_setCell_other _ _ _ _ (fun e => ng k hk (by simpa using e))]
    have c3 : w3.cell? ⟨g + 1, 0, none⟩ = some (.int .i64 (-1)) := by rw [cell_of_row _ _ _ _ _ _ r3]; rfl
    have hl : VWs A (fun k => P k ∨ N k) bv bm false R.2 m w3 := hv3.less (fun k hk => hk.elim (fun h => .inl (HPQ.out k h)) .inr)
    have hnw : ∀ k, N k → w.heap.size ≤ k := fun k hk => by have := HN.out k hk; omega
    have fin : RunOut A P C bv bm R Φ w (.returned (.int .i64 (-1))) w3 := ⟨N, hnw, .inl ⟨m, HR.out, rfl, hl⟩, hc, hF⟩
    simp [Leaves, settle, results, Try.results28, go_sem, mode', c3]
    exact fin
  · have HR := Lib.hid hR; have HV2 := Lib.hid hv2; have HC2 := Lib.hid hc2; have HN := Lib.hid hN; have HF := Lib.hid hΦ
    have nq : ∀ j, g ≤ j → Q j → ¬ (¬ Q j ∨ C j) := fun j hj hq h => by
      rcases h with h | h
      · exact h hq
      · have := HP.out j (HC.out j h); omega
    have r1' : Hid (w2.heap[g]? = some (.cells #[.pointer (some ⟨bv, 0, none⟩)] 30 (0, 0))) := by rw [Hid, hc2.block _ (by omega) (nq g (by omega) Q1.out)]; exact r1.out
    have r2' : Hid (w2.heap[g + 1]? = some (.cells #[.int .i64 0] 3 (0, 0))) := by rw [Hid, hc2.block _ (by omega) (nq (g + 1) (by omega) Q2.out)]; exact r2.out
    clear hR hv2 hc2 kp hN hΦ nq
    go_wp2
    refine leaves_cons (f := 33) (args := #[.pointer (some ⟨g, 0, none⟩), .pointer (some ⟨g + 1, 0, none⟩)]) (by simp) (by simp [go_sem]) ?_
    refine (defer_any (A := A) (P := fun k => Q k ∨ N k) (qs := R.2) (m := m) (x := 0) HV2.out (.inl Q1.out) (.inl Q2.out) HRG.out r1'.out r2'.out (some a)).mono ?_
    rintro e u' w3 ⟨rfl, rfl, hv3, r3, hc3⟩
    have ng : ∀ k, P k ∨ N k → k ≠ g + 1 := fun k hk => by
      rcases hk with h | h
      · have := HP.out k h; omega
      · have := HN.out k h; omega
    have hq2 : Chg (fun k => ¬ P k ∨ C k) w1 w2 := HC2.out.mono (fun k _ h => h.elim (fun h => .inl fun hp => h (HPQ.out k hp)) .inr)
    have hc : Chg (fun k => ¬ P k ∨ C k) w w3 := by
      refine ((Chg.of_below (B := g) B1.out).mono (fun k hk h => .inl fun hp => by have := HP.out k hp; omega)).trans ?_
      refine (Chg.trans hq2 (hc3.mono (fun k _ h => ?_)))
      rcases h with h | h
      · exact .inl fun hp => h (.inl (HPQ.out k hp))
      · exact .inl fun hp => by have := HP.out k hp; omega
    have hF : ∀ w4 : World, (∀ k, P k ∨ N k → w4.heap[k]? = w3.heap[k]?) → Φ w4 := fun w4 h4 => by
      refine HF.out w4 fun k hk => ?_
      have hkl : k < w2.heap.size := HV2.out.size (hk.elim (fun h => .inl (HPQ.out k h)) .inr)
      rw [h4 k hk, hc3.block k hkl (fun h => by
        rcases h with h | h
        · exact h (hk.elim (fun h => .inl (HPQ.out k h)) .inr)
        · exact ng k hk h)]
    have c3 : w3.cell? ⟨g + 1, 0, none⟩ = some (.int .i64 a) := by rw [cell_of_row _ _ _ _ _ _ r3]; rfl
    have hl : VWs A (fun k => P k ∨ N k) bv bm false R.2 m w3 := hv3.less (fun k hk => hk.elim (fun h => .inl (HPQ.out k h)) .inr)
    have hnw : ∀ k, N k → w.heap.size ≤ k := fun k hk => by have := HN.out k hk; omega
    have fin : RunOut A P C bv bm R Φ w (.returned (.int .i64 (a))) w3 := ⟨N, hnw, .inr ⟨a, m, HR.out, rfl, hl⟩, hc, hF⟩
    simp [Leaves, settle, results, Try.results28, go_sem, mode', c3]
    exact fin

end View
end Go.Proofs.Ytfmjcinhjbihoab
