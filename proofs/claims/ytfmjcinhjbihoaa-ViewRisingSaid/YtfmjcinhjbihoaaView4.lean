import Derived.Test.YtfmjcinhjbihoaaView3
namespace Go.Proofs.Ytfmjcinhjbihoaa
open Go.RowKit Go.Bas SorPlain Go.Sor IMap_ VIn VPlain MapI
namespace View

/-- how a program has ended -/
def Ran (A : Ask) (P : Nat → Prop) (bv bm : Nat) (R : (Int ⊕ M) × List Int) (e : Ending) (w : World) : Prop :=
  (∃ m, R.1 = .inr m ∧ e = .returned (.tuple #[]) ∧ VWs A P bv bm true R.2 m w) ∨
  (∃ a m, R.1 = .inl a ∧ e = .panicked [{ v := .iface 60 (.int .i64 a), recovered := false }] ∧ VWs A P bv bm true R.2 m w)

set_option maxRecDepth 100000 in
set_option maxHeartbeats 2000000 in
theorem run_any {A : Ask} {P : Nat → Prop} {bv bm : Nat} {w : World} (h : VWs A P bv bm true [] [] w) (pf : FuncId) (pcap : Array Value) (R : (Int ⊕ M) × List Int)
    (hrun : ∀ args w, (callFunc pf args).run Try.prog w = .ok (.enter pf args) w)
    (hprog : ∀ Q w', (∀ k, P k → Q k) → Below w.heap.size w w' → VWs A Q bv bm true [] [] w' → Calls Try.prog pf (#[.pointer (some ⟨bv, 0, none⟩)] ++ pcap) w' fun e w'' => Ran A Q bv bm R e w'' ∧ Kept Q w' w'') :
    Calls Try.prog 35 #[.pointer (some ⟨bv, 0, none⟩), .func (.func pf) #[] pcap] w fun e w' =>
      (∃ m, R.1 = .inr m ∧ e = .returned (.int .i64 (-1)) ∧ VWs A P bv bm false R.2 m w' ∧ Kept P w w') ∨ (∃ a m, R.1 = .inl a ∧ e = .returned (.int .i64 a) ∧ VWs A P bv bm false R.2 m w' ∧ Kept P w w') := by
  have hmf : ∀ (fn : Fn) (first cap : Array Value) (w : World), (Instr.makeFunc fn first cap).run Try.prog w = .ok (.func fn first cap) w := fun _ _ _ _ => rfl
  obtain ⟨g, hg⟩ : ∃ g, w.heap.size = g := ⟨_, rfl⟩
  obtain ⟨w1, hw1⟩ : ∃ w1, (w.alloc (.cells #[.pointer (some ⟨bv, 0, none⟩)] 30)).alloc (.cells #[.int .i64 0] 3) = w1 := ⟨_, rfl⟩
  have s1 : w1.heap.size = g + 2 := by rw [← hw1, ← hg]; simp
  have b1 : Below g w w1 := by rw [← hw1, ← hg]; exact ((Below.refl _ _).alloc (Nat.le_refl _) _).alloc (by simp) _
  have r1 : Hid (w1.heap[g]? = some (.cells #[.pointer (some ⟨bv, 0, none⟩)] 30 (0, 0))) := by rw [← hw1, Hid, alloc_heap _ _ _ (by simp; omega), ← hg]; exact new_row _ _ _
  have r2 : Hid (w1.heap[g + 1]? = some (.cells #[.int .i64 0] 3 (0, 0))) := by
    rw [← hw1, Hid, show g + 1 = (w.alloc (.cells #[.pointer (some ⟨bv, 0, none⟩)] 30)).heap.size by rw [← hg]; simp]
    exact new_row _ _ _
  have hP : ∀ k, P k → k < g := fun k hk => by
    obtain ⟨S, v, _, hP⟩ := h
    have := (hP k hk).1; omega
  obtain ⟨Q, hQ⟩ : ∃ Q : Nat → Prop, Q = fun k => P k ∨ k = g ∨ k = g + 1 := ⟨_, rfl⟩
  have hv1 : VWs A Q bv bm true [] [] w1 := h.add (hg ▸ b1) (fun k hk => by
    rw [hQ] at hk
    rcases hk with hk | hk | hk
    · exact .inl hk
    · exact .inr ⟨by omega, by omega⟩
    · exact .inr ⟨by omega, by omega⟩)
  have hPQ : ∀ k, P k → Q k := fun k hk => by rw [hQ]; exact .inl hk
  have q1 : Q g := by rw [hQ]; exact .inr (.inl rfl)
  have q2 : Q (g + 1) := by rw [hQ]; exact .inr (.inr rfl)
  have hp := Lib.hid (hprog Q w1 hPQ (hg ▸ b1) hv1)
  have B1 := Lib.hid b1
  have HPQ := Lib.hid hPQ; have HP := Lib.hid hP
  have Q1 := Lib.hid q1; have Q2 := Lib.hid q2
  have kp : w1.cell? ⟨g, 0, none⟩ = some (.pointer (some ⟨bv, 0, none⟩)) := by rw [cell_of_row _ _ _ _ _ _ r1.out]; rfl
  clear hprog h hv1 hPQ b1 hP q1 q2 hQ
  go_enter_defers Try.func35, Try.ntmps35
  go_wp2
  refine hp.out.mono ?_
  rintro e w2 ⟨⟨m, hR, rfl, hv2⟩ | ⟨a, m, hR, rfl, hv2⟩, hc2⟩
  · have HR := Lib.hid hR; have HV2 := Lib.hid hv2; have HC2 := Lib.hid hc2
    have r1' : Hid (w2.heap[g]? = some (.cells #[.pointer (some ⟨bv, 0, none⟩)] 30 (0, 0))) := by rw [Hid, hc2.block _ (by omega) (by simpa using Q1.out)]; exact r1.out
    have r2' : Hid (w2.heap[g + 1]? = some (.cells #[.int .i64 0] 3 (0, 0))) := by rw [Hid, hc2.block _ (by omega) (by simpa using Q2.out)]; exact r2.out
    have c3 : w2.cell? ⟨g + 1, 0, none⟩ = some (.int .i64 0) := by rw [cell_of_row _ _ _ _ _ _ r2'.out]; rfl
    have f3 : w2.frozen? ⟨g + 1, 0, none⟩ = false := row_frozen r2'.out 0
    clear hR hv2 hc2 kp
    go_wp2
    refine leaves_cons (f := 37) (args := #[.pointer (some ⟨g, 0, none⟩), .pointer (some ⟨g + 1, 0, none⟩)]) (by simp) (by simp [go_sem]) ?_
    refine (defer_any (A := A) (P := Q) (qs := R.2) (m := m) (x := -1) (HV2.out.cell Q2.out (Chg.setCell _ _ _ rfl)) Q1.out Q2.out (by rw [heap_setCell_other _ _ _ _ (by simp)]; exact r1'.out) (by rw [setCell_row r2'.out]; exact setRow_same r2'.out) none).mono ?_
    rintro e u' w3 ⟨rfl, rfl, hv3, r3, hc3⟩
    have hc : Kept P w w3 := by
      refine ((Chg.of_below (B := g) B1.out).mono (fun k hk h hp => by have := HP.out k hp; omega)).trans ?_
      refine (Chg.trans ((HC2.out.mono (fun k _ h hp => h (HPQ.out k hp))).trans (Chg.setCell _ _ _ (fun hp => by have := HP.out _ hp; simp at this; omega))) (hc3.mono (fun k _ h => ?_)))
      rcases h with h | h
      · exact fun hp => h (HPQ.out k hp)
      · exact fun hp => by have := HP.out k hp; omega
    have c3 : w3.cell? ⟨g + 1, 0, none⟩ = some (.int .i64 (-1)) := by rw [cell_of_row _ _ _ _ _ _ r3]; rfl
    have hl := hv3.less HPQ.out
    simp [Leaves, settle, results, Try.results35, go_sem, mode', c3]
    exact .inl ⟨m, HR.out, hl, hc⟩
  · have HR := Lib.hid hR; have HV2 := Lib.hid hv2; have HC2 := Lib.hid hc2
    have r1' : Hid (w2.heap[g]? = some (.cells #[.pointer (some ⟨bv, 0, none⟩)] 30 (0, 0))) := by rw [Hid, hc2.block _ (by omega) (by simpa using Q1.out)]; exact r1.out
    have r2' : Hid (w2.heap[g + 1]? = some (.cells #[.int .i64 0] 3 (0, 0))) := by rw [Hid, hc2.block _ (by omega) (by simpa using Q2.out)]; exact r2.out
    clear hR hv2 hc2 kp
    go_wp2
    refine leaves_cons (f := 37) (args := #[.pointer (some ⟨g, 0, none⟩), .pointer (some ⟨g + 1, 0, none⟩)]) (by simp) (by simp [go_sem]) ?_
    refine (defer_any (A := A) (P := Q) (qs := R.2) (m := m) (x := 0) HV2.out Q1.out Q2.out r1'.out r2'.out (some a)).mono ?_
    rintro e u' w3 ⟨rfl, rfl, hv3, r3, hc3⟩
    have hc : Kept P w w3 := by
      refine ((Chg.of_below (B := g) B1.out).mono (fun k hk h hp => by have := HP.out k hp; omega)).trans ?_
      refine (Chg.trans (HC2.out.mono (fun k _ h hp => h (HPQ.out k hp))) (hc3.mono (fun k _ h => ?_)))
      rcases h with h | h
      · exact fun hp => h (HPQ.out k hp)
      · exact fun hp => by have := HP.out k hp; omega
    have c3 : w3.cell? ⟨g + 1, 0, none⟩ = some (.int .i64 a) := by rw [cell_of_row _ _ _ _ _ _ r3]; rfl
    have hl := hv3.less HPQ.out
    simp [Leaves, settle, results, Try.results35, go_sem, mode', c3]
    exact .inr ⟨a, HR.out, rfl, ⟨m, hl⟩, hc⟩

end View
end Go.Proofs.Ytfmjcinhjbihoaa
