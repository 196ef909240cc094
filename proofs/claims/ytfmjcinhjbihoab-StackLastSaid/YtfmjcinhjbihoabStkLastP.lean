import Derived.Test.YtfmjcinhjbihoabStkOver
/- what is pushed is popped, the last one first: plain Lean -/
namespace Go.Proofs.Ytfmjcinhjbihoab
open SorPlain IMap_ VIn VPlain
namespace Stk

/-- each thing is pushed; how many were kept, and whether each was as it should be -/
def pushes (most : Int) : List Int → Nat → Nat → Bool → Prog (Nat × Bool)
  | [], _, kept, right => pure (kept, right)
  | x :: r, i, kept, right => push 1 most x >>= fun ok => pushes most r (i + 1) (if ok then kept + 1 else kept) (right && (ok == decide ((i : Int) < most)))
/-- what was kept is popped -/
def pops (most : Int) (l : List Int) : Nat → Bool → Prog Bool
  | 0, right => pure right
  | n + 1, right => if n < l.length then pop 1 most >>= fun x => pops most l n (right && x.2 && decide (x.1 = l.getD n 0)) else pure right
def midP (most : Int) (l : List Int) (k : Nat) (right : Bool) : Prog Bool := if right then many 1 most >>= fun n => pure (decide (n = (k : Int)) && decide (k ≤ l.length)) else pure false
def lastP (most : Int) (l : List Int) : Prog Bool :=
  pushes most l 0 0 true >>= fun r => midP most l r.1 r.2 >>= fun right => pops most l r.1 right >>= fun right => pop 1 most >>= fun x => pure (right && !x.2)

theorem pushes_writes (most : Int) : ∀ (l : List Int) (i k : Nat) (r : Bool), (pushes most l i k r).Writes (2 * l.length)
  | [], _, _, _ => Prog.Writes.pure _ _
  | x :: r, i, k, b => Prog.Writes.mono (Prog.Writes.bind (k := 2 * r.length) (push_writes 1 most x) fun _ => pushes_writes most r _ _ _) (by simp; omega)
theorem pops_writes (most : Int) (l : List Int) : ∀ (n : Nat) (r : Bool), (pops most l n r).Writes n
  | 0, _ => Prog.Writes.pure _ _
  | n + 1, b => by
    unfold pops
    split
    · exact Prog.Writes.mono (Prog.Writes.bind (k := n) (pop_writes 1 most) fun _ => pops_writes most l n _) (by omega)
    · exact Prog.Writes.pure _ _
theorem midP_writes (most : Int) (l : List Int) (k : Nat) (r : Bool) : (midP most l k r).Writes 0 := by
  unfold midP
  split
  · exact Prog.Writes.bind (k := 0) (many_writes _ _) fun _ => Prog.Writes.pure _ _
  · exact Prog.Writes.pure _ _

/-- the stack has the first k things of l -/
def HasF (most : Int) (l : List Int) (k : Nat) (μ : Int → Int) : Prop := μ 1 = k ∧ (k : Int) ≤ most ∧ ∀ j : Nat, j < k → μ (2 + j) = l.getD j 0
theorem HasF.many {most : Int} {l : List Int} {k : Nat} {μ : Int → Int} (h : HasF most l k μ) : manyV 1 most μ = k := by
  unfold manyV noStk
  have h0 : ¬ (decide ((1 : Int) < 1) || decide (most < 0)) = true := by simp; have := h.2.1; omega
  rw [if_neg h0, h.1, if_pos ⟨by omega, h.2.1⟩]
theorem HasF.no {most : Int} {l : List Int} {k : Nat} {μ : Int → Int} (h : HasF most l k μ) : ¬ noStk 1 most = true := by
  unfold noStk; simp; have := h.2.1; omega

/-- a thing more is pushed, if there is room -/
theorem push_has {most : Int} {l : List Int} {i k : Nat} {μ : Int → Int} (h : HasF most l k μ) (h1 : (i : Int) ≤ most → k = i) (h2 : most < (i : Int) → (k : Int) = most) :
    (most ≤ k ∧ ¬ (i : Int) < most ∧ (push 1 most (l.getD i 0)).over μ = (false, μ)) ∨ (k = i ∧ (i : Int) < most ∧ ∃ μ', (push 1 most (l.getD i 0)).over μ = (true, μ') ∧ HasF most l (k + 1) μ') := by
  by_cases hc : most ≤ k
  · have := h.2.1
    exact .inl ⟨hc, by omega, by rw [push_over, h.many, if_pos (.inr hc)]⟩
  · have hki : k = i := by
      by_cases e : (i : Int) ≤ most
      · exact h1 e
      · have := h2 (by omega); omega
    subst hki
    refine .inr ⟨rfl, by omega, upd (upd μ (1 + 1 + k) (l.getD k 0)) 1 (k + 1), by rw [push_over, h.many, if_neg (fun e => e.elim h.no hc)], by simp [upd], by omega, fun j hj => ?_⟩
    unfold upd
    rw [if_neg (by omega)]
    by_cases e : j = k
    · subst e; rw [if_pos (by omega)]
    · rw [if_neg (by omega)]; exact h.2.2 j (by omega)
theorem pop_has {most : Int} {l : List Int} {n : Nat} {μ : Int → Int} (h : HasF most l (n + 1) μ) : ∃ μ', (pop 1 most).over μ = ((l.getD n 0, true), μ') ∧ HasF most l n μ' := by
  have hov : (pop 1 most).over μ = ((l.getD n 0, true), upd μ 1 n) := by
    rw [pop_over, h.many, if_neg (by omega)]
    have e1 : ((n + 1 : Nat) : Int) - 1 = n := by omega
    rw [e1]
    have : upd μ 1 n (1 + ((n + 1 : Nat) : Int)) = l.getD n 0 := by
      unfold upd
      rw [if_neg (by omega), show (1 : Int) + ((n + 1 : Nat) : Int) = 2 + (n : Nat) by omega]
      exact h.2.2 n (by omega)
    rw [this]
  exact ⟨_, hov, by simp [upd], by have := h.2.1; omega, fun j hj => by unfold upd; rw [if_neg (by omega)]; exact h.2.2 j (by omega)⟩
theorem pushes_over {most : Int} (l : List Int) : ∀ (r : List Int) (i k : Nat) (μ : Int → Int), l.drop i = r → HasF most l k μ → ((i : Int) ≤ most → k = i) → (most < (i : Int) → (k : Int) = most) →
    ∃ k' μ', (pushes most r i k true).over μ = ((k', true), μ') ∧ HasF most l k' μ' ∧ k' ≤ k + r.length ∧ Prog.Within (most + 2) (pushes most r i k true) μ
  | [], i, k, μ, _, h, _, _ => ⟨k, μ, rfl, h, by simp, Prog.Within.pure _ _ _⟩
  | x :: r, i, k, μ, hd, h, h1, h2 => by
    have hil : i < l.length := by
      refine Nat.lt_of_not_le fun hle => ?_
      rw [List.drop_eq_nil_of_le hle] at hd; cases hd
    have hx : l.getD i 0 = x := by
      have := List.drop_eq_getElem_cons hil
      rw [hd] at this
      injection this with this _
      simp [hil, this]
    have hr : l.drop (i + 1) = r := by
      have := List.drop_eq_getElem_cons hil
      rw [hd] at this
      injection this with _ this
      exact this.symm
    have hw : Prog.Within (most + 2) (push 1 most x) μ := push_within (.inr (by omega)) x μ
    by_cases hc : most ≤ k
    · have hov : (push 1 most x).over μ = (false, μ) := by rw [push_over, h.many, if_pos (.inr hc)]
      have hke : (k : Int) = most := by have := h.2.1; omega
      have hdec : decide ((i : Int) < most) = false := by simp; omega
      obtain ⟨k', μ', e1, e2, e3, e4⟩ := pushes_over l r (i + 1) k μ hr h (by omega) (by omega)
      refine ⟨k', μ', ?_, e2, by simp; omega, Prog.Within.bind hw ?_⟩
      · show ((push 1 most x >>= fun ok => _ : Prog (Nat × Bool))).over μ = _
        rw [Prog.over_bind, hov]
        simpa [hdec] using e1
      · rw [hov]
        simpa [hdec] using e4
    · have hov : (push 1 most x).over μ = (true, upd (upd μ (1 + 1 + k) x) 1 (k + 1)) := by rw [push_over, h.many, if_neg (fun e => e.elim h.no hc)]
      have hki : k = i := by
        by_cases e : (i : Int) ≤ most
        · exact h1 e
        · have := h2 (by omega); omega
      subst hki
      have hdec : decide ((k : Int) < most) = true := by simp; omega
      have h' : HasF most l (k + 1) (upd (upd μ (1 + 1 + k) x) 1 (k + 1)) := by
        refine ⟨by simp [upd], by omega, fun j hj => ?_⟩
        unfold upd
        rw [if_neg (by omega)]
        by_cases e : j = k
        · subst e; rw [if_pos (by omega), hx]
        · rw [if_neg (by omega)]; exact h.2.2 j (by omega)
      obtain ⟨k', μ', e1, e2, e3, e4⟩ := pushes_over l r (k + 1) (k + 1) _ hr h' (by omega) (by omega)
      refine ⟨k', μ', ?_, e2, by simp; omega, Prog.Within.bind hw ?_⟩
      · show ((push 1 most x >>= fun ok => _ : Prog (Nat × Bool))).over μ = _
        rw [Prog.over_bind, hov]
        simpa [hdec] using e1
      · rw [hov]
        simpa [hdec] using e4
theorem pops_over {most : Int} (l : List Int) : ∀ (n : Nat) (μ : Int → Int), n ≤ l.length → HasF most l n μ →
    ∃ μ', (pops most l n true).over μ = (true, μ') ∧ HasF most l 0 μ' ∧ Prog.Within (most + 2) (pops most l n true) μ
  | 0, μ, _, h => ⟨μ, rfl, h, Prog.Within.pure _ _ _⟩
  | n + 1, μ, hn, h => by
    have hov : (pop 1 most).over μ = ((l.getD n 0, true), upd μ 1 n) := by
      rw [pop_over, h.many, if_neg (by omega)]
      have e1 : ((n + 1 : Nat) : Int) - 1 = n := by omega
      rw [e1]
      have : upd μ 1 n (1 + ((n + 1 : Nat) : Int)) = l.getD n 0 := by
        unfold upd
        rw [if_neg (by omega), show (1 : Int) + ((n + 1 : Nat) : Int) = 2 + (n : Nat) by omega]
        exact h.2.2 n (by omega)
      rw [this]
    have h' : HasF most l n (upd μ 1 n) := ⟨by simp [upd], by have := h.2.1; omega, fun j hj => by
      unfold upd; rw [if_neg (by omega)]; exact h.2.2 j (by omega)⟩
    obtain ⟨μ', e1, e2, e3⟩ := pops_over l n _ (by omega) h'
    have hw : Prog.Within (most + 2) (pop 1 most) μ := pop_within (.inr (by omega)) μ
    have hu : pops most l (n + 1) true = (pop 1 most >>= fun x => pops most l n (true && x.2 && decide (x.1 = l.getD n 0))) := by
      rw [pops, if_pos (by omega)]
    refine ⟨μ', ?_, e2, ?_⟩
    · rw [hu, Prog.over_bind, hov]
      simpa using e1
    · rw [hu]
      refine Prog.Within.bind hw ?_
      rw [hov]
      simpa using e3

/-- .. so all is right -/
theorem last_right {most : Int} (h0 : 0 ≤ most) (l : List Int) (μ : Int → Int) (hz : μ 1 = 0) : ((lastP most l).over μ).1 = true ∧ Prog.Within (most + 2) (lastP most l) μ := by
  have h : HasF most l 0 μ := ⟨by simpa using hz, by simpa using h0, fun j hj => by omega⟩
  obtain ⟨k, μ1, e1, e2, e3, e4⟩ := pushes_over l l 0 0 μ rfl h (fun _ => rfl) (fun h => by omega)
  have em : (midP most l k true).over μ1 = (true, μ1) := by
    unfold midP
    rw [if_pos rfl, Prog.over_bind, many_over, e2.many]
    simp; omega
  have wm : Prog.Within (most + 2) (midP most l k true) μ1 := by
    unfold midP
    rw [if_pos rfl]
    exact Prog.Within.bind (many_within (.inr (by omega)) μ1) (Prog.Within.pure _ _ _)
  obtain ⟨μ2, f1, f2, f3⟩ := pops_over l k μ1 (by omega) e2
  have hp : (pop 1 most).over μ2 = ((0, false), μ2) := by rw [pop_over, f2.many]; rfl
  constructor
  · unfold lastP
    rw [Prog.over_bind, e1, Prog.over_bind, em, Prog.over_bind, f1, Prog.over_bind, hp]
    rfl
  · unfold lastP
    refine Prog.Within.bind e4 ?_
    rw [e1]
    refine Prog.Within.bind wm ?_
    rw [em]
    refine Prog.Within.bind f3 ?_
    rw [f1]
    refine Prog.Within.bind (pop_within (.inr (by omega)) μ2) (Prog.Within.pure _ _ _)
end Stk
end Go.Proofs.Ytfmjcinhjbihoab
