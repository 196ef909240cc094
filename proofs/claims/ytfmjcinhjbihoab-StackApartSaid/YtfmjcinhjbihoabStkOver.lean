import Derived.Test.YtfmjcinhjbihoabStkPlain
/- stacks over words that are there: plain Lean -/
namespace Go.Proofs.Ytfmjcinhjbihoab
open SorPlain IMap_ VIn VPlain
namespace Stk
/-- how many things are kept -/
def manyV (b l : Int) (μ : Int → Int) : Int := if noStk b l = true then 0 else if 0 ≤ μ b ∧ μ b ≤ l then μ b else 0
def upd (μ : Int → Int) (a x : Int) : Int → Int := fun b => if b = a then x else μ b
theorem noStk_false {b l : Int} (h : noStk b l = false) : 1 ≤ b ∧ 0 ≤ l := by
  unfold noStk at h
  simp only [Bool.or_eq_false_iff, decide_eq_false_iff_not] at h
  omega
theorem many_over (b l : Int) (μ : Int → Int) : (many b l).over μ = (manyV b l μ, μ) := by
  unfold many manyV
  by_cases h : noStk b l = true
  · rw [if_pos h, if_pos h]; rfl
  · rw [if_neg h, if_neg h]
    have hb := noStk_false (by simpa using h : noStk b l = false)
    rw [Prog.over_bind, Prog.over_rd1, if_neg (show ¬ b < 0 by omega)]
    rfl
theorem manyV_le (b l : Int) (μ : Int → Int) : 0 ≤ manyV b l μ ∧ (manyV b l μ = 0 ∨ (manyV b l μ ≤ l ∧ noStk b l = false)) := by
  unfold manyV
  split
  · omega
  · rename_i h
    split
    · rename_i h2; exact ⟨h2.1, .inr ⟨h2.2, by simpa using h⟩⟩
    · omega
theorem push_over (b l a : Int) (μ : Int → Int) : (push b l a).over μ = if noStk b l = true ∨ l ≤ manyV b l μ then (false, μ) else (true, upd (upd μ (b + 1 + manyV b l μ) a) b (manyV b l μ + 1)) := by
  unfold push
  rw [Prog.over_bind, many_over]
  by_cases h : noStk b l = true ∨ l ≤ manyV b l μ
  · rw [if_pos h, if_pos h]; rfl
  · rw [if_neg h, if_neg h]
    have hb := noStk_false (by simpa using fun e => h (.inl e) : noStk b l = false)
    have hm := (manyV_le b l μ).1
    rw [Prog.over_bind, Prog.over_wr1, Prog.over_bind, Prog.over_wr1, if_neg (by omega), if_neg (by omega)]
    rfl
theorem pop_over (b l : Int) (μ : Int → Int) : (pop b l).over μ = if manyV b l μ = 0 then ((0, false), μ) else ((upd μ b (manyV b l μ - 1) (b + manyV b l μ), true), upd μ b (manyV b l μ - 1)) := by
  unfold pop
  rw [Prog.over_bind, many_over]
  by_cases h : manyV b l μ = 0
  · rw [if_pos h, if_pos h]; rfl
  · rw [if_neg h, if_neg h]
    obtain ⟨hm, h2⟩ := manyV_le b l μ
    have hb := noStk_false (h2.resolve_left h).2
    rw [Prog.over_bind, Prog.over_wr1, Prog.over_bind]
    unfold thing
    rw [Prog.over_rd1, if_neg (by omega : ¬ b < 0), if_neg (by omega), show b + 1 + (manyV b l μ - 1) = b + manyV b l μ by omega]
    rfl
theorem many_within {L b l : Int} (h : noStk b l = true ∨ b < L) (μ : Int → Int) : (many b l).Within L μ := by
  unfold many
  by_cases hn : noStk b l = true
  · rw [if_pos hn]; exact Prog.Within.pure _ _ _
  · rw [if_neg hn]
    exact Prog.Within.bind (Prog.Within.rd1 (h.resolve_left hn) μ) (Prog.Within.pure _ _ _)
theorem push_within {L b l : Int} (h : noStk b l = true ∨ b + l < L) (a : Int) (μ : Int → Int) : (push b l a).Within L μ := by
  unfold push
  have hm := manyV_le b l μ
  have h0 : noStk b l = true ∨ b < L := by
    by_cases e : noStk b l = true
    · exact .inl e
    · have := noStk_false (by simpa using e : noStk b l = false)
      have := h.resolve_left e
      exact .inr (by omega)
  refine Prog.Within.bind (many_within h0 μ) ?_
  rw [many_over]
  show Prog.Within L (if _ then _ else _) μ
  split
  · exact Prog.Within.pure _ _ _
  · rename_i hc
    have e : ¬ noStk b l = true := fun e => hc (.inl e)
    have hl : ¬ l ≤ manyV b l μ := fun e => hc (.inr e)
    have h1 := h.resolve_left e
    refine Prog.Within.bind (Prog.Within.wr1 (show b + 1 + manyV b l μ < L by omega) a _) (Prog.Within.bind (Prog.Within.wr1 (h0.resolve_left e) _ _) (Prog.Within.pure _ _ _))
theorem pop_within {L b l : Int} (h : noStk b l = true ∨ b + l < L) (μ : Int → Int) : (pop b l).Within L μ := by
  unfold pop
  have hm := manyV_le b l μ
  have h0 : noStk b l = true ∨ b < L := by
    by_cases e : noStk b l = true
    · exact .inl e
    · have := noStk_false (by simpa using e : noStk b l = false)
      have := h.resolve_left e
      exact .inr (by omega)
  refine Prog.Within.bind (many_within h0 μ) ?_
  rw [many_over]
  show Prog.Within L (if _ then _ else _) μ
  split
  · exact Prog.Within.pure _ _ _
  · rename_i hc
    obtain ⟨h2, h3⟩ := hm.2.resolve_left hc
    have e : ¬ noStk b l = true := by simp [h3]
    have h1 := h.resolve_left e
    refine Prog.Within.bind (Prog.Within.wr1 (h0.resolve_left e) _ _) (Prog.Within.bind ?_ (Prog.Within.pure _ _ _))
    exact Prog.Within.rd1 (show b + 1 + (manyV b l μ - 1) < L by omega) _

/-- one call of a stack -/
def actP (kind b x : Int) : Prog Unit := if kind = 2 then pop b 4 >>= fun _ => pure () else push b 4 x >>= fun _ => pure ()
theorem actP_writes (kind b x : Int) : (actP kind b x).Writes 2 := by
  unfold actP
  split
  · exact Prog.Writes.mono (Prog.Writes.bind (k := 0) (pop_writes _ _) fun _ => Prog.Writes.pure _ _) (by omega)
  · exact Prog.Writes.bind (k := 0) (push_writes _ _ _) fun _ => Prog.Writes.pure _ _
theorem actP_within {L b : Int} (h : b + 4 < L) (kind x : Int) (μ : Int → Int) : (actP kind b x).Within L μ := by
  unfold actP
  split
  · exact Prog.Within.bind (pop_within (.inr h) μ) (Prog.Within.pure _ _ _)
  · exact Prog.Within.bind (push_within (.inr h) x μ) (Prog.Within.pure _ _ _)
/-- .. changes its own words alone -/
theorem actP_apart {b : Int} (kind x : Int) (μ : Int → Int) {i : Int} (h : i < b ∨ b + 4 < i) : ((actP kind b x).over μ).2 i = μ i := by
  have hm := manyV_le b 4 μ
  unfold actP
  split
  · rw [Prog.over_bind, pop_over]
    show (if _ then _ else _ : (Int × Bool) × (Int → Int)).2 i = μ i
    split
    · rfl
    · exact if_neg (by omega)
  · rw [Prog.over_bind, push_over]
    show (if _ then _ else _ : Bool × (Int → Int)).2 i = μ i
    split
    · rfl
    · rename_i hc
      have hl : ¬ 4 ≤ manyV b 4 μ := fun e => hc (.inr e)
      show upd _ _ _ _ = _
      unfold upd
      rw [if_neg (by omega), if_neg (by omega)]
end Stk
end Go.Proofs.Ytfmjcinhjbihoab
