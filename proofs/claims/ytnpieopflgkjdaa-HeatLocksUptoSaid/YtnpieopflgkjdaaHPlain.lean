import Derived.Test.YtnpieopflgkjdaaRefWorst
namespace Go.Proofs.Ytnpieopflgkjdaa
open Go.RowKit Go.Bas
open Lay RefLay Of Txs Lock Locks
namespace RefHeat

/-- both ways to the worst lock are one -/
theorem big_rb (R W : Nat → Int) : ∀ k, wrap64 ((Worst.big R W k).2.1 + (Worst.big R W k).2.2.1) = (rb R W k).1 ∧ (Worst.big R W k).1 = (rb R W k).2.1 ∧ (Worst.big R W k).2.2.2 = (rb R W k).2.2
  | 0 => by simp [Worst.big, rb, wrap64]
  | k + 1 => by
    obtain ⟨h1, h2, h3⟩ := big_rb R W k
    have e : wrap64 ((rb R W k).2.2 + wrap64 (R k + W k)) = wrap64 (wrap64 ((rb R W k).2.2 + R k) + W k) := by unfold wrap64; omega
    simp only [Worst.big, rb, h1, h3]
    split
    · exact ⟨rfl, rfl, e⟩
    · exact ⟨h1, h2, e⟩

theorem rb_in {R W : Nat → Int} {T : Int} (hT : T ≤ 2097152) (h : ∀ i, 0 ≤ R i ∧ R i ≤ T ∧ 0 ≤ W i ∧ W i ≤ T) : ∀ k : Nat, k ≤ 64 → 0 ≤ (rb R W k).1 ∧ (rb R W k).1 ≤ (rb R W k).2.2 ∧ (rb R W k).2.2 ≤ 2 * T * k ∧ ((rb R W k).1 = 0 → (rb R W k).2.1 = 0 ∧ (rb R W k).2.2 = 0)
  | 0, _ => by simp [rb]
  | k + 1, hk => by
    obtain ⟨h1, h2, h3, h4⟩ := rb_in hT h k (by omega)
    obtain ⟨a1, a2, a3, a4⟩ := h k
    have hTk : 2 * T * (k : Int) ≤ 2 * 2097152 * 64 := by
      have h0 : 0 ≤ T := by omega
      have : T * (k : Int) ≤ 2097152 * 64 := Int.mul_le_mul hT (by omega) (by omega) (by omega)
      rw [Int.mul_assoc]; omega
    have hnext : 2 * T * ((k + 1 : Nat) : Int) = 2 * T * k + 2 * T := by push_cast; rw [Int.mul_add]; omega
    have e1 : wrap64 (R k + W k) = R k + W k := by unfold wrap64; omega
    have e2 : wrap64 ((rb R W k).2.2 + R k) = (rb R W k).2.2 + R k := by unfold wrap64; omega
    have e3 : wrap64 ((rb R W k).2.2 + R k + W k) = (rb R W k).2.2 + R k + W k := by unfold wrap64; omega
    rw [hnext]
    simp only [rb, e1, e2, e3]
    split
    · refine ⟨by dsimp only; omega, by dsimp only; omega, by dsimp only; omega, fun h0 => ?_⟩
      dsimp only at h0; omega
    · refine ⟨h1, by dsimp only; omega, by dsimp only; omega, fun h0 => ?_⟩
      dsimp only at h0 ⊢
      obtain ⟨g1, g2⟩ := h4 h0
      exact ⟨g1, by omega⟩

theorem hit_in (c : Cfg) (i : Nat) : ∀ (ps : List (Int × Int)) (n : Int), 0 ≤ n → n + ps.length ≤ 1099511627776 → 0 ≤ hit c i n ps ∧ hit c i n ps ≤ n + ps.length
  | [], n, h, _ => by simp [hit, h]
  | p :: ps, n, h, hn => by
    simp only [List.length_cons] at hn ⊢
    push_cast at hn ⊢
    show 0 ≤ hit c i (if lockOf c p.1 = 3 + i then wrap64 (n + 1) else n) ps ∧ hit c i (if lockOf c p.1 = 3 + i then wrap64 (n + 1) else n) ps ≤ _
    have e : wrap64 (n + 1) = n + 1 := by unfold wrap64; omega
    split
    · rw [e]
      have := hit_in c i ps (n + 1) (by omega) (by omega)
      omega
    · have := hit_in c i ps n h (by omega)
      omega
theorem rds_in (c : Cfg) (i : Nat) : ∀ (l : List Tx) (n : Int), 0 ≤ n → n + total l ≤ 1099511627776 → 0 ≤ l.foldl (fun n t => hit c i n t.reads) n ∧ l.foldl (fun n t => hit c i n t.reads) n ≤ n + total l
  | [], n, h, _ => by simp [total, h]
  | t :: l, n, h, hn => by
    simp only [total] at hn ⊢
    push_cast at hn ⊢
    obtain ⟨h1, h2⟩ := hit_in c i t.reads n h (by omega)
    have := rds_in c i l (hit c i n t.reads) h1 (by omega)
    simp only [List.foldl_cons]
    omega
theorem wrs_in (c : Cfg) (i : Nat) : ∀ (l : List Tx) (n : Int), 0 ≤ n → n + total l ≤ 1099511627776 → 0 ≤ l.foldl (fun n t => if t.sure then hit c i n t.writes else n) n ∧ l.foldl (fun n t => if t.sure then hit c i n t.writes else n) n ≤ n + total l
  | [], n, h, _ => by simp [total, h]
  | t :: l, n, h, hn => by
    simp only [total] at hn ⊢
    push_cast at hn ⊢
    obtain ⟨h1, h2⟩ := hit_in c i t.writes n h (by omega)
    simp only [List.foldl_cons]
    cases t.sure with
    | true =>
      have := wrs_in c i l (hit c i n t.writes) h1 (by omega)
      simp only [if_true]
      omega
    | false =>
      have := wrs_in c i l n h (by omega)
      simp only [Bool.false_eq_true, if_false]
      omega

/-- of few pairs: what both tell -/
theorem told {c : Cfg} (F : Fine c) {l : List Tx} (h : total l ≤ 1048576) :
    (¬ (rb (rds c l) (wrs c l) c.stripes.toNat).1 = 0 → ¬ (rb (rds c l) (wrs c l) c.stripes.toNat).2.2 = 0) ∧
    ((rb (rds c l) (wrs c l) c.stripes.toNat).1 = 0 → (rb (rds c l) (wrs c l) c.stripes.toNat).2.1 = 0 ∧ (rb (rds c l) (wrs c l) c.stripes.toNat).2.2 = 0) ∧ 0 ≤ (rb (rds c l) (wrs c l) c.stripes.toNat).2.2 := by
  have hst := F.stripes
  have hb : ∀ i, 0 ≤ rds c l i ∧ rds c l i ≤ (total l : Int) ∧ 0 ≤ wrs c l i ∧ wrs c l i ≤ (total l : Int) := fun i => by
    have h1 := rds_in c i l 0 (by omega) (by omega)
    have h2 := wrs_in c i l 0 (by omega) (by omega)
    unfold rds wrs
    omega
  obtain ⟨h1, h2, h3, h4⟩ := rb_in (T := total l) (by omega) hb c.stripes.toNat (by omega)
  exact ⟨fun h => by omega, h4, by omega⟩

end RefHeat
end Go.Proofs.Ytnpieopflgkjdaa
