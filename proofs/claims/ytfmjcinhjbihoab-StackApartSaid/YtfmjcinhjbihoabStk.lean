import Derived.Test.YtfmjcinhjbihoabDoes
import Derived.Test.YtfmjcinhjbihoabStkPlain
import Derived.Laws.Rows
/- stack: each function is the plain one -/
namespace Go.Proofs.Ytfmjcinhjbihoab
open Go.RowKit Go.Bas SorPlain Go.Sor IMap_ VIn VPlain MapI
namespace Stk
open View

/-- the words of a stack -/
def row (bv : Nat) (b l : Int) : Array Value := #[.pointer (some ⟨bv, 0, none⟩), .int .i64 b, .int .i64 l]
theorem row_size : (Try.prog.info? 54).map (·.size) = some 3 := by kernel_rfl
/-- a stack that is none, or lies where words may be -/
def Lies (b l : Int) : Prop := noStk b l = true ∨ (1 ≤ b ∧ b ≤ 1000000000 ∧ 0 ≤ l ∧ l ≤ 1000000000)

section
variable {A : View.Ask} {P : Nat → Prop} {bv bm : Nat} {qs : List Int} {m : M} {w : World}

set_option maxHeartbeats 1000000 in
theorem none_any (bv : Nat) (b l : Int) (w : World) :
    Calls Try.prog 31 #[.agg #[.pointer (some ⟨bv, 0, none⟩), .int .i64 b, .int .i64 l]] w fun e w' => e = .returned (.bool (noStk b l)) ∧ Below w.heap.size w w' := by
  obtain ⟨w1, hw1⟩ : ∃ w1, w.alloc (.cells #[.pointer (some ⟨bv, 0, none⟩), .int .i64 b, .int .i64 l] 54) = w1 := ⟨_, rfl⟩
  have r1 : w1.heap[w.heap.size]? = some (.cells #[.pointer (some ⟨bv, 0, none⟩), .int .i64 b, .int .i64 l] 54 (0, 0)) := by rw [← hw1]; exact new_row _ _ _
  have k1 : w1.cell? ⟨w.heap.size, 1, none⟩ = some (.int .i64 b) := by rw [cell_of_row _ _ _ _ _ _ r1]; rfl
  have k2 : w1.cell? ⟨w.heap.size, 2, none⟩ = some (.int .i64 l) := by rw [cell_of_row _ _ _ _ _ _ r1]; rfl
  have HO : Hid (Below w.heap.size w w1) := by rw [← hw1]; exact (Below.refl _ _).alloc (Nat.le_refl _) _
  clear r1
  by_cases h1 : b < 1
  · have e : noStk b l = true := by simp [noStk, h1]
    rw [e]
    clear e
    go_enter Try.func31, Try.ntmps31
    go_wp2
    go_ret
    exact ⟨rfl, HO.out⟩
  · obtain ⟨z, hz⟩ : ∃ z, decide (l < 0) = z := ⟨_, rfl⟩
    have e : noStk b l = z := by simp [noStk, h1, hz]
    rw [e]
    clear e
    go_enter Try.func31, Try.ntmps31
    go_wp2
    go_ret
    exact ⟨rfl, HO.out⟩


set_option maxRecDepth 100000 in
set_option maxHeartbeats 2000000 in
theorem many_does (h : VWs A P bv bm true qs m w) (hlen : m.length ≤ 1000000) {b l : Int} (hL : Lies b l) :
    Calls Try.prog 23 #[.agg #[.pointer (some ⟨bv, 0, none⟩), .int .i64 b, .int .i64 l]] w (Does A P bv bm (many b l) m qs w IntRes) := by
  obtain ⟨g, hg⟩ : ∃ g, w.heap.size = g := ⟨_, rfl⟩
  obtain ⟨w1, hw1⟩ : ∃ w1, w.alloc (.cells #[.pointer (some ⟨bv, 0, none⟩), .int .i64 b, .int .i64 l] 54) = w1 := ⟨_, rfl⟩
  have UB : Hid (∀ e w', Does A (fun k => P k ∨ k = g) bv bm (many b l) m qs w1 IntRes e w' → Does A P bv bm (many b l) m qs w IntRes e w') := by rw [← hw1, ← hg]; exact fun e w' h => h.unbox
  have hv1 : VWs A (fun k => P k ∨ k = g) bv bm true qs m w1 := by rw [← hw1, ← hg]; exact h.box _
  have r1 : w1.heap[g]? = some (.cells #[.pointer (some ⟨bv, 0, none⟩), .int .i64 b, .int .i64 l] 54 (0, 0)) := by rw [← hw1, ← hg]; exact new_row _ _ _
  have R1 := Lib.hid r1
  have hs1 : g + 1 ≤ w1.heap.size := by rw [← hw1, ← hg]; simp
  obtain ⟨P1, hP1⟩ : ∃ P1, (fun k => P k ∨ k = g) = P1 := ⟨_, rfl⟩
  have PG : Hid (P1 g) := by rw [← hP1]; exact .inr rfl
  rw [hP1] at UB hv1
  have HV1 := Lib.hid hv1
  have NO := none_any bv b l w1
  clear h r1 hv1 hP1
  by_cases hn : noStk b l = true
  · rw [hn] at NO
    have HR : Hid ((many b l).run A.f m qs = (.inr 0, m, qs)) := by rw [Hid, many, if_pos hn]; rfl
    clear hn hL
    go_enter Try.func23, Try.ntmps23
    go_wp2_with (first
      | (refine wpList_load_row rfl 54 _ rfl g rfl 54 #[.pointer (some ⟨bv, 0, none⟩), .int .i64 b, .int .i64 l] (0, 0) _ R1.out Try.underlying54 rfl row_size ?_)
      | (go_at_call 31; refine NO.mono ?_; rintro e w2 ⟨rfl, hb2⟩))
    go_ret
    exact UB.out _ _ (.inr ⟨0, _, m, qs, HR.out, rfl, ⟨rfl, by unfold In64; omega⟩, HV1.out.new hb2, (Chg.of_below hb2).mono (fun k hk h => by omega)⟩)
  · have hf : noStk b l = false := by simpa using hn
    rw [hf] at NO
    have hb : In64 b := by
      rcases hL with h | h
      · exact absurd h hn
      · unfold In64; omega
    have HMB : Hid (many b l = (Prog.rd1 b >>= fun n => pure (if 0 ≤ n ∧ n ≤ l then n else 0))) := by rw [Hid, many, if_neg hn]
    have RD : Hid (∀ w2, Below w1.heap.size w1 w2 → Calls Try.prog 32 #[.pointer (some ⟨bv, 0, none⟩), .int .i64 b] w2 (Does A P1 bv bm (Prog.rd1 b) m qs w2 IntRes)) := fun w2 hb2 => read_does (HV1.out.new hb2) hlen b hb
    clear hn hL hf hb
    go_enter Try.func23, Try.ntmps23
    go_upto_region 4 with (first
      | (refine wpList_load_row rfl 54 _ rfl g rfl 54 #[.pointer (some ⟨bv, 0, none⟩), .int .i64 b, .int .i64 l] (0, 0) _ R1.out Try.underlying54 rfl row_size ?_)
      | (go_at_call 31; refine NO.mono ?_; rintro e w2 ⟨rfl, hb2⟩
         have R2 : Hid (w2.heap[g]? = some (.cells #[.pointer (some ⟨bv, 0, none⟩), .int .i64 b, .int .i64 l] 54 (0, 0))) := by rw [Hid, hb2.block g (by omega)]; exact R1.out
         have k0 : w2.cell? ⟨g, 0, none⟩ = some (.pointer (some ⟨bv, 0, none⟩)) := by rw [cell_of_row _ _ _ _ _ _ R2.out]; rfl
         have k1 : w2.cell? ⟨g, 1, none⟩ = some (.int .i64 b) := by rw [cell_of_row _ _ _ _ _ _ R2.out]; rfl
         have RD2 := RD.out w2 hb2
         have B2 : Hid (Kept P1 w1 w2) := (Chg.of_below hb2).mono (fun k hk h => by omega)
         clear hb2)
      | (go_at_call 32; refine RD2.mono ?_; rintro e w3 (⟨a, m3, q3, e3, rfl, v3, k3⟩ | ⟨y, _, m3, q3, e3, rfl, ⟨rfl, i3⟩, v3, k3⟩)))
    · exact ⟨rfl, UB.out _ _ (.inl ⟨a, m3, q3, by rw [HMB.out]; exact Prog.run_inl e3, rfl, v3, B2.out.trans k3⟩)⟩
    · have FIN : Hid (∀ z, (if 0 ≤ y ∧ y ≤ l then y else 0) = z → Does A P bv bm (many b l) m qs w IntRes (.returned (.int .i64 z)) w3) := fun z hz =>
        UB.out _ _ (.inr ⟨z, _, m3, q3, by rw [HMB.out, Prog.run_inr e3, Prog.run_pure, hz], rfl, ⟨rfl, by rw [← hz]; split; exact i3; unfold In64; omega⟩, v3, B2.out.trans k3⟩)
      have k2 : w3.cell? ⟨g, 2, none⟩ = some (.int .i64 l) := by rw [cell_of_row _ _ _ _ _ _ (Kept.row k3 R2.out PG.out)]; rfl
      clear e3 v3 k3 i3 RD2 B2 k0 k1
      by_cases h0 : 0 ≤ y
      · by_cases h1 : y ≤ l
        · go_wp2
          go_ret
          exact FIN.out _ (if_pos ⟨h0, h1⟩)
        · go_wp2
          go_ret
          exact FIN.out _ (if_neg (by omega))
      · go_wp2
        go_ret
        exact FIN.out _ (if_neg (by omega))

set_option maxRecDepth 100000 in
set_option maxHeartbeats 2000000 in
theorem thing_does (h : VWs A P bv bm true qs m w) (hlen : m.length ≤ 1000000) {b l : Int} (i : Int) (hb : 1 ≤ b ∧ b ≤ 1000000000) (hi : 0 ≤ i ∧ i ≤ 1000000000) :
    Calls Try.prog 26 #[.agg #[.pointer (some ⟨bv, 0, none⟩), .int .i64 b, .int .i64 l], .int .i64 i] w (Does A P bv bm (thing b i) m qs w IntRes) := by
  obtain ⟨g, hg⟩ : ∃ g, w.heap.size = g := ⟨_, rfl⟩
  obtain ⟨w1, hw1⟩ : ∃ w1, w.alloc (.cells #[.pointer (some ⟨bv, 0, none⟩), .int .i64 b, .int .i64 l] 54) = w1 := ⟨_, rfl⟩
  have UB : Hid (∀ e w', Does A (fun k => P k ∨ k = g) bv bm (thing b i) m qs w1 IntRes e w' → Does A P bv bm (thing b i) m qs w IntRes e w') := by rw [← hw1, ← hg]; exact fun e w' h => h.unbox
  have hv1 : VWs A (fun k => P k ∨ k = g) bv bm true qs m w1 := by rw [← hw1, ← hg]; exact h.box _
  have r1 : w1.heap[g]? = some (.cells #[.pointer (some ⟨bv, 0, none⟩), .int .i64 b, .int .i64 l] 54 (0, 0)) := by rw [← hw1, ← hg]; exact new_row _ _ _
  have k0 : w1.cell? ⟨g, 0, none⟩ = some (.pointer (some ⟨bv, 0, none⟩)) := by rw [cell_of_row _ _ _ _ _ _ r1]; rfl
  have k1 : w1.cell? ⟨g, 1, none⟩ = some (.int .i64 b) := by rw [cell_of_row _ _ _ _ _ _ r1]; rfl
  have RD := Lib.hid (read_does hv1 hlen (b + 1 + i) (by unfold In64; omega))
  obtain ⟨hb1, hb2⟩ := hb
  obtain ⟨hi1, hi2⟩ := hi
  clear h r1 hv1
  go_enter Try.func26, Try.ntmps26
  go_wp2_with (first
    | (go_at_call 32; refine RD.out.mono ?_; rintro e w3 (⟨a, m3, q3, e3, rfl, v3, k3⟩ | ⟨y, _, m3, q3, e3, rfl, ⟨rfl, i3⟩, v3, k3⟩)))
  · exact ⟨rfl, UB.out _ _ (.inl ⟨a, m3, q3, e3, rfl, v3, k3⟩)⟩
  · go_ret
    exact UB.out _ _ (.inr ⟨y, _, m3, q3, e3, rfl, ⟨rfl, i3⟩, v3, k3⟩)

end
end Stk
end Go.Proofs.Ytfmjcinhjbihoab
