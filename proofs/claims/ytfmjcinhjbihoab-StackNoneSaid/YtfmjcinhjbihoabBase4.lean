import Derived.Test.YtfmjcinhjbihoabBase3
import Derived.StillTailTactics
/- a region that draws its order: a head whose operations read, and whose callees only add to memory; then a tail in one forced order (a store at the end) -/
namespace Go.Bas
open Go.RowKit

/-- the head in whatever order, then L -/
def Head (P : Program) (ops : Array Oper) (C : World → Prop) (n : Nat) (L : Array Bool → Act → Prop) : Nat → Array Bool → Act → Prop
  | 0, done, a => L done a
  | f + 1, done, a => Region.ready .any ops done ≠ [] ∧ ∀ i, i ∈ Region.ready .any ops done → i < n ∧ qOp P ops C i (Head P ops C n L f (done.setIfInBounds i true)) a

theorem Head.any {P : Program} {ops : Array Oper} {C : World → Prop} {n g : Nat} {L : Array Bool → Act → Prop} {Q : Exit → Act → World → Prop}
    (hL : ∀ done a w, C w → L done a → wpAny P .any ops Q g done a w) : ∀ (f : Nat) (done : Array Bool) (a : Act) (w : World), C w → Head P ops C n L f done a → wpAny P .any ops Q (g + f) done a w
  | 0, done, a, w, hw, h => hL done a w hw h
  | f + 1, _, _, _, hw, h => ⟨fun e => absurd e h.1, fun i hi => wpOp_of_qOp hw (fun a' w' hw' hk => Head.any hL f _ a' w' hw' hk) (h.2 i hi).2⟩

/-- what may come first may be taken first -/
theorem Head.front {P : Program} {ops : Array Oper} {C : World → Prop} {n i : Nat} {o : Oper} {v : Value} {L : Array Bool → Act → Prop}
    (hs : Region.sinkB .any ops n = true) (hc : Region.chainB .any ops n = true) (hn : n < ops.size) (hsel : ∀ (j : Nat) (o : Oper) cs b, ops[j]? = some o → o.op ≠ .select cs b)
    (ho : ops[i]? = some o) (hin : i < n) (hL : ∀ done a, L done a → ∀ j, j ∈ Region.ready .any ops done → n ≤ j) :
    ∀ (f : Nat) (done : Array Bool) (a : Act), HeadInv .any ops n done → i ∈ Region.ready .any ops done → YieldsIn P ops C o v a →
      (∀ j oj, ops[j]? = some oj → j ≠ i → done.getD j true = false → (∀ e ∈ oj.after, Region.binds .any e = true → e.on ≠ i) → o.apart ops oj = true) →
      Head P ops C n L f (done.setIfInBounds i true) (a.put o.dst v) → Head P ops C n L (f + 1) done a := by
  intro f
  induction f with
  | zero =>
    intro done a inv hr hy _ H
    refine ⟨List.ne_nil_of_mem hr, fun j hj => ?_⟩
    have hjn : j < n := Nat.lt_of_not_le fun h => tail_waits hs hc hn inv _ i rfl hin (mem_ready.1 hr).1 j h hj
    refine ⟨hjn, ?_⟩
    by_cases e : j = i
    · rw [e]; exact hy.qOp ho H
    · exact absurd (hL _ _ H j (ready_mono hj e)) (Nat.not_le.2 hjn)
  | succ f ih =>
    intro done a inv hr hy hfree H
    refine ⟨List.ne_nil_of_mem hr, fun j hj => ?_⟩
    have hjn : j < n := Nat.lt_of_not_le fun h => tail_waits hs hc hn inv _ i rfl hin (mem_ready.1 hr).1 j h hj
    refine ⟨hjn, ?_⟩
    by_cases e : j = i
    · rw [e]; exact hy.qOp ho H
    · obtain ⟨hjd, oj, hoj, hall⟩ := mem_ready.1 hj
      have hne : ∀ x ∈ oj.after, Region.binds .any x = true → x.on ≠ i := fun x hx hb he => by
        have h0 := hall x hx hb
        rw [he, getD_both (mem_ready.1 hr).1] at h0
        exact Bool.noConfusion h0
      refine qOp_mono (fun a' h3 => ih (done.setIfInBounds j true) a' (inv.set hj hjn) (ready_mono hr (Ne.symm e)) h3.1 (fun k ok hk hki hkd hkn => ?_) ?_)
        (qOp_put hoj (hfree j oj hoj e hjd hne) (fun cs b => hsel i o cs b ho) (fun cs b => hsel j oj cs b hoj) hy (H.2 j (ready_mono hj e)).2)
      · refine hfree k ok hk hki ?_ hkn
        by_cases hjk : j = k
        · rw [← hjk]; exact hjd
        · rwa [getD_set_ne true hjk] at hkd
      · rw [Array.setIfInBounds_comm _ _ e]; exact h3.2

theorem Head.lex {P : Program} {ops : Array Oper} {C : World → Prop} {n g : Nat} {Q : Act → Prop} (hsel : Region.noSelect ops = true)
    (hs : Region.sinkB .any ops n = true) (hc : Region.chainB .any ops n = true) (hn : n < ops.size) :
    ∀ (l : List Oper) (k : Nat) (done : Array Bool) (a : Act), (∀ j, j < l.length → l[j]? = ops[k + j]?) → k + l.length = n → HeadInv .any ops n done →
      Region.lexHead .any ops g l.length k done = true → wpQuiet P ops C Q l a → Head P ops C n (fun d' a' => Region.seqB .any ops g n d' = true ∧ Q a') l.length done a
  | [], k, _, _, _, hk, _, hB, h => by
    obtain rfl : k = n := by simpa using hk
    exact ⟨hB, h⟩
  | o :: l, k, done, a, hl, hk, inv, hB, h => by
    simp only [List.length_cons] at hk
    have h0 : ops[k]? = some o := by simpa using (hl 0 (by simp)).symm
    simp only [List.length_cons, Region.lexHead, Bool.and_eq_true] at hB
    have hr : k ∈ Region.ready .any ops done := by simpa using hB.1.1
    have hq : qOp P ops C k (wpQuiet P ops C Q l) a := by unfold qOp; simp only [h0]; exact h
    obtain ⟨v, hy, hK⟩ := yieldsIn_of_qOp h0 hq
    exact Head.front hs hc hn (Region.noSelect_spec hsel) h0 (by omega) (fun d' a' hL => seqB_ready hL.1) l.length done a inv hr hy (Region.free_spec h0 hB.1.2)
      (Head.lex hsel hs hc hn l (k + 1) _ _ (fun j hj => by have := hl (j + 1) (by simp; omega); simpa [Nat.add_assoc, Nat.add_comm 1 j] using this) (by omega) (inv.set hr (by omega)) hB.2 hK)

/-- THE LAW: the head (n operations) in the order of the text, in every world that memory may have been added to; then the tail, in that world -/
theorem wp_region_mono_tail {P : Program} {id : Nat} {Q : Exit → Act → World → Prop} {a : Act} {w : World} {l : List Oper} (B n : Nat) (hm : P.follows .mixedOrders = true) (hB : Region.lexTailB .any l.toArray n = true)
    (h : wpQuiet P l.toArray (fun w' => ∃ e : Ext B w, w' = e.1) (fun a' => ∀ e : Ext B w, wpList P l.toArray Q (l.drop n) a' e.1) (l.take n) a) : (Code.region id l.toArray true).wp P Q a w := by
  simp only [Region.lexTailB, Bool.and_eq_true, decide_eq_true_eq] at hB
  obtain ⟨⟨⟨⟨hsel, hn⟩, hs⟩, hc⟩, hlex⟩ := hB
  have hnl : n < l.length := by simpa using hn
  have htl : (l.take n).length = n := by simp; omega
  have hdl : (l.drop n).length = l.toArray.size - n := by simp
  have H := Head.lex (g := l.toArray.size - n) hsel hs hc hn (l.take n) 0 (Array.replicate l.toArray.size false) a
    (fun j hj => by have hj' : j < n := by omega
                    simp [hj']) (by omega)
    ⟨by simp, fun j oj _ hl => (by rw [getD_replicate_false] at hl; exact Bool.noConfusion hl), fun t _ ht => getD_in (by simpa using ht) (getD_replicate_false _ _)⟩ (by rw [htl]; exact hlex) h
  refine wp_region_any hm ?_
  have := Head.any (Q := Q) (g := l.toArray.size - n) (fun d a' w' hw' hL => by
    obtain ⟨e, rfl⟩ := hw'
    have := wpAny_of_seq (md := .any) (Q' := Q) (l.drop n) n d a' e.1 (fun j => by simp [List.getElem?_drop]) (by rw [hdl]; exact hL.1) (hL.2 e)
    rwa [hdl] at this) _ _ _ { w with drawn := w.drawn + 1 } ⟨⟨_, (Below.refl B w).drew⟩, rfl⟩ H
  rw [htl, show l.toArray.size - n + n = l.toArray.size by omega] at this
  exact this

end Go.Bas
