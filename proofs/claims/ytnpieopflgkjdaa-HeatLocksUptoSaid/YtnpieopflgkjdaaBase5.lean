import Derived.Test.YtnpieopflgkjdaaBase4
/- a region that draws its order, by what holds behind each set of operations that have come -/
namespace Go.Bas
open Go.RowKit

theorem count_list : ∀ {L : List Bool} {i : Nat} (h : i < L.length), L[i] = false → (L.set i true).countP (· == false) + 1 = L.countP (· == false)
  | b :: r, 0, _, e => by
    simp at e; subst e; simp
  | b :: r, i + 1, h, e => by
    have := count_list (L := r) (i := i) (by simpa using h) (by simpa using e)
    simp only [List.set_cons_succ, List.countP_cons]
    omega
theorem in_of_getD {d : Array Bool} {i : Nat} (h : d.getD i true = false) : ∃ hi : i < d.size, d[i] = false := by
  by_cases hi : i < d.size
  · exact ⟨hi, by simpa [Array.getD, hi] using h⟩
  · simp [Array.getD, hi] at h
theorem count_set {d : Array Bool} {i : Nat} (h : d.getD i true = false) : (d.setIfInBounds i true).toList.countP (· == false) + 1 = d.toList.countP (· == false) := by
  obtain ⟨hi, he⟩ := in_of_getD h
  rw [Array.toList_setIfInBounds]
  exact count_list (by simpa using hi) (by simpa using he)
theorem count_pos {d : Array Bool} {i : Nat} (h : d.getD i true = false) : 0 < d.toList.countP (· == false) := by
  have := count_set h
  omega

theorem wpAny_inv {P : Program} {ops : Array Oper} {Q : Exit → Act → World → Prop} (Inv : Array Bool → Act → World → Prop)
    (hstep : ∀ done a w i, Inv done a w → i ∈ Region.ready .any ops done → wpOp P ops Q i (Inv (done.setIfInBounds i true)) a w)
    (hend : ∀ done a w, Inv done a w → Region.ready .any ops done = [] → Q .normal a w) :
    ∀ (f : Nat) (done : Array Bool) (a : Act) (w : World), done.toList.countP (· == false) = f → Inv done a w → wpAny P .any ops Q f done a w
  | 0, done, a, w, hc, h => by
    have hr : Region.ready .any ops done = [] := by
      by_cases e : Region.ready .any ops done = []
      · exact e
      · obtain ⟨i, hi⟩ := List.exists_mem_of_ne_nil _ e
        have := count_pos (mem_ready.1 hi).1
        omega
    exact ⟨hr, hend _ _ _ h hr⟩
  | f + 1, done, a, w, hc, h => ⟨fun e => hend _ _ _ h e, fun i hi => by
    have h1 := count_set (mem_ready.1 hi).1
    exact wpOp_mono (fun a' w' hk => wpAny_inv Inv hstep hend f _ a' w' (by omega) hk) (hstep _ _ _ _ h hi)⟩

theorem wp_region_inv {P : Program} {id : Nat} {ops : Array Oper} {Q : Exit → Act → World → Prop} {a : Act} {w : World} (Inv : Array Bool → Act → World → Prop) (hm : P.follows .mixedOrders = true)
    (h0 : Inv (Array.replicate ops.size false) a w.drew)
    (hstep : ∀ done a w i, Inv done a w → i ∈ Region.ready .any ops done → wpOp P ops Q i (Inv (done.setIfInBounds i true)) a w)
    (hend : ∀ done a w, Inv done a w → Region.ready .any ops done = [] → Q .normal a w) : (Code.region id ops true).wp P Q a w := by
  refine wp_region_any hm ?_
  refine wpAny_inv Inv hstep hend ops.size _ a _ ?_ h0
  simp [List.countP_replicate]

/-- an operation that may come has not come, and what it waits for has -/
theorem ready_of {ops : Array Oper} {done : Array Bool} {i : Nat} {o : Oper} (h : i ∈ Region.ready .any ops done) (ho : ops[i]? = some o) : done.getD i true = false ∧ ∀ e ∈ o.after, Region.binds .any e = true → done.getD e.on false = true := by
  obtain ⟨h1, o', h2, h3⟩ := mem_ready.1 h
  rw [ho] at h2
  cases h2
  exact ⟨h1, h3⟩
theorem wpOp_of {P : Program} {ops : Array Oper} {Q : Exit → Act → World → Prop} {i : Nat} {K : Act → World → Prop} {a : Act} {w : World} {o : Oper} (ho : ops[i]? = some o) (hg : o.guard = none) (h : o.wp P a w K Q) : wpOp P ops Q i K a w := by
  unfold wpOp
  rw [ho]
  simp only [Region.wanted, hg]
  exact Or.inl h

theorem wp_value_of {P : Program} {o : Oper} {a : Act} {w w' : World} {K : Act → World → Prop} {Q : Exit → Act → World → Prop} {v : Value} (hrun : (execOp a.eval o).run P w = .ok (.value v) w')
    (h : K (a.put o.dst v) w') : o.wp P a w K Q := by
  unfold Oper.wp
  rw [hrun]
  exact h
theorem wp_make_of {P : Program} {o : Oper} {a : Act} {w w' : World} {K : Act → World → Prop} {Q : Exit → Act → World → Prop} {v : Value} (t : TypeId) (x y : Operand) (ho : o.op = .makeSlice t x y) (hrun : (Instr.makeSlice t (a.eval x) (a.eval y)).run P w = .ok v w')
    (h : K (a.put o.dst v) w') : o.wp P a w K Q := by
  unfold Oper.wp execOp
  simp only [ho, Sem.run_bind, hrun, Result.andThen_ok]
  exact h
theorem wp_call_of {P : Program} {o : Oper} {a : Act} {w : World} {K : Act → World → Prop} {Q : Exit → Act → World → Prop} {f : FuncId} {args : Array Value} (hrun : (execOp a.eval o).run P w = .ok (.enter f args) w)
    (hc : Calls P f args w fun e w' => ∃ v, e = .returned v ∧ K (a.put o.dst v) w') : o.wp P a w K Q := by
  unfold Oper.wp
  rw [hrun, Oper.upon_enter]
  refine hc.mono fun e w'' hh => ?_
  obtain ⟨v, rfl, h⟩ := hh
  exact h

end Go.Bas
