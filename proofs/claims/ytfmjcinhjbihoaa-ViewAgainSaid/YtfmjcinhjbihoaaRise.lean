import Derived.Test.YtfmjcinhjbihoaaVMore
namespace Go.Proofs.Ytfmjcinhjbihoaa
open Go.RowKit Go.Bas SorPlain Go.Sor IMap_ VIn VPlain MapI
namespace Rise
open View

/- plain -/
theorem mem_put (a x : Int) (p : Int × Int) : ∀ {m : M}, Rising m → (p ∈ put a x m ↔ p = (a, x) ∨ (p ∈ m ∧ p.1 ≠ a))
  | [], _ => by simp [put, place, has, keys, lower]
  | q :: r, hs => by
    have hs' : Rising r := by unfold Rising keys at *; simp at hs; exact hs.2
    have hlt : ∀ p ∈ r, q.1 < p.1 := fun p hp => by
      unfold Rising keys at hs
      rw [List.map_cons, List.pairwise_cons] at hs
      exact hs.1 _ (List.mem_map_of_mem hp)
    rw [put_cons]
    by_cases h1 : q.1 < a
    · rw [if_pos h1, List.mem_cons, mem_put a x p hs', List.mem_cons]
      constructor
      · rintro (rfl | rfl | ⟨h, h'⟩)
        · exact .inr ⟨.inl rfl, by omega⟩
        · exact .inl rfl
        · exact .inr ⟨.inr h, h'⟩
      · rintro (rfl | ⟨rfl | h, h'⟩)
        · exact .inr (.inl rfl)
        · exact .inl rfl
        · exact .inr (.inr ⟨h, h'⟩)
    · rw [if_neg h1]
      by_cases h2 : q.1 = a
      · rw [if_pos h2, List.mem_cons, List.mem_cons]
        constructor
        · rintro (rfl | h)
          · exact .inl rfl
          · exact .inr ⟨.inr h, by have := hlt p h; omega⟩
        · rintro (rfl | ⟨rfl | h, h'⟩)
          · exact .inl rfl
          · exact absurd h2 h'
          · exact .inr h
      · rw [if_neg h2, List.mem_cons]
        constructor
        · rintro (rfl | h)
          · exact .inl rfl
          · refine .inr ⟨h, ?_⟩
            rcases List.mem_cons.1 h with rfl | h
            · exact h2
            · have := hlt p h; omega
        · rintro (rfl | ⟨h, _⟩)
          · exact .inl rfl
          · exact .inr h

def folds (l : M) : M := l.foldl (fun m q => wr m q.1 q.2) []
def ins (l : M) : List Ins := l.map fun q => ⟨1, q.1, q.2⟩
theorem play_ins (f : Int → Option Int) : ∀ (l : M) (x : Int) (m : M) (qs : List Int), play f (ins l) false x m qs = (.inr (l.foldl (fun m q => wr m q.1 q.2) m), qs)
  | [], _, _, _ => rfl
  | q :: r, x, m, qs => by
    have := play_ins f r x (wr m q.1 q.2) qs
    simpa [ins, play] using this

theorem first_cons (p : Int × Int) (r : M) (a : Int) : first (p :: r) a = if p.1 = a then some p.2 else first r a := by
  unfold first
  by_cases h : p.1 = a <;> simp [h]

theorem folds_told (l : M) : Rising (folds l) ∧ (∀ p ∈ folds l, 0 ≤ p.1 ∧ first l.reverse p.1 = some p.2) ∧ (∀ q ∈ l, q.1 < 0 ∨ ∃ p ∈ folds l, p.1 = q.1) := by
  suffices H : ∀ r : M, Rising (folds r.reverse) ∧ (∀ p ∈ folds r.reverse, 0 ≤ p.1 ∧ first r p.1 = some p.2) ∧ (∀ q ∈ r, q.1 < 0 ∨ ∃ p ∈ folds r.reverse, p.1 = q.1) by
    have := H l.reverse
    rw [List.reverse_reverse] at this
    exact ⟨this.1, this.2.1, fun q hq => this.2.2 q (by simpa using hq)⟩
  intro r
  induction r with
  | nil => exact ⟨by simp [folds, Rising, keys], by simp [folds], by simp⟩
  | cons q r ih =>
    obtain ⟨h1, h2, h3⟩ := ih
    have e : folds (q :: r).reverse = wr (folds r.reverse) q.1 q.2 := by simp [folds, List.foldl_append]
    rw [e]
    refine ⟨wr_rising h1 _ _, fun p hp => ?_, fun q' hq' => ?_⟩
    · unfold wr at hp
      rw [first_cons]
      by_cases hn : q.1 < 0
      · rw [if_pos hn] at hp
        obtain ⟨h4, h5⟩ := h2 p hp
        exact ⟨h4, by rw [if_neg (by omega)]; exact h5⟩
      · rw [if_neg hn, mem_put _ _ _ h1] at hp
        rcases hp with rfl | ⟨hp, hne⟩
        · exact ⟨by simp; omega, by simp⟩
        · obtain ⟨h4, h5⟩ := h2 p hp
          exact ⟨h4, by rw [if_neg (fun e => hne e.symm)]; exact h5⟩
    · by_cases hq : q'.1 < 0
      · exact .inl hq
      · right
        unfold wr
        by_cases hn : q.1 < 0
        · rw [if_pos hn]
          rcases List.mem_cons.1 hq' with rfl | hq'
          · omega
          · exact (h3 q' hq').resolve_left hq
        · rw [if_neg hn]
          by_cases e2 : q'.1 = q.1
          · exact ⟨(q.1, q.2), (mem_put _ _ _ h1).2 (.inl rfl), e2.symm⟩
          · rcases List.mem_cons.1 hq' with rfl | hq'
            · exact absurd rfl e2
            · obtain ⟨p, hp, he⟩ := (h3 q' hq').resolve_left hq
              exact ⟨p, (mem_put _ _ _ h1).2 (.inr ⟨hp, by omega⟩), he⟩

/- steps in a row of the call's own -/
theorem infoIns : (Try.prog.info? 40).map (fun i => (i.zero, i.size, i.bytes)) = some (some (.agg #[.int .i64 0, .int .i64 0, .int .i64 0]), 3, 24) := by kernel_rfl
def flatI (m : List Ins) : List Value := m.flatMap fun i => [.int .i64 i.kind, .int .i64 i.a, .int .i64 i.b]
def IRow (w : World) (base : Nat) (m : List Ins) (v : Value) : Prop := ∃ A cap, v = .slice A m.length cap ∧ w.ownsRow base 40 3 v m.length (flatI m)
theorem flatI_at : ∀ (m : List Ins) (i : Nat) (h : i < m.length), (flatI m)[i * 3]? = some (.int .i64 m[i].kind) ∧ (flatI m)[i * 3 + 1]? = some (.int .i64 m[i].a) ∧ (flatI m)[i * 3 + 2]? = some (.int .i64 m[i].b)
  | q :: r, 0, _ => ⟨rfl, rfl, rfl⟩
  | q :: r, i + 1, h => by
    obtain ⟨h1, h2, h3⟩ := flatI_at r i (by simpa using h)
    have e : flatI (q :: r) = [.int .i64 q.kind, .int .i64 q.a, .int .i64 q.b] ++ flatI r := rfl
    rw [e]
    refine ⟨?_, ?_, ?_⟩
    · rw [List.getElem?_append_right (by simp; omega), show (i + 1) * 3 - [Value.int .i64 q.kind, .int .i64 q.a, .int .i64 q.b].length = i * 3 by simp; omega]; exact h1
    · rw [List.getElem?_append_right (by simp; omega), show (i + 1) * 3 + 1 - [Value.int .i64 q.kind, .int .i64 q.a, .int .i64 q.b].length = i * 3 + 1 by simp; omega]; exact h2
    · rw [List.getElem?_append_right (by simp; omega), show (i + 1) * 3 + 2 - [Value.int .i64 q.kind, .int .i64 q.a, .int .i64 q.b].length = i * 3 + 2 by simp; omega]; exact h3
theorem flatI_snoc (m : List Ins) (i : Ins) : flatI (m ++ [i]) = flatI m ++ [.int .i64 i.kind, .int .i64 i.a, .int .i64 i.b] := by simp [flatI]
theorem IRow.block {w : World} {base : Nat} {m : List Ins} {v : Value} (h : IRow w base m v) {k : Nat} (e : v.ownBlock = some k) : base ≤ k := by
  obtain ⟨A, cap, rfl, hl, hr⟩ := h
  rcases hr with ⟨h, _⟩ | ⟨g, cp, cur, hv, hg, r⟩
  · rw [h] at e; simp [Value.ownBlock] at e
  · rw [hv] at e; simp [Value.ownBlock] at e; omega
theorem IRow.kept {w w' : World} {base : Nat} {m : List Ins} {v : Value} (h : IRow w base m v) (hk : ∀ k, v.ownBlock = some k → w'.heap[k]? = w.heap[k]?) : IRow w' base m v := by
  obtain ⟨A, cap, rfl, hl, hr⟩ := h
  refine ⟨A, cap, rfl, hl, ?_⟩
  rcases hr with h | ⟨g, cp, cur, hv, hg, hh, r⟩
  · exact .inl h
  · exact .inr ⟨g, cp, cur, hv, hg, (hk g (by rw [hv]; rfl)).trans hh, r⟩
theorem IRow.own_lt {w : World} {base : Nat} {m : List Ins} {v : Value} (h : IRow w base m v) {k : Nat} (e : v.ownBlock = some k) : k < w.heap.size := by
  obtain ⟨A, cap, rfl, hl, hr⟩ := h
  rcases hr with ⟨h, _⟩ | ⟨g, cp, cur, hv, hg, hh, r⟩
  · rw [h] at e; simp [Value.ownBlock] at e
  · rw [hv] at e; simp [Value.ownBlock] at e; subst e; exact (Array.getElem?_eq_some_iff.1 hh).1
theorem IRow.steps {w : World} {base : Nat} {m : List Ins} {v : Value} (h : IRow w base m v) : VIn.Steps w w.heap.size v m := by
  obtain ⟨A, cap, rfl, hl, hr⟩ := h
  rcases hr with ⟨hv, hn⟩ | ⟨g, cp, cur, hv, hg, hh, hc, hcm, hcs, ht⟩
  · exact ⟨A, cap, rfl, by omega, fun h => by omega⟩
  · simp only [Value.slice.injEq] at hv
    obtain ⟨rfl, _, rfl⟩ := hv
    refine ⟨_, cap, rfl, by omega, fun _ => ⟨g, 0, rfl, (Array.getElem?_eq_some_iff.1 hh).1, fun i hi => ?_⟩⟩
    obtain ⟨h1, h2, h3⟩ := flatI_at m i hi
    exact ⟨by rw [Nat.zero_add]; exact row_cell hh ht h1, by rw [Nat.zero_add]; exact row_cell hh ht h2, by rw [Nat.zero_add]; exact row_cell hh ht h3⟩

theorem run_ins1 (w : World) (x0 x1 x2 : Value) : (Instr.buildSlice 23 1 #[(0, .agg #[x0, x1, x2])]).run Try.prog w = .ok (.slice (some ⟨w.heap.size, 0, none⟩) 1 1) (w.alloc (.cells #[x0, x1, x2] 40)) := by
  have hinfo : (Try.prog.info? 40).map (fun i => (i.zero, i.size)) = some (some (.agg #[.int .i64 0, .int .i64 0, .int .i64 0]), 3) := by kernel_rfl
  obtain ⟨i, hi, hzz⟩ := Option.map_eq_some_iff.1 hinfo
  simp only [Prod.mk.injEq] at hzz
  obtain ⟨hz, hs⟩ := hzz
  refine run_buildSlice w _ 40 1 _ #[x0, x1, x2] i _ Try.underlying23 hi hz (by rw [hs]; decide) (by rw [hs]; decide) ?_
  rw [hs]
  kernel_rfl
theorem wpList_ins1 {ops : Array Oper} {rest : List Oper} {o : Oper} {a : Act} {w : World} {Q : Exit → Act → World → Prop} (hg : o.guard = none) (p0 : Operand) (ho : o.op = .buildSlice 23 1 #[(0, p0)])
    (x0 x1 x2 : Value) (h0 : a.eval p0 = .agg #[x0, x1, x2])
    (h : wpList Try.prog ops Q rest (a.put o.dst (.slice (some ⟨w.heap.size, 0, none⟩) 1 1)) (w.alloc (.cells #[x0, x1, x2] 40))) : wpList Try.prog ops Q (o :: rest) a w :=
  wpList_plain hg fun K hK => by
    have e : ((#[(0, p0)] : Array (Nat × Operand)).map fun (i, x) => (i, a.eval x)) = #[(0, .agg #[x0, x1, x2])] := by simp [h0]
    unfold Oper.wp execOp
    simp only [ho, Sem.run_bind, e, run_ins1, Result.andThen_ok]
    exact hK _ _ h
theorem wpList_addins {ops : Array Oper} {rest : List Oper} {o : Oper} {a : Act} {w : World} {Q : Exit → Act → World → Prop} (hgd : o.guard = none) (s x : Operand)
    (ho : o.op = .call { callee := .builtin .append, args := #[s, x], argTypes := #[23, 23] })
    (base : Nat) (out : List Ins) (v : Value) (hs : a.eval s = v) (h : IRow w base out v) (hn : out.length ≤ 10000) (hb : base ≤ w.heap.size) (b : Nat) (i : Ins) (hx : a.eval x = .slice (some ⟨b, 0, none⟩) 1 1)
    (hrow : w.heap[b]? = some (.cells #[.int .i64 i.kind, .int .i64 i.a, .int .i64 i.b] 40 (0, 0)))
    (H : ∀ v' w', IRow w' base (out ++ [i]) v' → w.grownBy w' v.ownBlock → wpList Try.prog ops Q rest (a.put o.dst v') w') : wpList Try.prog ops Q (o :: rest) a w := by
  obtain ⟨i0, hi0, hz0, hz1, hz2⟩ := info_parts infoIns
  obtain ⟨A, cap, rfl, hown⟩ := h
  refine wpList_append_any hgd s x 23 ho base 40 i0 (.agg #[.int .i64 0, .int .i64 0, .int .i64 0]) 3 24 Try.underlying23 hi0 hz0 hz1 hz2 rfl (by decide) _ out.length (flatI out) hs hown (some ⟨b, 0, none⟩) 1 1 [.int .i64 i.kind, .int .i64 i.a, .int .i64 i.b] hx rfl ?_ ?_ ?_ ?_ hb ?_
  · intro _
    refine ⟨_, rfl, fun j u hj => ?_⟩
    match j, hj with
    | 0, hj => simp at hj; subst hj; simp [Addr.add, cell_of_row _ _ _ _ _ _ hrow]
    | 1, hj => simp at hj; subst hj; simp [Addr.add, cell_of_row _ _ _ _ _ _ hrow]
    | 2, hj => simp at hj; subst hj; simp [Addr.add, cell_of_row _ _ _ _ _ _ hrow]
    | j + 3, hj => simp at hj
  · simp [Value.oneCell']
  · unfold maxLen; omega
  · omega
  · intro v' w' hown' hg hb'
    obtain ⟨A1, c1, rfl⟩ := own_slice hown'
    refine H _ w' ⟨A1, c1, by simp, ?_⟩ hg
    rw [flatI_snoc]
    simpa using hown'

end Rise
end Go.Proofs.Ytfmjcinhjbihoaa
