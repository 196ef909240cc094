import Derived.Test.YtfmjcinhjbihoaaSame
namespace Go.Proofs.Ytfmjcinhjbihoaa
open Go.RowKit Go.Bas SorPlain Go.Sor IMap_ VIn VPlain MapI
namespace View

theorem run_ins2 (w : World) (x0 x1 x2 y0 y1 y2 : Value) : (Instr.buildSlice 23 2 #[(0, .agg #[x0, x1, x2]), (1, .agg #[y0, y1, y2])]).run Try.prog w = .ok (.slice (some ⟨w.heap.size, 0, none⟩) 2 2) (w.alloc (.cells #[x0, x1, x2, y0, y1, y2] 40)) := by
  have hinfo : (Try.prog.info? 40).map (fun i => (i.zero, i.size)) = some (some (.agg #[.int .i64 0, .int .i64 0, .int .i64 0]), 3) := by kernel_rfl
  obtain ⟨i, hi, hzz⟩ := Option.map_eq_some_iff.1 hinfo
  simp only [Prod.mk.injEq] at hzz
  obtain ⟨hz, hs⟩ := hzz
  refine run_buildSlice w _ 40 2 _ #[x0, x1, x2, y0, y1, y2] i _ Try.underlying23 hi hz (by rw [hs]; decide) (by rw [hs]; decide) ?_
  rw [hs]
  kernel_rfl
theorem wpList_ins2 {ops : Array Oper} {rest : List Oper} {o : Oper} {a : Act} {w : World} {Q : Exit → Act → World → Prop} (hg : o.guard = none) (p0 p1 : Operand) (ho : o.op = .buildSlice 23 2 #[(0, p0), (1, p1)])
    (x0 x1 x2 y0 y1 y2 : Value) (h0 : a.eval p0 = .agg #[x0, x1, x2]) (h1 : a.eval p1 = .agg #[y0, y1, y2])
    (h : wpList Try.prog ops Q rest (a.put o.dst (.slice (some ⟨w.heap.size, 0, none⟩) 2 2)) (w.alloc (.cells #[x0, x1, x2, y0, y1, y2] 40))) : wpList Try.prog ops Q (o :: rest) a w :=
  wpList_plain hg fun K hK => by
    have e : ((#[(0, p0), (1, p1)] : Array (Nat × Operand)).map fun (i, x) => (i, a.eval x)) = #[(0, .agg #[x0, x1, x2]), (1, .agg #[y0, y1, y2])] := by simp [h0, h1]
    unfold Oper.wp execOp
    simp only [ho, Sem.run_bind, e, run_ins2, Result.andThen_ok]
    exact hK _ _ h

def ex : List Ins := [⟨0, 1, 0⟩, ⟨2, 2, 0⟩]
theorem ex1 : (play (first []) ex false 0 [] []).1 = .inl 1 := by
  simp [play, ex, rd, first, has, keys, lower]
theorem ex2 : (play (first [(1, 7)]) ex false 0 [] []).1 = .inr [(2, 7)] := by
  simp [play, ex, rd, first, has, keys, lower, wr, put, place]
theorem ex_in : SIn ex := by
  intro p hp
  simp [ex] at hp
  rcases hp with rfl | rfl <;> (unfold In64; simp)
theorem ex_steps {w : World} {g : Nat} (h : w.heap[g]? = some (.cells #[.int .i64 0, .int .i64 1, .int .i64 0, .int .i64 2, .int .i64 2, .int .i64 0] 40 (0, 0))) : VIn.Steps w w.heap.size (.slice (some ⟨g, 0, none⟩) 2 2) ex := by
  refine ⟨_, 2, rfl, by decide, fun _ => ⟨g, 0, rfl, (Array.getElem?_eq_some_iff.1 h).1, fun i hi => ?_⟩⟩
  have hi : i = 0 ∨ i = 1 := by simp [ex] at hi; omega
  simp only [cell_of_row _ _ _ _ _ _ h]
  rcases hi with rfl | rfl
  · exact ⟨rfl, rfl, rfl⟩
  · exact ⟨rfl, rfl, rfl⟩
theorem one_pair {w : World} {g : Nat} {x y : Int} (h : w.heap[g]? = some (.cells #[.int .i64 x, .int .i64 y] 38 (0, 0))) : Pairs w w.heap.size (.slice (some ⟨g, 0, none⟩) 1 1) [(x, y)] := by
  refine ⟨_, 1, rfl, by show 1 ≤ maxLen; decide, fun _ => ⟨g, 0, rfl, (Array.getElem?_eq_some_iff.1 h).1, fun i hi => ?_⟩⟩
  obtain rfl : i = 0 := by simpa using hi
  simp only [cell_of_row _ _ _ _ _ _ h]
  exact ⟨rfl, rfl⟩
theorem no_pairs (w : World) (B : Nat) : Pairs w B (.slice none 0 0) [] := ⟨none, 0, rfl, Nat.zero_le _, fun h => absurd h (by simp)⟩

set_option maxRecDepth 100000 in
set_option maxHeartbeats 4000000 in
theorem lives_any (w : World) : Calls Try.prog 9 #[] w fun e w' => e = .returned (.bool true) ∧ Below w.heap.size w w' := by
  obtain ⟨g, hg⟩ : ∃ g, w.heap.size = g := ⟨_, rfl⟩
  rw [hg]
  obtain ⟨w1, hw1⟩ : ∃ w1, w.alloc (.cells #[.int .i64 0, .int .i64 1, .int .i64 0, .int .i64 2, .int .i64 2, .int .i64 0] 40) = w1 := ⟨_, rfl⟩
  have s1 : w1.heap.size = g + 1 := by rw [← hw1, ← hg]; simp
  have r1 : w1.heap[g]? = some (.cells #[.int .i64 0, .int .i64 1, .int .i64 0, .int .i64 2, .int .i64 2, .int .i64 0] 40 (0, 0)) := by rw [← hw1, ← hg]; exact new_row _ _ _
  have b1 : Below g w w1 := by rw [← hw1, ← hg]; exact (Below.refl _ _).alloc (Nat.le_refl _) _
  have RA := Lib.hid (runs_any (w := w1) (no_pairs w1 _) (fun p hp => by simp at hp) (by simp) (ex_steps r1) ex_in (by decide))
  have RB : Hid (∀ w', Below (g + 1) w1 w' → Calls Try.prog 10 #[.slice (some ⟨w'.heap.size, 0, none⟩) 1 1, .slice (some ⟨g, 0, none⟩) 2 2] (w'.alloc (.cells #[.int .i64 1, .int .i64 7] 38)) fun e w2 =>
      RunTold (w'.heap.size + 1) (.inr [(2, 7)]) e w2 ∧ Below (g + 1) w1 w2) := fun w' hb => by
    have hs := hb.size
    have hr : (w'.alloc (.cells #[.int .i64 1, .int .i64 7] 38)).heap[g]? = some (.cells #[.int .i64 0, .int .i64 1, .int .i64 0, .int .i64 2, .int .i64 2, .int .i64 0] 40 (0, 0)) := by rw [alloc_heap _ _ _ (by omega), hb.block _ (by omega)]; exact r1
    have h := runs_any (w := w'.alloc (.cells #[.int .i64 1, .int .i64 7] 38)) (one_pair (new_row _ _ _)) (fun p hp => by simp at hp; subst hp; unfold In64; simp) (by simp) (ex_steps hr) ex_in (by decide)
    rw [ex2] at h
    refine h.mono ?_
    rintro e w2 ⟨q1, q2⟩
    refine ⟨by simpa using q1, (hb.alloc (by omega) _).trans (q2.mono (by simp; omega))⟩
  rw [ex1] at RA
  have B1 := Lib.hid b1
  clear r1 b1
  go_enter Try.func9, Try.ntmps9
  go_upto_region 4 with (first
    | (refine wpList_ins2 rfl _ _ rfl _ _ _ _ _ _ rfl rfl ?_)
    | (refine wpList_pair1 rfl _ rfl _ _ rfl ?_)
    | (go_at_call 10; refine (RB.out _ (q2.mono (by omega))).mono ?_; rintro e w3 ⟨⟨m, r, q3, rfl, q4, q5⟩ | ⟨_, q3, _⟩, q6⟩
       rotate_left
       · cases q3
       obtain rfl : [(2, 7)] = m := by simpa using q3)
    | (go_at_call 10; refine RA.out.mono ?_; rintro e w2 ⟨⟨_, _, q1, _⟩ | ⟨a, q1, rfl⟩, q2⟩
       · cases q1
       obtain rfl : 1 = a := by simpa using q1))
  obtain ⟨A, cap, rfl, hl, hr⟩ := q4
  rcases hr with ⟨_, hn⟩ | ⟨g3, cp, cur, hv, hg3, hh, hc, hcm, hcs, ht⟩
  · simp at hn
  have t1 : w3.cell? ⟨g3, 0, none⟩ = some (.int .i64 2) := row_cell hh ht rfl
  have t2 : w3.cell? ⟨g3, 1, none⟩ = some (.int .i64 7) := row_cell hh ht rfl
  simp only [Value.slice.injEq] at hv
  obtain ⟨rfl, _, rfl⟩ := hv
  have Q6 := Lib.hid q6
  clear hl hh hc hcm hcs ht q6 q2 q5 RA RB
  go_wp2_with (first | fail)
  go_ret
  exact ⟨rfl, B1.out.trans (Q6.out.mono (by omega))⟩

end View
end Go.Proofs.Ytfmjcinhjbihoaa
