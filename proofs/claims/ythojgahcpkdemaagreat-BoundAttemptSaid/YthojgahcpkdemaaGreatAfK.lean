/- Lemmas of this seat's proofs, several texts laid together. -/
import Derived.Test.YthojgahcpkdemaaGreatAfA
import Derived.Test.YthojgahcpkdemaaGreatAfI
import Derived.Deep.Cut
import Derived.Test.YthojgahcpkdemaaGreatAfC
import Derived.Deep.Slices
import Derived.Deep.Fields
import Derived.ChangeSame
import Derived.ProofKit
set_option linter.unusedVariables false
set_option linter.unusedSimpArgs false
/- a region that draws its order, by what holds behind each set of operations that have come -/
namespace Go.Bas
open Go.RowKit

theorem count_list : ∀ {L : List Bool} {i : Nat} (h : i < L.length), L[i] = false → (L.set i true).countP (· == false) + 1 = L.countP (· == false)
  | b :: r, 0, _, e => by
    simp at e; subst e; simp
  | b :: r, i + 1, h, e => by
    have := count_list (L := r) (i := i) (by simpa using h) (by simpa using e)
    simp only [List.set_cons_succ, List.countP_cons]
    omega
theorem in_of_getD {d : Array Bool} {i : Nat} (h : d.getD i true = false) : ∃ hi : i < d.size, d[i] = false := by
  by_cases hi : i < d.size
  · exact ⟨hi, by simpa [Array.getD, hi] using h⟩
  · simp [Array.getD, hi] at h
theorem count_set {d : Array Bool} {i : Nat} (h : d.getD i true = false) : (d.setIfInBounds i true).toList.countP (· == false) + 1 = d.toList.countP (· == false) := by
  obtain ⟨hi, he⟩ := in_of_getD h
  rw [Array.toList_setIfInBounds]
  exact count_list (by simpa using hi) (by simpa using he)
theorem count_pos {d : Array Bool} {i : Nat} (h : d.getD i true = false) : 0 < d.toList.countP (· == false) := by
  have := count_set h
  omega

theorem wpAny_inv {P : Program} {ops : Array Oper} {Q : Exit → Act → World → Prop} (Inv : Array Bool → Act → World → Prop)
    (hstep : ∀ done a w i, Inv done a w → i ∈ Region.ready .any ops done → wpOp P ops Q i (Inv (done.setIfInBounds i true)) a w)
    (hend : ∀ done a w, Inv done a w → Region.ready .any ops done = [] → Q .normal a w) :
    ∀ (f : Nat) (done : Array Bool) (a : Act) (w : World), done.toList.countP (· == false) = f → Inv done a w → wpAny P .any ops Q f done a w
  | 0, done, a, w, hc, h => by
    have hr : Region.ready .any ops done = [] := by
      by_cases e : Region.ready .any ops done = []
      · exact e
      · obtain ⟨i, hi⟩ := List.exists_mem_of_ne_nil _ e
        have := count_pos (mem_ready.1 hi).1
        omega
    exact ⟨hr, hend _ _ _ h hr⟩
  | f + 1, done, a, w, hc, h => ⟨fun e => hend _ _ _ h e, fun i hi => by
    have h1 := count_set (mem_ready.1 hi).1
    exact wpOp_mono (fun a' w' hk => wpAny_inv Inv hstep hend f _ a' w' (by omega) hk) (hstep _ _ _ _ h hi)⟩

theorem wp_region_inv {P : Program} {id : Nat} {ops : Array Oper} {Q : Exit → Act → World → Prop} {a : Act} {w : World} (Inv : Array Bool → Act → World → Prop) (hm : P.follows .mixedOrders = true)
    (h0 : Inv (Array.replicate ops.size false) a w.drew)
    (hstep : ∀ done a w i, Inv done a w → i ∈ Region.ready .any ops done → wpOp P ops Q i (Inv (done.setIfInBounds i true)) a w)
    (hend : ∀ done a w, Inv done a w → Region.ready .any ops done = [] → Q .normal a w) : (Code.region id ops true).wp P Q a w := by
  refine wp_region_any hm ?_
  refine wpAny_inv Inv hstep hend ops.size _ a _ ?_ h0
  simp [List.countP_replicate]

/-- an operation that may come has not come, and what it waits for has -/
theorem ready_of {ops : Array Oper} {done : Array Bool} {i : Nat} {o : Oper} (h : i ∈ Region.ready .any ops done) (ho : ops[i]? = some o) : done.getD i true = false ∧ ∀ e ∈ o.after, Region.binds .any e = true → done.getD e.on false = true := by
  obtain ⟨h1, o', h2, h3⟩ := mem_ready.1 h
  rw [ho] at h2
  cases h2
  exact ⟨h1, h3⟩
theorem wpOp_of {P : Program} {ops : Array Oper} {Q : Exit → Act → World → Prop} {i : Nat} {K : Act → World → Prop} {a : Act} {w : World} {o : Oper} (ho : ops[i]? = some o) (hg : o.guard = none) (h : o.wp P a w K Q) : wpOp P ops Q i K a w := by
  unfold wpOp
  rw [ho]
  simp only [Region.wanted, hg]
  exact Or.inl h

theorem wp_value_of {P : Program} {o : Oper} {a : Act} {w w' : World} {K : Act → World → Prop} {Q : Exit → Act → World → Prop} {v : Value} (hrun : (execOp a.eval o).run P w = .ok (.value v) w')
    (h : K (a.put o.dst v) w') : o.wp P a w K Q := by
  unfold Oper.wp
  rw [hrun]
  exact h
theorem wp_make_of {P : Program} {o : Oper} {a : Act} {w w' : World} {K : Act → World → Prop} {Q : Exit → Act → World → Prop} {v : Value} (t : TypeId) (x y : Operand) (ho : o.op = .makeSlice t x y) (hrun : (Instr.makeSlice t (a.eval x) (a.eval y)).run P w = .ok v w')
    (h : K (a.put o.dst v) w') : o.wp P a w K Q := by
  unfold Oper.wp execOp
  simp only [ho, Sem.run_bind, hrun, Result.andThen_ok]
  exact h
theorem wp_call_of {P : Program} {o : Oper} {a : Act} {w : World} {K : Act → World → Prop} {Q : Exit → Act → World → Prop} {f : FuncId} {args : Array Value} (hrun : (execOp a.eval o).run P w = .ok (.enter f args) w)
    (hc : Calls P f args w fun e w' => ∃ v, e = .returned v ∧ K (a.put o.dst v) w') : o.wp P a w K Q := by
  unfold Oper.wp
  rw [hrun, Oper.upon_enter]
  refine hc.mono fun e w'' hh => ?_
  obtain ⟨v, rfl, h⟩ := hh
  exact h

end Go.Bas

namespace Go.Bas
open Go.RowKit
theorem results_rows2_tmp {P : Program} {fn : Func} {p q u : Tmp} {t1 t2 : TypeId} (h : fn.results = #[.cell p t1, .cell q t2, .tmp u]) (tmps : Array Value) (w : World) (g1 g2 : Nat) (e1 e2 : TypeId) (c1 c2 : Array Value) (d1 d2 : TypeDesc)
    (hp : tmps.getD p undef = .pointer (some ⟨g1, 0, none⟩)) (hq : tmps.getD q undef = .pointer (some ⟨g2, 0, none⟩)) (hg1 : w.heap[g1]? = some (.cells c1 e1 (0, 0))) (hg2 : w.heap[g2]? = some (.cells c2 e2 (0, 0)))
    (hu1 : P.underlying t1 = some d1) (hd1 : (match d1 with | .struct _ | .array _ _ => true | _ => false) = true) (hi1 : (P.info? t1).map (·.size) = some c1.size)
    (hu2 : P.underlying t2 = some d2) (hd2 : (match d2 with | .struct _ | .array _ _ => true | _ => false) = true) (hi2 : (P.info? t2).map (·.size) = some c2.size) :
    (results fn tmps).run P w = .ok (.tuple #[.agg c1, .agg c2, tmps.getD u undef]) w := by
  have hp' : tmps[p]?.getD undef = .pointer (some ⟨g1, 0, none⟩) := by simpa using hp
  have hq' : tmps[q]?.getD undef = .pointer (some ⟨g2, 0, none⟩) := by simpa using hq
  simp only [results, h]
  simp [Sem.run_bind, hp', hq', asAddr, run_loadVar_row w g1 e1 t1 c1 (0, 0) d1 hg1 hu1 hd1 hi1, run_loadVar_row w g2 e2 t2 c2 (0, 0) d2 hg2 hu2 hd2 hi2, Result.andThen]
end Go.Bas
namespace Go.Proofs.YthojgahcpkdemaaGreat
open Go.RowKit Go.Bas
open Lay RefLay Of Small_
namespace Begin_

set_option maxRecDepth 100000 in
theorem built_ref (c : Cfg) : Tryz.prog.built 68 [(0, .agg (cfg c))] = some (cfg c) := by kernel_rfl

/-- make([]int, n) -/
theorem make_ints (n : Nat) (hn : n ≤ 1000000) (w : World) :
    (Instr.makeSlice 25 (.int .i64 (n : Int)) (.int .i64 (n : Int))).run Tryz.prog w = .ok (.slice (some ⟨w.heap.size, 0, none⟩) n n) (w.alloc (.cells (madeCells #[.int .i64 0] (n * 1)) 3)) := by
  have hinfo : (Tryz.prog.info? 3).map (fun i => (i.zero, i.size, i.bytes)) = some (some (.int .i64 0), 1, 8) := by kernel_rfl
  obtain ⟨i, hi, hzz⟩ := Option.map_eq_some_iff.1 hinfo
  simp only [Prod.mk.injEq] at hzz
  obtain ⟨hz, hs, hb⟩ := hzz
  have hr := run_make (P := Tryz.prog) w 25 3 i _ Tryz.underlying25 hi hz .i64 .i64 n n (by omega) (Int.le_refl _) (by rw [hb]; omega) (by omega)
  simp only [Int.toNat_natCast, hs] at hr
  exact hr

set_option maxRecDepth 100000 in
set_option maxHeartbeats 4000000 in
theorem begin_of (c0 : Cfg) (w : World) : Calls Tryz.prog 37 #[.agg (cfg c0)] w fun e w' => ∃ q, e = .returned (.tuple #[.agg (lay (small c0) (places (small c0))), .agg (cfg (small c0)), .slice (some ⟨q, 0, none⟩) (words (small c0)).toNat (words (small c0)).toNat]) ∧ w.heap.size ≤ q ∧ w'.heap[q]? = some (.cells (madeCells #[.int .i64 0] (words (small c0)).toNat) 3 (0, 0)) ∧ Below w.heap.size w w' := by
  obtain ⟨c, hc⟩ : ∃ c, small c0 = c := ⟨_, rfl⟩
  have F : Fine c := by rw [← hc]; exact small_fine c0
  have FH := Lib.hid F; have HC := Lib.hid hc
  rw [hc]
  have hwi := words_in F
  obtain ⟨W, hW⟩ : ∃ W : Nat, words c = W := ⟨(words c).toNat, by omega⟩
  have hWt : (words c).toNat = W := by omega
  rw [hWt]
  have HW := Lib.hid hW
  have hW1 : 1 ≤ W ∧ W ≤ 40000 := by omega
  clear hc F hW hWt hwi
  obtain ⟨p, hp⟩ : ∃ p, places c = p := ⟨_, rfl⟩
  have HP := Lib.hid hp
  rw [hp]
  clear hp
  obtain ⟨g, hg⟩ : ∃ g, w.heap.size = g := ⟨_, rfl⟩
  obtain ⟨w1, hw1⟩ : ∃ w1, ((w.alloc (.cells (cfg c0) 23)).alloc (.cells #[.int .i64 0, .int .i64 0, .int .i64 0, .int .i64 0, .int .i64 0, .int .i64 0, .int .i64 0, .int .i64 0, .int .i64 0, .int .i64 0, .int .i64 0, .int .i64 0, .int .i64 0, .int .i64 0, .int .i64 0, .int .i64 0, .int .i64 0, .int .i64 0, .int .i64 0, .int .i64 0, .int .i64 0, .int .i64 0, .int .i64 0] 29)).alloc (.cells #[.int .i64 0, .int .i64 0, .int .i64 0, .int .i64 0, .int .i64 0, .int .i64 0, .int .i64 0, .int .i64 0, .int .i64 0, .int .i64 0, .int .i64 0] 68) = w1 := ⟨_, rfl⟩
  have R1 : Hid (w1.heap[g]? = some (.cells (cfg c0) 23 (0, 0))) := by rw [← hw1, Hid, alloc_heap _ _ _ (by simp; omega), alloc_heap _ _ _ (by simp; omega), ← hg]; exact new_row _ _ _
  have L1 : Hid (w1.heap[g + 1]? = some (.cells #[.int .i64 0, .int .i64 0, .int .i64 0, .int .i64 0, .int .i64 0, .int .i64 0, .int .i64 0, .int .i64 0, .int .i64 0, .int .i64 0, .int .i64 0, .int .i64 0, .int .i64 0, .int .i64 0, .int .i64 0, .int .i64 0, .int .i64 0, .int .i64 0, .int .i64 0, .int .i64 0, .int .i64 0, .int .i64 0, .int .i64 0] 29 (0, 0))) := by
    rw [← hw1, Hid, alloc_heap _ _ _ (by simp; omega)]
    have : (w.alloc (.cells (cfg c0) 23)).heap.size = g + 1 := by rw [← hg]; simp
    rw [← this]; exact new_row _ _ _
  have Z1 : Hid (w1.heap[g + 2]? = some (.cells #[.int .i64 0, .int .i64 0, .int .i64 0, .int .i64 0, .int .i64 0, .int .i64 0, .int .i64 0, .int .i64 0, .int .i64 0, .int .i64 0, .int .i64 0] 68 (0, 0))) := by
    have : ((w.alloc (.cells (cfg c0) 23)).alloc (.cells #[.int .i64 0, .int .i64 0, .int .i64 0, .int .i64 0, .int .i64 0, .int .i64 0, .int .i64 0, .int .i64 0, .int .i64 0, .int .i64 0, .int .i64 0, .int .i64 0, .int .i64 0, .int .i64 0, .int .i64 0, .int .i64 0, .int .i64 0, .int .i64 0, .int .i64 0, .int .i64 0, .int .i64 0, .int .i64 0, .int .i64 0] 29)).heap.size = g + 2 := by rw [← hg]; simp
    rw [← hw1, ← this]; exact new_row _ _ _
  have B1 : Hid (Below g w w1) := by rw [← hw1, ← hg]; exact (((Below.refl _ _).alloc (Nat.le_refl _) _).alloc (by simp) _).alloc (by simp; omega) _
  have hs1 : w1.heap.size = g + 3 := by rw [← hw1, ← hg]; simp
  rw [hg]
  go_enter Tryz.func37, Tryz.ntmps37
  go_upto_region 1 with fail
  go_upto_region 2 with (first
    | (refine wpList_load_row rfl 23 _ rfl g rfl 23 (cfg c0) (0, 0) _ R1.out Tryz.underlying23 rfl (cfg_size _) ?_)
    | (refine wpList_store_row rfl 23 _ _ rfl g (cfg c) rfl rfl 23 (cfg c0) R2.out (cfg_size _) rfl (cfg_one _) ?_)
    | (go_at_call 49; refine (small_of c0 _).mono ?_; rintro e w2 ⟨rfl, hb2⟩
       rw [HC.out]
       have R2 : Hid (w2.heap[g]? = some (.cells (cfg c0) 23 (0, 0))) := by rw [Hid, hb2.block _ (by omega)]; exact R1.out))
  obtain ⟨w3, hw3⟩ : ∃ w3, w2.setRow g (cfg c) = w3 := ⟨_, rfl⟩
  have hs2 := hb2.size
  have R3 : Hid (w3.heap[g]? = some (.cells (cfg c) 23 (0, 0))) := by rw [← hw3]; exact setRow_same R2.out
  have L3 : Hid (w3.heap[g + 1]? = some (.cells #[.int .i64 0, .int .i64 0, .int .i64 0, .int .i64 0, .int .i64 0, .int .i64 0, .int .i64 0, .int .i64 0, .int .i64 0, .int .i64 0, .int .i64 0, .int .i64 0, .int .i64 0, .int .i64 0, .int .i64 0, .int .i64 0, .int .i64 0, .int .i64 0, .int .i64 0, .int .i64 0, .int .i64 0, .int .i64 0, .int .i64 0] 29 (0, 0))) := by rw [← hw3, Hid, setRow_other _ _ _ _ (by omega), hb2.block _ (by omega)]; exact L1.out
  have Z3 : Hid (w3.heap[g + 2]? = some (.cells #[.int .i64 0, .int .i64 0, .int .i64 0, .int .i64 0, .int .i64 0, .int .i64 0, .int .i64 0, .int .i64 0, .int .i64 0, .int .i64 0, .int .i64 0] 68 (0, 0))) := by rw [← hw3, Hid, setRow_other _ _ _ _ (by omega), hb2.block _ (by omega)]; exact Z1.out
  have B3 : Hid (Below g w w3) := by rw [← hw3]; exact setRow_below (B1.out.trans (hb2.mono (by omega))) (Nat.le_refl _) _
  have hs3 : g + 3 ≤ w3.heap.size := by rw [← hw3, setRow_size, ← hs1]; exact hb2.size
  rw [hw3]
  clear hw3 hb2 R2 hw1 hs1 R1 B1 L1 Z1 hs2
  go_upto_region 3 with (first
    | (refine wpList_load_row rfl 23 _ rfl g rfl 23 (cfg c) (0, 0) _ R3.out Tryz.underlying23 rfl (cfg_size _) ?_)
    | (refine wpList_store_row rfl 29 _ _ rfl w4.heap.size (lay c p) rfl rfl 29 #[.int .i64 0, .int .i64 0, .int .i64 0, .int .i64 0, .int .i64 0, .int .i64 0, .int .i64 0, .int .i64 0, .int .i64 0, .int .i64 0, .int .i64 0, .int .i64 0, .int .i64 0, .int .i64 0, .int .i64 0, .int .i64 0, .int .i64 0, .int .i64 0, .int .i64 0, .int .i64 0, .int .i64 0, .int .i64 0, .int .i64 0] R5.out (lay_size _ _) rfl (lay_one _ _) ?_)
    | (go_at_call 33; refine (of_of c _ FH.out).mono ?_; rintro e w4 ⟨rfl, hb4⟩
       rw [HP.out]
       obtain ⟨w5, hw5⟩ : ∃ w5, w4.alloc (.cells #[.int .i64 0, .int .i64 0, .int .i64 0, .int .i64 0, .int .i64 0, .int .i64 0, .int .i64 0, .int .i64 0, .int .i64 0, .int .i64 0, .int .i64 0, .int .i64 0, .int .i64 0, .int .i64 0, .int .i64 0, .int .i64 0, .int .i64 0, .int .i64 0, .int .i64 0, .int .i64 0, .int .i64 0, .int .i64 0, .int .i64 0] 29) = w5 := ⟨_, rfl⟩
       have R5 : Hid (w5.heap[w4.heap.size]? = some (.cells #[.int .i64 0, .int .i64 0, .int .i64 0, .int .i64 0, .int .i64 0, .int .i64 0, .int .i64 0, .int .i64 0, .int .i64 0, .int .i64 0, .int .i64 0, .int .i64 0, .int .i64 0, .int .i64 0, .int .i64 0, .int .i64 0, .int .i64 0, .int .i64 0, .int .i64 0, .int .i64 0, .int .i64 0, .int .i64 0, .int .i64 0] 29 (0, 0))) := by rw [← hw5]; exact new_row _ _ _))
  obtain ⟨l, hl⟩ : ∃ l, w4.heap.size = l := ⟨_, rfl⟩
  obtain ⟨w6, hw6⟩ : ∃ w6, w5.setRow w4.heap.size (lay c p) = w6 := ⟨_, rfl⟩
  have hgl : g + 3 ≤ l := by rw [← hl]; exact Nat.le_trans hs3 hb4.size
  have hs6 : w6.heap.size = l + 1 := by rw [← hw6, setRow_size, ← hw5, ← hl]; simp
  have R6 : Hid (w6.heap[g]? = some (.cells (cfg c) 23 (0, 0))) := by rw [← hw6, Hid, setRow_other _ _ _ _ (by omega), ← hw5, alloc_heap _ _ _ (by omega), hb4.block _ (by omega)]; exact R3.out
  have L3' : Hid (w6.heap[g + 1]? = some (.cells #[.int .i64 0, .int .i64 0, .int .i64 0, .int .i64 0, .int .i64 0, .int .i64 0, .int .i64 0, .int .i64 0, .int .i64 0, .int .i64 0, .int .i64 0, .int .i64 0, .int .i64 0, .int .i64 0, .int .i64 0, .int .i64 0, .int .i64 0, .int .i64 0, .int .i64 0, .int .i64 0, .int .i64 0, .int .i64 0, .int .i64 0] 29 (0, 0))) := by rw [← hw6, Hid, setRow_other _ _ _ _ (by omega), ← hw5, alloc_heap _ _ _ (by omega), hb4.block _ (by omega)]; exact L3.out
  have Z3' : Hid (w6.heap[g + 2]? = some (.cells #[.int .i64 0, .int .i64 0, .int .i64 0, .int .i64 0, .int .i64 0, .int .i64 0, .int .i64 0, .int .i64 0, .int .i64 0, .int .i64 0, .int .i64 0] 68 (0, 0))) := by rw [← hw6, Hid, setRow_other _ _ _ _ (by omega), ← hw5, alloc_heap _ _ _ (by omega), hb4.block _ (by omega)]; exact Z3.out
  have L6 : Hid (w6.heap[l]? = some (.cells (lay c p) 29 (0, 0))) := by rw [← hw6, ← hl]; exact setRow_same R5.out
  have B6 : Hid (Below g w w6) := by rw [← hw6]; exact setRow_below (by rw [← hw5]; exact (B3.out.trans (hb4.mono (by omega))).alloc (by omega) _) (by omega) _
  rw [hw6, hl]
  clear hw6 hw5 R5 hb4 hl R3 B3 hs3 L3 Z3
  obtain ⟨w7, hw7⟩ : ∃ w7, w6.alloc (.cells #[.int .i64 0, .int .i64 0, .int .i64 0, .int .i64 0, .int .i64 0, .int .i64 0, .int .i64 0, .int .i64 0, .int .i64 0, .int .i64 0, .int .i64 0] 68) = w7 := ⟨_, rfl⟩
  have R7 : Hid (w7.heap[l + 1]? = some (.cells #[.int .i64 0, .int .i64 0, .int .i64 0, .int .i64 0, .int .i64 0, .int .i64 0, .int .i64 0, .int .i64 0, .int .i64 0, .int .i64 0, .int .i64 0] 68 (0, 0))) := by rw [← hw7, ← hs6]; exact new_row _ _ _
  go_upto_region 4 with (first
    | (refine wpList_load_row rfl 23 _ rfl g rfl 23 (cfg c) (0, 0) _ R6.out Tryz.underlying23 rfl (cfg_size _) ?_)
    | (refine wpList_built rfl 68 _ rfl [(0, .agg (cfg c))] rfl (cfg c) (built_ref c) ?_)
    | (refine wpList_store_row rfl 68 _ _ rfl (l + 1) (cfg c) rfl rfl 68 #[.int .i64 0, .int .i64 0, .int .i64 0, .int .i64 0, .int .i64 0, .int .i64 0, .int .i64 0, .int .i64 0, .int .i64 0, .int .i64 0, .int .i64 0] R7.out (cfg2_size _) rfl (cfg_one _) ?_))
  obtain ⟨w8, hw8⟩ : ∃ w8, w7.setRow (l + 1) (cfg c) = w8 := ⟨_, rfl⟩
  have hs8 : w8.heap.size = l + 2 := by rw [← hw8, setRow_size, ← hw7]; simp; omega
  have R8 : Hid (w8.heap[l + 1]? = some (.cells (cfg c) 68 (0, 0))) := by rw [← hw8]; exact setRow_same R7.out
  have L8 : Hid (w8.heap[l]? = some (.cells (lay c p) 29 (0, 0))) := by rw [← hw8, Hid, setRow_other _ _ _ _ (by omega), ← hw7, alloc_heap _ _ _ (by omega)]; exact L6.out
  have L8' : Hid (w8.heap[g + 1]? = some (.cells #[.int .i64 0, .int .i64 0, .int .i64 0, .int .i64 0, .int .i64 0, .int .i64 0, .int .i64 0, .int .i64 0, .int .i64 0, .int .i64 0, .int .i64 0, .int .i64 0, .int .i64 0, .int .i64 0, .int .i64 0, .int .i64 0, .int .i64 0, .int .i64 0, .int .i64 0, .int .i64 0, .int .i64 0, .int .i64 0, .int .i64 0] 29 (0, 0))) := by rw [← hw8, Hid, setRow_other _ _ _ _ (by omega), ← hw7, alloc_heap _ _ _ (by omega)]; exact L3'.out
  have Z8' : Hid (w8.heap[g + 2]? = some (.cells #[.int .i64 0, .int .i64 0, .int .i64 0, .int .i64 0, .int .i64 0, .int .i64 0, .int .i64 0, .int .i64 0, .int .i64 0, .int .i64 0, .int .i64 0] 68 (0, 0))) := by rw [← hw8, Hid, setRow_other _ _ _ _ (by omega), ← hw7, alloc_heap _ _ _ (by omega)]; exact Z3'.out
  have B8 : Hid (Below g w w8) := by rw [← hw8]; exact setRow_below (by rw [← hw7]; exact B6.out.alloc (by omega) _) (by omega) _
  rw [hw8]
  clear hw8 hw7 R7 R6 L6 B6 hs6 L3' Z3'
  have hl8 : l + 2 ≤ w8.heap.size := by omega
  have WO : Hid (∀ w, Calls Tryz.prog 60 #[.agg (cfg c)] w fun e w' => e = .returned (.int .i64 (W : Int)) ∧ Below w.heap.size w w') := fun w => by rw [← HW.out]; exact words_of c w FH.out
  have KR : Hid (w8.heap.size = l + 2) := Lib.hid hs8
  refine wp_region_inv (fun done a w' => ∃ d0 d1 d2 d3 d4 d5 d6 d7 q, done = #[d0, d1, d2, d3, d4, d5, d6, d7] ∧ (d3 = true → d2 = true) ∧ (d7 = true → d4 = true) ∧
    a = { tmps := #[.agg (cfg c0), .pointer (some ⟨g, 0, none⟩), .pointer (some ⟨g + 1, 0, none⟩), .pointer (some ⟨g + 1 + 1, 0, none⟩), (if d7 = true then .slice (some ⟨q, 0, none⟩) W W else .slice none 0 0), .pointer (some ⟨l, 0, none⟩), .int .i64 0, .pointer (some ⟨l + 1, 0, none⟩), .agg (cfg c0), .agg (cfg c), .tuple #[.agg (lay c p), .int .i64 0], .agg (cfg c), .tuple #[.agg (lay c p), .int .i64 0], .agg (lay c p), .int .i64 0, .agg (cfg c), .agg (cfg c),
      (if d0 = true then .agg (lay c p) else undef), (if d1 = true then .agg (cfg c) else undef), (if d2 = true then .agg (cfg c) else undef), (if d3 = true then .int .i64 (W : Int) else undef), (if d4 = true then .slice (some ⟨q, 0, none⟩) W W else undef)], defers := [] } ∧
    w'.heap[l]? = some (.cells (lay c p) 29 (0, 0)) ∧ w'.heap[l + 1]? = some (.cells (cfg c) 68 (0, 0)) ∧
    w'.heap[g + 1]? = some (.cells (if d5 = true then lay c p else #[.int .i64 0, .int .i64 0, .int .i64 0, .int .i64 0, .int .i64 0, .int .i64 0, .int .i64 0, .int .i64 0, .int .i64 0, .int .i64 0, .int .i64 0, .int .i64 0, .int .i64 0, .int .i64 0, .int .i64 0, .int .i64 0, .int .i64 0, .int .i64 0, .int .i64 0, .int .i64 0, .int .i64 0, .int .i64 0, .int .i64 0]) 29 (0, 0)) ∧ w'.heap[g + 2]? = some (.cells (if d6 = true then cfg c else #[.int .i64 0, .int .i64 0, .int .i64 0, .int .i64 0, .int .i64 0, .int .i64 0, .int .i64 0, .int .i64 0, .int .i64 0, .int .i64 0, .int .i64 0]) 68 (0, 0)) ∧
    (d4 = true → l + 2 ≤ q ∧ w'.heap[q]? = some (.cells (madeCells #[.int .i64 0] (W * 1)) 3 (0, 0))) ∧ Below g w w') (by kernel_rfl) ?_ ?_ ?_
  case refine_1 => exact ⟨false, false, false, false, false, false, false, false, 0, rfl, by simp, by simp, rfl, L8.out, R8.out, L8'.out, Z8'.out, by simp, B8.out.trans (Below.refl _ _).drew⟩
  case refine_2 =>
    rintro done a w' i ⟨d0, d1, d2, d3, d4, d5, d6, d7, q, rfl, h32, h74, rfl, hl, hr, hz1, hz2, hq, hb⟩ hi
    have hsz : l + 1 < w'.heap.size := (Array.getElem?_eq_some_iff.1 hr).1
    obtain ⟨hlt, _⟩ := in_of_getD (mem_ready.1 hi).1
    have hcase : i = 0 ∨ i = 1 ∨ i = 2 ∨ i = 3 ∨ i = 4 ∨ i = 5 ∨ i = 6 ∨ i = 7 := by simp at hlt; omega
    rcases hcase with rfl | rfl | rfl | rfl | rfl | rfl | rfl | rfl
    · refine wpOp_of rfl rfl (wp_load_row 29 _ rfl l rfl 29 (lay c p) (0, 0) _ hl Tryz.underlying29 rfl (lay_size _ _) ?_)
      exact ⟨true, d1, d2, d3, d4, d5, d6, d7, q, rfl, h32, h74, rfl, hl, hr, hz1, hz2, hq, hb⟩
    · refine wpOp_of rfl rfl (wp_load_row 68 _ rfl (l + 1) rfl 68 (cfg c) (0, 0) _ hr Tryz.underlying68 rfl (cfg2_size _) ?_)
      exact ⟨d0, true, d2, d3, d4, d5, d6, d7, q, rfl, h32, h74, rfl, hl, hr, hz1, hz2, hq, hb⟩
    · refine wpOp_of rfl rfl (wp_load_row 68 _ rfl (l + 1) rfl 68 (cfg c) (0, 0) _ hr Tryz.underlying68 rfl (cfg2_size _) ?_)
      exact ⟨d0, d1, true, d3, d4, d5, d6, d7, q, rfl, fun _ => rfl, h74, rfl, hl, hr, hz1, hz2, hq, hb⟩
    · obtain ⟨_, hall⟩ := ready_of hi rfl
      have e2 : d2 = true := hall ⟨2, .data⟩ (by simp) rfl
      subst e2
      refine wpOp_of rfl rfl (wp_call_of (f := 60) (args := #[.agg (cfg c)]) (by kernel_rfl) ((WO.out w').mono ?_))
      rintro e w'' ⟨rfl, hb2⟩
      refine ⟨_, rfl, d0, d1, true, true, d4, d5, d6, d7, q, rfl, fun _ => rfl, h74, rfl, ?_, ?_, ?_, ?_, ?_, ?_⟩
      · rw [hb2.block _ (by omega)]; exact hl
      · rw [hb2.block _ (by omega)]; exact hr
      · rw [hb2.block _ (by omega)]; exact hz1
      · rw [hb2.block _ (by omega)]; exact hz2
      · intro h4
        obtain ⟨h5, h6⟩ := hq h4
        have := (Array.getElem?_eq_some_iff.1 h6).1
        exact ⟨h5, by rw [hb2.block _ this]; exact h6⟩
      · exact hb.trans (hb2.mono (by omega))
    · obtain ⟨hd, hall⟩ := ready_of hi rfl
      have e4 : d4 = false := hd
      have e7 : d7 = false := by cases d7 <;> simp_all
      subst e4 e7
      have e3 : d3 = true := hall ⟨3, .data⟩ (by simp) rfl
      subst e3
      have e2 : d2 = true := h32 rfl
      subst e2
      have hmk := make_ints W (by omega) w'
      refine wpOp_of rfl rfl (wp_make_of (v := .slice (some ⟨w'.heap.size, 0, none⟩) W W) (w' := w'.alloc (.cells (madeCells #[.int .i64 0] (W * 1)) 3)) 25 _ _ rfl hmk ?_)
      · have hs2 : l + 2 ≤ w'.heap.size := by omega
        refine ⟨d0, d1, true, true, true, d5, d6, false, w'.heap.size, rfl, fun _ => rfl, fun h => by simp at h, rfl, ?_, ?_, ?_, ?_, ?_, ?_⟩
        · rw [alloc_heap _ _ _ (by omega)]; exact hl
        · rw [alloc_heap _ _ _ (by omega)]; exact hr
        · rw [alloc_heap _ _ _ (by omega)]; exact hz1
        · rw [alloc_heap _ _ _ (by omega)]; exact hz2
        · intro _
          exact ⟨hs2, new_row _ _ _⟩
        · exact hb.alloc (by omega) _
    · obtain ⟨_, hall⟩ := ready_of hi rfl
      have e0 : d0 = true := hall ⟨0, .data⟩ (by simp) rfl
      subst e0
      refine wpOp_of rfl rfl (wp_store_row 29 _ _ rfl (g + 1) (lay c p) rfl rfl 29 _ hz1 (lay_size _ _) (by split <;> rfl) (lay_one _ _) ?_)
      refine ⟨true, d1, d2, d3, d4, true, d6, d7, q, rfl, h32, h74, rfl, ?_, ?_, ?_, ?_, ?_, ?_⟩
      · rw [setRow_other _ _ _ _ (by omega)]; exact hl
      · rw [setRow_other _ _ _ _ (by omega)]; exact hr
      · exact setRow_same hz1
      · rw [setRow_other _ _ _ _ (by omega)]; exact hz2
      · intro h4
        obtain ⟨h5, h6⟩ := hq h4
        exact ⟨h5, by rw [setRow_other _ _ _ _ (by omega)]; exact h6⟩
      · exact setRow_below hb (by omega) _
    · obtain ⟨_, hall⟩ := ready_of hi rfl
      have e1 : d1 = true := hall ⟨1, .data⟩ (by simp) rfl
      subst e1
      refine wpOp_of rfl rfl (wp_store_row 68 _ _ rfl (g + 2) (cfg c) rfl rfl 68 _ hz2 (cfg2_size _) (by split <;> rfl) (cfg_one _) ?_)
      refine ⟨d0, true, d2, d3, d4, d5, true, d7, q, rfl, h32, h74, rfl, ?_, ?_, ?_, ?_, ?_, ?_⟩
      · rw [setRow_other _ _ _ _ (by omega)]; exact hl
      · rw [setRow_other _ _ _ _ (by omega)]; exact hr
      · rw [setRow_other _ _ _ _ (by omega)]; exact hz1
      · exact setRow_same hz2
      · intro h4
        obtain ⟨h5, h6⟩ := hq h4
        exact ⟨h5, by rw [setRow_other _ _ _ _ (by omega)]; exact h6⟩
      · exact setRow_below hb (by omega) _
    · obtain ⟨_, hall⟩ := ready_of hi rfl
      have e4 : d4 = true := hall ⟨4, .data⟩ (by simp) rfl
      subst e4
      refine wpOp_of rfl rfl (BigFrame.wp_assign _ rfl ?_)
      exact ⟨d0, d1, d2, d3, true, d5, d6, true, q, rfl, h32, fun _ => rfl, rfl, hl, hr, hz1, hz2, hq, hb⟩
  case refine_3 =>
    rintro done a w' ⟨d0, d1, d2, d3, d4, d5, d6, d7, q, rfl, h32, h74, rfl, hl, hr, hz1, hz2, hq, hb⟩ hrd
    have all : (d0 && d1 && d2 && d3 && d4 && d5 && d6 && d7) = true := by
      clear hz1 hz2 hq h32 h74
      revert hrd
      revert d0 d1 d2 d3 d4 d5 d6 d7
      decide +kernel
    simp only [Bool.and_eq_true] at all
    obtain ⟨⟨⟨⟨⟨⟨⟨rfl, rfl⟩, rfl⟩, rfl⟩, rfl⟩, rfl⟩, rfl⟩, rfl⟩ := all
    obtain ⟨hq1, hq2⟩ := hq rfl
    simp only [if_true] at hz1 hz2
    simp only [if_true]
    go_wp2
    refine bodyPost_ret (results_rows2_tmp rfl _ _ (g + 1) (g + 2) 29 68 (lay c p) (cfg c) _ _ rfl rfl hz1 hz2 Tryz.underlying29 rfl (lay_size _ _) Tryz.underlying68 rfl (cfg2_size _)) rfl ?_
    exact ⟨q, rfl, by omega, by simpa using hq2, hb⟩

end Begin_
end Go.Proofs.YthojgahcpkdemaaGreat

namespace Go.Bas
open Go.ChangeShapes Go.WideShapes Go.Deep Go.RowKit

theorem hone_at {P : Program} {fs : Array Field} (h : oneCellFields P fs = true) (j : Nat) (f : Field) (hj : fs[j]? = some f) : f.offset = j ∧ P.cellsOf f.type = 1 := hone_of h j f hj

/-- a struct of ints, by value, that came in -/
theorem open_int_row {H : Type} {enc : TypeId × Value → H} {P : Program} {w : World} {base : Nat} {spare : Nat → Bool} {held : Bool} {t it : TypeId} {fs : Array Field} {v : Value} {d : DataW H} {p : List MemPlace}
    (ht : P.underlying t = some (.struct fs)) (hone : oneCellFields P fs = true) (hit : P.underlying it = some (.int .i64)) (hall : fs.toList.all (fun f => f.type == it) = true)
    (hok : ∃ cs, v = .agg cs ∧ cs.size = P.cellsOf t) (h : DataW.Trod enc P w base spare held t v d p) :
    ∃ cs : Array Value, v = .agg cs ∧ cs.size = P.cellsOf t ∧ ∀ j, j < fs.size → ∃ x : Int, cs[j]? = some (.int .i64 x) := by
  obtain ⟨cs, rfl, hsz⟩ := hok
  obtain ⟨fuel, hf⟩ := h
  obtain ⟨ys, n, rfl, hy, hlen, hyl, hff⟩ := DataW.trod_struct ht hf
  refine ⟨cs, rfl, hsz, fun j hj => ?_⟩
  have hfj : fs[j]? = some fs[j] := Array.getElem?_eq_getElem hj
  obtain ⟨ho, hk⟩ := hone_at hone j _ hfj
  have h1 := hff j _ hfj
  rw [ho, hk] at h1
  have hty : fs[j].type = it := by
    have := List.all_eq_true.1 hall fs[j] (by simp)
    simpa using this
  rw [hty, List.getElem?_eq_getElem (by omega)] at h1
  obtain ⟨x, hx, _⟩ := DataW.trod_int hit h1
  refine ⟨x, ?_⟩
  have e : (Value.cells (.agg cs)).toList = cs.toList := rfl
  have h2 : cs.toList[j]? = some (.int .i64 x) := by
    have h3 : ((cs.toList.drop j).take 1)[0]? = some (.int .i64 x) := by
      have hx' : (cs.toList.drop j).take 1 = [.int .i64 x] := hx
      rw [hx']; rfl
    simpa using h3
  simpa using h2
end Go.Bas

namespace Go.Proofs.YthojgahcpkdemaaGreat
open Go.RowKit Go.Bas Go.WideShapes
namespace Lay

set_option maxRecDepth 100000 in
theorem cfg_of {H : Type} {enc : TypeId × Value → H} {w : World} {base : Nat} {spare : Nat → Bool} {held : Bool} {v : Value} {d : DataW H} {p : List MemPlace} {r : Reach} {b0 : Nat}
    (hv : Value.okWide Tryz.prog w r b0 23 v) (h : DataW.Trod enc Tryz.prog w base spare held 23 v d p) : ∃ c, v = .agg (cfg c) := by
  obtain ⟨cs, rfl, hsz, hc⟩ := open_int_row Tryz.underlying23 (by kernel_rfl) Tryz.underlying3 (by kernel_rfl) (okWide_struct Tryz.underlying23 hv) h
  have h11 : cs.size = 11 := by rw [hsz]; kernel_rfl
  obtain ⟨x0, h0⟩ := hc 0 (by decide); obtain ⟨x1, h1⟩ := hc 1 (by decide); obtain ⟨x2, h2⟩ := hc 2 (by decide); obtain ⟨x3, h3⟩ := hc 3 (by decide)
  obtain ⟨x4, h4⟩ := hc 4 (by decide); obtain ⟨x5, h5⟩ := hc 5 (by decide); obtain ⟨x6, h6⟩ := hc 6 (by decide); obtain ⟨x7, h7⟩ := hc 7 (by decide)
  obtain ⟨x8, h8⟩ := hc 8 (by decide); obtain ⟨x9, h9⟩ := hc 9 (by decide); obtain ⟨xa, ha⟩ := hc 10 (by decide)
  refine ⟨⟨x0, x1, x2, x3, x4, x5, x6, x7, x8, x9, xa⟩, ?_⟩
  congr 1
  apply Array.ext_getElem?
  intro i
  by_cases hi : i < 11
  · match i, hi with
    | 0, _ => exact h0
    | 1, _ => exact h1
    | 2, _ => exact h2
    | 3, _ => exact h3
    | 4, _ => exact h4
    | 5, _ => exact h5
    | 6, _ => exact h6
    | 7, _ => exact h7
    | 8, _ => exact h8
    | 9, _ => exact h9
    | 10, _ => exact ha
  · rw [Array.getElem?_eq_none (by omega), Array.getElem?_eq_none (by simp [cfg]; omega)]

end Lay
end Go.Proofs.YthojgahcpkdemaaGreat

/- an arena of a small layout, its clock at first -/
namespace Go.Proofs.YthojgahcpkdemaaGreat
open Go.RowKit Go.Bas View VIn IMap_ Lay RefLay Of Small_ Begin_
namespace Att

theorem results_row_tmps {P : Program} {fn : Func} {p u v : Tmp} {t1 : TypeId} (h : fn.results = #[.cell p t1, .tmp u, .tmp v]) (tmps : Array Value) (w : World) (g1 : Nat) (e1 : TypeId) (c1 : Array Value) (d1 : TypeDesc)
    (hp : tmps.getD p undef = .pointer (some ⟨g1, 0, none⟩)) (hg1 : w.heap[g1]? = some (.cells c1 e1 (0, 0)))
    (hu1 : P.underlying t1 = some d1) (hd1 : (match d1 with | .struct _ | .array _ _ => true | _ => false) = true) (hi1 : (P.info? t1).map (·.size) = some c1.size) :
    (results fn tmps).run P w = .ok (.tuple #[.agg c1, tmps.getD u undef, tmps.getD v undef]) w := by
  have hp' : tmps[p]?.getD undef = .pointer (some ⟨g1, 0, none⟩) := by simpa using hp
  simp only [results, h]
  simp [Sem.run_bind, hp', asAddr, run_loadVar_row w g1 e1 t1 c1 (0, 0) d1 hg1 hu1 hd1 hi1, Result.andThen]

/-- the document's arena -/
structure RAr (w : World) (a g : Nat) (W : List Int) (c : Int) : Prop where
  row : w.heap[a]? = some (.cells #[.slice (some ⟨g, 0, none⟩) W.length W.length, .int .i64 c] 100 (0, 0))
  words : w.heap[g]? = some (.cells (W.map (Value.int .i64)).toArray 3 (0, 0))
  ne : a ≠ g

set_option maxRecDepth 100000 in
theorem ref_new (n : Nat) (h1 : 1 ≤ n) (hn : n ≤ 1000000) (w : World) :
    Calls Tryz.prog 39 #[.int .i64 n] w fun en w' => ∃ a g, en = .returned (.pointer (some ⟨a, 0, none⟩)) ∧ w.heap.size ≤ a ∧ w.heap.size ≤ g ∧ RAr w' a g (List.replicate n 0) 0 ∧ Below w.heap.size w w' := by
  have mk := View.make_ints n hn
  obtain ⟨B, hB⟩ : ∃ B, w.heap.size = B := ⟨_, rfl⟩
  obtain ⟨w1, hw1⟩ : ∃ w1, w.alloc (.cells ((List.replicate n (0 : Int)).map (Value.int .i64)).toArray 3) = w1 := ⟨_, rfl⟩
  have s1 : w1.heap.size = B + 1 := by rw [← hw1, ← hB]; simp
  obtain ⟨w2, hw2⟩ : ∃ w2, w1.alloc (.cells #[.slice (some ⟨B, 0, none⟩) n n, .int .i64 0] 100) = w2 := ⟨_, rfl⟩
  have fin : Hid (RAr w2 (B + 1) B (List.replicate n 0) 0 ∧ Below B w w2) := by
    refine ⟨⟨?_, ?_, by omega⟩, ?_⟩
    · rw [← hw2, ← s1, List.length_replicate]; exact new_row _ _ _
    · rw [← hw2, alloc_heap _ _ _ (by omega), ← hw1, ← hB]; exact new_row _ _ _
    · rw [← hw2]; exact (show Below B w w1 by rw [← hw1]; exact (Below.refl _ _).alloc (by omega) _).alloc (by omega) _
  have mk1 := mk w
  rw [hw1, hB] at mk1
  clear mk hw1
  go_enter Tryz.func39, Tryz.ntmps39
  go_wp2
  go_ret
  rw [hB]
  exact ⟨B + 1, B, by first | rfl | (rw [s1]), by omega, by omega, fin.out⟩

set_option maxRecDepth 100000 in
theorem ref_has {w : World} {a g : Nat} {W : List Int} {c : Int} (H : RAr w a g W c) (i : Int) (hi : 0 ≤ i ∧ i < W.length) :
    Calls Tryz.prog 61 #[.pointer (some ⟨a, 0, none⟩), .int .i64 i] w fun en w' => en = .returned (.bool true) ∧ w'.cell? ⟨a, 0, none⟩ = some (.slice (some ⟨g, 0, none⟩) W.length W.length) ∧ w'.heap[g]? = w.heap[g]? ∧ Chg (fun k => k = a ∨ k = g) w w' := by
  obtain ⟨n, hn⟩ : ∃ n, W.length = n := ⟨_, rfl⟩
  have hr := H.row
  rw [hn] at hr hi ⊢
  have f1 : ∀ j, w.cell? ⟨a, j, none⟩ = (#[.slice (some ⟨g, 0, none⟩) n n, .int .i64 c] : Array Value)[j]? := fun j => cell_of_row _ _ _ _ _ _ hr
  have f2 : ∀ j v, w.setCell ⟨a, j, none⟩ v = w.setRow a ((#[.slice (some ⟨g, 0, none⟩) n n, .int .i64 c] : Array Value).setIfInBounds j v) := fun j v => setCell_row hr
  have f3 : ∀ j, w.frozen? ⟨a, j, none⟩ = false := row_frozen hr
  have FIN : Hid (∀ c2, (w.setRow a #[.slice (some ⟨g, 0, none⟩) n n, .int .i64 c2]).cell? ⟨a, 0, none⟩ = some (.slice (some ⟨g, 0, none⟩) n n) ∧ (w.setRow a #[.slice (some ⟨g, 0, none⟩) n n, .int .i64 c2]).heap[g]? = w.heap[g]? ∧ Chg (fun k => k = a ∨ k = g) w (w.setRow a #[.slice (some ⟨g, 0, none⟩) n n, .int .i64 c2])) := fun c2 =>
    ⟨by rw [cell_of_row _ _ _ _ _ _ (setRow_same hr)]; rfl, setRow_other _ _ _ _ (Ne.symm H.ne), Chg.setRow w a _ (.inl rfl)⟩
  have g1 : decide (i < 0) = false := by simp; omega
  have g2 : decide ((n : Int) ≤ i) = false := by simp; omega
  obtain ⟨h1, h2⟩ := hi
  clear H hr hn
  go_enter Tryz.func61, Tryz.ntmps61
  go_wp2
  go_ret
  exact ⟨rfl, FIN.out _⟩

set_option maxRecDepth 100000 in
theorem ref_store {w : World} {a g : Nat} {W : List Int} {c : Int} (H : RAr w a g W c) (i x : Int) (hi : 0 ≤ i ∧ i < W.length) :
    Calls Tryz.prog 40 #[.pointer (some ⟨a, 0, none⟩), .int .i64 i, .int .i64 x] w fun en w' => en = .returned (.int .i64 0) ∧ Chg (fun k => k = a ∨ k = g) w w' := by
  have HS := Lib.hid (ref_has H i hi)
  have HW := Lib.hid H.words
  obtain ⟨n, hn⟩ : ∃ n, W.length = n := ⟨_, rfl⟩
  have HN := Lib.hid hn
  rw [hn] at HS hi
  obtain ⟨h1, h2⟩ := hi
  obtain ⟨k, rfl⟩ : ∃ k : Nat, i = k := ⟨i.toNat, by omega⟩
  have hkn : k < n := by omega
  clear H hn
  go_enter Tryz.func40, Tryz.ntmps40
  go_wp2_with (first
    | (go_at_call 61; refine HS.out.mono ?_; rintro e w2 ⟨rfl, k0, hk2, hc2⟩
       have W2 : w2.heap[g]? = some (.cells (W.map (Value.int .i64)).toArray 3 (0, 0)) := hk2.trans HW.out
       have k1 : w2.cell? ⟨g, k, none⟩ = some (.int .i64 (W.getD k 0)) := by
         rw [cell_of_row _ _ _ _ _ _ W2]
         have : k < W.length := by rw [HN.out]; exact hkn
         simp [this]
       have k2 : w2.frozen? ⟨g, k, none⟩ = false := row_frozen W2 k
       have FIN : Hid (Chg (fun k => k = a ∨ k = g) w (w2.setCell ⟨g, k, none⟩ (.int .i64 x))) := hc2.trans (Chg.setCell _ _ _ (.inr rfl))
       clear hk2 hc2 W2))
  go_ret
  exact ⟨rfl, FIN.out⟩

/-- the clock at first -/
def clock0 (c : Cfg) (x : Int) : Int := IntKind.u64.wrap x % (min (small c).clock 1000 + 1)
/-- the words at first -/
def words0 (c : Cfg) (x : Int) : List Int := (List.replicate (words (small c)).toNat 0).set 1 (clock0 c x)

def BegOut (c : Cfg) (x : Int) (w : World) (e : Ending) (w' : World) : Prop :=
  ∃ a g ra, e = .returned (.tuple #[.agg (lay (small c) (places (small c))), .pointer (some ⟨a, 0, none⟩), .pointer (some ⟨ra, 0, none⟩)]) ∧ w.heap.size ≤ a ∧ w.heap.size ≤ g ∧ Ar w' a g (words0 c x) 1 ∧ Below w.heap.size w w'
set_option maxRecDepth 100000 in
set_option maxHeartbeats 2000000 in
theorem beg_any (c : Cfg) (x : Int) (w : World) : Calls Tryz.prog 10 #[.agg (cfg c), .int .i64 x] w (BegOut c x w) := by
  have F := small_fine c
  have hwi := words_in F
  have hck := F.clock
  obtain ⟨N, hN⟩ : ∃ N : Nat, (words (small c)).toNat = N := ⟨_, rfl⟩
  have hN1 : 160 ≤ N ∧ N ≤ 40000 := by omega
  have BG0 := fun w => begin_of c w
  have HNN := Lib.hid hN
  obtain ⟨c1, hc1⟩ : ∃ c1, small c = c1 := ⟨_, rfl⟩
  obtain ⟨p, hp⟩ : ∃ p, places c1 = p := ⟨_, rfl⟩
  rw [hc1] at BG0 hck hwi
  rw [hc1] at hN
  rw [hN, hp] at BG0
  have BG := Lib.hid BG0
  obtain ⟨ck, hckv⟩ : ∃ ck, clock0 c x = ck := ⟨_, rfl⟩
  have hckb : 0 ≤ ck ∧ ck ≤ 1000 := by
    rw [← hckv]; unfold clock0; rw [hc1]
    have := Int.emod_nonneg (IntKind.u64.wrap x) (b := min c1.clock 1000 + 1) (by omega)
    have := Int.emod_lt_of_pos (IntKind.u64.wrap x) (b := min c1.clock 1000 + 1) (by omega)
    omega
  have hckd : IntKind.u64.wrap x % (min c1.clock 1000 + 1) = ck := by rw [← hckv]; unfold clock0; rw [hc1]
  have W0 : Hid (words0 c x = (List.replicate N 0).set 1 ck) := by unfold words0; rw [Hid, hckv, hc1, hN]
  have HC1 := Lib.hid hc1; have HP := Lib.hid hp
  have HCKD := Lib.hid hckd
  obtain ⟨g, hg⟩ : ∃ g, w.heap.size = g := ⟨_, rfl⟩
  have HG := Lib.hid hg
  obtain ⟨w1, hw1⟩ : ∃ w1, (w.alloc (.cells (cfg c) 23)).alloc (.cells #[.int .i64 0, .int .i64 0, .int .i64 0, .int .i64 0, .int .i64 0, .int .i64 0, .int .i64 0, .int .i64 0, .int .i64 0, .int .i64 0, .int .i64 0, .int .i64 0, .int .i64 0, .int .i64 0, .int .i64 0, .int .i64 0, .int .i64 0, .int .i64 0, .int .i64 0, .int .i64 0, .int .i64 0, .int .i64 0, .int .i64 0] 29) = w1 := ⟨_, rfl⟩
  have s0 : (w.alloc (.cells (cfg c) 23)).heap.size = g + 1 := by rw [← hg]; simp
  have R1 : Hid (w1.heap[g]? = some (.cells (cfg c) 23 (0, 0))) := by rw [← hw1, Hid, alloc_heap _ _ _ (by omega), ← hg]; exact new_row _ _ _
  have L1 : Hid (w1.heap[g + 1]? = some (.cells #[.int .i64 0, .int .i64 0, .int .i64 0, .int .i64 0, .int .i64 0, .int .i64 0, .int .i64 0, .int .i64 0, .int .i64 0, .int .i64 0, .int .i64 0, .int .i64 0, .int .i64 0, .int .i64 0, .int .i64 0, .int .i64 0, .int .i64 0, .int .i64 0, .int .i64 0, .int .i64 0, .int .i64 0, .int .i64 0, .int .i64 0] 29 (0, 0))) := by rw [← hw1, Hid, ← s0]; exact new_row _ _ _
  have B1 : Hid (Below g w w1) := by rw [← hw1, ← hg]; exact ((Below.refl _ _).alloc (Nat.le_refl _) _).alloc (by simp) _
  have s1 : w1.heap.size = g + 2 := by rw [← hw1]; simp; omega
  clear F hwi hN hc1 hp hckv hckd BG0 s0
  go_enter Tryz.func10, Tryz.ntmps10
  go_upto_region 1 with fail
  go_upto_region 2 with (first
    | (refine wpList_load_row rfl 23 _ rfl g rfl 23 (cfg c) (0, 0) _ R1.out Tryz.underlying23 rfl (cfg_size _) ?_)
    | (go_at_call 37; refine (BG.out _).mono ?_; rintro e w2 ⟨q, rfl, hq, hqw, hb2⟩
       obtain ⟨l, hl⟩ : ∃ l, w2.heap.size = l := ⟨_, rfl⟩
       have hl1 : g + 2 ≤ l := by have := hb2.size; omega
       obtain ⟨w3, hw3⟩ : ∃ w3, (w2.alloc (.cells #[.int .i64 0, .int .i64 0, .int .i64 0, .int .i64 0, .int .i64 0, .int .i64 0, .int .i64 0, .int .i64 0, .int .i64 0, .int .i64 0, .int .i64 0, .int .i64 0, .int .i64 0, .int .i64 0, .int .i64 0, .int .i64 0, .int .i64 0, .int .i64 0, .int .i64 0, .int .i64 0, .int .i64 0, .int .i64 0, .int .i64 0] 29)).alloc (.cells #[.int .i64 0, .int .i64 0, .int .i64 0, .int .i64 0, .int .i64 0, .int .i64 0, .int .i64 0, .int .i64 0, .int .i64 0, .int .i64 0, .int .i64 0] 68) = w3 := ⟨_, rfl⟩
       have t0 : (w2.alloc (.cells #[.int .i64 0, .int .i64 0, .int .i64 0, .int .i64 0, .int .i64 0, .int .i64 0, .int .i64 0, .int .i64 0, .int .i64 0, .int .i64 0, .int .i64 0, .int .i64 0, .int .i64 0, .int .i64 0, .int .i64 0, .int .i64 0, .int .i64 0, .int .i64 0, .int .i64 0, .int .i64 0, .int .i64 0, .int .i64 0, .int .i64 0] 29)).heap.size = l + 1 := by rw [← hl]; simp
       have L3 : w3.heap[l]? = some (.cells #[.int .i64 0, .int .i64 0, .int .i64 0, .int .i64 0, .int .i64 0, .int .i64 0, .int .i64 0, .int .i64 0, .int .i64 0, .int .i64 0, .int .i64 0, .int .i64 0, .int .i64 0, .int .i64 0, .int .i64 0, .int .i64 0, .int .i64 0, .int .i64 0, .int .i64 0, .int .i64 0, .int .i64 0, .int .i64 0, .int .i64 0] 29 (0, 0)) := by rw [← hw3, alloc_heap _ _ _ (by omega), ← hl]; exact new_row _ _ _
       have Q3 : w3.heap[l + 1]? = some (.cells #[.int .i64 0, .int .i64 0, .int .i64 0, .int .i64 0, .int .i64 0, .int .i64 0, .int .i64 0, .int .i64 0, .int .i64 0, .int .i64 0, .int .i64 0] 68 (0, 0)) := by rw [← hw3, ← t0]; exact new_row _ _ _
       have Z3 : Hid (w3.heap[g + 1]? = some (.cells #[.int .i64 0, .int .i64 0, .int .i64 0, .int .i64 0, .int .i64 0, .int .i64 0, .int .i64 0, .int .i64 0, .int .i64 0, .int .i64 0, .int .i64 0, .int .i64 0, .int .i64 0, .int .i64 0, .int .i64 0, .int .i64 0, .int .i64 0, .int .i64 0, .int .i64 0, .int .i64 0, .int .i64 0, .int .i64 0, .int .i64 0] 29 (0, 0))) := by rw [Hid, ← hw3, alloc_heap _ _ _ (by omega), alloc_heap _ _ _ (by omega), hb2.block _ (by omega)]; exact L1.out
       have B3 : Hid (Below g w w3) := by rw [← hw3]; exact ((B1.out.trans (hb2.mono (by omega))).alloc (by omega) _).alloc (by simp; omega) _
       obtain ⟨w4, hw4⟩ : ∃ w4, w3.setRow l (lay c1 p) = w4 := ⟨_, rfl⟩
       have L4 : w4.heap[l]? = some (.cells (lay c1 p) 29 (0, 0)) := by rw [← hw4]; exact setRow_same L3
       have Q4 : w4.heap[l + 1]? = some (.cells #[.int .i64 0, .int .i64 0, .int .i64 0, .int .i64 0, .int .i64 0, .int .i64 0, .int .i64 0, .int .i64 0, .int .i64 0, .int .i64 0, .int .i64 0] 68 (0, 0)) := by rw [← hw4, setRow_other _ _ _ _ (by omega)]; exact Q3
       have HQ3 : Hid ((w3.setRow l (lay c1 p)).heap[l + 1]? = some (.cells #[.int .i64 0, .int .i64 0, .int .i64 0, .int .i64 0, .int .i64 0, .int .i64 0, .int .i64 0, .int .i64 0, .int .i64 0, .int .i64 0, .int .i64 0] 68 (0, 0))) := by rw [Hid, hw4]; exact Q4
       have HL3 := Lib.hid L3; have HQ4 := Lib.hid Q4; have HL4 := Lib.hid L4
       have Z4 : Hid (w4.heap[g + 1]? = some (.cells #[.int .i64 0, .int .i64 0, .int .i64 0, .int .i64 0, .int .i64 0, .int .i64 0, .int .i64 0, .int .i64 0, .int .i64 0, .int .i64 0, .int .i64 0, .int .i64 0, .int .i64 0, .int .i64 0, .int .i64 0, .int .i64 0, .int .i64 0, .int .i64 0, .int .i64 0, .int .i64 0, .int .i64 0, .int .i64 0, .int .i64 0] 29 (0, 0))) := by rw [Hid, ← hw4, setRow_other _ _ _ _ (by omega)]; exact Z3.out
       have B4 : Hid (Below g w w4) := by rw [← hw4]; exact setRow_below B3.out (by omega) _
       have s4 : Hid (w4.heap.size = l + 2) := by rw [Hid, ← hw4, Bas.setRow_size, ← hw3]; simp; omega
       clear L3 Q3 L4 Q4 hb2 hqw t0)
    | (refine wpList_store_row rfl 29 _ _ rfl l (lay c1 p) rfl rfl 29 #[.int .i64 0, .int .i64 0, .int .i64 0, .int .i64 0, .int .i64 0, .int .i64 0, .int .i64 0, .int .i64 0, .int .i64 0, .int .i64 0, .int .i64 0, .int .i64 0, .int .i64 0, .int .i64 0, .int .i64 0, .int .i64 0, .int .i64 0, .int .i64 0, .int .i64 0, .int .i64 0, .int .i64 0, .int .i64 0, .int .i64 0] HL3.out (lay_size _ _) rfl (lay_one _ _) ?_)
    | (refine wpList_store_row rfl 68 _ _ rfl (l + 1) (cfg c1) rfl rfl 68 #[.int .i64 0, .int .i64 0, .int .i64 0, .int .i64 0, .int .i64 0, .int .i64 0, .int .i64 0, .int .i64 0, .int .i64 0, .int .i64 0, .int .i64 0] HQ4.out (cfg2_size _) rfl (cfg_one _) ?_)
    | (refine wpList_store_row rfl 68 _ _ rfl (l + 1) (cfg c1) rfl rfl 68 #[.int .i64 0, .int .i64 0, .int .i64 0, .int .i64 0, .int .i64 0, .int .i64 0, .int .i64 0, .int .i64 0, .int .i64 0, .int .i64 0, .int .i64 0] HQ3.out (cfg2_size _) rfl (cfg_one _) ?_))
  obtain ⟨w5, hw5⟩ : ∃ w5, w4.setRow (l + 1) (cfg c1) = w5 := ⟨_, rfl⟩
  have Q5 : Hid (w5.heap[l + 1]? = some (.cells (cfg c1) 68 (0, 0))) := by rw [Hid, ← hw5]; exact setRow_same HQ4.out
  have L5 : Hid (w5.heap[l]? = some (.cells (lay c1 p) 29 (0, 0))) := by rw [Hid, ← hw5, setRow_other _ _ _ _ (by omega)]; exact HL4.out
  have Z5 : Hid (w5.heap[g + 1]? = some (.cells #[.int .i64 0, .int .i64 0, .int .i64 0, .int .i64 0, .int .i64 0, .int .i64 0, .int .i64 0, .int .i64 0, .int .i64 0, .int .i64 0, .int .i64 0, .int .i64 0, .int .i64 0, .int .i64 0, .int .i64 0, .int .i64 0, .int .i64 0, .int .i64 0, .int .i64 0, .int .i64 0, .int .i64 0, .int .i64 0, .int .i64 0] 29 (0, 0))) := by rw [Hid, ← hw5, setRow_other _ _ _ _ (by omega)]; exact Z4.out
  have B5 : Hid (Below g w w5) := by rw [← hw5]; exact setRow_below B4.out (by omega) _
  have s5 : Hid (w5.heap.size = l + 2) := by rw [Hid, ← hw5, Bas.setRow_size]; exact s4.out
  rw [hw5]
  clear hw5 HQ4 HL4 Z4 B4 s4 HQ3 HL3 Z3 B3 hw4 hw3 L1 B1 R1 BG hl hw1 s1
  go_upto_region 4 with (first
    | (go_at_call 38; refine (new_any N (by omega) (by omega) _).mono ?_; rintro e w6 ⟨a, ga, rfl, ha, hga, hA6, hb6⟩
       have A6 := Lib.hid hA6; have B6 := Lib.hid hb6
       clear hA6 hb6)
    | (go_at_call 39; refine (ref_new N (by omega) (by omega) _).mono ?_; rintro e w7 ⟨ra, rg, rfl, hra, hrg, hR7, hb7⟩
       have R7 := Lib.hid hR7; have B7 := Lib.hid hb7
       clear hR7 hb7))
  have e5 := s5.out
  have hs6 := B6.out.size
  have hs6a : Hid (a < w6.heap.size ∧ ga < w6.heap.size) := A6.out.lt
  have hs7 := B7.out.size
  have Q7 : w7.heap[l + 1]? = some (.cells (cfg c1) 68 (0, 0)) := by rw [B7.out.block _ (by omega), B6.out.block _ (by omega)]; exact Q5.out
  have L7 : Hid (w7.heap[l]? = some (.cells (lay c1 p) 29 (0, 0))) := by rw [Hid, B7.out.block _ (by omega), B6.out.block _ (by omega)]; exact L5.out
  have Z7 : Hid (w7.heap[g + 1]? = some (.cells #[.int .i64 0, .int .i64 0, .int .i64 0, .int .i64 0, .int .i64 0, .int .i64 0, .int .i64 0, .int .i64 0, .int .i64 0, .int .i64 0, .int .i64 0, .int .i64 0, .int .i64 0, .int .i64 0, .int .i64 0, .int .i64 0, .int .i64 0, .int .i64 0, .int .i64 0, .int .i64 0, .int .i64 0, .int .i64 0, .int .i64 0] 29 (0, 0))) := by rw [Hid, B7.out.block _ (by omega), B6.out.block _ (by omega)]; exact Z5.out
  have A7 : Hid (Ar w7 a ga (List.replicate N 0) 0) := A6.out.below B7.out
  have BB7 : Hid (Below g w w7) := (B5.out.trans (B6.out.mono (by omega))).trans (B7.out.mono (by omega))
  have k6 : w7.cell? ⟨l + 1, 6, none⟩ = some (.int .i64 c1.clock) := by rw [cell_of_row _ _ _ _ _ _ Q7]; rfl
  have hmn : 1 ≤ min c1.clock 1000 ∧ min c1.clock 1000 ≤ 1000 := by omega
  obtain ⟨mn, hmnv⟩ : ∃ mn, min c1.clock 1000 = mn := ⟨_, rfl⟩
  rw [hmnv] at hmn HCKD
  have u1 : IntKind.u64.wrap (mn + 1) = mn + 1 := by rw [IntKind.wrap_u64]; omega
  obtain ⟨u, hu⟩ : ∃ u, IntKind.u64.wrap x = u := ⟨_, rfl⟩
  have u0 : 0 ≤ u ∧ u ≤ 18446744073709551615 := by rw [← hu, IntKind.wrap_u64]; omega
  rw [hu] at HCKD
  have tm : u.tmod (mn + 1) = ck := by rw [Int.tmod_eq_emod_of_nonneg u0.1]; exact HCKD.out
  clear Q7 Q5 L5 Z5 B5 B6 B7 A6 e5
  go_upto_region 5 with fail
  have e1 : (if 1000 < c1.clock then 1000 else c1.clock) = mn := by rw [← hmnv]; split <;> omega
  (try rw [e1])
  have eck : wrap64 (u % (mn + 1)) = ck := by
    rw [HCKD.out]
    exact IntWalk.wrap64_in _ (by omega)
  (try rw [eck])
  have e5 := s5.out
  have ST := Lib.hid (store_any A7.out (by omega) 1 ck)
  have RS : Hid (∀ w8, w8.heap[ra]? = w7.heap[ra]? → w8.heap[rg]? = w7.heap[rg]? → Calls Tryz.prog 40 #[.pointer (some ⟨ra, 0, none⟩), .int .i64 1, .int .i64 ck] w8 fun en w' => en = .returned (.int .i64 0) ∧ Chg (fun k => k = ra ∨ k = rg) w8 w') := fun w8 h1 h2 =>
    ref_store ⟨h1.trans R7.out.row, h2.trans R7.out.words, R7.out.ne⟩ 1 ck ⟨by omega, by simp; omega⟩
  have hra7 : ra < w7.heap.size := (Array.getElem?_eq_some_iff.1 R7.out.row).1
  have hrg7 : rg < w7.heap.size := (Array.getElem?_eq_some_iff.1 R7.out.words).1
  have h6 := A7.out.lt
  have hdis : ra ≠ a ∧ ra ≠ ga ∧ rg ≠ a ∧ rg ≠ ga := by have := hs6a.out; omega
  clear k6 eck tm hmnv u1 hu u0 hmn e1
  go_upto_region 7 with (first
    | (go_at_call 25; refine ST.out.mono ?_; rintro e w8 ⟨rfl, ha8, hc8⟩
       have A8 := Lib.hid ha8; have C8 := Lib.hid hc8
       clear ha8 hc8)
    | (go_at_call 40; refine (RS.out _ (C8.out.block ra hra7 (by omega)) (C8.out.block rg hrg7 (by omega))).mono ?_; rintro e w9 ⟨rfl, hc9⟩
       have C9 := Lib.hid hc9
       clear hc9))
  have hs8 := C8.out.size
  have L9 : Hid (w9.heap[l]? = some (.cells (lay c1 p) 29 (0, 0))) := by rw [Hid, C9.out.block l (by omega) (by omega), C8.out.block l (by omega) (by omega)]; exact L7.out
  have Z9 : Hid (w9.heap[g + 1]? = some (.cells #[.int .i64 0, .int .i64 0, .int .i64 0, .int .i64 0, .int .i64 0, .int .i64 0, .int .i64 0, .int .i64 0, .int .i64 0, .int .i64 0, .int .i64 0, .int .i64 0, .int .i64 0, .int .i64 0, .int .i64 0, .int .i64 0, .int .i64 0, .int .i64 0, .int .i64 0, .int .i64 0, .int .i64 0, .int .i64 0, .int .i64 0] 29 (0, 0))) := by rw [Hid, C9.out.block _ (by omega) (by omega), C8.out.block _ (by omega) (by omega)]; exact Z7.out
  have A9 : Hid (Ar w9 a ga (words0 c x) 1) := by
    have := A8.out.kept (C9.out.block a (by omega) (by omega)) (C9.out.block ga (by omega) (by omega))
    rw [W0.out]
    have hi : inn (List.replicate N 0) 1 = true := by unfold inn; simp; omega
    have e1 : st (List.replicate N 0) 1 ck = (List.replicate N 0).set 1 ck := by unfold st; rw [hi]; rfl
    have e2 : cnt (List.replicate N 0) 1 = 1 := by unfold cnt; rw [hi]; rfl
    rw [e1, e2] at this
    exact this
  obtain ⟨w10, hw10⟩ : ∃ w10, w9.setRow (g + 1) (lay c1 p) = w10 := ⟨_, rfl⟩
  have Z10 : Hid (w10.heap[g + 1]? = some (.cells (lay c1 p) 29 (0, 0))) := by rw [Hid, ← hw10]; exact setRow_same Z9.out
  have FIN : Hid (BegOut c x w (.returned (.tuple #[.agg (lay c1 p), .pointer (some ⟨a, 0, none⟩), .pointer (some ⟨ra, 0, none⟩)])) w10) := by
    refine ⟨a, ga, ra, by rw [HC1.out, HP.out], by rw [HG.out]; omega, by rw [HG.out]; omega, ?_, ?_⟩
    · rw [← hw10]; exact A9.out.kept (setRow_other _ _ _ _ (by omega)) (setRow_other _ _ _ _ (by omega))
    · rw [← hw10, HG.out]
      have h1 : Below g w w9 := (((Chg.of_below BB7.out).trans (C8.out.mono (fun k _ h => by omega))).trans (C9.out.mono (fun k _ h => by omega))).below (by rw [HG.out]; exact Nat.le_refl _) (fun k h => h)
      exact setRow_below h1 (by omega) _
  clear A8 C8 C9 A9 ST RS
  go_wp2_with (first
    | (refine wpList_load_row rfl 29 _ rfl l rfl 29 (lay c1 p) (0, 0) _ L9.out Tryz.underlying29 rfl (lay_size _ _) ?_)
    | (refine wpList_store_row rfl 29 _ _ rfl (g + 1) (lay c1 p) rfl rfl 29 #[.int .i64 0, .int .i64 0, .int .i64 0, .int .i64 0, .int .i64 0, .int .i64 0, .int .i64 0, .int .i64 0, .int .i64 0, .int .i64 0, .int .i64 0, .int .i64 0, .int .i64 0, .int .i64 0, .int .i64 0, .int .i64 0, .int .i64 0, .int .i64 0, .int .i64 0, .int .i64 0, .int .i64 0, .int .i64 0, .int .i64 0] Z9.out (lay_size _ _) rfl (lay_one _ _) ?_))
  refine bodyPost_ret (results_row_tmps rfl _ _ (g + 1) 29 (lay c1 p) _ rfl Z10.out Tryz.underlying29 rfl (lay_size _ _)) rfl ?_
  exact FIN.out

end Att
end Go.Proofs.YthojgahcpkdemaaGreat
