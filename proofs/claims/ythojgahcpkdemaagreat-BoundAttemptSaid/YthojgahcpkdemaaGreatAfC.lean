/- Lemmas of this seat's proofs, several texts laid together. -/
import Derived.Test.YthojgahcpkdemaaGreatAfA
import Derived.Test.YthojgahcpkdemaaGreatAfB
import Derived.Deep.Cut
import Derived.StillTailTactics
import Derived.Laws.Shifts
import Derived.Laws.BitsAllLaws
import Derived.Test.YthojgahcpkdemaaGreatRows
import Derived.Deep.MidRow
set_option linter.unusedVariables false
set_option linter.unusedSimpArgs false
/- arena: words with addresses -/
namespace Go.Proofs.YthojgahcpkdemaaGreat
open Go.RowKit Go.Bas
namespace Att

/-- an arena in memory: its block, its words' block -/
structure Ar (w : World) (a g : Nat) (W : List Int) (c : Int) : Prop where
  row : w.heap[a]? = some (.cells #[.slice (some ⟨g, 0, none⟩) W.length W.length, .int .i64 c] 97 (0, 0))
  words : w.heap[g]? = some (.cells (W.map (Value.int .i64)).toArray 3 (0, 0))
  ne : a ≠ g
  len : W.length ≤ 1048576
theorem Ar.kept {w w' : World} {a g : Nat} {W : List Int} {c : Int} (h : Ar w a g W c) (ha : w'.heap[a]? = w.heap[a]?) (hg : w'.heap[g]? = w.heap[g]?) : Ar w' a g W c :=
  ⟨ha.trans h.row, hg.trans h.words, h.ne, h.len⟩
theorem Ar.lt {w : World} {a g : Nat} {W : List Int} {c : Int} (h : Ar w a g W c) : a < w.heap.size ∧ g < w.heap.size := ⟨(Array.getElem?_eq_some_iff.1 h.row).1, (Array.getElem?_eq_some_iff.1 h.words).1⟩
theorem Ar.below {w w' : World} {a g : Nat} {W : List Int} {c : Int} (h : Ar w a g W c) (hb : Below w.heap.size w w') : Ar w' a g W c := h.kept (hb.block _ h.lt.1) (hb.block _ h.lt.2)

/-- a closure that tells what a word is to be -/
def Acts (S : Nat → Prop) (pf : FuncId) (caps : Array Value) (w : World) (was now told e : Int) : Prop :=
  ∀ w' : World, (∀ k, S k → w'.heap[k]? = w.heap[k]?) →
    Calls Tryz.prog pf (#[.int .i64 was] ++ caps) w' fun en w'' => en = .returned (.tuple #[.int .i64 now, .int .i64 told, .int .i64 e]) ∧ Below w'.heap.size w' w''

set_option maxRecDepth 100000 in
theorem load_acts (x : Int) (w : World) : Acts (fun _ => False) 54 #[] w x x x 0 := by
  intro w' _
  have B0 := Lib.hid (Below.refl w'.heap.size w')
  show Calls _ _ #[.int .i64 x] _ _
  go_enter Tryz.func54, Tryz.ntmps54
  go_wp2
  go_ret3
  exact ⟨rfl, B0.out⟩
set_option maxRecDepth 100000 in
theorem store_acts {w : World} {b : Nat} {x : Int} (hb : w.heap[b]? = some (.cells #[.int .i64 x] 3 (0, 0))) (was : Int) : Acts (fun k => k = b) 57 #[.pointer (some ⟨b, 0, none⟩)] w was x 0 0 := by
  intro w' hS
  have B0 := Lib.hid (Below.refl w'.heap.size w')
  have k0 : w'.cell? ⟨b, 0, none⟩ = some (.int .i64 x) := cell_of_row _ _ _ _ _ _ ((hS b rfl).trans hb)
  clear hS hb
  show Calls _ _ #[.int .i64 was, .pointer (some ⟨b, 0, none⟩)] _ _
  go_enter Tryz.func57, Tryz.ntmps57
  go_wp2
  go_ret3
  exact ⟨rfl, B0.out⟩
set_option maxRecDepth 100000 in
theorem swap_acts {w : World} {b1 b2 : Nat} {old x : Int} (h1 : w.heap[b1]? = some (.cells #[.int .i64 old] 3 (0, 0))) (h2 : w.heap[b2]? = some (.cells #[.int .i64 x] 3 (0, 0))) (was : Int) :
    Acts (fun k => k = b1 ∨ k = b2) 99 #[.pointer (some ⟨b1, 0, none⟩), .pointer (some ⟨b2, 0, none⟩)] w was (if was = old then x else was) was 0 := by
  intro w' hS
  have B0 := Lib.hid (Below.refl w'.heap.size w')
  have k1 : w'.cell? ⟨b1, 0, none⟩ = some (.int .i64 old) := cell_of_row _ _ _ _ _ _ ((hS b1 (.inl rfl)).trans h1)
  have k2 : w'.cell? ⟨b2, 0, none⟩ = some (.int .i64 x) := cell_of_row _ _ _ _ _ _ ((hS b2 (.inr rfl)).trans h2)
  clear hS h1 h2
  show Calls _ _ #[.int .i64 was, .pointer (some ⟨b1, 0, none⟩), .pointer (some ⟨b2, 0, none⟩)] _ _
  by_cases h : was = old
  · rw [if_pos h]
    subst h
    go_enter Tryz.func99, Tryz.ntmps99
    go_wp2
    go_ret3
    exact ⟨rfl, B0.out⟩
  · rw [if_neg h]
    go_enter Tryz.func99, Tryz.ntmps99
    go_wp2
    go_ret3
    exact ⟨rfl, B0.out⟩
set_option maxRecDepth 100000 in
theorem bump_acts {w : World} {b : Nat} {most : Int} (h1 : w.heap[b]? = some (.cells #[.int .i64 most] 3 (0, 0))) (was : Int) (hw : -9223372036854775808 ≤ was ∧ was ≤ 9223372036854775807) (hm : most ≤ 9223372036854775807) :
    Acts (fun k => k = b) 100 #[.pointer (some ⟨b, 0, none⟩)] w was (if most ≤ was then was else was + 1) (if most ≤ was then was else was + 1) (if most ≤ was then 8 else 0) := by
  intro w' hS
  have B0 := Lib.hid (Below.refl w'.heap.size w')
  have k1 : w'.cell? ⟨b, 0, none⟩ = some (.int .i64 most) := cell_of_row _ _ _ _ _ _ ((hS b rfl).trans h1)
  clear hS h1
  show Calls _ _ #[.int .i64 was, .pointer (some ⟨b, 0, none⟩)] _ _
  by_cases h : most ≤ was
  · simp only [if_pos h]
    go_enter Tryz.func100, Tryz.ntmps100
    go_wp2
    go_ret3
    exact ⟨rfl, B0.out⟩
  · simp only [if_neg h]
    have e1 : wrap64 (was + 1) = was + 1 := IntWalk.wrap64_in _ (by omega)
    go_enter Tryz.func100, Tryz.ntmps100
    go_wp2
    go_ret3
    exact ⟨rfl, B0.out⟩

theorem inn_get {W : List Int} {i : Int} (h : inn W i = true) : 0 ≤ i ∧ i < W.length ∧ W[i.toNat]? = some (W.getD i.toNat 0) := by
  unfold inn at h
  simp at h
  refine ⟨h.1, h.2, ?_⟩
  rw [List.getD_eq_getElem?_getD, List.getElem?_eq_getElem (by omega)]
  rfl

set_option maxRecDepth 100000 in
set_option maxHeartbeats 4000000 in
theorem on_in {w : World} {a g : Nat} {W : List Int} {c : Int} (H : Ar w a g W c) (hc : 0 ≤ c ∧ c < 4611686018427387904) {i : Int} (hin : inn W i = true) {S : Nat → Prop} (hS : ∀ k, S k → k < w.heap.size ∧ k ≠ a) {pf : FuncId} {caps : Array Value} {now told e : Int}
    (hrun : ∀ args w, (callFunc pf args).run Tryz.prog w = .ok (.enter pf args) w) (hA : Acts S pf caps w (W.getD i.toNat 0) now told e) :
    Calls Tryz.prog 53 #[.pointer (some ⟨a, 0, none⟩), .int .i64 i, .agg #[.func (.func pf) #[] caps]] w fun en w' =>
      en = .returned (.tuple #[.int .i64 told, .int .i64 e]) ∧ Ar w' a g (W.set i.toNat now) (c + 1) ∧ Chg (fun k => k = a ∨ k = g) w w' := by
  obtain ⟨h0, h1, hget⟩ := inn_get hin
  obtain ⟨v, hv⟩ : ∃ v, W.getD i.toNat 0 = v := ⟨_, rfl⟩
  rw [hv] at hget hA
  have hl := H.len
  have k0 : w.cell? ⟨a, 0, none⟩ = some (.slice (some ⟨g, 0, none⟩) W.length W.length) := by rw [cell_of_row _ _ _ _ _ _ H.row]; rfl
  obtain ⟨B, hB⟩ : ∃ B, w.heap.size = B := ⟨_, rfl⟩
  obtain ⟨ha, hg⟩ := H.lt
  obtain ⟨w1, hw1⟩ : ∃ w1, w.alloc (.cells #[.func (.func pf) #[] caps] 92) = w1 := ⟨_, rfl⟩
  have R1 : w1.heap[a]? = some (.cells #[.slice (some ⟨g, 0, none⟩) W.length W.length, .int .i64 c] 97 (0, 0)) := by rw [← hw1, alloc_heap _ _ _ ha]; exact H.row
  have q1 : ∀ j, w1.cell? ⟨a, j, none⟩ = (#[.slice (some ⟨g, 0, none⟩) W.length W.length, .int .i64 c] : Array Value)[j]? := fun j => cell_of_row _ _ _ _ _ _ R1
  have q2 : ∀ j v, w1.setCell ⟨a, j, none⟩ v = w1.setRow a ((#[.slice (some ⟨g, 0, none⟩) W.length W.length, .int .i64 c] : Array Value).setIfInBounds j v) := fun j v => setCell_row R1
  have q3 : ∀ j, w1.frozen? ⟨a, j, none⟩ = false := fun j => row_frozen R1 j
  have hin' : Hid (inn W i = true) := hin
  have HA := Lib.hid hA; have HS := Lib.hid hS; have HH := Lib.hid H; have HR := Lib.hid hrun
  have n1 : (i < 0) = False := by simp; omega
  have n2 : ((W.length : Int) ≤ i) = False := by simp; omega
  clear hA hS H hrun hin k0
  go_enter Tryz.func53, Tryz.ntmps53
  go_upto_region 6 with fail
  have r0 := setCell_row (i := 1) (v := .int .i64 (c + 1)) R1
  have e1 : wrap64 (c + 1) = c + 1 := IntWalk.wrap64_in _ (by omega)
  try rw [e1]
  obtain ⟨w2, hw2⟩ : ∃ w2, w1.setRow a #[.slice (some ⟨g, 0, none⟩) W.length W.length, .int .i64 (c + 1)] = w2 := ⟨_, rfl⟩
  rw [hw2]
  have S2 : w2.heap.size = B + 1 := by rw [← hw2, setRow_size, ← hw1, ← hB]; simp
  have A2 : w2.heap[a]? = some (.cells #[.slice (some ⟨g, 0, none⟩) W.length W.length, .int .i64 (c + 1)] 97 (0, 0)) := by rw [← hw2]; exact setRow_same R1
  have O2 : ∀ k, k < B → k ≠ a → w2.heap[k]? = w.heap[k]? := fun k hk hne => by rw [← hw2, setRow_other _ _ _ _ hne, ← hw1, alloc_heap _ _ _ (by omega)]
  have X2 : w2.heap[B]? = some (.cells #[.func (.func pf) #[] caps] 92 (0, 0)) := by rw [← hw2, setRow_other _ _ _ _ (by omega), ← hw1, ← hB]; exact new_row _ _ _
  have G2 := (O2 g (by omega) (Ne.symm HH.out.ne)).trans HH.out.words
  have C2 : Hid (∀ ex : Ext (B + 1) w2, Calls Tryz.prog pf (#[.int .i64 v] ++ caps) ex.1 fun en w'' => en = .returned (.tuple #[.int .i64 now, .int .i64 told, .int .i64 e]) ∧ ∃ e2 : Ext (B + 1) w2, w'' = e2.1) := fun ex =>
    Calls.ext (by omega) (HA.out _ fun k hk => (by
      have := HS.out k hk
      rw [ex.2.block k (by omega)]; exact O2 k (by omega) this.2))
  have z1 : ∀ e : Ext (B + 1) w2, e.at_.cell? ⟨a, 0, none⟩ = some (.slice (some ⟨g, 0, none⟩) W.length W.length) := ext_cell A2 (by omega) rfl
  have z2 : ∀ e : Ext (B + 1) w2, e.at_.cell? ⟨B, 0, none⟩ = some (.func (.func pf) #[] caps) := ext_cell X2 (by omega) rfl
  have z3 : ∀ e : Ext (B + 1) w2, e.at_.cell? ⟨g, i.toNat, none⟩ = some (.int .i64 v) := ext_cell G2 (by omega) (by simp only [List.getElem?_toArray, List.getElem?_map, hget]; rfl)
  have R := HR.out
  have HW2 : Hid (Chg (fun k => k = a ∨ k = g) w w2) := by
    rw [← hw2, ← hw1]; exact (Chg.alloc _ w _).trans (Chg.setRow _ a _ (.inl rfl))
  clear r0 hw2 hw1 R1
  refine wp_region_mono (B + 1) (by kernel_rfl) (by kernel_rfl) ?_
  repeat (go_big_quiet_step (exact C2.out _))
  refine wpQuiet_nil ?_
  rintro ⟨w3, hb3⟩
  have A3 : w3.heap[a]? = some (.cells #[.slice (some ⟨g, 0, none⟩) W.length W.length, .int .i64 (c + 1)] 97 (0, 0)) := by rw [hb3.block a (by omega)]; exact A2
  have G3 : w3.heap[g]? = some (.cells (W.map (Value.int .i64)).toArray 3 (0, 0)) := by rw [hb3.block g (by omega)]; exact G2
  have y1 : ∀ j, w3.cell? ⟨a, j, none⟩ = (#[.slice (some ⟨g, 0, none⟩) W.length W.length, .int .i64 (c + 1)] : Array Value)[j]? := fun j => cell_of_row _ _ _ _ _ _ A3
  have y2 : w3.cell? ⟨g, i.toNat, none⟩ = some (.int .i64 v) := by rw [cell_of_row _ _ _ _ _ _ G3]; simp only [List.getElem?_toArray, List.getElem?_map, hget]; rfl
  have y3 : w3.frozen? ⟨g, i.toNat, none⟩ = false := row_frozen G3 _
  obtain ⟨w4, hw4⟩ : ∃ w4, w3.setCell ⟨g, i.toNat, none⟩ (.int .i64 now) = w4 := ⟨_, rfl⟩
  have fin : Hid (Ar w4 a g (W.set i.toNat now) (c + 1) ∧ Chg (fun k => k = a ∨ k = g) w w4) := by
    have e2 : (W.set i.toNat now).length = W.length := by simp
    have e4 : w4 = w3.setRow g ((W.set i.toNat now).map (Value.int .i64)).toArray := by
      rw [← hw4, setCell_row G3]; congr 1; simp [List.map_set]
    refine ⟨⟨by rw [e4, setRow_other _ _ _ _ HH.out.ne, A3, e2], by rw [e4, setRow_same G3], HH.out.ne, by rw [e2]; exact hl⟩, ?_⟩
    refine (HW2.out.trans' (Chg.of_below hb3) (fun k h1 h2 => by omega)).trans (e4 ▸ Chg.setRow w3 g _ (.inr rfl))
  clear z1 z2 z3 G2 A2 X2 C2 O2
  go_wp2
  go_ret2
  exact ⟨rfl, fin.out⟩

set_option maxRecDepth 100000 in
theorem on_out {w : World} {a g : Nat} {W : List Int} {c : Int} (H : Ar w a g W c) {i : Int} (hin : inn W i = false) (x : Value) :
    Calls Tryz.prog 53 #[.pointer (some ⟨a, 0, none⟩), .int .i64 i, .agg #[x]] w fun en w' =>
      en = .returned (.tuple #[.int .i64 0, .int .i64 3]) ∧ Below w.heap.size w w' := by
  have hl := H.len
  obtain ⟨w1, hw1⟩ : ∃ w1, w.alloc (.cells #[x] 92) = w1 := ⟨_, rfl⟩
  have R1 : w1.heap[a]? = some (.cells #[.slice (some ⟨g, 0, none⟩) W.length W.length, .int .i64 c] 97 (0, 0)) := by rw [← hw1, alloc_heap _ _ _ H.lt.1]; exact H.row
  have q1 : ∀ j, w1.cell? ⟨a, j, none⟩ = (#[.slice (some ⟨g, 0, none⟩) W.length W.length, .int .i64 c] : Array Value)[j]? := fun j => cell_of_row _ _ _ _ _ _ R1
  have B1 : Hid (Below w.heap.size w w1) := by rw [← hw1]; exact (Below.refl _ _).alloc (Nat.le_refl _) _
  have hin' : i < 0 ∨ (W.length : Int) ≤ i := by
    unfold inn at hin
    simp at hin
    omega
  clear R1 H hin
  by_cases h0 : i < 0
  · clear q1
    go_enter Tryz.func53, Tryz.ntmps53
    go_wp2
    go_ret2
    exact ⟨rfl, B1.out⟩
  · have h1 : (W.length : Int) ≤ i := by omega
    go_enter Tryz.func53, Tryz.ntmps53
    go_wp2
    go_ret2
    exact ⟨rfl, B1.out⟩

theorem Ar.set_same {W : List Int} {i : Int} (h : inn W i = true) : W.set i.toNat (W.getD i.toNat 0) = W := by
  obtain ⟨h0, h1, h2⟩ := inn_get h
  rw [List.getD_eq_getElem?_getD, List.getElem?_eq_getElem (by omega)]
  simp
def errB (W : List Int) (i : Int) : Int := if inn W i then 0 else 3

set_option maxRecDepth 100000 in
theorem load_any {w : World} {a g : Nat} {W : List Int} {c : Int} (H : Ar w a g W c) (hc : 0 ≤ c ∧ c < 4611686018427387904) (i : Int) :
    Calls Tryz.prog 19 #[.pointer (some ⟨a, 0, none⟩), .int .i64 i] w fun en w' =>
      en = .returned (.tuple #[.int .i64 (ld W i), .int .i64 (errB W i)]) ∧ Ar w' a g W (c + cnt W i) ∧ Chg (fun k => k = a ∨ k = g) w w' := by
  cases hin : inn W i with
  | true =>
    have e1 : ld W i = W.getD i.toNat 0 := by unfold ld; rw [hin]; rfl
    have e2 : errB W i = 0 := by unfold errB; rw [hin]; rfl
    have e3 : cnt W i = 1 := by unfold cnt; rw [hin]; rfl
    have F := on_in H hc hin (S := fun _ => False) (fun _ h => h.elim) (callFunc_run Tryz.func54 (by kernel_rfl) (by kernel_rfl)) (load_acts _ w)
    rw [Ar.set_same hin] at F
    have FH := Lib.hid F
    rw [e1, e2, e3]
    clear F e1 e2 e3 H hin
    generalize W.getD i.toNat 0 = v at FH ⊢
    go_enter Tryz.func19, Tryz.ntmps19
    go_wp2_with (first
      | (go_at_call 53; refine FH.out.mono ?_; rintro e w2 ⟨rfl, ha, hb⟩))
    have AH := Lib.hid ha
    clear ha
    go_ret2
    exact ⟨rfl, AH.out, hb⟩
  | false =>
    have e1 : ld W i = 0 := by unfold ld; rw [hin]; rfl
    have e2 : errB W i = 3 := by unfold errB; rw [hin]; rfl
    have e3 : cnt W i = 0 := by unfold cnt; rw [hin]; rfl
    have FH := Lib.hid (on_out H hin (.func (.func 54) #[] #[]))
    have HH := Lib.hid H
    rw [e1, e2, e3, Int.add_zero]
    clear e1 e2 e3 H hin
    go_enter Tryz.func19, Tryz.ntmps19
    go_wp2_with (first
      | (go_at_call 53; refine FH.out.mono ?_; rintro e w2 ⟨rfl, hb⟩))
    go_ret2
    exact ⟨rfl, HH.out.below hb, (Chg.of_below hb).mono (fun k h1 h2 => by omega)⟩

end Att
end Go.Proofs.YthojgahcpkdemaaGreat

/- arena: a store, a swap, a bump; its length, its count, its words -/
namespace Go.Proofs.YthojgahcpkdemaaGreat
open Go.RowKit Go.Bas
namespace Att

theorem Ar.boxed {w : World} {a g : Nat} {W : List Int} {c : Int} (H : Ar w a g W c) (o : Obj) : Ar (w.alloc o) a g W c := H.kept (alloc_heap _ _ _ H.lt.1) (alloc_heap _ _ _ H.lt.2)

set_option maxRecDepth 100000 in
theorem store_any {w : World} {a g : Nat} {W : List Int} {c : Int} (H : Ar w a g W c) (hc : 0 ≤ c ∧ c < 4611686018427387904) (i x : Int) :
    Calls Tryz.prog 25 #[.pointer (some ⟨a, 0, none⟩), .int .i64 i, .int .i64 x] w fun en w' =>
      en = .returned (.int .i64 (errB W i)) ∧ Ar w' a g (st W i x) (c + cnt W i) ∧ Chg (fun k => k = a ∨ k = g) w w' := by
  obtain ⟨B, hB⟩ : ∃ B, w.heap.size = B := ⟨_, rfl⟩
  obtain ⟨w1, hw1⟩ : ∃ w1, w.alloc (.cells #[.int .i64 x] 3) = w1 := ⟨_, rfl⟩
  have R1 : w1.heap[B]? = some (.cells #[.int .i64 x] 3 (0, 0)) := by rw [← hw1, ← hB]; exact new_row _ _ _
  have s1 : w1.heap.size = B + 1 := by rw [← hw1, ← hB]; simp
  have H1 : Ar w1 a g W c := by rw [← hw1]; exact H.boxed _
  have c1 : Hid (Chg (fun k => k = a ∨ k = g) w w1) := by rw [← hw1]; exact Chg.alloc _ w _
  have hl := H.lt
  cases hin : inn W i with
  | true =>
    have e1 : st W i x = W.set i.toNat x := by unfold st; rw [hin]; rfl
    have e2 : errB W i = 0 := by unfold errB; rw [hin]; rfl
    have e3 : cnt W i = 1 := by unfold cnt; rw [hin]; rfl
    have FH := Lib.hid (on_in H1 hc hin (S := fun k => k = B) (fun k hk => by omega) (callFunc_run Tryz.func57 (by kernel_rfl) (by kernel_rfl)) (store_acts R1 _))
    rw [e1, e2, e3]
    clear e1 e2 e3 H H1 hin R1
    go_enter Tryz.func25, Tryz.ntmps25
    go_wp2_with (first
      | (go_at_call 53; refine FH.out.mono ?_; rintro e w2 ⟨rfl, ha, hb⟩; have AH := Lib.hid ha; clear ha))
    go_ret
    exact ⟨rfl, AH.out, c1.out.trans' hb (fun _ _ h => h)⟩
  | false =>
    have e1 : st W i x = W := by unfold st; rw [hin]; rfl
    have e2 : errB W i = 3 := by unfold errB; rw [hin]; rfl
    have e3 : cnt W i = 0 := by unfold cnt; rw [hin]; rfl
    have FH := Lib.hid (on_out H1 hin (.func (.func 57) #[] #[.pointer (some ⟨B, 0, none⟩)]))
    have HH := Lib.hid H1
    rw [e1, e2, e3, Int.add_zero]
    clear e1 e2 e3 H H1 hin R1
    go_enter Tryz.func25, Tryz.ntmps25
    go_wp2_with (first
      | (go_at_call 53; refine FH.out.mono ?_; rintro e w2 ⟨rfl, hb⟩))
    go_ret
    exact ⟨rfl, HH.out.below hb, c1.out.trans' (Chg.of_below hb) (fun k h1 h2 => by omega)⟩

set_option maxRecDepth 100000 in
theorem swap_any {w : World} {a g : Nat} {W : List Int} {c : Int} (H : Ar w a g W c) (hc : 0 ≤ c ∧ c < 4611686018427387904) (i old x : Int) :
    Calls Tryz.prog 82 #[.pointer (some ⟨a, 0, none⟩), .int .i64 i, .int .i64 old, .int .i64 x] w fun en w' =>
      en = .returned (.tuple #[.int .i64 (ld W i), .int .i64 (errB W i)]) ∧ Ar w' a g (if ld W i = old then st W i x else W) (c + cnt W i) ∧ Chg (fun k => k = a ∨ k = g) w w' := by
  obtain ⟨B, hB⟩ : ∃ B, w.heap.size = B := ⟨_, rfl⟩
  obtain ⟨w0, hw0⟩ : ∃ w0, w.alloc (.cells #[.int .i64 old] 3) = w0 := ⟨_, rfl⟩
  have s0 : w0.heap.size = B + 1 := by rw [← hw0, ← hB]; simp
  obtain ⟨w1, hw1⟩ : ∃ w1, w0.alloc (.cells #[.int .i64 x] 3) = w1 := ⟨_, rfl⟩
  have R0 : w1.heap[B]? = some (.cells #[.int .i64 old] 3 (0, 0)) := by rw [← hw1, alloc_heap _ _ _ (by omega), ← hw0, ← hB]; exact new_row _ _ _
  have R1 : w1.heap[B + 1]? = some (.cells #[.int .i64 x] 3 (0, 0)) := by rw [← hw1, ← s0]; exact new_row _ _ _
  have s1 : w1.heap.size = B + 2 := by rw [← hw1]; simp [s0]
  have H1 : Ar w1 a g W c := by rw [← hw1, ← hw0]; exact (H.boxed _).boxed _
  have c1 : Hid (Chg (fun k => k = a ∨ k = g) w w1) := by rw [← hw1, ← hw0]; exact (Chg.alloc _ w _).trans (Chg.alloc _ _ _)
  have hl := H.lt
  cases hin : inn W i with
  | true =>
    have e0 : ld W i = W.getD i.toNat 0 := by unfold ld; rw [hin]; rfl
    have e1 : (if ld W i = old then st W i x else W) = W.set i.toNat (if W.getD i.toNat 0 = old then x else W.getD i.toNat 0) := by
      rw [e0]
      by_cases h : W.getD i.toNat 0 = old
      · rw [if_pos h, if_pos h]; unfold st; rw [hin]; rfl
      · rw [if_neg h, if_neg h, Ar.set_same hin]
    have e2 : errB W i = 0 := by unfold errB; rw [hin]; rfl
    have e3 : cnt W i = 1 := by unfold cnt; rw [hin]; rfl
    have FH := Lib.hid (on_in H1 hc hin (S := fun k => k = B ∨ k = B + 1) (fun k hk => by omega) (callFunc_run Tryz.func99 (by kernel_rfl) (by kernel_rfl)) (swap_acts R0 R1 _))
    rw [e1, e0, e2, e3]
    clear e0 e1 e2 e3 H H1 hin R1 R0
    generalize W.set i.toNat (if W.getD i.toNat 0 = old then x else W.getD i.toNat 0) = W' at FH ⊢
    generalize W.getD i.toNat 0 = v at FH ⊢
    go_enter Tryz.func82, Tryz.ntmps82
    go_wp2_with (first
      | (go_at_call 53; refine FH.out.mono ?_; rintro e w2 ⟨rfl, ha, hb⟩; have AH := Lib.hid ha; clear ha))
    go_ret2
    exact ⟨rfl, AH.out, c1.out.trans' hb (fun _ _ h => h)⟩
  | false =>
    have e0 : ld W i = 0 := by unfold ld; rw [hin]; rfl
    have e1 : (if ld W i = old then st W i x else W) = W := by unfold st; rw [hin]; simp
    have e2 : errB W i = 3 := by unfold errB; rw [hin]; rfl
    have e3 : cnt W i = 0 := by unfold cnt; rw [hin]; rfl
    have FH := Lib.hid (on_out H1 hin (.func (.func 99) #[] #[.pointer (some ⟨B, 0, none⟩), .pointer (some ⟨B + 1, 0, none⟩)]))
    have HH := Lib.hid H1
    rw [e1, e0, e2, e3, Int.add_zero]
    clear e0 e1 e2 e3 H H1 hin R1 R0
    go_enter Tryz.func82, Tryz.ntmps82
    go_wp2_with (first
      | (go_at_call 53; refine FH.out.mono ?_; rintro e w2 ⟨rfl, hb⟩))
    go_ret2
    exact ⟨rfl, HH.out.below hb, c1.out.trans' (Chg.of_below hb) (fun k h1 h2 => by omega)⟩

set_option maxRecDepth 100000 in
theorem bump_any {w : World} {a g : Nat} {W : List Int} {c : Int} (H : Ar w a g W c) (hc : 0 ≤ c ∧ c < 4611686018427387904) (i most : Int) (hW : -9223372036854775808 ≤ ld W i ∧ ld W i ≤ 9223372036854775807) (hm : most ≤ 9223372036854775807) :
    Calls Tryz.prog 84 #[.pointer (some ⟨a, 0, none⟩), .int .i64 i, .int .i64 most] w fun en w' =>
      en = .returned (.tuple #[.int .i64 (bumpV W i most), .int .i64 (bumpE W i most)]) ∧ Ar w' a g (bumpW W i most) (c + cnt W i) ∧ Chg (fun k => k = a ∨ k = g) w w' := by
  obtain ⟨B, hB⟩ : ∃ B, w.heap.size = B := ⟨_, rfl⟩
  obtain ⟨w1, hw1⟩ : ∃ w1, w.alloc (.cells #[.int .i64 most] 3) = w1 := ⟨_, rfl⟩
  have R1 : w1.heap[B]? = some (.cells #[.int .i64 most] 3 (0, 0)) := by rw [← hw1, ← hB]; exact new_row _ _ _
  have s1 : w1.heap.size = B + 1 := by rw [← hw1, ← hB]; simp
  have H1 : Ar w1 a g W c := by rw [← hw1]; exact H.boxed _
  have c1 : Hid (Chg (fun k => k = a ∨ k = g) w w1) := by rw [← hw1]; exact Chg.alloc _ w _
  have hl := H.lt
  cases hin : inn W i with
  | true =>
    have e0 : ld W i = W.getD i.toNat 0 := by unfold ld; rw [hin]; rfl
    rw [e0] at hW
    have e1 : bumpW W i most = W.set i.toNat (if most ≤ W.getD i.toNat 0 then W.getD i.toNat 0 else W.getD i.toNat 0 + 1) := by
      unfold bumpW; rw [hin]; simp only [if_true]
      by_cases h : most ≤ W.getD i.toNat 0
      · rw [if_pos h, if_pos h, Ar.set_same hin]
      · rw [if_neg h, if_neg h]
    have e2 : bumpE W i most = if most ≤ W.getD i.toNat 0 then 8 else 0 := by unfold bumpE; rw [hin]; rfl
    have e4 : bumpV W i most = if most ≤ W.getD i.toNat 0 then W.getD i.toNat 0 else W.getD i.toNat 0 + 1 := by unfold bumpV; rw [hin]; rfl
    have e3 : cnt W i = 1 := by unfold cnt; rw [hin]; rfl
    have FH := Lib.hid (on_in H1 hc hin (S := fun k => k = B) (fun k hk => by omega) (callFunc_run Tryz.func100 (by kernel_rfl) (by kernel_rfl)) (bump_acts R1 _ hW hm))
    rw [e1, e2, e3, e4]
    clear e0 e1 e2 e3 e4 H H1 hin R1
    generalize W.set i.toNat (if most ≤ W.getD i.toNat 0 then W.getD i.toNat 0 else W.getD i.toNat 0 + 1) = W' at FH ⊢
    generalize (if most ≤ W.getD i.toNat 0 then W.getD i.toNat 0 else W.getD i.toNat 0 + 1) = v at FH ⊢
    generalize (if most ≤ W.getD i.toNat 0 then (8 : Int) else 0) = u at FH ⊢
    go_enter Tryz.func84, Tryz.ntmps84
    go_wp2_with (first
      | (go_at_call 53; refine FH.out.mono ?_; rintro e w2 ⟨rfl, ha, hb⟩; have AH := Lib.hid ha; clear ha))
    go_ret2
    exact ⟨rfl, AH.out, c1.out.trans' hb (fun _ _ h => h)⟩
  | false =>
    have e1 : bumpW W i most = W := by unfold bumpW; rw [hin]; rfl
    have e2 : bumpE W i most = 3 := by unfold bumpE; rw [hin]; rfl
    have e4 : bumpV W i most = 0 := by unfold bumpV; rw [hin]; rfl
    have e3 : cnt W i = 0 := by unfold cnt; rw [hin]; rfl
    have FH := Lib.hid (on_out H1 hin (.func (.func 100) #[] #[.pointer (some ⟨B, 0, none⟩)]))
    have HH := Lib.hid H1
    rw [e1, e2, e3, e4, Int.add_zero]
    clear e1 e2 e3 e4 H H1 hin R1
    go_enter Tryz.func84, Tryz.ntmps84
    go_wp2_with (first
      | (go_at_call 53; refine FH.out.mono ?_; rintro e w2 ⟨rfl, hb⟩))
    go_ret2
    exact ⟨rfl, HH.out.below hb, c1.out.trans' (Chg.of_below hb) (fun k h1 h2 => by omega)⟩

end Att
end Go.Proofs.YthojgahcpkdemaaGreat

/- arena: a new one; its count; all words -/
namespace Go.Proofs.YthojgahcpkdemaaGreat
open Go.RowKit Go.Bas
namespace Att

set_option maxRecDepth 100000 in
theorem count_any {w : World} {a g : Nat} {W : List Int} {c : Int} (H : Ar w a g W c) :
    Calls Tryz.prog 28 #[.pointer (some ⟨a, 0, none⟩)] w fun en w' => en = .returned (.int .i64 c) ∧ Below w.heap.size w w' := by
  have B0 := Lib.hid (Below.refl w.heap.size w)
  have k1 : w.cell? ⟨a, 1, none⟩ = some (.int .i64 c) := by rw [cell_of_row _ _ _ _ _ _ H.row]; rfl
  clear H
  go_enter Tryz.func28, Tryz.ntmps28
  go_wp2
  go_ret
  exact ⟨rfl, B0.out⟩

set_option maxRecDepth 100000 in
theorem new_any (n : Nat) (h1 : 1 ≤ n) (hn : n ≤ 1000000) (w : World) :
    Calls Tryz.prog 38 #[.int .i64 n] w fun en w' => ∃ a g, en = .returned (.tuple #[.pointer (some ⟨a, 0, none⟩), .int .i64 0]) ∧ w.heap.size ≤ a ∧ w.heap.size ≤ g ∧ Ar w' a g (List.replicate n 0) 0 ∧ Below w.heap.size w w' := by
  have mk := View.make_ints n hn
  obtain ⟨B, hB⟩ : ∃ B, w.heap.size = B := ⟨_, rfl⟩
  obtain ⟨w1, hw1⟩ : ∃ w1, w.alloc (.cells ((List.replicate n (0 : Int)).map (Value.int .i64)).toArray 3) = w1 := ⟨_, rfl⟩
  have s1 : w1.heap.size = B + 1 := by rw [← hw1, ← hB]; simp
  obtain ⟨w2, hw2⟩ : ∃ w2, w1.alloc (.cells #[.slice (some ⟨B, 0, none⟩) n n, .int .i64 0] 97) = w2 := ⟨_, rfl⟩
  have fin : Hid (Ar w2 (B + 1) B (List.replicate n 0) 0 ∧ Below B w w2) := by
    refine ⟨⟨?_, ?_, by omega, by simp; omega⟩, ?_⟩
    · rw [← hw2, ← s1, List.length_replicate]; exact new_row _ _ _
    · rw [← hw2, alloc_heap _ _ _ (by omega), ← hw1, ← hB]; exact new_row _ _ _
    · rw [← hw2]; exact (show Below B w w1 by rw [← hw1]; exact (Below.refl _ _).alloc (by omega) _).alloc (by omega) _
  have mk1 := mk w
  rw [hw1, hB] at mk1
  clear mk hw1
  go_enter Tryz.func38, Tryz.ntmps38
  go_wp2
  refine bodyPost_ret (results_tmp2 rfl _ _ _) rfl ?_
  rw [hB]
  exact ⟨B + 1, B, by first | rfl | (rw [s1]), by omega, by omega, fin.out⟩

set_option maxRecDepth 100000 in
set_option maxHeartbeats 1000000 in
theorem words_told {w : World} {a g : Nat} {W : List Int} {c : Int} (H : Ar w a g W c) (hn : W.length ≤ 1000000) :
    Calls Tryz.prog 26 #[.pointer (some ⟨a, 0, none⟩)] w fun en w' => ∃ b, en = .returned (.slice (some ⟨b, 0, none⟩) W.length W.length) ∧ w.heap.size ≤ b ∧ w'.heap[b]? = some (.cells (W.map (Value.int .i64)).toArray 3 (0, 0)) ∧ Below w.heap.size w w' := by
  have mk := View.make_ints W.length hn w
  obtain ⟨B, hB⟩ : ∃ B, w.heap.size = B := ⟨_, rfl⟩
  obtain ⟨w1, hw1⟩ : ∃ w1, w.alloc (.cells ((List.replicate W.length (0 : Int)).map (Value.int .i64)).toArray 3) = w1 := ⟨_, rfl⟩
  have s1 : w1.heap.size = B + 1 := by rw [← hw1, ← hB]; simp
  have R1 : w1.heap[B]? = some (.cells ((List.replicate W.length (0 : Int)).map (Value.int .i64)).toArray 3 (0, 0)) := by rw [← hw1, ← hB]; exact new_row _ _ _
  have H1 : Ar w1 a g W c := by rw [← hw1]; exact H.boxed _
  have b1 : Below B w w1 := by rw [← hw1]; exact (Below.refl _ _).alloc (by omega) _
  have k0 : w.cell? ⟨a, 0, none⟩ = some (.slice (some ⟨g, 0, none⟩) W.length W.length) := by rw [cell_of_row _ _ _ _ _ _ H.row]; rfl
  have k1 : w1.cell? ⟨a, 0, none⟩ = some (.slice (some ⟨g, 0, none⟩) W.length W.length) := by rw [cell_of_row _ _ _ _ _ _ H1.row]; rfl
  have kg : ∀ j v, (W.map (Value.int .i64))[j]? = some v → w1.cell? ⟨g, 0 + j, none⟩ = some v := fun j v hv => by
    rw [cell_of_row _ _ _ _ _ _ H1.words]; simpa using hv
  have hinfo : (Tryz.prog.info? 3).map (fun i => i.size) = some 1 := by kernel_rfl
  obtain ⟨i, hi, hz⟩ := Option.map_eq_some_iff.1 hinfo
  rw [hw1, hB] at mk
  have hl := H.len
  obtain ⟨w2, hw2⟩ : ∃ w2, w1.setRow B (W.map (Value.int .i64)).toArray = w2 := ⟨_, rfl⟩
  have cp := run_copy_sized (P := Tryz.prog) w1 25 25 3 3 i Tryz.underlying25 hi (some ⟨B, 0, none⟩) (some ⟨g, 0, none⟩) W.length W.length W.length W.length B 0 _ 3 R1 (W.map (Value.int .i64))
    (by rw [hz]; simp) (fun _ => ⟨rfl, _, rfl, fun j v hv => by have := kg j v hv; rw [Nat.zero_add] at this; show World.cell? _ (Addr.add _ _) = _; unfold Addr.add; split <;> simp_all⟩) (by simp) (fun v hv => by obtain ⟨x, _, rfl⟩ := List.mem_map.1 hv; rfl)
  have es : splice ((List.replicate W.length (0 : Int)).map (Value.int .i64)) 0 (W.map (Value.int .i64)) = W.map (Value.int .i64) := by simp [splice]
  rw [es, hw2] at cp
  have em : Nat.min W.length W.length = W.length := Nat.min_self _
  rw [em] at cp
  have fin : Hid (w2.heap[B]? = some (.cells (W.map (Value.int .i64)).toArray 3 (0, 0)) ∧ Below B w w2) := by
    rw [← hw2]; exact ⟨setRow_same R1, setRow_below b1 (Nat.le_refl _) _⟩
  clear hw1 H H1 R1 kg hi hz es em hw2 b1
  go_enter Tryz.func26, Tryz.ntmps26
  go_wp2_with fail
  go_ret
  rw [hB]
  exact ⟨B, rfl, by omega, fin.out⟩

end Att
end Go.Proofs.YthojgahcpkdemaaGreat

/- locks' words -/
namespace Go.Proofs.YthojgahcpkdemaaGreat
open Go.RowKit Go.Bas IMap_
namespace Att

/-- the version of a free lock's word -/
def verB (w : Int) : Bool := decide (0 ≤ w ∧ w % 2 = 0 ∧ w / 2 ≤ 1099511627776)
theorem and1 {x : Int} (h0 : 0 ≤ x) (h1 : x ≤ 9223372036854775807) : bits .and .i64 x 1 = x % 2 := by
  obtain ⟨n, rfl⟩ : ∃ n : Nat, x = n := ⟨x.toNat, by omega⟩
  have := (bits_nat .i64 63 (by decide) (fun m h0 h1 => by rw [IntKind.wrap_i64]; omega) n 1 (by omega) (by omega)).1
  rw [nat_mask1] at this
  exact_mod_cast this
theorem or1 {o : Int} (h0 : 0 ≤ o) (h1 : o < 64) : bits .or .i64 (2 * o) 1 = 2 * o + 1 := by
  obtain ⟨n, rfl⟩ : ∃ n : Nat, o = n := ⟨o.toNat, by omega⟩
  have := (bits_nat .i64 63 (by decide) (fun m h0 h1 => by rw [IntKind.wrap_i64]; omega) (2 * n) 1 (by omega) (by omega)).2
  have e : ∀ m : Nat, m < 64 → 2 * m ||| 1 = 2 * m + 1 := by decide
  rw [e n (by omega)] at this
  exact_mod_cast this

set_option maxRecDepth 100000 in
theorem version_any (x : Int) (hx : In64 x) (w : World) :
    Calls Tryz.prog 55 #[.int .i64 x] w fun e w' => e = .returned (.tuple #[.int .i64 (if verB x then x / 2 else 0), .bool (verB x)]) ∧ Below w.heap.size w w' := by
  have B0 := Lib.hid (Below.refl w.heap.size w)
  unfold In64 at hx
  by_cases h0 : x < 0
  · have e : verB x = false := by unfold verB; simp; omega
    rw [e]
    simp only [Bool.false_eq_true, if_false]
    go_enter Tryz.func55, Tryz.ntmps55
    go_wp2
    refine bodyPost_ret (results_tmp2 rfl _ _ _) rfl ?_
    exact ⟨rfl, B0.out⟩
  · have ha := and1 (x := x) (by omega) hx.2
    by_cases h1 : x % 2 = 1
    · have e : verB x = false := by unfold verB; simp; omega
      rw [h1] at ha
      rw [e]
      simp only [Bool.false_eq_true, if_false]
      go_enter Tryz.func55, Tryz.ntmps55
      go_wp2
      refine bodyPost_ret (results_tmp2 rfl _ _ _) rfl ?_
      exact ⟨rfl, B0.out⟩
    · have h2 : x % 2 = 0 := by omega
      rw [h2] at ha
      by_cases h3 : 1099511627776 < x / 2
      · have e : verB x = false := by unfold verB; simp; omega
        rw [e]
        simp only [Bool.false_eq_true, if_false]
        go_enter Tryz.func55, Tryz.ntmps55
        go_wp2
        refine bodyPost_ret (results_tmp2 rfl _ _ _) rfl ?_
        exact ⟨rfl, B0.out⟩
      · have e : verB x = true := by unfold verB; simp; omega
        rw [e]
        simp only [if_true]
        go_enter Tryz.func55, Tryz.ntmps55
        go_wp2
        refine bodyPost_ret (results_tmp2 rfl _ _ _) rfl ?_
        exact ⟨rfl, B0.out⟩

set_option maxRecDepth 100000 in
theorem fresh_any (x l : Int) (hx : In64 x) (w : World) :
    Calls Tryz.prog 21 #[.int .i64 x, .int .i64 l] w fun e w' => e = .returned (.bool (freshB x l)) ∧ Below w.heap.size w w' := by
  have V := version_any x hx w
  have e : freshB x l = (verB x && decide (x / 2 ≤ l)) := by unfold freshB verB; by_cases h : x / 2 ≤ l <;> simp [h, and_assoc]
  rw [e]
  cases hv : verB x with
  | false =>
    rw [hv] at V
    simp only [Bool.false_eq_true, if_false] at V
    go_enter Tryz.func21, Tryz.ntmps21
    go_wp2_with (first
      | (go_at_call 55; refine V.mono ?_; rintro e w2 ⟨rfl, hb2⟩))
    go_ret
    exact ⟨rfl, hb2⟩
  | true =>
    rw [hv] at V
    simp only [if_true] at V
    obtain ⟨b, hb⟩ : ∃ b, decide (x / 2 ≤ l) = b := ⟨_, rfl⟩
    rw [hb]
    go_enter Tryz.func21, Tryz.ntmps21
    go_wp2_with (first
      | (go_at_call 55; refine V.mono ?_; rintro e w2 ⟨rfl, hb2⟩))
    go_ret
    exact ⟨by first | rfl | (simp [hb]; done), hb2⟩

set_option maxRecDepth 100000 in
theorem free_any (v : Int) (w : World) :
    Calls Tryz.prog 90 #[.int .i64 v] w fun e w' => e = .returned (.int .i64 (freeW v)) ∧ Below w.heap.size w w' := by
  have B0 := Lib.hid (Below.refl w.heap.size w)
  by_cases h0 : v < 0
  · have e : freeW v = -1 := by unfold freeW; rw [if_pos (.inl h0)]
    rw [e]
    go_enter Tryz.func90, Tryz.ntmps90
    go_wp2
    go_ret
    exact ⟨rfl, B0.out⟩
  · by_cases h1 : 1099511627776 < v
    · have e : freeW v = -1 := by unfold freeW; rw [if_pos (.inr h1)]
      rw [e]
      go_enter Tryz.func90, Tryz.ntmps90
      go_wp2
      go_ret
      exact ⟨rfl, B0.out⟩
    · have e : freeW v = v * 2 := by unfold freeW; rw [if_neg (by omega)]; omega
      rw [e]
      go_enter Tryz.func90, Tryz.ntmps90
      go_wp2
      go_ret
      exact ⟨by first | rfl | (simp; omega), B0.out⟩

set_option maxRecDepth 100000 in
theorem held_any (o : Int) (w : World) :
    Calls Tryz.prog 83 #[.int .i64 o] w fun e w' => e = .returned (.int .i64 (heldW o)) ∧ Below w.heap.size w w' := by
  have B0 := Lib.hid (Below.refl w.heap.size w)
  by_cases h0 : o < 0
  · have e : heldW o = -1 := by unfold heldW; rw [if_pos (.inl h0)]
    rw [e]
    go_enter Tryz.func83, Tryz.ntmps83
    go_wp2
    go_ret
    exact ⟨rfl, B0.out⟩
  · by_cases h1 : 64 ≤ o
    · have e : heldW o = -1 := by unfold heldW; rw [if_pos (.inr h1)]
      rw [e]
      go_enter Tryz.func83, Tryz.ntmps83
      go_wp2
      go_ret
      exact ⟨rfl, B0.out⟩
    · have e : heldW o = bits .or .i64 (o * 2) 1 := by unfold heldW; rw [if_neg (by omega), Int.mul_comm o 2, or1 (by omega) (by omega)]
      rw [e]
      go_enter Tryz.func83, Tryz.ntmps83
      go_wp2
      go_ret
      exact ⟨by first | rfl | (simp; omega), B0.out⟩

end Att
end Go.Proofs.YthojgahcpkdemaaGreat

namespace Go.Proofs.YthojgahcpkdemaaGreat
open Go.RowKit Go.Bas
namespace Lay

/-- a configuration -/
structure Cfg where
  (workers cpus pages stripes tries wait clock priv cache bin batch : Int)
/-- the places of a layout's parts -/
structure At where
  (a0 a1 a2 a3 a4 a5 a6 a7 a8 a9 a10 a11 : Int)
def cfg (c : Cfg) : Array Value := #[.int .i64 c.workers, .int .i64 c.cpus, .int .i64 c.pages, .int .i64 c.stripes, .int .i64 c.tries, .int .i64 c.wait, .int .i64 c.clock, .int .i64 c.priv, .int .i64 c.cache, .int .i64 c.bin, .int .i64 c.batch]
def lay (c : Cfg) (a : At) : Array Value := #[.int .i64 c.workers, .int .i64 c.cpus, .int .i64 c.pages, .int .i64 c.stripes, .int .i64 c.tries, .int .i64 c.wait, .int .i64 c.clock, .int .i64 c.priv, .int .i64 c.cache, .int .i64 c.bin, .int .i64 c.batch,
  .int .i64 a.a0, .int .i64 a.a1, .int .i64 a.a2, .int .i64 a.a3, .int .i64 a.a4, .int .i64 a.a5, .int .i64 a.a6, .int .i64 a.a7, .int .i64 a.a8, .int .i64 a.a9, .int .i64 a.a10, .int .i64 a.a11]
theorem cfg_size (c : Cfg) : (Tryz.prog.info? 23).map (·.size) = some (cfg c).size := by
  have h : (Tryz.prog.info? 23).map (·.size) = some 11 := by kernel_rfl
  rw [h]; rfl
theorem lay_size (c : Cfg) (a : At) : (Tryz.prog.info? 29).map (·.size) = some (lay c a).size := by
  have h : (Tryz.prog.info? 29).map (·.size) = some 23 := by kernel_rfl
  rw [h]; rfl

/-- a field of a configuration that is held by value -/
@[go_sem] theorem fld_workers (c : Cfg) (w : World) : Sem.run Tryz.prog (Instr.field 23 (.agg (cfg c)) 0) w = .ok (.int .i64 c.workers) w := by kernel_rfl
@[go_sem] theorem fld_cpus (c : Cfg) (w : World) : Sem.run Tryz.prog (Instr.field 23 (.agg (cfg c)) 1) w = .ok (.int .i64 c.cpus) w := by kernel_rfl
@[go_sem] theorem fld_pages (c : Cfg) (w : World) : Sem.run Tryz.prog (Instr.field 23 (.agg (cfg c)) 2) w = .ok (.int .i64 c.pages) w := by kernel_rfl
@[go_sem] theorem fld_stripes (c : Cfg) (w : World) : Sem.run Tryz.prog (Instr.field 23 (.agg (cfg c)) 3) w = .ok (.int .i64 c.stripes) w := by kernel_rfl
@[go_sem] theorem fld_tries (c : Cfg) (w : World) : Sem.run Tryz.prog (Instr.field 23 (.agg (cfg c)) 4) w = .ok (.int .i64 c.tries) w := by kernel_rfl
@[go_sem] theorem fld_wait (c : Cfg) (w : World) : Sem.run Tryz.prog (Instr.field 23 (.agg (cfg c)) 5) w = .ok (.int .i64 c.wait) w := by kernel_rfl
@[go_sem] theorem fld_clock (c : Cfg) (w : World) : Sem.run Tryz.prog (Instr.field 23 (.agg (cfg c)) 6) w = .ok (.int .i64 c.clock) w := by kernel_rfl
@[go_sem] theorem fld_priv (c : Cfg) (w : World) : Sem.run Tryz.prog (Instr.field 23 (.agg (cfg c)) 7) w = .ok (.int .i64 c.priv) w := by kernel_rfl
@[go_sem] theorem fld_cache (c : Cfg) (w : World) : Sem.run Tryz.prog (Instr.field 23 (.agg (cfg c)) 8) w = .ok (.int .i64 c.cache) w := by kernel_rfl
@[go_sem] theorem fld_bin (c : Cfg) (w : World) : Sem.run Tryz.prog (Instr.field 23 (.agg (cfg c)) 9) w = .ok (.int .i64 c.bin) w := by kernel_rfl
@[go_sem] theorem fld_batch (c : Cfg) (w : World) : Sem.run Tryz.prog (Instr.field 23 (.agg (cfg c)) 10) w = .ok (.int .i64 c.batch) w := by kernel_rfl

theorem cfg_one (c : Cfg) : (cfg c).all (·.oneCell') = true := by simp [cfg, Value.oneCell']
theorem lay_one (c : Cfg) (a : At) : (lay c a).all (·.oneCell') = true := by simp [lay, Value.oneCell']

theorem words_any (c : Cfg) (a : At) (w : World) :
    Calls Tryz.prog 50 #[.agg (lay c a)] w fun e w' => e = .returned (.int .i64 a.a11) ∧ Below w.heap.size w w' := by
  have l22 : (lay c a)[22]? = some (.int .i64 a.a11) := rfl
  go_enter Tryz.func50, Tryz.ntmps50
  go_wp2
  go_ret
  exact ⟨rfl, (Below.refl _ _).alloc (Nat.le_refl _) _⟩

theorem lay_cfg (c : Cfg) (a : At) : ∀ j v, (cfg c).toList[j]? = some v → (lay c a)[0 + j]? = some v := by
  intro j v h
  have hj : j < 11 := by have := (List.getElem?_eq_some_iff.1 h).1; exact this
  rw [Nat.zero_add, ← h]
  unfold lay cfg
  match j, hj with
  | 0, _ | 1, _ | 2, _ | 3, _ | 4, _ | 5, _ | 6, _ | 7, _ | 8, _ | 9, _ | 10, _ => rfl

theorem config_any (c : Cfg) (a : At) (w : World) :
    Calls Tryz.prog 20 #[.agg (lay c a)] w fun e w' => e = .returned (.agg (cfg c)) ∧ Below w.heap.size w w' := by
  obtain ⟨w1, hw1⟩ : ∃ w1, w.alloc (.cells (lay c a) 29) = w1 := ⟨_, rfl⟩
  have h1 : w1.heap[w.heap.size]? = some (.cells (lay c a) 29 (0, 0)) := by rw [← hw1]; exact new_row _ _ _
  have hb1 : Below w.heap.size w w1 := by rw [← hw1]; exact (Below.refl _ _).alloc (Nat.le_refl _) _
  have hs1 : w1.heap.size = w.heap.size + 1 := by rw [← hw1]; simp
  have H1 := Lib.hid h1; have HB := Lib.hid hb1
  clear h1 hb1
  go_enter Tryz.func20, Tryz.ntmps20
  go_wp2_with (first | (refine wpList_load_mid rfl 23 _ rfl w.heap.size 0 rfl (cfg c).toList _ ?r1 Tryz.underlying23 rfl ?r2 ?r3) | (refine wpList_store_row rfl 23 _ _ rfl (w.heap.size + 1) (cfg c) rfl rfl 23 #[.int .i64 0, .int .i64 0, .int .i64 0, .int .i64 0, .int .i64 0, .int .i64 0, .int .i64 0, .int .i64 0, .int .i64 0, .int .i64 0, .int .i64 0] ?s1 ?s2 rfl (cfg_one c) ?s3))
  case r1 => exact row_range (by rw [alloc_heap _ _ _ (by omega)]; exact H1.out) 0 _ (lay_cfg c a)
  case r2 => rw [cfg_size c]; rfl
  case s1 => rw [← hs1]; exact new_row _ _ _
  case s2 => exact cfg_size c
  case s3 =>
  have fin : Hid (Below w.heap.size w ((w1.alloc (.cells #[.int .i64 0, .int .i64 0, .int .i64 0, .int .i64 0, .int .i64 0, .int .i64 0, .int .i64 0, .int .i64 0, .int .i64 0, .int .i64 0, .int .i64 0] 23)).setRow (w.heap.size + 1) (cfg c))) := setRow_below (HB.out.alloc (by omega) _) (by omega) _
  have hres : ((w1.alloc (.cells #[.int .i64 0, .int .i64 0, .int .i64 0, .int .i64 0, .int .i64 0, .int .i64 0, .int .i64 0, .int .i64 0, .int .i64 0, .int .i64 0, .int .i64 0] 23)).setRow (w.heap.size + 1) (cfg c)).heap[w.heap.size + 1]? = some (.cells (cfg c) 23 (0, 0)) := by rw [← hs1]; exact setRow_same (new_row _ _ _)
  have HR := Lib.hid hres
  clear hres
  go_wp2
  exact bodyPost_ret (results_cell_row rfl _ _ (w.heap.size + 1) 23 (cfg c) (0, 0) _ rfl HR.out Tryz.underlying23 rfl (cfg_size c)) rfl ⟨rfl, fin.out⟩

end Lay
end Go.Proofs.YthojgahcpkdemaaGreat

/- attempts in memory -/
namespace Go.Proofs.YthojgahcpkdemaaGreat
open Go.RowKit Go.Bas
namespace Att

/-- what an attempt's block holds beside its numbers -/
structure AV where
  (c : Lay.Cfg) (a : Lay.At) (prog vr vw vl vh vc : Value)
def attRow (X : AV) (T : AT) : Array Value := #[.int .i64 X.c.workers, .int .i64 X.c.cpus, .int .i64 X.c.pages, .int .i64 X.c.stripes, .int .i64 X.c.tries, .int .i64 X.c.wait, .int .i64 X.c.clock, .int .i64 X.c.priv, .int .i64 X.c.cache, .int .i64 X.c.bin, .int .i64 X.c.batch,
  .int .i64 X.a.a0, .int .i64 X.a.a1, .int .i64 X.a.a2, .int .i64 X.a.a3, .int .i64 X.a.a4, .int .i64 X.a.a5, .int .i64 X.a.a6, .int .i64 X.a.a7, .int .i64 X.a.a8, .int .i64 X.a.a9, .int .i64 X.a.a10, .int .i64 X.a.a11,
  .int .i64 T.owner, X.prog, .int .i64 T.phase, .int .i64 T.how, .int .i64 T.seen, .int .i64 T.stamp, .int .i64 T.na, .int .i64 T.nv, .int .i64 T.was, X.vr, X.vw, X.vl, X.vh, X.vc, .int .i64 T.at_]
@[go_sem] theorem att_get23 (X : AV) (T : AT) : (attRow X T)[23]? = some (.int .i64 T.owner) := rfl
@[go_sem] theorem att_set23 (X : AV) (T : AT) (x : Int) : (attRow X T).setIfInBounds 23 (.int .i64 x) = attRow X { T with owner := x } := rfl
@[go_sem] theorem att_get24 (X : AV) (T : AT) : (attRow X T)[24]? = some X.prog := rfl
@[go_sem] theorem att_set24 (X : AV) (T : AT) (x : Value) : (attRow X T).setIfInBounds 24 x = attRow { X with prog := x } T := rfl
@[go_sem] theorem att_get25 (X : AV) (T : AT) : (attRow X T)[25]? = some (.int .i64 T.phase) := rfl
@[go_sem] theorem att_set25 (X : AV) (T : AT) (x : Int) : (attRow X T).setIfInBounds 25 (.int .i64 x) = attRow X { T with phase := x } := rfl
@[go_sem] theorem att_get26 (X : AV) (T : AT) : (attRow X T)[26]? = some (.int .i64 T.how) := rfl
@[go_sem] theorem att_set26 (X : AV) (T : AT) (x : Int) : (attRow X T).setIfInBounds 26 (.int .i64 x) = attRow X { T with how := x } := rfl
@[go_sem] theorem att_get27 (X : AV) (T : AT) : (attRow X T)[27]? = some (.int .i64 T.seen) := rfl
@[go_sem] theorem att_set27 (X : AV) (T : AT) (x : Int) : (attRow X T).setIfInBounds 27 (.int .i64 x) = attRow X { T with seen := x } := rfl
@[go_sem] theorem att_get28 (X : AV) (T : AT) : (attRow X T)[28]? = some (.int .i64 T.stamp) := rfl
@[go_sem] theorem att_set28 (X : AV) (T : AT) (x : Int) : (attRow X T).setIfInBounds 28 (.int .i64 x) = attRow X { T with stamp := x } := rfl
@[go_sem] theorem att_get29 (X : AV) (T : AT) : (attRow X T)[29]? = some (.int .i64 T.na) := rfl
@[go_sem] theorem att_set29 (X : AV) (T : AT) (x : Int) : (attRow X T).setIfInBounds 29 (.int .i64 x) = attRow X { T with na := x } := rfl
@[go_sem] theorem att_get30 (X : AV) (T : AT) : (attRow X T)[30]? = some (.int .i64 T.nv) := rfl
@[go_sem] theorem att_set30 (X : AV) (T : AT) (x : Int) : (attRow X T).setIfInBounds 30 (.int .i64 x) = attRow X { T with nv := x } := rfl
@[go_sem] theorem att_get31 (X : AV) (T : AT) : (attRow X T)[31]? = some (.int .i64 T.was) := rfl
@[go_sem] theorem att_set31 (X : AV) (T : AT) (x : Int) : (attRow X T).setIfInBounds 31 (.int .i64 x) = attRow X { T with was := x } := rfl
@[go_sem] theorem att_get32 (X : AV) (T : AT) : (attRow X T)[32]? = some X.vr := rfl
@[go_sem] theorem att_set32 (X : AV) (T : AT) (x : Value) : (attRow X T).setIfInBounds 32 x = attRow { X with vr := x } T := rfl
@[go_sem] theorem att_get33 (X : AV) (T : AT) : (attRow X T)[33]? = some X.vw := rfl
@[go_sem] theorem att_set33 (X : AV) (T : AT) (x : Value) : (attRow X T).setIfInBounds 33 x = attRow { X with vw := x } T := rfl
@[go_sem] theorem att_get34 (X : AV) (T : AT) : (attRow X T)[34]? = some X.vl := rfl
@[go_sem] theorem att_set34 (X : AV) (T : AT) (x : Value) : (attRow X T).setIfInBounds 34 x = attRow { X with vl := x } T := rfl
@[go_sem] theorem att_get35 (X : AV) (T : AT) : (attRow X T)[35]? = some X.vh := rfl
@[go_sem] theorem att_set35 (X : AV) (T : AT) (x : Value) : (attRow X T).setIfInBounds 35 x = attRow { X with vh := x } T := rfl
@[go_sem] theorem att_get36 (X : AV) (T : AT) : (attRow X T)[36]? = some X.vc := rfl
@[go_sem] theorem att_set36 (X : AV) (T : AT) (x : Value) : (attRow X T).setIfInBounds 36 x = attRow { X with vc := x } T := rfl
@[go_sem] theorem att_get37 (X : AV) (T : AT) : (attRow X T)[37]? = some (.int .i64 T.at_) := rfl
@[go_sem] theorem att_set37 (X : AV) (T : AT) (x : Int) : (attRow X T).setIfInBounds 37 (.int .i64 x) = attRow X { T with at_ := x } := rfl

theorem att_lay (X : AV) (T : AT) : ∀ j v, (Lay.lay X.c X.a).toList[j]? = some v → (attRow X T)[0 + j]? = some v := by
  intro j v h
  have hj : j < 23 := (List.getElem?_eq_some_iff.1 h).1
  rw [Nat.zero_add, ← h]
  unfold attRow Lay.lay
  match j, hj with
  | 0, _ | 1, _ | 2, _ | 3, _ | 4, _ | 5, _ | 6, _ | 7, _ | 8, _ | 9, _ | 10, _ | 11, _ | 12, _ | 13, _ | 14, _ | 15, _ | 16, _ | 17, _ | 18, _ | 19, _ | 20, _ | 21, _ | 22, _ => rfl

/-- an attempt's block -/
def Row (w : World) (b : Nat) (X : AV) (T : AT) : Prop := w.heap[b]? = some (.cells (attRow X T) 78 (0, 0))
theorem Row.lt {w : World} {b : Nat} {X : AV} {T : AT} (h : Row w b X T) : b < w.heap.size := (Array.getElem?_eq_some_iff.1 h).1
theorem Row.get {w : World} {b : Nat} {X : AV} {T : AT} (h : Row w b X T) (j : Nat) : w.cell? ⟨b, j, none⟩ = (attRow X T)[j]? := cell_of_row _ _ _ _ _ _ h
theorem Row.set {w : World} {b : Nat} {X : AV} {T : AT} (h : Row w b X T) (j : Nat) (v : Value) : w.setCell ⟨b, j, none⟩ v = w.setRow b ((attRow X T).setIfInBounds j v) := setCell_row h
theorem Row.free {w : World} {b : Nat} {X : AV} {T : AT} (h : Row w b X T) (j : Nat) : w.frozen? ⟨b, j, none⟩ = false := row_frozen h j
theorem Row.get' {w : World} {b : Nat} {X : AV} {T : AT} (h : Row w b X T) (cs : Array Value) (j : Nat) : (w.setRow b cs).cell? ⟨b, j, none⟩ = cs[j]? := setRow_cell h cs j
theorem Row.set' {w : World} {b : Nat} {X : AV} {T : AT} (h : Row w b X T) (cs : Array Value) (j : Nat) (v : Value) : (w.setRow b cs).setCell ⟨b, j, none⟩ v = w.setRow b (cs.setIfInBounds j v) := setRow_setCell h cs j v
theorem Row.free' {w : World} {b : Nat} {X : AV} {T : AT} (h : Row w b X T) (cs : Array Value) (j : Nat) : (w.setRow b cs).frozen? ⟨b, j, none⟩ = false := row_frozen (setRow_same h) j
theorem Row.now {w : World} {b : Nat} {X X' : AV} {T T' : AT} (h : Row w b X T) : Row (w.setRow b (attRow X' T')) b X' T' := setRow_same h
theorem Row.chg {w : World} {b : Nat} (cs : Array Value) : Chg (fun k => k = b) w (w.setRow b cs) := Chg.setRow w b _ rfl

set_option maxRecDepth 100000 in
theorem end_any {w : World} {b : Nat} {X : AV} {T : AT} (H : Row w b X T) (how : Int) :
    Calls Tryz.prog 47 #[.pointer (some ⟨b, 0, none⟩), .int .i64 how] w fun e w' => e = .returned (.tuple #[]) ∧ Row w' b X (fin T how) ∧ Chg (fun k => k = b) w w' := by
  have g1 := H.get; have g2 := H.set; have g3 := H.free; have g4 := H.get'; have g5 := H.set'; have g6 := H.free'
  have HH := Lib.hid H
  clear H
  go_enter Tryz.func47, Tryz.ntmps47
  go_wp2
  go_end0
  exact ⟨rfl, HH.out.now, Row.chg _⟩

end Att
end Go.Proofs.YthojgahcpkdemaaGreat

/- a new attempt -/
namespace Go.Proofs.YthojgahcpkdemaaGreat
open Go.RowKit Go.Bas
namespace Att

def newT (owner : Int) : AT := ⟨owner, 0, 0, 0, 0, 0, 0, 0, [], [], [], [], [], 0⟩
def newV (c : Lay.Cfg) (a : Lay.At) (prog : Value) : AV := ⟨c, a, prog, .slice none 0 0, .slice none 0 0, .slice none 0 0, .slice none 0 0, .slice none 0 0⟩

set_option maxRecDepth 100000 in
theorem built_new (c : Lay.Cfg) (a : Lay.At) (owner : Int) (fn : Fn) (xs ys : Array Value) : Tryz.prog.built 78 [(0, .agg (Lay.lay c a)), (1, .int .i64 owner), (2, .func fn xs ys)] = some (attRow (newV c a (.func fn xs ys)) (newT owner)) := by kernel_rfl

set_option maxRecDepth 100000 in
set_option maxHeartbeats 4000000 in
theorem made_any (c : Lay.Cfg) (a : Lay.At) (owner : Int) (fn : Fn) (xs ys : Array Value) (w : World) :
    Calls Tryz.prog 12 #[.agg (Lay.lay c a), .int .i64 owner, (.func fn xs ys)] w fun e w' => ∃ b, e = .returned (.pointer (some ⟨b, 0, none⟩)) ∧ w.heap.size ≤ b ∧ b < w'.heap.size ∧ Row w' b (newV c a (.func fn xs ys)) (newT owner) ∧ Below w.heap.size w w' := by
  obtain ⟨B, hB⟩ : ∃ B, w.heap.size = B := ⟨_, rfl⟩
  obtain ⟨w1, hw1⟩ : ∃ w1, w.alloc (.cells (Lay.lay c a) 29) = w1 := ⟨_, rfl⟩
  have h1 : Hid (w1.heap[B]? = some (.cells (Lay.lay c a) 29 (0, 0))) := by rw [← hw1, ← hB]; exact new_row _ _ _
  have s1 : w1.heap.size = B + 1 := by rw [← hw1, ← hB]; simp
  obtain ⟨w2, hw2⟩ : ∃ w2, w1.alloc (.cells (attRow (newV c a (.func fn xs ys)) (newT owner)) 78) = w2 := ⟨_, rfl⟩
  have fin : Hid (B + 1 < w2.heap.size ∧ Row w2 (B + 1) (newV c a (.func fn xs ys)) (newT owner) ∧ Below B w w2) := by
    refine ⟨by rw [← hw2]; simp; omega, ?_, ?_⟩
    · rw [← hw2, ← s1]; exact new_row _ _ _
    · rw [← hw2]; exact (show Below B w w1 by rw [← hw1]; exact (Below.refl _ _).alloc (by omega) _).alloc (by omega) _
  go_enter Tryz.func12, Tryz.ntmps12
  go_wp2_with (first
    | (refine wpList_load_row rfl 29 _ rfl B rfl 29 (Lay.lay c a) (0, 0) _ h1.out Tryz.underlying29 rfl (Lay.lay_size c a) ?_)
    | (refine wpList_built rfl 78 _ rfl [(0, .agg (Lay.lay c a)), (1, .int .i64 owner), (2, .func fn xs ys)] rfl (attRow (newV c a (.func fn xs ys)) (newT owner)) (built_new c a owner fn xs ys) ?_))
  go_ret
  rw [hB]
  exact ⟨B + 1, rfl, by omega, fin.out.1, fin.out.2.1, fin.out.2.2⟩

end Att
end Go.Proofs.YthojgahcpkdemaaGreat
