/- Lemmas of this seat's proofs, several texts laid together. -/
import Derived.Test.YtkegfeghdnpajaaOcB
import Derived.Test.YtkegfeghdnpajaaOcA
import Derived.OwnWalk
import Derived.Great.BuildSlice
import Derived.Laws.OwnMore
import Derived.Deep.Slices
import Derived.ChangeSame
import Derived.ProofKit
import Derived.Deep.QuietTactic
import Derived.BigQuiet
import Derived.Deep.Cut
import Derived.Deep.CutRange
import Derived.WalkLawsBesides
set_option linter.unusedVariables false
set_option linter.unusedSimpArgs false
/- rows of what was stored that grow; what lies behind them; opaque.stores -/
namespace Go.Proofs.Ytkegfeghdnpajaa
open Go.RowKit Go.Bas Txs
namespace Srt

def flatS (d : List St) : List Value := d.flatMap enc
theorem flatS_snoc (d : List St) (x : St) : flatS (d ++ [x]) = flatS d ++ enc x := by simp [flatS]
theorem flatS_at : ∀ (d : List St) (i : Nat) (h : i < d.length) (j : Nat) (v : Value), (enc d[i])[j]? = some v → (flatS d)[i * 3 + j]? = some v
  | q :: r, 0, _, j, v, hv => by
    have hj : j < (enc q).length := (List.getElem?_eq_some_iff.1 hv).1
    have e : flatS (q :: r) = enc q ++ flatS r := rfl
    rw [e, Nat.zero_mul, Nat.zero_add, List.getElem?_append_left hj]
    exact hv
  | q :: r, i + 1, h, j, v, hv => by
    have := flatS_at r i (by simpa using h) j v (by simpa using hv)
    have e : flatS (q :: r) = enc q ++ flatS r := rfl
    rw [e, List.getElem?_append_right (by rw [enc_length]; omega), enc_length, show (i + 1) * 3 + j - 3 = i * 3 + j by omega]
    exact this
theorem flatS_length (d : List St) : (flatS d).length = d.length * 3 := by
  induction d with
  | nil => rfl
  | cons q r ih => have e : flatS (q :: r) = enc q ++ flatS r := rfl
                   rw [e, List.length_append, ih, enc_length, List.length_cons]; omega

/-- a row of its own, that may grow -/
def ORow (w : World) (base : Nat) (d : List St) (v : Value) : Prop := ∃ A cap, v = .slice A d.length cap ∧ w.ownsRow base 122 3 v d.length (flatS d)
theorem ORow.nil (w : World) (base : Nat) : ORow w base [] (.slice none 0 0) := ⟨none, 0, rfl, by simpa [flatS] using World.ownsRow_nil _ _ _ _⟩
theorem ORow.block {w : World} {base : Nat} {m : List St} {v : Value} (h : ORow w base m v) {k : Nat} (e : v.ownBlock = some k) : base ≤ k := by
  obtain ⟨A, cap, rfl, hl, hr⟩ := h
  rcases hr with ⟨h, _⟩ | ⟨g, cp, cur, hv, hg, r⟩
  · rw [h] at e; simp [Value.ownBlock] at e
  · rw [hv] at e; simp [Value.ownBlock] at e; omega
theorem ORow.kept {w w' : World} {base : Nat} {m : List St} {v : Value} (h : ORow w base m v) (hk : ∀ k, v.ownBlock = some k → w'.heap[k]? = w.heap[k]?) : ORow w' base m v := by
  obtain ⟨A, cap, rfl, hl, hr⟩ := h
  refine ⟨A, cap, rfl, hl, ?_⟩
  rcases hr with h | ⟨g, cp, cur, hv, hg, hh, r⟩
  · exact .inl h
  · exact .inr ⟨g, cp, cur, hv, hg, (hk g (by rw [hv]; rfl)).trans hh, r⟩
theorem ORow.own_lt {w : World} {base : Nat} {m : List St} {v : Value} (h : ORow w base m v) {k : Nat} (e : v.ownBlock = some k) : k < w.heap.size := by
  obtain ⟨A, cap, rfl, hl, hr⟩ := h
  rcases hr with ⟨h, _⟩ | ⟨g, cp, cur, hv, hg, hh, r⟩
  · rw [h] at e; simp [Value.ownBlock] at e
  · rw [hv] at e; simp [Value.ownBlock] at e; subst e; exact (Array.getElem?_eq_some_iff.1 hh).1
theorem ORow.sv {w : World} {base : Nat} {d : List St} {v : Value} (h : ORow w base d v) : SV w v d := by
  obtain ⟨A, cap, rfl, hl, hr⟩ := h
  rcases hr with ⟨hv, hn⟩ | ⟨g, cp, cur, hv, hg, hh, hc, hcm, hcs, ht⟩
  · exact .inl ⟨List.eq_nil_of_length_eq_zero hn, hv⟩
  · refine .inr ⟨g, cp, hv, (Array.getElem?_eq_some_iff.1 hh).1, fun i hi => ?_⟩
    have hat : ∀ (j : Nat) (u : Value), (enc d[i])[j]? = some u → cur[i * 3 + j]? = some u := fun j u hu => by
      have e1 := flatS_at d i hi j u hu
      rw [← ht, List.getElem?_take] at e1
      split at e1
      · simpa using e1
      · cases e1
    refine ⟨fun j u hu => ?_, fun j hj => ?_⟩
    · rw [cell_of_row _ _ _ _ _ _ hh]; exact hat j u hu
    · obtain ⟨u, hu⟩ : ∃ u, (enc d[i])[j]? = some u := ⟨(enc d[i])[j]'(by rw [enc_length]; exact hj), List.getElem?_eq_getElem _⟩
      refine ⟨by rw [cell_of_row _ _ _ _ _ _ hh, hat j u hu]; rfl, ?_⟩
      simp [World.frozen?, hh]

theorem infoSt : (Try.prog.info? 122).map (fun i => (i.zero, i.size, i.bytes)) = some (some (.agg #[.int .i64 0, .bool false, .slice none 0 0]), 3, 40) := by kernel_rfl
theorem infoPr : (Try.prog.info? 93).map (fun i => (i.zero, i.size)) = some (some (.agg #[.int .i64 0, .int .i64 0]), 2) := by kernel_rfl
theorem wpList_adds {ops : Array Oper} {rest : List Oper} {o : Oper} {a : Act} {w : World} {Q : Exit → Act → World → Prop} (hgd : o.guard = none) (s x : Operand)
    (ho : o.op = .call { callee := .builtin .append, args := #[s, x], argTypes := #[100, 100] })
    (base : Nat) (out : List St) (v : Value) (hs : a.eval s = v) (h : ORow w base out v) (hn : out.length ≤ 10000) (hb : base ≤ w.heap.size) (b : Nat) (y : St) (hx : a.eval x = .slice (some ⟨b, 0, none⟩) 1 1)
    (hrow : w.heap[b]? = some (.cells #[.int .i64 y.stamp, .bool y.flag, .slice y.pa y.pn y.pc] 122 (0, 0)))
    (H : ∀ v' w', ORow w' base (out ++ [y]) v' → w.grownBy w' v.ownBlock → (v'.ownBlock = v.ownBlock ∨ v'.ownBlock = some w.heap.size) → wpList Try.prog ops Q rest (a.put o.dst v') w') : wpList Try.prog ops Q (o :: rest) a w := by
  obtain ⟨i0, hi0, hz0, hz1, hz2⟩ := info_parts infoSt
  obtain ⟨A, cap, rfl, hown⟩ := h
  refine wpList_append_any hgd s x 100 ho base 122 i0 (.agg #[.int .i64 0, .bool false, .slice none 0 0]) 3 40 Try.underlying100 hi0 hz0 hz1 hz2 rfl (by decide) _ out.length (flatS out) hs hown (some ⟨b, 0, none⟩) 1 1 (enc y) hx rfl ?_ ?_ ?_ ?_ hb ?_
  · intro _
    refine ⟨_, rfl, fun j u hj => ?_⟩
    match j, hj with
    | 0, hj => simp [enc] at hj; subst hj; simp [Addr.add, cell_of_row _ _ _ _ _ _ hrow]
    | 1, hj => simp [enc] at hj; subst hj; simp [Addr.add, cell_of_row _ _ _ _ _ _ hrow]
    | 2, hj => simp [enc] at hj; subst hj; simp [Addr.add, cell_of_row _ _ _ _ _ _ hrow]
    | j + 3, hj => simp [enc] at hj
  · simp [enc, Value.oneCell']
  · unfold maxLen; omega
  · omega
  · intro v' w' hown' hg hb'
    obtain ⟨A1, c1, rfl⟩ := own_slice hown'
    refine H _ w' ⟨A1, c1, by simp, ?_⟩ hg hb'
    rw [flatS_snoc]
    simpa using hown'

theorem run_pr (w : World) (x0 x1 : Value) : (Instr.buildSlice 89 1 #[(0, .agg #[x0, x1])]).run Try.prog w = .ok (.slice (some ⟨w.heap.size, 0, none⟩) 1 1) (w.alloc (.cells #[x0, x1] 93)) := by
  obtain ⟨i, hi, hzz⟩ := Option.map_eq_some_iff.1 infoPr
  simp only [Prod.mk.injEq] at hzz
  obtain ⟨hz, hs⟩ := hzz
  refine run_buildSlice w _ 93 1 _ #[x0, x1] i _ Try.underlying89 hi hz (by rw [hs]; decide) (by rw [hs]; decide) ?_
  rw [hs]
  kernel_rfl
theorem wpList_pr {ops : Array Oper} {rest : List Oper} {o : Oper} {a : Act} {w : World} {Q : Exit → Act → World → Prop} (hg : o.guard = none) (p0 : Operand) (ho : o.op = .buildSlice 89 1 #[(0, p0)])
    (x0 x1 : Value) (h0 : a.eval p0 = .agg #[x0, x1])
    (h : wpList Try.prog ops Q rest (a.put o.dst (.slice (some ⟨w.heap.size, 0, none⟩) 1 1)) (w.alloc (.cells #[x0, x1] 93))) : wpList Try.prog ops Q (o :: rest) a w :=
  wpList_plain hg fun K hK => by
    have e : ((#[(0, p0)] : Array (Nat × Operand)).map fun (i, x) => (i, a.eval x)) = #[(0, .agg #[x0, x1])] := by simp [h0]
    unfold Oper.wp execOp
    simp only [ho, Sem.run_bind, e, run_pr, Result.andThen_ok]
    exact hK _ _ h
theorem run_st (w : World) (x0 x1 x2 : Value) : (Instr.buildSlice 100 1 #[(0, .agg #[x0, x1, x2])]).run Try.prog w = .ok (.slice (some ⟨w.heap.size, 0, none⟩) 1 1) (w.alloc (.cells #[x0, x1, x2] 122)) := by
  obtain ⟨i, hi, hz, hs, _⟩ := info_parts infoSt
  refine run_buildSlice w _ 122 1 _ #[x0, x1, x2] i _ Try.underlying100 hi hz (by rw [hs]; decide) (by rw [hs]; decide) ?_
  rw [hs]
  kernel_rfl
theorem wpList_st {ops : Array Oper} {rest : List Oper} {o : Oper} {a : Act} {w : World} {Q : Exit → Act → World → Prop} (hg : o.guard = none) (p0 : Operand) (ho : o.op = .buildSlice 100 1 #[(0, p0)])
    (x0 x1 x2 : Value) (h0 : a.eval p0 = .agg #[x0, x1, x2])
    (h : wpList Try.prog ops Q rest (a.put o.dst (.slice (some ⟨w.heap.size, 0, none⟩) 1 1)) (w.alloc (.cells #[x0, x1, x2] 122))) : wpList Try.prog ops Q (o :: rest) a w :=
  wpList_plain hg fun K hK => by
    have e : ((#[(0, p0)] : Array (Nat × Operand)).map fun (i, x) => (i, a.eval x)) = #[(0, .agg #[x0, x1, x2])] := by simp [h0]
    unfold Oper.wp execOp
    simp only [ho, Sem.run_bind, e, run_st, Result.andThen_ok]
    exact hK _ _ h

/-- pairs that lie outside a block -/
def PairsO (w : World) (o : Option Nat) (s : Value) (l : List (Int × Int)) : Prop :=
  ∃ (A : Option Addr) (c : Nat), s = .slice A l.length c ∧ l.length ≤ maxLen ∧
    (0 < l.length → ∃ b off, A = some ⟨b, off, none⟩ ∧ b < w.heap.size ∧ o ≠ some b ∧
      ∀ i (h : i < l.length), w.cell? ⟨b, off + i * 2, none⟩ = some (.int .i64 l[i].1) ∧ w.cell? ⟨b, off + i * 2 + 1, none⟩ = some (.int .i64 l[i].2))
theorem PairsO.pairs {w : World} {o : Option Nat} {s : Value} {l : List (Int × Int)} (h : PairsO w o s l) : Pairs w w.heap.size s l := by
  obtain ⟨A, c, rfl, hm, hc⟩ := h
  refine ⟨A, c, rfl, hm, fun h0 => ?_⟩
  obtain ⟨b, off, h1, h2, _, h4⟩ := hc h0
  exact ⟨b, off, h1, h2, h4⟩
theorem PairsO.kept {w w' : World} {o o' : Option Nat} {s : Value} {l : List (Int × Int)} (h : PairsO w o s l) (hs : w.heap.size ≤ w'.heap.size) (hk : ∀ b, b < w.heap.size → o ≠ some b → w'.heap[b]? = w.heap[b]?)
    (ho : ∀ b, b < w.heap.size → o ≠ some b → o' ≠ some b) : PairsO w' o' s l := by
  obtain ⟨A, c, rfl, hm, hc⟩ := h
  refine ⟨A, c, rfl, hm, fun h0 => ?_⟩
  obtain ⟨b, off, h1, h2, h3, h4⟩ := hc h0
  have e := hk b h2 h3
  refine ⟨b, off, h1, Nat.lt_of_lt_of_le h2 hs, ho b h2 h3, fun i hi => ?_⟩
  obtain ⟨c1, c2⟩ := h4 i hi
  refine ⟨?_, ?_⟩
  · rw [← c1]; simp [World.cell?, e]
  · rw [← c2]; simp [World.cell?, e]
theorem PairsO.of {w : World} {B : Nat} {o : Option Nat} {s : Value} {l : List (Int × Int)} (h : Pairs w B s l) (hB : B ≤ w.heap.size) (ho : ∀ b, o = some b → B ≤ b) : PairsO w o s l := by
  obtain ⟨A, c, rfl, hm, hc⟩ := h
  refine ⟨A, c, rfl, hm, fun h0 => ?_⟩
  obtain ⟨b, off, h1, h2, h4⟩ := hc h0
  exact ⟨b, off, h1, by omega, fun hh => by have := ho b hh; omega, h4⟩

/-- what is stored, in plain -/
structure Ev where
  (stamp : Int) (flag : Bool) (pairs : List (Int × Int))
def Item (w : World) (o : Option Nat) (x : St) (e : Ev) : Prop := x.stamp = e.stamp ∧ x.flag = e.flag ∧ PairsO w o (.slice x.pa x.pn x.pc) e.pairs
inductive Items (w : World) (o : Option Nat) : List St → List Ev → Prop
  | nil : Items w o [] []
  | cons {x e xs es} : Item w o x e → Items w o xs es → Items w o (x :: xs) (e :: es)
theorem Items.kept {w w' : World} {o o' : Option Nat} {xs : List St} {es : List Ev} (h : Items w o xs es) (hs : w.heap.size ≤ w'.heap.size) (hk : ∀ b, b < w.heap.size → o ≠ some b → w'.heap[b]? = w.heap[b]?)
    (ho : ∀ b, b < w.heap.size → o ≠ some b → o' ≠ some b) : Items w' o' xs es := by
  induction h with
  | nil => exact .nil
  | cons h1 _ ih => exact .cons ⟨h1.1, h1.2.1, h1.2.2.kept hs hk ho⟩ ih
theorem Items.snoc {w : World} {o : Option Nat} {xs : List St} {es : List Ev} (h : Items w o xs es) {x : St} {e : Ev} (hx : Item w o x e) : Items w o (xs ++ [x]) (es ++ [e]) := by
  induction h with
  | nil => exact .cons hx .nil
  | cons h1 _ ih => exact .cons h1 ih
theorem Items.length {w : World} {o : Option Nat} {xs : List St} {es : List Ev} (h : Items w o xs es) : xs.length = es.length := by
  induction h with
  | nil => rfl
  | cons _ _ ih => simp [ih]

def storesB (t : Tx) : Bool := t.sure && decide (0 < t.writes.length)
def evOf (t : Tx) : List Ev := (if t.fall && decide (0 < t.seen) then [⟨t.seen, true, [(2, wrap64 (t.worker + 1))]⟩] else []) ++ (if storesB t then [⟨t.stamp, false, t.writes⟩] else [])
def evs (l : List Tx) : List Ev := l.flatMap evOf

set_option maxRecDepth 100000 in
theorem stores_any (a b c d : Int) (f s : Bool) (A6 : Option Addr) (n6 c6 : Nat) (A7 : Option Addr) (n7 c7 : Nat) (w : World) :
    Calls Try.prog 84 #[.agg #[.int .i64 a, .int .i64 b, .int .i64 c, .int .i64 d, .bool f, .bool s, .slice A6 n6 c6, .slice A7 n7 c7]] w fun e w' => e = .returned (.bool (s && decide (0 < n7))) ∧ Below w.heap.size w w' := by
  obtain ⟨w1, hw1⟩ : ∃ w1, w.alloc (.cells #[.int .i64 a, .int .i64 b, .int .i64 c, .int .i64 d, .bool f, .bool s, .slice A6 n6 c6, .slice A7 n7 c7] 91) = w1 := ⟨_, rfl⟩
  have hrow : w1.heap[w.heap.size]? = some (.cells #[.int .i64 a, .int .i64 b, .int .i64 c, .int .i64 d, .bool f, .bool s, .slice A6 n6 c6, .slice A7 n7 c7] 91 (0, 0)) := by rw [← hw1]; exact new_row _ _ _
  have hb1 : Hid (Below w.heap.size w w1) := by rw [← hw1]; exact (Below.refl _ _).alloc (Nat.le_refl _) _
  have k5 : w1.cell? ⟨w.heap.size, 5, none⟩ = some (.bool s) := by rw [cell_of_row _ _ _ _ _ _ hrow]; rfl
  have k7 : w1.cell? ⟨w.heap.size, 7, none⟩ = some (.slice A7 n7 c7) := by rw [cell_of_row _ _ _ _ _ _ hrow]; rfl
  clear hrow
  go_enter Try.func84, Try.ntmps84
  go_upto_region 1 with fail
  clear hw1
  cases s with
  | true =>
    by_cases h7 : 0 < n7
    · go_wp2
      go_ret
      exact ⟨by simp [h7], hb1.out⟩
    · go_wp2
      go_ret
      exact ⟨by simp [h7], hb1.out⟩
  | false =>
    go_wp2
    go_ret
    exact ⟨rfl, hb1.out⟩

end Srt
end Go.Proofs.Ytkegfeghdnpajaa

/- words in memory (from vlib's VMem, TW, IntsSame, without the view) -/
namespace Go.Proofs.Ytkegfeghdnpajaa
open Go.RowKit Go.Bas Txs IMap_
open Go.WideShapes Go.Deep Go.ChangeShapes
namespace View
theorem row_cell {w : World} {cur : Array Value} {E : TypeId} {fz : Nat × Nat} {g : Nat} (hg : w.heap[g]? = some (.cells cur E fz)) {n : Nat} {L : List Value} (ht : cur.toList.take n = L) {j : Nat} {u : Value} (hu : L[j]? = some u) : w.cell? ⟨g, j, none⟩ = some u := by
  rw [cell_of_row w g j cur E fz hg]
  rw [← ht, List.getElem?_take] at hu
  split at hu
  · simpa using hu
  · cases hu
theorem row_free {w : World} {cur : Array Value} {E : TypeId} {g : Nat} (hg : w.heap[g]? = some (.cells cur E (0, 0))) (o : Nat) : w.frozen? ⟨g, o, none⟩ = false := by simp [World.frozen?, hg]

theorem no_pairs (w : World) (B : Nat) : Pairs w B (.slice none 0 0) [] := ⟨none, 0, rfl, Nat.zero_le _, fun h => absurd h (by simp)⟩
/-- ints in memory, below block B -/
def Words (w : World) (B : Nat) (s : Value) (l : List Int) : Prop :=
  ∃ (A : Option Addr) (c : Nat), s = .slice A l.length c ∧ l.length ≤ maxLen ∧
    (0 < l.length → ∃ b off, A = some ⟨b, off, none⟩ ∧ b < B ∧ ∀ i (h : i < l.length), w.cell? ⟨b, off + i, none⟩ = some (.int .i64 l[i]))
theorem Words.keep {w w' : World} {B : Nat} {s : Value} {l : List Int} (h : Words w B s l) (hb : ∀ k, k < B → k < w.heap.size → w'.heap[k]? = w.heap[k]?) : Words w' B s l := by
  obtain ⟨A, c, rfl, hm, hc⟩ := h
  refine ⟨A, c, rfl, hm, fun hn => ?_⟩
  obtain ⟨b, off, rfl, hlt, hc⟩ := hc hn
  refine ⟨b, off, rfl, hlt, fun i hi => ?_⟩
  have h0 := hc i hi
  have := World.block_lt_of_cell? w _ h0
  rw [← h0]
  simp [World.cell?, hb b hlt this]
/-- a slice's block -/
def blk (s : Value) (k : Nat) : Prop := ∃ b off n c, s = .slice (some ⟨b, off, none⟩) n c ∧ k = b
theorem Words.keep1 {w w' : World} {B : Nat} {s : Value} {l : List Int} (h : Words w B s l) (hb : ∀ k, blk s k → k < B → k < w.heap.size → w'.heap[k]? = w.heap[k]?) : Words w' B s l := by
  obtain ⟨A, c, rfl, hm, hc⟩ := h
  refine ⟨A, c, rfl, hm, fun hn => ?_⟩
  obtain ⟨b, off, rfl, hlt, hc⟩ := hc hn
  refine ⟨b, off, rfl, hlt, fun i hi => ?_⟩
  have h0 := hc i hi
  have := World.block_lt_of_cell? w _ h0
  rw [← h0]
  simp [World.cell?, hb b ⟨b, off, _, _, rfl, rfl⟩ hlt this]
theorem Words.below {w w' : World} {B : Nat} {s : Value} {l : List Int} (h : Words w B s l) (hb : Below B w w') : Words w' B s l := h.keep fun k hk _ => hb.block k hk
theorem Words.mono {w : World} {B C : Nat} {s : Value} {l : List Int} (h : Words w B s l) (hb : B ≤ C) : Words w C s l := by
  obtain ⟨A, c, rfl, hm, hc⟩ := h
  refine ⟨A, c, rfl, hm, fun hn => ?_⟩
  obtain ⟨b, off, rfl, hlt, hc⟩ := hc hn
  exact ⟨b, off, rfl, by omega, hc⟩
def WIn (l : List Int) : Prop := ∀ p ∈ l, In64 p
theorem word_row {w : World} {B : Nat} {A : Option Addr} {n c : Nat} {l : List Int} (h : Words w B (.slice A n c) l) {k : Nat} (hk : k < l.length) : ∃ b off, A = some ⟨b, off, none⟩ ∧ b < B ∧ w.cell? ⟨b, off + k, none⟩ = some (.int .i64 l[k]) := by
  obtain ⟨A', c', e, hm, hc⟩ := h
  simp at e
  obtain ⟨rfl, rfl, rfl⟩ := e
  obtain ⟨b, off, rfl, hlt, hc⟩ := hc (by omega)
  exact ⟨b, off, rfl, hlt, hc k hk⟩

/-- words in a row of the call's own -/
def TW (w : World) (base : Nat) (l : List Int) (v : Value) : Prop := ∃ A cap, v = .slice A l.length cap ∧ w.ownsRow base 3 1 v l.length (l.map (Value.int .i64))
theorem TW.low {w : World} {base base' : Nat} {m : List Int} {v : Value} (h : TW w base m v) (hb : base' ≤ base) : TW w base' m v := by
  obtain ⟨A, cap, rfl, hl, hr⟩ := h
  refine ⟨A, cap, rfl, hl, ?_⟩
  rcases hr with h | ⟨g, cp, cur, hv, hg, r⟩
  · exact .inl h
  · exact .inr ⟨g, cp, cur, hv, by omega, r⟩
theorem TW.block {w : World} {base : Nat} {m : List Int} {v : Value} (h : TW w base m v) {k : Nat} (e : v.ownBlock = some k) : base ≤ k := by
  obtain ⟨A, cap, rfl, hl, hr⟩ := h
  rcases hr with ⟨h, _⟩ | ⟨g, cp, cur, hv, hg, r⟩
  · rw [h] at e; simp [Value.ownBlock] at e
  · rw [hv] at e; simp [Value.ownBlock] at e; omega
theorem TW.kept {w w' : World} {base : Nat} {m : List Int} {v : Value} (h : TW w base m v) (hk : ∀ k, v.ownBlock = some k → w'.heap[k]? = w.heap[k]?) : TW w' base m v := by
  obtain ⟨A, cap, rfl, hl, hr⟩ := h
  refine ⟨A, cap, rfl, hl, ?_⟩
  rcases hr with h | ⟨g, cp, cur, hv, hg, hh, r⟩
  · exact .inl h
  · exact .inr ⟨g, cp, cur, hv, hg, (hk g (by rw [hv]; rfl)).trans hh, r⟩
theorem TW.own_lt {w : World} {base : Nat} {m : List Int} {v : Value} (h : TW w base m v) {k : Nat} (e : v.ownBlock = some k) : k < w.heap.size := by
  obtain ⟨A, cap, rfl, hl, hr⟩ := h
  rcases hr with ⟨h, _⟩ | ⟨g, cp, cur, hv, hg, hh, r⟩
  · rw [h] at e; simp [Value.ownBlock] at e
  · rw [hv] at e; simp [Value.ownBlock] at e; subst e; exact (Array.getElem?_eq_some_iff.1 hh).1
theorem TW.words {w : World} {base : Nat} {m : List Int} {v : Value} (h : TW w base m v) : Words w w.heap.size v m := by
  obtain ⟨A, cap, rfl, hl, hr⟩ := h
  rcases hr with ⟨hv, hn⟩ | ⟨g, cp, cur, hv, hg, hh, hc, hcm, hcs, ht⟩
  · exact ⟨A, cap, rfl, by omega, fun h => by omega⟩
  · simp only [Value.slice.injEq] at hv
    obtain ⟨rfl, _, rfl⟩ := hv
    refine ⟨_, cap, rfl, by omega, fun _ => ⟨g, 0, rfl, (Array.getElem?_eq_some_iff.1 hh).1, fun i hi => ?_⟩⟩
    rw [Nat.zero_add]
    exact row_cell hh ht (by simp [hi])
theorem TW.made (w : World) : TW (w.alloc (.cells #[] 3)) w.heap.size [] (.slice (some ⟨w.heap.size, 0, none⟩) 0 0) :=
  ⟨some ⟨w.heap.size, 0, none⟩, 0, rfl, by simpa using World.ownsRow_made w #[] 0 (Nat.le_refl _) (Nat.zero_le _) rfl⟩

theorem infoInt : (Try.prog.info? 3).map (fun i => (i.zero, i.size, i.bytes)) = some (some (.int .i64 0), 1, 8) := by kernel_rfl
theorem wpList_addwords {ops : Array Oper} {rest : List Oper} {o : Oper} {a : Act} {w : World} {Q : Exit → Act → World → Prop} (hgd : o.guard = none) (s x : Operand)
    (ho : o.op = .call { callee := .builtin .append, args := #[s, x], argTypes := #[43, 43] })
    (base : Nat) (out : List Int) (v : Value) (hs : a.eval s = v) (h : TW w base out v) (hn : out.length ≤ 10000) (hb : base ≤ w.heap.size) (B : Nat) (l : List Int) (A2 : Option Addr) (n2 c2 : Nat) (hx : a.eval x = .slice A2 n2 c2) (hl : Words w B (.slice A2 n2 c2) l) (hln : n2 ≤ 10000)
    (H : ∀ v' w', TW w' base (out ++ l) v' → w.grownBy w' v.ownBlock → (v'.ownBlock = v.ownBlock ∨ v'.ownBlock = some w.heap.size) → wpList Try.prog ops Q rest (a.put o.dst v') w') : wpList Try.prog ops Q (o :: rest) a w := by
  obtain ⟨i0, hi0, hz0, hz1, hz2⟩ := info_parts infoInt
  obtain ⟨A, cap, rfl, hown⟩ := h
  obtain ⟨A', c', e, hm, hc⟩ := hl
  simp only [Value.slice.injEq] at e
  obtain ⟨rfl, rfl, rfl⟩ := e
  refine wpList_append_any hgd s x 43 ho base 3 i0 (.int .i64 0) 1 8 Try.underlying43 hi0 hz0 hz1 hz2 rfl (by decide) _ out.length (out.map (Value.int .i64)) hs hown A2 l.length c2 (l.map (Value.int .i64)) hx (by simp) ?_ ?_ ?_ ?_ hb ?_
  · intro h0
    obtain ⟨b, off, rfl, hlt, hc⟩ := hc h0
    refine ⟨_, rfl, fun j u hj => ?_⟩
    have hjl : j < l.length := by
      have := (List.getElem?_eq_some_iff.1 hj).1
      simpa using this
    have hadd : (⟨b, off, none⟩ : Addr).add j = ⟨b, off + j, none⟩ := by unfold Addr.add; split <;> simp_all
    rw [hadd, hc j hjl]
    rw [← hj]; simp [hjl]
  · intro u hu
    obtain ⟨p, hp, rfl⟩ := List.mem_map.1 hu
    rfl
  · unfold maxLen; omega
  · omega
  · intro v' w' hown' hg hb'
    obtain ⟨A1, c1, rfl⟩ := own_slice hown'
    refine H _ w' ⟨A1, c1, by simp, ?_⟩ hg hb'
    rw [List.map_append]
    simpa using hown'

theorem no_words (w : World) (B : Nat) : Words w B (.slice none 0 0) [] := ⟨none, 0, rfl, Nat.zero_le _, fun h => by simp at h⟩

set_option maxRecDepth 100000 in
theorem words_in {H : Type} {enc : TypeId × Value → H} {w : World} {base : Nat} {spare : Nat → Bool} {held : Bool} {d : DataW H} {p : List MemPlace} {A : Option Addr} {n c : Nat}
    (h : DataW.Trod enc Try.prog w base spare held 43 (.slice A n c) d p) : ∃ l : List Int, Words w w.heap.size (.slice A n c) l ∧ WIn l := by
  obtain ⟨fuel, hf⟩ := h
  rcases open_slice (cs := [.slice A n c]) Try.underlying43 hf with ⟨hcs, _⟩ | ⟨ad, len, cap, m, k, D, Pl, hcs, _, hl, hm, hmm, _, hi⟩
  · injection hcs with hcs
    injection hcs with e1 e2 e3
    subst e1 e2 e3
    exact ⟨[], no_words _ _, fun p hp => by simp at hp⟩
  · injection hcs with hcs
    injection hcs with e1 e2 e3
    subst e1 e2 e3
    by_cases hn : n = 0
    · subst hn
      exact ⟨[], ⟨_, _, rfl, Nat.zero_le _, fun h => absurd h (by simp)⟩, fun p hp => by simp at hp⟩
    · have hmn : n ≤ m := by rw [hmm]; split <;> omega
      have key : ∀ i, ∃ x : Int, In64 x ∧ (i < n → w.cell? (ad.add i) = some (.int .i64 x)) := fun i => by
        by_cases hlt : i < n
        · obtain ⟨cs', hc, ht'⟩ := hi i (by omega)
          rw [show Try.prog.cellsOf 3 = 1 by kernel_rfl] at hc
          obtain ⟨x0, e0, _, f0⟩ := DataW.trod_int Try.underlying3 ht'
          subst e0
          obtain ⟨_, hcl, hat⟩ := World.cells?_some hc
          have := hat 0 (by simp)
          exact ⟨x0, in64_of_wf f0, fun _ => by rw [Nat.mul_one] at this; simpa [Addr.add] using this⟩
        · exact ⟨0, by unfold In64; simp, fun h => absurd h hlt⟩
      obtain ⟨b, off, spot⟩ := ad
      have h0 := (Classical.choose_spec (key 0)).2 (by omega)
      have hs : spot = none := by
        have h00 : ∃ u, w.cell? ⟨b, off, spot⟩ = some u := ⟨_, by simpa [Addr.add] using h0⟩
        obtain ⟨u, h00⟩ := h00
        cases spot with
        | none => rfl
        | some x =>
          simp [World.cell?] at h00
          split at h00 <;> simp at h00
      subst hs
      have hbl : b < w.heap.size := by
        have := World.block_lt_of_cell? w _ h0
        simpa [Addr.add] using this
      refine ⟨(List.range n).map fun i => Classical.choose (key i), ⟨_, _, by simp; rfl, by simp; omega, fun _ => ⟨b, off, rfl, hbl, fun i hi => ?_⟩⟩, fun p hp => ?_⟩
      · have hi' : i < n := by simpa using hi
        simp only [List.getElem_map, List.getElem_range]
        have := (Classical.choose_spec (key i)).2 hi'
        rw [← this]
        unfold Addr.add
        split
        · rename_i h0; rw [h0]; rfl
        · rfl
      · obtain ⟨i, _, rfl⟩ := List.mem_map.1 hp
        exact (Classical.choose_spec (key i)).1
set_option maxRecDepth 100000 in
theorem words_of {H : Type} {enc : TypeId × Value → H} {w : World} {base : Nat} {spare : Nat → Bool} {held : Bool} {v : Value} {d : DataW H} {p : List MemPlace} {r : Reach} {b0 : Nat}
    (hv : Value.okWide Try.prog w r b0 43 v) (h : DataW.Trod enc Try.prog w base spare held 43 v d p) : ∃ l, Words w w.heap.size v l ∧ WIn l := by
  obtain ⟨a0, n0, c0, rfl⟩ := okWide_slice Try.underlying43 hv
  exact words_in h


theorem TW.full {w : World} {base g : Nat} {l : List Int} (hg : w.heap[g]? = some (.cells (l.map (Value.int .i64)).toArray 3 (0, 0))) (hb : base ≤ g) (hn : l.length ≤ maxLen) : TW w base l (.slice (some ⟨g, 0, none⟩) l.length l.length) :=
  ⟨_, _, rfl, by simp, .inr ⟨g, l.length, _, rfl, hb, hg, Nat.le_refl _, hn, by simp, by simp [List.take_of_length_le]⟩⟩
theorem TW.shape {w : World} {base : Nat} {l : List Int} {A : Option Addr} {n c : Nat} (h : TW w base l (.slice A n c)) (hpos : 0 < l.length) : ∃ g, A = some ⟨g, 0, none⟩ ∧ base ≤ g ∧ n = l.length ∧ g < w.heap.size := by
  obtain ⟨A', c', e, hown⟩ := h
  injection e with e1 e2 e3
  subst e1 e2 e3
  rcases hown.2 with ⟨_, h'⟩ | ⟨g, _, _, h', hq', hh, _⟩
  · omega
  · injection h' with h'
    exact ⟨g, h', hq', rfl, (Array.getElem?_eq_some_iff.1 hh).1⟩
theorem TW.cell {w : World} {base g : Nat} {l : List Int} {n c : Nat} (h : TW w base l (.slice (some ⟨g, 0, none⟩) n c)) {k : Nat} (hk : k < l.length) : w.cell? ⟨g, k, none⟩ = some (.int .i64 (l.getD k 0)) := by
  obtain ⟨A', c', e, hown⟩ := h
  injection e with e1 e2 e3
  subst e1 e2 e3
  rw [hown.cellAt k (by omega)]
  simp [hk]
theorem TW.frozen {w : World} {base g : Nat} {l : List Int} {n c : Nat} (h : TW w base l (.slice (some ⟨g, 0, none⟩) n c)) (k : Nat) : w.frozen? ⟨g, k, none⟩ = false := by
  obtain ⟨A', c', e, hown⟩ := h
  injection e with e1 e2 e3
  subst e1 e2 e3
  exact hown.frozenAt k
theorem TW.stored {w : World} {base g : Nat} {l : List Int} {n c : Nat} (h : TW w base l (.slice (some ⟨g, 0, none⟩) n c)) (k : Nat) (y : Int) : TW (w.setCell ⟨g, k, none⟩ (.int .i64 y)) base (l.set k y) (.slice (some ⟨g, 0, none⟩) n c) := by
  obtain ⟨A', c', e, hown⟩ := h
  injection e with e1 e2 e3
  subst e1 e2 e3
  refine ⟨some ⟨g, 0, none⟩, c, by simp, ?_⟩
  have := (hown.stored k (.int .i64 y)).1
  simpa [List.map_set] using this
theorem TW.len {w : World} {base : Nat} {l : List Int} {A : Option Addr} {n c : Nat} (h : TW w base l (.slice A n c)) : n = l.length := by
  obtain ⟨A', c', e, hown⟩ := h
  injection e
theorem TW.chg {w w' : World} {base : Nat} {l : List Int} {v : Value} {S : Nat → Prop} (h : TW w base l v) (hc : Chg S w w') (hs : ∀ k, base ≤ k → ¬ S k) : TW w' base l v :=
  h.kept fun k hk => hc.block k (h.own_lt hk) (hs k (h.block hk))

/-- make([]int, n) -/
theorem make_ints (n : Nat) (hn : n ≤ 1000000) (w : World) :
    (Instr.makeSlice 43 (.int .i64 (n : Int)) (.int .i64 (n : Int))).run Try.prog w = .ok (.slice (some ⟨w.heap.size, 0, none⟩) n n) (w.alloc (.cells ((List.replicate n (0 : Int)).map (Value.int .i64)).toArray 3)) := by
  have hinfo : (Try.prog.info? 3).map (fun i => (i.zero, i.size, i.bytes)) = some (some (.int .i64 0), 1, 8) := by kernel_rfl
  obtain ⟨i, hi, hzz⟩ := Option.map_eq_some_iff.1 hinfo
  simp only [Prod.mk.injEq] at hzz
  obtain ⟨hz, hs, hb⟩ := hzz
  have hr := run_make (P := Try.prog) w 43 3 i _ Try.underlying43 hi hz .i64 .i64 n n (by omega) (Int.le_refl _) (by rw [hb]; omega) (by omega)
  simp only [Int.toNat_natCast, hs] at hr
  have e : madeCells (Value.cells (.int .i64 0)) (n * 1) = ((List.replicate n (0 : Int)).map (Value.int .i64)).toArray := by
    apply Array.ext_getElem?
    intro j
    have hc : Value.cells (.int .i64 0) = #[.int .i64 0] := rfl
    rw [hc]
    by_cases hj : j < n
    · simp [madeCells, hj, Nat.mod_one]
    · rw [Array.getElem?_eq_none (by simp [madeCells]; omega), Array.getElem?_eq_none (by simp; omega)]
  rw [e] at hr
  exact hr


set_option maxRecDepth 100000 in
set_option maxHeartbeats 4000000 in
theorem ints_same {w : World} {Ba Bb : Nat} {sa sb : Value} {a b : List Int} (ha : Words w Ba sa a) (hb : Words w Bb sb b) :
    Calls Try.prog 38 #[sa, sb] w fun e w' => e = .returned (.bool (decide (a = b))) ∧ ∃ m, w' = w.drewN m := by
  obtain ⟨Aa, ca, rfl, ma, _⟩ := id ha
  obtain ⟨Ab, cb, rfl, mb, _⟩ := id hb
  obtain ⟨n, hn⟩ : ∃ n, a.length = n := ⟨_, rfl⟩
  obtain ⟨n2, hn2⟩ : ∃ n, b.length = n := ⟨_, rfl⟩
  have HN := Lib.hid hn; have HN2 := Lib.hid hn2
  rw [hn] at ma ha ⊢
  rw [hn2] at mb hb ⊢
  have HA := Lib.hid ha; have HB := Lib.hid hb
  have ma : n ≤ 9223372036854775807 := ma
  have mb : n2 ≤ 9223372036854775807 := mb
  obtain ⟨r, hr⟩ : ∃ r, decide (a = b) = r := ⟨_, rfl⟩
  rw [hr]
  have HR := Lib.hid hr
  clear ha hb hn hn2 hr
  by_cases hne : n = n2
  · subst hne
    go_enter Try.func38, Try.ntmps38
    go_wp2
    go_loopw [5] (fun u5 wr => ∃ k : Nat, k ≤ n ∧ u5 = .int .i64 k ∧ Hid (a.take k = b.take k) ∧ ∃ m, Hid (wr = w.drewN m)) (fun u5 _ => n - (intOf u5).toNat)
    case atStart => exact ⟨0, by omega, rfl, rfl, 0, rfl⟩
    case round =>
      obtain ⟨k, hk, rfl, HT, m, HW⟩ := hrel
      by_cases hlt : k < n
      · have hla : k < a.length := by rw [HN.out]; exact hlt
        have hlb : k < b.length := by rw [HN2.out]; exact hlt
        obtain ⟨ba, oa, rfl, _, rowa⟩ := word_row HA.out hla
        obtain ⟨bb, ob, rfl, _, rowb⟩ := word_row HB.out hlb
        have e1 : a.take (k + 1) = a.take k ++ [a[k]] := List.take_succ_eq_append_getElem hla
        have e2 : b.take (k + 1) = b.take k ++ [b[k]] := List.take_succ_eq_append_getElem hlb
        have hab : a = b → a[k] = b[k] := fun e => by subst e; rfl
        obtain ⟨x1, h1⟩ : ∃ p, a[k] = p := ⟨_, rfl⟩
        obtain ⟨x2, h2⟩ : ∃ p, b[k] = p := ⟨_, rfl⟩
        rw [h1] at rowa e1 hab
        rw [h2] at rowb e2 hab
        have E1 := Lib.hid e1; have E2 := Lib.hid e2; have HAB := Lib.hid hab
        have c1 : wr.cell? ⟨ba, oa + k, none⟩ = some (.int .i64 x1) := by rw [HW.out]; exact rowa
        have c3 : wr.cell? ⟨bb, ob + k, none⟩ = some (.int .i64 x2) := by rw [HW.out]; exact rowb
        clear h1 h2 e1 e2 hab rowa rowb hla hlb
        by_cases hx : x1 = x2
        · subst hx
          go_wp2
          go_quiet (fail)
          go_wp2
          go_roundw
          case rel => exact ⟨k + 1, by omega, by go_num, by rw [Hid, E1.out, E2.out, HT.out], m + nq, by rw [Hid, HW.out, World.drewN_drewN]⟩
          case measure => simp [intOf]; omega
        · have hrf : Hid (r = false) := by
            rw [Hid, ← HR.out]
            exact decide_eq_false (fun e => hx (HAB.out e))
          go_wp2
          go_quiet (fail)
          go_wp2
          go_ret
          exact ⟨by rw [hrf.out]; rfl, m + nq, by rw [HW.out, World.drewN_drewN]⟩
      · obtain rfl : n = k := by omega
        have e : a = b := by
          have h1 := HT.out
          rwa [List.take_of_length_le (by rw [HN.out]; exact Nat.le_refl _), List.take_of_length_le (by rw [HN2.out]; exact Nat.le_refl _)] at h1
        have hrt : Hid (r = true) := by rw [Hid, ← HR.out]; exact decide_eq_true e
        clear e
        go_wp2
        go_ret
        exact ⟨by rw [hrt.out]; rfl, m, HW.out⟩
  · have hrf : Hid (r = false) := by
      rw [Hid, ← HR.out]
      exact decide_eq_false (fun e => hne (by rw [← HN.out, ← HN2.out, e]))
    go_enter Try.func38, Try.ntmps38
    go_wp2
    go_ret
    exact ⟨by rw [hrf.out]; rfl, 0, rfl⟩

end View
end Go.Proofs.Ytkegfeghdnpajaa

/- opaque.all -/
namespace Go.Proofs.Ytkegfeghdnpajaa
open Go.RowKit Go.Bas Txs
namespace Srt

theorem evs_length (l : List Tx) : (evs l).length ≤ 2 * l.length := by
  induction l with
  | nil => simp [evs]
  | cons t r ih =>
    have e : evs (t :: r) = evOf t ++ evs r := rfl
    have h1 : (evOf t).length ≤ 2 := by
      unfold evOf
      rw [List.length_append]
      have a : (if t.fall && decide (0 < t.seen) then [(⟨t.seen, true, [(2, wrap64 (t.worker + 1))]⟩ : Ev)] else []).length ≤ 1 := by split <;> simp
      have b : (if storesB t then [(⟨t.stamp, false, t.writes⟩ : Ev)] else []).length ≤ 1 := by split <;> simp
      omega
    rw [e, List.length_append, List.length_cons]; omega
theorem evs_next {l : List Tx} {i : Nat} (h : i < l.length) : evs (l.take (i + 1)) = evs (l.take i) ++ evOf l[i] := by
  unfold evs; rw [List.take_succ_eq_append_getElem h, List.flatMap_append]; simp
theorem row_at {w : World} {A : Option Addr} {c : Nat} {l : List Tx} {B : Nat} (h : Many w B (.slice A l.length c) l) {k : Nat} (hk : k < l.length) : ∃ b off r q, A = some ⟨b, off, none⟩ ∧ b < B ∧ w.rangeAt b (off + k * 8) (row l[k] r q) ∧ Pairs w B r l[k].reads ∧ Pairs w B q l[k].writes := by
  obtain ⟨A', c', e, hm, hc⟩ := h
  obtain ⟨rfl, _, rfl⟩ : A = A' ∧ l.length = l.length ∧ c = c' := by simpa using e
  obtain ⟨b, off, rfl, hlt, hc⟩ := hc (by omega)
  obtain ⟨r, q, h1, h2, h3⟩ := hc k hk
  exact ⟨b, off, r, q, rfl, hlt, h1, h2, h3⟩
theorem txsize : (Try.prog.info? 91).map (·.size) = some 8 := by kernel_rfl

def flagPart (t : Tx) : List Ev := if t.fall && decide (0 < t.seen) then [⟨t.seen, true, [(2, wrap64 (t.worker + 1))]⟩] else []
def storePart (t : Tx) : List Ev := if storesB t then [⟨t.stamp, false, t.writes⟩] else []

theorem step1 {w wc wq w4 : World} {g : Nat} {u3 v4 : Value} {ds : List St} {es : List Ev} {y : St} {ev : Ev} (hq : ∀ k, k < wc.heap.size → wq.heap[k]? = wc.heap[k]?) (hqs : wc.heap.size ≤ wq.heap.size)
    (R3 : ORow wc g ds u3) (I3 : Items wc u3.ownBlock ds es) (B3 : Below g w wc) (hBq : Below g wc wq) (hgw : g ≤ wc.heap.size) (g4 : wq.grownBy w4 u3.ownBlock) (o4 : v4.ownBlock = u3.ownBlock ∨ v4.ownBlock = some wq.heap.size) (hit : Item wq u3.ownBlock y ev) :
    Items w4 v4.ownBlock (ds ++ [y]) (es ++ [ev]) ∧ Below g w w4 ∧ (∀ k, k < wc.heap.size → u3.ownBlock ≠ some k → w4.heap[k]? = wc.heap[k]?) ∧ wc.heap.size ≤ w4.heap.size := by
  have i1 : Items wq u3.ownBlock (ds ++ [y]) (es ++ [ev]) := (I3.kept hqs (fun b hb _ => hq b hb) (fun _ _ h => h)).snoc hit
  refine ⟨i1.kept g4.size (fun b hb hne => g4.block b hb (fun e => hne e.symm)) (fun b hb hne e => ?_), ?_, fun k hk hne => ?_, Nat.le_trans hqs g4.size⟩
  · rcases o4 with h | h
    · exact hne (h.symm.trans e)
    · rw [h] at e; injection e with e; omega
  · exact (B3.trans hBq).trans ((Chg.grown (S := fun k => g ≤ k) g4 (fun k hk => R3.block hk)).below (by omega) (fun k hk => hk))
  · rw [g4.block k (by omega) (fun e => hne e.symm)]; exact hq k hk

set_option maxRecDepth 100000 in
set_option maxHeartbeats 4000000 in
theorem all_any {w : World} {s : Value} {l : List Tx} (h : Many w w.heap.size s l) (hl : l.length ≤ 40) :
    Calls Try.prog 61 #[s] w fun e w' => ∃ v ds d, e = .returned v ∧ SV w' v d ∧ SS.Sorted lt d ∧ SS.Same lt ds d ∧ Items w' v.ownBlock ds (evs l) ∧ (∀ k, v.ownBlock = some k → w.heap.size ≤ k) ∧ d.length ≤ 80 ∧ Below w.heap.size w w' := by
  obtain ⟨A, c, rfl, hm, hc⟩ := id h
  have hM := Lib.hid h
  clear hc h
  obtain ⟨n, hn⟩ : ∃ n, l.length = n := ⟨_, rfl⟩
  obtain ⟨g, hg⟩ : ∃ g, w.heap.size = g := ⟨_, rfl⟩
  have hm : l.length ≤ 9223372036854775807 := hm
  have HN := Lib.hid hn
  rw [hg] at hM
  rw [hn] at hm hl ⊢
  rw [hg]
  clear hn
  have R0 : Hid (ORow w g [] (.slice none 0 0)) := ORow.nil _ _
  have I0 : Hid (Items w (Value.slice none 0 0).ownBlock [] (evs (l.take 0))) := Items.nil
  go_enter Try.func61, Try.ntmps61
  go_wp2
  go_loopw [3, 5, 8] (fun u3 _ u8 wr => ∃ (i : Nat) (ds : List St), i ≤ n ∧ u8 = .int .i64 i ∧ Hid (ORow wr g ds u3) ∧ Hid (Items wr u3.ownBlock ds (evs (l.take i))) ∧ Hid (Below g w wr)) (fun _ _ u8 _ => n - (intOf u8).toNat)
  case atStart => exact ⟨0, [], by omega, rfl, R0, I0, Below.refl _ _⟩
  case round =>
    clear R0 I0
    obtain ⟨i, ds, hi, rfl, HR, HI, HB⟩ := hrel
    have hsr : g ≤ wr.heap.size := by rw [← hg]; exact HB.out.size
    have hdl : ds.length ≤ 80 := by
      have h1 := HI.out.length
      have h2 := evs_length (l.take i)
      rw [List.length_take] at h2
      omega
    by_cases hlt : i < n
    · have hlen : i < l.length := by rw [HN.out]; exact hlt
      obtain ⟨b, off, r, q, rfl, hbB, hrow, hP6, hP7⟩ := row_at (hM.out.below HB.out) hlen
      obtain ⟨A6, c6, rfl, m6, _⟩ := id hP6
      obtain ⟨A7, c7, rfl, m7, _⟩ := id hP7
      have hnext := evs_next hlen
      obtain ⟨t, ht⟩ : ∃ t, l[i] = t := ⟨_, rfl⟩
      rw [ht] at hrow m6 m7 hP6 hP7 hnext
      have HX := Lib.hid hnext
      have HP7 := Lib.hid hP7
      clear hnext hP6 hP7 ‹0 < l[i].reads.length → _› ‹0 < l[i].writes.length → _› ht
      obtain ⟨n6, hn6⟩ : ∃ n6, t.reads.length = n6 := ⟨_, rfl⟩
      obtain ⟨n7, hn7⟩ : ∃ n7, t.writes.length = n7 := ⟨_, rfl⟩
      have HROW := Lib.hid hrow
      clear hrow
      rw [hn6, hn7] at HROW
      rw [hn7] at HP7
      have m6 : n6 ≤ 9223372036854775807 := by rw [← hn6]; exact m6
      have m7 : n7 ≤ 9223372036854775807 := by rw [← hn7]; exact m7
      have HN7 := Lib.hid hn7
      clear hn6 hn7
      obtain ⟨gb, hgb⟩ : ∃ gb, wr.heap.size = gb := ⟨_, rfl⟩
      rw [hgb] at hsr
      obtain ⟨w2, hw2⟩ : ∃ w2, wr.alloc (.cells #[.int .i64 0, .int .i64 0, .int .i64 0, .int .i64 0, .bool false, .bool false, .slice none 0 0, .slice none 0 0] 91) = w2 := ⟨_, rfl⟩
      have hg2 : Hid (w2.heap[gb]? = some (.cells #[.int .i64 0, .int .i64 0, .int .i64 0, .int .i64 0, .bool false, .bool false, .slice none 0 0, .slice none 0 0] 91 (0, 0))) := by rw [← hw2, ← hgb]; exact new_row _ _ _
      go_upto_region 5 with (first
        | (refine wpList_load_mid rfl 91 _ rfl b (off + i * 8) (by first | rfl | simp) [.int .i64 t.worker, .int .i64 t.how, .int .i64 t.seen, .int .i64 t.stamp, .bool t.fall, .bool t.sure, .slice A6 n6 c6, .slice A7 n7 c7] _ HROW.out Try.underlying91 rfl txsize ?r3)
        | (refine wpList_store_row rfl 91 _ _ rfl gb #[.int .i64 t.worker, .int .i64 t.how, .int .i64 t.seen, .int .i64 t.stamp, .bool t.fall, .bool t.sure, .slice A6 n6 c6, .slice A7 n7 c7] rfl rfl 91 #[.int .i64 0, .int .i64 0, .int .i64 0, .int .i64 0, .bool false, .bool false, .slice none 0 0, .slice none 0 0] hg2.out txsize rfl (by simp [Value.oneCell']) ?s3))
      obtain ⟨w3, hw3⟩ : ∃ w3, w2.setRow gb #[.int .i64 t.worker, .int .i64 t.how, .int .i64 t.seen, .int .i64 t.stamp, .bool t.fall, .bool t.sure, .slice A6 n6 c6, .slice A7 n7 c7] = w3 := ⟨_, rfl⟩
      have G3 : Hid (w3.heap[gb]? = some (.cells #[.int .i64 t.worker, .int .i64 t.how, .int .i64 t.seen, .int .i64 t.stamp, .bool t.fall, .bool t.sure, .slice A6 n6 c6, .slice A7 n7 c7] 91 (0, 0))) := by rw [← hw3]; exact setRow_same hg2.out
      have s2 : w2.heap.size = gb + 1 := by rw [← hw2, ← hgb]; simp
      have S3 : Hid (w3.heap.size = gb + 1) := by rw [Hid, ← hw3, Bas.setRow_size, s2]
      have K3 : Hid (∀ k, k < gb → w3.heap[k]? = wr.heap[k]?) := fun k hk => by
        rw [← hw3, Bas.setRow_other _ _ _ _ (by omega), ← hw2]; exact alloc_heap _ _ _ (by omega)
      have B3 : Hid (Below g w w3) := by
        rw [← hw3, ← hw2]; exact setRow_below (HB.out.alloc (by omega) _) hsr _
      rw [hw3]
      clear hw3 hw2 hg2 s2
      have R3 : Hid (ORow w3 g ds u3) := HR.out.kept fun k hk => K3.out k (by have := HR.out.own_lt hk; omega)
      have I3 : Hid (Items w3 u3.ownBlock ds (evs (l.take i))) := HI.out.kept (by rw [S3.out]; omega) (fun k hk _ => K3.out k (by omega)) (fun _ _ h => h)
      have O3 : Hid (∀ k, u3.ownBlock = some k → g ≤ k ∧ k < gb) := fun k hk => ⟨HR.out.block hk, by have := HR.out.own_lt hk; omega⟩
      have P3 : Hid (Pairs w3 g (.slice A7 n7 c7) t.writes) := by
        obtain ⟨A', c', e, hm', hc'⟩ := HP7.out
        refine ⟨A', c', e, hm', fun h0 => ?_⟩
        obtain ⟨b', off', h1, h2, h3⟩ := hc' h0
        have ek := K3.out b' (by omega)
        refine ⟨b', off', h1, h2, fun j hj => ?_⟩
        obtain ⟨z1, z2⟩ := h3 j hj
        refine ⟨?_, ?_⟩
        · rw [← z1]; simp [World.cell?, ek]
        · rw [← z2]; simp [World.cell?, ek]
      clear HR HI HB K3 HP7 HROW
      have q1 : ∀ j, w3.cell? ⟨gb, j, none⟩ = (#[.int .i64 t.worker, .int .i64 t.how, .int .i64 t.seen, .int .i64 t.stamp, .bool t.fall, .bool t.sure, .slice A6 n6 c6, .slice A7 n7 c7] : Array Value)[j]? := fun j => by rw [cell_of_row _ _ _ _ _ _ G3.out]
      have k0 := q1 0; have k2 := q1 2; have k4 := q1 4
      simp at k0 k2 k4
      clear q1
      obtain ⟨tf, htf⟩ : ∃ x, t.fall = x := ⟨_, rfl⟩
      obtain ⟨sn, hsn⟩ : ∃ x, t.seen = x := ⟨_, rfl⟩
      have HTF := Lib.hid htf; have HSN := Lib.hid hsn
      rw [htf] at k4
      rw [hsn] at k2
      clear htf hsn
      dsimp only [Act.put]
      go_cut [18] from 12 to 17 (fun s18 wx => ∃ tb, s18 = .bool tb ∧ Hid (tb = (tf && decide (0 < sn))) ∧ wx = w3)
      case first =>
        cases tf with
        | true =>
          by_cases h0 : 0 < sn
          · go_wp2_with fail
            go_meet
            exact ⟨true, rfl, by simp [Hid, h0], rfl⟩
          · go_wp2_with fail
            go_meet
            exact ⟨false, rfl, by simp [Hid, h0], rfl⟩
        | false =>
          go_wp2_with fail
          go_meet
          exact ⟨false, rfl, rfl, rfl⟩
      case rest =>
        obtain ⟨tb, rfl, HTB, rfl⟩ := hcut
        go_upto_if 18 with fail
        go_cut [3] from 19 to 29 (fun s3 wx => ∃ ds', Hid (ORow wx g ds' s3) ∧ Hid (Items wx s3.ownBlock ds' (evs (l.take i) ++ flagPart t)) ∧ Hid (Below g w wx) ∧ Hid (wx.heap[gb]? = some (.cells #[.int .i64 t.worker, .int .i64 t.how, .int .i64 t.seen, .int .i64 t.stamp, .bool t.fall, .bool t.sure, .slice A6 n6 c6, .slice A7 n7 c7] 91 (0, 0))) ∧ gb < wx.heap.size ∧ Hid (Pairs wx g (.slice A7 n7 c7) t.writes) ∧ ds'.length ≤ 81)
        case first =>
          have fp : flagPart t = if tb then [⟨t.seen, true, [(2, wrap64 (t.worker + 1))]⟩] else [] := by rw [HTB.out, ← HTF.out, ← HSN.out]; rfl
          have FP := Lib.hid fp
          clear fp
          cases tb
          · go_wp2_with fail
            go_meet
            exact ⟨ds, R3, by rw [Hid, FP.out]; simpa using I3.out, B3, G3, by rw [S3.out]; omega, P3, by omega⟩
          · have hp : wc.heap.size = gb + 1 := S3.out
            obtain ⟨wq, hwq⟩ : ∃ wq, (wc.alloc (.cells #[.int .i64 2, .int .i64 (wrap64 (t.worker + 1))] 93)).alloc (.cells #[.int .i64 sn, .bool true, .slice (some ⟨gb + 1, 0, none⟩) 1 1] 122) = wq := ⟨_, rfl⟩
            have hq : ∀ k, k < wc.heap.size → wq.heap[k]? = wc.heap[k]? := fun k hk => by
              rw [← hwq, alloc_heap _ _ _ (by simp; omega), alloc_heap _ _ _ hk]
            have hqs : wq.heap.size = gb + 3 := by rw [← hwq]; simp [hp]
            have hrowp : wq.heap[gb + 1]? = some (.cells #[.int .i64 2, .int .i64 (wrap64 (t.worker + 1))] 93 (0, 0)) := by
              rw [← hwq, alloc_heap _ _ _ (by simp; omega), ← hp]; exact new_row _ _ _
            have RQ : Hid (ORow wq g ds u3) := R3.out.kept fun k hk => hq k (by have := (O3.out k hk).2; omega)
            have BQ : Hid (Below g wc wq) := by rw [← hwq]; exact ((Below.refl _ _).alloc (by omega) _).alloc (by simp; omega) _
            have IT : Hid (Item wq u3.ownBlock ⟨sn, true, some ⟨gb + 1, 0, none⟩, 1, 1⟩ ⟨t.seen, true, [(2, wrap64 (t.worker + 1))]⟩) := by
              refine ⟨HSN.out.symm, rfl, some ⟨gb + 1, 0, none⟩, 1, rfl, by simp [maxLen], fun _ => ⟨gb + 1, 0, rfl, by omega, fun e => by have := (O3.out (gb + 1) e).2; omega, fun j hj => ?_⟩⟩
              obtain rfl : j = 0 := by simpa using hj
              simp only [cell_of_row _ _ _ _ _ _ hrowp]
              exact ⟨rfl, rfl⟩
            have HQ := Lib.hid hq
            have HQS := Lib.hid hqs
            clear hq hqs hrowp
            subst hwq
            go_wp2_with (first
              | (refine wpList_pr rfl _ rfl _ _ rfl ?_)
              | (refine wpList_st rfl _ rfl _ _ _ rfl ?_)
              | (at_builtin; refine wpList_adds rfl _ _ rfl g ds u3 rfl RQ.out (by omega) (by rw [HQS.out]; omega) _ ⟨sn, true, some ⟨gb + 1, 0, none⟩, 1, 1⟩ rfl (new_row _ _ _) ?_; intro v4 w4 t4 g4 o4
                 have ST := step1 HQ.out (by rw [HQS.out, S3.out]; omega) R3.out I3.out B3.out BQ.out (by omega) g4 o4 IT.out
                 have T4 := Lib.hid t4
                 have I4 := Lib.hid ST.1
                 have B4 := Lib.hid ST.2.1
                 have K4 := Lib.hid ST.2.2.1
                 have S4 := Lib.hid ST.2.2.2
                 clear t4 g4 o4 ST IT BQ RQ HQ HQS))
            go_meet
            have O5 : u3.ownBlock ≠ some gb := fun e => by have := (O3.out gb e).2; omega
            refine ⟨ds ++ [_], T4, by rw [Hid, FP.out]; exact I4.out, B4, by rw [Hid, K4.out gb (by omega) O5]; exact G3.out, by have := S4.out; omega, ?_, by rw [List.length_append]; simp; omega⟩
            obtain ⟨A', c', e, hm', hc'⟩ := P3.out
            refine ⟨A', c', e, hm', fun h0 => ?_⟩
            obtain ⟨b', off', h1, h2, h3⟩ := hc' h0
            have ek := K4.out b' (by omega) (fun e => by have := (O3.out b' e).1; omega)
            refine ⟨b', off', h1, h2, fun j hj => ?_⟩
            obtain ⟨z1, z2⟩ := h3 j hj
            refine ⟨?_, ?_⟩
            · rw [← z1]; simp [World.cell?, ek]
            · rw [← z2]; simp [World.cell?, ek]
        case rest =>
          obtain ⟨ds', R5, I5, B5, G5, hg5, P5, hdl5⟩ := hcut
          clear R3 I3 O3 P3 G3 B3 k0 k2 k4 S3 HTB
          obtain ⟨sb, hsb⟩ : ∃ sb, (t.sure && decide (0 < n7)) = sb := ⟨_, rfl⟩
          have RT := fun w' => stores_any t.worker t.how t.seen t.stamp t.fall t.sure A6 n6 c6 A7 n7 c7 w'
          simp only [hsb] at RT
          have sp : storePart t = if sb then [⟨t.stamp, false, t.writes⟩] else [] := by unfold storePart storesB; rw [HN7.out, hsb]
          have SP := Lib.hid sp
          clear sp hsb
          obtain ⟨p, hp⟩ : ∃ p, wc.heap.size = p := ⟨_, rfl⟩
          have HP := Lib.hid hp
          rw [hp] at hg5
          clear hp
          go_upto_if 31 with (first
            | (refine wpList_load_row rfl 91 _ rfl gb rfl 91 _ (0, 0) _ G5.out Try.underlying91 rfl txsize ?_)
            | (go_at_call 84; refine (RT _).mono ?_; rintro e w5 ⟨rfl, hb5⟩))
          have G6 : w5.heap[gb]? = _ := (hb5.block gb (by rw [HP.out]; exact hg5)).trans G5.out
          have k3 : w5.cell? ⟨gb, 3, none⟩ = some (.int .i64 t.stamp) := by rw [cell_of_row _ _ _ _ _ _ G6]; rfl
          have k7 : w5.cell? ⟨gb, 7, none⟩ = some (.slice A7 n7 c7) := by rw [cell_of_row _ _ _ _ _ _ G6]; rfl
          have s5 := hb5.size
          rw [HP.out] at hb5 s5
          have R6 : Hid (ORow w5 g ds' u3) := R5.out.kept fun k hk => hb5.block k (by have := R5.out.own_lt hk; rw [HP.out] at this; exact this)
          have I6 : Hid (Items w5 u3.ownBlock ds' (evs (l.take i) ++ flagPart t)) := I5.out.kept (by rw [HP.out]; exact s5) (fun b hb _ => hb5.block b (by rw [HP.out] at hb; exact hb)) (fun _ _ h => h)
          have B6 : Hid (Below g w w5) := B5.out.trans (hb5.mono (by omega))
          have P6 : Hid (Pairs w5 g (.slice A7 n7 c7) t.writes) := P5.out.below (hb5.mono (by omega))
          clear RT G6 G5 R5 I5 B5 P5 hb5
          cases sb
          · have FIN : Hid (Items w5 u3.ownBlock ds' (evs (l.take (i + 1)))) := by
              have e : evs (l.take (i + 1)) = evs (l.take i) ++ flagPart t := by
                rw [HX.out, show evOf t = flagPart t ++ storePart t from rfl, SP.out]; simp
              rw [Hid, e]; exact I6.out
            clear I6
            go_wp2
            go_roundw
            case rel => exact ⟨i + 1, ds', by omega, by go_num, R6, FIN, B6⟩
            case measure => simp [intOf]; omega
          · obtain ⟨p5, hp5⟩ : ∃ p5, w5.heap.size = p5 := ⟨_, rfl⟩
            rw [hp5] at s5
            obtain ⟨wq, hwq⟩ : ∃ wq, w5.alloc (.cells #[.int .i64 t.stamp, .bool false, .slice A7 n7 c7] 122) = wq := ⟨_, rfl⟩
            have hq : ∀ k, k < w5.heap.size → wq.heap[k]? = w5.heap[k]? := fun k hk => by rw [← hwq]; exact alloc_heap _ _ _ hk
            have hqs : wq.heap.size = p5 + 1 := by rw [← hwq]; simp [hp5]
            have RQ : Hid (ORow wq g ds' u3) := R6.out.kept fun k hk => hq k (R6.out.own_lt hk)
            have BQ : Hid (Below g w5 wq) := by rw [← hwq]; exact (Below.refl _ _).alloc (by omega) _
            have IT : Hid (Item wq u3.ownBlock ⟨t.stamp, false, A7, n7, c7⟩ ⟨t.stamp, false, t.writes⟩) := by
              refine ⟨rfl, rfl, PairsO.of (P6.out.below (by rw [← hwq]; exact (Below.refl _ _).alloc (by omega) _)) (by omega) (fun b hb => R6.out.block hb)⟩
            have HQ := Lib.hid hq
            have HQS := Lib.hid hqs
            clear hq hqs
            subst hwq
            go_wp2_with (first
              | (refine wpList_st rfl _ rfl _ _ _ rfl ?_)
              | (at_builtin; refine wpList_adds rfl _ _ rfl g ds' u3 rfl RQ.out (by omega) (by rw [HQS.out]; omega) _ ⟨t.stamp, false, A7, n7, c7⟩ rfl (new_row _ _ _) ?_; intro v4 w4 t4 g4 o4
                 have ST := step1 HQ.out (by rw [HQS.out, hp5]; omega) R6.out I6.out B6.out BQ.out (by omega) g4 o4 IT.out
                 have T4 := Lib.hid t4
                 have I4 := Lib.hid ST.1
                 have B4 := Lib.hid ST.2.1
                 clear t4 g4 o4 ST IT BQ RQ HQ HQS))
            have FIN : Hid (Items w4 v4.ownBlock (ds' ++ [⟨t.stamp, false, A7, n7, c7⟩]) (evs (l.take (i + 1)))) := by
              have e : evs (l.take (i + 1)) = evs (l.take i) ++ flagPart t ++ [⟨t.stamp, false, t.writes⟩] := by
                rw [HX.out, show evOf t = flagPart t ++ storePart t from rfl, SP.out]; simp
              rw [Hid, e]; exact I4.out
            clear I4
            go_roundw
            case rel => exact ⟨i + 1, _, by omega, by go_num, T4, FIN, B4⟩
            case measure => simp [intOf]; omega
    · obtain rfl : n = i := by omega
      have FI : Hid (Items wr u3.ownBlock ds (evs l)) := by
        have := HI.out
        rwa [List.take_of_length_le (by rw [HN.out]; exact Nat.le_refl _)] at this
      clear HI
      have RT := sort_any HR.out.sv (by omega)
      go_wp2_with (first
        | (go_at_call 85; refine RT.mono ?_; rintro _ w5 ⟨rfl, d', r1, r2, r3, r4, r5⟩))
      go_ret
      exact ⟨_, ds, d', rfl, r4, r1, r2, FI.out.kept r5.size (fun b hb hne => r5.block b hb hne) (fun _ _ h => h), fun k hk => HR.out.block hk, by rw [r3]; exact hdl, HB.out.trans (r5.below hsr (fun k hk => HR.out.block hk))⟩

end Srt
end Go.Proofs.Ytkegfeghdnpajaa

/- what was stored, in order, in plain -/
namespace Go.Proofs.Ytkegfeghdnpajaa
open Go.RowKit Go.Bas Txs
namespace Srt

/-- of this stamp, a flag or not -/
def atF (a : Int) (f : Bool) (e : Ev) : Bool := decide (e.stamp = a) && (e.flag == f)
theorem atF_iff {a : Int} {f : Bool} {e : Ev} : atF a f e = true ↔ e.stamp = a ∧ e.flag = f := by unfold atF; simp
/-- no later one belongs ahead of an earlier one -/
def Ordered (l : List Ev) : Prop := l.Pairwise fun x y => ¬ (y.stamp < x.stamp ∨ (y.stamp = x.stamp ∧ y.flag = true ∧ x.flag = false))
/-- the same things, of each stamp and kind in the same order -/
def Alike (l r : List Ev) : Prop := ∀ a f, r.filter (atF a f) = l.filter (atF a f)
theorem Alike.mem {l r : List Ev} (h : Alike l r) {e : Ev} : e ∈ r ↔ e ∈ l := by
  have e1 : e ∈ r ↔ e ∈ r.filter (atF e.stamp e.flag) := by simp [List.mem_filter, atF]
  have e2 : e ∈ l ↔ e ∈ l.filter (atF e.stamp e.flag) := by simp [List.mem_filter, atF]
  rw [e1, h, ← e2]

theorem PairsO.unique {w : World} {o : Option Nat} {s : Value} {l l' : List (Int × Int)} (h : PairsO w o s l) (g : PairsO w o s l') : l = l' := by
  obtain ⟨A, c, rfl, _, hc⟩ := h
  obtain ⟨A', c', e, _, gc⟩ := g
  simp only [Value.slice.injEq] at e
  obtain ⟨rfl, hl, rfl⟩ := e
  apply List.ext_getElem hl
  intro i h1 h2
  obtain ⟨b, off, rfl, _, _, hh⟩ := hc (by omega)
  obtain ⟨b', off', e, _, _, gg⟩ := gc (by omega)
  simp only [Option.some.injEq, Addr.mk.injEq] at e
  obtain ⟨rfl, rfl, _⟩ := e
  obtain ⟨a1, a2⟩ := hh i h1
  obtain ⟨b1, b2⟩ := gg i h2
  rw [b1] at a1
  rw [b2] at a2
  simp only [Option.some.injEq, Value.int.injEq, true_and] at a1 a2
  exact Prod.ext a1.symm a2.symm

open Classical in
noncomputable def plainOf (w : World) (o : Option Nat) (x : St) : Ev := ⟨x.stamp, x.flag, if h : ∃ ps, PairsO w o (.slice x.pa x.pn x.pc) ps then h.choose else []⟩
theorem plainOf_item {w : World} {o : Option Nat} {x : St} {e : Ev} (h : Item w o x e) : plainOf w o x = e := by
  obtain ⟨h1, h2, h3⟩ := h
  have hex : ∃ ps, PairsO w o (.slice x.pa x.pn x.pc) ps := ⟨_, h3⟩
  unfold plainOf
  rw [dif_pos hex]
  obtain ⟨a, b, c⟩ := e
  simp only [Ev.mk.injEq]
  exact ⟨h1, h2, hex.choose_spec.unique h3⟩
theorem plainOf_map {w : World} {o : Option Nat} {xs : List St} {es : List Ev} (h : Items w o xs es) : xs.map (plainOf w o) = es := by
  induction h with
  | nil => rfl
  | cons h1 _ ih => rw [List.map_cons, plainOf_item h1, ih]
theorem Items.each {w : World} {o : Option Nat} {xs : List St} {es : List Ev} (h : Items w o xs es) : ∀ x ∈ xs, Item w o x (plainOf w o x) := by
  induction h with
  | nil => intro x hx; cases hx
  | cons h1 _ ih =>
    intro x hx
    rcases List.mem_cons.1 hx with rfl | hx
    · rw [plainOf_item h1]; exact h1
    · exact ih x hx
theorem Items.of_each {w : World} {o : Option Nat} : ∀ (xs : List St), (∀ x ∈ xs, Item w o x (plainOf w o x)) → Items w o xs (xs.map (plainOf w o))
  | [], _ => .nil
  | x :: r, h => .cons (h x (by simp)) (Items.of_each r fun y hy => h y (by simp [hy]))

theorem eqv_at (a : Int) (f : Bool) (x : St) : SS.eqv lt ⟨a, f, none, 0, 0⟩ x = (decide (x.stamp = a) && (x.flag == f)) := by
  apply Bool.eq_iff_iff.2
  rw [SS.eqv_iff, lt_false, lt_false]
  simp only [Bool.and_eq_true, decide_eq_true_eq, beq_iff_eq]
  constructor
  · rintro ⟨h1, h2⟩
    have : x.stamp = a := by
      rcases Int.lt_trichotomy x.stamp a with h | h | h
      · exact absurd (.inl h) h2
      · exact h
      · exact absurd (.inl h) h1
    subst this
    refine ⟨rfl, ?_⟩
    cases hf : x.flag <;> cases f <;> simp_all
  · rintro ⟨rfl, rfl⟩
    constructor
    · rintro (h | ⟨_, h, g⟩)
      · omega
      · rw [h] at g; cases g
    · rintro (h | ⟨_, h, g⟩)
      · omega
      · rw [h] at g; cases g

/-- what was sorted, in plain -/
theorem sorted_plain {w : World} {o : Option Nat} {ds d : List St} {es : List Ev} (h : Items w o ds es) (hs : SS.Same lt ds d) (hd : SS.Sorted lt d) : ∃ L, Items w o d L ∧ Ordered L ∧ Alike es L := by
  refine ⟨d.map (plainOf w o), Items.of_each d fun x hx => h.each x ((hs.mem lt_swo).1 hx), ?_, fun a f => ?_⟩
  · unfold Ordered
    rw [List.pairwise_map]
    exact hd.imp fun {x y} hxy => by rw [lt_false] at hxy; exact hxy
  · rw [← plainOf_map h, List.filter_map, List.filter_map]
    have e : (atF a f ∘ plainOf w o) = SS.eqv lt ⟨a, f, none, 0, 0⟩ := by
      funext x
      rw [eqv_at]
      rfl
    rw [e, hs]

theorem filter_none {p : Ev → Bool} : ∀ {l : List Ev}, (∀ e ∈ l, p e = false) → l.filter p = []
  | [], _ => rfl
  | x :: r, h => by rw [List.filter_cons, if_neg (by rw [h x (by simp)]; decide)]; exact filter_none fun e he => h e (by simp [he])
theorem Ordered.ge {x : Ev} {r : List Ev} (h : Ordered (x :: r)) : ∀ e ∈ r, x.stamp ≤ e.stamp := fun e he => by
  have := (List.pairwise_cons.1 h).1 e he
  apply Int.not_lt.1
  exact fun hh => this (.inl hh)

/-- up to a stamp: what is below it, its flags, its stores -/
theorem split_at {L : List Ev} (h : Ordered L) (a : Int) : L.filter (fun e => decide (e.stamp ≤ a)) = L.filter (fun e => decide (e.stamp < a)) ++ L.filter (atF a true) ++ L.filter (atF a false) := by
  induction L with
  | nil => rfl
  | cons x r ih =>
    have hr := ih (List.pairwise_cons.1 h).2
    have hge := h.ge
    rcases Int.lt_trichotomy x.stamp a with c | c | c
    · have f1 : atF a true x = false := by unfold atF; simp; omega
      have f2 : atF a false x = false := by unfold atF; simp; omega
      rw [List.filter_cons, List.filter_cons, List.filter_cons, List.filter_cons, if_pos (by simp; omega), if_pos (by simp; omega), f1, f2, hr]
      simp
    · have n1 : r.filter (fun e => decide (e.stamp < a)) = [] := filter_none fun e he => by have := hge e he; simp; omega
      cases hf : x.flag with
      | true =>
        have f1 : atF a true x = true := atF_iff.2 ⟨c, hf⟩
        have f2 : atF a false x = false := by unfold atF; simp [hf]
        rw [List.filter_cons, List.filter_cons, List.filter_cons, List.filter_cons, if_pos (by simp; omega), if_neg (by simp; omega), f1, f2, hr, n1]
        simp
      | false =>
        have f1 : atF a true x = false := by unfold atF; simp [hf]
        have f2 : atF a false x = true := atF_iff.2 ⟨c, hf⟩
        have n2 : r.filter (atF a true) = [] := filter_none fun e he => by
          have h1 := (List.pairwise_cons.1 h).1 e he
          apply Bool.eq_false_iff.2
          intro hh
          obtain ⟨h2, h3⟩ := atF_iff.1 hh
          exact h1 (.inr ⟨by omega, h3, hf⟩)
        rw [List.filter_cons, List.filter_cons, List.filter_cons, List.filter_cons, if_pos (by simp; omega), if_neg (by simp; omega), f1, f2, hr, n1, n2]
        simp
    · have f1 : atF a true x = false := by unfold atF; simp; omega
      have f2 : atF a false x = false := by unfold atF; simp; omega
      rw [List.filter_cons, List.filter_cons, List.filter_cons, List.filter_cons, if_neg (by simp; omega), if_neg (by simp; omega), f1, f2, hr]
      simp
theorem take_le {L : List Ev} (h : Ordered L) (s : Int) : L.takeWhile (fun e => decide (e.stamp ≤ s)) = L.filter (fun e => decide (e.stamp ≤ s)) := by
  induction L with
  | nil => rfl
  | cons x r ih =>
    by_cases c : x.stamp ≤ s
    · rw [List.takeWhile_cons, List.filter_cons, if_pos (by simpa using c), if_pos (by simpa using c), ih (List.pairwise_cons.1 h).2]
    · rw [List.takeWhile_cons, List.filter_cons, if_neg (by simpa using c), if_neg (by simpa using c)]
      exact (filter_none fun e he => by have := h.ge e he; simp; omega).symm

/-- writes over words -/
def putW (w : List Int) (ps : List (Int × Int)) : List Int := ps.foldl (fun w p => w.set p.1.toNat p.2) w
def app (w : List Int) (es : List Ev) : List Int := es.foldl (fun w e => putW w e.pairs) w
theorem app_append (w : List Int) (a b : List Ev) : app w (a ++ b) = app (app w a) b := by simp [app]
theorem putW_length (ps : List (Int × Int)) : ∀ w : List Int, (putW w ps).length = w.length := by
  induction ps with
  | nil => intro w; rfl
  | cons p r ih => intro w; show (putW (w.set _ _) r).length = _; rw [ih]; simp
theorem app_length (es : List Ev) : ∀ w : List Int, (app w es).length = w.length := by
  induction es with
  | nil => intro w; rfl
  | cons p r ih => intro w; show (app (putW w _) r).length = _; rw [ih, putW_length]

/-- what the document's loop has at a stamp -/
theorem app_at {E L : List Ev} (hO : Ordered L) (hA : Alike E L) (w : List Int) (a : Int) :
    app (app (app w (L.filter (fun e => decide (e.stamp < a)))) (E.filter (atF a true))) (E.filter (atF a false)) = app w (L.filter (fun e => decide (e.stamp ≤ a))) := by
  rw [split_at hO, app_append, app_append, hA, hA]
theorem below_next {L : List Ev} {a b : Int} (h : ∀ e ∈ L, a < e.stamp → b ≤ e.stamp) (hab : a < b) : L.filter (fun e => decide (e.stamp < b)) = L.filter (fun e => decide (e.stamp ≤ a)) :=
  List.filter_congr fun e he => by
    have := h e he
    by_cases c : e.stamp ≤ a
    · simp [c]; omega
    · simp [c]; omega

end Srt
end Go.Proofs.Ytkegfeghdnpajaa

/- slices.Clone of words; the closures -/
namespace Go.Proofs.Ytkegfeghdnpajaa
open Go.RowKit Go.Bas Txs IMap_ View
namespace Srt

set_option maxRecDepth 100000 in
theorem clone_any {w : World} {B : Nat} {s : Value} {l : List Int} (h : Words w B s l) (hB : B ≤ w.heap.size) (hpos : 0 < l.length) (hn : l.length ≤ 10000) :
    Calls Try.prog 88 #[s] w fun e w' => ∃ v, e = .returned v ∧ TW w' w.heap.size l v ∧ Below w.heap.size w w' := by
  obtain ⟨A, c, rfl, _, hc⟩ := id h
  obtain ⟨b, off, rfl, hb, _⟩ := hc hpos
  obtain ⟨g, hg⟩ : ∃ g, w.heap.size = g := ⟨_, rfl⟩
  obtain ⟨n, hnn⟩ : ∃ n, l.length = n := ⟨_, rfl⟩
  rw [hnn] at h hn ⊢
  obtain ⟨w2, hw2⟩ : ∃ w2, w.alloc (.cells #[] 3) = w2 := ⟨_, rfl⟩
  have T2 : Hid (TW w2 g [] (.slice (some ⟨g, 0, none⟩) 0 0)) := by have := TW.made w; rw [hw2, hg] at this; exact this
  have B2 : Hid (Below g w w2) := by rw [← hw2]; exact (Below.refl _ _).alloc (by omega) _
  have s2 : w2.heap.size = g + 1 := by rw [← hw2, ← hg]; simp
  have HW2 : Hid (Words w2 B (.slice (some ⟨b, off, none⟩) n c) l) := h.below (B2.out.mono (by omega))
  have S2 := Lib.hid s2
  rw [hg]
  rw [hg] at hB
  clear h hc s2
  have hnil := Lib.run_eql_slice_nil (P := Try.prog) w 43 3 (some ⟨b, off, none⟩) n c 0 0 Try.underlying43
  go_enter Try.func88, Try.ntmps88
  go_wp2_with (first
    | (at_builtin; refine wpList_addwords rfl _ _ rfl g [] (.slice (some ⟨g, 0, none⟩) 0 0) rfl T2.out (by simp) (by rw [S2.out]; omega) B l _ _ _ rfl HW2.out (by omega) ?_; intro v3 w3 t3 g3 o3))
  go_ret
  exact ⟨_, rfl, by simpa using t3, B2.out.trans ((Chg.grown (S := fun k => g ≤ k) g3 (fun k hk => by simp [Value.ownBlock] at hk; omega)).below (by rw [S2.out]; omega) (fun k hk => hk))⟩

end Srt
end Go.Proofs.Ytkegfeghdnpajaa

/- opaque.upTo -/
namespace Go.Proofs.Ytkegfeghdnpajaa
open Go.RowKit Go.Bas Txs IMap_ View
namespace Srt

theorem Items.get {w : World} {o : Option Nat} {xs : List St} {es : List Ev} (h : Items w o xs es) : ∀ (k : Nat) (h1 : k < xs.length) (h2 : k < es.length), Item w o xs[k] es[k] := by
  induction h with
  | nil => intro k h1; simp at h1
  | cons h1 _ ih =>
    intro k k1 k2
    cases k with
    | zero => exact h1
    | succ k => exact ih k (by simpa using k1) (by simpa using k2)
theorem taken {p : Ev → Bool} : ∀ {L : List Ev} {k : Nat} (hk : k < L.length), (∀ e ∈ L.take k, p e = true) → p L[k] = false → L.takeWhile p = L.take k
  | x :: r, 0, _, _, h => by rw [List.takeWhile_cons, if_neg (by simpa using h)]; rfl
  | x :: r, k + 1, hk, h1, h2 => by
    rw [List.takeWhile_cons, if_pos (h1 x (by simp)), List.take_succ_cons, taken (k := k) (by simpa using hk) (fun e he => h1 e (by simp [he])) (by simpa using h2)]
theorem taken_all {p : Ev → Bool} : ∀ {L : List Ev}, (∀ e ∈ L, p e = true) → L.takeWhile p = L
  | [], _ => rfl
  | x :: r, h => by rw [List.takeWhile_cons, if_pos (h x (by simp)), taken_all fun e he => h e (by simp [he])]
theorem app_next {words : List Int} {L : List Ev} {k : Nat} (hk : k < L.length) : app words (L.take (k + 1)) = putW (app words (L.take k)) L[k].pairs := by
  rw [List.take_succ_eq_append_getElem hk, app_append]; rfl
theorem putW_next {words : List Int} {ps : List (Int × Int)} {j : Nat} (hj : j < ps.length) : putW words (ps.take (j + 1)) = (putW words (ps.take j)).set ps[j].1.toNat ps[j].2 := by
  unfold putW
  rw [List.take_succ_eq_append_getElem hj, List.foldl_append]; rfl
theorem stsize : (Try.prog.info? 122).map (·.size) = some 3 := size
theorem prsize : (Try.prog.info? 93).map (·.size) = some 2 := by kernel_rfl
theorem PairsO.below {w w' : World} {o : Option Nat} {s : Value} {l : List (Int × Int)} (h : PairsO w o s l) (hb : Below w.heap.size w w') : PairsO w' o s l :=
  h.kept hb.size (fun b hb' _ => hb.block b hb') (fun _ _ h => h)

set_option maxRecDepth 100000 in
set_option maxHeartbeats 4000000 in
theorem upTo_state {w : World} {B : Nat} {s v : Value} {words : List Int} {d : List St} {L : List Ev} {o : Option Nat} {cb : Nat} (p : Int → Bool) (hW : Words w B s words) (hB : B ≤ w.heap.size) (hpos : 0 < words.length) (hn : words.length ≤ 1000)
    (hV : SV w v d) (hdn : d.length ≤ 1000) (hI : Items w o d L) (hfit : ∀ e ∈ L, ∀ q ∈ e.pairs, 0 ≤ q.1 ∧ q.1 < words.length)
    (hL : ∀ w' a, Below w.heap.size w w' → Calls Try.prog 67 #[.int .i64 a, .pointer (some ⟨cb, 0, none⟩)] w' fun e w'' => e = .returned (.bool (p a)) ∧ Below w'.heap.size w' w'') :
    Calls Try.prog 63 #[s, v, .func (.func 67) #[] #[.pointer (some ⟨cb, 0, none⟩)]] w fun e w' => ∃ v', e = .returned v' ∧ TW w' w.heap.size (app words (L.takeWhile fun e => p e.stamp)) v' ∧ Below w.heap.size w w' := by
  have hrun := callFunc_run Try.func67 (by kernel_rfl) (by kernel_rfl)
  obtain ⟨g, hg⟩ : ∃ g, w.heap.size = g := ⟨_, rfl⟩
  have CL := clone_any hW hB hpos (by omega)
  have hlen := hI.length
  rw [hg] at CL hL ⊢
  have HL := Lib.hid hL
  have HI := Lib.hid hI
  have HFIT := Lib.hid hfit
  have HG := Lib.hid hg
  clear hL hI hfit hW hB
  rcases hV with ⟨rfl, rfl⟩ | ⟨gd, cap, rfl, hS⟩
  · obtain rfl : L = [] := List.eq_nil_of_length_eq_zero (by simpa using hlen.symm)
    go_enter Try.func63, Try.ntmps63
    go_wp2
    go_step3
    go_wp2_with (first
      | (go_at_call 88; refine CL.mono ?_; rintro e w2 ⟨vW, rfl, t2, b2⟩))
    go_step3
    go_wp2
    go_loopw [9, 11, 16] (fun _ _ u16 wr => u16 = .int .i64 0 ∧ wr = w2) (fun _ _ _ _ => 0)
    case atStart => exact ⟨rfl, rfl⟩
    case round =>
      obtain ⟨rfl, rfl⟩ := hrel
      go_wp2
      try rw [Exit.noGoto_ret]
      go_ret
      exact ⟨_, rfl, t2, b2⟩
  · obtain ⟨N, hN⟩ : ∃ N, d.length = N := ⟨_, rfl⟩
    have HN := Lib.hid hN
    have HLN : Hid (L.length = N) := by rw [Hid, ← hlen]; exact hN
    have hSg : gd < g := by rw [← hg]; exact hS.1
    rw [hN] at hdn
    have HS := Lib.hid hS
    rw [hN]
    clear hN hlen hS hg
    obtain ⟨nw, hnw⟩ : ∃ nw, words.length = nw := ⟨_, rfl⟩
    have HNW := Lib.hid hnw
    rw [hnw] at hpos hn
    clear hnw
    go_enter Try.func63, Try.ntmps63
    go_wp2
    go_step3
    go_wp2_with (first
      | (go_at_call 88; refine CL.mono ?_; rintro e w2 ⟨vW, rfl, t2, b2⟩))
    go_step3
    go_wp2
    obtain ⟨AW, cW, rfl, -⟩ := id t2
    obtain ⟨q, rfl, hq1, -, hq2⟩ := t2.shape (by rw [HNW.out]; exact hpos)
    rw [HNW.out] at t2 ⊢
    have T2 : Hid (TW w2 g (app words (L.take 0)) (.slice (some ⟨q, 0, none⟩) nw cW)) := t2
    have B2 := Lib.hid b2
    clear t2 b2 CL
    go_loopw [9, 11, 16] (fun _ _ u16 wr => ∃ k : Nat, k ≤ N ∧ u16 = .int .i64 k ∧ Hid (∀ e ∈ L.take k, p e.stamp = true) ∧ Hid (TW wr g (app words (L.take k)) (.slice (some ⟨q, 0, none⟩) nw cW)) ∧ Hid (Below g w wr)) (fun _ _ u16 _ => N - (intOf u16).toNat)
    case atStart => exact ⟨0, by omega, rfl, fun e he => by simp at he, T2, B2⟩
    case round =>
      clear T2 B2
      obtain ⟨k, hk, rfl, HA, HT, HB⟩ := hrel
      by_cases hlt : k < N
      · have hkd : k < d.length := by rw [HN.out]; exact hlt
        have hkl : k < L.length := by rw [HLN.out]; exact hlt
        have hrow := ((HS.out.below (HG.out ▸ HB.out) (by rw [HG.out]; exact hSg)).2 k hkd).1
        have hit := HI.out.get k hkd hkl
        obtain ⟨x, hx⟩ : ∃ x, d[k] = x := ⟨_, rfl⟩
        obtain ⟨ev, hev⟩ : ∃ ev, L[k] = ev := ⟨_, rfl⟩
        rw [hx, hev] at hit
        rw [hx] at hrow
        obtain ⟨st, fl, pa, pn, pc⟩ := x
        have HROW : Hid (wr.rangeAt gd (k * 3) [.int .i64 st, .bool fl, .slice pa pn pc]) := hrow
        have HIT := Lib.hid hit
        have HEV := Lib.hid hev
        clear hrow hit hx hev
        obtain ⟨gb, hgb⟩ : ∃ gb, wr.heap.size = gb := ⟨_, rfl⟩
        have hgg : g ≤ gb := by rw [← hgb, ← HG.out]; exact HB.out.size
        obtain ⟨w2', hw2⟩ : ∃ w2', wr.alloc (.cells #[.int .i64 0, .bool false, .slice none 0 0] 122) = w2' := ⟨_, rfl⟩
        have hg2 : Hid (w2'.heap[gb]? = some (.cells #[.int .i64 0, .bool false, .slice none 0 0] 122 (0, 0))) := by rw [← hw2, ← hgb]; exact new_row _ _ _
        go_upto_region 5 with (first
          | (refine wpList_load_mid rfl 122 _ rfl gd (k * 3) (by first | rfl | simp) [.int .i64 st, .bool fl, .slice pa pn pc] _ HROW.out Try.underlying122 rfl stsize ?r3)
          | (refine wpList_store_row rfl 122 _ _ rfl gb #[.int .i64 st, .bool fl, .slice pa pn pc] rfl rfl 122 #[.int .i64 0, .bool false, .slice none 0 0] hg2.out stsize rfl (by simp [Value.oneCell']) ?s3))
        obtain ⟨w3, hw3⟩ : ∃ w3, w2'.setRow gb #[.int .i64 st, .bool fl, .slice pa pn pc] = w3 := ⟨_, rfl⟩
        have G3 : w3.heap[gb]? = some (.cells #[.int .i64 st, .bool fl, .slice pa pn pc] 122 (0, 0)) := by rw [← hw3]; exact setRow_same hg2.out
        have s3 : w3.heap.size = gb + 1 := by rw [← hw3, Bas.setRow_size, ← hw2, ← hgb]; simp
        have b3 : Below gb wr w3 := by rw [← hw3, ← hw2]; exact setRow_below ((Below.refl _ _).alloc (by omega) _) (Nat.le_refl _) _
        rw [hw3]
        clear hw3 hw2 hg2 HROW
        have hqb : q < gb := by rw [← hgb]; exact HT.out.own_lt rfl
        have T3 : Hid (TW w3 g (app words (L.take k)) (.slice (some ⟨q, 0, none⟩) nw cW)) := HT.out.kept fun j hj => b3.block j (by rw [← hgb]; exact HT.out.own_lt hj)
        have B3 : Hid (Below g w w3) := HB.out.trans (b3.mono hgg)
        have k0 : w3.cell? ⟨gb, 0, none⟩ = some (.int .i64 st) := by rw [cell_of_row _ _ _ _ _ _ G3]; rfl
        have RT := Lib.hid (fun w' (hb : Below g w w') => HL.out w' st hb)
        have GG := Lib.hid G3
        have SS3 := Lib.hid s3
        clear HT HB b3 G3 s3 hgb
        dsimp only [Act.put]
        go_upto_if 24 with (first
          | (go_at_call 67; refine (RT.out _ (by assumption)).mono ?_; rintro e w4 ⟨rfl, hb4⟩)
          | (go_at_call 67; refine (RT.out _ B3.out).mono ?_; rintro e w4 ⟨rfl, hb4⟩))
        have G4 : w4.heap[gb]? = some (.cells #[.int .i64 st, .bool fl, .slice pa pn pc] 122 (0, 0)) := (hb4.block gb (by rw [SS3.out]; omega)).trans GG.out
        have k2 : w4.cell? ⟨gb, 2, none⟩ = some (.slice pa pn pc) := by rw [cell_of_row _ _ _ _ _ _ G4]; rfl
        have T4 : Hid (TW w4 g (app words (L.take k)) (.slice (some ⟨q, 0, none⟩) nw cW)) := T3.out.kept fun j hj => hb4.block j (T3.out.own_lt hj)
        have B4 : Hid (Below g w w4) := B3.out.trans (hb4.mono (by rw [SS3.out]; omega))
        have P4 : Hid (PairsO w o (.slice pa pn pc) ev.pairs) := HIT.out.2.2
        have hst : p ev.stamp = p st := by rw [← HIT.out.1]
        have HST := Lib.hid hst
        clear RT GG SS3 G4 k0 T3 B3 hb4 hst
        cases hps : p st with
        | false =>
          have e : L.takeWhile (fun e => p e.stamp) = L.take k := taken hkl HA.out (by show p L[k].stamp = false; rw [HEV.out, HST.out, hps])
          go_wp2
          try rw [Exit.noGoto_ret]
          go_ret
          exact ⟨_, rfl, by rw [e]; exact T4.out, B4.out⟩
        | true =>
          have HPS := Lib.hid hps
          clear hps
          obtain ⟨A', c', e', hm', hP⟩ := id P4.out
          simp only [Value.slice.injEq] at e'
          obtain ⟨rfl, hpn, rfl⟩ := e'
          obtain ⟨m, hm⟩ : ∃ m, ev.pairs.length = m := ⟨_, rfl⟩
          rw [hm] at hpn hm'
          subst hpn
          have hm' : pn ≤ 9223372036854775807 := hm'
          have HM := Lib.hid hm
          have HP := Lib.hid hP
          clear hP hm
          go_wp2
          obtain ⟨wo, rfl⟩ : ∃ wo : World, wo = wr := ⟨_, rfl⟩
          go_loopw [11, 28] (fun _ u28 wr => ∃ j : Nat, j ≤ pn ∧ u28 = .int .i64 j ∧ Hid (TW wr g (putW (app words (L.take k)) (ev.pairs.take j)) (.slice (some ⟨q, 0, none⟩) nw cW)) ∧ Hid (Below g w wr)) (fun _ u28 _ => pn - (intOf u28).toNat)
          case atStart => exact ⟨0, by omega, rfl, T4, B4⟩
          case round =>
            clear T4 B4 k2
            obtain ⟨j, hj, rfl, HT, HB⟩ := hrel
            by_cases hjm : j < pn
            · have hjl : j < ev.pairs.length := by rw [HM.out]; exact hjm
              obtain ⟨b, off, rfl, hbg, -, hcells⟩ := HP.out (by omega)
              obtain ⟨z1, z2⟩ := hcells j hjl
              have hfit := HFIT.out ev (by rw [← HEV.out]; exact List.getElem_mem _) _ (List.getElem_mem hjl)
              obtain ⟨⟨x, y⟩, hxy⟩ : ∃ xy, ev.pairs[j] = xy := ⟨_, rfl⟩
              rw [hxy] at z1 z2 hfit
              obtain ⟨ad, rfl⟩ : ∃ ad : Nat, x = (ad : Int) := ⟨x.toNat, by have := hfit.1; simp at this; omega⟩
              have had : ad < nw := by have := hfit.2; rw [HNW.out] at this; simp at this; exact this
              rw [HG.out] at hbg
              have HROW : Hid (wr.rangeAt b (off + j * 2) [.int .i64 ad, .int .i64 y]) := by
                intro i v hv
                rw [HB.out.cell (show (⟨b, off + j * 2 + i, none⟩ : Addr).block < g from hbg)]
                match i, hv with
                | 0, hv => simp at hv; subst hv; exact z1
                | 1, hv => simp at hv; subst hv; exact z2
                | i + 2, hv => simp at hv
              have HN2 : Hid (putW (app words (L.take k)) (ev.pairs.take (j + 1)) = (putW (app words (L.take k)) (ev.pairs.take j)).set ad y) := by
                rw [Hid, putW_next hjl, hxy]; rfl
              clear z1 z2 hcells hfit hxy
              obtain ⟨gc, hgc⟩ : ∃ gc, wr.heap.size = gc := ⟨_, rfl⟩
              have hggc : g ≤ gc := by rw [← hgc, ← HG.out]; exact HB.out.size
              have hqc : q < gc := by rw [← hgc]; exact HT.out.own_lt rfl
              obtain ⟨w5, hw5⟩ : ∃ w5, wr.alloc (.cells #[.int .i64 0, .int .i64 0] 93) = w5 := ⟨_, rfl⟩
              have hg5 : Hid (w5.heap[gc]? = some (.cells #[.int .i64 0, .int .i64 0] 93 (0, 0))) := by rw [← hw5, ← hgc]; exact new_row _ _ _
              go_upto_region 9 with (first
                | (refine wpList_load_mid rfl 93 _ rfl b (off + j * 2) (by first | rfl | simp) [.int .i64 ad, .int .i64 y] _ HROW.out Try.underlying93 rfl prsize ?r5)
                | (refine wpList_store_row rfl 93 _ _ rfl gc #[.int .i64 ad, .int .i64 y] rfl rfl 93 #[.int .i64 0, .int .i64 0] hg5.out prsize rfl (by simp [Value.oneCell']) ?s5))
              obtain ⟨w6, hw6⟩ : ∃ w6, w5.setRow gc #[.int .i64 ad, .int .i64 y] = w6 := ⟨_, rfl⟩
              have G6 : w6.heap[gc]? = some (.cells #[.int .i64 ad, .int .i64 y] 93 (0, 0)) := by rw [← hw6]; exact setRow_same hg5.out
              have b6 : Below gc wr w6 := by rw [← hw6, ← hw5]; exact setRow_below ((Below.refl _ _).alloc (by omega) _) (Nat.le_refl _) _
              rw [hw6]
              clear hw6 hw5 hg5 HROW
              have T6 : Hid (TW w6 g (putW (app words (L.take k)) (ev.pairs.take j)) (.slice (some ⟨q, 0, none⟩) nw cW)) := HT.out.kept fun i hi => b6.block i (by rw [← hgc]; exact HT.out.own_lt hi)
              have B6 : Hid (Below g w w6) := HB.out.trans (b6.mono hggc)
              have k0 : w6.cell? ⟨gc, 0, none⟩ = some (.int .i64 ad) := by rw [cell_of_row _ _ _ _ _ _ G6]; rfl
              have k1 : w6.cell? ⟨gc, 1, none⟩ = some (.int .i64 y) := by rw [cell_of_row _ _ _ _ _ _ G6]; rfl
              have c6 := T6.out.cell (k := ad) (by rw [putW_length, app_length, HNW.out]; exact had)
              have f6 := T6.out.frozen ad
              have T7 : Hid (TW (w6.setCell ⟨q, ad, none⟩ (.int .i64 y)) g (putW (app words (L.take k)) (ev.pairs.take (j + 1))) (.slice (some ⟨q, 0, none⟩) nw cW)) := by rw [Hid, HN2.out]; exact T6.out.stored ad y
              have B7 : Hid (Below g w (w6.setCell ⟨q, ad, none⟩ (.int .i64 y))) := B6.out.trans ((Chg.setCell (S := fun k => g ≤ k) w6 ⟨q, ad, none⟩ (.int .i64 y) hq1).below (by rw [← HG.out]; exact B6.out.size) (fun k hk => hk))
              clear HT HB G6 b6 hgc T6 B6 HN2
              dsimp only [Act.put]
              go_wp2
              go_roundw
              case rel => exact ⟨_, _, _, _, _, _, _, _, _, _, _, _, ⟨j + 1, by omega, by go_num, T7, B7⟩, rfl⟩
              case measure => simp [intOf]; omega
            · obtain rfl : pn = j := by omega
              have T7 : Hid (TW wr g (app words (L.take (k + 1))) (.slice (some ⟨q, 0, none⟩) nw cW)) := by
                have := HT.out
                have e1 : ev.pairs.take pn = ev.pairs := List.take_of_length_le (by rw [HM.out]; exact Nat.le_refl _)
                rw [e1] at this
                rw [Hid, app_next hkl, HEV.out]; exact this
              have HA2 : Hid (∀ e ∈ L.take (k + 1), p e.stamp = true) := fun e he => by
                rw [List.take_succ_eq_append_getElem hkl] at he
                rcases List.mem_append.1 he with he | he
                · exact HA.out e he
                · rw [List.mem_singleton.1 he, HEV.out, HST.out]; exact HPS.out
              clear HT HA
              go_wp2
              go_roundw
              case rel => exact ⟨k + 1, by omega, by go_num, HA2, T7, HB⟩
              case measure => simp [intOf]; omega
      · obtain rfl : N = k := by omega
        have e : L.takeWhile (fun e => p e.stamp) = L := taken_all fun e he => HA.out e (by rw [List.take_of_length_le (by rw [HLN.out]; exact Nat.le_refl _)]; exact he)
        have e2 : L.take N = L := List.take_of_length_le (by rw [HLN.out]; exact Nat.le_refl _)
        go_wp2
        try rw [Exit.noGoto_ret]
        go_ret
        exact ⟨_, rfl, by rw [e]; have := HT.out; rwa [e2] at this, HB.out⟩

set_option maxRecDepth 100000 in
set_option maxHeartbeats 4000000 in
theorem upTo_last {w : World} {B : Nat} {s v : Value} {words : List Int} {d : List St} {L : List Ev} {o : Option Nat} (p : Int → Bool) (hW : Words w B s words) (hB : B ≤ w.heap.size) (hpos : 0 < words.length) (hn : words.length ≤ 1000)
    (hV : SV w v d) (hdn : d.length ≤ 1000) (hI : Items w o d L) (hfit : ∀ e ∈ L, ∀ q ∈ e.pairs, 0 ≤ q.1 ∧ q.1 < words.length)
    (hL : ∀ w' a, Below w.heap.size w w' → Calls Try.prog 68 #[.int .i64 a] w' fun e w'' => e = .returned (.bool (p a)) ∧ Below w'.heap.size w' w'') :
    Calls Try.prog 63 #[s, v, .func (.func 68) #[] #[]] w fun e w' => ∃ v', e = .returned v' ∧ TW w' w.heap.size (app words (L.takeWhile fun e => p e.stamp)) v' ∧ Below w.heap.size w w' := by
  have hrun := callFunc_run Try.func68 (by kernel_rfl) (by kernel_rfl)
  obtain ⟨g, hg⟩ : ∃ g, w.heap.size = g := ⟨_, rfl⟩
  have CL := clone_any hW hB hpos (by omega)
  have hlen := hI.length
  rw [hg] at CL hL ⊢
  have HL := Lib.hid hL
  have HI := Lib.hid hI
  have HFIT := Lib.hid hfit
  have HG := Lib.hid hg
  clear hL hI hfit hW hB
  rcases hV with ⟨rfl, rfl⟩ | ⟨gd, cap, rfl, hS⟩
  · obtain rfl : L = [] := List.eq_nil_of_length_eq_zero (by simpa using hlen.symm)
    go_enter Try.func63, Try.ntmps63
    go_wp2
    go_step3
    go_wp2_with (first
      | (go_at_call 88; refine CL.mono ?_; rintro e w2 ⟨vW, rfl, t2, b2⟩))
    go_step3
    go_wp2
    go_loopw [9, 11, 16] (fun _ _ u16 wr => u16 = .int .i64 0 ∧ wr = w2) (fun _ _ _ _ => 0)
    case atStart => exact ⟨rfl, rfl⟩
    case round =>
      obtain ⟨rfl, rfl⟩ := hrel
      go_wp2
      try rw [Exit.noGoto_ret]
      go_ret
      exact ⟨_, rfl, t2, b2⟩
  · obtain ⟨N, hN⟩ : ∃ N, d.length = N := ⟨_, rfl⟩
    have HN := Lib.hid hN
    have HLN : Hid (L.length = N) := by rw [Hid, ← hlen]; exact hN
    have hSg : gd < g := by rw [← hg]; exact hS.1
    rw [hN] at hdn
    have HS := Lib.hid hS
    rw [hN]
    clear hN hlen hS hg
    obtain ⟨nw, hnw⟩ : ∃ nw, words.length = nw := ⟨_, rfl⟩
    have HNW := Lib.hid hnw
    rw [hnw] at hpos hn
    clear hnw
    go_enter Try.func63, Try.ntmps63
    go_wp2
    go_step3
    go_wp2_with (first
      | (go_at_call 88; refine CL.mono ?_; rintro e w2 ⟨vW, rfl, t2, b2⟩))
    go_step3
    go_wp2
    obtain ⟨AW, cW, rfl, -⟩ := id t2
    obtain ⟨q, rfl, hq1, -, hq2⟩ := t2.shape (by rw [HNW.out]; exact hpos)
    rw [HNW.out] at t2 ⊢
    have T2 : Hid (TW w2 g (app words (L.take 0)) (.slice (some ⟨q, 0, none⟩) nw cW)) := t2
    have B2 := Lib.hid b2
    clear t2 b2 CL
    go_loopw [9, 11, 16] (fun _ _ u16 wr => ∃ k : Nat, k ≤ N ∧ u16 = .int .i64 k ∧ Hid (∀ e ∈ L.take k, p e.stamp = true) ∧ Hid (TW wr g (app words (L.take k)) (.slice (some ⟨q, 0, none⟩) nw cW)) ∧ Hid (Below g w wr)) (fun _ _ u16 _ => N - (intOf u16).toNat)
    case atStart => exact ⟨0, by omega, rfl, fun e he => by simp at he, T2, B2⟩
    case round =>
      clear T2 B2
      obtain ⟨k, hk, rfl, HA, HT, HB⟩ := hrel
      by_cases hlt : k < N
      · have hkd : k < d.length := by rw [HN.out]; exact hlt
        have hkl : k < L.length := by rw [HLN.out]; exact hlt
        have hrow := ((HS.out.below (HG.out ▸ HB.out) (by rw [HG.out]; exact hSg)).2 k hkd).1
        have hit := HI.out.get k hkd hkl
        obtain ⟨x, hx⟩ : ∃ x, d[k] = x := ⟨_, rfl⟩
        obtain ⟨ev, hev⟩ : ∃ ev, L[k] = ev := ⟨_, rfl⟩
        rw [hx, hev] at hit
        rw [hx] at hrow
        obtain ⟨st, fl, pa, pn, pc⟩ := x
        have HROW : Hid (wr.rangeAt gd (k * 3) [.int .i64 st, .bool fl, .slice pa pn pc]) := hrow
        have HIT := Lib.hid hit
        have HEV := Lib.hid hev
        clear hrow hit hx hev
        obtain ⟨gb, hgb⟩ : ∃ gb, wr.heap.size = gb := ⟨_, rfl⟩
        have hgg : g ≤ gb := by rw [← hgb, ← HG.out]; exact HB.out.size
        obtain ⟨w2', hw2⟩ : ∃ w2', wr.alloc (.cells #[.int .i64 0, .bool false, .slice none 0 0] 122) = w2' := ⟨_, rfl⟩
        have hg2 : Hid (w2'.heap[gb]? = some (.cells #[.int .i64 0, .bool false, .slice none 0 0] 122 (0, 0))) := by rw [← hw2, ← hgb]; exact new_row _ _ _
        go_upto_region 5 with (first
          | (refine wpList_load_mid rfl 122 _ rfl gd (k * 3) (by first | rfl | simp) [.int .i64 st, .bool fl, .slice pa pn pc] _ HROW.out Try.underlying122 rfl stsize ?r3)
          | (refine wpList_store_row rfl 122 _ _ rfl gb #[.int .i64 st, .bool fl, .slice pa pn pc] rfl rfl 122 #[.int .i64 0, .bool false, .slice none 0 0] hg2.out stsize rfl (by simp [Value.oneCell']) ?s3))
        obtain ⟨w3, hw3⟩ : ∃ w3, w2'.setRow gb #[.int .i64 st, .bool fl, .slice pa pn pc] = w3 := ⟨_, rfl⟩
        have G3 : w3.heap[gb]? = some (.cells #[.int .i64 st, .bool fl, .slice pa pn pc] 122 (0, 0)) := by rw [← hw3]; exact setRow_same hg2.out
        have s3 : w3.heap.size = gb + 1 := by rw [← hw3, Bas.setRow_size, ← hw2, ← hgb]; simp
        have b3 : Below gb wr w3 := by rw [← hw3, ← hw2]; exact setRow_below ((Below.refl _ _).alloc (by omega) _) (Nat.le_refl _) _
        rw [hw3]
        clear hw3 hw2 hg2 HROW
        have hqb : q < gb := by rw [← hgb]; exact HT.out.own_lt rfl
        have T3 : Hid (TW w3 g (app words (L.take k)) (.slice (some ⟨q, 0, none⟩) nw cW)) := HT.out.kept fun j hj => b3.block j (by rw [← hgb]; exact HT.out.own_lt hj)
        have B3 : Hid (Below g w w3) := HB.out.trans (b3.mono hgg)
        have k0 : w3.cell? ⟨gb, 0, none⟩ = some (.int .i64 st) := by rw [cell_of_row _ _ _ _ _ _ G3]; rfl
        have RT := Lib.hid (fun w' (hb : Below g w w') => HL.out w' st hb)
        have GG := Lib.hid G3
        have SS3 := Lib.hid s3
        clear HT HB b3 G3 s3 hgb
        dsimp only [Act.put]
        go_upto_if 24 with (first
          | (go_at_call 68; refine (RT.out _ (by assumption)).mono ?_; rintro e w4 ⟨rfl, hb4⟩)
          | (go_at_call 68; refine (RT.out _ B3.out).mono ?_; rintro e w4 ⟨rfl, hb4⟩))
        have G4 : w4.heap[gb]? = some (.cells #[.int .i64 st, .bool fl, .slice pa pn pc] 122 (0, 0)) := (hb4.block gb (by rw [SS3.out]; omega)).trans GG.out
        have k2 : w4.cell? ⟨gb, 2, none⟩ = some (.slice pa pn pc) := by rw [cell_of_row _ _ _ _ _ _ G4]; rfl
        have T4 : Hid (TW w4 g (app words (L.take k)) (.slice (some ⟨q, 0, none⟩) nw cW)) := T3.out.kept fun j hj => hb4.block j (T3.out.own_lt hj)
        have B4 : Hid (Below g w w4) := B3.out.trans (hb4.mono (by rw [SS3.out]; omega))
        have P4 : Hid (PairsO w o (.slice pa pn pc) ev.pairs) := HIT.out.2.2
        have hst : p ev.stamp = p st := by rw [← HIT.out.1]
        have HST := Lib.hid hst
        clear RT GG SS3 G4 k0 T3 B3 hb4 hst
        cases hps : p st with
        | false =>
          have e : L.takeWhile (fun e => p e.stamp) = L.take k := taken hkl HA.out (by show p L[k].stamp = false; rw [HEV.out, HST.out, hps])
          go_wp2
          try rw [Exit.noGoto_ret]
          go_ret
          exact ⟨_, rfl, by rw [e]; exact T4.out, B4.out⟩
        | true =>
          have HPS := Lib.hid hps
          clear hps
          obtain ⟨A', c', e', hm', hP⟩ := id P4.out
          simp only [Value.slice.injEq] at e'
          obtain ⟨rfl, hpn, rfl⟩ := e'
          obtain ⟨m, hm⟩ : ∃ m, ev.pairs.length = m := ⟨_, rfl⟩
          rw [hm] at hpn hm'
          subst hpn
          have hm' : pn ≤ 9223372036854775807 := hm'
          have HM := Lib.hid hm
          have HP := Lib.hid hP
          clear hP hm
          go_wp2
          obtain ⟨wo, rfl⟩ : ∃ wo : World, wo = wr := ⟨_, rfl⟩
          go_loopw [11, 28] (fun _ u28 wr => ∃ j : Nat, j ≤ pn ∧ u28 = .int .i64 j ∧ Hid (TW wr g (putW (app words (L.take k)) (ev.pairs.take j)) (.slice (some ⟨q, 0, none⟩) nw cW)) ∧ Hid (Below g w wr)) (fun _ u28 _ => pn - (intOf u28).toNat)
          case atStart => exact ⟨0, by omega, rfl, T4, B4⟩
          case round =>
            clear T4 B4 k2
            obtain ⟨j, hj, rfl, HT, HB⟩ := hrel
            by_cases hjm : j < pn
            · have hjl : j < ev.pairs.length := by rw [HM.out]; exact hjm
              obtain ⟨b, off, rfl, hbg, -, hcells⟩ := HP.out (by omega)
              obtain ⟨z1, z2⟩ := hcells j hjl
              have hfit := HFIT.out ev (by rw [← HEV.out]; exact List.getElem_mem _) _ (List.getElem_mem hjl)
              obtain ⟨⟨x, y⟩, hxy⟩ : ∃ xy, ev.pairs[j] = xy := ⟨_, rfl⟩
              rw [hxy] at z1 z2 hfit
              obtain ⟨ad, rfl⟩ : ∃ ad : Nat, x = (ad : Int) := ⟨x.toNat, by have := hfit.1; simp at this; omega⟩
              have had : ad < nw := by have := hfit.2; rw [HNW.out] at this; simp at this; exact this
              rw [HG.out] at hbg
              have HROW : Hid (wr.rangeAt b (off + j * 2) [.int .i64 ad, .int .i64 y]) := by
                intro i v hv
                rw [HB.out.cell (show (⟨b, off + j * 2 + i, none⟩ : Addr).block < g from hbg)]
                match i, hv with
                | 0, hv => simp at hv; subst hv; exact z1
                | 1, hv => simp at hv; subst hv; exact z2
                | i + 2, hv => simp at hv
              have HN2 : Hid (putW (app words (L.take k)) (ev.pairs.take (j + 1)) = (putW (app words (L.take k)) (ev.pairs.take j)).set ad y) := by
                rw [Hid, putW_next hjl, hxy]; rfl
              clear z1 z2 hcells hfit hxy
              obtain ⟨gc, hgc⟩ : ∃ gc, wr.heap.size = gc := ⟨_, rfl⟩
              have hggc : g ≤ gc := by rw [← hgc, ← HG.out]; exact HB.out.size
              have hqc : q < gc := by rw [← hgc]; exact HT.out.own_lt rfl
              obtain ⟨w5, hw5⟩ : ∃ w5, wr.alloc (.cells #[.int .i64 0, .int .i64 0] 93) = w5 := ⟨_, rfl⟩
              have hg5 : Hid (w5.heap[gc]? = some (.cells #[.int .i64 0, .int .i64 0] 93 (0, 0))) := by rw [← hw5, ← hgc]; exact new_row _ _ _
              go_upto_region 9 with (first
                | (refine wpList_load_mid rfl 93 _ rfl b (off + j * 2) (by first | rfl | simp) [.int .i64 ad, .int .i64 y] _ HROW.out Try.underlying93 rfl prsize ?r5)
                | (refine wpList_store_row rfl 93 _ _ rfl gc #[.int .i64 ad, .int .i64 y] rfl rfl 93 #[.int .i64 0, .int .i64 0] hg5.out prsize rfl (by simp [Value.oneCell']) ?s5))
              obtain ⟨w6, hw6⟩ : ∃ w6, w5.setRow gc #[.int .i64 ad, .int .i64 y] = w6 := ⟨_, rfl⟩
              have G6 : w6.heap[gc]? = some (.cells #[.int .i64 ad, .int .i64 y] 93 (0, 0)) := by rw [← hw6]; exact setRow_same hg5.out
              have b6 : Below gc wr w6 := by rw [← hw6, ← hw5]; exact setRow_below ((Below.refl _ _).alloc (by omega) _) (Nat.le_refl _) _
              rw [hw6]
              clear hw6 hw5 hg5 HROW
              have T6 : Hid (TW w6 g (putW (app words (L.take k)) (ev.pairs.take j)) (.slice (some ⟨q, 0, none⟩) nw cW)) := HT.out.kept fun i hi => b6.block i (by rw [← hgc]; exact HT.out.own_lt hi)
              have B6 : Hid (Below g w w6) := HB.out.trans (b6.mono hggc)
              have k0 : w6.cell? ⟨gc, 0, none⟩ = some (.int .i64 ad) := by rw [cell_of_row _ _ _ _ _ _ G6]; rfl
              have k1 : w6.cell? ⟨gc, 1, none⟩ = some (.int .i64 y) := by rw [cell_of_row _ _ _ _ _ _ G6]; rfl
              have c6 := T6.out.cell (k := ad) (by rw [putW_length, app_length, HNW.out]; exact had)
              have f6 := T6.out.frozen ad
              have T7 : Hid (TW (w6.setCell ⟨q, ad, none⟩ (.int .i64 y)) g (putW (app words (L.take k)) (ev.pairs.take (j + 1))) (.slice (some ⟨q, 0, none⟩) nw cW)) := by rw [Hid, HN2.out]; exact T6.out.stored ad y
              have B7 : Hid (Below g w (w6.setCell ⟨q, ad, none⟩ (.int .i64 y))) := B6.out.trans ((Chg.setCell (S := fun k => g ≤ k) w6 ⟨q, ad, none⟩ (.int .i64 y) hq1).below (by rw [← HG.out]; exact B6.out.size) (fun k hk => hk))
              clear HT HB G6 b6 hgc T6 B6 HN2
              dsimp only [Act.put]
              go_wp2
              go_roundw
              case rel => exact ⟨_, _, _, _, _, _, _, _, _, _, _, _, ⟨j + 1, by omega, by go_num, T7, B7⟩, rfl⟩
              case measure => simp [intOf]; omega
            · obtain rfl : pn = j := by omega
              have T7 : Hid (TW wr g (app words (L.take (k + 1))) (.slice (some ⟨q, 0, none⟩) nw cW)) := by
                have := HT.out
                have e1 : ev.pairs.take pn = ev.pairs := List.take_of_length_le (by rw [HM.out]; exact Nat.le_refl _)
                rw [e1] at this
                rw [Hid, app_next hkl, HEV.out]; exact this
              have HA2 : Hid (∀ e ∈ L.take (k + 1), p e.stamp = true) := fun e he => by
                rw [List.take_succ_eq_append_getElem hkl] at he
                rcases List.mem_append.1 he with he | he
                · exact HA.out e he
                · rw [List.mem_singleton.1 he, HEV.out, HST.out]; exact HPS.out
              clear HT HA
              go_wp2
              go_roundw
              case rel => exact ⟨k + 1, by omega, by go_num, HA2, T7, HB⟩
              case measure => simp [intOf]; omega
      · obtain rfl : N = k := by omega
        have e : L.takeWhile (fun e => p e.stamp) = L := taken_all fun e he => HA.out e (by rw [List.take_of_length_le (by rw [HLN.out]; exact Nat.le_refl _)]; exact he)
        have e2 : L.take N = L := List.take_of_length_le (by rw [HLN.out]; exact Nat.le_refl _)
        go_wp2
        try rw [Exit.noGoto_ret]
        go_ret
        exact ⟨_, rfl, by rw [e]; have := HT.out; rwa [e2] at this, HB.out⟩

set_option maxRecDepth 100000 in
set_option maxHeartbeats 4000000 in
theorem upTo_check {w : World} {B : Nat} {s v : Value} {words : List Int} {d : List St} {L : List Ev} {o : Option Nat} {cb : Nat} (p : Int → Bool) (hW : Words w B s words) (hB : B ≤ w.heap.size) (hpos : 0 < words.length) (hn : words.length ≤ 1000)
    (hV : SV w v d) (hdn : d.length ≤ 1000) (hI : Items w o d L) (hfit : ∀ e ∈ L, ∀ q ∈ e.pairs, 0 ≤ q.1 ∧ q.1 < words.length)
    (hL : ∀ w' a, Below w.heap.size w w' → Calls Try.prog 64 #[.int .i64 a, .pointer (some ⟨cb, 0, none⟩)] w' fun e w'' => e = .returned (.bool (p a)) ∧ Below w'.heap.size w' w'') :
    Calls Try.prog 63 #[s, v, .func (.func 64) #[] #[.pointer (some ⟨cb, 0, none⟩)]] w fun e w' => ∃ v', e = .returned v' ∧ TW w' w.heap.size (app words (L.takeWhile fun e => p e.stamp)) v' ∧ Below w.heap.size w w' := by
  have hrun := callFunc_run Try.func64 (by kernel_rfl) (by kernel_rfl)
  obtain ⟨g, hg⟩ : ∃ g, w.heap.size = g := ⟨_, rfl⟩
  have CL := clone_any hW hB hpos (by omega)
  have hlen := hI.length
  rw [hg] at CL hL ⊢
  have HL := Lib.hid hL
  have HI := Lib.hid hI
  have HFIT := Lib.hid hfit
  have HG := Lib.hid hg
  clear hL hI hfit hW hB
  rcases hV with ⟨rfl, rfl⟩ | ⟨gd, cap, rfl, hS⟩
  · obtain rfl : L = [] := List.eq_nil_of_length_eq_zero (by simpa using hlen.symm)
    go_enter Try.func63, Try.ntmps63
    go_wp2
    go_step3
    go_wp2_with (first
      | (go_at_call 88; refine CL.mono ?_; rintro e w2 ⟨vW, rfl, t2, b2⟩))
    go_step3
    go_wp2
    go_loopw [9, 11, 16] (fun _ _ u16 wr => u16 = .int .i64 0 ∧ wr = w2) (fun _ _ _ _ => 0)
    case atStart => exact ⟨rfl, rfl⟩
    case round =>
      obtain ⟨rfl, rfl⟩ := hrel
      go_wp2
      try rw [Exit.noGoto_ret]
      go_ret
      exact ⟨_, rfl, t2, b2⟩
  · obtain ⟨N, hN⟩ : ∃ N, d.length = N := ⟨_, rfl⟩
    have HN := Lib.hid hN
    have HLN : Hid (L.length = N) := by rw [Hid, ← hlen]; exact hN
    have hSg : gd < g := by rw [← hg]; exact hS.1
    rw [hN] at hdn
    have HS := Lib.hid hS
    rw [hN]
    clear hN hlen hS hg
    obtain ⟨nw, hnw⟩ : ∃ nw, words.length = nw := ⟨_, rfl⟩
    have HNW := Lib.hid hnw
    rw [hnw] at hpos hn
    clear hnw
    go_enter Try.func63, Try.ntmps63
    go_wp2
    go_step3
    go_wp2_with (first
      | (go_at_call 88; refine CL.mono ?_; rintro e w2 ⟨vW, rfl, t2, b2⟩))
    go_step3
    go_wp2
    obtain ⟨AW, cW, rfl, -⟩ := id t2
    obtain ⟨q, rfl, hq1, -, hq2⟩ := t2.shape (by rw [HNW.out]; exact hpos)
    rw [HNW.out] at t2 ⊢
    have T2 : Hid (TW w2 g (app words (L.take 0)) (.slice (some ⟨q, 0, none⟩) nw cW)) := t2
    have B2 := Lib.hid b2
    clear t2 b2 CL
    go_loopw [9, 11, 16] (fun _ _ u16 wr => ∃ k : Nat, k ≤ N ∧ u16 = .int .i64 k ∧ Hid (∀ e ∈ L.take k, p e.stamp = true) ∧ Hid (TW wr g (app words (L.take k)) (.slice (some ⟨q, 0, none⟩) nw cW)) ∧ Hid (Below g w wr)) (fun _ _ u16 _ => N - (intOf u16).toNat)
    case atStart => exact ⟨0, by omega, rfl, fun e he => by simp at he, T2, B2⟩
    case round =>
      clear T2 B2
      obtain ⟨k, hk, rfl, HA, HT, HB⟩ := hrel
      by_cases hlt : k < N
      · have hkd : k < d.length := by rw [HN.out]; exact hlt
        have hkl : k < L.length := by rw [HLN.out]; exact hlt
        have hrow := ((HS.out.below (HG.out ▸ HB.out) (by rw [HG.out]; exact hSg)).2 k hkd).1
        have hit := HI.out.get k hkd hkl
        obtain ⟨x, hx⟩ : ∃ x, d[k] = x := ⟨_, rfl⟩
        obtain ⟨ev, hev⟩ : ∃ ev, L[k] = ev := ⟨_, rfl⟩
        rw [hx, hev] at hit
        rw [hx] at hrow
        obtain ⟨st, fl, pa, pn, pc⟩ := x
        have HROW : Hid (wr.rangeAt gd (k * 3) [.int .i64 st, .bool fl, .slice pa pn pc]) := hrow
        have HIT := Lib.hid hit
        have HEV := Lib.hid hev
        clear hrow hit hx hev
        obtain ⟨gb, hgb⟩ : ∃ gb, wr.heap.size = gb := ⟨_, rfl⟩
        have hgg : g ≤ gb := by rw [← hgb, ← HG.out]; exact HB.out.size
        obtain ⟨w2', hw2⟩ : ∃ w2', wr.alloc (.cells #[.int .i64 0, .bool false, .slice none 0 0] 122) = w2' := ⟨_, rfl⟩
        have hg2 : Hid (w2'.heap[gb]? = some (.cells #[.int .i64 0, .bool false, .slice none 0 0] 122 (0, 0))) := by rw [← hw2, ← hgb]; exact new_row _ _ _
        go_upto_region 5 with (first
          | (refine wpList_load_mid rfl 122 _ rfl gd (k * 3) (by first | rfl | simp) [.int .i64 st, .bool fl, .slice pa pn pc] _ HROW.out Try.underlying122 rfl stsize ?r3)
          | (refine wpList_store_row rfl 122 _ _ rfl gb #[.int .i64 st, .bool fl, .slice pa pn pc] rfl rfl 122 #[.int .i64 0, .bool false, .slice none 0 0] hg2.out stsize rfl (by simp [Value.oneCell']) ?s3))
        obtain ⟨w3, hw3⟩ : ∃ w3, w2'.setRow gb #[.int .i64 st, .bool fl, .slice pa pn pc] = w3 := ⟨_, rfl⟩
        have G3 : w3.heap[gb]? = some (.cells #[.int .i64 st, .bool fl, .slice pa pn pc] 122 (0, 0)) := by rw [← hw3]; exact setRow_same hg2.out
        have s3 : w3.heap.size = gb + 1 := by rw [← hw3, Bas.setRow_size, ← hw2, ← hgb]; simp
        have b3 : Below gb wr w3 := by rw [← hw3, ← hw2]; exact setRow_below ((Below.refl _ _).alloc (by omega) _) (Nat.le_refl _) _
        rw [hw3]
        clear hw3 hw2 hg2 HROW
        have hqb : q < gb := by rw [← hgb]; exact HT.out.own_lt rfl
        have T3 : Hid (TW w3 g (app words (L.take k)) (.slice (some ⟨q, 0, none⟩) nw cW)) := HT.out.kept fun j hj => b3.block j (by rw [← hgb]; exact HT.out.own_lt hj)
        have B3 : Hid (Below g w w3) := HB.out.trans (b3.mono hgg)
        have k0 : w3.cell? ⟨gb, 0, none⟩ = some (.int .i64 st) := by rw [cell_of_row _ _ _ _ _ _ G3]; rfl
        have RT := Lib.hid (fun w' (hb : Below g w w') => HL.out w' st hb)
        have GG := Lib.hid G3
        have SS3 := Lib.hid s3
        clear HT HB b3 G3 s3 hgb
        dsimp only [Act.put]
        go_upto_if 24 with (first
          | (go_at_call 64; refine (RT.out _ (by assumption)).mono ?_; rintro e w4 ⟨rfl, hb4⟩)
          | (go_at_call 64; refine (RT.out _ B3.out).mono ?_; rintro e w4 ⟨rfl, hb4⟩))
        have G4 : w4.heap[gb]? = some (.cells #[.int .i64 st, .bool fl, .slice pa pn pc] 122 (0, 0)) := (hb4.block gb (by rw [SS3.out]; omega)).trans GG.out
        have k2 : w4.cell? ⟨gb, 2, none⟩ = some (.slice pa pn pc) := by rw [cell_of_row _ _ _ _ _ _ G4]; rfl
        have T4 : Hid (TW w4 g (app words (L.take k)) (.slice (some ⟨q, 0, none⟩) nw cW)) := T3.out.kept fun j hj => hb4.block j (T3.out.own_lt hj)
        have B4 : Hid (Below g w w4) := B3.out.trans (hb4.mono (by rw [SS3.out]; omega))
        have P4 : Hid (PairsO w o (.slice pa pn pc) ev.pairs) := HIT.out.2.2
        have hst : p ev.stamp = p st := by rw [← HIT.out.1]
        have HST := Lib.hid hst
        clear RT GG SS3 G4 k0 T3 B3 hb4 hst
        cases hps : p st with
        | false =>
          have e : L.takeWhile (fun e => p e.stamp) = L.take k := taken hkl HA.out (by show p L[k].stamp = false; rw [HEV.out, HST.out, hps])
          go_wp2
          try rw [Exit.noGoto_ret]
          go_ret
          exact ⟨_, rfl, by rw [e]; exact T4.out, B4.out⟩
        | true =>
          have HPS := Lib.hid hps
          clear hps
          obtain ⟨A', c', e', hm', hP⟩ := id P4.out
          simp only [Value.slice.injEq] at e'
          obtain ⟨rfl, hpn, rfl⟩ := e'
          obtain ⟨m, hm⟩ : ∃ m, ev.pairs.length = m := ⟨_, rfl⟩
          rw [hm] at hpn hm'
          subst hpn
          have hm' : pn ≤ 9223372036854775807 := hm'
          have HM := Lib.hid hm
          have HP := Lib.hid hP
          clear hP hm
          go_wp2
          obtain ⟨wo, rfl⟩ : ∃ wo : World, wo = wr := ⟨_, rfl⟩
          go_loopw [11, 28] (fun _ u28 wr => ∃ j : Nat, j ≤ pn ∧ u28 = .int .i64 j ∧ Hid (TW wr g (putW (app words (L.take k)) (ev.pairs.take j)) (.slice (some ⟨q, 0, none⟩) nw cW)) ∧ Hid (Below g w wr)) (fun _ u28 _ => pn - (intOf u28).toNat)
          case atStart => exact ⟨0, by omega, rfl, T4, B4⟩
          case round =>
            clear T4 B4 k2
            obtain ⟨j, hj, rfl, HT, HB⟩ := hrel
            by_cases hjm : j < pn
            · have hjl : j < ev.pairs.length := by rw [HM.out]; exact hjm
              obtain ⟨b, off, rfl, hbg, -, hcells⟩ := HP.out (by omega)
              obtain ⟨z1, z2⟩ := hcells j hjl
              have hfit := HFIT.out ev (by rw [← HEV.out]; exact List.getElem_mem _) _ (List.getElem_mem hjl)
              obtain ⟨⟨x, y⟩, hxy⟩ : ∃ xy, ev.pairs[j] = xy := ⟨_, rfl⟩
              rw [hxy] at z1 z2 hfit
              obtain ⟨ad, rfl⟩ : ∃ ad : Nat, x = (ad : Int) := ⟨x.toNat, by have := hfit.1; simp at this; omega⟩
              have had : ad < nw := by have := hfit.2; rw [HNW.out] at this; simp at this; exact this
              rw [HG.out] at hbg
              have HROW : Hid (wr.rangeAt b (off + j * 2) [.int .i64 ad, .int .i64 y]) := by
                intro i v hv
                rw [HB.out.cell (show (⟨b, off + j * 2 + i, none⟩ : Addr).block < g from hbg)]
                match i, hv with
                | 0, hv => simp at hv; subst hv; exact z1
                | 1, hv => simp at hv; subst hv; exact z2
                | i + 2, hv => simp at hv
              have HN2 : Hid (putW (app words (L.take k)) (ev.pairs.take (j + 1)) = (putW (app words (L.take k)) (ev.pairs.take j)).set ad y) := by
                rw [Hid, putW_next hjl, hxy]; rfl
              clear z1 z2 hcells hfit hxy
              obtain ⟨gc, hgc⟩ : ∃ gc, wr.heap.size = gc := ⟨_, rfl⟩
              have hggc : g ≤ gc := by rw [← hgc, ← HG.out]; exact HB.out.size
              have hqc : q < gc := by rw [← hgc]; exact HT.out.own_lt rfl
              obtain ⟨w5, hw5⟩ : ∃ w5, wr.alloc (.cells #[.int .i64 0, .int .i64 0] 93) = w5 := ⟨_, rfl⟩
              have hg5 : Hid (w5.heap[gc]? = some (.cells #[.int .i64 0, .int .i64 0] 93 (0, 0))) := by rw [← hw5, ← hgc]; exact new_row _ _ _
              go_upto_region 9 with (first
                | (refine wpList_load_mid rfl 93 _ rfl b (off + j * 2) (by first | rfl | simp) [.int .i64 ad, .int .i64 y] _ HROW.out Try.underlying93 rfl prsize ?r5)
                | (refine wpList_store_row rfl 93 _ _ rfl gc #[.int .i64 ad, .int .i64 y] rfl rfl 93 #[.int .i64 0, .int .i64 0] hg5.out prsize rfl (by simp [Value.oneCell']) ?s5))
              obtain ⟨w6, hw6⟩ : ∃ w6, w5.setRow gc #[.int .i64 ad, .int .i64 y] = w6 := ⟨_, rfl⟩
              have G6 : w6.heap[gc]? = some (.cells #[.int .i64 ad, .int .i64 y] 93 (0, 0)) := by rw [← hw6]; exact setRow_same hg5.out
              have b6 : Below gc wr w6 := by rw [← hw6, ← hw5]; exact setRow_below ((Below.refl _ _).alloc (by omega) _) (Nat.le_refl _) _
              rw [hw6]
              clear hw6 hw5 hg5 HROW
              have T6 : Hid (TW w6 g (putW (app words (L.take k)) (ev.pairs.take j)) (.slice (some ⟨q, 0, none⟩) nw cW)) := HT.out.kept fun i hi => b6.block i (by rw [← hgc]; exact HT.out.own_lt hi)
              have B6 : Hid (Below g w w6) := HB.out.trans (b6.mono hggc)
              have k0 : w6.cell? ⟨gc, 0, none⟩ = some (.int .i64 ad) := by rw [cell_of_row _ _ _ _ _ _ G6]; rfl
              have k1 : w6.cell? ⟨gc, 1, none⟩ = some (.int .i64 y) := by rw [cell_of_row _ _ _ _ _ _ G6]; rfl
              have c6 := T6.out.cell (k := ad) (by rw [putW_length, app_length, HNW.out]; exact had)
              have f6 := T6.out.frozen ad
              have T7 : Hid (TW (w6.setCell ⟨q, ad, none⟩ (.int .i64 y)) g (putW (app words (L.take k)) (ev.pairs.take (j + 1))) (.slice (some ⟨q, 0, none⟩) nw cW)) := by rw [Hid, HN2.out]; exact T6.out.stored ad y
              have B7 : Hid (Below g w (w6.setCell ⟨q, ad, none⟩ (.int .i64 y))) := B6.out.trans ((Chg.setCell (S := fun k => g ≤ k) w6 ⟨q, ad, none⟩ (.int .i64 y) hq1).below (by rw [← HG.out]; exact B6.out.size) (fun k hk => hk))
              clear HT HB G6 b6 hgc T6 B6 HN2
              dsimp only [Act.put]
              go_wp2
              go_roundw
              case rel => exact ⟨_, _, _, _, _, _, _, _, _, _, _, _, ⟨j + 1, by omega, by go_num, T7, B7⟩, rfl⟩
              case measure => simp [intOf]; omega
            · obtain rfl : pn = j := by omega
              have T7 : Hid (TW wr g (app words (L.take (k + 1))) (.slice (some ⟨q, 0, none⟩) nw cW)) := by
                have := HT.out
                have e1 : ev.pairs.take pn = ev.pairs := List.take_of_length_le (by rw [HM.out]; exact Nat.le_refl _)
                rw [e1] at this
                rw [Hid, app_next hkl, HEV.out]; exact this
              have HA2 : Hid (∀ e ∈ L.take (k + 1), p e.stamp = true) := fun e he => by
                rw [List.take_succ_eq_append_getElem hkl] at he
                rcases List.mem_append.1 he with he | he
                · exact HA.out e he
                · rw [List.mem_singleton.1 he, HEV.out, HST.out]; exact HPS.out
              clear HT HA
              go_wp2
              go_roundw
              case rel => exact ⟨k + 1, by omega, by go_num, HA2, T7, HB⟩
              case measure => simp [intOf]; omega
      · obtain rfl : N = k := by omega
        have e : L.takeWhile (fun e => p e.stamp) = L := taken_all fun e he => HA.out e (by rw [List.take_of_length_le (by rw [HLN.out]; exact Nat.le_refl _)]; exact he)
        have e2 : L.take N = L := List.take_of_length_le (by rw [HLN.out]; exact Nat.le_refl _)
        go_wp2
        try rw [Exit.noGoto_ret]
        go_ret
        exact ⟨_, rfl, by rw [e]; have := HT.out; rwa [e2] at this, HB.out⟩

/-- the closures -/
theorem state_let {w : World} {cb : Nat} {s : Int} (h : w.cell? ⟨cb, 0, none⟩ = some (.int .i64 s)) (a : Int) :
    Calls Try.prog 67 #[.int .i64 a, .pointer (some ⟨cb, 0, none⟩)] w fun e w' => e = .returned (.bool (decide (a ≤ s))) ∧ Below w.heap.size w w' := by
  have B0 := Lib.hid (Below.refl w.heap.size w)
  go_enter Try.func67, Try.ntmps67
  go_wp2
  go_ret
  exact ⟨rfl, B0.out⟩
theorem last_let (w : World) (a : Int) :
    Calls Try.prog 68 #[.int .i64 a] w fun e w' => e = .returned (.bool true) ∧ Below w.heap.size w w' := by
  have B0 := Lib.hid (Below.refl w.heap.size w)
  go_enter Try.func68, Try.ntmps68
  go_wp2
  go_ret
  exact ⟨rfl, B0.out⟩
theorem check_let {w : World} {cb : Nat} {s : Int} (h : w.cell? ⟨cb, 2, none⟩ = some (.int .i64 s)) (a : Int) :
    Calls Try.prog 64 #[.int .i64 a, .pointer (some ⟨cb, 0, none⟩)] w fun e w' => e = .returned (.bool (decide (a ≤ s))) ∧ Below w.heap.size w w' := by
  have B0 := Lib.hid (Below.refl w.heap.size w)
  go_enter Try.func64, Try.ntmps64
  go_wp2
  go_ret
  exact ⟨rfl, B0.out⟩

end Srt
end Go.Proofs.Ytkegfeghdnpajaa

/- tries that came in: their numbers are ints -/
namespace Go.Proofs.Ytkegfeghdnpajaa
open Go.RowKit Go.Bas Go.WideShapes IMap_
namespace Txs

set_option maxRecDepth 100000 in
theorem many_in {H : Type} {enc : TypeId × Value → H} {w : World} {base : Nat} {spare : Nat → Bool} {held : Bool} {v : Value} {d : DataW H} {p : List MemPlace} {r : Reach} {b0 : Nat}
    (hv : Value.okWide Try.prog w r b0 37 v) (h : DataW.Trod enc Try.prog w base spare held 37 v d p) : ∃ l, Many w w.heap.size v l ∧ ∀ t ∈ l, In64 t.stamp ∧ In64 t.seen ∧ In64 t.worker := by
  obtain ⟨a0, n0, c0, rfl⟩ := okWide_slice Try.underlying37 hv
  obtain ⟨fuel, hf⟩ := h
  obtain ⟨A, n, c, he, hnc, hcm, hb⟩ := open_rows Try.underlying37 Try.underlying91 (by kernel_rfl) (by kernel_rfl) (by decide) (v := .slice a0 n0 c0) hf
  rw [he]
  by_cases hn : n = 0
  · subst hn
    exact ⟨[], ⟨A, c, rfl, Nat.zero_le _, fun h => absurd h (by simp)⟩, fun t ht => by simp at ht⟩
  · obtain ⟨b, off, rfl, hlt, hc⟩ := hb (by omega)
    have key : ∀ i, ∃ x : Tx, (In64 x.stamp ∧ In64 x.seen ∧ In64 x.worker) ∧ (i < n → ∃ r q, w.rangeAt b (off + i * 8) (row x r q) ∧ Pairs w w.heap.size r x.reads ∧ Pairs w w.heap.size q x.writes) := by
      intro i
      by_cases hi : i < n
      · obtain ⟨u0, y0, m0, c0, t0⟩ := hc i hi 0 _ rfl
        obtain ⟨u1, y1, m1, c1, t1⟩ := hc i hi 1 _ rfl
        obtain ⟨u2, y2, m2, c2, t2⟩ := hc i hi 2 _ rfl
        obtain ⟨u3, y3, m3, c3, t3⟩ := hc i hi 3 _ rfl
        obtain ⟨u4, y4, m4, c4, t4⟩ := hc i hi 4 _ rfl
        obtain ⟨u5, y5, m5, c5, t5⟩ := hc i hi 5 _ rfl
        obtain ⟨u6, y6, m6, c6, t6⟩ := hc i hi 6 _ rfl
        obtain ⟨u7, y7, m7, c7, t7⟩ := hc i hi 7 _ rfl
        obtain ⟨x0, e0, _, f0⟩ := DataW.trod_int Try.underlying3 t0
        obtain ⟨x1, e1, _, f1⟩ := DataW.trod_int Try.underlying3 t1
        obtain ⟨x2, e2, _, f2⟩ := DataW.trod_int Try.underlying3 t2
        obtain ⟨x3, e3, _, f3⟩ := DataW.trod_int Try.underlying3 t3
        obtain ⟨x4, e4, _⟩ := DataW.trod_bool Try.underlying4 t4
        obtain ⟨x5, e5, _⟩ := DataW.trod_bool Try.underlying4 t5
        obtain ⟨l6, h6⟩ := pairs_of t6
        obtain ⟨l7, h7⟩ := pairs_of t7
        simp at e0 e1 e2 e3 e4 e5
        subst e0 e1 e2 e3 e4 e5
        refine ⟨⟨x0, x1, x2, x3, x4, x5, l6, l7⟩, ⟨in64_of_wf f3, in64_of_wf f2, in64_of_wf f0⟩, fun _ => ⟨u6, u7, ?_, h6, h7⟩⟩
        rintro (_ | _ | _ | _ | _ | _ | _ | _ | j) v hv <;> simp [row] at hv <;> subst hv <;> assumption
      · exact ⟨⟨0, 0, 0, 0, false, false, [], []⟩, by simp [In64], fun h => absurd h hi⟩
    refine ⟨(List.range n).map fun i => Classical.choose (key i), ⟨some ⟨b, off, none⟩, c, by simp, by simp; omega, fun _ => ⟨b, off, rfl, hlt, fun i hi => ?_⟩⟩, fun t ht => ?_⟩
    · have hi' : i < n := by simpa using hi
      simp only [List.getElem_map, List.getElem_range]
      exact (Classical.choose_spec (key i)).2 hi'
    · obtain ⟨i, _, rfl⟩ := List.mem_map.1 ht
      exact (Classical.choose_spec (key i)).1

end Txs
end Go.Proofs.Ytkegfeghdnpajaa

/- whether first words and tries may be: in plain; opaque.right -/
namespace Go.Proofs.Ytkegfeghdnpajaa
open Go.RowKit Go.Bas Txs IMap_ View
namespace Srt

def inW (n : Nat) (q : Int × Int) : Bool := decide (0 ≤ q.1) && decide (q.1 < n)
def okW (n : Nat) (t : Tx) : Bool := t.writes.all (inW n)
/-- those that store -/
def sts (l : List Tx) : List Tx := l.filter storesB
def Distinct (l : List Tx) : Prop := (sts l).Pairwise fun a b => a.stamp ≠ b.stamp
instance (l : List Tx) : Decidable (Distinct l) := by unfold Distinct; infer_instance
def rightB (n : Nat) (l : List Tx) : Bool := decide (3 ≤ n) && (sts l).all (okW n) && decide (Distinct l)
theorem sts_next {l : List Tx} {i : Nat} (h : i < l.length) : sts (l.take (i + 1)) = sts (l.take i) ++ (if storesB l[i] then [l[i]] else []) := by
  unfold sts
  rw [List.take_succ_eq_append_getElem h, List.filter_append]
  congr 1
  by_cases c : storesB l[i] = true
  · rw [if_pos c]; simp [c]
  · rw [if_neg c]; simp [c]
theorem sts_sub {l : List Tx} {i : Nat} : (sts (l.take i)).Sublist (sts l) := (List.take_sublist i l).filter _
/-- a try whose writes go beyond -/
theorem right_bad {n : Nat} {l : List Tx} {i : Nat} (h : i < l.length) (hs : storesB l[i] = true) (ho : okW n l[i] = false) : rightB n l = false := by
  unfold rightB
  have : (sts l).all (okW n) = false := by
    apply Bool.eq_false_iff.2
    intro hh
    have := List.all_eq_true.1 hh l[i] (List.mem_filter.2 ⟨List.getElem_mem h, hs⟩)
    rw [ho] at this; cases this
  rw [this]; simp
/-- a stamp that came already -/
theorem right_twice {n : Nat} {l : List Tx} {i : Nat} (h : i < l.length) (hs : storesB l[i] = true) (hd : ∃ t ∈ sts (l.take i), t.stamp = l[i].stamp) : rightB n l = false := by
  unfold rightB
  have : ¬ Distinct l := fun hh => by
    have h1 : Distinct (l.take (i + 1)) := hh.sublist sts_sub
    unfold Distinct at h1
    rw [sts_next h, if_pos hs] at h1
    obtain ⟨t, ht, e⟩ := hd
    exact (List.pairwise_append.1 h1).2.2 t ht l[i] (by simp) e
  simp [this]
theorem right_all {n : Nat} {l : List Tx} (hn : 3 ≤ n) (h1 : ∀ t ∈ sts l, okW n t = true) (h2 : Distinct l) : rightB n l = true := by
  unfold rightB
  have : (sts l).all (okW n) = true := List.all_eq_true.2 h1
  rw [this]; simp [hn, h2]
theorem Distinct.next {l : List Tx} {i : Nat} (h : i < l.length) (hd : Distinct (l.take i)) (hn : storesB l[i] = true → ¬ ∃ t ∈ sts (l.take i), t.stamp = l[i].stamp) : Distinct (l.take (i + 1)) := by
  unfold Distinct
  rw [sts_next h]
  by_cases c : storesB l[i] = true
  · rw [if_pos c]
    refine List.pairwise_append.2 ⟨hd, List.pairwise_singleton _ _, fun a ha b hb e => ?_⟩
    rw [List.mem_singleton.1 hb] at e
    exact hn c ⟨a, ha, e⟩
  · rw [if_neg c, List.append_nil]; exact hd
theorem ok_next {n : Nat} {l : List Tx} {i : Nat} (h : i < l.length) (ho : ∀ t ∈ sts (l.take i), okW n t = true) (hn : storesB l[i] = true → okW n l[i] = true) : ∀ t ∈ sts (l.take (i + 1)), okW n t = true := fun t ht => by
  rw [sts_next h] at ht
  rcases List.mem_append.1 ht with ht | ht
  · exact ho t ht
  · by_cases c : storesB l[i] = true
    · rw [if_pos c] at ht; rw [List.mem_singleton.1 ht]; exact hn c
    · rw [if_neg c] at ht; cases ht
open Classical in
/-- what the map has behind some tries -/
noncomputable def seenF (l : List Tx) (y : Int) : Option Int := if ∃ t ∈ sts l, t.stamp = y then some 1 else none
theorem seenF_zero : seenF [] = fun _ => none := by
  funext y; unfold seenF; rw [if_neg]; rintro ⟨t, ht, _⟩; simp [sts] at ht
theorem seenF_next {l : List Tx} {i : Nat} (h : i < l.length) (c : storesB l[i] = true) : (fun y => if y = l[i].stamp then some 1 else seenF (l.take i) y) = seenF (l.take (i + 1)) := by
  funext y
  unfold seenF
  rw [sts_next h, if_pos c]
  by_cases e : y = l[i].stamp
  · rw [if_pos e, if_pos ⟨l[i], by simp, e.symm⟩]
  · rw [if_neg e]
    congr 1
    apply propext
    constructor
    · rintro ⟨t, ht, e2⟩; exact ⟨t, by simp [ht], e2⟩
    · rintro ⟨t, ht, e2⟩
      rcases List.mem_append.1 ht with ht | ht
      · exact ⟨t, ht, e2⟩
      · rw [List.mem_singleton.1 ht] at e2; exact absurd e2.symm e
theorem seenF_same {l : List Tx} {i : Nat} (h : i < l.length) (c : storesB l[i] = false) : seenF (l.take (i + 1)) = seenF (l.take i) := by
  have e : sts (l.take (i + 1)) = sts (l.take i) := by rw [sts_next h, c]; simp
  unfold seenF; rw [e]

end Srt
end Go.Proofs.Ytkegfeghdnpajaa

/- opaque.right: the walk -/
namespace Go.Proofs.Ytkegfeghdnpajaa
open Go.RowKit Go.Bas Txs IMap_ View
namespace Srt

theorem wpList_mapput {ops : Array Oper} {rest : List Oper} {o : Oper} {a : Act} {w : World} {Q : Exit → Act → World → Prop} (hg : o.guard = none) (m x v : Operand) (ho : o.op = .mapUpdate 119 m x v)
    (b n : Nat) (f : Int → Option Int) (hm : a.eval m = .map (some b)) (h : IMap w b n f) (hn : n < 1000000) (k z : Int) (hx : a.eval x = .int .i64 k) (hv : a.eval v = .int .i64 z) (hk : In64 k) (hz : In64 z)
    (hK : ∀ w', IMap w' b (n + 1) (fun y => if y = k then some z else f y) → w.grownBy w' (some b) → wpList Try.prog ops Q rest (a.put o.dst undef) w') : wpList Try.prog ops Q (o :: rest) a w := by
  refine wpList_plain hg fun K hK' => ?_
  obtain ⟨w', hrun, r1, r2⟩ := h.set hn hk hz
  unfold Oper.wp
  simp [execOp, ho, hm, hx, hv, hrun, Result.andThen]
  exact hK' _ _ (hK w' r1 r2)

theorem run_mapmade (w : World) : (Instr.makeMap 119 none).run Try.prog w = .ok (.map (some w.heap.size)) (w.alloc (.map #[] 0)) := by
  simp [Instr.makeMap, run_underlying Try.underlying119, asInt, Sem.run_bind, Result.andThen]

set_option maxRecDepth 100000 in
set_option maxHeartbeats 4000000 in
theorem right_any {w : World} {A1 : Option Addr} {nw c1 : Nat} {s : Value} {l : List Tx} (h : Many w w.heap.size s l) (hl : l.length ≤ 40) (hin : ∀ t ∈ l, In64 t.stamp ∧ In64 t.seen ∧ In64 t.worker) :
    Calls Try.prog 60 #[.slice A1 nw c1, s] w fun e w' => e = .returned (.bool (rightB nw l)) ∧ Below w.heap.size w w' := by
  obtain ⟨A, c, rfl, hm, hc⟩ := id h
  have hM := Lib.hid h
  clear hc h
  obtain ⟨n, hn⟩ : ∃ n, l.length = n := ⟨_, rfl⟩
  obtain ⟨g, hg⟩ : ∃ g, w.heap.size = g := ⟨_, rfl⟩
  have hm : l.length ≤ 9223372036854775807 := hm
  have HN := Lib.hid hn
  have HIN := Lib.hid hin
  rw [hg] at hM
  rw [hn] at hm hl ⊢
  rw [hg]
  clear hn hin
  by_cases hnw : nw ≤ 2
  · have e : rightB nw l = false := by unfold rightB; simp; omega
    have B0 := Lib.hid (Below.refl g w)
    go_enter Try.func60, Try.ntmps60
    go_wp2
    go_ret
    exact ⟨by first | rfl | (rw [e]; rfl), B0.out⟩
  · obtain ⟨w1, hw1⟩ : ∃ w1, w.alloc (.map #[] 0) = w1 := ⟨_, rfl⟩
    have M1 : Hid (IMap w1 g 0 (seenF (l.take 0))) := by rw [List.take_zero, seenF_zero, Hid, ← hw1, ← hg]; exact IMap.made w
    have B1 : Hid (Below g w w1) := by rw [← hw1]; exact (Below.refl _ _).alloc (by omega) _
    have mk := run_mapmade w
    go_enter Try.func60, Try.ntmps60
    go_wp2
    go_loopw [7, 9, 16] (fun _ _ u16 wr => ∃ (i cnt : Nat), i ≤ n ∧ cnt ≤ i ∧ u16 = .int .i64 i ∧ Hid (IMap wr g cnt (seenF (l.take i))) ∧ Hid (∀ t ∈ sts (l.take i), okW nw t = true) ∧ Hid (Distinct (l.take i)) ∧ Hid (Below g w wr)) (fun _ _ u16 _ => n - (intOf u16).toNat)
    case atStart => exact ⟨0, 0, by omega, by omega, rfl, M1, fun t ht => by simp [sts] at ht, by unfold Hid Distinct; simp [sts], B1⟩
    case round =>
      clear M1 B1 hw1
      obtain ⟨i, cnt, hi, hci, rfl, HMP, HOK, HD, HB⟩ := hrel
      have hsr : g ≤ wr.heap.size := by rw [← hg]; exact HB.out.size
      by_cases hlt : i < n
      · have hlen : i < l.length := by rw [HN.out]; exact hlt
        obtain ⟨b, off, r, q, rfl, hbB, hrow, hP6, hP7⟩ := row_at (hM.out.below HB.out) hlen
        obtain ⟨A6, c6, rfl, m6, _⟩ := id hP6
        obtain ⟨A7, c7, rfl, m7, _⟩ := id hP7
        obtain ⟨t, ht⟩ : ∃ t, l[i] = t := ⟨_, rfl⟩
        rw [ht] at hrow m6 m7 hP6 hP7
        have HT := Lib.hid ht
        have HTI := Lib.hid (HIN.out t (by rw [← ht]; exact List.getElem_mem hlen)).1
        have HP7 := Lib.hid hP7
        clear hP6 hP7 ‹0 < l[i].reads.length → _› ‹0 < l[i].writes.length → _› ht
        obtain ⟨n6, hn6⟩ : ∃ n6, t.reads.length = n6 := ⟨_, rfl⟩
        obtain ⟨n7, hn7⟩ : ∃ n7, t.writes.length = n7 := ⟨_, rfl⟩
        have HROW := Lib.hid hrow
        clear hrow
        rw [hn6, hn7] at HROW
        rw [hn7] at HP7
        have m6 : n6 ≤ 9223372036854775807 := by rw [← hn6]; exact m6
        have m7 : n7 ≤ 9223372036854775807 := by rw [← hn7]; exact m7
        have HN7 := Lib.hid hn7
        clear hn6 hn7
        obtain ⟨gb, hgb⟩ : ∃ gb, wr.heap.size = gb := ⟨_, rfl⟩
        rw [hgb] at hsr
        have hmg : g < gb := by rw [← hgb]; exact HMP.out.lt
        obtain ⟨w2, hw2⟩ : ∃ w2, wr.alloc (.cells #[.int .i64 0, .int .i64 0, .int .i64 0, .int .i64 0, .bool false, .bool false, .slice none 0 0, .slice none 0 0] 91) = w2 := ⟨_, rfl⟩
        have hg2 : Hid (w2.heap[gb]? = some (.cells #[.int .i64 0, .int .i64 0, .int .i64 0, .int .i64 0, .bool false, .bool false, .slice none 0 0, .slice none 0 0] 91 (0, 0))) := by rw [← hw2, ← hgb]; exact new_row _ _ _
        go_upto_region 7 with (first
          | (refine wpList_load_mid rfl 91 _ rfl b (off + i * 8) (by first | rfl | simp) [.int .i64 t.worker, .int .i64 t.how, .int .i64 t.seen, .int .i64 t.stamp, .bool t.fall, .bool t.sure, .slice A6 n6 c6, .slice A7 n7 c7] _ HROW.out Try.underlying91 rfl txsize ?r3)
          | (refine wpList_store_row rfl 91 _ _ rfl gb #[.int .i64 t.worker, .int .i64 t.how, .int .i64 t.seen, .int .i64 t.stamp, .bool t.fall, .bool t.sure, .slice A6 n6 c6, .slice A7 n7 c7] rfl rfl 91 #[.int .i64 0, .int .i64 0, .int .i64 0, .int .i64 0, .bool false, .bool false, .slice none 0 0, .slice none 0 0] hg2.out txsize rfl (by simp [Value.oneCell']) ?s3))
        obtain ⟨w3, hw3⟩ : ∃ w3, w2.setRow gb #[.int .i64 t.worker, .int .i64 t.how, .int .i64 t.seen, .int .i64 t.stamp, .bool t.fall, .bool t.sure, .slice A6 n6 c6, .slice A7 n7 c7] = w3 := ⟨_, rfl⟩
        have G3 : Hid (w3.heap[gb]? = some (.cells #[.int .i64 t.worker, .int .i64 t.how, .int .i64 t.seen, .int .i64 t.stamp, .bool t.fall, .bool t.sure, .slice A6 n6 c6, .slice A7 n7 c7] 91 (0, 0))) := by rw [← hw3]; exact setRow_same hg2.out
        have s3 : w3.heap.size = gb + 1 := by rw [← hw3, Bas.setRow_size, ← hw2, ← hgb]; simp
        have b3 : Below gb wr w3 := by rw [← hw3, ← hw2]; exact setRow_below ((Below.refl _ _).alloc (by omega) _) (Nat.le_refl _) _
        rw [hw3]
        clear hw3 hw2 hg2 HROW
        obtain ⟨sb, hsb⟩ : ∃ sb, (t.sure && decide (0 < n7)) = sb := ⟨_, rfl⟩
        have RT := fun w' => stores_any t.worker t.how t.seen t.stamp t.fall t.sure A6 n6 c6 A7 n7 c7 w'
        simp only [hsb] at RT
        have sp : storesB l[i] = sb := by unfold storesB; rw [HT.out, HN7.out, hsb]
        have SP := Lib.hid sp
        clear sp hsb
        dsimp only [Act.put]
        go_upto_if 22 with (first
          | (refine wpList_load_row rfl 91 _ rfl gb rfl 91 _ (0, 0) _ G3.out Try.underlying91 rfl txsize ?_)
          | (go_at_call 84; refine (RT _).mono ?_; rintro e w5 ⟨rfl, hb5⟩))
        rw [s3] at hb5
        have b5 : Below gb wr w5 := b3.trans (hb5.mono (by omega))
        have G5 : w5.heap[gb]? = some (.cells #[.int .i64 t.worker, .int .i64 t.how, .int .i64 t.seen, .int .i64 t.stamp, .bool t.fall, .bool t.sure, .slice A6 n6 c6, .slice A7 n7 c7] 91 (0, 0)) := (hb5.block gb (by omega)).trans G3.out
        have k3 : w5.cell? ⟨gb, 3, none⟩ = some (.int .i64 t.stamp) := by rw [cell_of_row _ _ _ _ _ _ G5]; rfl
        have M5 : Hid (IMap w5 g cnt (seenF (l.take i))) := HMP.out.block (b5.block g hmg)
        have B5 : Hid (Below g w w5) := HB.out.trans (b5.mono hsr)
        have P5 : Hid (Pairs w5 g (.slice A7 n7 c7) t.writes) := HP7.out.below (b5.mono hsr)
        have GG5 := Lib.hid G5
        clear RT G3 s3 b3 hb5 b5 G5 HMP HB HP7 hgb
        cases sb with
        | false =>
          go_wp2
          go_roundw
          case rel => exact ⟨i + 1, cnt, by omega, by omega, by go_num, by rw [Hid, seenF_same hlen SP.out]; exact M5.out, ok_next hlen HOK.out (fun hh => by rw [SP.out] at hh; cases hh), HD.out.next hlen (fun hh => by rw [SP.out] at hh; cases hh), B5⟩
          case measure => simp [intOf]; omega
        | true =>
          have lk := M5.out.look1 HTI.out
          by_cases hd : ∃ t' ∈ sts (l.take i), t'.stamp = t.stamp
          · have e1 : (seenF (l.take i) t.stamp).getD 0 = 1 := by unfold seenF; rw [if_pos hd]; rfl
            rw [e1] at lk
            have e : rightB nw l = false := right_twice hlen SP.out (by rw [HT.out]; exact hd)
            clear hd
            go_wp2
            try rw [Exit.noGoto_ret]
            go_ret
            exact ⟨by first | rfl | (rw [e]; rfl), B5.out⟩
          · have e1 : (seenF (l.take i) t.stamp).getD 0 = 0 := by unfold seenF; rw [if_neg hd]; rfl
            rw [e1] at lk
            have HD2 : Hid (Distinct (l.take (i + 1))) := HD.out.next hlen (fun _ => by rw [HT.out]; exact hd)
            clear hd HD e1
            obtain ⟨p5, hp5⟩ : ∃ p5, w5.heap.size = p5 := ⟨_, rfl⟩
            have hgb5 : gb < p5 := by rw [← hp5]; exact (Array.getElem?_eq_some_iff.1 GG5.out).1
            have HP5 := Lib.hid hp5
            clear hp5
            go_upto_region 11 with (first
              | (refine wpList_mapput rfl _ _ _ rfl g cnt _ rfl M5.out (by omega) t.stamp 1 rfl rfl HTI.out (by simp [In64]) ?_; intro w6 i6 g6))
            have M6 : Hid (IMap w6 g (cnt + 1) (seenF (l.take (i + 1)))) := by
              rw [Hid, ← seenF_next hlen SP.out, HT.out]; exact i6
            have B6 : Hid (Below g w w6) := B5.out.trans ((Chg.grown (S := fun k => g ≤ k) g6 (fun k hk => by injection hk with hk; omega)).below (by rw [HP5.out]; omega) (fun k hk => hk))
            have k7 : w6.cell? ⟨gb, 7, none⟩ = some (.slice A7 n7 c7) := by
              rw [cell_of_row _ _ _ _ _ _ ((g6.block gb (by rw [HP5.out]; exact hgb5) (fun e => by injection e with e; omega)).trans GG5.out)]; rfl
            have P6 : Hid (Pairs w6 g (.slice A7 n7 c7) t.writes) := P5.out.below ((Chg.grown (S := fun k => g ≤ k) g6 (fun k hk => by injection hk with hk; omega)).below (by rw [HP5.out]; omega) (fun k hk => hk))
            clear i6 g6 lk k3 M5 B5 P5 GG5
            have hg6 : gb ≤ w6.heap.size := by
              have : gb < w6.heap.size := by
                have h1 : w6.cell? ⟨gb, 7, none⟩ = some (.slice A7 n7 c7) := k7
                exact World.block_lt_of_cell? w6 _ h1
              omega
            have W0 : Hid (Below gb w6 w6) := Below.refl _ _
            dsimp only [Act.put]
            go_wp2
            obtain ⟨wo, rfl⟩ : ∃ wo : World, wo = wr := ⟨_, rfl⟩
            go_loopw [9, 36] (fun _ u36 wr => ∃ j : Nat, j ≤ n7 ∧ u36 = .int .i64 j ∧ Hid (∀ q ∈ t.writes.take j, inW nw q = true) ∧ Hid (Below gb w6 wr)) (fun _ u36 _ => n7 - (intOf u36).toNat)
            case atStart => exact ⟨0, by omega, rfl, fun q hq => by simp at hq, W0⟩
            case round =>
              clear W0 k7
              obtain ⟨j, hj, rfl, HQ, HW⟩ := hrel
              by_cases hjm : j < n7
              · have hjl : j < t.writes.length := by rw [HN7.out]; exact hjm
                obtain ⟨A', c', e', _, hcells⟩ := P6.out.below (HW.out.mono hsr)
                obtain ⟨b', off', rfl, hbg', hcs⟩ := hcells (by omega)
                simp only [Value.slice.injEq] at e'
                obtain ⟨rfl, -, rfl⟩ := e'
                obtain ⟨z1, z2⟩ := hcs j hjl
                obtain ⟨⟨x, y⟩, hxy⟩ : ∃ xy, t.writes[j] = xy := ⟨_, rfl⟩
                rw [hxy] at z1 z2
                have HXY := Lib.hid hxy
                have HROW2 : Hid (wr.rangeAt b' (off' + j * 2) [.int .i64 x, .int .i64 y]) := by
                  intro k v hv
                  match k, hv with
                  | 0, hv => simp at hv; subst hv; exact z1
                  | 1, hv => simp at hv; subst hv; exact z2
                  | k + 2, hv => simp at hv
                clear z1 z2 hcs hcells hxy
                obtain ⟨gc, hgc⟩ : ∃ gc, wr.heap.size = gc := ⟨_, rfl⟩
                have hggc : gb ≤ gc := by rw [← hgc]; have := HW.out.size; omega
                obtain ⟨w7, hw7⟩ : ∃ w7, wr.alloc (.cells #[.int .i64 0, .int .i64 0] 93) = w7 := ⟨_, rfl⟩
                have hg7 : Hid (w7.heap[gc]? = some (.cells #[.int .i64 0, .int .i64 0] 93 (0, 0))) := by rw [← hw7, ← hgc]; exact new_row _ _ _
                go_upto_region 14 with (first
                  | (refine wpList_load_mid rfl 93 _ rfl b' (off' + j * 2) (by first | rfl | simp) [.int .i64 x, .int .i64 y] _ HROW2.out Try.underlying93 rfl prsize ?r5)
                  | (refine wpList_store_row rfl 93 _ _ rfl gc #[.int .i64 x, .int .i64 y] rfl rfl 93 #[.int .i64 0, .int .i64 0] hg7.out prsize rfl (by simp [Value.oneCell']) ?s5))
                obtain ⟨w8, hw8⟩ : ∃ w8, w7.setRow gc #[.int .i64 x, .int .i64 y] = w8 := ⟨_, rfl⟩
                have G8 : w8.heap[gc]? = some (.cells #[.int .i64 x, .int .i64 y] 93 (0, 0)) := by rw [← hw8]; exact setRow_same hg7.out
                have b8 : Below gc wr w8 := by rw [← hw8, ← hw7]; exact setRow_below ((Below.refl _ _).alloc (by omega) _) (Nat.le_refl _) _
                rw [hw8]
                clear hw8 hw7 hg7 HROW2
                have W8 : Hid (Below gb w6 w8) := HW.out.trans (b8.mono hggc)
                have k0 : w8.cell? ⟨gc, 0, none⟩ = some (.int .i64 x) := by rw [cell_of_row _ _ _ _ _ _ G8]; rfl
                clear G8 b8 HW hgc
                have HBAD : Hid (inW nw (x, y) = false → rightB nw l = false) := fun hh => right_bad hlen SP.out (by
                  rw [HT.out]
                  apply Bool.eq_false_iff.2
                  intro hk
                  have := List.all_eq_true.1 hk _ (List.getElem_mem hjl)
                  rw [HXY.out, hh] at this; cases this)
                dsimp only [Act.put]
                by_cases hx0 : x < 0
                · have e := HBAD.out (by unfold inW; simp; omega)
                  go_wp2
                  try rw [Exit.noGoto_ret]
                  go_ret
                  exact ⟨by first | rfl | (rw [e]; rfl), B6.out.trans (W8.out.mono hsr)⟩
                · by_cases hx1 : (nw : Int) ≤ x
                  · have e := HBAD.out (by unfold inW; simp; omega)
                    go_wp2
                    try rw [Exit.noGoto_ret]
                    go_ret
                    exact ⟨by first | rfl | (rw [e]; rfl), B6.out.trans (W8.out.mono hsr)⟩
                  · have HQ2 : Hid (∀ q ∈ t.writes.take (j + 1), inW nw q = true) := fun q hq => by
                      rw [List.take_succ_eq_append_getElem hjl] at hq
                      rcases List.mem_append.1 hq with hq | hq
                      · exact HQ.out q hq
                      · rw [List.mem_singleton.1 hq, HXY.out]; unfold inW; simp; omega
                    clear HQ HBAD
                    go_wp2
                    go_roundw
                    case rel => first | exact ⟨j + 1, by omega, by go_num, HQ2, W8⟩ | exact ⟨_, _, _, ⟨j + 1, by omega, by go_num, HQ2, W8⟩, rfl⟩ | exact ⟨_, _, _, _, ⟨j + 1, by omega, by go_num, HQ2, W8⟩, rfl⟩ | exact ⟨_, _, _, _, _, ⟨j + 1, by omega, by go_num, HQ2, W8⟩, rfl⟩ | exact ⟨_, _, ⟨j + 1, by omega, by go_num, HQ2, W8⟩, rfl⟩ | exact ⟨_, _, _, ⟨j + 1, by omega, by go_num, fun a b hh => HQ2.out _ hh⟩, rfl, rfl, rfl⟩ | exact ⟨_, ⟨j + 1, by omega, by go_num, HQ2, W8⟩, rfl⟩
                    case measure => simp [intOf]; omega
              · obtain rfl : n7 = j := by omega
                have hok : okW nw l[i] = true := by
                  rw [HT.out]
                  refine List.all_eq_true.2 fun q hq => HQ.out q ?_
                  rw [List.take_of_length_le (by rw [HN7.out]; exact Nat.le_refl _)]; exact hq
                have OK2 := Lib.hid (ok_next hlen HOK.out fun _ => hok)
                have M7 : Hid (IMap wr g (cnt + 1) (seenF (l.take (i + 1)))) := M6.out.block (HW.out.block g hmg)
                have B7 : Hid (Below g w wr) := B6.out.trans (HW.out.mono hsr)
                clear HQ HW hok HOK M6 B6
                go_wp2
                go_roundw
                case rel => exact ⟨i + 1, cnt + 1, by omega, by omega, by go_num, M7, OK2, HD2, B7⟩
                case measure => simp [intOf]; omega
      · obtain rfl : n = i := by omega
        have e : rightB nw l = true := by
          have h1 := HOK.out; have h2 := HD.out
          rw [List.take_of_length_le (by rw [HN.out]; exact Nat.le_refl _)] at h1 h2
          exact right_all (by omega) h1 h2
        go_wp2
        try rw [Exit.noGoto_ret]
        go_ret
        exact ⟨by first | rfl | (rw [e]; rfl), HB.out⟩

end Srt
end Go.Proofs.Ytkegfeghdnpajaa

/- opaque.State, opaque.Last: right_fit; the walks are still to come -/
namespace Go.Proofs.Ytkegfeghdnpajaa
open Go.RowKit Go.Bas Txs IMap_ View
namespace Srt

/-- of a list that may be all writes lie within -/
theorem right_fit {n : Nat} {l : List Tx} (h : rightB n l = true) : 3 ≤ n ∧ ∀ e ∈ evs l, ∀ q ∈ e.pairs, 0 ≤ q.1 ∧ q.1 < n := by
  unfold rightB at h
  simp only [Bool.and_eq_true, decide_eq_true_eq] at h
  obtain ⟨⟨h1, h2⟩, _⟩ := h
  refine ⟨h1, fun e he q hq => ?_⟩
  obtain ⟨t, ht, he⟩ := List.mem_flatMap.1 he
  unfold evOf at he
  rcases List.mem_append.1 he with he | he
  · split at he
    · rw [List.mem_singleton.1 he] at hq
      rw [List.mem_singleton.1 hq]; simp; omega
    · cases he
  · split at he
    · rename_i hs
      rw [List.mem_singleton.1 he] at hq
      have := List.all_eq_true.1 h2 t (List.mem_filter.2 ⟨ht, hs⟩)
      have := List.all_eq_true.1 this q hq
      unfold inW at this
      simpa using this
    · cases he

theorem pairs_mono {w : World} {B C : Nat} {s : Value} {l : List (Int × Int)} (h : Pairs w B s l) (hb : B ≤ C) : Pairs w C s l := by
  obtain ⟨A, c, e, hm, hc⟩ := h
  refine ⟨A, c, e, hm, fun h0 => ?_⟩
  obtain ⟨b, off, h1, h2, h3⟩ := hc h0
  exact ⟨b, off, h1, by omega, h3⟩
theorem many_mono {w : World} {B C : Nat} {s : Value} {l : List Tx} (h : Many w B s l) (hb : B ≤ C) : Many w C s l := by
  obtain ⟨A, c, e, hm, hc⟩ := h
  refine ⟨A, c, e, hm, fun h0 => ?_⟩
  obtain ⟨b, off, h1, h2, h3⟩ := hc h0
  refine ⟨b, off, h1, by omega, fun i hi => ?_⟩
  obtain ⟨r, q, g1, g2, g3⟩ := h3 i hi
  exact ⟨r, q, g1, pairs_mono g2 hb, pairs_mono g3 hb⟩

set_option maxRecDepth 100000 in
set_option maxHeartbeats 2000000 in
theorem stateBad_any {w : World} {A1 : Option Addr} {nw c1 : Nat} {s : Value} {l : List Tx} (h : Many w w.heap.size s l) (hl : l.length ≤ 40) (hin : ∀ t ∈ l, In64 t.stamp ∧ In64 t.seen ∧ In64 t.worker) (stamp : Int) (hr : rightB nw l = false) :
    Calls Try.prog 34 #[.slice A1 nw c1, s, .int .i64 stamp] w fun e w' => e = .returned (.tuple #[.slice none 0 0, .int .i64 2]) ∧ Below w.heap.size w w' := by
  obtain ⟨g, hg⟩ : ∃ g, w.heap.size = g := ⟨_, rfl⟩
  obtain ⟨w1, hw1⟩ : ∃ w1, w.alloc (.cells #[.int .i64 stamp] 3) = w1 := ⟨_, rfl⟩
  have B1 : Below g w w1 := by rw [← hw1]; exact (Below.refl _ _).alloc (by omega) _
  have RT := right_any (w := w1) (A1 := A1) (nw := nw) (c1 := c1) (many_mono (h.below (by rw [hg]; exact B1)) B1.size) hl hin
  rw [hr] at RT
  have S1 := B1.size
  have B1 := Lib.hid B1
  rw [hg]
  clear h hr
  go_enter Try.func34, Try.ntmps34
  go_wp2_with (first
    | (go_at_call 60; refine RT.mono ?_; rintro e w2 ⟨rfl, hb2⟩))
  refine bodyPost_ret (results_tmp2 rfl _ _ _) rfl ?_
  exact ⟨rfl, B1.out.trans (hb2.mono (by omega))⟩

set_option maxRecDepth 100000 in
set_option maxHeartbeats 2000000 in
theorem stateOk_any {w : World} {A1 : Option Addr} {nw c1 : Nat} {s : Value} {l : List Tx} {words : List Int} (hW : Words w w.heap.size (.slice A1 nw c1) words) (hnw : words.length = nw) (hn : nw ≤ 1000) (h : Many w w.heap.size s l) (hl : l.length ≤ 40) (hin : ∀ t ∈ l, In64 t.stamp ∧ In64 t.seen ∧ In64 t.worker) (stamp : Int) (hr : rightB nw l = true) :
    Calls Try.prog 34 #[.slice A1 nw c1, s, .int .i64 stamp] w fun e w' => ∃ v' O, e = .returned (.tuple #[v', .int .i64 0]) ∧ Ordered O ∧ Alike (evs l) O ∧ TW w' w.heap.size (app words (O.takeWhile fun e => decide (e.stamp ≤ stamp))) v' ∧ Below w.heap.size w w' := by
  obtain ⟨g, hg⟩ : ∃ g, w.heap.size = g := ⟨_, rfl⟩
  obtain ⟨hr3, hfit⟩ := right_fit hr
  obtain ⟨w1, hw1⟩ : ∃ w1, w.alloc (.cells #[.int .i64 stamp] 3) = w1 := ⟨_, rfl⟩
  have B1 : Below g w w1 := by rw [← hw1]; exact (Below.refl _ _).alloc (by omega) _
  have s1 : w1.heap.size = g + 1 := by rw [← hw1, ← hg]; simp
  have K1 : w1.cell? ⟨g, 0, none⟩ = some (.int .i64 stamp) := by
    have : w1.heap[g]? = some (.cells #[.int .i64 stamp] 3 (0, 0)) := by rw [← hw1, ← hg]; exact new_row _ _ _
    rw [cell_of_row _ _ _ _ _ _ this]; rfl
  have RT := right_any (w := w1) (A1 := A1) (nw := nw) (c1 := c1) (many_mono (h.below (by rw [hg]; exact B1)) B1.size) hl hin
  rw [hr] at RT
  rw [hg] at h hW ⊢
  have HM := Lib.hid h
  have HW := Lib.hid hW
  have HNW := Lib.hid hnw
  have HFIT := Lib.hid hfit
  have B1 := Lib.hid B1
  have S1 := Lib.hid s1
  have K1 := Lib.hid K1
  clear h hW hnw hfit s1 hr hin
  go_enter Try.func34, Try.ntmps34
  go_upto_region 3 with (first
    | (go_at_call 60; refine RT.mono ?_; rintro e w2 ⟨rfl, hb2⟩))
  rw [S1.out] at hb2
  have B2 : Hid (Below g w w2) := B1.out.trans (hb2.mono (by omega))
  have K2 : Hid (w2.cell? ⟨g, 0, none⟩ = some (.int .i64 stamp)) := by rw [Hid, hb2.cell (show g < g + 1 by omega)]; exact K1.out
  have g2 : g + 1 ≤ w2.heap.size := by rw [← S1.out]; exact hb2.size
  have AT := all_any (many_mono (HM.out.below B2.out) (show g ≤ w2.heap.size by omega)) hl
  clear RT hb2 K1 S1 B1 hw1
  go_wp2_with (first
    | (go_at_call 61; refine AT.mono ?_; rintro e w3 ⟨vd, ds, d, rfl, hsv, hso, hsa, hit, hob, hdl, hb3⟩
       obtain ⟨O, hO1, hO2, hO3⟩ := sorted_plain hit hsa hso
       have hg3 : w2.heap.size ≤ w3.heap.size := hb3.size
       have B3 : Hid (Below g w w3) := B2.out.trans (hb3.mono (by omega))
       have K3 : Hid (w3.cell? ⟨g, 0, none⟩ = some (.int .i64 stamp)) := by rw [Hid, hb3.cell (show g < w2.heap.size by omega)]; exact K2.out
       have UT := upTo_state (w := w3) (cb := g) (fun x => decide (x ≤ stamp)) (HW.out.below B3.out) (by omega) (by rw [HNW.out]; omega) (by rw [HNW.out]; exact hn) hsv (by omega) hO1 (fun e he q hq => by rw [HNW.out]; exact HFIT.out e (hO3.mem.1 he) q hq) (fun w' a hb => state_let (by rw [hb.cell (show g < w3.heap.size by omega)]; exact K3.out) a)
       have HO2 := Lib.hid hO2
       have HO3 := Lib.hid hO3
       clear AT hsv hso hsa hit hob hb3 hO1 hO2 hO3)
    | (go_at_call 63; refine UT.mono ?_; rintro e w4 ⟨v4, rfl, t4, hb4⟩))
  refine bodyPost_ret (results_tmp2 rfl _ _ _) rfl ?_
  exact ⟨v4, O, rfl, HO2.out, HO3.out, t4.low (by omega), B3.out.trans (hb4.mono (by omega))⟩

set_option maxRecDepth 100000 in
set_option maxHeartbeats 2000000 in
theorem lastBad_any {w : World} {A1 : Option Addr} {nw c1 : Nat} {s : Value} {l : List Tx} (h : Many w w.heap.size s l) (hl : l.length ≤ 40) (hin : ∀ t ∈ l, In64 t.stamp ∧ In64 t.seen ∧ In64 t.worker) (hr : rightB nw l = false) :
    Calls Try.prog 36 #[.slice A1 nw c1, s] w fun e w' => e = .returned (.tuple #[.slice none 0 0, .int .i64 2]) ∧ Below w.heap.size w w' := by
  have RT := right_any (w := w) (A1 := A1) (nw := nw) (c1 := c1) h hl hin
  rw [hr] at RT
  clear h hr
  go_enter Try.func36, Try.ntmps36
  go_wp2_with (first
    | (go_at_call 60; refine RT.mono ?_; rintro e w2 ⟨rfl, hb2⟩))
  refine bodyPost_ret (results_tmp2 rfl _ _ _) rfl ?_
  exact ⟨rfl, hb2⟩

set_option maxRecDepth 100000 in
set_option maxHeartbeats 2000000 in
theorem lastOk_any {w : World} {A1 : Option Addr} {nw c1 : Nat} {s : Value} {l : List Tx} {words : List Int} (hW : Words w w.heap.size (.slice A1 nw c1) words) (hnw : words.length = nw) (hn : nw ≤ 1000) (h : Many w w.heap.size s l) (hl : l.length ≤ 40) (hin : ∀ t ∈ l, In64 t.stamp ∧ In64 t.seen ∧ In64 t.worker) (hr : rightB nw l = true) :
    Calls Try.prog 36 #[.slice A1 nw c1, s] w fun e w' => ∃ v' O, e = .returned (.tuple #[v', .int .i64 0]) ∧ Ordered O ∧ Alike (evs l) O ∧ TW w' w.heap.size (app words O) v' ∧ Below w.heap.size w w' := by
  obtain ⟨g, hg⟩ : ∃ g, w.heap.size = g := ⟨_, rfl⟩
  obtain ⟨hr3, hfit⟩ := right_fit hr
  have RT := right_any (w := w) (A1 := A1) (nw := nw) (c1 := c1) h hl hin
  rw [hr] at RT
  rw [hg] at h hW RT ⊢
  have HM := Lib.hid h
  have HW := Lib.hid hW
  have HNW := Lib.hid hnw
  have HFIT := Lib.hid hfit
  clear h hW hnw hfit hr hin
  go_enter Try.func36, Try.ntmps36
  go_upto_region 3 with (first
    | (go_at_call 60; refine RT.mono ?_; rintro e w2 ⟨rfl, hb2⟩))
  have B2 : Hid (Below g w w2) := hb2
  have g2 : g ≤ w2.heap.size := by rw [← hg]; exact hb2.size
  have AT := all_any (many_mono (HM.out.below B2.out) (show g ≤ w2.heap.size by omega)) hl
  clear RT hb2
  go_wp2_with (first
    | (go_at_call 61; refine AT.mono ?_; rintro e w3 ⟨vd, ds, d, rfl, hsv, hso, hsa, hit, hob, hdl, hb3⟩
       obtain ⟨O, hO1, hO2, hO3⟩ := sorted_plain hit hsa hso
       have hg3 : w2.heap.size ≤ w3.heap.size := hb3.size
       have B3 : Hid (Below g w w3) := B2.out.trans (hb3.mono (by omega))
       have UT := upTo_last (w := w3) (fun _ => true) (HW.out.below B3.out) (by omega) (by rw [HNW.out]; omega) (by rw [HNW.out]; exact hn) hsv (by omega) hO1 (fun e he q hq => by rw [HNW.out]; exact HFIT.out e (hO3.mem.1 he) q hq) (fun w' a hb => last_let w' a)
       have HO2 := Lib.hid hO2
       have HO3 := Lib.hid hO3
       clear AT hsv hso hsa hit hob hb3 hO1 hO2 hO3)
    | (go_at_call 63; refine UT.mono ?_; rintro e w4 ⟨v4, rfl, t4, hb4⟩))
  refine bodyPost_ret (results_tmp2 rfl _ _ _) rfl ?_
  refine ⟨v4, O, rfl, HO2.out, HO3.out, ?_, B3.out.trans (hb4.mono (by omega))⟩
  have e : O.takeWhile (fun _ => true) = O := taken_all fun _ _ => rfl
  have := t4.low (base' := g) (by omega)
  rwa [e] at this

end Srt
end Go.Proofs.Ytkegfeghdnpajaa
