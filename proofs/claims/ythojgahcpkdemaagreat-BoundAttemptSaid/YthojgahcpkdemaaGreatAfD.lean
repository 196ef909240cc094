/- Lemmas of this seat's proofs, several texts laid together. -/
import Derived.Test.YthojgahcpkdemaaGreatAfA
import Derived.Lib.SlicesCompact
import Derived.Test.YthojgahcpkdemaaGreatShelf
import Derived.Test.YthojgahcpkdemaaGreatAfB
import Derived.Sort.OwnSortedInts
import Derived.Test.YthojgahcpkdemaaGreatAfC
set_option linter.unusedVariables false
set_option linter.unusedSimpArgs false
/- attempts in plain: how many steps there are -/
namespace Go.Proofs.YthojgahcpkdemaaGreat
namespace Att

theorem mem_ins {x y : Int} : ∀ {l : List Int}, y ∈ ins x l ↔ y = x ∨ y ∈ l
  | [] => by simp [ins]
  | z :: r => by
    unfold ins
    split
    · simp
    · split
      · rename_i h; subst h; simp
      · simp only [List.mem_cons, mem_ins]
        constructor
        · rintro (h | h | h) <;> simp [h]
        · rintro (h | h | h) <;> simp [h]
theorem mem_rise {y : Int} : ∀ {l : List Int}, y ∈ rise l ↔ y ∈ l
  | [] => by simp [rise]
  | x :: r => by
    show y ∈ ins x (rise r) ↔ _
    rw [mem_ins, mem_rise]; simp
def Up (l : List Int) : Prop := l.Pairwise (· < ·)
theorem up_ins {x : Int} : ∀ {l : List Int}, Up l → Up (ins x l)
  | [], _ => by simp [ins, Up]
  | z :: r, h => by
    have h1 := List.pairwise_cons.1 h
    unfold ins
    split
    · rename_i hx
      refine List.pairwise_cons.2 ⟨fun y hy => ?_, h⟩
      rcases List.mem_cons.1 hy with rfl | hy
      · exact hx
      · have := h1.1 y hy; omega
    · split
      · exact h
      · refine List.pairwise_cons.2 ⟨fun y hy => ?_, up_ins h1.2⟩
        rcases mem_ins.1 hy with rfl | hy
        · omega
        · exact h1.1 y hy
theorem up_rise : ∀ {l : List Int}, Up (rise l)
  | [] => List.Pairwise.nil
  | x :: r => by show Up (ins x (rise r)); exact up_ins up_rise
theorem Up.len : ∀ {l : List Int} {lo hi : Int}, Up l → (∀ x ∈ l, lo ≤ x ∧ x < hi) → (l.length : Int) ≤ (if lo ≤ hi then hi - lo else 0)
  | [], lo, hi, _, _ => by simp; split <;> omega
  | x :: r, lo, hi, h, hb => by
    have h1 := List.pairwise_cons.1 h
    have hx := hb x (by simp)
    have := Up.len (lo := x + 1) (hi := hi) h1.2 (fun y hy => ⟨by have := h1.1 y hy; omega, (hb y (by simp [hy])).2⟩)
    rw [if_pos (by omega)] at this ⊢
    simp only [List.length_cons]
    omega
theorem Up.nodup {l : List Int} (h : Up l) : l.Nodup := h.imp fun h e => by omega
theorem mem_locksOf {E : Env} {l : M} {k : Int} : k ∈ locksOf E l ↔ ∃ p ∈ l, lock E p.1 = k := by
  unfold locksOf
  rw [mem_rise, List.mem_map]

/-- an environment of the statements -/
structure Good (E : Env) (lo : Int) (d : Nat) : Prop where
  str : 1 ≤ E.stripes
  lo3 : 3 + E.stripes ≤ lo
  fits : lo + d ≤ E.words
  /-- what is needed is one of so many words, and is not known yet -/
  need : ∀ l, 0 ≤ (E.run l).1 → (lo ≤ (E.run l).1 ∧ (E.run l).1 < lo + d) ∧ (E.run l).1 ∉ l.map (·.1)
  /-- what was written is of those words, by rising addresses -/
  wrote : ∀ l, (E.run l).1 < 0 → Up ((E.run l).2.map (·.1)) ∧ ∀ p ∈ (E.run l).2, lo ≤ p.1 ∧ p.1 < lo + d
theorem lock_in {E : Env} {lo : Int} {d : Nat} (G : Good E lo d) {a : Int} (h0 : 0 ≤ a) (h1 : a < E.words) : 3 ≤ lock E a ∧ lock E a < 3 + E.stripes := by
  unfold lock
  rw [if_neg (by omega)]
  have := Int.emod_nonneg a (b := E.stripes) (by have := G.str; omega)
  have := Int.emod_lt_of_pos a (b := E.stripes) (by have := G.str; omega)
  omega

/-- what holds of an attempt at any time, by itself -/
structure WF (E : Env) (lo : Int) (d : Nat) (T : AT) : Prop where
  ph : 0 ≤ T.phase ∧ T.phase ≤ 10
  zero : T.phase = 0 → T.reads = [] ∧ T.how = 0 ∧ T.holds = []
  /-- the first read is the flag's, and 0; the others are apart, of those words -/
  reads : T.reads = [] ∨ ∃ r, T.reads = (2, 0) :: r ∧ (r.map (·.1)).Nodup ∧ ∀ p ∈ r, lo ≤ p.1 ∧ p.1 < lo + d
  needs : (T.phase = 1 ∨ T.phase = 2 ∨ T.phase = 3) → T.how = 0 ∧ T.holds = [] ∧ ((T.reads = [] ∧ T.na = 2) ∨ (T.reads ≠ [] ∧ (lo ≤ T.na ∧ T.na < lo + d) ∧ T.na ∉ T.reads.tail.map (·.1)))
  wrote : (4 ≤ T.phase ∧ T.phase ≤ 8 ∨ T.phase = 9 ∧ T.how = 1) → T.writes ≠ [] ∧ Up (T.writes.map (·.1)) ∧ (∀ p ∈ T.writes, lo ≤ p.1 ∧ p.1 < lo + d) ∧ T.locks = locksOf E T.writes
  goes : T.phase ≤ 8 → T.how = 0
  held : (4 ≤ T.phase ∧ T.phase ≤ 9) → T.locks = locksOf E T.writes ∧ T.holds.length ≤ T.locks.length ∧ T.holds.map (·.1) = T.locks.take T.holds.length ∧ (∀ p ∈ T.writes, lo ≤ p.1 ∧ p.1 < lo + d)
  part : (T.phase = 4 ∨ T.phase = 5) → T.holds.length < T.locks.length
  full : (6 ≤ T.phase ∧ T.phase ≤ 8 ∨ T.phase = 9 ∧ T.how = 1) → T.holds.length = T.locks.length
  chk : T.phase = 7 → 0 ≤ T.at_ ∧ T.at_ < T.checks.length ∧ Up T.checks ∧ ∀ x ∈ T.checks, 3 ≤ x ∧ x < 3 + E.stripes
  sto : T.phase = 8 → 0 ≤ T.at_ ∧ T.at_ < T.writes.length
  rel : T.phase = 9 → 0 ≤ T.at_ ∧ T.at_ < T.holds.length

end Att
end Go.Proofs.YthojgahcpkdemaaGreat

/- a list in order, each once, is the rising one -/
namespace Go.Proofs.YthojgahcpkdemaaGreat
namespace Att

theorem ins_len (x : Int) : ∀ l : List Int, (ins x l).length ≤ l.length + 1
  | [] => by simp [ins]
  | y :: r => by
    unfold ins
    have := ins_len x r
    split
    · simp
    · split
      · simp
      · simp; omega
theorem rise_len : ∀ l : List Int, (rise l).length ≤ l.length
  | [] => by simp [rise]
  | x :: r => by
    show (ins x (rise r)).length ≤ _
    have := ins_len x (rise r); have := rise_len r; simp; omega
theorem up_ext : ∀ {l m : List Int}, Up l → Up m → (∀ x, x ∈ l ↔ x ∈ m) → l = m
  | [], [], _, _, _ => rfl
  | [], y :: r, _, _, h => by have := (h y).2 (by simp); cases this
  | x :: r, [], _, _, h => by have := (h x).1 (by simp); cases this
  | x :: r, y :: t, h1, h2, h => by
    obtain ⟨a1, a2⟩ := List.pairwise_cons.1 h1
    obtain ⟨b1, b2⟩ := List.pairwise_cons.1 h2
    have exy : x = y := by
      rcases List.mem_cons.1 ((h x).1 (by simp)) with e | e
      · exact e
      · rcases List.mem_cons.1 ((h y).2 (by simp)) with e2 | e2
        · exact e2.symm
        · have := b1 x e; have := a1 y e2; omega
    subst exy
    congr 1
    refine up_ext a2 b2 fun z => ?_
    constructor
    · intro hz
      rcases List.mem_cons.1 ((h z).1 (by simp [hz])) with e | e
      · subst e; have := a1 z hz; omega
      · exact e
    · intro hz
      rcases List.mem_cons.1 ((h z).2 (by simp [hz])) with e | e
      · subst e; have := b1 z hz; omega
      · exact e

theorem compact_upto {d : Array Int} (hs : ∀ i j, i ≤ j → j < d.size → d[i]! ≤ d[j]!) : ∀ m, m ≤ d.size → Up (Lib.compactUpTo d m) ∧ (∀ x ∈ Lib.compactUpTo d m, 0 < m ∧ x ≤ d[m - 1]!) ∧ ∀ x, x ∈ Lib.compactUpTo d m ↔ ∃ j, j < m ∧ d[j]! = x
  | 0, _ => ⟨List.Pairwise.nil, fun x hx => by simp [Lib.compactUpTo] at hx, fun x => by simp [Lib.compactUpTo]⟩
  | m + 1, hm => by
    obtain ⟨h1, h2, h3⟩ := compact_upto hs m (by omega)
    rw [Lib.compactUpTo_succ]
    cases hk : Lib.keeps d m with
    | true =>
      simp only [if_true]
      have hlt : ∀ x ∈ Lib.compactUpTo d m, x < d[m]! := fun x hx => by
        obtain ⟨h0, h4⟩ := h2 x hx
        have h5 := hs (m - 1) m (by omega) (by omega)
        have h6 : d[m]! ≠ d[m - 1]! := by
          unfold Lib.keeps at hk
          have := of_decide_eq_true hk
          rcases this with e | e
          · omega
          · exact e
        omega
      refine ⟨?_, ?_, fun x => ?_⟩
      · unfold Up
        rw [List.pairwise_append]
        exact ⟨h1, by simp, fun x hx y hy => by rw [List.mem_singleton.1 hy]; exact hlt x hx⟩
      · intro x hx
        refine ⟨by omega, ?_⟩
        rw [show m + 1 - 1 = m by omega]
        rcases List.mem_append.1 hx with hx | hx
        · have := hlt x hx; omega
        · rw [List.mem_singleton.1 hx]; exact Int.le_refl _
      · rw [List.mem_append, h3, List.mem_singleton]
        constructor
        · rintro (⟨j, hj, e⟩ | e)
          · exact ⟨j, by omega, e⟩
          · exact ⟨m, by omega, e.symm⟩
        · rintro ⟨j, hj, e⟩
          by_cases ej : j = m
          · exact .inr (by rw [← e, ej])
          · exact .inl ⟨j, by omega, e⟩
    | false =>
      simp only [if_false, List.append_nil, Bool.false_eq_true]
      have hm0 : 0 < m ∧ d[m]! = d[m - 1]! := by
        unfold Lib.keeps at hk
        have := of_decide_eq_false hk
        constructor
        · apply Nat.pos_of_ne_zero; intro e; exact this (.inl e)
        · by_cases e : d[m]! = d[m - 1]!
          · exact e
          · exact absurd (.inr e) this
      refine ⟨h1, fun x hx => ⟨by omega, ?_⟩, fun x => ?_⟩
      · rw [show m + 1 - 1 = m by omega, hm0.2]; exact (h2 x hx).2
      · rw [h3]
        constructor
        · rintro ⟨j, hj, e⟩; exact ⟨j, by omega, e⟩
        · rintro ⟨j, hj, e⟩
          by_cases ej : j = m
          · exact ⟨m - 1, by omega, by rw [← e, ej, hm0.2]⟩
          · exact ⟨j, by omega, e⟩
theorem compact_sorted (l : List Int) : Lib.compact (l.mergeSort fun x y => decide (x ≤ y)) = rise l := by
  obtain ⟨z, hz⟩ : ∃ z, (l.mergeSort fun x y => decide (x ≤ y)) = z := ⟨_, rfl⟩
  have hp : ∀ x, x ∈ z ↔ x ∈ l := fun x => by rw [← hz]; exact (List.mergeSort_perm l _).mem_iff
  have hs : z.Pairwise (fun x y => decide (x ≤ y) = true) := by
    rw [← hz]
    exact List.pairwise_mergeSort (fun a b c h1 h2 => by simp at *; omega) (fun a b => by simp; omega) l
  rw [hz]
  have hs2 : ∀ i j, i ≤ j → j < z.toArray.size → z.toArray[i]! ≤ z.toArray[j]! := fun i j hij hj => by
    have hj' : j < z.length := by simpa using hj
    rw [getElem!_pos z.toArray i (by simp; omega), getElem!_pos z.toArray j hj]
    simp only [List.getElem_toArray]
    by_cases e : i = j
    · subst e; exact Int.le_refl _
    · have := List.pairwise_iff_getElem.1 hs i j (by omega) hj' (by omega)
      simpa using this
  obtain ⟨h1, _, h3⟩ := compact_upto hs2 z.length (by simp)
  refine up_ext h1 up_rise fun x => ?_
  show x ∈ Lib.compactUpTo z.toArray z.length ↔ _
  rw [h3, mem_rise, ← hp]
  constructor
  · rintro ⟨j, hj, rfl⟩
    rw [getElem!_pos z.toArray j (by simpa using hj)]
    simp
  · intro hx
    obtain ⟨j, hj, e⟩ := List.getElem_of_mem hx
    exact ⟨j, hj, by rw [getElem!_pos z.toArray j (by simpa using hj)]; simpa using e⟩

end Att
end Go.Proofs.YthojgahcpkdemaaGreat

/- slices.Sort and slices.Compact at words of the call's own -/
namespace Go.Proofs.YthojgahcpkdemaaGreat
open Go.RowKit Go.Bas Go.Sort View
namespace Att

theorem tw_open {w : World} {base g n cap : Nat} {l : List Int} (h : TW w base l (.slice (some ⟨g, 0, none⟩) n cap)) (h0 : 0 < l.length) :
    n = l.length ∧ base ≤ g ∧ g < w.heap.size ∧ ∃ cur, w.heap[g]? = some (.cells cur 3 (0, 0)) ∧ l.length ≤ cap ∧ cap ≤ maxLen ∧ cur.size = cap * 1 ∧ cur.toList.take l.length = l.map (Value.int .i64) := by
  obtain ⟨A, c', e, hown⟩ := h
  injection e with e1 e2 e3
  subst e1 e2 e3
  rcases hown.2 with ⟨_, h'⟩ | ⟨g', cap', cur, hv, hg, hh, h1, h2, h3, h4⟩
  · omega
  · injection hv with e1 _ e3
    injection e1 with e1
    injection e1 with e1
    subst e1 e3
    exact ⟨rfl, hg, (Array.getElem?_eq_some_iff.1 hh).1, cur, hh, h1, h2, h3, by simpa using h4⟩

theorem sort_tw {w : World} {base g n cap : Nat} {l : List Int} (h : TW w base l (.slice (some ⟨g, 0, none⟩) n cap)) (hn : l.length ≤ 10000) (h0 : 0 < l.length) :
    Calls Tryz.prog 97 #[.slice (some ⟨g, 0, none⟩) n cap] w fun e w' => e = .returned (.tuple #[]) ∧ TW w' base (l.mergeSort fun x y => decide (x ≤ y)) (.slice (some ⟨g, 0, none⟩) n cap) ∧ Chg (fun k => k = g) w w' := by
  obtain ⟨rfl, hb, hg, cur, hc, h1, h2, h3, h4⟩ := tw_open h h0
  refine (Tryz.slices_Sort_int g 0 cap l w (holds_of_blockI hc h4) hg (by omega)).mono ?_
  rintro e w' ⟨rfl, q, os, rfl⟩
  refine ⟨rfl, ⟨some ⟨g, 0, none⟩, cap, by simp, ?_⟩, Chg.grown (grownBy_sortedI _) (fun k hk => by injection hk with hk; exact hk.symm)⟩
  have := ownsRow_sortedI (n := q) (os := os) (ts := l.mergeSort fun x y => decide (x ≤ y)) (ss := l) (by simp) hb hc h1 h2 h3
  simpa using this

theorem compact_tw {w : World} {base g n cap : Nat} {l : List Int} (h : TW w base l (.slice (some ⟨g, 0, none⟩) n cap)) (hn : l.length ≤ 10000) (h0 : 0 < l.length) :
    Calls Tryz.prog 98 #[.slice (some ⟨g, 0, none⟩) n cap] w fun e w' => e = .returned (.slice (some ⟨g, 0, none⟩) (Lib.compact l).length cap) ∧ TW w' base (Lib.compact l) (.slice (some ⟨g, 0, none⟩) (Lib.compact l).length cap) ∧ Chg (fun k => k = g) w w' := by
  obtain ⟨rfl, hb, hg, cur, hc, h1, h2, h3, h4⟩ := tw_open h h0
  refine (Tryz.slices_Compact_int g 0 cap l w (holds_of_blockI hc h4) (by omega) h1).mono ?_
  rintro e w' ⟨rfl, q, rfl⟩
  have hcl : (Lib.compact l).length ≤ l.length := by
    unfold Lib.compact Lib.compactUpTo
    rw [List.length_map]
    have := List.length_filter_le (Lib.keeps l.toArray) (List.range l.length)
    simpa using this
  have hg2 := heap_sortedI (n := q) (os := #[]) (Lib.compact l ++ List.replicate (l.length - (Lib.compact l).length) 0).toArray hc
  rw [grow_empty] at hg2
  have ht := take_putCellsI cur (Lib.compact l ++ List.replicate (l.length - (Lib.compact l).length) 0) (by simp; omega)
  have ht2 := congrArg (List.take (Lib.compact l).length) ht
  rw [List.take_take, Nat.min_eq_left (by simp), List.map_append, List.take_left' (by simp)] at ht2
  refine ⟨rfl, ⟨some ⟨g, 0, none⟩, cap, rfl, by simp, .inr ⟨g, cap, _, rfl, hb, hg2, by omega, h2, by simp [putCells, h3], by rw [Nat.mul_one]; exact ht2⟩⟩, ?_⟩
  have := Chg.grown (S := fun k => k = g) (grownBy_sortedI (w := w) (g := g) (n := q) (os := #[]) (Lib.compact l ++ List.replicate (l.length - (Lib.compact l).length) 0).toArray) (fun k hk => by injection hk with hk; exact hk.symm)
  rwa [grow_empty] at this

end Att
end Go.Proofs.YthojgahcpkdemaaGreat

/- a word's lock -/
namespace Go.Proofs.YthojgahcpkdemaaGreat
open Go.RowKit Go.Bas
namespace Att

/-- a whole struct read in the midst of a row, in a quiet walk -/
theorem wpQuiet_load_mid {P : Program} {ops : Array Oper} {C : World → Prop} {Q : Act → Prop} {a : Act} {o : Oper} {rest : List Oper} (hw : Region.wanted o (yielded ops a.tmps) = true) (ty : TypeId) (x : Operand) (ho : o.op = .load ty x)
    (b of : Nat) (hx : a.eval x = .pointer (some ⟨b, of, none⟩)) (cs : List Value) (d : TypeDesc) (hc : ∀ w, C w → w.rangeAt b of cs)
    (hu : P.underlying ty = some d) (hd : d.isRow = true) (hi : (P.info? ty).map (·.size) = some cs.length)
    (h : wpQuiet P ops C Q rest (a.put o.dst (.agg cs.toArray))) : wpQuiet P ops C Q (o :: rest) a := by
  refine wpQuiet_step fun K hK => ?_
  rw [if_pos hw]
  refine ⟨.agg cs.toArray, fun w hC => ?_, hK _ h⟩
  unfold Oper.quietAt execOp
  simp only [ho, hx, Instr.loadAt, Instr.sureAddr, Sem.run_bind, Sem.run_pure, Result.andThen_ok, run_loadVar_mid w b of ty cs d (hc w hC) hu hd hi]
  exact ⟨rfl, rfl⟩

def env (c : Lay.Cfg) (a : Lay.At) (run : M → Int × M) : Env := ⟨c.stripes, c.clock, a.a11, run⟩

set_option maxRecDepth 100000 in
theorem lock_of (c : Lay.Cfg) (a : Lay.At) (run : M → Int × M) (hs : 1 ≤ c.stripes ∧ c.stripes ≤ 1048576) (x : Int) (hx : x ≤ 9223372036854775807) (w : World) :
    Calls Tryz.prog 78 #[.agg (Lay.lay c a), .int .i64 x] w fun e w' => e = .returned (.int .i64 (lock (env c a run) x)) ∧ Below w.heap.size w w' := by
  obtain ⟨B, hB⟩ : ∃ B, w.heap.size = B := ⟨_, rfl⟩
  obtain ⟨w1, hw1⟩ : ∃ w1, w.alloc (.cells (Lay.lay c a) 29) = w1 := ⟨_, rfl⟩
  have h1 : w1.heap[B]? = some (.cells (Lay.lay c a) 29 (0, 0)) := by rw [← hw1, ← hB]; exact new_row _ _ _
  have B1 : Hid (Below B w w1) := by rw [← hw1]; exact (Below.refl _ _).alloc (by omega) _
  have s1 : w1.heap.size = B + 1 := by rw [← hw1, ← hB]; simp
  have H1 := Lib.hid h1
  by_cases h0 : x < 0
  · have e : lock (env c a run) x = 0 := by unfold lock; rw [if_pos (.inl h0)]
    rw [e]
    clear h1
    go_enter Tryz.func78, Tryz.ntmps78
    go_wp2
    go_ret
    rw [hB]
    exact ⟨rfl, B1.out⟩
  · by_cases h2 : a.a11 ≤ x
    · have e : lock (env c a run) x = 0 := by unfold lock; rw [if_pos (.inr h2)]
      rw [e]
      clear h1
      go_enter Tryz.func78, Tryz.ntmps78
      go_wp2_with (first
        | (refine wpList_load_row_if rfl 29 _ rfl B rfl 29 (Lay.lay c a) (0, 0) _ H1.out Tryz.underlying29 rfl (Lay.lay_size c a) ?_)
        | (go_at_call 50; refine (Lay.words_any c a _).mono ?_; rintro e w2 ⟨rfl, hb2⟩))
      go_ret
      rw [hB]
      exact ⟨rfl, B1.out.trans (hb2.mono (by omega))⟩
    · have e : lock (env c a run) x = 3 + x % c.stripes := by unfold lock; rw [if_neg (by simp [env]; omega)]; rfl
      have e2 : wrap64 (3 + x % c.stripes) = 3 + x % c.stripes := by
        have := Int.emod_lt_of_pos x (show 0 < c.stripes by omega)
        have := Int.emod_nonneg x (show c.stripes ≠ 0 by omega)
        exact IntWalk.wrap64_in _ (by omega)
      have e3 : x.tmod c.stripes = x % c.stripes := Int.tmod_eq_emod_of_nonneg (by omega)
      rw [e]
      clear h1
      go_enter Tryz.func78, Tryz.ntmps78
      go_upto_region 3 with (first
        | (refine wpList_load_row_if rfl 29 _ rfl B rfl 29 (Lay.lay c a) (0, 0) _ H1.out Tryz.underlying29 rfl (Lay.lay_size c a) ?_)
        | (go_at_call 50; refine (Lay.words_any c a _).mono ?_; rintro e w2 ⟨rfl, hb2⟩))
      have h2 : w2.heap[B]? = some (.cells (Lay.lay c a) 29 (0, 0)) := by rw [hb2.block B (by omega)]; exact H1.out
      have k3 : w2.cell? ⟨B, 3, none⟩ = some (.int .i64 c.stripes) := by rw [cell_of_row _ _ _ _ _ _ h2]; rfl
      clear h2
      go_wp2
      go_ret
      rw [hB]
      exact ⟨by show Ending.returned (.int .i64 (wrap64 (3 + x % c.stripes))) = _; rw [e2], B1.out.trans (hb2.mono (by omega))⟩

end Att
end Go.Proofs.YthojgahcpkdemaaGreat

/- an attempt's steps: those whose regions draw nothing -/
namespace Go.Proofs.YthojgahcpkdemaaGreat
open Go.RowKit Go.Bas
namespace Att

theorem Row.keep {w w' : World} {b : Nat} {X : AV} {T : AT} (h : Row w b X T) (hb : w'.heap[b]? = w.heap[b]?) : Row w' b X T := Eq.trans hb h

set_option maxRecDepth 100000 in
theorem giveUp_any {w : World} {b : Nat} {X : AV} {T : AT} (H : Row w b X T) {A : Option Addr} {cp : Nat} (hv : X.vh = .slice A T.holds.length cp) (how : Int) :
    Calls Tryz.prog 81 #[.pointer (some ⟨b, 0, none⟩), .int .i64 how] w fun e w' => e = .returned (.tuple #[]) ∧ Row w' b X (giveUp T how) ∧ Chg (fun k => k = b) w w' := by
  have g1 := H.get; have g2 := H.set; have g3 := H.free; have g4 := H.get'; have g5 := H.set'; have g6 := H.free'
  have HH := Lib.hid H
  clear H
  by_cases h0 : T.holds = []
  · have e : giveUp T how = fin T how := by unfold giveUp; rw [if_pos h0]
    rw [e]
    have hn : T.holds.length = 0 := by rw [h0]; rfl
    rw [hn] at hv
    clear e h0
    go_enter Tryz.func81, Tryz.ntmps81
    go_wp2_with (first
      | (go_at_call 47; refine (end_any HH.out how).mono ?_; rintro e w2 ⟨rfl, hr, hc⟩; have HR := Lib.hid hr; clear hr))
    refine bodyPost_ret (results_none rfl _ _ _) rfl ?_
    exact ⟨rfl, HR.out, hc⟩
  · have e : giveUp T how = { T with phase := 9, how := how, at_ := 0 } := by unfold giveUp; rw [if_neg h0]
    rw [e]
    obtain ⟨n, hn⟩ : ∃ n, T.holds.length = n := ⟨_, rfl⟩
    have hp : 0 < n := by rw [← hn]; exact List.length_pos_iff.2 h0
    rw [hn] at hv
    clear e h0 hn
    go_enter Tryz.func81, Tryz.ntmps81
    go_wp2
    go_end0
    exact ⟨rfl, HH.out.now, Row.chg _⟩

set_option maxRecDepth 100000 in
theorem next_any {w : World} {b : Nat} {X : AV} {T : AT} (H : Row w b X T) (phase : Int) (hp : 0 ≤ phase ∧ phase ≤ 100) (n : Nat) :
    Calls Tryz.prog 88 #[.pointer (some ⟨b, 0, none⟩), .int .i64 phase, .int .i64 n] w fun e w' => e = .returned (.tuple #[]) ∧ Row w' b X (next T phase n) ∧ Chg (fun k => k = b) w w' := by
  have g1 := H.get; have g2 := H.set; have g3 := H.free; have g4 := H.get'; have g5 := H.set'; have g6 := H.free'
  have HH := Lib.hid H
  clear H
  by_cases h0 : n = 0
  · subst h0
    have e1 : wrap64 (phase + 1) = phase + 1 := IntWalk.wrap64_in _ (by omega)
    go_enter Tryz.func88, Tryz.ntmps88
    go_wp2
    go_end0
    exact ⟨rfl, HH.out.now, Row.chg _⟩
  · have e : next T phase n = { T with phase := phase, at_ := 0 } := by unfold next; rw [if_neg h0]
    rw [e]
    clear e
    go_enter Tryz.func88, Tryz.ntmps88
    go_wp2
    go_end0
    exact ⟨rfl, HH.out.now, Row.chg _⟩

set_option maxRecDepth 100000 in
theorem step_any {w : World} {b : Nat} {X : AV} {T : AT} (H : Row w b X T) (hat : 0 ≤ T.at_ ∧ T.at_ ≤ 1000000) (n : Nat) :
    Calls Tryz.prog 89 #[.pointer (some ⟨b, 0, none⟩), .int .i64 n] w fun e w' => e = .returned (.bool (decide ((n : Int) ≤ T.at_ + 1))) ∧ Row w' b X { T with at_ := T.at_ + 1 } ∧ Chg (fun k => k = b) w w' := by
  have g1 := H.get; have g2 := H.set; have g3 := H.free; have g4 := H.get'; have g5 := H.set'; have g6 := H.free'
  have HH := Lib.hid H
  have e1 : wrap64 (T.at_ + 1) = T.at_ + 1 := IntWalk.wrap64_in _ (by omega)
  clear H
  go_enter Tryz.func89, Tryz.ntmps89
  go_wp2
  go_ret
  exact ⟨rfl, HH.out.now, Row.chg _⟩

set_option maxRecDepth 100000 in
theorem loads_any {w : World} {b : Nat} {X : AV} {T : AT} {a g : Nat} {W : List Int} {c : Int} (H : Row w b X T) (HA : Ar w a g W c) (hc : 0 ≤ c ∧ c < 4611686018427387904) (hne : b ≠ a ∧ b ≠ g) :
    Calls Tryz.prog 65 #[.pointer (some ⟨b, 0, none⟩), .pointer (some ⟨a, 0, none⟩)] w fun e w' => e = .returned (.tuple #[]) ∧ Row w' b X (loads T W) ∧ Ar w' a g W (c + cnt W T.na) ∧ Chg (fun k => k = b ∨ k = a ∨ k = g) w w' := by
  have g1 := H.get
  have hbl := H.lt
  have HH := Lib.hid H
  have LD := Lib.hid (load_any HA hc T.na)
  clear H HA
  go_enter Tryz.func65, Tryz.ntmps65
  go_wp2_with (first
      | (go_at_call 19; refine LD.out.mono ?_; rintro e w2 ⟨rfl, ha, hc2⟩
         have HA2 := Lib.hid ha
         have R2 : Row w2 b X T := HH.out.keep (hc2.block b hbl (fun h => h.elim hne.1 hne.2))
         have q1 := R2.get
         have q2 := R2.set
         have q3 := R2.free
         have q4 := R2.get'
         have q5 := R2.set'
         have q6 := R2.free'
         have HR := Lib.hid R2
         clear R2 ha))
  go_end0
  exact ⟨rfl, HR.out.now, HA2.out.kept (setRow_other _ _ _ _ (Ne.symm hne.1)) (setRow_other _ _ _ _ (Ne.symm hne.2)), (hc2.mono (fun _ _ h => .inr h)).trans ((Row.chg _).mono (fun _ _ h => .inl h))⟩

end Att
end Go.Proofs.YthojgahcpkdemaaGreat

/- an attempt sees the clock -/
namespace Go.Proofs.YthojgahcpkdemaaGreat
open Go.RowKit Go.Bas
namespace Att

theorem Ar.after {w w' : World} {a g b : Nat} {W : List Int} {c : Int} (h : Ar w a g W c) (hc : Chg (fun k => k = b) w w') (hne : b ≠ a ∧ b ≠ g) : Ar w' a g W c :=
  h.kept (hc.block a h.lt.1 (fun e => hne.1 e.symm)) (hc.block g h.lt.2 (fun e => hne.2 e.symm))

set_option maxRecDepth 100000 in
set_option maxHeartbeats 1000000 in
theorem sees_any {w : World} {b : Nat} {X : AV} {T : AT} {a g : Nat} {W : List Int} {c : Int} (H : Row w b X T) (HA : Ar w a g W c) (hc : 0 ≤ c ∧ c < 4611686018427387904) (hne : b ≠ a ∧ b ≠ g) (run : M → Int × M) :
    Calls Tryz.prog 63 #[.pointer (some ⟨b, 0, none⟩), .pointer (some ⟨a, 0, none⟩)] w fun e w' => e = .returned (.tuple #[]) ∧ Row w' b X (sees (env X.c X.a run) T W) ∧ Ar w' a g W (c + cnt W 1) ∧ Chg (fun k => k = b ∨ k = a ∨ k = g) w w' := by
  have hbl := H.lt
  have HH := Lib.hid H
  have LD := Lib.hid (load_any HA hc 1)
  obtain ⟨s, hs⟩ : ∃ s, ld W 1 = s := ⟨_, rfl⟩
  rw [hs] at LD
  have T1 : ∃ T1 : AT, T1 = { T with seen := s, na := 2, phase := 1 } := ⟨_, rfl⟩
  obtain ⟨T1, hT1⟩ := T1
  have eS : sees (env X.c X.a run) T W = if X.c.clock ≤ s then fin { T1 with stamp := s } 3 else T1 := by rw [hT1]; unfold sees; rw [hs]; rfl
  rw [eS]
  clear H HA eS hs
  go_enter Tryz.func63, Tryz.ntmps63
  go_upto_region 3 with (first
      | (go_at_call 19; refine LD.out.mono ?_; rintro e w2 ⟨rfl, ha, hc2⟩
         have HA2 := Lib.hid ha
         have R2 : Row w2 b X T := HH.out.keep (hc2.block b hbl (fun h => h.elim hne.1 hne.2))
         have q1 := R2.get
         have q2 := R2.set
         have q3 := R2.free
         have q4 := R2.get'
         have q5 := R2.set'
         have q6 := R2.free'
         have HR := Lib.hid R2
         clear R2 ha))
  clear q1 q2 q3 q4 q5 q6
  obtain ⟨w3, hw3⟩ : ∃ w3, w2.setRow b (attRow X T1) = w3 := ⟨_, rfl⟩
  have R3 : Row w3 b X T1 := by rw [← hw3]; exact HR.out.now
  have C3 : Hid (Chg (fun k => k = b ∨ k = a ∨ k = g) w w3) := by rw [← hw3]; exact (hc2.mono (fun _ _ h => .inr h)).trans ((Row.chg _).mono (fun _ _ h => .inl h))
  have A3 : Hid (Ar w3 a g W (c + cnt W 1)) := by rw [← hw3]; exact HA2.out.after (Row.chg _) hne
  have e27 : T1.seen = s := by rw [hT1]
  rw [show ({ T with seen := s, na := 2, phase := 1 } : AT) = T1 from hT1.symm, hw3]
  clear hw3 hT1
  have z1 : ∀ e : Ext (w3.heap.size) w3, e.at_.cell? ⟨b, 27, none⟩ = some (.int .i64 s) := ext_cell R3 R3.lt (by rw [att_get27, e27])
  have RR : Hid (∀ w', (∃ e : Ext w3.heap.size w3, w' = e.1) → w'.rangeAt b 0 (Lay.lay X.c X.a).toList) := by
    rintro _ ⟨e, rfl⟩
    exact row_range (ext_row R3 R3.lt _ ⟨e, rfl⟩) 0 _ (att_lay X T1)
  have hsz : (Tryz.prog.info? 29).map (·.size) = some (Lay.lay X.c X.a).toList.length := Lay.lay_size X.c X.a
  have HR3 := Lib.hid R3
  refine wp_region_mono w3.heap.size (by kernel_rfl) (by kernel_rfl) ?_
  repeat (any_goals (first
      | (refine wpQuiet_load_mid rfl 29 _ rfl b 0 rfl (Lay.lay X.c X.a).toList _ RR.out Tryz.underlying29 rfl hsz ?_; go_simp)
      | go_big_quiet_step ((go_at_call 20; exact Calls.ext (Nat.le_refl _) (Lay.config_any X.c X.a _)))))
  refine wpQuiet_nil ?_
  rintro ⟨w4, hb4⟩
  have R4 : Row w4 b X T1 := by have := hb4.block b R3.lt; exact R3.keep this
  have A4 : Hid (Ar w4 a g W (c + cnt W 1)) := A3.out.below hb4
  have C4 : Hid (Chg (fun k => k = b ∨ k = a ∨ k = g) w w4) := C3.out.trans ((Chg.of_below hb4).mono (fun k h1 h2 => by omega))
  clear z1 RR hsz R3 HR3 A3 C3
  by_cases h : X.c.clock ≤ s
  · have e7 : (if X.c.clock ≤ s then fin { T1 with stamp := s } 3 else T1) = fin { T1 with stamp := s } 3 := if_pos h
    have p1 := R4.get; have p2 := R4.set; have p3 := R4.free; have p4 := R4.get'; have p5 := R4.set'; have p6 := R4.free'
    have HR4 := Lib.hid R4
    have E7 := Lib.hid e7
    clear e7
    obtain ⟨w5, hw5⟩ : ∃ w5, w4.setRow b (attRow X { T1 with seen := s, stamp := s }) = w5 := ⟨_, rfl⟩
    have e8 : ({ T1 with seen := s, stamp := s } : AT) = { T1 with stamp := s } := by rw [← e27]
    have R5 : Hid (Row w5 b X { T1 with seen := s, stamp := s }) := by rw [← hw5]; exact HR4.out.now
    have A5 : Hid (Ar w5 a g W (c + cnt W 1)) := by rw [← hw5]; exact A4.out.after (Row.chg _) hne
    have C5 : Hid (Chg (fun k => k = b ∨ k = a ∨ k = g) w w5) := by rw [← hw5]; exact C4.out.trans ((Row.chg _).mono (fun _ _ h => .inl h))
    clear R4 e8
    go_wp2_with (first
      | (go_at_call 47; refine (end_any R5.out 3).mono ?_; rintro e w6 ⟨rfl, hr, hc6⟩; have HR6 := Lib.hid hr; clear hr))
    go_end0
    exact ⟨rfl, by first | exact HR6.out | (rw [E7.out]; exact HR6.out), A5.out.after hc6 hne, C5.out.trans (hc6.mono (fun _ _ h => .inl h))⟩
  · have e7 : (if X.c.clock ≤ s then fin { T1 with stamp := s } 3 else T1) = T1 := if_neg h
    have HR4 := Lib.hid R4
    have E7 := Lib.hid e7
    clear e7
    clear R4
    go_wp2
    go_end0
    exact ⟨rfl, by first | exact HR4.out | (rw [E7.out]; exact HR4.out), A4.out, C4.out⟩

end Att
end Go.Proofs.YthojgahcpkdemaaGreat

/- what is written: plain Lean -/
namespace Go.Proofs.YthojgahcpkdemaaGreat
open SorPlain IMap_ VIn VPlain
namespace VPlain

theorem put_cons (a x : Int) (q : Int × Int) (r : M) : put a x (q :: r) = if q.1 < a then q :: put a x r else if q.1 = a then (a, x) :: r else (a, x) :: q :: r := by
  by_cases h1 : q.1 < a
  · have hp : place a (q :: r) = place a r + 1 := by simp [place, keys, lower, h1]
    have hh : has a (q :: r) = has a r := by simp [has, keys, lower, h1]
    rw [if_pos h1]
    unfold put
    rw [hp, hh, show place a r + 1 + (if has a r = true then 1 else 0) = (place a r + (if has a r = true then 1 else 0)) + 1 by omega]
    simp
  · have hp : place a (q :: r) = 0 := by simp [place, keys, lower, h1]
    rw [if_neg h1]
    by_cases h2 : q.1 = a
    · have hh : has a (q :: r) = true := by simp [has, keys, lower, h1, h2]
      rw [if_pos h2]
      unfold put
      rw [hp, hh]; simp
    · have hh : has a (q :: r) = false := by simp [has, keys, lower, h1, h2]
      rw [if_neg h2]
      unfold put
      rw [hp, hh]; simp
/-- the first pair of an address -/
def first (l : M) (a : Int) : Option Int := (l.find? (fun p => p.1 == a)).map (·.2)
theorem first_rising {m : M} (hs : Rising m) (a : Int) : first m a = if has a m then some (getD a 0 m) else none := by
  induction m with
  | nil => simp [first, has, keys, lower]
  | cons q r ih =>
    have hs' : Rising r := by unfold Rising keys at *; simp at hs; exact hs.2
    have hlt : ∀ p ∈ r, q.1 < p.1 := fun p hp => by
      unfold Rising keys at hs
      rw [List.map_cons, List.pairwise_cons] at hs
      exact hs.1 _ (List.mem_map_of_mem hp)
    by_cases h1 : q.1 < a
    · have hp : place a (q :: r) = place a r + 1 := by simp [place, keys, lower, h1]
      have hh : has a (q :: r) = has a r := by simp [has, keys, lower, h1]
      have hne : ¬ q.1 = a := by omega
      have e : first (q :: r) a = first r a := by simp [first, hne]
      rw [e, ih hs', hh]
      unfold getD
      rw [hh, hp]
      simp
    · by_cases h2 : q.1 = a
      · have hp : place a (q :: r) = 0 := by simp [place, keys, lower, h1]
        have hh : has a (q :: r) = true := by simp [has, keys, lower, h1, h2]
        rw [hh]
        unfold getD
        rw [hh, hp]
        simp [first, h2]
      · have hh : has a (q :: r) = false := by simp [has, keys, lower, h1, h2]
        rw [hh]
        have : r.find? (fun p => p.1 == a) = none := by
          rw [List.find?_eq_none]
          intro p hp
          have := hlt p hp
          simp; omega
        simp [first, h2, this]
theorem mem_put (a x : Int) (p : Int × Int) : ∀ {m : M}, Rising m → (p ∈ put a x m ↔ p = (a, x) ∨ (p ∈ m ∧ p.1 ≠ a))
  | [], _ => by simp [put, place, has, keys, lower]
  | q :: r, hs => by
    have hs' : Rising r := by unfold Rising keys at *; simp at hs; exact hs.2
    have hlt : ∀ p ∈ r, q.1 < p.1 := fun p hp => by
      unfold Rising keys at hs
      rw [List.map_cons, List.pairwise_cons] at hs
      exact hs.1 _ (List.mem_map_of_mem hp)
    rw [put_cons]
    by_cases h1 : q.1 < a
    · rw [if_pos h1, List.mem_cons, mem_put a x p hs', List.mem_cons]
      constructor
      · rintro (rfl | rfl | ⟨h, h'⟩)
        · exact .inr ⟨.inl rfl, by omega⟩
        · exact .inl rfl
        · exact .inr ⟨.inr h, h'⟩
      · rintro (rfl | ⟨rfl | h, h'⟩)
        · exact .inr (.inl rfl)
        · exact .inl rfl
        · exact .inr (.inr ⟨h, h'⟩)
    · rw [if_neg h1]
      by_cases h2 : q.1 = a
      · rw [if_pos h2, List.mem_cons, List.mem_cons]
        constructor
        · rintro (rfl | h)
          · exact .inl rfl
          · exact .inr ⟨.inr h, by have := hlt p h; omega⟩
        · rintro (rfl | ⟨rfl | h, h'⟩)
          · exact .inl rfl
          · exact absurd h2 h'
          · exact .inr h
      · rw [if_neg h2, List.mem_cons]
        constructor
        · rintro (rfl | h)
          · exact .inl rfl
          · refine .inr ⟨h, ?_⟩
            rcases List.mem_cons.1 h with rfl | h
            · exact h2
            · have := hlt p h; omega
        · rintro (rfl | ⟨h, _⟩)
          · exact .inl rfl
          · exact .inr h
theorem wr_rising {m : M} (hs : Rising m) (a x : Int) : Rising (wr m a x) := by
  unfold wr
  split
  · exact hs
  · exact hs.put a x
theorem wr_pos {m : M} (h : Rising m ∧ ∀ p ∈ m, 0 ≤ p.1) (a x : Int) : Rising (wr m a x) ∧ ∀ p ∈ wr m a x, 0 ≤ p.1 := by
  refine ⟨wr_rising h.1 a x, fun p hp => ?_⟩
  unfold wr at hp
  split at hp
  · exact h.2 p hp
  · rcases (mem_put _ _ _ h.1).1 hp with rfl | ⟨hp, _⟩
    · show 0 ≤ a; omega
    · exact h.2 p hp

end VPlain
end Go.Proofs.YthojgahcpkdemaaGreat

/- programs over a view, in plain Lean: what they read, write and tell -/
namespace Go.Proofs.YthojgahcpkdemaaGreat
open SorPlain IMap_ VIn VPlain
namespace VPlain

/-- a program over a view -/
inductive Prog (α : Type) where
  | ret (x : α)
  | read (a : Int) (k : Int → Prog α)
  | write (a x : Int) (k : Prog α)
namespace Prog
variable {α β : Type}
def bind : Prog α → (α → Prog β) → Prog β
  | ret x, g => g x
  | read a k, g => read a fun y => (k y).bind g
  | write a x k, g => write a x (k.bind g)
instance : Monad Prog where
  pure := ret
  bind := bind
def rd1 (a : Int) : Prog Int := read a ret
def wr1 (a x : Int) : Prog Unit := write a x (ret ())

/-- run as far as what it reads is known -/
def run (f : Int → Option Int) : Prog α → M → List Int → (Int ⊕ α) × M × List Int
  | ret x, m, qs => (.inr x, m, qs)
  | read a k, m, qs => match rd f m a with
    | some y => (k y).run f m (asks m a qs)
    | none => (.inl a, m, qs)
  | write a x k, m, qs => k.run f (wr m a x) qs
theorem run_bind (f : Int → Option Int) (g : α → Prog β) : ∀ (p : Prog α) (m : M) (qs : List Int),
    (p.bind g).run f m qs = (match p.run f m qs with | (.inr x, m', qs') => (g x).run f m' qs' | (.inl a, m', qs') => (.inl a, m', qs'))
  | ret x, m, qs => rfl
  | read a k, m, qs => by
    simp only [bind, run]
    cases rd f m a with
    | some y => exact run_bind f g (k y) m _
    | none => rfl
  | write a x k, m, qs => by simp only [bind, run]; exact run_bind f g k _ _
theorem run_bind' (f : Int → Option Int) (g : α → Prog β) (p : Prog α) (m : M) (qs : List Int) :
    (p >>= g).run f m qs = (match p.run f m qs with | (.inr x, m', qs') => (g x).run f m' qs' | (.inl a, m', qs') => (.inl a, m', qs')) := run_bind f g p m qs
theorem run_inr {f : Int → Option Int} {g : α → Prog β} {p : Prog α} {m m' : M} {qs qs' : List Int} {x : α} (h : p.run f m qs = (.inr x, m', qs')) : (p >>= g).run f m qs = (g x).run f m' qs' := by
  rw [run_bind', h]
theorem run_inl {f : Int → Option Int} {g : α → Prog β} {p : Prog α} {m m' : M} {qs qs' : List Int} {a : Int} (h : p.run f m qs = (.inl a, m', qs')) : (p >>= g).run f m qs = (.inl a, m', qs') := by
  rw [run_bind', h]
@[simp] theorem run_pure (f : Int → Option Int) (x : α) (m : M) (qs : List Int) : (pure x : Prog α).run f m qs = (.inr x, m, qs) := rfl
theorem bind_assoc' {γ : Type} (g : α → Prog β) (h : β → Prog γ) : ∀ p : Prog α, (p.bind g).bind h = p.bind fun x => (g x).bind h
  | ret x => rfl
  | read a k => by simp only [bind]; congr 1; funext y; exact bind_assoc' g h (k y)
  | write a x k => by simp only [bind]; congr 1; exact bind_assoc' g h k
theorem bind_assoc {γ : Type} (p : Prog α) (g : α → Prog β) (h : β → Prog γ) : (p >>= g) >>= h = p >>= fun x => g x >>= h := bind_assoc' g h p
theorem ret_bind (x : α) (g : α → Prog β) : (pure x >>= g) = g x := rfl

/-- at most so many writes, on each way -/
def Writes : Nat → Prog α → Prop
  | _, ret _ => True
  | n, read _ k => ∀ y, Writes n (k y)
  | 0, write _ _ _ => False
  | n + 1, write _ _ k => Writes n k
theorem Writes.mono : ∀ {n n' : Nat} {p : Prog α}, Writes n p → n ≤ n' → Writes n' p
  | _, _, ret _, _, _ => by cases ‹Nat› <;> cases ‹Nat› <;> trivial
  | n, n', read a k, h, hn => by
    unfold Writes at h ⊢
    exact fun y => (h y).mono hn
  | 0, _, write a x k, h, hn => by unfold Writes at h; exact h.elim
  | n + 1, 0, write a x k, h, hn => by omega
  | n + 1, n' + 1, write a x k, h, hn => by
    unfold Writes at h ⊢
    exact Writes.mono h (by omega)
theorem Writes.pure (n : Nat) (x : α) : Writes n (Pure.pure x : Prog α) := by cases n <;> trivial
theorem Writes.bind : ∀ {n k : Nat} {p : Prog α} {g : α → Prog β}, Writes n p → (∀ x, Writes k (g x)) → Writes (n + k) (p >>= g)
  | n, k, ret x, g, _, hg => (hg x).mono (by omega)
  | n, k, read a c, g, h, hg => by
    unfold Writes at h
    show Writes (n + k) (read a fun y => (c y).bind g)
    unfold Writes
    exact fun y => Writes.bind (h y) hg
  | 0, k, write a x c, g, h, hg => by unfold Writes at h; exact h.elim
  | n + 1, k, write a x c, g, h, hg => by
    unfold Writes at h
    rw [show n + 1 + k = (n + k) + 1 by omega]
    show Writes (n + k + 1) (write a x (c.bind g))
    unfold Writes
    exact Writes.bind h hg
theorem Writes.rd1 (a : Int) : Writes 0 (rd1 a) := fun _ => trivial
theorem Writes.wr1 (a x : Int) : Writes 1 (wr1 a x) := by unfold Prog.wr1 Writes; exact trivial
theorem Writes.run : ∀ {n : Nat} {p : Prog α} (_ : Writes n p) (f : Int → Option Int) (m : M) (qs : List Int), (p.run f m qs).2.1.length ≤ m.length + n
  | n, ret x, _, f, m, qs => by simp [Prog.run]
  | n, read a k, h, f, m, qs => by
    unfold Writes at h
    simp only [Prog.run]
    cases rd f m a with
    | some y => exact (h y).run f m _
    | none => simp
  | 0, write a x k, h, f, m, qs => by unfold Writes at h; exact h.elim
  | n + 1, write a x k, h, f, m, qs => by
    unfold Writes at h
    simp only [Prog.run]
    have h1 := Writes.run h f (wr m a x) qs
    have h2 : (wr m a x).length ≤ m.length + 1 := by
      unfold wr
      split
      · omega
      · rw [put_length]; split <;> omega
    omega

/-- all addresses that are needed are from 0 on -/
theorem run_need (f : Int → Option Int) : ∀ (p : Prog α) (m : M) (qs : List Int) (a : Int), (p.run f m qs).1 = .inl a → 0 ≤ a
  | ret x, m, qs, a, h => by simp [run] at h
  | read b k, m, qs, a, h => by
    simp only [run] at h
    cases hr : rd f m b with
    | some y => rw [hr] at h; exact run_need f (k y) m _ a h
    | none =>
      rw [hr] at h; simp at h; subst h
      unfold rd at hr
      split at hr
      · cases hr
      · omega
  | write b x k, m, qs, a, h => run_need f k _ _ a h
/-- what is written is at rising addresses from 0 on -/
theorem run_wrote (f : Int → Option Int) : ∀ (p : Prog α) (m : M) (qs : List Int), (Rising m ∧ ∀ q ∈ m, 0 ≤ q.1) → Rising (p.run f m qs).2.1 ∧ ∀ q ∈ (p.run f m qs).2.1, 0 ≤ q.1
  | ret x, m, qs, h => h
  | read b k, m, qs, h => by
    simp only [run]
    cases rd f m b with
    | some y => exact run_wrote f (k y) m _ h
    | none => exact h
  | write b x k, m, qs, h => by simp only [run]; exact run_wrote f k _ _ (wr_pos h b x)

/- over words that are all there -/
/-- run over words: reads below 0 are 0, writes below 0 nothing -/
def over : Prog α → (Int → Int) → α × (Int → Int)
  | ret x, μ => (x, μ)
  | read a k, μ => (k (if a < 0 then 0 else μ a)).over μ
  | write a x k, μ => k.over (if a < 0 then μ else fun b => if b = a then x else μ b)
theorem over_bind (g : α → Prog β) : ∀ (p : Prog α) (μ : Int → Int), (p >>= g).over μ = (g (p.over μ).1).over (p.over μ).2
  | ret x, μ => rfl
  | read a k, μ => over_bind g (k _) μ
  | write a x k, μ => over_bind g k _
@[simp] theorem over_pure (x : α) (μ : Int → Int) : (pure x : Prog α).over μ = (x, μ) := rfl
@[simp] theorem over_rd1 (a : Int) (μ : Int → Int) : (rd1 a).over μ = (if a < 0 then 0 else μ a, μ) := rfl
@[simp] theorem over_wr1 (a x : Int) (μ : Int → Int) : (wr1 a x).over μ = ((), if a < 0 then μ else fun b => if b = a then x else μ b) := rfl
/-- all that is read and written is below L -/
def Within (L : Int) : Prog α → (Int → Int) → Prop
  | ret _, _ => True
  | read a k, μ => a < L ∧ Within L (k (if a < 0 then 0 else μ a)) μ
  | write a x k, μ => a < L ∧ Within L k (if a < 0 then μ else fun b => if b = a then x else μ b)
theorem Within.bind {L : Int} {g : α → Prog β} : ∀ {p : Prog α} {μ : Int → Int}, Within L p μ → Within L (g (p.over μ).1) (p.over μ).2 → Within L (p >>= g) μ
  | ret x, μ, _, h => h
  | read a k, μ, h1, h2 => ⟨h1.1, Within.bind h1.2 h2⟩
  | write a x k, μ, h1, h2 => ⟨h1.1, Within.bind h1.2 h2⟩
theorem Within.pure (L : Int) (x : α) (μ : Int → Int) : Within L (Pure.pure x : Prog α) μ := trivial
theorem Within.rd1 {L a : Int} (h : a < L) (μ : Int → Int) : Within L (rd1 a) μ := ⟨h, trivial⟩
theorem Within.wr1 {L a : Int} (h : a < L) (x : Int) (μ : Int → Int) : Within L (wr1 a x) μ := ⟨h, trivial⟩

end Prog
/-- words under what was written -/
def ov (μ : Int → Int) (m : M) (a : Int) : Int := (first m a).getD (μ a)
theorem ov_nil (μ : Int → Int) : ov μ [] = μ := by funext a; rfl
theorem first_cons (q : Int × Int) (r : M) (a : Int) : first (q :: r) a = if q.1 = a then some q.2 else first r a := by
  unfold first
  rw [List.find?_cons]
  by_cases h : q.1 = a
  · simp [h]
  · have : (q.1 == a) = false := by simpa using h
    rw [this, if_neg h]
theorem first_put (a x b : Int) : ∀ {m : M}, Rising m → first (put a x m) b = if b = a then some x else first m b
  | [], _ => by
    have : put a x ([] : M) = [(a, x)] := by simp [put, place, has, keys, lower]
    rw [this, first_cons]
    by_cases h : b = a
    · simp [h]
    · rw [if_neg h, if_neg (fun e => h e.symm)]
  | q :: r, hs => by
    have hs' : Rising r := by unfold Rising keys at *; simp at hs; exact hs.2
    rw [put_cons]
    by_cases h1 : q.1 < a
    · rw [if_pos h1, first_cons, first_put a x b hs', first_cons]
      by_cases h2 : q.1 = b
      · rw [if_pos h2, if_pos h2, if_neg (by omega)]
      · rw [if_neg h2, if_neg h2]
    · rw [if_neg h1]
      by_cases h2 : q.1 = a
      · rw [if_pos h2, first_cons, first_cons]
        by_cases h3 : b = a
        · rw [if_pos h3.symm, if_pos h3]
        · rw [if_neg (fun e => h3 e.symm), if_neg h3, if_neg (by omega)]
      · rw [if_neg h2, first_cons]
        by_cases h3 : b = a
        · rw [if_pos h3.symm, if_pos h3]
        · rw [if_neg (fun e => h3 e.symm), if_neg h3]
theorem rd_first (f : Int → Option Int) {m : M} (hs : Rising m) (a : Int) : rd f m a = if a < 0 then some 0 else match first m a with | some x => some x | none => f a := by
  unfold rd
  rw [first_rising hs]
  split
  · rfl
  · cases has a m <;> rfl
/-- over words that are all there a program goes on as over plain words -/
theorem Prog.run_over {α : Type} {L : Int} {f : Int → Option Int} {μ : Int → Int} (hf : ∀ a, 0 ≤ a → a < L → f a = some (μ a)) : ∀ (p : Prog α) (m : M) (qs : List Int), Rising m → Prog.Within L p (ov μ m) →
    (p.run f m qs).1 = .inr (p.over (ov μ m)).1 ∧ ov μ (p.run f m qs).2.1 = (p.over (ov μ m)).2 ∧ Rising (p.run f m qs).2.1
  | .ret x, m, qs, hs, _ => ⟨rfl, rfl, hs⟩
  | .read a k, m, qs, hs, h => by
    have hr : rd f m a = some (if a < 0 then 0 else ov μ m a) := by
      rw [rd_first f hs]
      split
      · rfl
      · rename_i h0
        unfold ov
        cases first m a with
        | some x => rfl
        | none => exact hf a (by omega) h.1
    simp only [Prog.run, hr]
    exact Prog.run_over hf (k _) m _ hs h.2
  | .write a x k, m, qs, hs, h => by
    have e : ov μ (wr m a x) = if a < 0 then ov μ m else fun b => if b = a then x else ov μ m b := by
      unfold wr
      split
      · rfl
      · funext b
        unfold ov
        rw [first_put a x b hs]
        split <;> rfl
    have h2 : Prog.Within L k (ov μ (wr m a x)) := by rw [e]; exact h.2
    have := Prog.run_over hf k (wr m a x) qs (wr_rising hs a x) h2
    simp only [Prog.run]
    rw [e] at this
    exact this
theorem Prog.run_total {α : Type} {L : Int} {f : Int → Option Int} {μ : Int → Int} (hf : ∀ a, 0 ≤ a → a < L → f a = some (μ a)) (p : Prog α) (m : M) (qs : List Int) (hs : Rising m) (h : Prog.Within L p (ov μ m)) : ∃ x m' qs', p.run f m qs = (.inr x, m', qs') :=
  ⟨_, _, _, Prod.ext (Prog.run_over hf p m qs hs h).1 rfl⟩
/-- what is written is below L -/
theorem Prog.wrote_lt {α : Type} {L : Int} {f : Int → Option Int} {μ : Int → Int} (hf : ∀ a, 0 ≤ a → a < L → f a = some (μ a)) : ∀ (p : Prog α) (m : M) (qs : List Int), Rising m → (∀ q ∈ m, q.1 < L) → Prog.Within L p (ov μ m) →
    ∀ q ∈ (p.run f m qs).2.1, q.1 < L
  | .ret x, m, qs, hs, hm, _ => hm
  | .read a k, m, qs, hs, hm, h => by
    have hr : rd f m a = some (if a < 0 then 0 else ov μ m a) := by
      rw [rd_first f hs]
      split
      · rfl
      · rename_i h0
        unfold ov
        cases first m a with
        | some x => rfl
        | none => exact hf a (by omega) h.1
    simp only [Prog.run, hr]
    exact Prog.wrote_lt hf (k _) m _ hs hm h.2
  | .write a x k, m, qs, hs, hm, h => by
    have e : ov μ (wr m a x) = if a < 0 then ov μ m else fun b => if b = a then x else ov μ m b := by
      unfold wr
      split
      · rfl
      · funext b
        unfold ov
        rw [first_put a x b hs]
        split <;> rfl
    have h2 : Prog.Within L k (ov μ (wr m a x)) := by rw [e]; exact h.2
    simp only [Prog.run]
    refine Prog.wrote_lt hf k (wr m a x) qs (wr_rising hs a x) (fun q hq => ?_) h2
    unfold wr at hq
    split at hq
    · exact hm q hq
    · rcases (mem_put _ _ _ hs).1 hq with rfl | ⟨hq, _⟩
      · exact h.1
      · exact hm q hq

end VPlain
end Go.Proofs.YthojgahcpkdemaaGreat

/- functions that are programs over a view -/
namespace Go.Proofs.YthojgahcpkdemaaGreat
open Go.RowKit Go.Bas SorPlain Go.Sor IMap_ VIn VPlain MapI
namespace View

/-- what a function that is a program over the view leaves -/
def Does {α : Type} (A : Ask) (P : Nat → Prop) (bv bm : Nat) (p : Prog α) (m : M) (qs : List Int) (w : World) (Res : α → Value → World → Prop) (e : Ending) (w' : World) : Prop :=
  (∃ a m' qs', p.run A.f m qs = (.inl a, m', qs') ∧ e = .panicked [{ v := .iface 110 (.int .i64 a), recovered := false }] ∧ VWs A P bv bm true qs' m' w' ∧ Kept P w w') ∨
  (∃ x v m' qs', p.run A.f m qs = (.inr x, m', qs') ∧ e = .returned v ∧ Res x v w' ∧ VWs A P bv bm true qs' m' w' ∧ Kept P w w')

/-- an int -/
def IntRes (x : Int) (v : Value) (_ : World) : Prop := v = .int .i64 x ∧ In64 x
def UnitRes (_ : Unit) (v : Value) (_ : World) : Prop := v = .tuple #[]
def BoolRes (x : Bool) (v : Value) (_ : World) : Prop := v = .bool x

theorem Kept.alloc {P : Nat → Prop} {w w' : World} {o : Obj} (h : Kept (fun k => P k ∨ k = w.heap.size) (w.alloc o) w') : Kept P w w' :=
  (Chg.alloc _ w o).trans (h.mono fun k _ hn hp => hn (.inl hp))
theorem VWs.box {A : Ask} {P : Nat → Prop} {bv bm : Nat} {st : Bool} {qs : List Int} {m : M} {w : World} (h : VWs A P bv bm st qs m w) (o : Obj) : VWs A (fun k => P k ∨ k = w.heap.size) bv bm st qs m (w.alloc o) :=
  h.add ((Below.refl _ _).alloc (Nat.le_refl _) _) (fun k hk => hk.imp id (fun e => by simp; omega))
theorem Does.unbox {α : Type} {A : Ask} {P : Nat → Prop} {bv bm : Nat} {p : Prog α} {m : M} {qs : List Int} {w : World} {o : Obj} {Res : α → Value → World → Prop} {e : Ending} {w' : World}
    (h : Does A (fun k => P k ∨ k = w.heap.size) bv bm p m qs (w.alloc o) Res e w') : Does A P bv bm p m qs w Res e w' := by
  rcases h with ⟨a, m', qs', h1, h2, h3, h4⟩ | ⟨x, v, m', qs', h1, h2, h3, h4, h5⟩
  · exact .inl ⟨a, m', qs', h1, h2, h3.less (fun k hk => .inl hk), Kept.alloc h4⟩
  · exact .inr ⟨x, v, m', qs', h1, h2, h3, h4.less (fun k hk => .inl hk), Kept.alloc h5⟩
/-- a block that is left alone is as it was -/
theorem Kept.row {P : Nat → Prop} {w w' : World} (h : Kept P w w') {g : Nat} {o : Obj} (hg : w.heap[g]? = some o) (hp : P g) : w'.heap[g]? = some o := by
  rw [h.block g (Array.getElem?_eq_some_iff.1 hg).1 (fun hn => hn hp)]; exact hg

theorem read_does {A : Ask} {P : Nat → Prop} {bv bm : Nat} {qs : List Int} {m : M} {w : World} (h : VWs A P bv bm true qs m w) (hlen : m.length ≤ 1000000) (a : Int) (ha : In64 a) :
    Calls Tryz.prog 62 #[.pointer (some ⟨bv, 0, none⟩), .int .i64 a] w (Does A P bv bm (Prog.rd1 a) m qs w IntRes) := by
  refine (read_any h hlen a ha).mono fun e w' hh => ?_
  rcases hh with ⟨y, h1, h2, rfl, h3, h4⟩ | ⟨h1, rfl, h3, h4⟩
  · exact .inr ⟨y, _, m, asks m a qs, by simp [Prog.rd1, Prog.run, h1], rfl, ⟨rfl, h2⟩, h3, h4⟩
  · exact .inl ⟨a, m, qs, by simp [Prog.rd1, Prog.run, h1], rfl, by
      have e : asks m a qs = asks m a qs := rfl
      exact h3, h4⟩
theorem write_does {A : Ask} {P : Nat → Prop} {bv bm : Nat} {qs : List Int} {m : M} {w : World} (h : VWs A P bv bm true qs m w) (hlen : m.length ≤ 1000000) (a x : Int) (ha : In64 a) (hx : In64 x) :
    Calls Tryz.prog 52 #[.pointer (some ⟨bv, 0, none⟩), .int .i64 a, .int .i64 x] w (Does A P bv bm (Prog.wr1 a x) m qs w UnitRes) := by
  refine (write_any h hlen a x ha hx).mono fun e w' hh => ?_
  obtain ⟨rfl, h3, h4⟩ := hh
  exact .inr ⟨(), _, wr m a x, qs, rfl, rfl, rfl, h3, h4⟩

/-- .. over words that are all there -/
theorem Does.total {α : Type} {A : Ask} {P : Nat → Prop} {bv bm : Nat} {p : Prog α} {m : M} {qs : List Int} {w : World} {Res : α → Value → World → Prop} {e : Ending} {w' : World} (h : Does A P bv bm p m qs w Res e w')
    {L : Int} {μ : Int → Int} (hf : ∀ a, 0 ≤ a → a < L → A.f a = some (μ a)) (hs : Rising m) (hin : Prog.Within L p (ov μ m)) :
    ∃ v m2 q2, p.run A.f m qs = (.inr (p.over (ov μ m)).1, m2, q2) ∧ e = .returned v ∧ Res (p.over (ov μ m)).1 v w' ∧ VWs A P bv bm true q2 m2 w' ∧ Kept P w w' ∧ ov μ m2 = (p.over (ov μ m)).2 ∧ Rising m2 := by
  obtain ⟨h1, h2, h3⟩ := Prog.run_over hf p m qs hs hin
  rcases h with ⟨a, m', qs', e1, _⟩ | ⟨x, v, m', qs', e1, e2, e3, e4, e5⟩
  · rw [e1] at h1; cases h1
  · rw [e1] at h1 h2 h3
    injection h1 with h1
    subst h1
    exact ⟨v, m', qs', e1, e2, e3, e4, e5, h2, h3⟩
/-- a program's end as Ran says it -/
theorem Does.ran {α : Type} {A : Ask} {P : Nat → Prop} {bv bm : Nat} {p : Prog α} {m : M} {qs : List Int} {w : World} {Res : α → Value → World → Prop} {e : Ending} {w' : World} (h : Does A P bv bm p m qs w Res e w')
    (hres : ∀ x v w', Res x v w' → v = .tuple #[]) : Ran A P bv bm ((match (p.run A.f m qs).1 with | .inl a => .inl a | .inr _ => .inr (p.run A.f m qs).2.1), (p.run A.f m qs).2.2) e w' ∧ Kept P w w' := by
  rcases h with ⟨a, m', qs', h1, rfl, h3, h4⟩ | ⟨x, v, m', qs', h1, rfl, h3, h4, h5⟩
  · rw [h1]; exact ⟨.inr ⟨a, m', rfl, rfl, h3⟩, h4⟩
  · rw [h1, hres _ _ _ h3]; exact ⟨.inl ⟨m', rfl, rfl, h4⟩, h5⟩

/-- .. whose answer lies in new memory, which is left alone from then on -/
def DoesN {α : Type} (A : Ask) (P : Nat → Prop) (bv bm : Nat) (p : Prog α) (m : M) (qs : List Int) (w : World) (Res : α → Value → (Nat → Prop) → World → Prop) (e : Ending) (w' : World) : Prop :=
  (∃ a m' qs', p.run A.f m qs = (.inl a, m', qs') ∧ e = .panicked [{ v := .iface 110 (.int .i64 a), recovered := false }] ∧ VWs A P bv bm true qs' m' w' ∧ Kept P w w') ∨
  (∃ x v N m' qs', p.run A.f m qs = (.inr x, m', qs') ∧ e = .returned v ∧ (∀ k, N k → w.heap.size ≤ k) ∧ Res x v N w' ∧ VWs A (fun k => P k ∨ N k) bv bm true qs' m' w' ∧ Kept P w w')
/-- words, in a row of the call's own -/
def WordsRes (base : Nat) (xs : List Int) (v : Value) (N : Nat → Prop) (w : World) : Prop := TW w base xs v ∧ ∀ k, v.ownBlock = some k → N k
theorem DoesN.unbox {α : Type} {A : Ask} {P : Nat → Prop} {bv bm : Nat} {p : Prog α} {m : M} {qs : List Int} {w : World} {o : Obj} {Res : α → Value → (Nat → Prop) → World → Prop} {e : Ending} {w' : World}
    (h : DoesN A (fun k => P k ∨ k = w.heap.size) bv bm p m qs (w.alloc o) Res e w') : DoesN A P bv bm p m qs w Res e w' := by
  rcases h with ⟨a, m', qs', h1, h2, h3, h4⟩ | ⟨x, v, N, m', qs', h1, h2, hN, h3, h4, h5⟩
  · exact .inl ⟨a, m', qs', h1, h2, h3.less (fun k hk => .inl hk), Kept.alloc h4⟩
  · exact .inr ⟨x, v, N, m', qs', h1, h2, fun k hk => by have := hN k hk; simp at this; omega, h3, h4.less (fun k hk => hk.elim (fun h => .inl (.inl h)) .inr), Kept.alloc h5⟩
/-- what is left alone by the view may be changed by others -/
theorem VWs.chg {A : Ask} {P Q T : Nat → Prop} {bv bm : Nat} {st : Bool} {qs : List Int} {m : M} {w w' : World} (h : VWs A P bv bm st qs m w) (hc : Chg T w w') (hT : ∀ k, k < w.heap.size → T k → P k ∧ ¬ A.R k)
    (hQ : ∀ k, Q k → P k ∨ (w.heap.size ≤ k ∧ k < w'.heap.size)) : VWs A Q bv bm st qs m w' := by
  obtain ⟨S, v, h, hP⟩ := h
  have hS := A.lt _ _ _ h.inv
  have hf := h.map.lt
  have hbv := (Array.getElem?_eq_some_iff.1 h.row).1
  have hs := hc.size
  refine ⟨S, v, h.kept (hc.mono (T := fun k => T k ∧ k < w.heap.size) (fun k hk ht => ⟨ht, hk⟩)) (fun k ⟨ht, hk⟩ => ?_), fun k hk => ?_⟩
  · obtain ⟨h1, h2⟩ := hT k hk ht
    obtain ⟨p1, p2, p3, p4⟩ := hP k h1
    exact ⟨p2, p3, p4, h2⟩
  · rcases hQ k hk with h1 | ⟨h1, h2⟩
    · obtain ⟨p1, p2⟩ := hP k h1
      exact ⟨by omega, p2⟩
    · exact ⟨h2, fun h => by have := (hS k h).2; omega, fun h => by have := hf k h; omega, by omega⟩
theorem VWs.bv_lt {A : Ask} {P : Nat → Prop} {bv bm : Nat} {st : Bool} {qs : List Int} {m : M} {w : World} (h : VWs A P bv bm st qs m w) : bv < w.heap.size ∧ ∀ k, A.R k → k < bv := by
  obtain ⟨S, v, h, hP⟩ := h
  exact ⟨(Array.getElem?_eq_some_iff.1 h.row).1, fun k hk => by have := A.rlt k hk; have := h.low.1; omega⟩

/-- one word is appended -/
theorem wpList_addword {ops : Array Oper} {rest : List Oper} {o : Oper} {a : Act} {w : World} {Q : Exit → Act → World → Prop} (hgd : o.guard = none) (s x : Operand)
    (ho : o.op = .call { callee := .builtin .append, args := #[s, x], argTypes := #[25, 25] })
    (base : Nat) (out : List Int) (v : Value) (hs : a.eval s = v) (h : TW w base out v) (hn : out.length ≤ 10000) (hb : base ≤ w.heap.size) (b : Nat) (y : Int) (hx : a.eval x = .slice (some ⟨b, 0, none⟩) 1 1)
    (hrow : w.heap[b]? = some (.cells #[.int .i64 y] 3 (0, 0)))
    (H : ∀ v' w', TW w' base (out ++ [y]) v' → w.grownBy w' v.ownBlock → (v'.ownBlock = v.ownBlock ∨ v'.ownBlock = some w.heap.size) → wpList Tryz.prog ops Q rest (a.put o.dst v') w') : wpList Tryz.prog ops Q (o :: rest) a w :=
  wpList_addwords hgd s x ho base out v hs h hn hb w.heap.size [y] (some ⟨b, 0, none⟩) 1 1 hx
    ⟨some ⟨b, 0, none⟩, 1, rfl, by simp [maxLen], fun _ => ⟨b, 0, rfl, (Array.getElem?_eq_some_iff.1 hrow).1, fun i hi => by
      obtain rfl : i = 0 := by simp at hi; omega
      rw [cell_of_row _ _ _ _ _ _ hrow]; rfl⟩⟩ (by omega) H

end View
end Go.Proofs.YthojgahcpkdemaaGreat
