import Derived.Test.YtfmjcinhjbihoabAll
import Derived.Test.YtfmjcinhjbihoabIMap
import Derived.Laws.OwnMore
import Derived.OwnWalk
import Derived.Deep.Slices
import Derived.ChangeSame
import Derived.ProofKit
/- pairs and words in memory -/
namespace Go.Proofs.Ytfmjcinhjbihoab
open Go.RowKit Go.Bas SorPlain Go.Sor IMap_ VIn VPlain MapI
open Go.WideShapes Go.Deep Go.ChangeShapes
namespace View

theorem wpList_mapset {ops : Array Oper} {rest : List Oper} {o : Oper} {a : Act} {w : World} {Q : Exit → Act → World → Prop} (hg : o.guard = none) (m x v : Operand) (ho : o.op = .mapUpdate 45 m x v)
    (b n : Nat) (f : Int → Option Int) (hm : a.eval m = .map (some b)) (h : IMap w b n f) (hn : n < 1000000) (k z : Int) (hx : a.eval x = .int .i64 k) (hv : a.eval v = .int .i64 z) (hk : In64 k) (hz : In64 z)
    (hK : ∀ w', IMap w' b (n + 1) (fun y => if y = k then some z else f y) → w.grownBy w' (some b) → wpList Try.prog ops Q rest (a.put o.dst undef) w') : wpList Try.prog ops Q (o :: rest) a w := by
  refine wpList_plain hg fun K hK' => ?_
  obtain ⟨w', hrun, r1, r2⟩ := h.set hn hk hz
  unfold Oper.wp
  simp [execOp, ho, hm, hx, hv, hrun, Result.andThen]
  exact hK' _ _ (hK w' r1 r2)

theorem pair_row {w : World} {B : Nat} {A : Option Addr} {n cp : Nat} {ps : List (Int × Int)} (h : Pairs w B (.slice A n cp) ps) : n = ps.length ∧ ∀ k (hk : k < ps.length), ∃ b off, A = some ⟨b, off, none⟩ ∧ b < B ∧ w.rangeAt b (off + k * 2) [.int .i64 ps[k].1, .int .i64 ps[k].2] := by
  obtain ⟨A', c', e, hm, hc⟩ := h
  simp at e
  obtain ⟨rfl, rfl, rfl⟩ := e
  refine ⟨rfl, fun k hk => ?_⟩
  obtain ⟨b, off, rfl, hlt, hc⟩ := hc (by omega)
  refine ⟨b, off, rfl, hlt, ?_⟩
  rintro (_ | _ | j) v hv <;> simp at hv <;> subst hv
  · exact (hc k hk).1
  · exact (hc k hk).2
theorem pair_size : (Try.prog.info? 52).map (·.size) = some 2 := by kernel_rfl

theorem Told.kept {w w' : World} {base : Nat} {m : M} {v : Value} (h : Told w base m v) (hk : ∀ k, v.ownBlock = some k → w'.heap[k]? = w.heap[k]?) : Told w' base m v := by
  obtain ⟨A, cap, rfl, hl, hr⟩ := h
  refine ⟨A, cap, rfl, hl, ?_⟩
  rcases hr with h | ⟨g, cp, cur, hv, hg, hh, r⟩
  · exact .inl h
  · exact .inr ⟨g, cp, cur, hv, hg, (hk g (by rw [hv]; rfl)).trans hh, r⟩
theorem Told.own_lt {w : World} {base : Nat} {m : M} {v : Value} (h : Told w base m v) {k : Nat} (e : v.ownBlock = some k) : k < w.heap.size := by
  obtain ⟨A, cap, rfl, hl, hr⟩ := h
  rcases hr with ⟨h, _⟩ | ⟨g, cp, cur, hv, hg, hh, r⟩
  · rw [h] at e; simp [Value.ownBlock] at e
  · rw [hv] at e; simp [Value.ownBlock] at e; subst e; exact (Array.getElem?_eq_some_iff.1 hh).1
theorem no_pairs (w : World) (B : Nat) : Pairs w B (.slice none 0 0) [] := ⟨none, 0, rfl, Nat.zero_le _, fun h => absurd h (by simp)⟩
/-- ints in memory, below block B -/
def Words (w : World) (B : Nat) (s : Value) (l : List Int) : Prop :=
  ∃ (A : Option Addr) (c : Nat), s = .slice A l.length c ∧ l.length ≤ maxLen ∧
    (0 < l.length → ∃ b off, A = some ⟨b, off, none⟩ ∧ b < B ∧ ∀ i (h : i < l.length), w.cell? ⟨b, off + i, none⟩ = some (.int .i64 l[i]))
theorem Words.keep {w w' : World} {B : Nat} {s : Value} {l : List Int} (h : Words w B s l) (hb : ∀ k, k < B → k < w.heap.size → w'.heap[k]? = w.heap[k]?) : Words w' B s l := by
  obtain ⟨A, c, rfl, hm, hc⟩ := h
  refine ⟨A, c, rfl, hm, fun hn => ?_⟩
  obtain ⟨b, off, rfl, hlt, hc⟩ := hc hn
  refine ⟨b, off, rfl, hlt, fun i hi => ?_⟩
  have h0 := hc i hi
  have := World.block_lt_of_cell? w _ h0
  rw [← h0]
  simp [World.cell?, hb b hlt this]
/-- a slice's block -/
def blk (s : Value) (k : Nat) : Prop := ∃ b off n c, s = .slice (some ⟨b, off, none⟩) n c ∧ k = b
theorem Words.keep1 {w w' : World} {B : Nat} {s : Value} {l : List Int} (h : Words w B s l) (hb : ∀ k, blk s k → k < B → k < w.heap.size → w'.heap[k]? = w.heap[k]?) : Words w' B s l := by
  obtain ⟨A, c, rfl, hm, hc⟩ := h
  refine ⟨A, c, rfl, hm, fun hn => ?_⟩
  obtain ⟨b, off, rfl, hlt, hc⟩ := hc hn
  refine ⟨b, off, rfl, hlt, fun i hi => ?_⟩
  have h0 := hc i hi
  have := World.block_lt_of_cell? w _ h0
  rw [← h0]
  simp [World.cell?, hb b ⟨b, off, _, _, rfl, rfl⟩ hlt this]
theorem Words.below {w w' : World} {B : Nat} {s : Value} {l : List Int} (h : Words w B s l) (hb : Below B w w') : Words w' B s l := h.keep fun k hk _ => hb.block k hk
theorem Words.mono {w : World} {B C : Nat} {s : Value} {l : List Int} (h : Words w B s l) (hb : B ≤ C) : Words w C s l := by
  obtain ⟨A, c, rfl, hm, hc⟩ := h
  refine ⟨A, c, rfl, hm, fun hn => ?_⟩
  obtain ⟨b, off, rfl, hlt, hc⟩ := hc hn
  exact ⟨b, off, rfl, by omega, hc⟩
def WIn (l : List Int) : Prop := ∀ p ∈ l, In64 p
theorem word_row {w : World} {B : Nat} {A : Option Addr} {n c : Nat} {l : List Int} (h : Words w B (.slice A n c) l) {k : Nat} (hk : k < l.length) : ∃ b off, A = some ⟨b, off, none⟩ ∧ b < B ∧ w.cell? ⟨b, off + k, none⟩ = some (.int .i64 l[k]) := by
  obtain ⟨A', c', e, hm, hc⟩ := h
  simp at e
  obtain ⟨rfl, rfl, rfl⟩ := e
  obtain ⟨b, off, rfl, hlt, hc⟩ := hc (by omega)
  exact ⟨b, off, rfl, hlt, hc k hk⟩

/-- words in a row of the call's own -/
def TW (w : World) (base : Nat) (l : List Int) (v : Value) : Prop := ∃ A cap, v = .slice A l.length cap ∧ w.ownsRow base 3 1 v l.length (l.map (Value.int .i64))
theorem TW.low {w : World} {base base' : Nat} {m : List Int} {v : Value} (h : TW w base m v) (hb : base' ≤ base) : TW w base' m v := by
  obtain ⟨A, cap, rfl, hl, hr⟩ := h
  refine ⟨A, cap, rfl, hl, ?_⟩
  rcases hr with h | ⟨g, cp, cur, hv, hg, r⟩
  · exact .inl h
  · exact .inr ⟨g, cp, cur, hv, by omega, r⟩
theorem TW.block {w : World} {base : Nat} {m : List Int} {v : Value} (h : TW w base m v) {k : Nat} (e : v.ownBlock = some k) : base ≤ k := by
  obtain ⟨A, cap, rfl, hl, hr⟩ := h
  rcases hr with ⟨h, _⟩ | ⟨g, cp, cur, hv, hg, r⟩
  · rw [h] at e; simp [Value.ownBlock] at e
  · rw [hv] at e; simp [Value.ownBlock] at e; omega
theorem TW.kept {w w' : World} {base : Nat} {m : List Int} {v : Value} (h : TW w base m v) (hk : ∀ k, v.ownBlock = some k → w'.heap[k]? = w.heap[k]?) : TW w' base m v := by
  obtain ⟨A, cap, rfl, hl, hr⟩ := h
  refine ⟨A, cap, rfl, hl, ?_⟩
  rcases hr with h | ⟨g, cp, cur, hv, hg, hh, r⟩
  · exact .inl h
  · exact .inr ⟨g, cp, cur, hv, hg, (hk g (by rw [hv]; rfl)).trans hh, r⟩
theorem TW.own_lt {w : World} {base : Nat} {m : List Int} {v : Value} (h : TW w base m v) {k : Nat} (e : v.ownBlock = some k) : k < w.heap.size := by
  obtain ⟨A, cap, rfl, hl, hr⟩ := h
  rcases hr with ⟨h, _⟩ | ⟨g, cp, cur, hv, hg, hh, r⟩
  · rw [h] at e; simp [Value.ownBlock] at e
  · rw [hv] at e; simp [Value.ownBlock] at e; subst e; exact (Array.getElem?_eq_some_iff.1 hh).1
theorem TW.words {w : World} {base : Nat} {m : List Int} {v : Value} (h : TW w base m v) : Words w w.heap.size v m := by
  obtain ⟨A, cap, rfl, hl, hr⟩ := h
  rcases hr with ⟨hv, hn⟩ | ⟨g, cp, cur, hv, hg, hh, hc, hcm, hcs, ht⟩
  · exact ⟨A, cap, rfl, by omega, fun h => by omega⟩
  · simp only [Value.slice.injEq] at hv
    obtain ⟨rfl, _, rfl⟩ := hv
    refine ⟨_, cap, rfl, by omega, fun _ => ⟨g, 0, rfl, (Array.getElem?_eq_some_iff.1 hh).1, fun i hi => ?_⟩⟩
    rw [Nat.zero_add]
    exact row_cell hh ht (by simp [hi])
theorem TW.made (w : World) : TW (w.alloc (.cells #[] 3)) w.heap.size [] (.slice (some ⟨w.heap.size, 0, none⟩) 0 0) :=
  ⟨some ⟨w.heap.size, 0, none⟩, 0, rfl, by simpa using World.ownsRow_made w #[] 0 (Nat.le_refl _) (Nat.zero_le _) rfl⟩

theorem infoInt : (Try.prog.info? 3).map (fun i => (i.zero, i.size, i.bytes)) = some (some (.int .i64 0), 1, 8) := by kernel_rfl
theorem wpList_addwords {ops : Array Oper} {rest : List Oper} {o : Oper} {a : Act} {w : World} {Q : Exit → Act → World → Prop} (hgd : o.guard = none) (s x : Operand)
    (ho : o.op = .call { callee := .builtin .append, args := #[s, x], argTypes := #[22, 22] })
    (base : Nat) (out : List Int) (v : Value) (hs : a.eval s = v) (h : TW w base out v) (hn : out.length ≤ 10000) (hb : base ≤ w.heap.size) (B : Nat) (l : List Int) (A2 : Option Addr) (n2 c2 : Nat) (hx : a.eval x = .slice A2 n2 c2) (hl : Words w B (.slice A2 n2 c2) l) (hln : n2 ≤ 10000)
    (H : ∀ v' w', TW w' base (out ++ l) v' → w.grownBy w' v.ownBlock → (v'.ownBlock = v.ownBlock ∨ v'.ownBlock = some w.heap.size) → wpList Try.prog ops Q rest (a.put o.dst v') w') : wpList Try.prog ops Q (o :: rest) a w := by
  obtain ⟨i0, hi0, hz0, hz1, hz2⟩ := info_parts infoInt
  obtain ⟨A, cap, rfl, hown⟩ := h
  obtain ⟨A', c', e, hm, hc⟩ := hl
  simp only [Value.slice.injEq] at e
  obtain ⟨rfl, rfl, rfl⟩ := e
  refine wpList_append_any hgd s x 22 ho base 3 i0 (.int .i64 0) 1 8 Try.underlying22 hi0 hz0 hz1 hz2 rfl (by decide) _ out.length (out.map (Value.int .i64)) hs hown A2 l.length c2 (l.map (Value.int .i64)) hx (by simp) ?_ ?_ ?_ ?_ hb ?_
  · intro h0
    obtain ⟨b, off, rfl, hlt, hc⟩ := hc h0
    refine ⟨_, rfl, fun j u hj => ?_⟩
    have hjl : j < l.length := by
      have := (List.getElem?_eq_some_iff.1 hj).1
      simpa using this
    have hadd : (⟨b, off, none⟩ : Addr).add j = ⟨b, off + j, none⟩ := by unfold Addr.add; split <;> simp_all
    rw [hadd, hc j hjl]
    rw [← hj]; simp [hjl]
  · intro u hu
    obtain ⟨p, hp, rfl⟩ := List.mem_map.1 hu
    rfl
  · unfold maxLen; omega
  · omega
  · intro v' w' hown' hg hb'
    obtain ⟨A1, c1, rfl⟩ := own_slice hown'
    refine H _ w' ⟨A1, c1, by simp, ?_⟩ hg hb'
    rw [List.map_append]
    simpa using hown'

theorem no_words (w : World) (B : Nat) : Words w B (.slice none 0 0) [] := ⟨none, 0, rfl, Nat.zero_le _, fun h => by simp at h⟩

set_option maxRecDepth 100000 in
theorem words_in {H : Type} {enc : TypeId × Value → H} {w : World} {base : Nat} {spare : Nat → Bool} {held : Bool} {d : DataW H} {p : List MemPlace} {A : Option Addr} {n c : Nat}
    (h : DataW.Trod enc Try.prog w base spare held 22 (.slice A n c) d p) : ∃ l : List Int, Words w w.heap.size (.slice A n c) l ∧ WIn l := by
  obtain ⟨fuel, hf⟩ := h
  rcases open_slice (cs := [.slice A n c]) Try.underlying22 hf with ⟨hcs, _⟩ | ⟨ad, len, cap, m, k, D, Pl, hcs, _, hl, hm, hmm, _, hi⟩
  · injection hcs with hcs
    injection hcs with e1 e2 e3
    subst e1 e2 e3
    exact ⟨[], no_words _ _, fun p hp => by simp at hp⟩
  · injection hcs with hcs
    injection hcs with e1 e2 e3
    subst e1 e2 e3
    by_cases hn : n = 0
    · subst hn
      exact ⟨[], ⟨_, _, rfl, Nat.zero_le _, fun h => absurd h (by simp)⟩, fun p hp => by simp at hp⟩
    · have hmn : n ≤ m := by rw [hmm]; split <;> omega
      have key : ∀ i, ∃ x : Int, In64 x ∧ (i < n → w.cell? (ad.add i) = some (.int .i64 x)) := fun i => by
        by_cases hlt : i < n
        · obtain ⟨cs', hc, ht'⟩ := hi i (by omega)
          rw [show Try.prog.cellsOf 3 = 1 by kernel_rfl] at hc
          obtain ⟨x0, e0, _, f0⟩ := DataW.trod_int Try.underlying3 ht'
          subst e0
          obtain ⟨_, hcl, hat⟩ := World.cells?_some hc
          have := hat 0 (by simp)
          exact ⟨x0, in64_of_wf f0, fun _ => by rw [Nat.mul_one] at this; simpa [Addr.add] using this⟩
        · exact ⟨0, by unfold In64; simp, fun h => absurd h hlt⟩
      obtain ⟨b, off, spot⟩ := ad
      have h0 := (Classical.choose_spec (key 0)).2 (by omega)
      have hs : spot = none := by
        have h00 : ∃ u, w.cell? ⟨b, off, spot⟩ = some u := ⟨_, by simpa [Addr.add] using h0⟩
        obtain ⟨u, h00⟩ := h00
        cases spot with
        | none => rfl
        | some x =>
          simp [World.cell?] at h00
          split at h00 <;> simp at h00
      subst hs
      have hbl : b < w.heap.size := by
        have := World.block_lt_of_cell? w _ h0
        simpa [Addr.add] using this
      refine ⟨(List.range n).map fun i => Classical.choose (key i), ⟨_, _, by simp; rfl, by simp; omega, fun _ => ⟨b, off, rfl, hbl, fun i hi => ?_⟩⟩, fun p hp => ?_⟩
      · have hi' : i < n := by simpa using hi
        simp only [List.getElem_map, List.getElem_range]
        have := (Classical.choose_spec (key i)).2 hi'
        rw [← this]
        unfold Addr.add
        split
        · rename_i h0; rw [h0]; rfl
        · rfl
      · obtain ⟨i, _, rfl⟩ := List.mem_map.1 hp
        exact (Classical.choose_spec (key i)).1
set_option maxRecDepth 100000 in
theorem words_of {H : Type} {enc : TypeId × Value → H} {w : World} {base : Nat} {spare : Nat → Bool} {held : Bool} {v : Value} {d : DataW H} {p : List MemPlace} {r : Reach} {b0 : Nat}
    (hv : Value.okWide Try.prog w r b0 22 v) (h : DataW.Trod enc Try.prog w base spare held 22 v d p) : ∃ l, Words w w.heap.size v l ∧ WIn l := by
  obtain ⟨a0, n0, c0, rfl⟩ := okWide_slice Try.underlying22 hv
  exact words_in h

end View
end Go.Proofs.Ytfmjcinhjbihoab
