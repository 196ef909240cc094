import Derived.Test.YtfmjcinhjbihoaaAll
namespace Go.Proofs.Ytfmjcinhjbihoaa
open Go.RowKit Go.Bas SorPlain Go.Sor IMap_ VIn VPlain MapI
namespace View

/-- the first pair of an address -/
def first (l : M) (a : Int) : Option Int := (l.find? (fun p => p.1 == a)).map (·.2)
theorem first_next {l : M} {k : Nat} (h : k < l.length) (a : Int) : first (l.take (k + 1)) a = if (first (l.take k) a).isSome then first (l.take k) a else if a = l[k].1 then some l[k].2 else none := by
  unfold first
  rw [List.take_succ_eq_append_getElem h, List.find?_append]
  cases hf : (l.take k).find? (fun p => p.1 == a) with
  | some p => simp
  | none =>
    simp only [Option.none_or, Option.map_none, Option.isSome_none, Bool.false_eq_true, if_false, List.find?_cons, List.find?_nil]
    by_cases e : l[k].1 = a
    · subst e; simp
    · have e' : (l[k].1 == a) = false := by simpa using e
      rw [e']; simp; exact fun h => e h.symm
theorem first_in {l : M} (hl : PIn l) {a x : Int} (h : first l a = some x) : In64 x := by
  unfold first at h
  obtain ⟨p, hp, rfl⟩ := Option.map_eq_some_iff.1 h
  exact (hl p (List.mem_of_find?_eq_some hp)).2

theorem wpList_mapset {ops : Array Oper} {rest : List Oper} {o : Oper} {a : Act} {w : World} {Q : Exit → Act → World → Prop} (hg : o.guard = none) (m x v : Operand) (ho : o.op = .mapUpdate 61 m x v)
    (b n : Nat) (f : Int → Option Int) (hm : a.eval m = .map (some b)) (h : IMap w b n f) (hn : n < 1000000) (k z : Int) (hx : a.eval x = .int .i64 k) (hv : a.eval v = .int .i64 z) (hk : In64 k) (hz : In64 z)
    (hK : ∀ w', IMap w' b (n + 1) (fun y => if y = k then some z else f y) → w.grownBy w' (some b) → wpList Try.prog ops Q rest (a.put o.dst undef) w') : wpList Try.prog ops Q (o :: rest) a w := by
  refine wpList_plain hg fun K hK' => ?_
  obtain ⟨w', hrun, r1, r2⟩ := h.set hn hk hz
  unfold Oper.wp
  simp [execOp, ho, hm, hx, hv, hrun, Result.andThen]
  exact hK' _ _ (hK w' r1 r2)

theorem pair_row {w : World} {B : Nat} {A : Option Addr} {n cp : Nat} {ps : List (Int × Int)} (h : Pairs w B (.slice A n cp) ps) : n = ps.length ∧ ∀ k (hk : k < ps.length), ∃ b off, A = some ⟨b, off, none⟩ ∧ b < B ∧ w.rangeAt b (off + k * 2) [.int .i64 ps[k].1, .int .i64 ps[k].2] := by
  obtain ⟨A', c', e, hm, hc⟩ := h
  simp at e
  obtain ⟨rfl, rfl, rfl⟩ := e
  refine ⟨rfl, fun k hk => ?_⟩
  obtain ⟨b, off, rfl, hlt, hc⟩ := hc (by omega)
  refine ⟨b, off, rfl, hlt, ?_⟩
  rintro (_ | _ | j) v hv <;> simp at hv <;> subst hv
  · exact (hc k hk).1
  · exact (hc k hk).2
theorem pair_size : (Try.prog.info? 38).map (·.size) = some 2 := by kernel_rfl

theorem run_made (n : Int) (w : World) : (Instr.makeMap 61 (some (.int .i64 n))).run Try.prog w = .ok (.map (some w.heap.size)) (w.alloc (.map #[] 0)) := by
  simp [Instr.makeMap, run_underlying Try.underlying61, asInt, Sem.run_bind, Result.andThen]
  rfl

set_option maxRecDepth 100000 in
set_option maxHeartbeats 4000000 in
theorem firsts_any {w : World} {s : Value} {l : M} (h : Pairs w w.heap.size s l) (hl : PIn l) (hn : l.length ≤ 1000) :
    Calls Try.prog 28 #[s] w fun e w' => e = .returned (.map (some w.heap.size)) ∧ IMap w' w.heap.size l.length (first l) ∧ Below w.heap.size w w' := by
  obtain ⟨A, cp, rfl, hm, _⟩ := id h
  obtain ⟨g, hg⟩ : ∃ g, w.heap.size = g := ⟨_, rfl⟩
  obtain ⟨n, hnn⟩ : ∃ n, l.length = n := ⟨_, rfl⟩
  have HN := Lib.hid hnn
  have hP := Lib.hid h
  rw [hg] at hP ⊢
  rw [hnn] at hP hn ⊢
  have HL := Lib.hid hl
  obtain ⟨w1, hw1⟩ : ∃ w1, w.alloc (.map #[] 0) = w1 := ⟨_, rfl⟩
  have I1 := IMap.made w
  rw [hw1, hg] at I1
  have II := Lib.hid I1
  have s1 : w1.heap.size = g + 1 := by rw [← hw1, ← hg]; simp
  have B1 : Hid (Below g w w1) := by rw [← hw1, Hid, ← hg]; exact (Below.refl _ _).alloc (Nat.le_refl _) _
  clear h hl hnn hm I1
  go_enter Try.func28, Try.ntmps28
  have hmk := run_made n w
  rw [hw1, hg] at hmk
  clear hw1
  go_wp2
  clear hmk
  go_loopw [13] (fun u13 wr => ∃ k : Nat, k ≤ n ∧ u13 = .int .i64 k ∧ Hid (IMap wr g k (first (l.take k))) ∧ Hid (Below g w wr)) (fun u13 _ => n - (intOf u13).toNat)
  case atStart => exact ⟨0, by omega, rfl, II, B1⟩
  case round =>
    clear II B1
    obtain ⟨k, hk, rfl, HI, HB⟩ := hrel
    have hgl := HI.out.lt
    by_cases hlt : k < n
    · have hlen : k < l.length := by rw [HN.out]; exact hlt
      have hrow := (pair_row (hP.out.below HB.out)).2
      obtain ⟨b, off, rfl, hbg, hrow⟩ := hrow k hlen
      have hin := HL.out _ (List.getElem_mem hlen)
      have hnx := fun a => first_next hlen a
      obtain ⟨x, hx⟩ : ∃ x, l[k].1 = x := ⟨_, rfl⟩
      obtain ⟨y, hy⟩ : ∃ y, l[k].2 = y := ⟨_, rfl⟩
      rw [hx, hy] at hrow hin
      simp only [hx, hy] at hnx
      have HRow := Lib.hid hrow; have HIn := Lib.hid hin; have HNX := Lib.hid hnx
      clear hrow hx hy hnx hin hlen
      obtain ⟨q, hq⟩ : ∃ q, wr.heap.size = q := ⟨_, rfl⟩
      obtain ⟨w2, hw2⟩ : ∃ w2, wr.alloc (.cells #[.int .i64 0, .int .i64 0] 38) = w2 := ⟨_, rfl⟩
      have hg2 : Hid (w2.heap[q]? = some (.cells #[.int .i64 0, .int .i64 0] 38 (0, 0))) := by rw [← hw2, ← hq]; exact new_row _ _ _
      go_upto_region 5 with (first
        | (refine wpList_load_mid rfl 38 _ rfl b (off + k * 2) (by first | rfl | simp) [.int .i64 x, .int .i64 y] _ HRow.out Try.underlying38 rfl pair_size ?_)
        | (refine wpList_store_row rfl 38 _ _ rfl q #[.int .i64 x, .int .i64 y] rfl rfl 38 #[.int .i64 0, .int .i64 0] hg2.out pair_size rfl (by simp [Value.oneCell']) ?_))
      obtain ⟨w3, hw3⟩ : ∃ w3, w2.setRow q #[.int .i64 x, .int .i64 y] = w3 := ⟨_, rfl⟩
      have k0 : w3.cell? ⟨q, 0, none⟩ = some (.int .i64 x) := by rw [← hw3]; exact setRow_cell hg2.out _ 0
      have k1 : w3.cell? ⟨q, 1, none⟩ = some (.int .i64 y) := by rw [← hw3]; exact setRow_cell hg2.out _ 1
      have b3 : Below q wr w3 := by rw [← hw3, ← hw2, ← hq]; exact setRow_below ((Below.refl _ _).alloc (Nat.le_refl _) _) (Nat.le_refl _) _
      rw [hw3]
      have B3 : Hid (Below g w w3) := HB.out.trans (b3.mono (by omega))
      have I3 : Hid (IMap w3 g k (first (l.take k))) := HI.out.block (b3.block _ (by omega))
      clear hw3 hw2 hg2 b3
      have lk := I3.out.look HIn.out.1
      cases hf : first (l.take k) x with
      | some z =>
        rw [hf] at lk
        have I4 : Hid (IMap w3 g (k + 1) (first (l.take (k + 1)))) := by
          obtain ⟨D, ⟨es, cl, h1, h2, h3, h4⟩, h5⟩ := I3.out
          refine ⟨D, ⟨es, cl, h1, h2, by omega, h4⟩, ?_⟩
          have e : first (l.take (k + 1)) = first (l.take k) := by
            funext a
            rw [HNX.out a]
            split
            · rfl
            · rename_i hns
              split
              · rename_i e; subst e; rw [hf] at hns; simp at hns
              · cases h : first (l.take k) a <;> simp_all
          rw [e]; exact h5
        clear hf
        go_wp2
        go_roundw
        case rel => exact ⟨k + 1, by omega, by go_num, I4, B3⟩
        case measure => simp [intOf]; omega
      | none =>
        rw [hf] at lk
        have HF := Lib.hid hf
        clear hf
        go_wp2_with (first
          | (refine wpList_mapset rfl _ _ _ rfl g k (first (l.take k)) rfl I3.out (by omega) x y rfl rfl HIn.out.1 HIn.out.2 ?_; intro w4 i4 g4))
        have I4 : Hid (IMap w4 g (k + 1) (first (l.take (k + 1)))) := by
          have e : first (l.take (k + 1)) = (fun z => if z = x then some y else first (l.take k) z) := by
            funext a
            rw [HNX.out a]
            by_cases e : a = x
            · subst e; rw [HF.out]; simp
            · rw [if_neg e, if_neg e]
              cases h : first (l.take k) a <;> simp
          rw [e]; exact i4
        have B4 : Hid (Below g w w4) := B3.out.trans ((Chg.grown (S := fun k => k = g) g4 (fun k hk => by injection hk with hk; exact hk.symm)).below (by have := I3.out.lt; omega) (fun k hk => by omega))
        clear i4 g4 lk
        go_roundw
        case rel => exact ⟨k + 1, by omega, by go_num, I4, B4⟩
        case measure => simp [intOf]; omega
    · obtain rfl : n = k := by omega
      have hI' : Hid (IMap wr g n (first l)) := by have := HI.out; rwa [← HN.out, List.take_length, HN.out] at this
      go_wp2
      go_ret
      exact ⟨rfl, hI'.out, HB.out⟩

end View
end Go.Proofs.Ytfmjcinhjbihoaa
