/- Lemmas of this seat's proofs, several texts laid together. -/
import Derived.Test.YthojgahcpkdemaaGreatAfD
import Derived.Test.YthojgahcpkdemaaGreatWLast
set_option linter.unusedVariables false
set_option linter.unusedSimpArgs false
/- the locks of words -/
namespace Go.Proofs.YthojgahcpkdemaaGreat
open Go.RowKit Go.Bas View VIn IMap_
open Go.ChangeShapes
open Go.Proofs.YthojgahcpkdemaaGreatW.PrintLast
namespace Att

/-- a slice of one int is built -/
theorem run_int1 (w : World) (x : Int) : (Instr.buildSlice 25 1 #[(0, .int .i64 x)]).run Tryz.prog w = .ok (.slice (some ⟨w.heap.size, 0, none⟩) 1 1) (w.alloc (.cells #[.int .i64 x] 3)) := by
  have hinfo : (Tryz.prog.info? 3).map (fun i => (i.zero, i.size)) = some (some (.int .i64 0), 1) := by kernel_rfl
  obtain ⟨i, hi, hzz⟩ := Option.map_eq_some_iff.1 hinfo
  simp only [Prod.mk.injEq] at hzz
  obtain ⟨hz, hs⟩ := hzz
  refine run_buildSlice w _ 3 1 _ #[.int .i64 x] i _ Tryz.underlying25 hi hz (by rw [hs]; decide) (by rw [hs]; decide) ?_
  rw [hs]
  kernel_rfl
theorem wpList_int1 {ops : Array Oper} {rest : List Oper} {o : Oper} {a : Act} {w : World} {Q : Exit → Act → World → Prop} (hg : o.guard = none) (p0 : Operand) (ho : o.op = .buildSlice 25 1 #[(0, p0)])
    (x : Int) (h0 : a.eval p0 = .int .i64 x)
    (h : wpList Tryz.prog ops Q rest (a.put o.dst (.slice (some ⟨w.heap.size, 0, none⟩) 1 1)) (w.alloc (.cells #[.int .i64 x] 3))) : wpList Tryz.prog ops Q (o :: rest) a w :=
  wpList_plain hg fun K hK => by
    have e : ((#[(0, p0)] : Array (Nat × Operand)).map fun (i, x) => (i, a.eval x)) = #[(0, .int .i64 x)] := by simp [h0]
    unfold Oper.wp execOp
    simp only [ho, Sem.run_bind, e, run_int1, Result.andThen_ok]
    exact hK _ _ h

theorem tw_nil (w : World) (base : Nat) : TW w base [] (.slice none 0 0) := ⟨none, 0, rfl, rfl, .inl ⟨rfl, rfl⟩⟩
theorem tw_slice {w : World} {base : Nat} {l : List Int} {v : Value} (h : TW w base l v) : ∃ A cap, v = .slice A l.length cap := by
  obtain ⟨A, c, rfl, _⟩ := h; exact ⟨A, c, rfl⟩

/-- one word is appended, as a run -/
theorem append_words {w : World} {base : Nat} {out : List Int} {v : Value} (h : TW w base out v) (hn : out.length ≤ 10000) (hb : base ≤ w.heap.size) {y : Int} {p : Nat} (hp : w.heap[p]? = some (.cells #[.int .i64 y] 3 (0, 0))) :
    ∃ v' w', (Builtin.append_ #[25, 25] 25 #[v, .slice (some ⟨p, 0, none⟩) 1 1]).run Tryz.prog w = .ok v' w' ∧ TW w' base (out ++ [y]) v' ∧ w.grownBy w' v.ownBlock ∧ (v'.ownBlock = v.ownBlock ∨ v'.ownBlock = some w.heap.size) := by
  obtain ⟨i0, hi0, hz0, hz1, hz2⟩ := info_parts infoInt
  obtain ⟨A, cap, rfl, hown⟩ := h
  obtain ⟨v', w', hr, ho, hg, hb'⟩ := run_append_any (P := Tryz.prog) w base 25 25 3 i0 (.int .i64 0) 1 8 Tryz.underlying25 hi0 hz0 hz1 hz2 rfl (by decide) (.slice A out.length cap) out.length (out.map (Value.int .i64)) hown (some ⟨p, 0, none⟩) 1 1 [.int .i64 y] rfl
    (fun _ => ⟨_, rfl, fun j u hj => by
      have hadd : (⟨p, 0, none⟩ : Addr).add j = ⟨p, j, none⟩ := by unfold Addr.add; split <;> simp_all
      rw [hadd, cell_of_row _ _ _ _ _ _ hp]; simpa using hj⟩) (by simp [Value.oneCell']) (by unfold maxLen; omega) (by omega) hb
  obtain ⟨A1, c1, rfl⟩ := own_slice ho
  exact ⟨_, w', hr, ⟨A1, c1, by simp, by simpa using ho⟩, hg, hb'⟩

set_option maxRecDepth 100000 in
set_option maxHeartbeats 4000000 in
theorem locksOf_any {w : World} {b : Nat} {X : AV} {T : AT} (H : Row w b X T) (run : M → Int × M) (fine : 1 ≤ X.c.stripes ∧ X.c.stripes ≤ 1048576) {s : Value} {l : M} (hP : Pairs w w.heap.size s l) (hl : PIn l) (hn : l.length ≤ 10000) :
    Calls Tryz.prog 80 #[.pointer (some ⟨b, 0, none⟩), s] w fun e w' => ∃ v, e = .returned v ∧ TW w' w.heap.size (locksOf (env X.c X.a run) l) v ∧ Below w.heap.size w w' := by
  have hbl := H.lt
  have HH := Lib.hid H
  obtain ⟨E, hE⟩ : ∃ E, env X.c X.a run = E := ⟨_, rfl⟩
  have LK : Hid (∀ (x : Int) (w : World), x ≤ 9223372036854775807 → Calls Tryz.prog 78 #[.agg (Lay.lay X.c X.a), .int .i64 x] w fun e w' => e = .returned (.int .i64 (lock E x)) ∧ Below w.heap.size w w') := fun x w hx => by rw [← hE]; exact lock_of X.c X.a run fine x hx w
  rw [hE]
  obtain ⟨g, hg⟩ : ∃ g, w.heap.size = g := ⟨_, rfl⟩
  have HG := Lib.hid hg
  obtain ⟨A, cp, rfl, hm, _⟩ := id hP
  obtain ⟨n, hnn⟩ : ∃ n, l.length = n := ⟨_, rfl⟩
  have HN := Lib.hid hnn
  have HP := Lib.hid hP
  rw [hg] at HP hbl ⊢
  rw [hnn] at HP hn ⊢
  have HL := Lib.hid hl
  have B0 : Hid (Below g w w) := Below.refl _ _
  have T0 : Hid (TW w g ((l.take 0).map fun p => lock E p.1) (.slice none 0 0)) := tw_nil _ _
  clear hP hl hnn hm H fine hE hg
  go_enter Tryz.func80, Tryz.ntmps80
  go_wp2
  go_loopw [10, 5] (fun u10 u5 wr => ∃ k : Nat, k ≤ n ∧ u10 = .int .i64 k ∧ Hid (TW wr g ((l.take k).map fun p => lock E p.1) u5) ∧ Hid (Below g w wr)) (fun u10 _ _ => n - (intOf u10).toNat)
  case atStart => exact ⟨0, by omega, rfl, T0, B0⟩
  case round =>
    clear T0 B0
    obtain ⟨k, hk, rfl, HT, HB⟩ := hrel
    have hgw : g ≤ wr.heap.size := by have := HB.out.size; rw [HG.out] at this; exact this
    by_cases hlt : k < n
    · have hlen : k < l.length := by rw [HN.out]; exact hlt
      have hrow := (pair_row (HP.out.below HB.out)).2
      obtain ⟨bp, off, rfl, hbg, hrow⟩ := hrow k hlen
      have hin := HL.out _ (List.getElem_mem hlen)
      have hnx : (l.take (k + 1)).map (fun p => lock E p.1) = (l.take k).map (fun p => lock E p.1) ++ [lock E l[k].1] := by rw [List.take_succ_eq_append_getElem hlen, List.map_append]; rfl
      obtain ⟨x, hx⟩ : ∃ x, l[k].1 = x := ⟨_, rfl⟩
      obtain ⟨y, hy⟩ : ∃ y, l[k].2 = y := ⟨_, rfl⟩
      rw [hx, hy] at hrow
      rw [hx] at hnx
      rw [hx, hy] at hin
      have HRow := Lib.hid hrow; have HNX := Lib.hid hnx; have HX : Hid (x ≤ 9223372036854775807) := hin.1.2
      have HLen : Hid (((l.take k).map fun p => lock E p.1).length ≤ 10000) := by show List.length _ ≤ _; rw [List.length_map, List.length_take]; omega
      clear hrow hx hy hnx hin hlen
      obtain ⟨q, hq⟩ : ∃ q, wr.heap.size = q := ⟨_, rfl⟩
      obtain ⟨w2, hw2⟩ : ∃ w2, wr.alloc (.cells #[.int .i64 0, .int .i64 0] 62) = w2 := ⟨_, rfl⟩
      have hg2 : Hid (w2.heap[q]? = some (.cells #[.int .i64 0, .int .i64 0] 62 (0, 0))) := by rw [← hw2, ← hq]; exact new_row _ _ _
      go_upto_region 5 with (first
        | (refine wpList_load_mid rfl 62 _ rfl bp (off + k * 2) (by first | rfl | simp) [.int .i64 x, .int .i64 y] _ HRow.out Tryz.underlying62 rfl pair_size ?_)
        | (refine wpList_store_row rfl 62 _ _ rfl q #[.int .i64 x, .int .i64 y] rfl rfl 62 #[.int .i64 0, .int .i64 0] hg2.out pair_size rfl (by simp [Value.oneCell']) ?_))
      obtain ⟨w3, hw3⟩ : ∃ w3, w2.setRow q #[.int .i64 x, .int .i64 y] = w3 := ⟨_, rfl⟩
      have R3 : w3.heap[q]? = some (.cells #[.int .i64 x, .int .i64 y] 62 (0, 0)) := by rw [← hw3]; exact setRow_same hg2.out
      have s3 : w3.heap.size = q + 1 := by rw [← hw3, Bas.setRow_size, ← hw2, ← hq]; simp
      have b3 : Below q wr w3 := by rw [← hw3, ← hw2]; exact setRow_below ((Below.refl _ _).alloc (by omega) _) (Nat.le_refl _) _
      rw [hw3]
      have B3 : Hid (Below g w w3) := HB.out.trans (b3.mono (by omega))
      have T3 : Hid (TW w3 g ((l.take k).map fun p => lock E p.1) u5) := HT.out.kept fun j hj => b3.block j (by rw [← hq]; exact HT.out.own_lt hj)
      have hgq : g ≤ q := by omega
      have NQ : Hid (∀ j, u5.ownBlock = some j → j ≠ q) := fun j hj e => by have := HT.out.own_lt hj; omega
      have Z3 : w3.cell? ⟨q, 0, none⟩ = some (.int .i64 x) := by rw [cell_of_row _ _ _ _ _ _ R3]; rfl
      have S3 := Lib.hid s3
      have A3 : Row w3 b X T := HH.out.keep (B3.out.block b hbl)
      clear hw3 hw2 hg2 HRow R3 b3 HB HT s3 hq
      dsimp only [Act.put]
      refine start_ (n := 11) (S := fun w' => Row w' b X T ∧ w'.cell? ⟨q, 0, none⟩ = some (.int .i64 x)) (ds := []) #[false, false, false, false, false, false, false, false, false, false, false] (by kernel_rfl) rfl rfl ⟨A3, Z3⟩ (fun hHeld => ?_)
      refine pure_ (i := 0) (N := (some 14)) (v := ?_) (a' := ?_) #[true, false, false, false, false, false, false, false, false, false, false] rfl rfl (by kernel_rfl) (fun _ _ _ h => h) (Or.inl ⟨by rfl, ?_⟩) ?_ ?_
      rotate_left
      · intro w'
        go_simp
        with_reducible rfl
      rotate_left
      · simp only [Act.put, List.setIfInBounds_toArray, List.set_cons_zero, List.set_cons_succ, i64_w, i32_w]
        rfl
      refine pure_ (i := 1) (N := (some 15)) (v := ?_) (a' := ?_) #[true, true, false, false, false, false, false, false, false, false, false] rfl rfl (by kernel_rfl) (fun _ _ _ h => h) (Or.inl ⟨by rfl, ?_⟩) ?_ ?_
      rotate_left
      · intro w'
        go_simp
        with_reducible rfl
      rotate_left
      · simp only [Act.put, List.setIfInBounds_toArray, List.set_cons_zero, List.set_cons_succ, i64_w, i32_w]
        rfl
      refine pure_ (i := 2) (N := (some 16)) (v := ?_) (a' := ?_) #[true, true, true, false, false, false, false, false, false, false, false] rfl rfl (by kernel_rfl) (fun _ _ _ h => h) (Or.inl ⟨by rfl, ?_⟩) ?_ ?_
      rotate_left
      · intro w'
        go_simp
        with_reducible rfl
      rotate_left
      · simp only [Act.put, List.setIfInBounds_toArray, List.set_cons_zero, List.set_cons_succ, i64_w, i32_w]
        rfl
      refine pure_ (i := 3) (N := (some 17)) (v := ?_) (a' := ?_) #[true, true, true, true, false, false, false, false, false, false, false] rfl rfl (by kernel_rfl) (fun _ _ _ h => h) (Or.inl ⟨by rfl, ?_⟩) ?_ ?_
      rotate_left
      · intro w'
        go_simp
        with_reducible rfl
      rotate_left
      · simp only [Act.put, List.setIfInBounds_toArray, List.set_cons_zero, List.set_cons_succ, i64_w, i32_w]
        rfl
      refine take_ (i := 4) (N := (some 18)) (v := .agg (Lay.lay X.c X.a).toList.toArray) (a' := ?_) #[true, true, true, true, true, false, false, false, false, false, false] rfl rfl (by kernel_rfl) (fun _ _ _ h => h) (by exact yieldsIf_load_mid rfl 29 _ rfl b 0 rfl (Lay.lay X.c X.a).toList _ (fun w' s0 => row_range (s0.1) 0 _ (att_lay X _)) Tryz.underlying29 rfl (Lay.lay_size X.c X.a)) hHeld ?_ ?_
      rotate_left
      · simp only [Act.put, List.setIfInBounds_toArray, List.set_cons_zero, List.set_cons_succ, i64_w, i32_w]
        rfl
      refine pure_ (i := 5) (N := (some 19)) (v := ?_) (a' := ?_) #[true, true, true, true, true, true, false, false, false, false, false] rfl rfl (by kernel_rfl) (fun _ _ _ h => h) (Or.inl ⟨by rfl, ?_⟩) ?_ ?_
      rotate_left
      · intro w'
        go_simp
        with_reducible rfl
      rotate_left
      · simp only [Act.put, List.setIfInBounds_toArray, List.set_cons_zero, List.set_cons_succ, i64_w, i32_w]
        rfl
      refine take_ (i := 6) (N := (some 20)) (v := ?_) (a' := ?_) #[true, true, true, true, true, true, true, false, false, false, false] rfl rfl (by kernel_rfl) (fun _ _ _ h => h) (Or.inl ⟨by rfl, ?_⟩) hHeld ?_ ?_
      rotate_left
      · rintro w' ⟨s0, s1⟩
        go_simp
        with_reducible rfl
      rotate_left
      · simp only [Act.put, List.setIfInBounds_toArray, List.set_cons_zero, List.set_cons_succ, i64_w, i32_w]
        rfl
      refine one_ (i := 7) (N := (some 21)) #[true, true, true, true, true, true, true, true, false, false, false] rfl rfl (by kernel_rfl) (by decide) (fun K hK => ?_)
      refine goes_ Tryz.func78 (by kernel_rfl) rfl #[.agg (Lay.lay X.c X.a), .int .i64 x] (by rfl) rfl rfl (by first | rfl | (simp [Act.eval]; done) | (go_simp; done)) ?_
      refine (LK.out x _ HX.out).mono ?_
      rintro e w4 ⟨rfl, hb4⟩
      have b34 : Below w3.heap.size w3 w4 := (show Below w3.heap.size w3 w3.drew from (Below.refl _ _).drew).trans hb4
      have A4 : Row w4 b X T := HH.out.keep (by rw [b34.block b A3.lt]; exact B3.out.block b hbl)
      have Z4 : w4.cell? ⟨q, 0, none⟩ = some (.int .i64 x) := by rw [b34.cell (p := ⟨q, 0, none⟩) (by show q < _; rw [S3.out]; omega)]; exact Z3
      have B34 := Lib.hid b34
      clear b34 hb4
      refine ⟨_, rfl, ?_⟩
      refine hK.out _ _ ⟨A4, Z4⟩ (fun hHeld => ?_)
      clear hK K
      refine norm_ (a' := ?_) ?_ ?_
      rotate_left
      · show Act.put _ (some 21) _ = _
        simp only [Act.put, List.setIfInBounds_toArray, List.set_cons_zero, List.set_cons_succ, i64_w, i32_w]
        rfl
      refine one_ (i := 8) (N := (some 22)) #[true, true, true, true, true, true, true, true, true, false, false] rfl rfl (by kernel_rfl) (by decide) (fun K hK => ?_)
      refine value_ (by rfl) rfl (v := .slice (some ⟨w4.heap.size, 0, none⟩) 1 1) (w1 := w4.alloc (.cells #[.int .i64 (lock E x)] 3)) ?_ ?_
      · simp only [execOp, Sem.run_bind]
        have := run_int1 w4 (lock E x)
        simp [Act.eval, this, Result.andThen_ok]
      obtain ⟨w5, hw5⟩ : ∃ w5, w4.alloc (.cells #[.int .i64 (lock E x)] 3) = w5 := ⟨_, rfl⟩
      obtain ⟨p, hp⟩ : ∃ p, w4.heap.size = p := ⟨_, rfl⟩
      have b45 : Below w4.heap.size w4 w5 := by rw [← hw5]; exact (Below.refl _ _).alloc (Nat.le_refl _) _
      have n5 : w5.heap[p]? = some (.cells #[.int .i64 (lock E x)] 3 (0, 0)) := by rw [← hw5, ← hp]; exact new_row _ _ _
      have s5 : w5.heap.size = p + 1 := by rw [← hw5, ← hp]; simp
      rw [hw5, hp]
      have A5 : Row w5 b X T := A4.keep (b45.block b A4.lt)
      have Z5 : w5.cell? ⟨q, 0, none⟩ = some (.int .i64 x) := by rw [b45.cell (p := ⟨q, 0, none⟩) (World.block_lt_of_cell? _ _ Z4)]; exact Z4
      have T5 : TW w5 g ((l.take k).map fun p => lock E p.1) u5 := T3.out.kept fun j hj => by
        have h1 := T3.out.own_lt hj
        rw [b45.block j (by have := B34.out.size; omega), B34.out.block j h1]
      refine hK.out _ _ ⟨A5, Z5⟩ (fun hHeld => ?_)
      clear hK K
      refine norm_ (a' := ?_) ?_ ?_
      rotate_left
      · show Act.put _ (some 22) _ = _
        simp only [Act.put, List.setIfInBounds_toArray, List.set_cons_zero, List.set_cons_succ, i64_w, i32_w]
        rfl
      obtain ⟨v6, w6, hr6, T6, g6, o6⟩ := append_words (base := g) T5 HLen.out (by have := B3.out.size; have := B34.out.size; have := b45.size; rw [HG.out] at *; omega) (y := lock E x) n5
      refine one_ (i := 9) (N := (some 23)) #[true, true, true, true, true, true, true, true, true, true, false] rfl rfl (by kernel_rfl) (by decide) (fun K hK => ?_)
      refine value_ (by rfl) rfl (v := v6) (w1 := w6) ?_ ?_
      · simp only [execOp, resolve, invoke, builtin, Sem.run_bind, Sem.run_pure, Result.andThen_ok, List.map_toArray, List.map_cons, List.map_nil]
        simp [Act.eval, hr6, Result.andThen_ok]
      have A6 : Row w6 b X T := A5.keep (g6.block b A5.lt (fun e => by have := T5.block e.symm; omega))
      have Z6 : w6.cell? ⟨q, 0, none⟩ = some (.int .i64 x) := by
        have hk := g6.block q (World.block_lt_of_cell? _ _ Z5) (fun e => by have := T3.out.own_lt e.symm; rw [S3.out] at this; exact NQ.out _ e.symm rfl)
        rw [← Z5]; simp [World.cell?, hk]
      refine hK.out _ _ ⟨A6, Z6⟩ (fun hHeld => ?_)
      clear hK K
      refine norm_ (a' := ?_) ?_ ?_
      rotate_left
      · show Act.put _ (some 23) _ = _
        simp only [Act.put, List.setIfInBounds_toArray, List.set_cons_zero, List.set_cons_succ, i64_w, i32_w]
        rfl
      refine pure_ (i := 10) (N := (some 5)) (v := ?_) (a' := ?_) #[true, true, true, true, true, true, true, true, true, true, true] rfl rfl (by kernel_rfl) (fun _ _ _ h => h) (Or.inl ⟨by rfl, ?_⟩) ?_ ?_
      rotate_left
      · intro w'
        go_simp
        with_reducible rfl
      rotate_left
      · simp only [Act.put, List.setIfInBounds_toArray, List.set_cons_zero, List.set_cons_succ, i64_w, i32_w]
        rfl
      refine done_ (by kernel_rfl) ?_
      have T6' : Hid (TW w6 g ((l.take (k + 1)).map fun p => lock E p.1) v6) := by rw [Hid, HNX.out]; exact T6
      have B6 : Hid (Below g w w6) := by
        have h1 : Below g w w5 := (B3.out.trans (B34.out.mono (by rw [S3.out]; omega))).trans (b45.mono (by have := B34.out.size; rw [S3.out] at this; omega))
        exact h1.grown g6 (by have := h1.size; rw [HG.out] at this; exact this) (fun j hj => T5.block hj)
      clear T6 o6 g6 hr6 hHeld T5 Z5 Z6 A5 A6 n5 b45 A4 Z4 A3 Z3 hw5 hp s5
      go_wp2
      go_roundw
      case rel => exact ⟨k + 1, by omega, by go_num, T6', B6⟩
      case measure => simp [intOf]; omega
    · obtain rfl : n = k := by omega
      have HT2 : Hid (TW wr g (l.map fun p => lock E p.1) u5) := by have := HT.out; rwa [← HN.out, List.take_length] at this
      have HLen : Hid ((l.map fun p => lock E p.1).length = n) := by show List.length _ = _; rw [List.length_map]; exact HN.out
      have ER : Hid (locksOf E l = Lib.compact ((l.map fun p => lock E p.1).mergeSort fun x y => decide (x ≤ y))) := (compact_sorted _).symm
      obtain ⟨L, hL⟩ : ∃ L, (l.map fun p => lock E p.1) = L := ⟨_, rfl⟩
      rw [hL] at HT2 HLen ER
      clear HT hL
      obtain ⟨A5, c5, rfl⟩ := tw_slice HT2.out
      by_cases h0 : n = 0
      · have hL0 : L = [] := List.eq_nil_of_length_eq_zero (by rw [HLen.out]; exact h0)
        subst hL0
        have FIN : Hid (TW wr g (locksOf E l) (.slice A5 0 c5)) := by rw [Hid, ER.out, show Lib.compact (([] : List Int).mergeSort fun x y => decide (x ≤ y)) = [] by simp [Lib.compact, Lib.compactUpTo]]; exact HT2.out
        have SN := Tryz.slices_Sort_int_none A5 c5 wr
        have CN := Tryz.slices_Compact_int_empty A5 c5 wr
        clear HT2 HLen ER
        go_wp2_with (first
          | (go_at_call 97; refine SN.mono ?_; rintro e w7 ⟨rfl, rfl⟩)
          | (go_at_call 98; refine CN.mono ?_; rintro e w8 ⟨rfl, rfl⟩))
        go_ret
        exact ⟨_, rfl, FIN.out, HB.out⟩
      · obtain ⟨gs, rfl, hgs, -, -⟩ := HT2.out.shape (by rw [HLen.out]; omega)
        have SN := sort_tw HT2.out (by rw [HLen.out]; omega) (by rw [HLen.out]; omega)
        rw [HLen.out] at SN
        have SNH := Lib.hid SN
        have CNH : Hid (∀ w7, TW w7 g (L.mergeSort fun x y => decide (x ≤ y)) (.slice (some ⟨gs, 0, none⟩) n c5) → _) := fun w7 h7 => compact_tw h7 (by simp; rw [HLen.out]; omega) (by simp; rw [HLen.out]; omega)
        clear SN
        rw [HLen.out]
        go_wp2_with (first
          | (go_at_call 97; refine SNH.out.mono ?_; rintro e w7 ⟨rfl, t7, c7⟩; have T7 := Lib.hid t7; clear t7)
          | (go_at_call 98; refine (CNH.out _ T7.out).mono ?_; rintro e w8 ⟨rfl, t8, c8⟩))
        go_ret
        refine ⟨_, rfl, by rw [ER.out]; exact t8, ?_⟩
        have cc : Chg (fun j => g ≤ j) w w8 := ((Chg.of_below HB.out).trans (c7.mono (fun j _ e => by rw [e]; exact hgs))).trans (c8.mono (fun j _ e => by rw [e]; exact hgs))
        exact cc.below (by rw [HG.out]; exact Nat.le_refl _) (fun j h => h)

end Att
end Go.Proofs.YthojgahcpkdemaaGreat

/- rows of pairs of the call's own: what is held -/
namespace Go.Proofs.YthojgahcpkdemaaGreat
open Go.RowKit Go.Bas View VIn IMap_
open Go.ChangeShapes Go.Sor
namespace Att

/-- what is held, in a row of its own -/
def HTold (w : World) (base : Nat) (m : M) (v : Value) : Prop := ∃ A cap, v = .slice A m.length cap ∧ w.ownsRow base 116 2 v m.length (flat (vals m))
theorem HTold.low {w : World} {base base' : Nat} {m : M} {v : Value} (h : HTold w base m v) (hb : base' ≤ base) : HTold w base' m v := by
  obtain ⟨A, cap, rfl, hl, hr⟩ := h
  refine ⟨A, cap, rfl, hl, ?_⟩
  rcases hr with h | ⟨g, cp, cur, hv, hg, r⟩
  · exact .inl h
  · exact .inr ⟨g, cp, cur, hv, by omega, r⟩
theorem HTold.block {w : World} {base : Nat} {m : M} {v : Value} (h : HTold w base m v) {k : Nat} (e : v.ownBlock = some k) : base ≤ k := by
  obtain ⟨A, cap, rfl, hl, hr⟩ := h
  rcases hr with ⟨h, _⟩ | ⟨g, cp, cur, hv, hg, r⟩
  · rw [h] at e; simp [Value.ownBlock] at e
  · rw [hv] at e; simp [Value.ownBlock] at e; omega
theorem HTold.kept {w w' : World} {base : Nat} {m : M} {v : Value} (h : HTold w base m v) (hk : ∀ k, v.ownBlock = some k → w'.heap[k]? = w.heap[k]?) : HTold w' base m v := by
  obtain ⟨A, cap, rfl, hl, hr⟩ := h
  refine ⟨A, cap, rfl, hl, ?_⟩
  rcases hr with h | ⟨g, cp, cur, hv, hg, hh, r⟩
  · exact .inl h
  · exact .inr ⟨g, cp, cur, hv, hg, (hk g (by rw [hv]; rfl)).trans hh, r⟩
theorem HTold.own_lt {w : World} {base : Nat} {m : M} {v : Value} (h : HTold w base m v) {k : Nat} (e : v.ownBlock = some k) : k < w.heap.size := by
  obtain ⟨A, cap, rfl, hl, hr⟩ := h
  rcases hr with ⟨h, _⟩ | ⟨g, cp, cur, hv, hg, hh, r⟩
  · rw [h] at e; simp [Value.ownBlock] at e
  · rw [hv] at e; simp [Value.ownBlock] at e; subst e; exact (Array.getElem?_eq_some_iff.1 hh).1
theorem HTold.slice {w : World} {base : Nat} {m : M} {v : Value} (h : HTold w base m v) : ∃ A cap, v = .slice A m.length cap := by
  obtain ⟨A, c, rfl, _⟩ := h; exact ⟨A, c, rfl⟩
theorem htold_nil (w : World) (base : Nat) : HTold w base [] (.slice none 0 0) := ⟨none, 0, rfl, rfl, .inl ⟨rfl, rfl⟩⟩
theorem told_nil (w : World) (base : Nat) : View.Told w base [] (.slice none 0 0) := ⟨none, 0, rfl, rfl, .inl ⟨rfl, rfl⟩⟩
theorem told_slice {w : World} {base : Nat} {m : M} {v : Value} (h : View.Told w base m v) : ∃ A cap, v = .slice A m.length cap := by
  obtain ⟨A, c, rfl, _⟩ := h; exact ⟨A, c, rfl⟩
theorem flat_len : ∀ m : M, (flat (vals m)).length = m.length * 2
  | [] => rfl
  | p :: r => by
    have := flat_len r
    simp [vals, flat] at this ⊢
    omega
theorem flat_get {m : M} {i : Nat} (h : i < m.length) : (flat (vals m))[i * 2]? = some (.int .i64 m[i].1) ∧ (flat (vals m))[i * 2 + 1]? = some (.int .i64 m[i].2) := by
  induction m generalizing i with
  | nil => simp at h
  | cons p r ih =>
    cases i with
    | zero => exact ⟨rfl, rfl⟩
    | succ i =>
      have := ih (i := i) (by simpa using h)
      rw [show (i + 1) * 2 = i * 2 + 2 by omega]
      exact this
/-- one of those that are held -/
theorem HTold.range {w : World} {base : Nat} {m : M} {v : Value} (h : HTold w base m v) {i : Nat} (hi : i < m.length) : ∃ g cap, v = .slice (some ⟨g, 0, none⟩) m.length cap ∧ base ≤ g ∧ g < w.heap.size ∧ w.rangeAt g (i * 2) [.int .i64 (m.getD i (0, 0)).1, .int .i64 (m.getD i (0, 0)).2] := by
  obtain ⟨A, cap, rfl, hown⟩ := h
  rcases hown.2 with ⟨_, h'⟩ | ⟨g, cp, cur, hv, hg, hh, hn, hc, hs, ht⟩
  · omega
  · injection hv with e1 _ e3
    subst e1 e3
    refine ⟨g, _, rfl, hg, (Array.getElem?_eq_some_iff.1 hh).1, ?_⟩
    obtain ⟨f1, f2⟩ := flat_get hi
    have e : m.getD i (0, 0) = m[i] := by simp [List.getD_eq_getElem?_getD, hi]
    rw [e]
    have fl := flat_len m
    rintro (_ | _ | j) u hu <;> simp at hu
    · subst hu; exact row_cell hh ht f1
    · subst hu; exact row_cell hh ht f2
theorem told_range {w : World} {base : Nat} {m : M} {v : Value} (h : View.Told w base m v) {i : Nat} (hi : i < m.length) : ∃ g cap, v = .slice (some ⟨g, 0, none⟩) m.length cap ∧ base ≤ g ∧ g < w.heap.size ∧ w.rangeAt g (i * 2) [.int .i64 (m.getD i (0, 0)).1, .int .i64 (m.getD i (0, 0)).2] := by
  obtain ⟨A, cap, rfl, hown⟩ := h
  rcases hown.2 with ⟨_, h'⟩ | ⟨g, cp, cur, hv, hg, hh, hn, hc, hs, ht⟩
  · omega
  · injection hv with e1 _ e3
    subst e1 e3
    refine ⟨g, _, rfl, hg, (Array.getElem?_eq_some_iff.1 hh).1, ?_⟩
    obtain ⟨f1, f2⟩ := flat_get hi
    have e : m.getD i (0, 0) = m[i] := by simp [List.getD_eq_getElem?_getD, hi]
    rw [e]
    have fl := flat_len m
    rintro (_ | _ | j) u hu <;> simp at hu
    · subst hu; exact row_cell hh ht f1
    · subst hu; exact row_cell hh ht f2

theorem infoHeld : (Tryz.prog.info? 116).map (fun i => (i.zero, i.size, i.bytes)) = some (some (.agg #[.int .i64 0, .int .i64 0]), 2, 16) := by kernel_rfl
theorem pair_at {w : World} {p : Nat} {x y : Int} {t : TypeId} (hp : w.heap[p]? = some (.cells #[.int .i64 x, .int .i64 y] t (0, 0))) : ∀ j u, ([.int .i64 x, .int .i64 y] : List Value)[j]? = some u → w.cell? ((⟨p, 0, none⟩ : Addr).add j) = some u := fun j u hj => by
  have hadd : (⟨p, 0, none⟩ : Addr).add j = ⟨p, j, none⟩ := by unfold Addr.add; split <;> simp_all
  rw [hadd, cell_of_row _ _ _ _ _ _ hp]; simpa using hj
theorem append_held {w : World} {base : Nat} {out : M} {v : Value} (h : HTold w base out v) (hn : out.length ≤ 10000) (hb : base ≤ w.heap.size) {x y : Int} {p : Nat} (hp : w.heap[p]? = some (.cells #[.int .i64 x, .int .i64 y] 116 (0, 0))) :
    ∃ v' w', (Builtin.append_ #[76, 76] 76 #[v, .slice (some ⟨p, 0, none⟩) 1 1]).run Tryz.prog w = .ok v' w' ∧ HTold w' base (out ++ [(x, y)]) v' ∧ w.grownBy w' v.ownBlock ∧ (v'.ownBlock = v.ownBlock ∨ v'.ownBlock = some w.heap.size) := by
  obtain ⟨i0, hi0, hz0, hz1, hz2⟩ := info_parts infoHeld
  obtain ⟨A, cap, rfl, hown⟩ := h
  obtain ⟨v', w', hr, ho, hg, hb'⟩ := run_append_any (P := Tryz.prog) w base 76 76 116 i0 (.agg #[.int .i64 0, .int .i64 0]) 2 16 Tryz.underlying76 hi0 hz0 hz1 hz2 rfl (by decide) (.slice A out.length cap) out.length (flat (vals out)) hown (some ⟨p, 0, none⟩) 1 1 [.int .i64 x, .int .i64 y] rfl
    (fun _ => ⟨_, rfl, pair_at hp⟩) (by simp [Value.oneCell']) (by unfold maxLen; omega) (by omega) hb
  obtain ⟨A1, c1, rfl⟩ := own_slice ho
  exact ⟨_, w', hr, ⟨A1, c1, by simp, by rw [flat_snoc]; simpa using ho⟩, hg, hb'⟩
theorem append_pair {w : World} {base : Nat} {out : M} {v : Value} (h : View.Told w base out v) (hn : out.length ≤ 10000) (hb : base ≤ w.heap.size) {x y : Int} {p : Nat} (hp : w.heap[p]? = some (.cells #[.int .i64 x, .int .i64 y] 62 (0, 0))) :
    ∃ v' w', (Builtin.append_ #[53, 53] 53 #[v, .slice (some ⟨p, 0, none⟩) 1 1]).run Tryz.prog w = .ok v' w' ∧ View.Told w' base (out ++ [(x, y)]) v' ∧ w.grownBy w' v.ownBlock ∧ (v'.ownBlock = v.ownBlock ∨ v'.ownBlock = some w.heap.size) := by
  obtain ⟨i0, hi0, hz0, hz1, hz2⟩ := info_parts infoPair
  obtain ⟨A, cap, rfl, hown⟩ := h
  obtain ⟨v', w', hr, ho, hg, hb'⟩ := run_append_any (P := Tryz.prog) w base 53 53 62 i0 (.agg #[.int .i64 0, .int .i64 0]) 2 16 Tryz.underlying53 hi0 hz0 hz1 hz2 rfl (by decide) (.slice A out.length cap) out.length (flat (vals out)) hown (some ⟨p, 0, none⟩) 1 1 [.int .i64 x, .int .i64 y] rfl
    (fun _ => ⟨_, rfl, pair_at hp⟩) (by simp [Value.oneCell']) (by unfold maxLen; omega) (by omega) hb
  obtain ⟨A1, c1, rfl⟩ := own_slice ho
  exact ⟨_, w', hr, ⟨A1, c1, by simp, by rw [flat_snoc]; simpa using ho⟩, hg, hb'⟩
/-- a slice of one that is held is built -/
theorem run_held1 (w : World) (x0 x1 : Value) : (Instr.buildSlice 76 1 #[(0, .agg #[x0, x1])]).run Tryz.prog w = .ok (.slice (some ⟨w.heap.size, 0, none⟩) 1 1) (w.alloc (.cells #[x0, x1] 116)) := by
  have hinfo : (Tryz.prog.info? 116).map (fun i => (i.zero, i.size)) = some (some (.agg #[.int .i64 0, .int .i64 0]), 2) := by kernel_rfl
  obtain ⟨i, hi, hzz⟩ := Option.map_eq_some_iff.1 hinfo
  simp only [Prod.mk.injEq] at hzz
  obtain ⟨hz, hs⟩ := hzz
  refine run_buildSlice w _ 116 1 _ #[x0, x1] i _ Tryz.underlying76 hi hz (by rw [hs]; decide) (by rw [hs]; decide) ?_
  rw [hs]
  kernel_rfl

end Att
end Go.Proofs.YthojgahcpkdemaaGreat

/- an attempt looks at a lock -/
namespace Go.Proofs.YthojgahcpkdemaaGreat
open Go.RowKit Go.Bas
open Go.Proofs.YthojgahcpkdemaaGreatW.PrintLast
namespace Att

set_option maxRecDepth 100000 in
set_option maxHeartbeats 4000000 in
theorem locked_any {w : World} {b : Nat} {X : AV} {T : AT} {a g : Nat} {W : List Int} {c : Int} (H : Row w b X T) (hA : Ar w a g W c) (hc : 0 ≤ c ∧ c < 4611686018427387904) (hne : b ≠ a ∧ b ≠ g) (run : M → Int × M) (fine : 1 ≤ X.c.stripes ∧ X.c.stripes ≤ 1048576) (hna : T.na ≤ 9223372036854775807) (hseen : 0 ≤ T.seen ∧ T.seen ≤ 9223372036854775807)
    (hW : ∀ k, IMap_.In64 (ld W k)) {vA : Option Addr} {vc : Nat} (hv : X.vh = .slice vA T.holds.length vc) :
    Calls Tryz.prog 64 #[.pointer (some ⟨b, 0, none⟩), .pointer (some ⟨a, 0, none⟩)] w fun e w' => e = .returned (.tuple #[]) ∧ Row w' b X (locked (env X.c X.a run) T W) ∧ Ar w' a g W (c + cnt W (lock (env X.c X.a run) T.na)) ∧ Chg (fun k => k = b ∨ k = a ∨ k = g) w w' := by
  have hbl := H.lt
  have HH := Lib.hid H
  have HA := Lib.hid hA
  obtain ⟨k, hk⟩ : ∃ k, lock (env X.c X.a run) T.na = k := ⟨_, rfl⟩
  have HK := Lib.hid hk
  obtain ⟨x, hx⟩ : ∃ x, ld W k = x := ⟨_, rfl⟩
  have HX := Lib.hid hx
  have hxi := hW k
  rw [hx] at hxi
  obtain ⟨f, hf⟩ : ∃ f, freshB x T.seen = f := ⟨_, rfl⟩
  have FR : Hid (∀ w, Calls Tryz.prog 21 #[.int .i64 x, .int .i64 T.seen] w fun e w' => e = .returned (.bool f) ∧ Below w.heap.size w w') := fun w => by rw [← hf]; exact fresh_any x T.seen hxi w
  have eL : locked (env X.c X.a run) T W = if f then { T with was := x, phase := 2 } else fin { T with was := x, phase := 2 } 2 := by
    unfold locked; rw [hk, hx, ← hf]
  have EL := Lib.hid eL
  clear H hA hk hx hxi hf eL hW
  go_enter Tryz.func64, Tryz.ntmps64
  go_wp2
  refine start_ (n := 19) (S := fun w' => Row w' b X T) (ds := [18]) #[false, false, false, false, false, false, false, false, false, false, false, false, false, false, false, false, false, false, false] (by kernel_rfl) rfl rfl (HH.out) (fun hHeld => ?_)
  refine pure_ (i := 0) (N := (some 5)) (v := ?_) (a' := ?_) #[true, false, false, false, false, false, false, false, false, false, false, false, false, false, false, false, false, false, false] rfl rfl (by kernel_rfl) (fun _ _ _ h => h) (Or.inl ⟨by rfl, ?_⟩) ?_ ?_
  rotate_left
  · intro w'
    go_simp
    with_reducible rfl
  rotate_left
  · simp only [Act.put, List.setIfInBounds_toArray, List.set_cons_zero, List.set_cons_succ, i64_w, i32_w]
    rfl
  refine pure_ (i := 1) (N := (some 6)) (v := ?_) (a' := ?_) #[true, true, false, false, false, false, false, false, false, false, false, false, false, false, false, false, false, false, false] rfl rfl (by kernel_rfl) (fun _ _ _ h => h) (Or.inl ⟨by rfl, ?_⟩) ?_ ?_
  rotate_left
  · intro w'
    go_simp
    with_reducible rfl
  rotate_left
  · simp only [Act.put, List.setIfInBounds_toArray, List.set_cons_zero, List.set_cons_succ, i64_w, i32_w]
    rfl
  refine pure_ (i := 2) (N := (some 7)) (v := ?_) (a' := ?_) #[true, true, true, false, false, false, false, false, false, false, false, false, false, false, false, false, false, false, false] rfl rfl (by kernel_rfl) (fun _ _ _ h => h) (Or.inl ⟨by rfl, ?_⟩) ?_ ?_
  rotate_left
  · intro w'
    go_simp
    with_reducible rfl
  rotate_left
  · simp only [Act.put, List.setIfInBounds_toArray, List.set_cons_zero, List.set_cons_succ, i64_w, i32_w]
    rfl
  refine pure_ (i := 3) (N := (some 8)) (v := ?_) (a' := ?_) #[true, true, true, true, false, false, false, false, false, false, false, false, false, false, false, false, false, false, false] rfl rfl (by kernel_rfl) (fun _ _ _ h => h) (Or.inl ⟨by rfl, ?_⟩) ?_ ?_
  rotate_left
  · intro w'
    go_simp
    with_reducible rfl
  rotate_left
  · simp only [Act.put, List.setIfInBounds_toArray, List.set_cons_zero, List.set_cons_succ, i64_w, i32_w]
    rfl
  refine pure_ (i := 4) (N := (some 9)) (v := ?_) (a' := ?_) #[true, true, true, true, true, false, false, false, false, false, false, false, false, false, false, false, false, false, false] rfl rfl (by kernel_rfl) (fun _ _ _ h => h) (Or.inl ⟨by rfl, ?_⟩) ?_ ?_
  rotate_left
  · intro w'
    go_simp
    with_reducible rfl
  rotate_left
  · simp only [Act.put, List.setIfInBounds_toArray, List.set_cons_zero, List.set_cons_succ, i64_w, i32_w]
    rfl
  refine take_ (i := 5) (N := (some 10)) (v := .agg (Lay.lay X.c X.a).toList.toArray) (a' := ?_) #[true, true, true, true, true, true, false, false, false, false, false, false, false, false, false, false, false, false, false] rfl rfl (by kernel_rfl) (fun _ _ _ h => h) (by exact yieldsIf_load_mid rfl 29 _ rfl b 0 rfl (Lay.lay X.c X.a).toList _ (fun w' s0 => row_range s0 0 _ (att_lay X _)) Tryz.underlying29 rfl (Lay.lay_size X.c X.a)) hHeld ?_ ?_
  rotate_left
  · simp only [Act.put, List.setIfInBounds_toArray, List.set_cons_zero, List.set_cons_succ, i64_w, i32_w]
    rfl
  refine pure_ (i := 6) (N := (some 11)) (v := ?_) (a' := ?_) #[true, true, true, true, true, true, true, false, false, false, false, false, false, false, false, false, false, false, false] rfl rfl (by kernel_rfl) (fun _ _ _ h => h) (Or.inl ⟨by rfl, ?_⟩) ?_ ?_
  rotate_left
  · intro w'
    go_simp
    with_reducible rfl
  rotate_left
  · simp only [Act.put, List.setIfInBounds_toArray, List.set_cons_zero, List.set_cons_succ, i64_w, i32_w]
    rfl
  refine pure_ (i := 7) (N := (some 12)) (v := ?_) (a' := ?_) #[true, true, true, true, true, true, true, true, false, false, false, false, false, false, false, false, false, false, false] rfl rfl (by kernel_rfl) (fun _ _ _ h => h) (Or.inl ⟨by rfl, ?_⟩) ?_ ?_
  rotate_left
  · intro w'
    go_simp
    with_reducible rfl
  rotate_left
  · simp only [Act.put, List.setIfInBounds_toArray, List.set_cons_zero, List.set_cons_succ, i64_w, i32_w]
    rfl
  refine pure_ (i := 8) (N := (some 13)) (v := ?_) (a' := ?_) #[true, true, true, true, true, true, true, true, true, false, false, false, false, false, false, false, false, false, false] rfl rfl (by kernel_rfl) (fun _ _ _ h => h) (Or.inl ⟨by rfl, ?_⟩) ?_ ?_
  rotate_left
  · intro w'
    go_simp
    with_reducible rfl
  rotate_left
  · simp only [Act.put, List.setIfInBounds_toArray, List.set_cons_zero, List.set_cons_succ, i64_w, i32_w]
    rfl
  refine pure_ (i := 9) (N := (some 14)) (v := ?_) (a' := ?_) #[true, true, true, true, true, true, true, true, true, true, false, false, false, false, false, false, false, false, false] rfl rfl (by kernel_rfl) (fun _ _ _ h => h) (Or.inl ⟨by rfl, ?_⟩) ?_ ?_
  rotate_left
  · intro w'
    go_simp
    with_reducible rfl
  rotate_left
  · simp only [Act.put, List.setIfInBounds_toArray, List.set_cons_zero, List.set_cons_succ, i64_w, i32_w]
    rfl
  refine take_ (i := 10) (N := (some 15)) (v := ?_) (a' := ?_) #[true, true, true, true, true, true, true, true, true, true, true, false, false, false, false, false, false, false, false] rfl rfl (by kernel_rfl) (fun _ _ _ h => h) (Or.inl ⟨by rfl, ?_⟩) hHeld ?_ ?_
  rotate_left
  · intro w' s0
    have q1 := Row.get s0
    go_simp
    with_reducible rfl
  rotate_left
  · simp only [Act.put, List.setIfInBounds_toArray, List.set_cons_zero, List.set_cons_succ, i64_w, i32_w]
    rfl
  refine one_ (i := 11) (N := (some 16)) #[true, true, true, true, true, true, true, true, true, true, true, true, false, false, false, false, false, false, false] rfl rfl (by kernel_rfl) (by decide) (fun K hK => ?_)
  refine goes_ Tryz.func78 (by kernel_rfl) rfl #[.agg (Lay.lay X.c X.a), .int .i64 T.na] (by rfl) rfl rfl (by first | rfl | (simp [Act.eval]; done) | (go_simp; done)) ?_
  refine (lock_of X.c X.a run fine T.na hna _).mono ?_
  rintro e w2 ⟨rfl, hb2⟩
  rw [HK.out]
  have R2 : Row w2 b X T := Row.keep hHeld (hb2.block b hHeld.lt)
  have HB2 := Lib.hid hb2
  clear hb2
  refine ⟨_, rfl, ?_⟩
  refine hK.out _ _ R2 (fun hHeld => ?_)
  clear hK K
  refine norm_ (a' := ?_) ?_ ?_
  rotate_left
  · show Act.put _ (some 16) _ = _
    simp only [Act.put, List.setIfInBounds_toArray, List.set_cons_zero, List.set_cons_succ, i64_w, i32_w]
    rfl
  refine one_ (i := 12) (N := (some 17)) #[true, true, true, true, true, true, true, true, true, true, true, true, true, false, false, false, false, false, false] rfl rfl (by kernel_rfl) (by decide) (fun K hK => ?_)
  refine goes_ Tryz.func19 (by kernel_rfl) rfl #[.pointer (some ⟨a, 0, none⟩), .int .i64 k] (by rfl) rfl rfl (by first | rfl | (simp [Act.eval]; done) | (go_simp; done)) ?_
  refine (load_any (HA.out.below (show Below w.heap.size w w2 from (Below.refl _ _).drew.trans HB2.out)) hc k).mono ?_
  rintro e w3 ⟨rfl, ha3, hc3⟩
  rw [HX.out]
  have R3 : Row w3 b X T := Row.keep hHeld (hc3.block b hHeld.lt (fun h => h.elim hne.1 hne.2))
  have HA3 := Lib.hid ha3
  clear ha3
  refine ⟨_, rfl, ?_⟩
  refine hK.out _ _ R3 (fun hHeld => ?_)
  clear hK K
  refine norm_ (a' := ?_) ?_ ?_
  rotate_left
  · show Act.put _ (some 17) _ = _
    simp only [Act.put, List.setIfInBounds_toArray, List.set_cons_zero, List.set_cons_succ, i64_w, i32_w]
    rfl
  refine pure_ (i := 13) (N := (some 4)) (v := ?_) (a' := ?_) #[true, true, true, true, true, true, true, true, true, true, true, true, true, true, false, false, false, false, false] rfl rfl (by kernel_rfl) (fun _ _ _ h => h) (Or.inl ⟨by rfl, ?_⟩) ?_ ?_
  rotate_left
  · intro w'
    go_simp
    with_reducible rfl
  rotate_left
  · simp only [Act.put, List.setIfInBounds_toArray, List.set_cons_zero, List.set_cons_succ, i64_w, i32_w]
    rfl
  refine pure_ (i := 14) (N := (some 18)) (v := ?_) (a' := ?_) #[true, true, true, true, true, true, true, true, true, true, true, true, true, true, true, false, false, false, false] rfl rfl (by kernel_rfl) (fun _ _ _ h => h) (Or.inl ⟨by rfl, ?_⟩) ?_ ?_
  rotate_left
  · intro w'
    go_simp
    with_reducible rfl
  rotate_left
  · simp only [Act.put, List.setIfInBounds_toArray, List.set_cons_zero, List.set_cons_succ, i64_w, i32_w]
    rfl
  refine pure_ (i := 15) (N := (some 19)) (v := ?_) (a' := ?_) #[true, true, true, true, true, true, true, true, true, true, true, true, true, true, true, true, false, false, false] rfl rfl (by kernel_rfl) (fun _ _ _ h => h) (Or.inl ⟨by rfl, ?_⟩) ?_ ?_
  rotate_left
  · intro w'
    go_simp
    with_reducible rfl
  rotate_left
  · simp only [Act.put, List.setIfInBounds_toArray, List.set_cons_zero, List.set_cons_succ, i64_w, i32_w]
    rfl
  refine pure_ (i := 16) (N := (some 20)) (v := ?_) (a' := ?_) #[true, true, true, true, true, true, true, true, true, true, true, true, true, true, true, true, true, false, false] rfl rfl (by kernel_rfl) (fun _ _ _ h => h) (Or.inl ⟨by rfl, ?_⟩) ?_ ?_
  rotate_left
  · intro w'
    go_simp
    with_reducible rfl
  rotate_left
  · simp only [Act.put, List.setIfInBounds_toArray, List.set_cons_zero, List.set_cons_succ, i64_w, i32_w]
    rfl
  refine pure_ (i := 17) (N := (some 21)) (v := ?_) (a' := ?_) #[true, true, true, true, true, true, true, true, true, true, true, true, true, true, true, true, true, true, false] rfl rfl (by kernel_rfl) (fun _ _ _ h => h) (Or.inl ⟨by rfl, ?_⟩) ?_ ?_
  rotate_left
  · intro w'
    go_simp
    with_reducible rfl
  rotate_left
  · simp only [Act.put, List.setIfInBounds_toArray, List.set_cons_zero, List.set_cons_succ, i64_w, i32_w]
    rfl
  refine last_ (i := 18) (N := none) #[true, true, true, true, true, true, true, true, true, true, true, true, true, true, true, true, true, true, true] rfl rfl (by kernel_rfl) (by decide) (fun K hK => ?_)
  have q1 := Row.get hHeld
  have q2 := Row.set hHeld
  have q3 := Row.free hHeld
  refine skip_ (by rfl) rfl (w1 := ?_) ?_ ?_
  rotate_left
  · go_simp
    with_reducible rfl
  rotate_left
  refine hK.out _ _ ?_
  clear hK K
  refine done_ (by kernel_rfl) ?_
  have HR3 := Lib.hid hHeld
  have C3 : Hid (Chg (fun k => k = b ∨ k = a ∨ k = g) w w3) := ((Chg.drew _ w).trans ((Chg.of_below HB2.out).mono (fun k h1 h2 => by omega))).trans (hc3.mono (fun _ _ h => .inr h))
  clear R2 R3 hc3
  have q4 := Row.get' HR3.out; have q5 := Row.set' HR3.out; have q6 := Row.free' HR3.out
  go_upto_region 2 with fail
  clear q1 q2 q3 q4 q5 q6
  obtain ⟨w5, hw5⟩ : ∃ w5, w3.setRow b (attRow X { T with was := x, phase := 2 }) = w5 := ⟨_, rfl⟩
  rw [hw5]
  have R5 : Row w5 b X { T with was := x, phase := 2 } := by rw [← hw5]; exact HR3.out.now
  have A5 : Hid (Ar w5 a g W (c + cnt W k)) := by rw [← hw5]; exact HA3.out.after (Row.chg _) hne
  have C5 : Hid (Chg (fun k => k = b ∨ k = a ∨ k = g) w w5) := by rw [← hw5]; exact C3.out.trans ((Row.chg _).mono (fun _ _ h => .inl h))
  clear hw5 C3 HA3 HR3 hHeld
  have z1 : ∀ e : Ext (w5.heap.size) w5, e.at_.cell? ⟨b, 31, none⟩ = some (.int .i64 x) := ext_cell R5 R5.lt rfl
  have z2 : ∀ e : Ext (w5.heap.size) w5, e.at_.cell? ⟨b, 27, none⟩ = some (.int .i64 T.seen) := ext_cell R5 R5.lt rfl
  have HR5 := Lib.hid R5
  clear R5
  refine wp_region_mono w5.heap.size (by kernel_rfl) (by kernel_rfl) ?_
  repeat (any_goals (go_big_quiet_step ((go_at_call 21; exact Calls.ext (Nat.le_refl _) (FR.out _)))))
  refine wpQuiet_nil ?_
  rintro ⟨w6, hb6⟩
  have R6 : Row w6 b X { T with was := x, phase := 2 } := by have := hb6.block b HR5.out.lt; exact HR5.out.keep this
  have A6 : Hid (Ar w6 a g W (c + cnt W k)) := A5.out.below hb6
  have C6 : Hid (Chg (fun k => k = b ∨ k = a ∨ k = g) w w6) := C5.out.trans ((Chg.of_below hb6).mono (fun k h1 h2 => by omega))
  have HR6 := Lib.hid R6
  clear z1 z2 R6 A5 C5 HR5
  cases f with
  | true =>
    go_wp2
    go_end0
    exact ⟨rfl, by rw [EL.out]; exact HR6.out, by rw [HK.out]; exact A6.out, C6.out⟩
  | false =>
    go_wp2_with (first
      | (go_at_call 47; refine (end_any HR6.out 2).mono ?_; rintro e w7 ⟨rfl, hr, hc7⟩; have HR7 := Lib.hid hr; clear hr))
    go_end0
    exact ⟨rfl, by rw [EL.out]; exact HR7.out, by rw [HK.out]; exact A6.out.after hc7 hne, C6.out.trans (hc7.mono (fun _ _ h => .inl h))⟩

end Att
end Go.Proofs.YthojgahcpkdemaaGreat

/- an attempt looks at a lock that is to be held -/
namespace Go.Proofs.YthojgahcpkdemaaGreat
open Go.RowKit Go.Bas
open Go.Proofs.YthojgahcpkdemaaGreatW.PrintLast
namespace Att

set_option maxRecDepth 100000 in
set_option maxHeartbeats 4000000 in
theorem looks_any {w : World} {b : Nat} {X : AV} {T : AT} {a g : Nat} {W : List Int} {c : Int} (H : Row w b X T) (hA : Ar w a g W c) (hc : 0 ≤ c ∧ c < 4611686018427387904) (hne : b ≠ a ∧ b ≠ g) 
    (hW : ∀ k, IMap_.In64 (ld W k)) {vA : Option Addr} {vc : Nat} (hv : X.vh = .slice vA T.holds.length vc) {gl n cp : Nat} (hl : X.vl = .slice (some ⟨gl, 0, none⟩) n cp) (hin : T.holds.length < n) (hng : gl ≠ a ∧ gl ≠ g) (hkc : w.cell? ⟨gl, T.holds.length, none⟩ = some (.int .i64 (T.locks.getD T.holds.length 0))) :
    Calls Tryz.prog 67 #[.pointer (some ⟨b, 0, none⟩), .pointer (some ⟨a, 0, none⟩)] w fun e w' => e = .returned (.tuple #[]) ∧ Row w' b X (looks T W) ∧ Ar w' a g W (c + cnt W (T.locks.getD T.holds.length 0)) ∧ Chg (fun k => k = b ∨ k = a ∨ k = g) w w' := by
  have hbl := H.lt
  have HH := Lib.hid H
  have HA := Lib.hid hA
  have hv0 := Lib.hid hv
  obtain ⟨h, hh⟩ : ∃ h, T.holds.length = h := ⟨_, rfl⟩
  rw [hh] at hkc hin hv ⊢
  obtain ⟨k, hk⟩ : ∃ k, T.locks.getD h 0 = k := ⟨_, rfl⟩
  rw [hk] at hkc ⊢
  have HKC := Lib.hid hkc
  have HK := Lib.hid hk
  obtain ⟨x, hx⟩ : ∃ x, ld W k = x := ⟨_, rfl⟩
  have HX := Lib.hid hx
  have hxi := hW k
  rw [hx] at hxi
  obtain ⟨f, hf⟩ : ∃ f, freshB x T.seen = f := ⟨_, rfl⟩
  have FR : Hid (∀ w, Calls Tryz.prog 21 #[.int .i64 x, .int .i64 T.seen] w fun e w' => e = .returned (.bool f) ∧ Below w.heap.size w w') := fun w => by rw [← hf]; exact fresh_any x T.seen hxi w
  have eL : looks T W = if f then { T with was := x, phase := 5 } else giveUp { T with was := x, phase := 5 } 2 := by
    unfold looks; rw [hh, hk, hx, ← hf]
  have EL := Lib.hid eL
  clear H hA hk hx hxi hf eL hW hh hkc
  go_enter Tryz.func67, Tryz.ntmps67
  go_wp2
  refine start_ (n := 20) (S := fun w' => Row w' b X T ∧ w'.cell? ⟨gl, h, none⟩ = some (.int .i64 k)) (ds := [19]) #[false, false, false, false, false, false, false, false, false, false, false, false, false, false, false, false, false, false, false, false] (by kernel_rfl) rfl rfl ⟨HH.out, HKC.out⟩ (fun hHeld => ?_)
  refine pure_ (i := 0) (N := (some 5)) (v := ?_) (a' := ?_) #[true, false, false, false, false, false, false, false, false, false, false, false, false, false, false, false, false, false, false, false] rfl rfl (by kernel_rfl) (fun _ _ _ h => h) (Or.inl ⟨by rfl, ?_⟩) ?_ ?_
  rotate_left
  · intro w'
    go_simp
    with_reducible rfl
  rotate_left
  · simp only [Act.put, List.setIfInBounds_toArray, List.set_cons_zero, List.set_cons_succ, i64_w, i32_w]
    rfl
  refine pure_ (i := 1) (N := (some 6)) (v := ?_) (a' := ?_) #[true, true, false, false, false, false, false, false, false, false, false, false, false, false, false, false, false, false, false, false] rfl rfl (by kernel_rfl) (fun _ _ _ h => h) (Or.inl ⟨by rfl, ?_⟩) ?_ ?_
  rotate_left
  · intro w'
    go_simp
    with_reducible rfl
  rotate_left
  · simp only [Act.put, List.setIfInBounds_toArray, List.set_cons_zero, List.set_cons_succ, i64_w, i32_w]
    rfl
  refine pure_ (i := 2) (N := (some 7)) (v := ?_) (a' := ?_) #[true, true, true, false, false, false, false, false, false, false, false, false, false, false, false, false, false, false, false, false] rfl rfl (by kernel_rfl) (fun _ _ _ h => h) (Or.inl ⟨by rfl, ?_⟩) ?_ ?_
  rotate_left
  · intro w'
    go_simp
    with_reducible rfl
  rotate_left
  · simp only [Act.put, List.setIfInBounds_toArray, List.set_cons_zero, List.set_cons_succ, i64_w, i32_w]
    rfl
  refine pure_ (i := 3) (N := (some 8)) (v := ?_) (a' := ?_) #[true, true, true, true, false, false, false, false, false, false, false, false, false, false, false, false, false, false, false, false] rfl rfl (by kernel_rfl) (fun _ _ _ h => h) (Or.inl ⟨by rfl, ?_⟩) ?_ ?_
  rotate_left
  · intro w'
    go_simp
    with_reducible rfl
  rotate_left
  · simp only [Act.put, List.setIfInBounds_toArray, List.set_cons_zero, List.set_cons_succ, i64_w, i32_w]
    rfl
  refine pure_ (i := 4) (N := (some 9)) (v := ?_) (a' := ?_) #[true, true, true, true, true, false, false, false, false, false, false, false, false, false, false, false, false, false, false, false] rfl rfl (by kernel_rfl) (fun _ _ _ h => h) (Or.inl ⟨by rfl, ?_⟩) ?_ ?_
  rotate_left
  · intro w'
    go_simp
    with_reducible rfl
  rotate_left
  · simp only [Act.put, List.setIfInBounds_toArray, List.set_cons_zero, List.set_cons_succ, i64_w, i32_w]
    rfl
  refine take_ (i := 5) (N := (some 10)) (v := ?_) (a' := ?_) #[true, true, true, true, true, true, false, false, false, false, false, false, false, false, false, false, false, false, false, false] rfl rfl (by kernel_rfl) (fun _ _ _ h => h) (Or.inl ⟨by rfl, ?_⟩) hHeld ?_ ?_
  rotate_left
  · rintro w' ⟨s0, s1⟩
    have q1 := Row.get s0
    go_simp
    with_reducible rfl
  rotate_left
  · simp only [Act.put, List.setIfInBounds_toArray, List.set_cons_zero, List.set_cons_succ, i64_w, i32_w]
    rfl
  refine pure_ (i := 6) (N := (some 11)) (v := ?_) (a' := ?_) #[true, true, true, true, true, true, true, false, false, false, false, false, false, false, false, false, false, false, false, false] rfl rfl (by kernel_rfl) (fun _ _ _ h => h) (Or.inl ⟨by rfl, ?_⟩) ?_ ?_
  rotate_left
  · intro w'
    go_simp
    with_reducible rfl
  rotate_left
  · simp only [Act.put, List.setIfInBounds_toArray, List.set_cons_zero, List.set_cons_succ, i64_w, i32_w]
    rfl
  refine pure_ (i := 7) (N := (some 12)) (v := ?_) (a' := ?_) #[true, true, true, true, true, true, true, true, false, false, false, false, false, false, false, false, false, false, false, false] rfl rfl (by kernel_rfl) (fun _ _ _ h => h) (Or.inl ⟨by rfl, ?_⟩) ?_ ?_
  rotate_left
  · intro w'
    go_simp
    with_reducible rfl
  rotate_left
  · simp only [Act.put, List.setIfInBounds_toArray, List.set_cons_zero, List.set_cons_succ, i64_w, i32_w]
    rfl
  refine pure_ (i := 8) (N := (some 13)) (v := ?_) (a' := ?_) #[true, true, true, true, true, true, true, true, true, false, false, false, false, false, false, false, false, false, false, false] rfl rfl (by kernel_rfl) (fun _ _ _ h => h) (Or.inl ⟨by rfl, ?_⟩) ?_ ?_
  rotate_left
  · intro w'
    go_simp
    with_reducible rfl
  rotate_left
  · simp only [Act.put, List.setIfInBounds_toArray, List.set_cons_zero, List.set_cons_succ, i64_w, i32_w]
    rfl
  refine take_ (i := 9) (N := (some 14)) (v := ?_) (a' := ?_) #[true, true, true, true, true, true, true, true, true, true, false, false, false, false, false, false, false, false, false, false] rfl rfl (by kernel_rfl) (fun _ _ _ h => h) (Or.inl ⟨by rfl, ?_⟩) hHeld ?_ ?_
  rotate_left
  · rintro w' ⟨s0, s1⟩
    have q1 := Row.get s0
    go_simp
    with_reducible rfl
  rotate_left
  · simp only [Act.put, List.setIfInBounds_toArray, List.set_cons_zero, List.set_cons_succ, i64_w, i32_w]
    rfl
  refine pure_ (i := 10) (N := (some 15)) (v := ?_) (a' := ?_) #[true, true, true, true, true, true, true, true, true, true, true, false, false, false, false, false, false, false, false, false] rfl rfl (by kernel_rfl) (fun _ _ _ h => h) (Or.inl ⟨by rfl, ?_⟩) ?_ ?_
  rotate_left
  · intro w'
    go_simp
    with_reducible rfl
  rotate_left
  · simp only [Act.put, List.setIfInBounds_toArray, List.set_cons_zero, List.set_cons_succ, i64_w, i32_w]
    rfl
  refine pure_ (i := 11) (N := (some 16)) (v := ?_) (a' := ?_) #[true, true, true, true, true, true, true, true, true, true, true, true, false, false, false, false, false, false, false, false] rfl rfl (by kernel_rfl) (fun _ _ _ h => h) (Or.inl ⟨by rfl, ?_⟩) ?_ ?_
  rotate_left
  · intro w'
    go_simp
    with_reducible rfl
  rotate_left
  · simp only [Act.put, List.setIfInBounds_toArray, List.set_cons_zero, List.set_cons_succ, i64_w, i32_w]
    rfl
  refine take_ (i := 12) (N := (some 17)) (v := ?_) (a' := ?_) #[true, true, true, true, true, true, true, true, true, true, true, true, true, false, false, false, false, false, false, false] rfl rfl (by kernel_rfl) (fun _ _ _ h => h) (Or.inl ⟨by rfl, ?_⟩) hHeld ?_ ?_
  rotate_left
  · rintro w' ⟨s0, s1⟩
    have q1 := Row.get s0
    go_simp
    with_reducible rfl
  rotate_left
  · simp only [Act.put, List.setIfInBounds_toArray, List.set_cons_zero, List.set_cons_succ, i64_w, i32_w]
    rfl
  refine one_ (i := 13) (N := (some 18)) #[true, true, true, true, true, true, true, true, true, true, true, true, true, true, false, false, false, false, false, false] rfl rfl (by kernel_rfl) (by decide) (fun K hK => ?_)
  refine goes_ Tryz.func19 (by kernel_rfl) rfl #[.pointer (some ⟨a, 0, none⟩), .int .i64 k] (by rfl) rfl rfl (by first | rfl | (simp [Act.eval]; done) | (go_simp; done)) ?_
  refine (load_any (HA.out.below (show Below w.heap.size w w.drew from (Below.refl _ _).drew)) hc k).mono ?_
  rintro e w3 ⟨rfl, ha3, hc3⟩
  rw [HX.out]
  have R3 : Row w3 b X T := Row.keep hHeld.1 (hc3.block b hHeld.1.lt (fun h => h.elim hne.1 hne.2))
  have K3 : w3.cell? ⟨gl, h, none⟩ = some (.int .i64 k) := by
    have hk := hc3.block gl (World.block_lt_of_cell? _ _ hHeld.2) (fun h => h.elim hng.1 hng.2)
    rw [← hHeld.2]; simp [World.cell?, hk]
  have HA3 := Lib.hid ha3
  clear ha3
  refine ⟨_, rfl, ?_⟩
  refine hK.out _ _ ⟨R3, K3⟩ (fun hHeld => ?_)
  clear hK K
  refine norm_ (a' := ?_) ?_ ?_
  rotate_left
  · show Act.put _ (some 18) _ = _
    simp only [Act.put, List.setIfInBounds_toArray, List.set_cons_zero, List.set_cons_succ, i64_w, i32_w]
    rfl
  refine pure_ (i := 14) (N := (some 4)) (v := ?_) (a' := ?_) #[true, true, true, true, true, true, true, true, true, true, true, true, true, true, true, false, false, false, false, false] rfl rfl (by kernel_rfl) (fun _ _ _ h => h) (Or.inl ⟨by rfl, ?_⟩) ?_ ?_
  rotate_left
  · intro w'
    go_simp
    with_reducible rfl
  rotate_left
  · simp only [Act.put, List.setIfInBounds_toArray, List.set_cons_zero, List.set_cons_succ, i64_w, i32_w]
    rfl
  refine pure_ (i := 15) (N := (some 19)) (v := ?_) (a' := ?_) #[true, true, true, true, true, true, true, true, true, true, true, true, true, true, true, true, false, false, false, false] rfl rfl (by kernel_rfl) (fun _ _ _ h => h) (Or.inl ⟨by rfl, ?_⟩) ?_ ?_
  rotate_left
  · intro w'
    go_simp
    with_reducible rfl
  rotate_left
  · simp only [Act.put, List.setIfInBounds_toArray, List.set_cons_zero, List.set_cons_succ, i64_w, i32_w]
    rfl
  refine pure_ (i := 16) (N := (some 20)) (v := ?_) (a' := ?_) #[true, true, true, true, true, true, true, true, true, true, true, true, true, true, true, true, true, false, false, false] rfl rfl (by kernel_rfl) (fun _ _ _ h => h) (Or.inl ⟨by rfl, ?_⟩) ?_ ?_
  rotate_left
  · intro w'
    go_simp
    with_reducible rfl
  rotate_left
  · simp only [Act.put, List.setIfInBounds_toArray, List.set_cons_zero, List.set_cons_succ, i64_w, i32_w]
    rfl
  refine pure_ (i := 17) (N := (some 21)) (v := ?_) (a' := ?_) #[true, true, true, true, true, true, true, true, true, true, true, true, true, true, true, true, true, true, false, false] rfl rfl (by kernel_rfl) (fun _ _ _ h => h) (Or.inl ⟨by rfl, ?_⟩) ?_ ?_
  rotate_left
  · intro w'
    go_simp
    with_reducible rfl
  rotate_left
  · simp only [Act.put, List.setIfInBounds_toArray, List.set_cons_zero, List.set_cons_succ, i64_w, i32_w]
    rfl
  refine pure_ (i := 18) (N := (some 22)) (v := ?_) (a' := ?_) #[true, true, true, true, true, true, true, true, true, true, true, true, true, true, true, true, true, true, true, false] rfl rfl (by kernel_rfl) (fun _ _ _ h => h) (Or.inl ⟨by rfl, ?_⟩) ?_ ?_
  rotate_left
  · intro w'
    go_simp
    with_reducible rfl
  rotate_left
  · simp only [Act.put, List.setIfInBounds_toArray, List.set_cons_zero, List.set_cons_succ, i64_w, i32_w]
    rfl
  refine last_ (i := 19) (N := none) #[true, true, true, true, true, true, true, true, true, true, true, true, true, true, true, true, true, true, true, true] rfl rfl (by kernel_rfl) (by decide) (fun K hK => ?_)
  have q1 := Row.get hHeld.1
  have q2 := Row.set hHeld.1
  have q3 := Row.free hHeld.1
  refine skip_ (by rfl) rfl (w1 := ?_) ?_ ?_
  rotate_left
  · go_simp
    with_reducible rfl
  rotate_left
  refine hK.out _ _ ?_
  clear hK K
  refine done_ (by kernel_rfl) ?_
  have HR3 := Lib.hid hHeld.1
  have C3 : Hid (Chg (fun k => k = b ∨ k = a ∨ k = g) w w3) := (Chg.drew _ w).trans (hc3.mono (fun _ _ h => .inr h))
  clear R3 K3 hc3
  have q4 := Row.get' HR3.out; have q5 := Row.set' HR3.out; have q6 := Row.free' HR3.out
  go_upto_region 2 with fail
  clear q1 q2 q3 q4 q5 q6
  obtain ⟨w5, hw5⟩ : ∃ w5, w3.setRow b (attRow X { T with was := x, phase := 5 }) = w5 := ⟨_, rfl⟩
  rw [hw5]
  have R5 : Row w5 b X { T with was := x, phase := 5 } := by rw [← hw5]; exact HR3.out.now
  have A5 : Hid (Ar w5 a g W (c + cnt W k)) := by rw [← hw5]; exact HA3.out.after (Row.chg _) hne
  have C5 : Hid (Chg (fun k => k = b ∨ k = a ∨ k = g) w w5) := by rw [← hw5]; exact C3.out.trans ((Row.chg _).mono (fun _ _ h => .inl h))
  clear hw5 C3 HA3 HR3 hHeld
  have z1 : ∀ e : Ext (w5.heap.size) w5, e.at_.cell? ⟨b, 31, none⟩ = some (.int .i64 x) := ext_cell R5 R5.lt rfl
  have z2 : ∀ e : Ext (w5.heap.size) w5, e.at_.cell? ⟨b, 27, none⟩ = some (.int .i64 T.seen) := ext_cell R5 R5.lt rfl
  have HR5 := Lib.hid R5
  clear R5
  refine wp_region_mono w5.heap.size (by kernel_rfl) (by kernel_rfl) ?_
  repeat (any_goals (go_big_quiet_step ((go_at_call 21; exact Calls.ext (Nat.le_refl _) (FR.out _)))))
  refine wpQuiet_nil ?_
  rintro ⟨w6, hb6⟩
  have R6 : Row w6 b X { T with was := x, phase := 5 } := by have := hb6.block b HR5.out.lt; exact HR5.out.keep this
  have A6 : Hid (Ar w6 a g W (c + cnt W k)) := A5.out.below hb6
  have C6 : Hid (Chg (fun k => k = b ∨ k = a ∨ k = g) w w6) := C5.out.trans ((Chg.of_below hb6).mono (fun k h1 h2 => by omega))
  have HR6 := Lib.hid R6
  clear z1 z2 R6 A5 C5 HR5
  cases f with
  | true =>
    go_wp2
    go_end0
    exact ⟨rfl, by rw [EL.out]; exact HR6.out, A6.out, C6.out⟩
  | false =>
    go_wp2_with (first
      | (go_at_call 81; refine (giveUp_any HR6.out hv0.out 2).mono ?_; rintro e w7 ⟨rfl, hr, hc7⟩; have HR7 := Lib.hid hr; clear hr))
    go_end0
    exact ⟨rfl, by rw [EL.out]; exact HR7.out, A6.out.after hc7 hne, C6.out.trans (hc7.mono (fun _ _ h => .inl h))⟩

end Att
end Go.Proofs.YthojgahcpkdemaaGreat

/- an attempt verifies a lock -/
namespace Go.Proofs.YthojgahcpkdemaaGreat
open Go.RowKit Go.Bas
open Go.Proofs.YthojgahcpkdemaaGreatW.PrintLast
namespace Att

set_option maxRecDepth 100000 in
set_option maxHeartbeats 4000000 in
theorem verifies_any {w : World} {b : Nat} {X : AV} {T : AT} {a g : Nat} {W : List Int} {c : Int} (H : Row w b X T) (hA : Ar w a g W c) (hc : 0 ≤ c ∧ c < 4611686018427387904) (hne : b ≠ a ∧ b ≠ g)
    (hW : ∀ k, IMap_.In64 (ld W k)) {vA : Option Addr} {vc : Nat} (hv : X.vh = .slice vA T.holds.length vc) {gc n cp : Nat} (hl : X.vc = .slice (some ⟨gc, 0, none⟩) n cp) (hn : n = T.checks.length) (h0 : 0 ≤ T.at_ ∧ T.at_ ≤ 1000000) (h1 : T.at_ < n) (hng : gc ≠ a ∧ gc ≠ g)
    (hkc : w.cell? ⟨gc, T.at_.toNat, none⟩ = some (.int .i64 (T.checks.getD T.at_.toNat 0))) {wA : Option Addr} {wn wc : Nat} (hw : X.vw = .slice wA wn wc) (hwn : wn = T.writes.length) :
    Calls Tryz.prog 70 #[.pointer (some ⟨b, 0, none⟩), .pointer (some ⟨a, 0, none⟩)] w fun e w' => e = .returned (.tuple #[]) ∧ Row w' b X (verifies T W) ∧ Ar w' a g W (c + cnt W (T.checks.getD T.at_.toNat 0)) ∧ Chg (fun k => k = b ∨ k = a ∨ k = g) w w' := by
  have hbl := H.lt
  have HH := Lib.hid H
  have HA := Lib.hid hA
  have hv0 := Lib.hid hv
  have h00 := Lib.hid h0
  obtain ⟨k, hk⟩ : ∃ k, T.checks.getD T.at_.toNat 0 = k := ⟨_, rfl⟩
  rw [hk] at hkc ⊢
  have HKC := Lib.hid hkc
  obtain ⟨x, hx⟩ : ∃ x, ld W k = x := ⟨_, rfl⟩
  have HX := Lib.hid hx
  have hxi := hW k
  rw [hx] at hxi
  obtain ⟨f, hf⟩ : ∃ f, freshB x T.seen = f := ⟨_, rfl⟩
  have FR : Hid (∀ w, Calls Tryz.prog 21 #[.int .i64 x, .int .i64 T.seen] w fun e w' => e = .returned (.bool f) ∧ Below w.heap.size w w') := fun w => by rw [← hf]; exact fresh_any x T.seen hxi w
  obtain ⟨d, hd⟩ : ∃ d, decide ((n : Int) ≤ T.at_ + 1) = d := ⟨_, rfl⟩
  have ST : Hid (∀ w, Row w b X T → Calls Tryz.prog 89 #[.pointer (some ⟨b, 0, none⟩), .int .i64 n] w fun e w' => e = .returned (.bool d) ∧ Row w' b X { T with at_ := T.at_ + 1 } ∧ Chg (fun k => k = b) w w') := fun w hr => by rw [← hd]; exact step_any hr h00.out n
  have eL : verifies T W = if f then (if d then next { T with at_ := T.at_ + 1 } 8 wn else { T with at_ := T.at_ + 1 }) else giveUp { T with at_ := T.at_ + 1 } 2 := by
    unfold verifies; rw [hk, hx, ← hf, ← hd, hn, hwn]; simp only [decide_eq_true_eq]
  have EL := Lib.hid eL
  clear H hA hk hx hxi hf eL hW hkc hd hn hwn
  go_enter Tryz.func70, Tryz.ntmps70
  go_wp2
  refine start_ (n := 17) (S := fun w' => Row w' b X T ∧ w'.cell? ⟨gc, T.at_.toNat, none⟩ = some (.int .i64 k)) (ds := []) #[false, false, false, false, false, false, false, false, false, false, false, false, false, false, false, false, false] (by kernel_rfl) rfl rfl ⟨HH.out, HKC.out⟩ (fun hHeld => ?_)
  refine pure_ (i := 0) (N := (some 8)) (v := ?_) (a' := ?_) #[true, false, false, false, false, false, false, false, false, false, false, false, false, false, false, false, false] rfl rfl (by kernel_rfl) (fun _ _ _ h => h) (Or.inl ⟨by rfl, ?_⟩) ?_ ?_
  rotate_left
  · intro w'
    go_simp
    with_reducible rfl
  rotate_left
  · simp only [Act.put, List.setIfInBounds_toArray, List.set_cons_zero, List.set_cons_succ, i64_w, i32_w]
    rfl
  refine pure_ (i := 1) (N := (some 9)) (v := ?_) (a' := ?_) #[true, true, false, false, false, false, false, false, false, false, false, false, false, false, false, false, false] rfl rfl (by kernel_rfl) (fun _ _ _ h => h) (Or.inl ⟨by rfl, ?_⟩) ?_ ?_
  rotate_left
  · intro w'
    go_simp
    with_reducible rfl
  rotate_left
  · simp only [Act.put, List.setIfInBounds_toArray, List.set_cons_zero, List.set_cons_succ, i64_w, i32_w]
    rfl
  refine pure_ (i := 2) (N := (some 10)) (v := ?_) (a' := ?_) #[true, true, true, false, false, false, false, false, false, false, false, false, false, false, false, false, false] rfl rfl (by kernel_rfl) (fun _ _ _ h => h) (Or.inl ⟨by rfl, ?_⟩) ?_ ?_
  rotate_left
  · intro w'
    go_simp
    with_reducible rfl
  rotate_left
  · simp only [Act.put, List.setIfInBounds_toArray, List.set_cons_zero, List.set_cons_succ, i64_w, i32_w]
    rfl
  refine pure_ (i := 3) (N := (some 11)) (v := ?_) (a' := ?_) #[true, true, true, true, false, false, false, false, false, false, false, false, false, false, false, false, false] rfl rfl (by kernel_rfl) (fun _ _ _ h => h) (Or.inl ⟨by rfl, ?_⟩) ?_ ?_
  rotate_left
  · intro w'
    go_simp
    with_reducible rfl
  rotate_left
  · simp only [Act.put, List.setIfInBounds_toArray, List.set_cons_zero, List.set_cons_succ, i64_w, i32_w]
    rfl
  refine take_ (i := 4) (N := (some 12)) (v := ?_) (a' := ?_) #[true, true, true, true, true, false, false, false, false, false, false, false, false, false, false, false, false] rfl rfl (by kernel_rfl) (fun _ _ _ h => h) (Or.inl ⟨by rfl, ?_⟩) hHeld ?_ ?_
  rotate_left
  · rintro w' ⟨s0, s1⟩
    have q1 := Row.get s0
    go_simp
    with_reducible rfl
  rotate_left
  · simp only [Act.put, List.setIfInBounds_toArray, List.set_cons_zero, List.set_cons_succ, i64_w, i32_w]
    rfl
  refine pure_ (i := 5) (N := (some 13)) (v := ?_) (a' := ?_) #[true, true, true, true, true, true, false, false, false, false, false, false, false, false, false, false, false] rfl rfl (by kernel_rfl) (fun _ _ _ h => h) (Or.inl ⟨by rfl, ?_⟩) ?_ ?_
  rotate_left
  · intro w'
    go_simp
    with_reducible rfl
  rotate_left
  · simp only [Act.put, List.setIfInBounds_toArray, List.set_cons_zero, List.set_cons_succ, i64_w, i32_w]
    rfl
  refine pure_ (i := 6) (N := (some 14)) (v := ?_) (a' := ?_) #[true, true, true, true, true, true, true, false, false, false, false, false, false, false, false, false, false] rfl rfl (by kernel_rfl) (fun _ _ _ h => h) (Or.inl ⟨by rfl, ?_⟩) ?_ ?_
  rotate_left
  · intro w'
    go_simp
    with_reducible rfl
  rotate_left
  · simp only [Act.put, List.setIfInBounds_toArray, List.set_cons_zero, List.set_cons_succ, i64_w, i32_w]
    rfl
  refine pure_ (i := 7) (N := (some 15)) (v := ?_) (a' := ?_) #[true, true, true, true, true, true, true, true, false, false, false, false, false, false, false, false, false] rfl rfl (by kernel_rfl) (fun _ _ _ h => h) (Or.inl ⟨by rfl, ?_⟩) ?_ ?_
  rotate_left
  · intro w'
    go_simp
    with_reducible rfl
  rotate_left
  · simp only [Act.put, List.setIfInBounds_toArray, List.set_cons_zero, List.set_cons_succ, i64_w, i32_w]
    rfl
  refine take_ (i := 8) (N := (some 16)) (v := ?_) (a' := ?_) #[true, true, true, true, true, true, true, true, true, false, false, false, false, false, false, false, false] rfl rfl (by kernel_rfl) (fun _ _ _ h => h) (Or.inl ⟨by rfl, ?_⟩) hHeld ?_ ?_
  rotate_left
  · rintro w' ⟨s0, s1⟩
    have q1 := Row.get s0
    go_simp
    with_reducible rfl
  rotate_left
  · simp only [Act.put, List.setIfInBounds_toArray, List.set_cons_zero, List.set_cons_succ, i64_w, i32_w]
    rfl
  refine pure_ (i := 9) (N := (some 17)) (v := ?_) (a' := ?_) #[true, true, true, true, true, true, true, true, true, true, false, false, false, false, false, false, false] rfl rfl (by kernel_rfl) (fun _ _ _ h => h) (Or.inl ⟨by rfl, ?_⟩) ?_ ?_
  rotate_left
  · intro w'
    go_simp
    with_reducible rfl
  rotate_left
  · simp only [Act.put, List.setIfInBounds_toArray, List.set_cons_zero, List.set_cons_succ, i64_w, i32_w]
    rfl
  refine take_ (i := 10) (N := (some 18)) (v := ?_) (a' := ?_) #[true, true, true, true, true, true, true, true, true, true, true, false, false, false, false, false, false] rfl rfl (by kernel_rfl) (fun _ _ _ h => h) (Or.inl ⟨by rfl, ?_⟩) hHeld ?_ ?_
  rotate_left
  · rintro w' ⟨s0, s1⟩
    have q1 := Row.get s0
    go_simp
    with_reducible rfl
  rotate_left
  · simp only [Act.put, List.setIfInBounds_toArray, List.set_cons_zero, List.set_cons_succ, i64_w, i32_w]
    rfl
  refine one_ (i := 11) (N := (some 19)) #[true, true, true, true, true, true, true, true, true, true, true, true, false, false, false, false, false] rfl rfl (by kernel_rfl) (by decide) (fun K hK => ?_)
  refine goes_ Tryz.func19 (by kernel_rfl) rfl #[.pointer (some ⟨a, 0, none⟩), .int .i64 k] (by rfl) rfl rfl (by first | rfl | (simp [Act.eval]; done) | (go_simp; done)) ?_
  refine (load_any (HA.out.below (show Below w.heap.size w w.drew from (Below.refl _ _).drew)) hc k).mono ?_
  rintro e w3 ⟨rfl, ha3, hc3⟩
  rw [HX.out]
  have R3 : Row w3 b X T := Row.keep hHeld.1 (hc3.block b hHeld.1.lt (fun h => h.elim hne.1 hne.2))
  have K3 : w3.cell? ⟨gc, T.at_.toNat, none⟩ = some (.int .i64 k) := by
    have hk := hc3.block gc (World.block_lt_of_cell? _ _ hHeld.2) (fun h => h.elim hng.1 hng.2)
    rw [← hHeld.2]; simp [World.cell?, hk]
  have HA3 := Lib.hid ha3
  clear ha3
  refine ⟨_, rfl, ?_⟩
  refine hK.out _ _ ⟨R3, K3⟩ (fun hHeld => ?_)
  clear hK K
  refine norm_ (a' := ?_) ?_ ?_
  rotate_left
  · show Act.put _ (some 19) _ = _
    simp only [Act.put, List.setIfInBounds_toArray, List.set_cons_zero, List.set_cons_succ, i64_w, i32_w]
    rfl
  refine pure_ (i := 12) (N := (some 7)) (v := ?_) (a' := ?_) #[true, true, true, true, true, true, true, true, true, true, true, true, true, false, false, false, false] rfl rfl (by kernel_rfl) (fun _ _ _ h => h) (Or.inl ⟨by rfl, ?_⟩) ?_ ?_
  rotate_left
  · intro w'
    go_simp
    with_reducible rfl
  rotate_left
  · simp only [Act.put, List.setIfInBounds_toArray, List.set_cons_zero, List.set_cons_succ, i64_w, i32_w]
    rfl
  refine pure_ (i := 13) (N := (some 20)) (v := ?_) (a' := ?_) #[true, true, true, true, true, true, true, true, true, true, true, true, true, true, false, false, false] rfl rfl (by kernel_rfl) (fun _ _ _ h => h) (Or.inl ⟨by rfl, ?_⟩) ?_ ?_
  rotate_left
  · intro w'
    go_simp
    with_reducible rfl
  rotate_left
  · simp only [Act.put, List.setIfInBounds_toArray, List.set_cons_zero, List.set_cons_succ, i64_w, i32_w]
    rfl
  refine pure_ (i := 14) (N := (some 21)) (v := ?_) (a' := ?_) #[true, true, true, true, true, true, true, true, true, true, true, true, true, true, true, false, false] rfl rfl (by kernel_rfl) (fun _ _ _ h => h) (Or.inl ⟨by rfl, ?_⟩) ?_ ?_
  rotate_left
  · intro w'
    go_simp
    with_reducible rfl
  rotate_left
  · simp only [Act.put, List.setIfInBounds_toArray, List.set_cons_zero, List.set_cons_succ, i64_w, i32_w]
    rfl
  refine pure_ (i := 15) (N := (some 4)) (v := ?_) (a' := ?_) #[true, true, true, true, true, true, true, true, true, true, true, true, true, true, true, true, false] rfl rfl (by kernel_rfl) (fun _ _ _ h => h) (Or.inl ⟨by rfl, ?_⟩) ?_ ?_
  rotate_left
  · intro w'
    go_simp
    with_reducible rfl
  rotate_left
  · simp only [Act.put, List.setIfInBounds_toArray, List.set_cons_zero, List.set_cons_succ, i64_w, i32_w]
    rfl
  refine pure_ (i := 16) (N := (some 5)) (v := ?_) (a' := ?_) #[true, true, true, true, true, true, true, true, true, true, true, true, true, true, true, true, true] rfl rfl (by kernel_rfl) (fun _ _ _ h => h) (Or.inl ⟨by rfl, ?_⟩) ?_ ?_
  rotate_left
  · intro w'
    go_simp
    with_reducible rfl
  rotate_left
  · simp only [Act.put, List.setIfInBounds_toArray, List.set_cons_zero, List.set_cons_succ, i64_w, i32_w]
    rfl
  refine done_ (by kernel_rfl) ?_
  have HR3 := Lib.hid hHeld.1
  have C3 : Hid (Chg (fun k => k = b ∨ k = a ∨ k = g) w w3) := (Chg.drew _ w).trans (hc3.mono (fun _ _ h => .inr h))
  have q1 := Row.get HR3.out
  clear R3 K3 hc3 hHeld
  go_upto_region 2 with (first
    | (go_at_call 89; refine (ST.out _ HR3.out).mono ?_; rintro e w4 ⟨rfl, hr4, hc4⟩
       have HR4 := Lib.hid hr4
       have HC4 := Lib.hid hc4
       have p1 := Row.get hr4
       clear hr4 hc4))
  clear q1
  have A4 : Hid (Ar w4 a g W (c + cnt W k)) := HA3.out.after HC4.out hne
  have C4 : Hid (Chg (fun k => k = b ∨ k = a ∨ k = g) w w4) := C3.out.trans (HC4.out.mono (fun _ _ h => .inl h))
  clear HC4 HR3 HA3 C3
  cases f <;> cases d
  all_goals (
    go_wp2_with (first
      | (go_at_call 21; refine (FR.out _).mono ?_; rintro e w5 ⟨rfl, hb5⟩
         have R5 : Row w5 b X { T with at_ := T.at_ + 1 } := by have := hb5.block b HR4.out.lt; exact HR4.out.keep this
         have A5 : Hid (Ar w5 a g W (c + cnt W k)) := A4.out.below hb5
         have C5 : Hid (Chg (fun k => k = b ∨ k = a ∨ k = g) w w5) := C4.out.trans ((Chg.of_below hb5).mono (fun k h1 h2 => by omega))
         have p5 := Row.get R5
         have HR5 := Lib.hid R5
         clear R5)
      | (go_at_call 81; refine (giveUp_any HR5.out hv0.out 2).mono ?_; rintro e w7 ⟨rfl, hr, hc7⟩; have HR7 := Lib.hid hr; clear hr)
      | (go_at_call 88; refine (next_any HR5.out 8 (by omega) wn).mono ?_; rintro e w7 ⟨rfl, hr, hc7⟩; have HR7 := Lib.hid hr; clear hr))
    go_end0
    first
      | exact ⟨rfl, by rw [EL.out]; exact HR7.out, A5.out.after hc7 hne, C5.out.trans (hc7.mono (fun _ _ h => .inl h))⟩
      | exact ⟨rfl, by rw [EL.out]; exact HR5.out, A5.out, C5.out⟩)

end Att
end Go.Proofs.YthojgahcpkdemaaGreat

/- an attempt stores a word -/
namespace Go.Proofs.YthojgahcpkdemaaGreat
open Go.RowKit Go.Bas
open Go.Proofs.YthojgahcpkdemaaGreatW.PrintLast
namespace Att

set_option maxRecDepth 100000 in
set_option maxHeartbeats 4000000 in
theorem stores_any {w : World} {b : Nat} {X : AV} {T : AT} {a g : Nat} {W : List Int} {c : Int} (H : Row w b X T) (hA : Ar w a g W c) (hc : 0 ≤ c ∧ c < 4611686018427387904) (hne : b ≠ a ∧ b ≠ g)
    {vA : Option Addr} {vc vn : Nat} (hv : X.vh = .slice vA vn vc) (hvn : vn = T.holds.length) (h0 : 0 ≤ T.at_ ∧ T.at_ ≤ 1000000)
    {gw wn wc : Nat} (hw : X.vw = .slice (some ⟨gw, 0, none⟩) wn wc) (hwn : wn = T.writes.length) (h1 : T.at_ < wn) (hgw : gw < w.heap.size)
    (hkc : w.rangeAt gw (T.at_.toNat * 2) [.int .i64 (T.writes.getD T.at_.toNat (0, 0)).1, .int .i64 (T.writes.getD T.at_.toNat (0, 0)).2]) :
    Calls Tryz.prog 71 #[.pointer (some ⟨b, 0, none⟩), .pointer (some ⟨a, 0, none⟩)] w fun e w' => e = .returned (.tuple #[]) ∧ Row w' b X (stores T W).1 ∧ Ar w' a g (stores T W).2 (c + cnt W (T.writes.getD T.at_.toNat (0, 0)).1) ∧ Chg (fun k => k = b ∨ k = a ∨ k = g) w w' := by
  have hbl := H.lt
  have HH := Lib.hid H
  have HA := Lib.hid hA
  have h00 := Lib.hid h0
  obtain ⟨p, hp⟩ : ∃ p, T.writes.getD T.at_.toNat (0, 0) = p := ⟨_, rfl⟩
  rw [hp] at hkc ⊢
  obtain ⟨x, y⟩ := p
  obtain ⟨d, hd⟩ : ∃ d, decide ((wn : Int) ≤ T.at_ + 1) = d := ⟨_, rfl⟩
  have ST : Hid (∀ w, Row w b X T → Calls Tryz.prog 89 #[.pointer (some ⟨b, 0, none⟩), .int .i64 wn] w fun e w' => e = .returned (.bool d) ∧ Row w' b X { T with at_ := T.at_ + 1 } ∧ Chg (fun k => k = b) w w') := fun w hr => by rw [← hd]; exact step_any hr h00.out wn
  have eL : (stores T W).1 = if d then next { T with at_ := T.at_ + 1, how := 1 } 9 vn else { T with at_ := T.at_ + 1 } := by
    unfold stores; rw [← hd, hvn, hwn]; simp only [decide_eq_true_eq]
  have EL := Lib.hid eL
  have eW : (stores T W).2 = st W x y := by unfold stores; rw [hp]
  have EW := Lib.hid eW
  have HKC := Lib.hid hkc
  clear H hA hd eL eW hp hkc hwn hvn
  go_enter Tryz.func71, Tryz.ntmps71
  go_wp2
  refine start_ (n := 12) (S := fun w' => Row w' b X T ∧ w'.rangeAt gw (T.at_.toNat * 2) [.int .i64 x, .int .i64 y]) (ds := [11]) #[false, false, false, false, false, false, false, false, false, false, false, false] (by kernel_rfl) rfl rfl ⟨HH.out, HKC.out⟩ (fun hHeld => ?_)
  refine pure_ (i := 0) (N := (some 5)) (v := ?_) (a' := ?_) #[true, false, false, false, false, false, false, false, false, false, false, false] rfl rfl (by kernel_rfl) (fun _ _ _ h => h) (Or.inl ⟨by rfl, ?_⟩) ?_ ?_
  rotate_left
  · intro w'
    go_simp
    with_reducible rfl
  rotate_left
  · simp only [Act.put, List.setIfInBounds_toArray, List.set_cons_zero, List.set_cons_succ, i64_w, i32_w]
    rfl
  refine pure_ (i := 1) (N := (some 6)) (v := ?_) (a' := ?_) #[true, true, false, false, false, false, false, false, false, false, false, false] rfl rfl (by kernel_rfl) (fun _ _ _ h => h) (Or.inl ⟨by rfl, ?_⟩) ?_ ?_
  rotate_left
  · intro w'
    go_simp
    with_reducible rfl
  rotate_left
  · simp only [Act.put, List.setIfInBounds_toArray, List.set_cons_zero, List.set_cons_succ, i64_w, i32_w]
    rfl
  refine pure_ (i := 2) (N := (some 7)) (v := ?_) (a' := ?_) #[true, true, true, false, false, false, false, false, false, false, false, false] rfl rfl (by kernel_rfl) (fun _ _ _ h => h) (Or.inl ⟨by rfl, ?_⟩) ?_ ?_
  rotate_left
  · intro w'
    go_simp
    with_reducible rfl
  rotate_left
  · simp only [Act.put, List.setIfInBounds_toArray, List.set_cons_zero, List.set_cons_succ, i64_w, i32_w]
    rfl
  refine take_ (i := 3) (N := (some 8)) (v := ?_) (a' := ?_) #[true, true, true, true, false, false, false, false, false, false, false, false] rfl rfl (by kernel_rfl) (fun _ _ _ h => h) (Or.inl ⟨by rfl, ?_⟩) hHeld ?_ ?_
  rotate_left
  · rintro w' ⟨s0, s1⟩
    have q1 := Row.get s0
    go_simp
    with_reducible rfl
  rotate_left
  · simp only [Act.put, List.setIfInBounds_toArray, List.set_cons_zero, List.set_cons_succ, i64_w, i32_w]
    rfl
  refine pure_ (i := 4) (N := (some 9)) (v := ?_) (a' := ?_) #[true, true, true, true, true, false, false, false, false, false, false, false] rfl rfl (by kernel_rfl) (fun _ _ _ h => h) (Or.inl ⟨by rfl, ?_⟩) ?_ ?_
  rotate_left
  · intro w'
    go_simp
    with_reducible rfl
  rotate_left
  · simp only [Act.put, List.setIfInBounds_toArray, List.set_cons_zero, List.set_cons_succ, i64_w, i32_w]
    rfl
  refine pure_ (i := 5) (N := (some 10)) (v := ?_) (a' := ?_) #[true, true, true, true, true, true, false, false, false, false, false, false] rfl rfl (by kernel_rfl) (fun _ _ _ h => h) (Or.inl ⟨by rfl, ?_⟩) ?_ ?_
  rotate_left
  · intro w'
    go_simp
    with_reducible rfl
  rotate_left
  · simp only [Act.put, List.setIfInBounds_toArray, List.set_cons_zero, List.set_cons_succ, i64_w, i32_w]
    rfl
  refine pure_ (i := 6) (N := (some 11)) (v := ?_) (a' := ?_) #[true, true, true, true, true, true, true, false, false, false, false, false] rfl rfl (by kernel_rfl) (fun _ _ _ h => h) (Or.inl ⟨by rfl, ?_⟩) ?_ ?_
  rotate_left
  · intro w'
    go_simp
    with_reducible rfl
  rotate_left
  · simp only [Act.put, List.setIfInBounds_toArray, List.set_cons_zero, List.set_cons_succ, i64_w, i32_w]
    rfl
  refine take_ (i := 7) (N := (some 12)) (v := ?_) (a' := ?_) #[true, true, true, true, true, true, true, true, false, false, false, false] rfl rfl (by kernel_rfl) (fun _ _ _ h => h) (Or.inl ⟨by rfl, ?_⟩) hHeld ?_ ?_
  rotate_left
  · rintro w' ⟨s0, s1⟩
    have q1 := Row.get s0
    go_simp
    with_reducible rfl
  rotate_left
  · simp only [Act.put, List.setIfInBounds_toArray, List.set_cons_zero, List.set_cons_succ, i64_w, i32_w]
    rfl
  refine pure_ (i := 8) (N := (some 13)) (v := ?_) (a' := ?_) #[true, true, true, true, true, true, true, true, true, false, false, false] rfl rfl (by kernel_rfl) (fun _ _ _ h => h) (Or.inl ⟨by rfl, ?_⟩) ?_ ?_
  rotate_left
  · intro w'
    go_simp
    with_reducible rfl
  rotate_left
  · simp only [Act.put, List.setIfInBounds_toArray, List.set_cons_zero, List.set_cons_succ, i64_w, i32_w]
    rfl
  refine take_ (i := 9) (N := (some 14)) (v := .agg [.int .i64 x, .int .i64 y].toArray) (a' := ?_) #[true, true, true, true, true, true, true, true, true, true, false, false] rfl rfl (by kernel_rfl) (fun _ _ _ h => h) (by exact yieldsIf_load_mid rfl 62 _ rfl gw (T.at_.toNat * 2) rfl [.int .i64 x, .int .i64 y] _ (fun w' s0 => s0.2) Tryz.underlying62 rfl View.pair_size) hHeld ?_ ?_
  rotate_left
  · simp only [Act.put, List.setIfInBounds_toArray, List.set_cons_zero, List.set_cons_succ, i64_w, i32_w]
    rfl
  refine one_ (i := 10) (N := (some 4)) #[true, true, true, true, true, true, true, true, true, true, true, false] rfl rfl (by kernel_rfl) (by decide) (fun K hK => ?_)
  refine value_ (by rfl) rfl (v := .pointer (some ⟨w.heap.size, 0, none⟩)) (w1 := w.drew.alloc (.cells #[.int .i64 0, .int .i64 0] 62)) ?_ ?_
  · go_simp; first | done | rfl
  have hk1 : ∀ k, k < w.heap.size → (w.drew.alloc (.cells #[.int .i64 0, .int .i64 0] 62)).heap[k]? = w.heap[k]? := fun k hk => alloc_heap w.drew _ k hk
  have hn1 : (w.drew.alloc (.cells #[.int .i64 0, .int .i64 0] 62)).heap[w.heap.size]? = some (.cells #[.int .i64 0, .int .i64 0] 62 (0, 0)) := new_row w.drew _ _
  obtain ⟨w1, hw1⟩ : ∃ w1, w.drew.alloc (.cells #[.int .i64 0, .int .i64 0] 62) = w1 := ⟨_, rfl⟩
  have b1 : Hid (Below w.heap.size w w1) := by rw [← hw1]; exact (Below.refl _ w).drew.alloc (Nat.le_refl _) _
  rw [hw1] at hk1 hn1 ⊢
  refine hK.out _ _ ⟨HH.out.keep (hk1 b hbl), fun j v hj => by rw [← HKC.out j v hj]; simp [World.cell?, hk1 gw hgw]⟩ (fun hHeld => ?_)
  clear hK K hw1
  refine norm_ (a' := ?_) ?_ ?_
  rotate_left
  · show Act.put _ (some 4) _ = _
    simp only [Act.put, List.setIfInBounds_toArray, List.set_cons_zero, List.set_cons_succ, i64_w, i32_w]
    rfl
  refine last_ (i := 11) (N := none) #[true, true, true, true, true, true, true, true, true, true, true, true] rfl rfl (by kernel_rfl) (by decide) (fun K hK => ?_)
  rw [if_pos (by rfl)]
  refine wp_store_row 62 _ _ rfl w.heap.size #[.int .i64 x, .int .i64 y] rfl rfl 62 #[.int .i64 0, .int .i64 0] hn1 View.pair_size rfl (by simp [Value.oneCell']) ?_
  refine hK.out _ _ ?_
  clear hK K
  refine done_ (by kernel_rfl) ?_
  obtain ⟨w2, hw2⟩ : ∃ w2, w1.setRow w.heap.size #[.int .i64 x, .int .i64 y] = w2 := ⟨_, rfl⟩
  have S2 : w2.heap[w.heap.size]? = some (.cells #[.int .i64 x, .int .i64 y] 62 (0, 0)) := by rw [← hw2]; exact setRow_same hn1
  have R2 : Row w2 b X T := HH.out.keep (by rw [← hw2, setRow_other _ _ _ _ (by omega)]; exact hk1 b hbl)
  have B2 : Hid (Below w.heap.size w w2) := by rw [← hw2]; exact setRow_below b1.out (Nat.le_refl _) _
  have m0 : ∀ j, w2.cell? ⟨w.heap.size, j, none⟩ = (#[.int .i64 x, .int .i64 y] : Array Value)[j]? := fun j => cell_of_row _ _ _ _ _ _ S2
  have HR2 := Lib.hid R2
  rw [hw2]
  clear hw2 S2 R2 hk1 hn1 b1 hHeld
  go_upto_region 2 with (first
    | (go_at_call 25; refine (store_any (HA.out.below B2.out) hc x y).mono ?_; rintro e w3 ⟨rfl, ha3, hc3⟩
       have R3 : Row w3 b X T := HR2.out.keep (hc3.block b HR2.out.lt (fun h => h.elim hne.1 hne.2))
       have q1 := Row.get R3
       have HR3 := Lib.hid R3
       have HA3 := Lib.hid ha3
       clear R3 ha3))
  have C3 : Hid (Chg (fun k => k = b ∨ k = a ∨ k = g) w w3) := ((Chg.of_below B2.out).mono (fun k h1 h2 => by omega)).trans (hc3.mono (fun _ _ h => .inr h))
  clear m0 hc3 HR2
  go_upto_region 3 with (first
    | (go_at_call 89; refine (ST.out _ HR3.out).mono ?_; rintro e w4 ⟨rfl, hr4, hc4⟩
       have HR4 := Lib.hid hr4
       have HC4 := Lib.hid hc4
       clear hr4 hc4
       cases d))
  all_goals (
    have A4 : Hid (Ar w4 a g (st W x y) (c + cnt W x)) := HA3.out.after HC4.out hne
    have C4 : Hid (Chg (fun k => k = b ∨ k = a ∨ k = g) w w4) := C3.out.trans (HC4.out.mono (fun _ _ h => .inl h))
    clear q1)
  case true =>
    have g1 := Row.get HR4.out; have g2 := Row.set HR4.out; have g3 := Row.free HR4.out; have g4 := Row.get' HR4.out; have g5 := Row.set' HR4.out; have g6 := Row.free' HR4.out
    obtain ⟨w5, hw5⟩ : ∃ w5, w4.setRow b (attRow X { T with at_ := T.at_ + 1, how := 1 }) = w5 := ⟨_, rfl⟩
    have R5 : Hid (Row w5 b X { T with at_ := T.at_ + 1, how := 1 }) := by rw [← hw5]; exact HR4.out.now
    have A5 : Hid (Ar w5 a g (st W x y) (c + cnt W x)) := by rw [← hw5]; exact A4.out.after (Row.chg _) hne
    have C5 : Hid (Chg (fun k => k = b ∨ k = a ∨ k = g) w w5) := by rw [← hw5]; exact C4.out.trans ((Row.chg _).mono (fun _ _ h => .inl h))
    have p1 := Row.get R5.out
    go_wp2_with (first
      | (go_at_call 88; refine (next_any R5.out 9 (by omega) vn).mono ?_; rintro e w7 ⟨rfl, hr, hc7⟩; have HR7 := Lib.hid hr; clear hr))
    go_end0
    exact ⟨rfl, by rw [EL.out]; exact HR7.out, by rw [EW.out]; exact A5.out.after hc7 hne, C5.out.trans (hc7.mono (fun _ _ h => .inl h))⟩
  case false =>
    go_wp2
    go_end0
    exact ⟨rfl, by rw [EL.out]; exact HR4.out, by rw [EW.out]; exact A4.out, C4.out⟩

end Att
end Go.Proofs.YthojgahcpkdemaaGreat
