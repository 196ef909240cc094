import Derived.Test.YtfmjcinhjbihoaaPut7
namespace Go.Proofs.Ytfmjcinhjbihoaa
open Go.RowKit Go.Bas SorPlain Go.Sor IMap_ VIn VPlain MapI
namespace View

/-- put's state: the pair in its box, what has been gathered -/
structure PSt (w0 : World) (g : Nat) (a x : Int) (w : World) (out : M) (v : Value) : Prop where
  told : Told w (g + 1) out v
  row : w.heap[g]? = some (.cells #[.int .i64 a, .int .i64 x] 38 (0, 0))
  below : Below g w0 w
theorem PSt.size {w0 : World} {g : Nat} {a x : Int} {w : World} {out : M} {v : Value} (h : PSt w0 g a x w out v) : g + 1 ≤ w.heap.size := (Array.getElem?_eq_some_iff.1 h.row).1
theorem Told.kept {w w' : World} {base : Nat} {m : M} {v : Value} (h : Told w base m v) (hk : ∀ k, v.ownBlock = some k → w'.heap[k]? = w.heap[k]?) : Told w' base m v := by
  obtain ⟨A, cap, rfl, hl, hr⟩ := h
  refine ⟨A, cap, rfl, hl, ?_⟩
  rcases hr with h | ⟨g, cp, cur, hv, hg, hh, r⟩
  · exact .inl h
  · exact .inr ⟨g, cp, cur, hv, hg, (hk g (by rw [hv]; rfl)).trans hh, r⟩
theorem Told.own_lt {w : World} {base : Nat} {m : M} {v : Value} (h : Told w base m v) {k : Nat} (e : v.ownBlock = some k) : k < w.heap.size := by
  obtain ⟨A, cap, rfl, hl, hr⟩ := h
  rcases hr with ⟨h, _⟩ | ⟨g, cp, cur, hv, hg, hh, r⟩
  · rw [h] at e; simp [Value.ownBlock] at e
  · rw [hv] at e; simp [Value.ownBlock] at e; subst e; exact (Array.getElem?_eq_some_iff.1 hh).1
theorem PSt.drewN {w0 : World} {g : Nat} {a x : Int} {w : World} {out : M} {v : Value} (h : PSt w0 g a x w out v) (n : Nat) : PSt w0 g a x (w.drewN n) out v :=
  ⟨h.told.kept (fun _ _ => rfl), h.row, h.below.trans (drewN_below _ _ _)⟩
theorem PSt.alloc {w0 : World} {g : Nat} {a x : Int} {w : World} {out : M} {v : Value} (h : PSt w0 g a x w out v) (o : Obj) : PSt w0 g a x (w.alloc o) out v :=
  ⟨h.told.kept (fun k hk => alloc_heap _ _ _ (h.told.own_lt hk)), by rw [alloc_heap _ _ _ (by have := h.size; omega)]; exact h.row, h.below.alloc (by have := h.size; omega) _⟩
theorem PSt.grown {w0 : World} {g : Nat} {a x : Int} {w w' : World} {out out' : M} {v v' : Value} (h : PSt w0 g a x w out v) (ht : Told w' (g + 1) out' v') (hg : w.grownBy w' v.ownBlock) : PSt w0 g a x w' out' v' := by
  have hb : ∀ k, v.ownBlock = some k → g + 1 ≤ k := fun k hk => h.told.block hk
  refine ⟨ht, ?_, h.below.trans ((Chg.grown (S := fun k => g + 1 ≤ k) hg hb).below (by have := h.size; omega) (fun k hk => by omega))⟩
  rw [hg.block g (by have := h.size; omega) (fun e => by have := hb g e.symm; omega)]
  exact h.row

set_option maxRecDepth 100000 in
set_option maxHeartbeats 8000000 in
theorem refput_any {w : World} {s : Value} {l : M} (h : Pairs w w.heap.size s l) (hn : l.length ≤ 1000) (a x : Int) :
    Calls Try.prog 25 #[s, .agg #[.int .i64 a, .int .i64 x]] w fun e w' => ∃ r, e = .returned r ∧ Told w' w.heap.size (rp a x l false) r ∧ Below w.heap.size w w' := by
  obtain ⟨A, c, rfl, hm, _⟩ := id h
  obtain ⟨n, hnn⟩ : ∃ n, l.length = n := ⟨_, rfl⟩
  have HN := Lib.hid hnn
  obtain ⟨g, hg⟩ : ∃ g, w.heap.size = g := ⟨_, rfl⟩
  rw [hg] at h ⊢
  rw [hnn] at hn h ⊢
  obtain ⟨T, hT⟩ : ∃ T, rp a x l false = T := ⟨_, rfl⟩
  rw [hT]
  have H0 : Hid ([] ++ rp a x (l.drop 0) false = T) := hT
  obtain ⟨w1, hw1⟩ : ∃ w1, w.alloc (.cells #[.int .i64 a, .int .i64 x] 38) = w1 := ⟨_, rfl⟩
  have P1 : Hid (PSt w g a x w1 [] (.slice none 0 0)) := by
    refine ⟨⟨none, 0, rfl, by simpa [vals, flat] using World.ownsRow_nil _ _ _ _⟩, ?_, ?_⟩
    · rw [← hw1, ← hg]; exact new_row _ _ _
    · rw [← hw1, ← hg]; exact (Below.refl _ _).alloc (Nat.le_refl _) _
  have HP : Hid (∀ w', Below g w w' → Pairs w' g (.slice A n c) l) := fun w' hb => h.below hb
  clear h hT hm hnn
  go_enter Try.func25, Try.ntmps25
  go_wp2
  clear hw1
  go_loopw [7, 5, 6] (fun u7 u5 u6 wr => ∃ (k : Nat) (out : M) (d : Bool), k ≤ n ∧ u7 = .int .i64 k ∧ u6 = .bool d ∧ out.length ≤ 2 * k ∧ Hid (PSt w g a x wr out u5) ∧ Hid (out ++ rp a x (l.drop k) d = T)) (fun u7 _ _ _ => n - (intOf u7).toNat)
  case atStart => exact ⟨0, [], false, by omega, rfl, rfl, by simp, P1, H0⟩
  case round =>
    clear P1 H0
    obtain ⟨k, out, d, hk, rfl, rfl, hol, HS, HT⟩ := hrel
    have kb0 : wr.cell? ⟨g, 0, none⟩ = some (.int .i64 a) := by rw [cell_of_row _ _ _ _ _ _ HS.out.row]; rfl
    by_cases hlt : k < n
    · have hlen : k < l.length := by rw [HN.out]; exact hlt
      obtain ⟨b, off, rfl, hbg, row⟩ := (pair_row (HP.out _ HS.out.below)).2 k hlen
      have hdr : l.drop k = l[k] :: l.drop (k + 1) := List.drop_eq_getElem_cons hlen
      obtain ⟨⟨q1, q2⟩, hq⟩ : ∃ p, l[k] = p := ⟨_, rfl⟩
      rw [hq] at row hdr
      have HR : Hid (∀ W, Below g w W → W.rangeAt b (off + k * 2) [.int .i64 q1, .int .i64 q2]) := fun W hb => by
        have hw : w.rangeAt b (off + k * 2) [.int .i64 q1, .int .i64 q2] := fun j v hj => by
          have := row j v hj
          rw [HS.out.below.cell (by exact hbg)] at this
          exact this
        intro j v hj
        rw [hb.cell (by exact hbg)]
        exact hw j v hj
      have c1 : wr.cell? ⟨b, off + k * 2, none⟩ = some (.int .i64 q1) := row 0 _ rfl
      have hT2 : Hid (out ++ ((if d = false ∧ a ≤ q1 then [(a, x)] else []) ++ ((if q1 = a then [] else [(q1, q2)]) ++ rp a x (l.drop (k + 1)) (d || decide (a ≤ q1)))) = T) := by
        have := HT.out
        rw [hdr] at this
        exact this
      have hBg : b < g := hbg
      clear HT hdr hq row hlen
      cases d with
      | true =>
        by_cases hne : q1 = a
        · subst hne
          have hT3 : Hid (out ++ rp q1 x (l.drop (k + 1)) true = T) := Lib.hid (by have := hT2.out; simpa [] using this)
          clear hT2
          go_upto_region 6 with fail
          go_quiet (fail)
          obtain ⟨w2, hw2⟩ : ∃ w2, wr.drewN nq = w2 := ⟨_, rfl⟩
          have S2 : Hid (PSt w g q1 x w2 out u5) := by rw [← hw2]; exact HS.out.drewN nq
          rw [hw2]
          clear hw2
          have c1' := HR.out _ S2.out.below 0 _ rfl
          have kb' : w2.cell? ⟨g, 0, none⟩ = some (.int .i64 q1) := by rw [cell_of_row _ _ _ _ _ _ S2.out.row]; rfl
          rw [Nat.add_zero] at c1'
          go_upto_region 9 with fail
          go_quiet (fail)
          have S3 := Lib.hid (S2.out.drewN nq)
          go_wp2
          go_roundw
          case rel => exact ⟨k + 1, out, true, by omega, by go_num, rfl, by first | omega | (simp; omega), S3, hT3⟩
          case measure => simp [intOf]; omega
        · have hT3 : Hid ((out ++ [(q1, q2)]) ++ rp a x (l.drop (k + 1)) true = T) := Lib.hid (by have := hT2.out; simpa [hne] using this)
          clear hT2
          go_upto_region 6 with fail
          go_quiet (fail)
          obtain ⟨w2, hw2⟩ : ∃ w2, wr.drewN nq = w2 := ⟨_, rfl⟩
          have S2 : Hid (PSt w g a x w2 out u5) := by rw [← hw2]; exact HS.out.drewN nq
          rw [hw2]
          clear hw2
          have c1' := HR.out _ S2.out.below 0 _ rfl
          have kb' : w2.cell? ⟨g, 0, none⟩ = some (.int .i64 a) := by rw [cell_of_row _ _ _ _ _ _ S2.out.row]; rfl
          rw [Nat.add_zero] at c1'
          go_upto_region 9 with fail
          go_quiet (fail)
          obtain ⟨w3, hw3⟩ : ∃ w3, w2.drewN nq = w3 := ⟨_, rfl⟩
          have S3 : Hid (PSt w g a x w3 out u5) := by rw [← hw3]; exact S2.out.drewN nq
          rw [hw3]
          clear hw3 S2
          go_wp2_with (first | (refine wpList_load_mid rfl 38 _ rfl b (off + k * 2) (by first | rfl | simp) [.int .i64 q1, .int .i64 q2] _ (HR.out _ S3.out.below) Try.underlying38 rfl pair_size ?_) | (refine wpList_pair1 rfl _ rfl _ _ rfl ?_) | (at_builtin; refine wpList_add rfl _ _ rfl (g + 1) out u5 rfl (S3.out.alloc _).told (by first | omega | (simp; omega)) (by have := (S3.out.alloc (.cells #[.int .i64 q1, .int .i64 q2] 38)).size; omega) _ q1 q2 rfl (new_row _ _ _) ?_; intro v4 w4 t4 g4))
          have S4 := Lib.hid ((S3.out.alloc (.cells #[.int .i64 q1, .int .i64 q2] 38)).grown t4 g4)
          clear t4 g4
          go_roundw
          case rel => exact ⟨k + 1, out ++ [(q1, q2)], true, by omega, by go_num, rfl, by first | omega | (simp; omega), S4, hT3⟩
          case measure => simp [intOf]; omega
      | false =>
        by_cases hlt2 : q1 < a
        · have h1 : ¬ a ≤ q1 := by omega
          have h2 : ¬ q1 = a := by omega
          have hT3 : Hid ((out ++ [(q1, q2)]) ++ rp a x (l.drop (k + 1)) false = T) := Lib.hid (by have := hT2.out; simpa [h1, h2] using this)
          clear hT2
          go_upto_region 6 with fail
          go_quiet (fail)
          obtain ⟨w2, hw2⟩ : ∃ w2, wr.drewN nq = w2 := ⟨_, rfl⟩
          have S2 : Hid (PSt w g a x w2 out u5) := by rw [← hw2]; exact HS.out.drewN nq
          rw [hw2]
          clear hw2
          have c1' := HR.out _ S2.out.below 0 _ rfl
          have kb' : w2.cell? ⟨g, 0, none⟩ = some (.int .i64 a) := by rw [cell_of_row _ _ _ _ _ _ S2.out.row]; rfl
          rw [Nat.add_zero] at c1'
          go_upto_region 9 with fail
          go_quiet (fail)
          obtain ⟨w3, hw3⟩ : ∃ w3, w2.drewN nq = w3 := ⟨_, rfl⟩
          have S3 : Hid (PSt w g a x w3 out u5) := by rw [← hw3]; exact S2.out.drewN nq
          rw [hw3]
          clear hw3 S2
          go_wp2_with (first | (refine wpList_load_mid rfl 38 _ rfl b (off + k * 2) (by first | rfl | simp) [.int .i64 q1, .int .i64 q2] _ (HR.out _ S3.out.below) Try.underlying38 rfl pair_size ?_) | (refine wpList_pair1 rfl _ rfl _ _ rfl ?_) | (at_builtin; refine wpList_add rfl _ _ rfl (g + 1) out u5 rfl (S3.out.alloc _).told (by first | omega | (simp; omega)) (by have := (S3.out.alloc (.cells #[.int .i64 q1, .int .i64 q2] 38)).size; omega) _ q1 q2 rfl (new_row _ _ _) ?_; intro v4 w4 t4 g4))
          have S4 := Lib.hid ((S3.out.alloc (.cells #[.int .i64 q1, .int .i64 q2] 38)).grown t4 g4)
          clear t4 g4
          go_roundw
          case rel => exact ⟨k + 1, out ++ [(q1, q2)], false, by omega, by go_num, rfl, by first | omega | (simp; omega), S4, hT3⟩
          case measure => simp [intOf]; omega
        · have h1 : a ≤ q1 := by omega
          by_cases h2 : q1 = a
          · subst h2
            have hT3 : Hid ((out ++ [(q1, x)]) ++ rp q1 x (l.drop (k + 1)) true = T) := Lib.hid (by have := hT2.out; simpa [] using this)
            clear hT2
            go_upto_region 6 with fail
            go_quiet (fail)
            obtain ⟨w2, hw2⟩ : ∃ w2, wr.drewN nq = w2 := ⟨_, rfl⟩
            have S2 : Hid (PSt w g q1 x w2 out u5) := by rw [← hw2]; exact HS.out.drewN nq
            rw [hw2]
            clear hw2
            go_upto_region 9 with (first | (refine wpList_load_row rfl 38 _ rfl g rfl 38 #[.int .i64 q1, .int .i64 x] (0, 0) _ S2.out.row Try.underlying38 rfl pair_size ?_) | (refine wpList_pair1 rfl _ rfl _ _ rfl ?_) | (at_builtin; refine wpList_add rfl _ _ rfl (g + 1) out u5 rfl (S2.out.alloc _).told (by first | omega | (simp; omega)) (by have := (S2.out.alloc (.cells #[.int .i64 q1, .int .i64 x] 38)).size; omega) _ q1 x rfl (new_row _ _ _) ?_; intro v3 w3 t3 g3))
            have S3 := Lib.hid ((S2.out.alloc (.cells #[.int .i64 q1, .int .i64 x] 38)).grown t3 g3)
            clear t3 g3 S2
            have c1' := HR.out _ S3.out.below 0 _ rfl
            have kb' : w3.cell? ⟨g, 0, none⟩ = some (.int .i64 q1) := by rw [cell_of_row _ _ _ _ _ _ S3.out.row]; rfl
            rw [Nat.add_zero] at c1'
            go_quiet (fail)
            have S4 := Lib.hid (S3.out.drewN nq)
            go_wp2
            go_roundw
            case rel => exact ⟨k + 1, out ++ [(q1, x)], true, by omega, by go_num, rfl, by first | omega | (simp; omega), S4, hT3⟩
            case measure => simp [intOf]; omega
          · have hT3 : Hid ((out ++ [(a, x)] ++ [(q1, q2)]) ++ rp a x (l.drop (k + 1)) true = T) := Lib.hid (by have := hT2.out; simpa [h1, h2] using this)
            clear hT2
            go_upto_region 6 with fail
            go_quiet (fail)
            obtain ⟨w2, hw2⟩ : ∃ w2, wr.drewN nq = w2 := ⟨_, rfl⟩
            have S2 : Hid (PSt w g a x w2 out u5) := by rw [← hw2]; exact HS.out.drewN nq
            rw [hw2]
            clear hw2
            go_upto_region 9 with (first | (refine wpList_load_row rfl 38 _ rfl g rfl 38 #[.int .i64 a, .int .i64 x] (0, 0) _ S2.out.row Try.underlying38 rfl pair_size ?_) | (refine wpList_pair1 rfl _ rfl _ _ rfl ?_) | (at_builtin; refine wpList_add rfl _ _ rfl (g + 1) out u5 rfl (S2.out.alloc _).told (by first | omega | (simp; omega)) (by have := (S2.out.alloc (.cells #[.int .i64 a, .int .i64 x] 38)).size; omega) _ a x rfl (new_row _ _ _) ?_; intro v3 w3 t3 g3))
            have S3 := Lib.hid ((S2.out.alloc (.cells #[.int .i64 a, .int .i64 x] 38)).grown t3 g3)
            clear t3 g3 S2
            have c1' := HR.out _ S3.out.below 0 _ rfl
            have kb' : w3.cell? ⟨g, 0, none⟩ = some (.int .i64 a) := by rw [cell_of_row _ _ _ _ _ _ S3.out.row]; rfl
            rw [Nat.add_zero] at c1'
            go_quiet (fail)
            obtain ⟨w4, hw4⟩ : ∃ w4, w3.drewN nq = w4 := ⟨_, rfl⟩
            have S4 : Hid (PSt w g a x w4 (out ++ [(a, x)]) v3) := by rw [← hw4]; exact S3.out.drewN nq
            rw [hw4]
            clear hw4 S3
            go_wp2_with (first | (refine wpList_load_mid rfl 38 _ rfl b (off + k * 2) (by first | rfl | simp) [.int .i64 q1, .int .i64 q2] _ (HR.out _ S4.out.below) Try.underlying38 rfl pair_size ?_) | (refine wpList_pair1 rfl _ rfl _ _ rfl ?_) | (at_builtin; refine wpList_add rfl _ _ rfl (g + 1) (out ++ [(a, x)]) v3 rfl (S4.out.alloc _).told (by first | omega | (simp; omega)) (by have := (S4.out.alloc (.cells #[.int .i64 q1, .int .i64 q2] 38)).size; omega) _ q1 q2 rfl (new_row _ _ _) ?_; intro v5 w5 t5 g5))
            have S5 := Lib.hid ((S4.out.alloc (.cells #[.int .i64 q1, .int .i64 q2] 38)).grown t5 g5)
            clear t5 g5
            go_roundw
            case rel => exact ⟨k + 1, out ++ [(a, x)] ++ [(q1, q2)], true, by omega, by go_num, rfl, by first | omega | (simp; omega), S5, hT3⟩
            case measure => simp [intOf]; omega
    · obtain rfl : n = k := by omega
      have hd : l.drop n = [] := List.drop_eq_nil_of_le (by rw [HN.out]; exact Nat.le_refl _)
      have hT2 : Hid (out ++ (if d then [] else [(a, x)]) = T) := by have := HT.out; rw [hd] at this; exact this
      clear hd HT
      cases d with
      | true =>
        have hT3 : Hid (out = T) := Lib.hid (by simpa using hT2.out)
        clear hT2
        go_wp2
        go_ret
        exact ⟨_, rfl, by rw [← hT3.out]; exact HS.out.told.low (by omega), HS.out.below⟩
      | false =>
        have hT3 : Hid (out ++ [(a, x)] = T) := Lib.hid (by simpa using hT2.out)
        clear hT2
        go_wp2_with (first | (refine wpList_load_row rfl 38 _ rfl g rfl 38 #[.int .i64 a, .int .i64 x] (0, 0) _ HS.out.row Try.underlying38 rfl pair_size ?_) | (refine wpList_pair1 rfl _ rfl _ _ rfl ?_) | (at_builtin; refine wpList_add rfl _ _ rfl (g + 1) out u5 rfl (HS.out.alloc _).told (by first | omega | (simp; omega)) (by have := (HS.out.alloc (.cells #[.int .i64 a, .int .i64 x] 38)).size; omega) _ a x rfl (new_row _ _ _) ?_; intro v3 w3 t3 g3))
        have S3 := Lib.hid ((HS.out.alloc (.cells #[.int .i64 a, .int .i64 x] 38)).grown t3 g3)
        go_ret
        exact ⟨_, rfl, by rw [← hT3.out]; exact S3.out.told.low (by omega), S3.out.below⟩

end View
end Go.Proofs.Ytfmjcinhjbihoaa
