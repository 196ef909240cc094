import Derived.Test.YtllohpkbnopbfaaSorStr
namespace Go.Proofs.Ytllohpkbnopbfaa
open Go.RowKit Go.Bas SorPlain Go.Sor
namespace SorStr

theorem info : (Try.prog.info? 58).map (fun i => (i.zero, i.size, i.bytes)) = some (some (.agg #[.int .i64 0, .string { data := #[] }]), 2, 24) := by kernel_rfl

/-- Put of a key that is there -/
theorem put_old {w : World} {b : Nat} {v : Value} {xs : List (Int × Value)} (h : IsMap 56 58 w b v xs) (hn : xs.length ≤ 4611686018427387904) (k : Int) (s : ByteArray) (hh : has k xs = true) :
    Calls Try.prog 11 #[.pointer (some ⟨b, 0, none⟩), .int .i64 k, .string s] w fun e w' => e = .returned (.bool false) ∧ IsMap 56 58 w' b v (put k (.string s) xs) ∧ Chg (fp b v) w w' := by
  have hp := place_any h hn k
  have hi := has_lt hh
  have H := Lib.hid h
  obtain ⟨hs, rfl⟩ | ⟨g, cap, cur, rfl, hgb, hg, hc, hcm, hcs, ht⟩ := h.shape
  · simp at hi
  have hb := h.head
  have hv := row_cell hg ht (flat_val xs _ hi)
  have hf := row_free hg (place k xs * 2 + 1)
  rw [hh] at hp
  have HH := Lib.hid hh
  obtain ⟨i, hii⟩ : ∃ i, place k xs = i := ⟨_, rfl⟩
  obtain ⟨n, hnn⟩ : ∃ n, xs.length = n := ⟨_, rfl⟩
  have HI := Lib.hid hii; have HN := Lib.hid hnn
  rw [hii] at hp hi hv hf
  rw [hnn] at hi hb hn
  clear hh hii hnn h hg hc hcs ht
  go_enter Try.func11, Try.ntmps11
  go_wp2_with (go_at_call 33; refine hp.mono ?_; rintro e w' ⟨rfl, m, rfl⟩)
  go_ret
  refine ⟨rfl, ?_, ?_⟩
  · rw [← HI.out]
    exact IsMap.drewN (IsMap.set H.out HH.out rfl) m
  · exact (Chg.setCell _ _ _ (.inr rfl)).trans (Chg.drewN _ _ m)

/-- Put of a new key -/
theorem put_new {w : World} {b : Nat} {v : Value} {xs : List (Int × Value)} (h : IsMap 56 58 w b v xs) (hn : (xs.length + 1) * 24 ≤ 140737488355328) (k : Int) (s : ByteArray) (hh : has k xs = false) :
    Calls Try.prog 11 #[.pointer (some ⟨b, 0, none⟩), .int .i64 k, .string s] w fun e w' => e = .returned (.bool true) ∧ ∃ v', IsMap 56 58 w' b v' (put k (.string s) xs) ∧ Chg (fp b v) w w' ∧ (v'.ownBlock = v.ownBlock ∨ ∃ g, v'.ownBlock = some g ∧ w.heap.size ≤ g) := by
  have hp := place_any h (by omega) k
  obtain ⟨i0, hi, hz0, hz1, hz2⟩ := info_parts info
  have H := Lib.hid h
  have hown := h.own
  have hb := h.head
  rw [hh] at hp
  have HH := Lib.hid hh
  have hle := place_le k xs
  obtain ⟨i, hii⟩ : ∃ i, place k xs = i := ⟨_, rfl⟩
  have HI := Lib.hid hii
  rw [hii] at hp hle
  have HB : Hid (b < w.heap.size) := h.lt b (.inl rfl)
  clear hh hii h
  go_enter Try.func11, Try.ntmps11
  go_wp2_with (first | (go_at_call 33; refine hp.mono ?_; rintro e w' ⟨rfl, m, rfl⟩) | (at_builtin; refine wpList_append_any rfl _ _ 54 rfl 0 58 i0 (.agg #[.int .i64 0, .string { data := #[] }]) 2 24 Try.underlying54 hi hz0 hz1 hz2 rfl (by decide) v xs.length (flat xs) rfl (World.ownsRow.alloc (w := w.drewN m) hown _) (some ⟨w.heap.size, 0, none⟩) 1 1 [.int .i64 0, .string { data := #[] }] rfl rfl ?c1 ?c2 ?c3 ?c4 ?c5 ?c6))
  case c1 => exact fun _ => ⟨_, rfl, new_cells _ _ _⟩
  case c2 => simp [Value.oneCell']
  case c3 => unfold maxLen; omega
  case c4 => exact hn
  case c5 => exact Nat.zero_le _
  case c6 =>
  intro v1 w1 hown1 hg1 hb1
  have hk1 : w1.heap[b]? = some (.cells #[v] 56 (0, 0)) := by
    rw [hg1.block b (by have := HB.out; simp; omega) (fun e => H.out.ne e.symm)]
    rw [Below.heap_alloc _ _ _ (show b < (w.drewN m).heap.size from HB.out)]
    exact H.out.cell
  have hb2 : w1.cell? ⟨b, 0, none⟩ = some v := by simp [World.cell?, hk1]
  have hf2 : w1.frozen? ⟨b, 0, none⟩ = false := by simp [World.frozen?, hk1]
  obtain ⟨g, cap, cur, hv1, hgk, hc1, hc2, hc3, hc4⟩ := own_block hown1
  have hgb : g ≠ b := by
    rintro rfl
    rw [hk1] at hgk
    simp at hgk
  rw [hv1]
  have HG1 := Lib.hid hg1; have HB1 := Lib.hid hb1; have HK1 := Lib.hid hk1; have HV1 := Lib.hid hv1; have HGK := Lib.hid hgk
  have H2 := Lib.hid hc2; have H3 := Lib.hid hc3; have H4 := Lib.hid hc4; have HO := Lib.hid hown1
  clear hg1 hb1 hk1 hv1 hgk hc2 hc3 hc4 hown1
  go_wp2
  obtain ⟨w2, hw2⟩ : ∃ w2, w2 = w1.setCell ⟨b, 0, none⟩ (.slice (some ⟨g, 0, none⟩) (xs.length + 1) cap) := ⟨_, rfl⟩
  rw [← hw2]
  have hb3 : w2.cell? ⟨b, 0, none⟩ = some (.slice (some ⟨g, 0, none⟩) (xs.length + 1) cap) := by rw [hw2]; simp [World.cell?, heap_setCell_same _ _ _ _ _ _ HK1.out]
  have HK2 : Hid (w2.heap[b]? = some (.cells #[.slice (some ⟨g, 0, none⟩) (xs.length + 1) cap] 56 (0, 0))) := by
    unfold Hid; rw [hw2, heap_setCell_same _ _ _ _ _ _ HK1.out]; rfl
  have HG2 : Hid (w2.heap[g]? = some (.cells cur 58 (0, 0))) := by
    unfold Hid; rw [hw2, heap_setCell_other _ _ _ _ hgb]; exact HGK.out
  have HW2 := Lib.hid hw2
  clear hw2 hb2 hf2 hb hp hown
  obtain ⟨n, hnn⟩ : ∃ n, xs.length = n := ⟨_, rfl⟩
  have HN := Lib.hid hnn
  rw [hnn] at hle hn hc1 hb3 ⊢
  clear hnn
  have hcap : ¬ cap = i := by omega
  have hle2 : i ≤ n + 1 := by omega
  have hle3 : (i : Int) ≤ (n : Int) + 1 := by omega
  have hw1 : IntKind.i64.wrap ((i : Int) + 1) = (i : Int) + 1 := IntWalk.i64_in _ (by omega)
  have hw2 : (0 : Int) ≤ (i : Int) + 1 := by omega
  have hw3 : ((i : Int) + 1).toNat = i + 1 := by omega
  go_still_tail 13, (by kernel_rfl)
  change wpList _ _ _ _ _ w2.drew
  have hlenF : (flat (xs.drop i)).length = (n - i) * 2 := by rw [flat_length, List.length_drop, HN.out]
  have hmin : (n + 1 - i).min (n - i) = n - i := Nat.min_eq_right (by omega)
  refine wpList_copy_sized rfl (.tmp 42) (.tmp 48) 54 54 rfl 58 i0 Try.underlying54 hi _ _ _ _ _ _ rfl rfl g ((i + 1) * 2) cur.toList 58 (by simpa using (show w2.drew.heap[g]? = _ from HG2.out)) (flat (xs.drop i)) ?c1 ?c2 ?c3 ?c4 ?c5
  case c1 => rw [hlenF, hmin, hz1]
  case c2 =>
    rw [hmin]
    intro hpos
    rw [if_neg (by omega)]
    refine ⟨rfl, _, rfl, ?_⟩
    intro j u hu
    have hj : j < (n - i) * 2 := by
      rw [← hlenF]; exact (List.getElem?_eq_some_iff.1 hu).1
    have hadd : (⟨g, i * 2, none⟩ : Addr).add j = ⟨g, i * 2 + j, none⟩ := by unfold Addr.add; split <;> simp_all
    rw [hadd]
    refine row_cell (w := w2.drew) (cur := cur) (show w2.drew.heap[g]? = _ from HG2.out) H4.out ?_
    rw [List.getElem?_append_left (by rw [flat_length, HN.out]; omega), ← List.getElem?_drop, flat_drop]
    exact hu
  case c3 => have := H3.out; simp; omega
  case c4 =>
    intro u hu
    have hu2 : u ∈ flat xs := by rw [← flat_drop] at hu; exact List.mem_of_mem_drop hu
    simp only [flat, List.mem_flatMap] at hu2
    obtain ⟨p, hp, hu3⟩ := hu2
    simp at hu3
    rcases hu3 with rfl | rfl
    · rfl
    · exact H.out.one p hp
  case c5 =>
  obtain ⟨R, hR⟩ : ∃ R, R = splice cur.toList ((i + 1) * 2) (flat (xs.drop i)) := ⟨_, rfl⟩
  rw [← hR]
  obtain ⟨w3, hw3e⟩ : ∃ w3, w3 = w2.drew.setRow g R.toArray := ⟨_, rfl⟩
  rw [← hw3e]
  have hb4 : w3.cell? ⟨b, 0, none⟩ = some (.slice (some ⟨g, 0, none⟩) (n + 1) cap) := by
    rw [hw3e, World.cell?_of_block (w := w2.drew) (setRow_other _ _ _ _ hgb.symm)]; exact hb3
  have HK3 : Hid (w3.heap[b]? = some (.cells #[.slice (some ⟨g, 0, none⟩) (n + 1) cap] 56 (0, 0))) := by
    unfold Hid; rw [hw3e, setRow_other _ _ _ _ hgb.symm, ← HN.out]; exact HK2.out
  have HG3 : Hid (w3.heap[g]? = some (.cells R.toArray 58 (0, 0))) := by
    unfold Hid; rw [hw3e]; exact setRow_heap w2.drew g cur _ _ _ HG2.out
  have hRl : R.length = cap * 2 := by
    rw [hR, length_splice _ _ _ (by have := H3.out; simp; omega)]; simpa using H3.out
  have hp0 : ∃ u, w3.cell? ⟨g, i * 2, none⟩ = some u := by
    rw [cell_of_row w3 g _ _ _ _ HG3.out]; exact ⟨_, Array.getElem?_eq_getElem (by simp; omega)⟩
  have hp1 : ∃ u, w3.cell? ⟨g, i * 2 + 1, none⟩ = some u := by
    rw [cell_of_row w3 g _ _ _ _ HG3.out]; exact ⟨_, Array.getElem?_eq_getElem (by simp; omega)⟩
  obtain ⟨u0, hp0⟩ := hp0
  obtain ⟨u1, hp1⟩ := hp1
  have hf0 := row_free HG3.out (i * 2)
  have hf1 := row_free HG3.out (i * 2 + 1)
  have hgfp : some g = v.ownBlock ∨ g = w.heap.size + 1 := by
    rcases HB1.out with h | h
    · rw [HV1.out] at h; exact .inl h
    · rw [HV1.out] at h; simp [Value.ownBlock] at h; exact .inr h
  have fin : Hid (IsMap 56 58 ((w3.setCell ⟨g, i * 2, none⟩ (.int .i64 k)).setCell ⟨g, i * 2 + 1, none⟩ (.string s)) b (.slice (some ⟨g, 0, none⟩) (n + 1) cap) (put k (.string s) xs) ∧
      Chg (fp b v) w ((w3.setCell ⟨g, i * 2, none⟩ (.int .i64 k)).setCell ⟨g, i * 2 + 1, none⟩ (.string s)) ∧
      ((Value.slice (some ⟨g, 0, none⟩) (n + 1) cap).ownBlock = v.ownBlock ∨ ∃ g', (Value.slice (some ⟨g, 0, none⟩) (n + 1) cap).ownBlock = some g' ∧ w.heap.size ≤ g')) := by
    have hpl : (put k (.string s) xs).length = n + 1 := by rw [put_length, HH.out, HN.out]; rfl
    refine ⟨⟨?_, ⟨by rw [flat_length], .inr ⟨g, cap, ((R.toArray.setIfInBounds (i * 2) (.int .i64 k)).setIfInBounds (i * 2 + 1) (.string s)), by rw [hpl], Nat.zero_le _, ?_, by omega, H2.out, by simpa using hRl, ?_⟩⟩, ?_, H.out.asc.put _ _, ?_⟩, ?_, ?_⟩
    · rw [heap_setCell_other _ _ _ _ hgb.symm, heap_setCell_other _ _ _ _ hgb.symm]; exact HK3.out
    · rw [heap_setCell_same _ _ _ _ _ _ (heap_setCell_same _ _ _ _ _ _ HG3.out)]
    · have h0 := put_cells cur.toList xs i (by rw [HN.out]; exact hle) _ _ H4.out (.int .i64 k) (.string s)
      rw [← hR, HN.out] at h0
      rw [hpl]
      have hfl : flat (put k (.string s) xs) = flat (xs.take i) ++ (.int .i64 k :: .string s :: flat (xs.drop i)) := by
        unfold put
        rw [HH.out, HI.out, flat_append]
        simp [flat_cons]
      rw [hfl, ← h0]
      simp
    · simp [Value.ownBlock]; exact hgb
    · intro p hp
      unfold put at hp
      rw [HH.out] at hp
      rcases List.mem_append.1 hp with hp | hp
      · exact H.out.one p (List.mem_of_mem_take hp)
      · rcases List.mem_cons.1 hp with rfl | hp
        · rfl
        · exact H.out.one p (List.mem_of_mem_drop hp)
    · have k1 : Chg (fp b v) w w1 := ((Chg.drewN _ w m).trans (Chg.alloc _ _ _)).trans (Chg.grown HG1.out fun k hk => .inr hk.symm)
      have k2 : Chg (fp b v) w w2 := k1.trans (by rw [HW2.out]; exact Chg.setCell _ _ _ (.inl rfl))
      have hlt : ∀ k, k < w.heap.size → k = g → fp b v k := by
        rintro k hk rfl
        rcases hgfp with h | h
        · exact .inr h
        · omega
      have k3 : Chg (fp b v) w w3 := k2.trans' (T := fun k => k = g) (by rw [hw3e]; exact (Chg.drew _ _).trans (Chg.setRow _ _ _ rfl)) hlt
      exact (k3.trans' (T := fun k => k = g) (Chg.setCell _ _ _ rfl) hlt).trans' (T := fun k => k = g) (Chg.setCell _ _ _ rfl) hlt
    · rcases hgfp with h | h
      · exact .inl h
      · exact .inr ⟨g, rfl, by omega⟩
  clear hR hw3e hb3 hw1 hw2 hw3 hlenF hmin hRl hgfp
  go_wp2
  all_goals
    go_ret
    exact ⟨rfl, _, fin.out⟩

end SorStr
end Go.Proofs.Ytllohpkbnopbfaa
