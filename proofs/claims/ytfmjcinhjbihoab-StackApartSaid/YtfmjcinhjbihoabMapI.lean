import Derived.Test.YtfmjcinhjbihoabRows
import Derived.Test.YtfmjcinhjbihoabBase2
import Derived.Test.YtfmjcinhjbihoabSorHeap
import Derived.Deep.QuietTactic
import Derived.BigQuiet
import Derived.IntWalk
import Derived.Deep.RegionLaw
import Derived.StillTailTactics
namespace Go.Proofs.Ytfmjcinhjbihoab
open Go.RowKit Go.Bas SorPlain Go.Sor
namespace MapI
abbrev TM := 71
abbrev TE := 78

theorem place_nil (b : Nat) (k : Int) (w : World) (hb : w.cell? ⟨b, 0, none⟩ = some (.slice none 0 0)) :
    Calls Try.prog 40 #[.pointer (some ⟨b, 0, none⟩), .int .i64 k] w fun e w' => e = .returned (.tuple #[.int .i64 0, .bool false]) ∧ ∃ m, w' = w.drewN m := by
  have hd : decide ((0 : Nat) < 0) = false := by decide
  go_enter Try.func40, Try.ntmps40
  go_wp2
  go_quiet (fail)
  go_wp2
  refine wp_loop_rounds 1 ?_
  rw [rounds_succ]
  go_wp2
  go_quiet (fail)
  go_wp2
  go_ret2
  exact ⟨rfl, _, World.drewN_drewN _ _ _⟩

set_option maxHeartbeats 400000 in
theorem place_some (b g c : Nat) (ks : List Int) (k : Int) (w : World) (hn : ks.length ≤ 4611686018427387904)
    (hb : w.cell? ⟨b, 0, none⟩ = some (.slice (some ⟨g, 0, none⟩) ks.length c))
    (hc : ∀ i, i < ks.length → w.cell? ⟨g, i * 2, none⟩ = some (.int .i64 (ks.getD i 0)))
    (hs : ks.Pairwise (· < ·)) :
    Calls Try.prog 40 #[.pointer (some ⟨b, 0, none⟩), .int .i64 k] w fun e w' => e = .returned (.tuple #[.int .i64 (lower k ks), .bool (decide (lower k ks < ks.length ∧ ks.getD (lower k ks) 0 = k))]) ∧ ∃ m, w' = w.drewN m := by
  have HS := Lib.hid hs
  clear hs
  go_enter Try.func40, Try.ntmps40
  go_wp2
  go_quiet (fail)
  go_wp2
  go_loop [6, 7, 8] (fun lo hi mid => ∃ l h : Nat, l ≤ h ∧ h ≤ ks.length ∧ lo = .int .i64 l ∧ hi = .int .i64 h ∧ Hid ((∀ i, i < l → ks.getD i 0 < k) ∧ (∀ i, h ≤ i → i < ks.length → k ≤ ks.getD i 0))) (fun lo hi mid => (intOf hi - intOf lo).toNat)
  case atStart => exact ⟨0, ks.length, by omega, by omega, rfl, rfl, by constructor <;> (intros; omega)⟩
  case round =>
    obtain ⟨l, h, hlh, hh, rfl, rfl, H⟩ := hrel
    by_cases hlt : l < h
    · obtain ⟨x, hx⟩ : ∃ x, ks.getD (l + (h - l) / 2) 0 = x := ⟨_, rfl⟩
      have hm := hc (l + (h - l) / 2) (by omega)
      rw [hx] at hm
      have HX := Lib.hid hx
      clear hx hc
      by_cases hxk : x < k
      · go_wp2
        go_round
        case rel => exact ⟨l + (h - l) / 2 + 1, h, by omega, by omega, by go_num, rfl, mid_lo HS.out (by omega) (by omega) HX.out hxk H.out⟩
        case measure => simp [intOf]; omega
      · go_wp2
        go_round
        case rel => exact ⟨l, l + (h - l) / 2, by omega, by omega, rfl, by congr 1; omega, mid_hi HS.out (by omega) (by omega) HX.out hxk H.out⟩
        case measure => simp [intOf]; omega
    · obtain rfl : l = h := by omega
      obtain rfl := lower_unique HS.out hh H.out.1 (fun hl => H.out.2 _ (Nat.le_refl _) hl)
      have hr := fun hi => hc (lower k ks) hi
      clear hc
      by_cases hi : lower k ks < ks.length
      · have hr := hr hi
        go_wp2
        go_quiet (fail)
        go_wp2
        go_ret2
        refine ⟨?_, _, World.drewN_drewN _ _ _⟩
        simp [hi]
        exact Bool.eq_iff_iff.2 (by simp)
      · clear hr
        have hd : decide (lower k ks < ks.length) = false := by simpa using hi
        go_wp2
        go_quiet (fail)
        go_wp2
        go_ret2
        refine ⟨?_, _, World.drewN_drewN _ _ _⟩
        simp [hi]

/-- place, of any map -/
theorem place_any {w : World} {b : Nat} {v : Value} {xs : List (Int × Value)} (h : IsMap 71 78 w b v xs) (hn : xs.length ≤ 4611686018427387904) (k : Int) :
    Calls Try.prog 40 #[.pointer (some ⟨b, 0, none⟩), .int .i64 k] w fun e w' => e = .returned (.tuple #[.int .i64 (place k xs), .bool (has k xs)]) ∧ ∃ m, w' = w.drewN m := by
  rcases h.shape with ⟨rfl, rfl⟩ | ⟨g, cap, cur, rfl, hgb, hg, hc, hcm, hcs, ht⟩
  · exact place_nil b k w h.head
  · have := place_some b g cap (keys xs) k w (by simpa using hn) (by simpa using h.head) (fun i hi => row_cell hg ht (flat_key xs i (by simpa using hi))) h.asc
    exact this

/-- Len -/
theorem len_any {w : World} {b : Nat} {v : Value} {xs : List (Int × Value)} (h : IsMap 71 78 w b v xs) :
    Calls Try.prog 39 #[.pointer (some ⟨b, 0, none⟩)] w fun e w' => e = .returned (.int .i64 xs.length) ∧ w = w' := by
  have hv := h.head
  obtain ⟨ad, cap, rfl⟩ : ∃ ad cap, v = .slice ad xs.length cap := by
    rcases h.shape with ⟨rfl, rfl⟩ | ⟨g, cap, cur, rfl, _⟩
    · exact ⟨_, _, rfl⟩
    · exact ⟨_, _, rfl⟩
  clear h
  go_enter Try.func39, Try.ntmps39
  go_wp2
  go_ret
  exact ⟨rfl, rfl⟩

/-- Get -/
theorem get_any {w : World} {b : Nat} {v : Value} {xs : List (Int × Value)} (h : IsMap 71 78 w b v xs) (hn : xs.length ≤ 4611686018427387904) (k : Int) :
    Calls Try.prog 38 #[.pointer (some ⟨b, 0, none⟩), .int .i64 k] w fun e w' => e = .returned (.tuple #[getD k (.int .i64 0) xs, .bool (has k xs)]) ∧ ∃ m, w' = w.drewN m := by
  have hp := place_any h hn k
  by_cases hh : has k xs = true
  · have hi := has_lt hh
    obtain ⟨hs, rfl⟩ | ⟨g, cap, cur, rfl, hgb, hg, hc, hcm, hcs, ht⟩ := h.shape
    · simp at hi
    have hb := h.head
    have hv := row_cell hg ht (flat_val xs _ hi)
    have hr : getD k (.int .i64 0) xs = (xs.map (·.2)).getD (place k xs) undef := by
      unfold getD; rw [if_pos hh]; simp [hi]
    obtain ⟨u, hu⟩ : ∃ u, (xs.map (·.2)).getD (place k xs) undef = u := ⟨_, rfl⟩
    rw [hr, hu]; rw [hu] at hv; rw [hh] at hp ⊢
    obtain ⟨i, hii⟩ : ∃ i, place k xs = i := ⟨_, rfl⟩
    obtain ⟨n, hnn⟩ : ∃ n, xs.length = n := ⟨_, rfl⟩
    rw [hii] at hp hi hv
    rw [hnn] at hi hb hn
    clear hr hu hh hii hnn h hg hc hcs ht
    go_enter Try.func38, Try.ntmps38
    go_wp2_with (go_at_call 40; refine hp.mono ?_; rintro e w' ⟨rfl, m, rfl⟩)
    go_ret2
    exact ⟨rfl, _, rfl⟩
  · have hf : has k xs = false := by simpa using hh
    have hr : getD k (.int .i64 0) xs = .int .i64 0 := by unfold getD; rw [if_neg hh]
    rw [hr]; rw [hf] at hp ⊢
    obtain ⟨i, hii⟩ : ∃ i, place k xs = i := ⟨_, rfl⟩
    rw [hii] at hp
    clear hr hh hf hii h hn
    go_enter Try.func38, Try.ntmps38
    go_wp2_with (go_at_call 40; refine hp.mono ?_; rintro e w' ⟨rfl, m, rfl⟩)
    go_ret2
    exact ⟨rfl, _, rfl⟩

theorem info : (Try.prog.info? 78).map (fun i => (i.zero, i.size, i.bytes)) = some (some (.agg #[.int .i64 0, .int .i64 0]), 2, 16) := by kernel_rfl

/-- Put of a key that is there -/
theorem put_old {w : World} {b : Nat} {v : Value} {xs : List (Int × Value)} (h : IsMap 71 78 w b v xs) (hn : xs.length ≤ 4611686018427387904) (k : Int) (s : Int) (hh : has k xs = true) :
    Calls Try.prog 37 #[.pointer (some ⟨b, 0, none⟩), .int .i64 k, .int .i64 s] w fun e w' => e = .returned (.bool false) ∧ IsMap 71 78 w' b v (put k (.int .i64 s) xs) ∧ Chg (fp b v) w w' := by
  have hp := place_any h hn k
  have hi := has_lt hh
  have H := Lib.hid h
  obtain ⟨hs, rfl⟩ | ⟨g, cap, cur, rfl, hgb, hg, hc, hcm, hcs, ht⟩ := h.shape
  · simp at hi
  have hb := h.head
  have hv := row_cell hg ht (flat_val xs _ hi)
  have hf := row_free hg (place k xs * 2 + 1)
  rw [hh] at hp
  have HH := Lib.hid hh
  obtain ⟨i, hii⟩ : ∃ i, place k xs = i := ⟨_, rfl⟩
  obtain ⟨n, hnn⟩ : ∃ n, xs.length = n := ⟨_, rfl⟩
  have HI := Lib.hid hii; have HN := Lib.hid hnn
  rw [hii] at hp hi hv hf
  rw [hnn] at hi hb hn
  clear hh hii hnn h hg hc hcs ht
  go_enter Try.func37, Try.ntmps37
  go_wp2_with (go_at_call 40; refine hp.mono ?_; rintro e w' ⟨rfl, m, rfl⟩)
  go_ret
  refine ⟨rfl, ?_, ?_⟩
  · rw [← HI.out]
    exact IsMap.drewN (IsMap.set H.out HH.out rfl) m
  · exact (Chg.setCell _ _ _ (.inr rfl)).trans (Chg.drewN _ _ m)

/-- Put of a new key -/
theorem put_new {w : World} {b : Nat} {v : Value} {xs : List (Int × Value)} (h : IsMap 71 78 w b v xs) (hn : (xs.length + 1) * 16 ≤ 140737488355328) (k : Int) (s : Int) (hh : has k xs = false) :
    Calls Try.prog 37 #[.pointer (some ⟨b, 0, none⟩), .int .i64 k, .int .i64 s] w fun e w' => e = .returned (.bool true) ∧ ∃ v', IsMap 71 78 w' b v' (put k (.int .i64 s) xs) ∧ Chg (fp b v) w w' ∧ (v'.ownBlock = v.ownBlock ∨ ∃ g, v'.ownBlock = some g ∧ w.heap.size ≤ g) := by
  have hp := place_any h (by omega) k
  obtain ⟨i0, hi, hz0, hz1, hz2⟩ := info_parts info
  have H := Lib.hid h
  have hown := h.own
  have hb := h.head
  rw [hh] at hp
  have HH := Lib.hid hh
  have hle := place_le k xs
  obtain ⟨i, hii⟩ : ∃ i, place k xs = i := ⟨_, rfl⟩
  have HI := Lib.hid hii
  rw [hii] at hp hle
  have HB : Hid (b < w.heap.size) := h.lt b (.inl rfl)
  clear hh hii h
  go_enter Try.func37, Try.ntmps37
  go_wp2_with (first | (go_at_call 40; refine hp.mono ?_; rintro e w' ⟨rfl, m, rfl⟩) | (at_builtin; refine wpList_append_any rfl _ _ 69 rfl 0 78 i0 (.agg #[.int .i64 0, .int .i64 0]) 2 16 Try.underlying69 hi hz0 hz1 hz2 rfl (by decide) v xs.length (flat xs) rfl (World.ownsRow.alloc (w := w.drewN m) hown _) (some ⟨w.heap.size, 0, none⟩) 1 1 [.int .i64 0, .int .i64 0] rfl rfl ?c1 ?c2 ?c3 ?c4 ?c5 ?c6))
  case c1 => exact fun _ => ⟨_, rfl, new_cells _ _ _⟩
  case c2 => simp [Value.oneCell']
  case c3 => unfold maxLen; omega
  case c4 => exact hn
  case c5 => exact Nat.zero_le _
  case c6 =>
  intro v1 w1 hown1 hg1 hb1
  have hk1 : w1.heap[b]? = some (.cells #[v] 71 (0, 0)) := by
    rw [hg1.block b (by have := HB.out; simp; omega) (fun e => H.out.ne e.symm)]
    rw [Below.heap_alloc _ _ _ (show b < (w.drewN m).heap.size from HB.out)]
    exact H.out.cell
  have hb2 : w1.cell? ⟨b, 0, none⟩ = some v := by simp [World.cell?, hk1]
  have hf2 : w1.frozen? ⟨b, 0, none⟩ = false := by simp [World.frozen?, hk1]
  obtain ⟨g, cap, cur, hv1, hgk, hc1, hc2, hc3, hc4⟩ := own_block hown1
  have hgb : g ≠ b := by
    rintro rfl
    rw [hk1] at hgk
    simp at hgk
  rw [hv1]
  have HG1 := Lib.hid hg1; have HB1 := Lib.hid hb1; have HK1 := Lib.hid hk1; have HV1 := Lib.hid hv1; have HGK := Lib.hid hgk
  have H2 := Lib.hid hc2; have H3 := Lib.hid hc3; have H4 := Lib.hid hc4; have HO := Lib.hid hown1
  clear hg1 hb1 hk1 hv1 hgk hc2 hc3 hc4 hown1
  go_wp2
  obtain ⟨w2, hw2⟩ : ∃ w2, w2 = w1.setCell ⟨b, 0, none⟩ (.slice (some ⟨g, 0, none⟩) (xs.length + 1) cap) := ⟨_, rfl⟩
  rw [← hw2]
  have hb3 : w2.cell? ⟨b, 0, none⟩ = some (.slice (some ⟨g, 0, none⟩) (xs.length + 1) cap) := by rw [hw2]; simp [World.cell?, heap_setCell_same _ _ _ _ _ _ HK1.out]
  have HK2 : Hid (w2.heap[b]? = some (.cells #[.slice (some ⟨g, 0, none⟩) (xs.length + 1) cap] 71 (0, 0))) := by
    unfold Hid; rw [hw2, heap_setCell_same _ _ _ _ _ _ HK1.out]; rfl
  have HG2 : Hid (w2.heap[g]? = some (.cells cur 78 (0, 0))) := by
    unfold Hid; rw [hw2, heap_setCell_other _ _ _ _ hgb]; exact HGK.out
  have HW2 := Lib.hid hw2
  clear hw2 hb2 hf2 hb hp hown
  obtain ⟨n, hnn⟩ : ∃ n, xs.length = n := ⟨_, rfl⟩
  have HN := Lib.hid hnn
  rw [hnn] at hle hn hc1 hb3 ⊢
  clear hnn
  have hcap : ¬ cap = i := by omega
  have hle2 : i ≤ n + 1 := by omega
  have hle3 : (i : Int) ≤ (n : Int) + 1 := by omega
  have hw1 : IntKind.i64.wrap ((i : Int) + 1) = (i : Int) + 1 := IntWalk.i64_in _ (by omega)
  have hw2 : (0 : Int) ≤ (i : Int) + 1 := by omega
  have hw3 : ((i : Int) + 1).toNat = i + 1 := by omega
  go_still_tail 13, (by kernel_rfl)
  change wpList _ _ _ _ _ w2.drew
  have hlenF : (flat (xs.drop i)).length = (n - i) * 2 := by rw [flat_length, List.length_drop, HN.out]
  have hmin : (n + 1 - i).min (n - i) = n - i := Nat.min_eq_right (by omega)
  refine wpList_copy_sized rfl (.tmp 42) (.tmp 48) 69 69 rfl 78 i0 Try.underlying69 hi _ _ _ _ _ _ rfl rfl g ((i + 1) * 2) cur.toList 78 (by simpa using (show w2.drew.heap[g]? = _ from HG2.out)) (flat (xs.drop i)) ?c1 ?c2 ?c3 ?c4 ?c5
  case c1 => rw [hlenF, hmin, hz1]
  case c2 =>
    rw [hmin]
    intro hpos
    rw [if_neg (by omega)]
    refine ⟨rfl, _, rfl, ?_⟩
    intro j u hu
    have hj : j < (n - i) * 2 := by
      rw [← hlenF]; exact (List.getElem?_eq_some_iff.1 hu).1
    have hadd : (⟨g, i * 2, none⟩ : Addr).add j = ⟨g, i * 2 + j, none⟩ := by unfold Addr.add; split <;> simp_all
    rw [hadd]
    refine row_cell (w := w2.drew) (cur := cur) (show w2.drew.heap[g]? = _ from HG2.out) H4.out ?_
    rw [List.getElem?_append_left (by rw [flat_length, HN.out]; omega), ← List.getElem?_drop, flat_drop]
    exact hu
  case c3 => have := H3.out; simp; omega
  case c4 =>
    intro u hu
    have hu2 : u ∈ flat xs := by rw [← flat_drop] at hu; exact List.mem_of_mem_drop hu
    simp only [flat, List.mem_flatMap] at hu2
    obtain ⟨p, hp, hu3⟩ := hu2
    simp at hu3
    rcases hu3 with rfl | rfl
    · rfl
    · exact H.out.one p hp
  case c5 =>
  obtain ⟨R, hR⟩ : ∃ R, R = splice cur.toList ((i + 1) * 2) (flat (xs.drop i)) := ⟨_, rfl⟩
  rw [← hR]
  obtain ⟨w3, hw3e⟩ : ∃ w3, w3 = w2.drew.setRow g R.toArray := ⟨_, rfl⟩
  rw [← hw3e]
  have hb4 : w3.cell? ⟨b, 0, none⟩ = some (.slice (some ⟨g, 0, none⟩) (n + 1) cap) := by
    rw [hw3e, World.cell?_of_block (w := w2.drew) (setRow_other _ _ _ _ hgb.symm)]; exact hb3
  have HK3 : Hid (w3.heap[b]? = some (.cells #[.slice (some ⟨g, 0, none⟩) (n + 1) cap] 71 (0, 0))) := by
    unfold Hid; rw [hw3e, setRow_other _ _ _ _ hgb.symm, ← HN.out]; exact HK2.out
  have HG3 : Hid (w3.heap[g]? = some (.cells R.toArray 78 (0, 0))) := by
    unfold Hid; rw [hw3e]; exact setRow_heap w2.drew g cur _ _ _ HG2.out
  have hRl : R.length = cap * 2 := by
    rw [hR, length_splice _ _ _ (by have := H3.out; simp; omega)]; simpa using H3.out
  have hp0 : ∃ u, w3.cell? ⟨g, i * 2, none⟩ = some u := by
    rw [cell_of_row w3 g _ _ _ _ HG3.out]; exact ⟨_, Array.getElem?_eq_getElem (by simp; omega)⟩
  have hp1 : ∃ u, w3.cell? ⟨g, i * 2 + 1, none⟩ = some u := by
    rw [cell_of_row w3 g _ _ _ _ HG3.out]; exact ⟨_, Array.getElem?_eq_getElem (by simp; omega)⟩
  obtain ⟨u0, hp0⟩ := hp0
  obtain ⟨u1, hp1⟩ := hp1
  have hf0 := row_free HG3.out (i * 2)
  have hf1 := row_free HG3.out (i * 2 + 1)
  have hgfp : some g = v.ownBlock ∨ g = w.heap.size + 1 := by
    rcases HB1.out with h | h
    · rw [HV1.out] at h; exact .inl h
    · rw [HV1.out] at h; simp [Value.ownBlock] at h; exact .inr h
  have fin : Hid (IsMap 71 78 ((w3.setCell ⟨g, i * 2, none⟩ (.int .i64 k)).setCell ⟨g, i * 2 + 1, none⟩ (.int .i64 s)) b (.slice (some ⟨g, 0, none⟩) (n + 1) cap) (put k (.int .i64 s) xs) ∧
      Chg (fp b v) w ((w3.setCell ⟨g, i * 2, none⟩ (.int .i64 k)).setCell ⟨g, i * 2 + 1, none⟩ (.int .i64 s)) ∧
      ((Value.slice (some ⟨g, 0, none⟩) (n + 1) cap).ownBlock = v.ownBlock ∨ ∃ g', (Value.slice (some ⟨g, 0, none⟩) (n + 1) cap).ownBlock = some g' ∧ w.heap.size ≤ g')) := by
    have hpl : (put k (.int .i64 s) xs).length = n + 1 := by rw [put_length, HH.out, HN.out]; rfl
    refine ⟨⟨?_, ⟨by rw [flat_length], .inr ⟨g, cap, ((R.toArray.setIfInBounds (i * 2) (.int .i64 k)).setIfInBounds (i * 2 + 1) (.int .i64 s)), by rw [hpl], Nat.zero_le _, ?_, by omega, H2.out, by simpa using hRl, ?_⟩⟩, ?_, H.out.asc.put _ _, ?_⟩, ?_, ?_⟩
    · rw [heap_setCell_other _ _ _ _ hgb.symm, heap_setCell_other _ _ _ _ hgb.symm]; exact HK3.out
    · rw [heap_setCell_same _ _ _ _ _ _ (heap_setCell_same _ _ _ _ _ _ HG3.out)]
    · have h0 := put_cells cur.toList xs i (by rw [HN.out]; exact hle) _ _ H4.out (.int .i64 k) (.int .i64 s)
      rw [← hR, HN.out] at h0
      rw [hpl]
      have hfl : flat (put k (.int .i64 s) xs) = flat (xs.take i) ++ (.int .i64 k :: .int .i64 s :: flat (xs.drop i)) := by
        unfold put
        rw [HH.out, HI.out, flat_append]
        simp [flat_cons]
      rw [hfl, ← h0]
      simp
    · simp [Value.ownBlock]; exact hgb
    · intro p hp
      unfold put at hp
      rw [HH.out] at hp
      rcases List.mem_append.1 hp with hp | hp
      · exact H.out.one p (List.mem_of_mem_take hp)
      · rcases List.mem_cons.1 hp with rfl | hp
        · rfl
        · exact H.out.one p (List.mem_of_mem_drop hp)
    · have k1 : Chg (fp b v) w w1 := ((Chg.drewN _ w m).trans (Chg.alloc _ _ _)).trans (Chg.grown HG1.out fun k hk => .inr hk.symm)
      have k2 : Chg (fp b v) w w2 := k1.trans (by rw [HW2.out]; exact Chg.setCell _ _ _ (.inl rfl))
      have hlt : ∀ k, k < w.heap.size → k = g → fp b v k := by
        rintro k hk rfl
        rcases hgfp with h | h
        · exact .inr h
        · omega
      have k3 : Chg (fp b v) w w3 := k2.trans' (T := fun k => k = g) (by rw [hw3e]; exact (Chg.drew _ _).trans (Chg.setRow _ _ _ rfl)) hlt
      exact (k3.trans' (T := fun k => k = g) (Chg.setCell _ _ _ rfl) hlt).trans' (T := fun k => k = g) (Chg.setCell _ _ _ rfl) hlt
    · rcases hgfp with h | h
      · exact .inl h
      · exact .inr ⟨g, rfl, by omega⟩
  clear hR hw3e hb3 hw1 hw2 hw3 hlenF hmin hRl hgfp
  go_wp2
  all_goals
    go_ret
    exact ⟨rfl, _, fin.out⟩

/-- New -/
theorem new_any (w : World) : Calls Try.prog 27 #[] w fun e w' => e = .returned (.pointer (some ⟨w.heap.size, 0, none⟩)) ∧ w.alloc (.cells #[.slice none 0 0] 71) = w' := by
  go_enter Try.func27, Try.ntmps27
  go_wp2
  go_ret
  exact ⟨rfl, rfl⟩

/-- Put, of any map -/
theorem put_any {w : World} {b : Nat} {v : Value} {xs : List (Int × Value)} (h : IsMap 71 78 w b v xs) (hn : (xs.length + 1) * 16 ≤ 140737488355328) (k : Int) (s : Int) :
    Calls Try.prog 37 #[.pointer (some ⟨b, 0, none⟩), .int .i64 k, .int .i64 s] w fun e w' => e = .returned (.bool (!has k xs)) ∧ ∃ v', IsMap 71 78 w' b v' (put k (.int .i64 s) xs) ∧ Chg (fp b v) w w' ∧ (v'.ownBlock = v.ownBlock ∨ ∃ g, v'.ownBlock = some g ∧ w.heap.size ≤ g) := by
  cases hh : has k xs with
  | true => exact (put_old h (by omega) k s hh).mono fun e w' ⟨he, hm, hc⟩ => ⟨he, v, hm, hc, .inl rfl⟩
  | false => exact (put_new h hn k s hh).mono fun e w' ⟨he, v', hm, hc, hb⟩ => ⟨he, v', hm, hc, hb⟩

/-- Put, of a map that is the call's own -/
theorem put_my {B : Nat} {w : World} {b : Nat} {v : Value} {xs : List (Int × Value)} (h : MyMap 71 78 B w b v xs) (hB : B ≤ w.heap.size) (hn : (xs.length + 1) * 16 ≤ 140737488355328) (k : Int) (s : Int) :
    Calls Try.prog 37 #[.pointer (some ⟨b, 0, none⟩), .int .i64 k, .int .i64 s] w fun e w' => e = .returned (.bool (!has k xs)) ∧ ∃ v', MyMap 71 78 B w' b v' (put k (.int .i64 s) xs) ∧ Below B w w' :=
  (put_any h.is hn k s).mono fun e w' ⟨he, v', hm, hc, hb⟩ => ⟨he, v', h.next hB hm hb, hc.below hB h.fp⟩

set_option maxHeartbeats 1000000 in
/-- Each, of any callback that keeps to an invariant -/
theorem each_any {b : Nat} {xs : List (Int × Value)} (f : FuncId) (cap : Array Value) (I : Nat → World → Prop) (Q : World → Prop) (hx : xs.length ≤ 4611686018427387904)
    (hfn : ∀ args w, (callFunc f args).run Try.prog w = .ok (.enter f args) w)
    (hmap : ∀ i w, I i w → ∃ v, IsMap TM TE w b v xs) (hdr : ∀ i w n, I i w → I i (w.drewN n))
    (hcall : ∀ i, i < xs.length → ∀ w, I i w → Calls Try.prog f (#[.int .i64 ((keys xs).getD i 0), (xs.map (·.2)).getD i undef] ++ cap) w fun e w' => ∃ r, e = .returned (.bool r) ∧ (r = true → I (i + 1) w') ∧ (r = false → Q w'))
    (hend : ∀ w, I xs.length w → Q w) (w : World) (h0 : I 0 w) :
    Calls Try.prog 35 #[.pointer (some ⟨b, 0, none⟩), .func (.func f) #[] cap] w fun e w' => e = .returned (.tuple #[]) ∧ Q w' := by
  have hl : ∀ w, I 0 w → Calls Try.prog 39 #[.pointer (some ⟨b, 0, none⟩)] w fun e w' => e = .returned (.int .i64 xs.length) ∧ w = w' := fun w h => by
    obtain ⟨v, hv⟩ := hmap 0 w h
    exact len_any hv
  have cl := hl w h0
  have H0 : Hid (I 0 w) := h0
  have HM := Lib.hid hmap; have HD := Lib.hid hdr; have HC := Lib.hid hcall; have HE := Lib.hid hend
  clear hl h0 hmap hdr hcall hend
  obtain ⟨n, hn⟩ : ∃ n, xs.length = n := ⟨_, rfl⟩
  have HN := Lib.hid hn
  rw [hn] at hx cl
  clear hn
  go_enter Try.func35, Try.ntmps35
  go_wp2_with (go_at_call 39; refine cl.mono ?_; rintro e w' ⟨rfl, rfl⟩)
  clear cl
  go_loopw [4, 7] (fun u4 i wr => ∃ k : Nat, k ≤ n ∧ i = .int .i64 k ∧ Hid (I k wr)) (fun _ i _ => n - (intOf i).toNat)
  case atStart => exact ⟨0, by omega, rfl, H0⟩
  case round =>
    obtain ⟨k, hk, rfl, HI⟩ := hrel
    by_cases hlt : k < n
    · obtain ⟨v, hm⟩ := HM.out k wr HI.out
      rcases hm.shape with ⟨_, rfl⟩ | ⟨g, cp, cur, rfl, hgb, hg, hc, hcm, hcs, ht⟩
      · have := HN.out; simp at this; omega
      have hb := hm.head
      rw [HN.out] at hb
      have hkk := row_cell hg ht (flat_key xs k (by rw [HN.out]; exact hlt))
      have hkv := row_cell hg ht (flat_val xs k (by rw [HN.out]; exact hlt))
      have cc := HC.out k (by rw [HN.out]; exact hlt) (wr.drewN 1) (HD.out k wr 1 HI.out)
      obtain ⟨x, hx'⟩ : ∃ x, (keys xs).getD k 0 = x := ⟨_, rfl⟩
      obtain ⟨u, hu⟩ : ∃ u, (xs.map (·.2)).getD k undef = u := ⟨_, rfl⟩
      rw [show (xs.map (·.1)).getD k 0 = x from hx'] at hkk
      rw [hu] at hkv
      rw [hx', hu] at cc
      clear hx' hu hm hg hc hcm hcs ht
      go_wp2
      go_still_tail 17, (by kernel_rfl)
      change wpList _ _ _ _ _ (wr.drewN 1)
      go_wp2_with fail
      refine cc.mono ?_
      rintro e w2 ⟨r, rfl, h1, h2⟩
      cases r with
      | true =>
        have HI2 : Hid (I (k + 1) w2) := h1 rfl
        clear h1 h2
        go_wp2
        go_roundw
        case rel => exact ⟨k + 1, by omega, by go_num, HI2⟩
        case measure => simp [intOf]; omega
      | false =>
        have HQ2 : Hid (Q w2) := h2 rfl
        clear h1 h2
        go_wp2
        exact bodyPost_ret (results_none rfl _ _ _) rfl ⟨rfl, HQ2.out⟩
    · obtain rfl : k = n := by omega
      have HQ2 : Hid (Q wr) := HE.out wr (by rw [HN.out]; exact HI.out)
      go_wp2
      go_end0
      exact ⟨rfl, HQ2.out⟩

end MapI
end Go.Proofs.Ytfmjcinhjbihoab
