import Derived.Test.YtllohpkbnopbfaaSorStr2
namespace Go.Proofs.Ytllohpkbnopbfaa
open Go.RowKit Go.Bas SorPlain Go.Sor
namespace SorStr

/-- Cut of no key -/
theorem cut_none {w : World} {b : Nat} {v : Value} {xs : List (Int × Value)} (h : IsMap 56 58 w b v xs) (hn : xs.length ≤ 4611686018427387904) (k : Int) (hh : has k xs = false) :
    Calls Try.prog 18 #[.pointer (some ⟨b, 0, none⟩), .int .i64 k] w fun e w' => e = .returned (.bool false) ∧ ∃ m, w' = w.drewN m := by
  have hp := place_any h hn k
  rw [hh] at hp
  obtain ⟨i, hii⟩ : ∃ i, place k xs = i := ⟨_, rfl⟩
  rw [hii] at hp
  clear hh hii h hn
  go_enter Try.func18, Try.ntmps18
  go_wp2_with (go_at_call 33; refine hp.mono ?_; rintro e w' ⟨rfl, m, rfl⟩)
  go_ret
  exact ⟨rfl, _, rfl⟩

/-- Cut of a key -/
theorem cut_some {w : World} {b : Nat} {v : Value} {xs : List (Int × Value)} (h : IsMap 56 58 w b v xs) (hn : xs.length ≤ 4611686018427387904) (k : Int) (hh : has k xs = true) :
    Calls Try.prog 18 #[.pointer (some ⟨b, 0, none⟩), .int .i64 k] w fun e w' => e = .returned (.bool true) ∧ ∃ v', IsMap 56 58 w' b v' (cut k xs) ∧ Chg (fp b v) w w' ∧ v'.ownBlock = v.ownBlock := by
  have hp := place_any h hn k
  have hi := has_lt hh
  have H := Lib.hid h
  obtain ⟨i0, hi0, hz0, hz1, hz2⟩ := info_parts info
  obtain ⟨hs, rfl⟩ | ⟨g, cap, cur, rfl, hgb, hg, hc, hcm, hcs, ht⟩ := h.shape
  · simp at hi
  have hb := h.head
  have hfb := h.free 0
  have HGB := Lib.hid hgb
  rw [hh] at hp
  have HH := Lib.hid hh
  obtain ⟨i, hii⟩ : ∃ i, place k xs = i := ⟨_, rfl⟩
  obtain ⟨n, hnn⟩ : ∃ n, xs.length = n := ⟨_, rfl⟩
  have HI := Lib.hid hii; have HN := Lib.hid hnn
  rw [hii] at hp hi
  rw [hnn] at hi hb hn hc ht
  have HG := Lib.hid hg; have HC := Lib.hid hcs; have HT := Lib.hid ht; have HM := Lib.hid hcm
  clear hh hii hnn h hg hcs ht hcm
  have hcap : ¬ cap = i := by omega
  have hle1 : i ≤ cap := by omega
  have hle2 : i + 1 ≤ n := by omega
  have hle3 : (i : Int) + 1 ≤ (n : Int) := by omega
  have hw1 : IntKind.i64.wrap ((i : Int) + 1) = (i : Int) + 1 := IntWalk.i64_in _ (by omega)
  have hw2 : (0 : Int) ≤ (i : Int) + 1 := by omega
  have hw3 : ((i : Int) + 1).toNat = i + 1 := by omega
  obtain ⟨A, hA⟩ : ∃ A, (if cap = i + 1 then some (⟨g, 0, none⟩ : Addr) else some ⟨g, (i + 1) * 2, none⟩) = A := ⟨_, rfl⟩
  go_enter Try.func18, Try.ntmps18
  go_wp2_with (go_at_call 33; refine hp.mono ?_; rintro e w' ⟨rfl, m, rfl⟩)
  have hF : (flat (xs.drop (i + 1))).length = (n - (i + 1)) * 2 := by rw [flat_length, List.length_drop, HN.out]
  have hrun : ∀ ty, (Builtin.append_ #[54, 54] ty #[.slice (some ⟨g, 0, none⟩) i cap, .slice A (n - (i + 1)) (cap - (i + 1))]).run Try.prog (w.drewN m).drew =
      .ok (.slice (some ⟨g, 0, none⟩) (i + (n - (i + 1))) cap) ((w.drewN m).drew.setRow g (cur.toList.take (i * 2) ++ flat (xs.drop (i + 1)) ++ cur.toList.drop (i * 2 + (flat (xs.drop (i + 1))).length)).toArray) := by
    intro ty
    refine run_append_room_any (w.drewN m).drew _ _ 58 i0 2 Try.underlying54 hi0 hz1 g i cap cur (show (w.drewN m).drew.heap[g]? = _ from HG.out) _ _ _ (flat (xs.drop (i + 1))) hF ?_ ?_ (by omega) (by have := HC.out; omega)
    · intro hpos
      rw [← hA, if_neg (by omega)]
      refine ⟨_, rfl, ?_⟩
      intro j u hu
      have hadd : (⟨g, (i + 1) * 2, none⟩ : Addr).add j = ⟨g, (i + 1) * 2 + j, none⟩ := by unfold Addr.add; split <;> simp_all
      rw [hadd]
      refine row_cell (w := (w.drewN m).drew) (cur := cur) HG.out HT.out ?_
      rw [← List.getElem?_drop, flat_drop]
      exact hu
    · intro u hu
      simp only [flat, List.mem_flatMap] at hu
      obtain ⟨p, hp, hu3⟩ := hu
      simp at hu3
      rcases hu3 with rfl | rfl
      · rfl
      · exact H.out.one p (List.mem_of_mem_drop hp)
  obtain ⟨w2, hw2e⟩ : ∃ w2, w2 = (w.drewN m).drew.setRow g (cur.toList.take (i * 2) ++ flat (xs.drop (i + 1)) ++ cur.toList.drop (i * 2 + (flat (xs.drop (i + 1))).length)).toArray := ⟨_, rfl⟩
  rw [← hw2e] at hrun
  have hkb : w2.heap[b]? = some (.cells #[.slice (some ⟨g, 0, none⟩) n cap] 56 (0, 0)) := by
    rw [hw2e, setRow_other _ _ _ _ HGB.out.symm, ← HN.out]; exact H.out.cell
  have hkg : w2.heap[g]? = some (.cells (cur.toList.take (i * 2) ++ flat (xs.drop (i + 1)) ++ cur.toList.drop (i * 2 + (flat (xs.drop (i + 1))).length)).toArray 58 (0, 0)) := by
    rw [hw2e]; exact setRow_heap (w.drewN m).drew g cur _ _ _ HG.out
  have hb2 : w2.cell? ⟨b, 0, none⟩ = some (.slice (some ⟨g, 0, none⟩) n cap) := by simp [World.cell?, hkb]
  have hf2 : w2.frozen? ⟨b, 0, none⟩ = false := by simp [World.frozen?, hkb]
  have fin : Hid (IsMap 56 58 (w2.setCell ⟨b, 0, none⟩ (.slice (some ⟨g, 0, none⟩) (i + (n - (i + 1))) cap)) b (.slice (some ⟨g, 0, none⟩) (i + (n - (i + 1))) cap) (cut k xs) ∧
      Chg (fp b (.slice (some ⟨g, 0, none⟩) xs.length cap)) w (w2.setCell ⟨b, 0, none⟩ (.slice (some ⟨g, 0, none⟩) (i + (n - (i + 1))) cap)) ∧
      (Value.slice (some ⟨g, 0, none⟩) (i + (n - (i + 1))) cap).ownBlock = (Value.slice (some ⟨g, 0, none⟩) xs.length cap).ownBlock) := by
    have hcut : cut k xs = xs.eraseIdx i := by unfold cut; rw [HH.out, HI.out]; rfl
    have hlen : (cut k xs).length = i + (n - (i + 1)) := by rw [hcut, List.length_eraseIdx, if_pos (by rw [HN.out]; exact hi), HN.out]; omega
    refine ⟨⟨?_, ⟨by rw [flat_length], .inr ⟨g, cap, (cur.toList.take (i * 2) ++ flat (xs.drop (i + 1)) ++ cur.toList.drop (i * 2 + (flat (xs.drop (i + 1))).length)).toArray, by rw [hlen], Nat.zero_le _, ?_, by omega, HM.out, ?_, ?_⟩⟩, ?_, H.out.asc.cut _, ?_⟩, ?_, rfl⟩
    · rw [heap_setCell_same _ _ _ _ _ _ hkb]; rfl
    · rw [heap_setCell_other _ _ _ _ HGB.out]; exact hkg
    · have := HC.out; simp [hF]; omega
    · have h0 := cut_cells cur.toList xs i (by rw [HN.out]; exact hi) (by rw [HN.out]; exact HT.out)
      rw [hlen, hcut, ← h0, HN.out]
      congr 2; omega
    · simp [Value.ownBlock]; exact HGB.out
    · intro p hp; rw [hcut] at hp; exact H.out.one p (List.mem_of_mem_eraseIdx hp)
    · refine Chg.trans ?_ (Chg.setCell _ _ _ (.inl rfl))
      rw [hw2e]
      exact ((Chg.drewN _ w m).trans (Chg.drew _ _)).trans (Chg.setRow _ _ _ (.inr rfl))
  have HR := Lib.hid hrun
  clear hrun hF hw2e hkb hkg
  go_region_law (refine step_append_run rfl (.tmp 23) (.tmp 30) 54 rfl _ _ _ _ rfl rfl HR.out ?_)
  all_goals
    go_wp2
    go_ret
    exact ⟨rfl, _, fin.out⟩

end SorStr
end Go.Proofs.Ytllohpkbnopbfaa
