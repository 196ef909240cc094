import Derived.Test.YtllohpkbnopbfaaSorRef
namespace Go.Proofs.Ytllohpkbnopbfaa
open Go.RowKit Go.Bas SorPlain Go.Sor
namespace SorRef

/-- what a call that changes the document's map leaves -/
def Left (w : World) (b : Nat) (v : Value) (ys' : List (Int × Value)) (w' : World) : Prop :=
  ∃ v', IsRef w' b v' ys' ∧ Chg (fp b v) w w' ∧ (∀ g, v'.ownBlock = some g → v.ownBlock = some g ∨ w.heap.size ≤ g)

theorem IsRef.set {w : World} {b : Nat} {ys : List (Int × Value)} {g n cap i : Nat} (h : IsRef w b (.slice (some ⟨g, 0, none⟩) n cap) ys) (hi : i < ys.length) {k : Int} (hk : (keys ys).getD i 0 = k) (u : Value) (h1 : u.oneCell' = true) :
    Left w b (.slice (some ⟨g, 0, none⟩) n cap) (ys.set i (k, u)) (w.setCell ⟨g, i * 2 + 1, none⟩ u) := by
  obtain ⟨hs, rfl⟩ | ⟨g', cap', cur, hv, hgb, hg, hc, hcm, hcs, ht⟩ := h.shape
  · simp at hi
  simp only [Value.slice.injEq, Option.some.injEq, Addr.mk.injEq, and_true] at hv
  obtain ⟨rfl, rfl, rfl⟩ := hv
  have hp : ys.set i (k, u) = ys.set i ((ys.map (·.1)).getD i 0, u) := by rw [show (ys.map (·.1)).getD i 0 = k from hk]
  refine ⟨.slice (some ⟨g, 0, none⟩) ys.length cap, ⟨?_, ⟨by rw [flat_length], .inr ⟨g, cap, cur.setIfInBounds (i * 2 + 1) u, ?_, Nat.zero_le _, ?_, ?_, hcm, by simpa using hcs, ?_⟩⟩, h.ne, ?_⟩, Chg.setCell _ _ _ (.inr rfl), fun g h => .inl h⟩
  · rw [heap_setCell_other _ _ _ _ (by simpa using fun e => hgb e.symm)]; exact h.cell
  · rw [List.length_set]
  · rw [heap_setCell_same w g _ cur RE u hg]
  · rw [List.length_set]; exact hc
  · rw [List.length_set, hp, flat_set_val ys _ hi, ← ht]
    simp [List.take_set]
  · intro p hp'
    rcases List.mem_or_eq_of_mem_set hp' with hp' | rfl
    · exact h.one p hp'
    · exact h1

set_option maxHeartbeats 400000 in
/-- Put -/
theorem put_any {w : World} {b : Nat} {v : Value} {ys xs : List (Int × Value)} (h : IsRef w b v ys) (hs : Same ys xs) (hn : ys.length ≤ 1000) (k : Int) (s : ByteArray) :
    Calls Try.prog 19 #[.pointer (some ⟨b, 0, none⟩), .int .i64 k, .string s] w fun e w' => e = .returned (.bool (!has k xs)) ∧ ∃ ys', Same ys' (put k (.string s) xs) ∧ Left w b v ys' w' := by
  obtain ⟨i0, hi0, hz0, hz1, hz2⟩ := info_parts info
  have ca := at_any h hn k
  have hb := h.head
  have hfb := h.free
  have hown := h.own
  have H := Lib.hid h
  obtain ⟨A, cap, hv, HL⟩ := h.look
  have HS := Lib.hid hs
  have HB : Hid (b < w.heap.size) := h.lt b (.inl rfl)
  clear h hs
  obtain ⟨n, hnn⟩ : ∃ n, ys.length = n := ⟨_, rfl⟩
  have HN := Lib.hid hnn
  have HV := Lib.hid hv
  rw [hv] at hb
  rw [hnn] at hb hn hown
  clear hnn hv
  go_enter Try.func19, Try.ntmps19
  go_wp2_with fail
  go_at_call 34
  refine ca.mono ?_
  clear ca
  rintro e w' ⟨r, rfl, hf, rfl⟩
  rcases hf with ⟨i, rfl, hi, hk⟩ | ⟨rfl, hm⟩
  · have hl := HS.out.hit hi hk
    obtain ⟨g, hA, hc1, hc2⟩ := HL.out i hi
    have H2 : IsRef w b (.slice (some ⟨g, 0, none⟩) ys.length cap) ys := by rw [← hA, ← HV.out]; exact H.out
    have hfg : w.frozen? ⟨g, i * 2 + 1, none⟩ = false := by
      rcases H2.shape with ⟨e, _⟩ | ⟨g', cap', cur, e, _, hg, _⟩
      · injection e with e; cases e
      · injection e with e1 e2 e3
        injection e1 with e1; injection e1 with e1
        subst e1
        exact row_free hg _
    have fin : Hid (∃ ys', Same ys' (put k (.string s) xs) ∧ Left w b v ys' (w.setCell ⟨g, i * 2 + 1, none⟩ (.string s))) :=
      ⟨_, HS.out.set hi hk (.string s), by rw [HV.out, hA]; exact H2.set hi hk (.string s) rfl⟩
    have hh : Hid (has k xs = true) := by unfold Hid; rw [has_iff HS.out.2.1, hl]; rfl
    rw [HN.out] at hi
    rw [hA] at hb
    clear hl hk H2 hown
    go_wp2
    go_ret
    exact ⟨by rw [hh.out]; rfl, fin.out⟩
  · have hl := HS.out.miss hm
    have hh : Hid (has k xs = false) := by unfold Hid; rw [has_iff HS.out.2.1, hl]; rfl
    have hadd : Hid (Same (ys ++ [(k, .string s)]) (put k (.string s) xs)) := HS.out.add hm (.string s)
    clear hl hm
    go_wp2_with (at_builtin; refine wpList_append_any rfl _ _ 40 rfl 0 61 i0 (.agg #[.int .i64 0, .string { data := #[] }]) 2 24 Try.underlying40 hi0 hz0 hz1 hz2 rfl (by decide) (.slice A n cap) n (flat ys) rfl ?c0 (some ⟨w.heap.size, 0, none⟩) 1 1 [.int .i64 k, .string s] rfl rfl ?c1 ?c2 ?c3 ?c4 ?c5 ?c6)
    case c0 => rw [HV.out, HN.out] at hown; exact hown.alloc _
    case c1 => exact fun _ => ⟨_, rfl, new_cells _ _ _⟩
    case c2 => simp [Value.oneCell']
    case c3 => unfold maxLen; omega
    case c4 => omega
    case c5 => exact Nat.zero_le _
    case c6 =>
    intro v1 w1 hown1 hg1 hb1
    have hvb : v.ownBlock = (Value.slice A n cap).ownBlock := by rw [HV.out, HN.out]
    have hk1 : w1.heap[b]? = some (.cells #[v] RM (0, 0)) := by
      rw [hg1.block b (by have := HB.out; simp; omega) (fun e => H.out.ne (by rw [hvb, ← e]))]
      rw [Below.heap_alloc _ _ _ HB.out]
      exact H.out.cell
    have hb2 : w1.cell? ⟨b, 0, none⟩ = some v := by simp [World.cell?, hk1]
    have hf2 : w1.frozen? ⟨b, 0, none⟩ = false := by simp [World.frozen?, hk1]
    have hne : v1.ownBlock ≠ some b := by
      rcases hb1 with e | e
      · rw [e, ← hvb]; exact H.out.ne
      · rw [e]
        intro e2
        injection e2 with e2
        have h3 : w.heap.size + 1 = b := by simpa using e2
        have := HB.out
        omega
    have fin : Hid (∃ ys', Same ys' (put k (.string s) xs) ∧ Left w b v ys' (w1.setCell ⟨b, 0, none⟩ v1)) := by
      refine ⟨_, hadd.out, v1, ⟨?_, ?_, hne, ?_⟩, ?_, ?_⟩
      · rw [heap_setCell_same _ _ _ _ _ _ hk1]; rfl
      · have := ownsRow_setCell_other hown1 (a := ⟨b, 0, none⟩) hne v1
        rw [show (ys ++ [(k, Value.string s)]).length = n + 1 by rw [List.length_append, HN.out]; rfl, flat_append]
        exact this
      · intro p hp
        rcases List.mem_append.1 hp with hp | hp
        · exact H.out.one p hp
        · simp at hp; rw [hp]; rfl
      · refine Chg.trans ((Chg.alloc _ _ _).trans (Chg.grown hg1 fun k hk => .inr ?_)) (Chg.setCell _ _ _ (.inl rfl))
        rw [hvb]; exact hk.symm
      · intro g hg
        rcases hb1 with e | e
        · rw [e, ← hvb] at hg; exact .inl hg
        · rw [e] at hg; injection hg with hg
          exact .inr (by rw [← hg]; simp)
    obtain ⟨A1, c1, hv1⟩ := own_slice hown1
    rw [hv1] at fin ⊢
    clear hown1 hg1 hb1 hk1 hne hv1 hown hb hfb
    go_wp2
    go_ret
    exact ⟨by rw [hh.out]; rfl, fin.out⟩

theorem erase_hit {α : Type} (ys : List α) {j : Nat} (hj : j < ys.length) : (ys.take (j + 1)).eraseIdx j = (ys.take j).eraseIdx j := by
  have h1 : (ys.take j).length = j := by simp; omega
  rw [List.take_succ_eq_append_getElem hj, List.eraseIdx_append_of_length_le (by omega), h1, Nat.sub_self, List.eraseIdx_of_length_le (l := ys.take j) (by omega)]
  simp
theorem erase_other {α : Type} (ys : List α) {j i : Nat} (hj : j < ys.length) (hne : j ≠ i) : (ys.take (j + 1)).eraseIdx i = (ys.take j).eraseIdx i ++ [ys[j]] := by
  rw [List.take_succ_eq_append_getElem hj]
  by_cases h : i < j
  · rw [List.eraseIdx_append_of_lt_length (by simp; omega)]
  · rw [List.eraseIdx_of_length_le (by simp; omega), List.eraseIdx_of_length_le (by simp; omega)]

set_option maxRecDepth 100000 in
set_option maxHeartbeats 1000000 in
/-- Cut -/
theorem cut_any {w : World} {b : Nat} {v : Value} {ys xs : List (Int × Value)} (h : IsRef w b v ys) (hs : Same ys xs) (hn : ys.length ≤ 1000) (k : Int) :
    Calls Try.prog 20 #[.pointer (some ⟨b, 0, none⟩), .int .i64 k] w fun e w' => e = .returned (.bool (has k xs)) ∧ ∃ ys', Same ys' (cut k xs) ∧ Left w b v ys' w' := by
  obtain ⟨i0, hi0, hz0, hz1, hz2⟩ := info_parts info
  have ca := at_any h hn k
  have hb := h.head
  have H := Lib.hid h
  obtain ⟨A, cap, hv, HL⟩ := h.look
  have HS := Lib.hid hs
  have HB : Hid (b < w.heap.size) := h.lt b (.inl rfl)
  have hbel : ∀ (wr : World), Below w.heap.size w wr → wr.cell? ⟨b, 0, none⟩ = some v := fun wr hb => by rw [hb.cell (by exact HB.out)]; exact H.out.head
  have HBEL := Lib.hid hbel
  clear h hs hbel
  obtain ⟨n, hnn⟩ : ∃ n, ys.length = n := ⟨_, rfl⟩
  have HN := Lib.hid hnn
  have HV := Lib.hid hv
  rw [hv] at hb
  rw [hnn] at hb hn
  clear hnn hv
  go_enter Try.func20, Try.ntmps20
  go_wp2_with fail
  go_at_call 34
  refine ca.mono ?_
  clear ca
  rintro e w' ⟨r, rfl, hf, rfl⟩
  rcases hf with ⟨i, rfl, hi, hk⟩ | ⟨rfl, hm⟩
  · have hl := HS.out.hit hi hk
    have hh : Hid (has k xs = true) := by unfold Hid; rw [has_iff HS.out.2.1, hl]; rfl
    have herase : Hid (Same (ys.eraseIdx i) (cut k xs)) := HS.out.erase hi hk
    have HI := Lib.hid hi
    rw [HN.out] at hi
    clear hl hk
    go_wp2
    go_loopw [6, 7] (fun l i' wr => ∃ j : Nat, ∃ A1 c1, j ≤ n ∧ i' = .int .i64 j ∧ l = .slice A1 ((ys.take j).eraseIdx i).length c1 ∧ Hid (wr.ownsRow w.heap.size RE 2 (.slice A1 ((ys.take j).eraseIdx i).length c1) ((ys.take j).eraseIdx i).length (flat ((ys.take j).eraseIdx i))) ∧ Hid (Below w.heap.size w wr)) (fun _ i' _ => n - (intOf i').toNat)
    case atStart => exact ⟨0, none, 0, by omega, rfl, rfl, World.ownsRow_nil _ _ _ _, Below.refl _ _⟩
    case round =>
      obtain ⟨j, A1, c1, hj, rfl, rfl, HO, HBL⟩ := hrel
      have hbw := HBEL.out wr HBL.out
      rw [HV.out, HN.out] at hbw
      by_cases hlt : j < n
      · have hjl : j < ys.length := by rw [HN.out]; exact hlt
        by_cases hji : j = i
        · subst hji
          have he := erase_hit ys hjl
          have HE := Lib.hid he
          clear he
          go_wp2
          go_roundw
          case rel => exact ⟨j + 1, A1, c1, by omega, by go_num, by rw [HE.out], by unfold Hid; rw [HE.out]; exact HO.out, HBL⟩
          case measure => simp [intOf]; omega
        · have he := erase_other ys hjl hji
          have HE := Lib.hid he
          obtain ⟨g, hA, hc1, hc2⟩ := HL.out j hjl
          have hgl : g < w.heap.size := World.block_lt_of_cell? w _ hc1
          have hc1 : wr.cell? ⟨g, j * 2, none⟩ = some (.int .i64 (ys[j]).1) := by rw [HBL.out.cell (by exact hgl)]; exact hc1
          have hc2 : wr.cell? ⟨g, j * 2 + 1, none⟩ = some (ys[j]).2 := by rw [HBL.out.cell (by exact hgl)]; exact hc2
          have hone : (ys[j]).2.oneCell' = true := H.out.one _ (List.getElem_mem hjl)
          obtain ⟨x, hx⟩ : ∃ x, (ys[j]).1 = x := ⟨_, rfl⟩
          obtain ⟨u, hu⟩ : ∃ u, (ys[j]).2 = u := ⟨_, rfl⟩
          rw [hx] at hc1; rw [hu] at hc2 hone
          have hflat : Hid (flat ((ys.take (j + 1)).eraseIdx i) = flat ((ys.take j).eraseIdx i) ++ [.int .i64 x, u]) := by
            unfold Hid; rw [he, flat_append, ← hx, ← hu]; rfl
          have hlen : Hid (((ys.take (j + 1)).eraseIdx i).length = ((ys.take j).eraseIdx i).length + 1) := by
            unfold Hid; rw [he]; simp
          have hle : ((ys.take j).eraseIdx i).length ≤ n := by
            have := List.length_eraseIdx_le (ys.take j) i
            simp at this; omega
          obtain ⟨q, hq⟩ : ∃ q, ((ys.take j).eraseIdx i).length = q := ⟨_, rfl⟩
          rw [hq] at hle hlen HO ⊢
          rw [hA] at hbw
          have HA := Lib.hid hA
          have HONE := Lib.hid hone
          have hsz : w.heap.size ≤ wr.heap.size := HBL.out.size
          clear he hx hu hA hq hone
          go_wp2_with (at_builtin; refine wpList_append_any rfl _ _ 40 rfl w.heap.size 61 i0 (.agg #[.int .i64 0, .string { data := #[] }]) 2 24 Try.underlying40 hi0 hz0 hz1 hz2 rfl (by decide) (.slice A1 q c1) q (flat ((ys.take j).eraseIdx i)) rfl ?c0 (some ⟨wr.heap.size, 0, none⟩) 1 1 [.int .i64 x, u] rfl rfl ?c1 ?c2 ?c3 ?c4 ?c5 ?c6)
          case c0 => exact HO.out.alloc _
          case c1 => exact fun _ => ⟨_, rfl, new_cells _ _ _⟩
          case c2 => intro z hz; simp at hz; rcases hz with rfl | rfl; · rfl
                     · exact HONE.out
          case c3 => unfold maxLen; omega
          case c4 => omega
          case c5 => simp; omega
          case c6 =>
          intro v2 w2 hown2 hg2 hb2
          have fin1 : Hid (w2.ownsRow w.heap.size RE 2 v2 ((ys.take (j + 1)).eraseIdx i).length (flat ((ys.take (j + 1)).eraseIdx i))) := by
            unfold Hid; rw [hlen.out, hflat.out]; exact hown2
          have fin2 : Hid (Below w.heap.size w w2) := by
            refine (HBL.out.alloc hsz _).grown hg2 (by simp; omega) (fun k hk => ?_)
            exact (HO.out.lt k hk).1
          obtain ⟨A2, c2, hv2⟩ := own_slice fin1.out
          rw [hv2] at fin1 ⊢
          clear hown2 hg2 hb2 hv2
          go_wp2
          go_roundw
          case rel => exact ⟨j + 1, A2, c2, by omega, by go_num, rfl, fin1, fin2⟩
          case measure => simp [intOf]; omega
      · obtain rfl : n = j := by omega
        have htk : ys.take n = ys := List.take_of_length_le (by rw [HN.out]; exact Nat.le_refl _)
        rw [htk] at HO ⊢
        have hfb : wr.frozen? ⟨b, 0, none⟩ = false := by rw [HBL.out.frozen (by exact HB.out)]; exact H.out.free
        have hkb : wr.heap[b]? = some (.cells #[v] RM (0, 0)) := (HBL.out.block b HB.out).trans H.out.cell
        have hne : (Value.slice A1 (ys.eraseIdx i).length c1).ownBlock ≠ some b := by
          intro e
          have := (HO.out.lt _ e).1
          have := HB.out
          omega
        have fin : Hid (∃ ys', Same ys' (cut k xs) ∧ Left w b v ys' (wr.setCell ⟨b, 0, none⟩ (.slice A1 (ys.eraseIdx i).length c1))) := by
          refine ⟨_, herase.out, _, ⟨?_, ?_, hne, ?_⟩, ?_, ?_⟩
          · rw [heap_setCell_same _ _ _ _ _ _ hkb]; rfl
          · have := ownsRow_setCell_other HO.out (a := ⟨b, 0, none⟩) hne (.slice A1 (ys.eraseIdx i).length c1)
            obtain ⟨h1, h2⟩ := this
            refine ⟨h1, ?_⟩
            rcases h2 with h2 | ⟨g, cap, cur, e, _, r⟩
            · exact .inl h2
            · exact .inr ⟨g, cap, cur, e, Nat.zero_le _, r⟩
          · exact fun p hp => H.out.one p (List.mem_of_mem_eraseIdx hp)
          · refine Chg.trans ((Chg.of_below HBL.out).mono fun k hk hk2 => absurd hk (by omega)) (Chg.setCell _ _ _ (.inl rfl))
          · exact fun g hg => .inr (HO.out.lt g hg).1
        clear htk hkb hne
        go_wp2
        go_ret
        exact ⟨by rw [hh.out]; rfl, fin.out⟩
  · have hl := HS.out.miss hm
    have hh : Hid (has k xs = false) := by unfold Hid; rw [has_iff HS.out.2.1, hl]; rfl
    have fin : Hid (∃ ys', Same ys' (cut k xs) ∧ Left w b v ys' w) := ⟨ys, by rw [cut_of_none HS.out.2.1 hl]; exact HS.out, v, H.out, Chg.refl _ _, fun g h => .inl h⟩
    clear hl hm
    go_wp2
    go_ret
    exact ⟨by rw [hh.out]; rfl, fin.out⟩

end SorRef
end Go.Proofs.Ytllohpkbnopbfaa
