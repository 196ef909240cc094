import Derived.Test.YtfmjcinhjbihoaaVDoes
import Derived.StillTailTactics
/- assartlaw07.ViewAgain -/
namespace Go.Proofs.Ytfmjcinhjbihoaa
open Go.RowKit Go.Bas SorPlain Go.Sor IMap_ VIn VPlain MapI
namespace VAgain
open View VDoes

theorem aprog_any {A : View.Ask} {P : Nat → Prop} {bv bm B c : Nat} {w : World} {s : Value} {l : List Ins} (hc : w.heap[c]? = some (.cells #[s] 23 (0, 0))) (h : VWs A P bv bm true [] [] w) (hs : VIn.Steps w B s l) (hl : SIn l) (hn : l.length ≤ 1000) (hPB : ∀ k, k < B → P k) :
    Calls Try.prog 22 #[.pointer (some ⟨bv, 0, none⟩), .pointer (some ⟨c, 0, none⟩)] w fun e w' => Ran A P bv bm (play A.f l false 0 [] []) e w' ∧ Kept P w w' := by
  have k0 : w.cell? ⟨c, 0, none⟩ = some s := by rw [cell_of_row _ _ _ _ _ _ hc]; rfl
  have PL := Lib.hid (plays_any h hs hl hn hPB)
  clear h hs hl hn hPB hc
  go_enter Try.func22, Try.ntmps22
  go_wp2_with (first
    | (go_at_call 19; refine PL.out.mono ?_; rintro e w2 ⟨⟨m, q1, rfl, q2⟩ | ⟨a, m, q1, rfl, q2⟩, q3⟩))
  · go_end0
    exact ⟨.inl ⟨m, q1, rfl, q2⟩, q3⟩
  · exact ⟨rfl, .inr ⟨a, m, q1, rfl, q2⟩, q3⟩

/-- Do of a small program -/
theorem ado_play {w : World} {sw sl : Value} {words : List Int} {l : List Ins} {c : Nat} (h : Words w w.heap.size sw words) (hwi : WIn words) (hwn : words.length ≤ 1000) (hc : w.heap[c]? = some (.cells #[sl] 23 (0, 0)))
    (hs : VIn.Steps w w.heap.size sl l) (hl : SIn l) (hn : l.length ≤ 1000) :
    Calls Try.prog 17 #[sw, .func (.func 22) #[] #[.pointer (some ⟨c, 0, none⟩)]] w fun e w' => DoTold w.heap.size words (play (fW words) l false 0 [] []) e w' ∧ Below w.heap.size w w' := by
  have pe := play_end (fW words) l false 0 [] []
  have pp := play_pos (fW words) l false 0 [] [] ⟨by simp [Rising, keys], by simp⟩
  refine do_any h hwi hwn 22 #[.pointer (some ⟨c, 0, none⟩)] _
    (callFunc_run Try.func22 (by kernel_rfl) (by kernel_rfl))
    (fun A hA bv bm Q w' hQ hb hv => by
      have := aprog_any (A := A) (P := Q) (bv := bv) (bm := bm) (B := w.heap.size) (c := c) (w := w') (s := sl) (l := l) (by rw [hb.block c (Array.getElem?_eq_some_iff.1 hc).1]; exact hc) hv (hs.below hb) hl hn (fun k hk => hQ k hk)
      rw [hA] at this
      exact this)
    (fun m hm => ⟨by have := pe.2 m hm; simp at this; omega, pp m hm⟩) pe.1


theorem good_in {words : List Int} {K : M} (h : View.Good words K) (hw : WIn words) (hn : words.length ≤ 1000) : PIn K := fun p hp => by
  have h1 := h p hp
  unfold fW at h1
  split at h1
  · rename_i hc
    injection h1 with h1
    refine ⟨by unfold In64; omega, ?_⟩
    rw [← h1]; exact wordsD_in hw _
  · cases h1

set_option maxRecDepth 100000 in
set_option maxHeartbeats 16000000 in
theorem walk_in {w : World} {sw sl : Value} {words : List Int} {l : List Ins} (h : Words w w.heap.size sw words) (hk : WIn words) (hs : VIn.Steps w w.heap.size sl l) (hl : SIn l) :
    Calls Try.prog 8 #[sw, sl] w fun e w' => e = .returned (.bool true) ∧ Below w.heap.size w w' := by
  have hmf : ∀ (fn : Fn) (first cap : Array Value) (w : World), (Instr.makeFunc fn first cap).run Try.prog w = .ok (.func fn first cap) w := fun _ _ _ _ => rfl
  obtain ⟨A1, c1, rfl, m1, _⟩ := id h
  obtain ⟨A2, c2, rfl, m2, _⟩ := id hs
  obtain ⟨n1, hn1⟩ : ∃ n, words.length = n := ⟨_, rfl⟩
  obtain ⟨n2, hn2⟩ : ∃ n, l.length = n := ⟨_, rfl⟩
  obtain ⟨g, hg⟩ : ∃ g, w.heap.size = g := ⟨_, rfl⟩
  have H := Lib.hid h; have HS := Lib.hid hs; have HKI := Lib.hid hk; have HLI := Lib.hid hl
  have HN1 := Lib.hid hn1; have HN2 := Lib.hid hn2
  obtain ⟨w1, hw1⟩ : ∃ w1, w.alloc (.cells #[.slice A2 n2 c2] 23) = w1 := ⟨_, rfl⟩
  have s1 : w1.heap.size = g + 1 := by rw [← hw1, ← hg]; simp
  have b1 : Below g w w1 := by rw [← hw1, ← hg]; exact (Below.refl _ _).alloc (Nat.le_refl _) _
  have r1 : w1.heap[g]? = some (.cells #[.slice A2 n2 c2] 23 (0, 0)) := by rw [← hw1, ← hg]; exact new_row _ _ _
  have k1 : w1.cell? ⟨g, 0, none⟩ = some (.slice A2 n2 c2) := by rw [cell_of_row _ _ _ _ _ _ r1]; rfl
  rw [hg] at H HS ⊢
  rw [hn1] at H m1 ⊢
  rw [hn2] at HS m2 ⊢
  have m1 : n1 ≤ 9223372036854775807 := m1
  have m2 : n2 ≤ 9223372036854775807 := m2
  have B1 := Lib.hid b1; have R1 := Lib.hid r1
  clear h hs hk hl hn1 hn2 b1 r1
  by_cases hbig : 60 < n1 ∨ 100 < n2
  · rcases hbig with hb | hb
    · go_enter Try.func8, Try.ntmps8
      go_wp2_with (first
        | (go_at_call 9; refine (lives_any _).mono ?_; rintro e w2 ⟨rfl, hb2⟩))
      go_ret
      exact ⟨rfl, B1.out.trans (hb2.mono (by omega))⟩
    · by_cases hb1 : 60 < n1
      · go_enter Try.func8, Try.ntmps8
        go_wp2_with (first
          | (go_at_call 9; refine (lives_any _).mono ?_; rintro e w2 ⟨rfl, hb2⟩))
        go_ret
        exact ⟨rfl, B1.out.trans (hb2.mono (by omega))⟩
      · go_enter Try.func8, Try.ntmps8
        go_wp2_with (first
          | (go_at_call 9; refine (lives_any _).mono ?_; rintro e w2 ⟨rfl, hb2⟩))
        go_ret
        exact ⟨rfl, B1.out.trans (hb2.mono (by omega))⟩
  · have hb1 : ¬ 60 < n1 := fun h => hbig (.inl h)
    have hb2 : ¬ 100 < n2 := fun h => hbig (.inr h)
    clear hbig
    have DC : Hid (Calls Try.prog 17 #[.slice A1 n1 c1, .func (.func 22) #[] #[.pointer (some ⟨g, 0, none⟩)]] w1 fun e w' => DoTold w1.heap.size words (play (fW words) l false 0 [] []) e w' ∧ Below w1.heap.size w1 w') :=
      ado_play ((H.out.below B1.out).mono (by omega)) HKI.out (by rw [HN1.out]; omega) R1.out ((HS.out.below B1.out).mono (by omega)) HLI.out (by rw [HN2.out]; omega)
    have PA := play_asked words l false 0 []
    have PG : Hid (∀ K, View.Good words K → (play (first K) l false 0 [] []).1 = (match (play (fW words) l false 0 [] []).2.find? (fun a => !decide (a ∈ keys K)) with | some a => .inl a | none => (play (fW words) l false 0 [] []).1)) := fun K hK => play_good hK l false 0 []
    have hps : ∀ m, (play (fW words) l false 0 [] []).1 = .inr m → m.length ≤ n2 ∧ ∀ p ∈ m, 0 ≤ p.1 := fun m hm => by
      refine ⟨by have := (play_end (fW words) l false 0 [] []).2 m hm; simp at this; have := HN2.out; omega, ?_⟩
      exact play_pos (fW words) l false 0 [] [] ⟨by simp [Rising, keys], by simp⟩ m hm
    obtain ⟨R, hR⟩ : ∃ R, play (fW words) l false 0 [] [] = R := ⟨_, rfl⟩
    rw [hR] at PA PG hps DC
    obtain ⟨o, qs⟩ := R
    have PA1 : Hid (∀ a ∈ qs, 0 ≤ a ∧ a < words.length) := PA.1
    have PG : Hid (∀ K, View.Good words K → (play (first K) l false 0 [] []).1 = (match qs.find? (fun a => !decide (a ∈ keys K)) with | some a => .inl a | none => o)) := PG
    have hps : Hid (∀ m, o = .inr m → m.length ≤ n2 ∧ ∀ p ∈ m, 0 ≤ p.1) := hps
    have RB : Hid (∀ w' K v, Below (g + 1) w1 w' → View.Told w' (g + 1) K v → View.Good words K → K.length ≤ words.length → Calls Try.prog 10 #[v, .slice A2 n2 c2] w' fun e w'' => RunTold w'.heap.size (play (first K) l false 0 [] []).1 e w'' ∧ Below w'.heap.size w' w'') := fun w' K v hb ht hg' hkl => by
      have hh := (HS.out.below B1.out).below (hb.mono (by omega))
      refine runs_any ht.pairs (good_in hg' HKI.out (by rw [HN1.out]; omega)) (by have := HN1.out; omega) (hh.mono (by have := hb.size; omega)) HLI.out (by rw [HN2.out]; omega)
    have HW : Hid (∀ w', Below (g + 1) w1 w' → Words w' g (.slice A1 n1 c1) words) := fun w' hb => (H.out.below B1.out).below (hb.mono (by omega))
    have KG : Hid (∀ w', Below (g + 1) w1 w' → w'.cell? ⟨g, 0, none⟩ = some (.slice A2 n2 c2)) := fun w' hb => by rw [hb.cell (by simp)]; exact k1
    clear PA hR
    go_enter Try.func8, Try.ntmps8
    go_upto_region 4 with (first
      | (go_at_call 17; refine DC.out.mono ?_; rintro e w4 ⟨hd4, hb4⟩
         obtain ⟨A4, n4, c4, A5, n5, c5, rfl, hw4, hq4, ht4⟩ := told_ans hd4
         obtain ⟨x, hx⟩ : ∃ x, (ans words (o, qs)).2.2 = x := ⟨_, rfl⟩
         rw [hx] at ht4 ⊢))
    have B4 : Hid (Below (g + 1) w1 w4) := by rw [s1] at hb4; exact hb4
    have L4 : g + 1 ≤ w4.heap.size := by have := B4.out.size; omega
    cases o with
    | inl a =>
      have ea : ans words (Sum.inl a, qs) = ([], [], 3) := rfl
      rw [ea] at hw4 hq4 hx
      obtain rfl : 3 = x := hx
      obtain ⟨_, _, ew, _⟩ := hw4
      obtain ⟨_, _, eq, _⟩ := hq4
      simp only [Value.slice.injEq, List.length_nil] at ew eq
      obtain ⟨_, rfl, _⟩ := ew
      obtain ⟨_, rfl, _⟩ := eq
      clear ht4 hd4 hb4 k1
      go_wp2_with (first
        | (go_at_call 9; refine (lives_any _).mono ?_; rintro e w5 ⟨rfl, hb5⟩))
      go_ret
      exact ⟨rfl, (B1.out.trans (B4.out.mono (by omega))).trans (hb5.mono (by omega))⟩
    | inr m =>
      by_cases hin : ∀ p ∈ m, p.1 < words.length
      rotate_left
      · have ea : ans words (Sum.inr m, qs) = ([], [], 3) := if_neg hin
        rw [ea] at hw4 hq4 hx
        obtain rfl : 3 = x := hx
        obtain ⟨_, _, ew, _⟩ := hw4
        obtain ⟨_, _, eq, _⟩ := hq4
        simp only [Value.slice.injEq, List.length_nil] at ew eq
        obtain ⟨_, rfl, _⟩ := ew
        obtain ⟨_, rfl, _⟩ := eq
        clear ht4 hd4 hb4 k1 hin
        go_wp2_with (first
          | (go_at_call 9; refine (lives_any _).mono ?_; rintro e w5 ⟨rfl, hb5⟩))
        go_ret
        exact ⟨rfl, (B1.out.trans (B4.out.mono (by omega))).trans (hb5.mono (by omega))⟩
      · have ea : ans words (Sum.inr m, qs) = (putW words m, need words qs, 0) := if_pos hin
        rw [ea] at hw4 hq4 hx
        obtain rfl : 0 = x := hx
        have HIN := Lib.hid hin
        obtain ⟨q0, hq0⟩ : ∃ q, w4.heap.size = q := ⟨_, rfl⟩
        rw [hq0] at hw4 hq4 L4
        have W4 : Hid (∀ w', Below q0 w4 w' → Words w' q0 (.slice A4 n4 c4) (putW words m)) := fun w' hb => hw4.below hb
        have Q4 : Hid (∀ w', Below q0 w4 w' → Pairs w' q0 (.slice A5 n5 c5) (need words qs)) := fun w' hb => hq4.below hb
        have hmm := hps.out m rfl
        obtain ⟨nm, hnm⟩ : ∃ k, m.length = k := ⟨_, rfl⟩
        have HNM := Lib.hid hnm
        have HM0 : Hid (∀ p ∈ m, 0 ≤ p.1) := hmm.2
        have hm1 : nm ≤ 1000 := by rw [← hnm]; omega
        have T0 : Hid (View.Told w4 q0 [] (.slice none 0 0)) := ⟨none, 0, rfl, by simpa [vals, flat] using World.ownsRow_nil _ _ _ _⟩
        clear hw4 hq4 ht4 hd4 hb4 hin k1 hmm hps DC ea hnm
        go_wp2
        go_loopw [9, 8, 10, 11, 12, 13, 14] (fun u9 u8 u10 u11 u12 u13 u14 wr => ∃ (k : Nat) (K : M), K.length = k ∧ u9 = .int .i64 k ∧ Hid (View.Told wr q0 K u8) ∧ Hid (Part words qs K) ∧ Hid (Below q0 w4 wr)) (fun u9 _ _ _ _ _ _ _ => n1 + 1 - (intOf u9).toNat)
        case atStart => exact ⟨0, [], rfl, rfl, T0, Part.zero _ _, Below.refl _ _⟩
        case round =>
          clear T0
          obtain ⟨k, K, hKl, rfl, HT, HP, HB⟩ := hrel
          obtain ⟨hgood, hlen⟩ := HP.out.good PA1.out
          have B1r : Hid (Below (g + 1) w1 wr) := B4.out.trans (HB.out.mono L4)
          have RK := RB.out wr K u8 B1r.out (HT.out.low L4) hgood hlen
          rw [HN1.out] at hlen
          have hkn : k ≤ n1 := by omega
          have hstep := HP.out.step
          have hpg := PG.out K hgood
          have kg := KG.out wr B1r.out
          have hgq : q0 ≤ wr.heap.size := by have := HB.out.size; omega
          rcases hstep with ⟨hf, hKn⟩ | ⟨a, haq, hak, hf, hP2⟩
          · rw [hf] at hpg
            have hpg : (play (first K) l false 0 [] []).1 = .inr m := hpg
            rw [hpg] at RK
            have RK := Lib.hid RK
            have HKN := Lib.hid hKn
            clear hf hpg hgood hlen hKn
            go_upto_region 12 with (first
              | (go_at_call 10; refine RK.out.mono ?_; rintro e w5 ⟨⟨m', r, q1, rfl, q2, _⟩ | ⟨_, q1, _⟩, q3⟩
                 rotate_left
                 · cases q1
                 obtain rfl : m = m' := by simpa using q1))
            have B5 : Hid (Below q0 w4 w5) := HB.out.trans (q3.mono hgq)
            obtain ⟨q, hq⟩ : ∃ q, w5.heap.size = q := ⟨_, rfl⟩
            have TP := Lib.hid q2.pairs
            obtain ⟨Ar, cr, rfl, mr, _⟩ := id q2.pairs
            have hgq2 : q0 ≤ q := by have := B5.out.size; omega
            have T5 : Hid (View.Told w5 q0 K u8) := HT.out.kept (fun j hj => q3.block j (HT.out.own_lt hj))
            have HW5 : Hid (Words w5 g (.slice A1 n1 c1) words) := HW.out _ (B4.out.trans (B5.out.mono L4))
            rw [hq, HNM.out] at TP
            rw [HNM.out]
            clear q1 q2 q3 RK HT HP HB
            obtain ⟨w6, hw6⟩ : ∃ w6, w5.alloc (.cells #[] 3) = w6 := ⟨_, rfl⟩
            have T6 : Hid (TW w6 q [] (.slice (some ⟨q, 0, none⟩) 0 0)) := by have := TW.made w5; rw [hw6, hq] at this; exact this
            have s6 : w6.heap.size = q + 1 := by rw [← hw6, ← hq]; simp
            have B6 : Hid (Below q w5 w6) := by rw [← hw6, Hid, ← hq]; exact (Below.refl _ _).alloc (Nat.le_refl _) _
            go_upto_region 13 with (first
              | (at_builtin; refine wpList_addwords rfl _ _ rfl q [] (.slice (some ⟨q, 0, none⟩) 0 0) rfl T6.out (by simp) (by omega) g words _ _ _ rfl (HW5.out.below (B6.out.mono (by omega))) (by omega) ?_; intro v7 w7 t7 g7 o7
                 have T7 : Hid (TW w7 q words v7) := t7
                 have B7 : Hid (Below q w5 w7) := B6.out.trans ((Chg.grown (S := fun k => q ≤ k) g7 (fun k hk => by simp [Value.ownBlock] at hk; omega)).below (by omega) (fun k hk => hk))
                 clear t7 g7 o7))
            obtain ⟨A7, c7, rfl, _⟩ := id T7.out
            rw [HN1.out] at T7 ⊢
            have T7 : Hid (TW w7 q (putW words (m.take 0)) (.slice A7 n1 c7)) := T7
            clear hw6 T6 s6 B6
            go_wp2
            go_loopw [13] (fun u13 wr => ∃ k : Nat, k ≤ nm ∧ u13 = .int .i64 k ∧ Hid (TW wr q (putW words (m.take k)) (.slice A7 n1 c7)) ∧ Hid (Below q w5 wr)) (fun u13 _ => nm - (intOf u13).toNat)
            case atStart => exact ⟨0, by omega, rfl, T7, B7⟩
            case round =>
              clear T7 B7
              obtain ⟨k, hk, rfl, HT, HB⟩ := hrel
              by_cases hlt : k < nm
              · have hlen : k < m.length := by rw [HNM.out]; exact hlt
                obtain ⟨b, off, rfl, hbq, row⟩ := (pair_row (TP.out.below HB.out)).2 k hlen
                have hp0 := HM0.out _ (List.getElem_mem hlen)
                have hpn := HIN.out _ (List.getElem_mem hlen)
                have hput := putW_next hlen words
                obtain ⟨⟨x, y⟩, hxy⟩ : ∃ p, m[k] = p := ⟨_, rfl⟩
                rw [hxy] at row hp0 hput hpn
                have hp0 : 0 ≤ x := hp0
                have hxn : x < n1 := by rw [HN1.out] at hpn; exact hpn
                have k0 : wr.cell? ⟨b, off + k * 2, none⟩ = some (.int .i64 x) := row 0 _ rfl
                have k1 : wr.cell? ⟨b, off + k * 2 + 1, none⟩ = some (.int .i64 y) := row 1 _ rfl
                have HPUT : Hid (putW words (m.take (k + 1)) = (putW words (m.take k)).set x.toNat y) := hput
                clear row hput hxy hlen hpn
                obtain ⟨ai, rfl⟩ : ∃ ai : Nat, x = ai := ⟨x.toNat, by omega⟩
                obtain ⟨A7', c7', e7, hown⟩ := id HT.out
                have hln : (putW words (m.take k)).length = n1 := by rw [putW_length, HN1.out]
                rw [hln] at e7 hown
                simp only [Value.slice.injEq, true_and] at e7
                obtain ⟨rfl, rfl⟩ := e7
                have hA : ∃ g7, A7 = some ⟨g7, 0, none⟩ ∧ q ≤ g7 := by
                  rcases hown.2 with ⟨h', _⟩ | ⟨g7, _, _, h', hq', _⟩
                  · simp at h'; omega
                  · simp at h'; exact ⟨g7, h'.1, hq'⟩
                obtain ⟨g7, rfl, hg7⟩ := hA
                have HO := Lib.hid hown
                have hnl : ai < (putW words (m.take k)).length := by omega
                have k6 : wr.drew.cell? ⟨g7, ai, none⟩ = some (.int .i64 ((putW words (m.take k)).getD ai 0)) := by
                  show wr.cell? _ = _
                  rw [hown.cellAt ai (by omega)]
                  simp [hnl]
                have f6 : wr.drew.frozen? ⟨g7, ai, none⟩ = false := hown.frozenAt ai
                have d0 : wr.drew.cell? ⟨b, off + k * 2, none⟩ = some (.int .i64 ai) := k0
                have d1 : wr.drew.cell? ⟨b, off + k * 2 + 1, none⟩ = some (.int .i64 y) := k1
                have hai0 : (0 : Int) ≤ (ai : Int) := by omega
                have hai1 : (ai : Int) < (n1 : Int) := by omega
                obtain ⟨z, hz⟩ : ∃ z, (putW words (m.take k)).getD ai 0 = z := ⟨_, rfl⟩
                rw [hz] at k6
                have fin : Hid (∀ w9, w9 = wr.drew.setCell ⟨g7, ai, none⟩ (.int .i64 y) → TW w9 q (putW words (m.take (k + 1))) (.slice (some ⟨g7, 0, none⟩) n1 c7) ∧ Below q w5 w9) := by
                  rintro w9 rfl
                  obtain ⟨h1, h2⟩ := World.ownsRow.stored (w := wr.drew) HO.out ai (.int .i64 y)
                  refine ⟨⟨some ⟨g7, 0, none⟩, c7, by rw [HPUT.out]; simp [hln], ?_⟩, (HB.out.trans ((Below.refl _ _).drew)).trans ((Chg.setCell (S := fun j => j = g7) _ _ _ rfl).below (by have := HB.out.size; have h : wr.drew.heap.size = wr.heap.size := rfl; omega) (fun j hj => by omega))⟩
                  rw [HPUT.out]
                  simpa [hln, List.map_set] using h1
                clear hown hln hz HT HB HO hnl
                go_upto_region 18 with fail
                go_still_tail 12, (by kernel_rfl)
                change wpList _ _ _ _ _ wr.drew
                go_wp2
                go_roundw
                case rel => exact ⟨k + 1, by omega, by go_num, (fin.out _ rfl).1, (fin.out _ rfl).2⟩
                case measure => simp [intOf]; omega
              · obtain rfl : nm = k := by omega
                have et : m.take nm = m := List.take_of_length_le (by rw [HNM.out]; exact Nat.le_refl _)
                rw [et] at HT
                have B9 : Hid (Below q0 w4 wr) := B5.out.trans (HB.out.mono hgq2)
                have hs9 := HB.out.size
                have T9 : Hid (View.Told wr q0 K u8) := T5.out.kept (fun j hj => HB.out.block j (by have := T5.out.own_lt hj; omega))
                have SI := Lib.hid (fun j => ints_same ((HT.out.words).below (drewN_below _ _ j)) ((W4.out _ B9.out).below (drewN_below _ _ j)))
                have SM := Lib.hid (fun j => same_any (((T9.out.pairs).below (drewN_below _ _ j))) (((Q4.out _ B9.out).mono (by omega)).below (drewN_below _ _ j)))
                rw [HKN.out] at SM
                simp only [decide_true] at SI SM
                obtain ⟨A8, c8, rfl, _⟩ := id T9.out
                rw [hKl] at SM ⊢
                clear hKl
                have hW : Hid (Below g w wr) := (B1.out.trans (B4.out.mono (by omega))).trans (B9.out.mono (by omega))
                clear et HT HB
                go_wp2_with (first
                  | (go_at_call 21; refine (SI.out _).mono ?_; rintro e w10 ⟨rfl, j, rfl⟩)
                  | (go_at_call 12; refine (SM.out 0).mono ?_; rintro e w11 ⟨rfl, j2, rfl⟩)
                  | (go_at_call 9; refine (lives_any _).mono ?_; rintro e w12 ⟨rfl, hb12⟩))
                go_ret
                exact ⟨rfl, (hW.out.trans (drewN_below _ _ _)).trans (hb12.mono (by show g ≤ wr.heap.size; omega))⟩
          · rw [hf] at hpg
            have hpg : (play (first K) l false 0 [] []).1 = .inl a := hpg
            rw [hpg] at RK
            have RK := Lib.hid RK
            have HP2 := Lib.hid hP2
            have HAK := Lib.hid hak
            have ha := PA1.out a haq
            have hK2 : (K ++ [(a, words.getD a.toNat 0)]).length ≤ words.length := (hP2.good PA1.out).2
            clear hf hpg hgood hP2
            obtain ⟨ai, rfl⟩ : ∃ ai : Nat, a = ai := ⟨a.toNat, by omega⟩
            have hail : ai < words.length := by omega
            have hain : ai < n1 := by rw [← HN1.out]; exact hail
            obtain ⟨x, hx⟩ : ∃ x, words[ai] = x := ⟨_, rfl⟩
            have hgx : words.getD (ai : Int).toNat 0 = x := by simp [hail, hx]
            rw [hgx] at HP2 hK2
            go_upto_region 20 with (first
              | (go_at_call 10; refine RK.out.mono ?_; rintro e w2 ⟨⟨_, _, q1, _⟩ | ⟨a', q1, rfl⟩, q3⟩
                 · cases q1
                 obtain rfl : (ai : Int) = a' := by simpa using q1))
            have B2 : Hid (Below q0 w4 w2) := HB.out.trans (q3.mono hgq)
            obtain ⟨b, off, hA1, hbg, hcell⟩ := word_row (HW.out _ (B4.out.trans (B2.out.mono L4))) hail
            rw [hx] at hcell
            have T2 : Hid (View.Told w2 q0 K u8) := HT.out.kept (fun j hj => q3.block j (HT.out.own_lt hj))
            have hg2 : q0 ≤ w2.heap.size := by have := B2.out.size; omega
            have hKs : K.length ≤ 10000 := by omega
            have TP := Lib.hid T2.out.pairs
            obtain ⟨A8, c8, rfl, m8, _⟩ := id TP.out
            rw [hKl] at TP T2 m8 ⊢
            have hk9 : k ≤ 9223372036854775807 := m8
            clear q1 q3 RK hgx hx hail haq hak HT HB m8
            go_wp2
            go_loop [14] (fun u14 => ∃ j : Nat, j ≤ k ∧ u14 = .int .i64 j) (fun u14 => k - (intOf u14).toNat)
            case atStart => exact ⟨0, by omega, rfl⟩
            case round =>
              obtain ⟨j, hj, rfl⟩ := hrel
              by_cases hjk : j < k
              · have hjl : j < K.length := by omega
                obtain ⟨b8, o8, rfl, _, row⟩ := (pair_row TP.out).2 j hjl
                have hne : ¬ K[j].1 = (ai : Int) := fun e => HAK.out (e ▸ List.mem_map_of_mem (List.getElem_mem hjl))
                obtain ⟨⟨x8, y8⟩, hxy⟩ : ∃ p, K[j] = p := ⟨_, rfl⟩
                rw [hxy] at row hne
                have k0 : w2.cell? ⟨b8, o8 + j * 2, none⟩ = some (.int .i64 x8) := row 0 _ rfl
                have hne : ¬ x8 = (ai : Int) := hne
                clear row hxy hjl hcell
                go_wp2
                go_round
                case rel => exact ⟨j + 1, by omega, by go_num⟩
                case measure => simp [intOf]; omega
              · obtain rfl : k = j := by omega
                subst hA1
                have hT : Hid (∀ v, v = Value.slice A8 k c8 → View.Told w2 q0 K v) := fun v e => by rw [e]; exact T2.out
                go_wp2_with (first
                  | (refine wpList_pair1 rfl _ rfl _ _ rfl ?_)
                  | (at_builtin; refine wpList_add rfl _ _ rfl q0 K (.slice A8 k c8) rfl ((hT.out _ rfl).kept (fun j hj => alloc_heap _ _ _ ((hT.out _ rfl).own_lt hj))) hKs (by simp; omega) _ ai x rfl (new_row _ _ _) ?_; intro v4 w5 t4 g4
                     have T4 : Hid (View.Told w5 q0 (K ++ [((ai : Int), x)]) v4) := t4
                     have B5 : Hid (Below q0 w4 w5) := (B2.out.alloc hg2 _).trans ((Chg.grown (S := fun j => q0 ≤ j) g4 (fun j hj => (hT.out _ rfl).block hj)).below (by simp; omega) (fun j hj => hj))
                     clear t4 g4))
                go_roundw
                case rel => exact ⟨k + 1, _, by simp; omega, by go_num, T4, HP2, B5⟩
                case measure => simp [intOf]; omega

set_option maxRecDepth 100000 in
theorem walk {H : Type} {enc : TypeId × Value → H} {base : Nat} {spare : Nat → Bool} {held : Bool} {d0 d1 : DataW H} {p0 p1 : List MemPlace} {r : Reach} {b0 : Nat} (v0 v1 : Value) (w : World)
    (hv0 : Value.okWide Try.prog w r b0 42 v0) (t0 : DataW.Trod enc Try.prog w base spare held 42 v0 d0 p0)
    (hv1 : Value.okWide Try.prog w r b0 23 v1) (t1 : DataW.Trod enc Try.prog w base spare held 23 v1 d1 p1) :
    Calls Try.prog 8 #[v0, v1] w fun e w' => e = .returned (.bool true) ∧ Below w.heap.size w w' := by
  obtain ⟨ws, h1, h2⟩ := words_of hv0 t0
  obtain ⟨l, h3, h4⟩ := steps_of hv1 t1
  exact walk_in h1 h2 h3 h4

end VAgain
end Go.Proofs.Ytfmjcinhjbihoaa
