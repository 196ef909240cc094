import Derived.Test.YtfmjcinhjbihoaaDoPlain
import Derived.StillTailTactics
/- the document's Do -/
namespace Go.Proofs.Ytfmjcinhjbihoaa
open Go.RowKit Go.Bas SorPlain Go.Sor IMap_ VIn VPlain MapI
namespace View

set_option maxRecDepth 100000 in
set_option maxHeartbeats 8000000 in
theorem refdo_any {w : World} {sw sl : Value} {words : List Int} {l : List Ins} (h : Words w w.heap.size sw words) (hwn : words.length ≤ 300) (hs : VIn.Steps w w.heap.size sl l) (hl : l.length ≤ 300) :
    Calls Try.prog 20 #[sw, sl] w fun e w' => DoTold w.heap.size words (play (fW words) l false 0 [] []) e w' ∧ Below w.heap.size w w' := by
  obtain ⟨A1, c1, rfl, m1, _⟩ := id h
  obtain ⟨A2, c2, rfl, m2, _⟩ := id hs
  obtain ⟨n, hn⟩ : ∃ n, words.length = n := ⟨_, rfl⟩
  obtain ⟨n2, hn2⟩ : ∃ n, l.length = n := ⟨_, rfl⟩
  have HN := Lib.hid hn; have HN2 := Lib.hid hn2
  obtain ⟨g, hg⟩ : ∃ g, w.heap.size = g := ⟨_, rfl⟩
  have m1 : n ≤ 9223372036854775807 := by have := m1; unfold maxLen at this; omega
  have m2 : n2 ≤ 9223372036854775807 := by have := m2; unfold maxLen at this; omega
  have PA := play_asked words l false 0 []
  have PG : Hid (∀ K, Good words K → (play (first K) l false 0 [] []).1 = (match (play (fW words) l false 0 [] []).2.find? (fun a => !decide (a ∈ keys K)) with | some a => .inl a | none => (play (fW words) l false 0 [] []).1)) := fun K hK => play_good hK l false 0 []
  have hps : ∀ m, (play (fW words) l false 0 [] []).1 = .inr m → m.length ≤ n2 ∧ ∀ p ∈ m, 0 ≤ p.1 := fun m hm => by
    refine ⟨by have := (play_end (fW words) l false 0 [] []).2 m hm; simp at this; omega, ?_⟩
    exact play_pos (fW words) l false 0 [] [] ⟨by simp [Rising, keys], by simp⟩ m hm
  obtain ⟨R, hR⟩ : ∃ R, play (fW words) l false 0 [] [] = R := ⟨_, rfl⟩
  rw [hR] at PA PG hps ⊢
  obtain ⟨o, qs⟩ := R
  have PA1 : Hid (∀ a ∈ qs, 0 ≤ a ∧ a < words.length) := PA.1
  have PA2 : Hid (∀ a, o = .inl a → (words.length : Int) ≤ a) := PA.2
  have PG : Hid (∀ K, Good words K → (play (first K) l false 0 [] []).1 = (match qs.find? (fun a => !decide (a ∈ keys K)) with | some a => .inl a | none => o)) := PG
  have hps : Hid (∀ m, o = .inr m → m.length ≤ n2 ∧ ∀ p ∈ m, 0 ≤ p.1) := hps
  have RB : Hid (∀ w' K v, Below g w w' → Told w' g K v → Calls Try.prog 11 #[v, .slice A2 n2 c2] w' fun e w'' => RunSaid w'.heap.size (play (first K) l false 0 [] []).1 e w'' ∧ Below w'.heap.size w' w'') := fun w' K v hb ht => by
    have hh := (hg ▸ hs).below hb
    rw [hn2] at hh
    exact refrun_any ht.pairs (hh.mono (by have := hb.size; omega)) (by omega)
  rw [hg] at h ⊢
  rw [hn] at h hwn ⊢
  rw [hn2]
  have HW : Hid (∀ w', Below g w w' → Words w' g (.slice A1 n c1) words) := fun w' hb => h.below hb
  have T0 : Hid (Told w g [] (.slice none 0 0)) := ⟨none, 0, rfl, by simpa [vals, flat] using World.ownsRow_nil _ _ _ _⟩
  rw [hn2] at hl
  clear h hs PA hR hn hn2
  go_enter Try.func20, Try.ntmps20
  go_wp2
  go_loopw [8, 7, 9, 10, 11, 12] (fun u8 u7 u9 u10 u11 u12 wr => ∃ (k : Nat) (K : M), K.length = k ∧ u8 = .int .i64 k ∧ Hid (Told wr g K u7) ∧ Hid (Part words qs K) ∧ Hid (Below g w wr)) (fun u8 _ _ _ _ _ _ => n + 1 - (intOf u8).toNat)
  case atStart => exact ⟨0, [], rfl, rfl, T0, Part.zero _ _, Below.refl _ _⟩
  case round =>
    clear T0
    obtain ⟨k, K, hKl, rfl, HT, HP, HB⟩ := hrel
    obtain ⟨hgood, hlen⟩ := HP.out.good PA1.out
    rw [HN.out] at hlen
    have hkn : k ≤ n := by omega
    have hstep := HP.out.step
    have hpg := PG.out K hgood
    have RK := RB.out wr K u7 HB.out HT.out
    have hgq : g ≤ wr.heap.size := by have := HB.out.size; omega
    rcases hstep with ⟨hf, hKn⟩ | ⟨a, haq, hak, hf, hP2⟩
    · rw [hf] at hpg
      have hpg : (play (first K) l false 0 [] []).1 = o := hpg
      rw [hpg] at RK
      have RK := Lib.hid RK
      have HKN := Lib.hid hKn
      clear hf hpg hgood hlen hKn
      cases o with
      | inl a =>
        have ha : (n : Int) ≤ a := by have := PA2.out a rfl; rw [HN.out] at this; exact this
        go_upto_region 6 with (first
          | (go_at_call 11; refine RK.out.mono ?_; rintro e w2 ⟨⟨_, _, q1, _⟩ | ⟨a', q1, rfl⟩, q3⟩
             · cases q1
             obtain rfl : a = a' := by simpa using q1))
        have fin : Hid (DoTold g words (.inl a, qs) (.returned (.tuple #[.slice none 0 0, .slice none 0 0, .int .i64 3])) w2 ∧ Below g w w2) :=
          ⟨.inl ⟨.inl ⟨a, rfl⟩, rfl⟩, HB.out.trans (q3.mono hgq)⟩
        clear q1 q3 RK
        go_wp2
        go_ret3
        exact fin.out
      | inr m =>
        have hmm := hps.out m rfl
        go_upto_region 10 with (first
          | (go_at_call 11; refine RK.out.mono ?_; rintro e w4 ⟨⟨m', r, q1, rfl, q2⟩ | ⟨_, q1, _⟩, q3⟩
             rotate_left
             · cases q1
             obtain rfl : m = m' := by simpa using q1))
        have B4 : Hid (Below g w w4) := HB.out.trans (q3.mono hgq)
        obtain ⟨q, hq⟩ : ∃ q, w4.heap.size = q := ⟨_, rfl⟩
        have TP := Lib.hid q2.pairs
        obtain ⟨Ar, cr, rfl, mr, _⟩ := id q2.pairs
        obtain ⟨nm, hnm⟩ : ∃ k, m.length = k := ⟨_, rfl⟩
        have HNM := Lib.hid hnm
        have HM0 : Hid (∀ p ∈ m, 0 ≤ p.1) := hmm.2
        have hm1 : nm ≤ 1000 := by rw [← hnm]; omega
        have hgq2 : g ≤ q := by have := B4.out.size; omega
        have T4 : Hid (Told w4 g K u7) := HT.out.kept (fun j hj => q3.block j (HT.out.own_lt hj))
        have HNQ : Hid (∀ w', Below q w4 w' → Told w' g (need words qs) u7) := fun w' hb => by rw [← HKN.out]; exact T4.out.kept (fun j hj => hb.block j (by have := T4.out.own_lt hj; omega))
        have HW4 : Hid (Words w4 g (.slice A1 n c1) words) := HW.out _ B4.out
        rw [hq, hnm] at TP
        rw [hnm]
        clear q1 q2 q3 hnm RK HT HP HB hmm
        obtain ⟨w5, hw5⟩ : ∃ w5, w4.alloc (.cells #[] 3) = w5 := ⟨_, rfl⟩
        have T5 : Hid (TW w5 q [] (.slice (some ⟨q, 0, none⟩) 0 0)) := by have := TW.made w4; rw [hw5, hq] at this; exact this
        have s5 : w5.heap.size = q + 1 := by rw [← hw5, ← hq]; simp
        have B5 : Hid (Below q w4 w5) := by rw [← hw5, Hid, ← hq]; exact (Below.refl _ _).alloc (Nat.le_refl _) _
        go_upto_region 11 with (first
          | (at_builtin; refine wpList_addwords rfl _ _ rfl q [] (.slice (some ⟨q, 0, none⟩) 0 0) rfl T5.out (by simp) (by omega) g words _ _ _ rfl (HW4.out.below (B5.out.mono (by omega))) (by omega) ?_; intro v6 w6 t6 g6 o6
             have T6 : Hid (TW w6 q words v6) := t6
             have B6 : Hid (Below q w4 w6) := B5.out.trans ((Chg.grown (S := fun k => q ≤ k) g6 (fun k hk => by simp [Value.ownBlock] at hk; omega)).below (by omega) (fun k hk => hk))
             clear t6 g6 o6))
        obtain ⟨A6, c6, rfl, _⟩ := id T6.out
        rw [HN.out] at T6 ⊢
        have T6 : Hid (TW w6 q (putW words (m.take 0)) (.slice A6 n c6)) := T6
        clear hw5 T5 s5 B5
        go_wp2
        go_loopw [12] (fun u12 wr => ∃ k : Nat, k ≤ nm ∧ u12 = .int .i64 k ∧ Hid (TW wr q (putW words (m.take k)) (.slice A6 n c6)) ∧ Hid (Below q w4 wr) ∧ Hid (∀ p ∈ m.take k, p.1 < words.length)) (fun u12 _ => nm - (intOf u12).toNat)
        case atStart => exact ⟨0, by omega, rfl, T6, B6, fun p hp => by simp at hp⟩
        case round =>
          clear T6 B6
          obtain ⟨k, hk, rfl, HT, HB, HL⟩ := hrel
          by_cases hlt : k < nm
          · have hlen : k < m.length := by rw [HNM.out]; exact hlt
            obtain ⟨b, off, rfl, hbq, row⟩ := (pair_row (TP.out.below HB.out)).2 k hlen
            have hp0 := HM0.out _ (List.getElem_mem hlen)
            have hput := putW_next hlen words
            have hmem : m[k] ∈ m := List.getElem_mem hlen
            have htk : m.take (k + 1) = m.take k ++ [m[k]] := List.take_succ_eq_append_getElem hlen
            obtain ⟨⟨x, y⟩, hxy⟩ : ∃ p, m[k] = p := ⟨_, rfl⟩
            rw [hxy] at row hp0 hput hmem htk
            have HTK := Lib.hid htk
            have hp0 : 0 ≤ x := hp0
            have k0 : wr.cell? ⟨b, off + k * 2, none⟩ = some (.int .i64 x) := row 0 _ rfl
            have k1 : wr.cell? ⟨b, off + k * 2 + 1, none⟩ = some (.int .i64 y) := row 1 _ rfl
            have HPUT : Hid (putW words (m.take (k + 1)) = (putW words (m.take k)).set x.toNat y) := hput
            have HMEM := Lib.hid hmem
            clear row hput hmem hxy hlen htk
            by_cases hxn : x < n
            · obtain ⟨ai, rfl⟩ : ∃ ai : Nat, x = ai := ⟨x.toNat, by omega⟩
              obtain ⟨A6', c6', e6, hown⟩ := id HT.out
              have hln : (putW words (m.take k)).length = n := by rw [putW_length, HN.out]
              rw [hln] at e6 hown
              simp only [Value.slice.injEq, true_and] at e6
              obtain ⟨rfl, rfl⟩ := e6
              have hA : ∃ g6, A6 = some ⟨g6, 0, none⟩ ∧ q ≤ g6 := by
                rcases hown.2 with ⟨h', _⟩ | ⟨g6, _, _, h', hq', _⟩
                · simp at h'; omega
                · simp at h'; exact ⟨g6, h'.1, hq'⟩
              obtain ⟨g6, rfl, hg6⟩ := hA
              have HO := Lib.hid hown
              have hnl : ai < (putW words (m.take k)).length := by omega
              have k6 : wr.drew.cell? ⟨g6, ai, none⟩ = some (.int .i64 ((putW words (m.take k)).getD ai 0)) := by
                show wr.cell? _ = _
                rw [hown.cellAt ai (by omega)]
                simp [hnl]
              have f6 : wr.drew.frozen? ⟨g6, ai, none⟩ = false := hown.frozenAt ai
              have d0 : wr.drew.cell? ⟨b, off + k * 2, none⟩ = some (.int .i64 ai) := k0
              have d1 : wr.drew.cell? ⟨b, off + k * 2 + 1, none⟩ = some (.int .i64 y) := k1
              have hai0 : (0 : Int) ≤ (ai : Int) := by omega
              have hai1 : (ai : Int) < (n : Int) := by omega
              obtain ⟨z, hz⟩ : ∃ z, (putW words (m.take k)).getD ai 0 = z := ⟨_, rfl⟩
              rw [hz] at k6
              have fin : Hid (∀ w9, w9 = wr.drew.setCell ⟨g6, ai, none⟩ (.int .i64 y) → TW w9 q (putW words (m.take (k + 1))) (.slice (some ⟨g6, 0, none⟩) n c6) ∧ Below q w4 w9) := by
                rintro w9 rfl
                obtain ⟨h1, h2⟩ := World.ownsRow.stored (w := wr.drew) HO.out ai (.int .i64 y)
                refine ⟨⟨some ⟨g6, 0, none⟩, c6, by rw [HPUT.out]; simp [hln], ?_⟩, (HB.out.trans ((Below.refl _ _).drew)).trans ((Chg.setCell (S := fun j => j = g6) _ _ _ rfl).below (by have := HB.out.size; have h : wr.drew.heap.size = wr.heap.size := rfl; omega) (fun j hj => by omega))⟩
                rw [HPUT.out]
                simpa [hln, List.map_set] using h1
              have HL2 : Hid (∀ p ∈ m.take (k + 1), p.1 < words.length) := by
                rw [Hid, HTK.out]
                intro p hp
                rcases List.mem_append.1 hp with hp | hp
                · exact HL.out p hp
                · simp at hp; subst hp; rw [HN.out]; exact hxn
              clear hown hln hz HT HB HO hnl
              go_upto_region 16 with fail
              go_still_tail 12, (by kernel_rfl)
              change wpList _ _ _ _ _ wr.drew
              go_wp2
              go_roundw
              case rel => exact ⟨k + 1, by omega, by go_num, (fin.out _ rfl).1, (fin.out _ rfl).2, HL2⟩
              case measure => simp [intOf]; omega
            · have fin : Hid (DoTold g words (.inr m, qs) (.returned (.tuple #[.slice none 0 0, .slice none 0 0, .int .i64 3])) wr ∧ Below g w wr) :=
                ⟨.inl ⟨.inr ⟨m, rfl, _, HMEM.out, by rw [HN.out]; show (n : Int) ≤ x; omega⟩, rfl⟩, B4.out.trans (HB.out.mono (by omega))⟩
              clear HT HB
              go_wp2
              go_ret3
              exact fin.out
          · obtain rfl : nm = k := by omega
            have et : m.take nm = m := List.take_of_length_le (by rw [HNM.out]; exact Nat.le_refl _)
            have hall : ∀ p ∈ m, p.1 < words.length := by have := HL.out; rw [et] at this; exact this
            rw [et] at HT
            have fin : Hid (DoTold g words (.inr m, qs) (.returned (.tuple #[.slice A6 n c6, u7, .int .i64 0])) wr ∧ Below g w wr) :=
              ⟨.inr ⟨m, _, u7, rfl, hall, rfl, HT.out.low (by omega), HNQ.out _ HB.out⟩, B4.out.trans (HB.out.mono (by omega))⟩
            clear et hall HT HB
            go_wp2
            go_ret3
            exact fin.out
    · rw [hf] at hpg
      have hpg : (play (first K) l false 0 [] []).1 = .inl a := hpg
      rw [hpg] at RK
      have RK := Lib.hid RK
      have HP2 := Lib.hid hP2
      have ha := PA1.out a haq
      have hK2 : (K ++ [(a, words.getD a.toNat 0)]).length ≤ words.length := (hP2.good PA1.out).2
      clear hf hpg hgood hP2
      obtain ⟨ai, rfl⟩ : ∃ ai : Nat, a = ai := ⟨a.toNat, by omega⟩
      have hail : ai < words.length := by omega
      have hain : ai < n := by rw [← HN.out]; exact hail
      obtain ⟨x, hx⟩ : ∃ x, words[ai] = x := ⟨_, rfl⟩
      have hgx : words.getD (ai : Int).toNat 0 = x := by simp [hail, hx]
      rw [hgx] at HP2 hK2
      go_upto_region 6 with (first
        | (go_at_call 11; refine RK.out.mono ?_; rintro e w2 ⟨⟨_, _, q1, _⟩ | ⟨a', q1, rfl⟩, q3⟩
           · cases q1
           obtain rfl : (ai : Int) = a' := by simpa using q1))
      have B2 : Hid (Below g w w2) := HB.out.trans (q3.mono hgq)
      obtain ⟨b, off, rfl, hbg, hcell⟩ := word_row (HW.out _ B2.out) hail
      rw [hx] at hcell
      have T2 : Hid (Told w2 g K u7) := HT.out.kept (fun j hj => q3.block j (HT.out.own_lt hj))
      have hg2 : g ≤ w2.heap.size := by have := B2.out.size; omega
      have hKs : K.length ≤ 10000 := by omega
      clear q1 q3 RK hgx hx hail haq hak
      go_wp2_with (first
        | (refine wpList_pair1 rfl _ rfl _ _ rfl ?_)
        | (at_builtin; refine wpList_add rfl _ _ rfl g K u7 rfl (T2.out.kept (fun j hj => alloc_heap _ _ _ (T2.out.own_lt hj))) hKs (by simp; omega) _ ai x rfl (new_row _ _ _) ?_; intro v4 w4 t4 g4
           have T4 : Hid (Told w4 g (K ++ [((ai : Int), x)]) v4) := t4
           have B4 : Hid (Below g w w4) := (B2.out.alloc hg2 _).trans ((Chg.grown (S := fun j => g ≤ j) g4 (fun j hj => T2.out.block hj)).below (by simp; omega) (fun j hj => hj))
           clear t4 g4))
      go_roundw
      case rel => exact ⟨k + 1, _, by simp; omega, by go_num, T4, HP2, B4⟩
      case measure => simp [intOf]; omega

end View
end Go.Proofs.Ytfmjcinhjbihoaa
