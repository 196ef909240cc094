import Derived.Test.YtfmjcinhjbihoabStkLives
import Derived.Test.YtfmjcinhjbihoabStkOver
import Derived.Test.YtfmjcinhjbihoabTW
import Derived.Test.YtfmjcinhjbihoabIntsSame
/- assartlaw12.StackApart -/
namespace Go.Proofs.Ytfmjcinhjbihoab
open Go.RowKit Go.Bas SorPlain Go.Sor IMap_ VIn VPlain MapI
namespace Stk
open View

theorem ret_int {k : IntKind} {a b : Int} (h : a = b) : Ending.returned (.int k a) = .returned (.int k b) := by rw [h]
theorem rem3 (n : Int) : ∃ r : Int, (IntKind.u64.wrap n).tmod 3 = r ∧ (r = 0 ∨ r = 1 ∨ r = 2) := by
  have h : 0 ≤ IntKind.u64.wrap n := by
    simp only [IntKind.wrap, IntKind.signed, IntKind.bits]
    simp
    omega
  refine ⟨_, rfl, ?_⟩
  rw [Int.tmod_eq_emod_of_nonneg h]
  omega
set_option maxHeartbeats 1000000 in
theorem base_any (n : Int) (w : World) : Calls Try.prog 6 #[.int .i64 n] w fun e w' => ∃ b : Int, (b = 1 ∨ b = 6 ∨ b = 11) ∧ e = .returned (.int .i64 b) ∧ w = w' := by
  go_enter Try.func6, Try.ntmps6
  go_wp2
  obtain ⟨r, hr, h3⟩ := rem3 n
  rw [hr]
  clear hr
  rcases h3 with rfl | rfl | rfl
  · go_ret
    exact ⟨1, .inl rfl, ret_int (by unfold wrap64; decide), rfl⟩
  · go_ret
    exact ⟨6, .inr (.inl rfl), ret_int (by unfold wrap64; decide), rfl⟩
  · go_ret
    exact ⟨11, .inr (.inr rfl), ret_int (by unfold wrap64; decide), rfl⟩

set_option maxRecDepth 100000 in
set_option maxHeartbeats 4000000 in
theorem apart1_does {A : View.Ask} {P Q : Nat → Prop} {bv bm ga gt : Nat} {w : World} (h : VWs A Q bv bm true [] [] w) {kind b0 x b : Int} (hx : In64 x) (hb : 1 ≤ b ∧ b ≤ 100)
    (ra : w.heap[ga]? = some (.cells #[.int .i64 kind, .int .i64 b0, .int .i64 x] 24 (0, 0))) (rt : w.heap[gt]? = some (.cells #[.int .i64 b] 3 (0, 0))) :
    Calls Try.prog 8 #[.pointer (some ⟨bv, 0, none⟩), .pointer (some ⟨ga, 0, none⟩), .pointer (some ⟨gt, 0, none⟩)] w
      (DoesL A P (fun _ => False) Q bv bm (actP kind b x) (fun _ _ => True) w) := by
  have k0 : w.cell? ⟨ga, 0, none⟩ = some (.int .i64 kind) := by rw [cell_of_row _ _ _ _ _ _ ra]; rfl
  have k2 : w.cell? ⟨ga, 2, none⟩ = some (.int .i64 x) := by rw [cell_of_row _ _ _ _ _ _ ra]; rfl
  have k3 : w.cell? ⟨gt, 0, none⟩ = some (.int .i64 b) := by rw [cell_of_row _ _ _ _ _ _ rt]; rfl
  have hL : Lies b 4 := .inr (by omega)
  by_cases hk : kind = 2
  · subst hk
    have HP : Hid (actP 2 b x = (pop b 4 >>= fun _ => pure ())) := rfl
    have PD := Lib.hid (Pop_does h (by simp) hL)
    clear h ra rt hx hb hL
    go_enter Try.func8, Try.ntmps8
    go_wp2_with (first
      | (go_at_call 9; refine PD.out.mono ?_; rintro e w2 (⟨x, m2, q2, e2, rfl, v2, k2⟩ | ⟨n, _, m2, q2, e2, rfl, ⟨rfl, i2⟩, v2, k2⟩)))
    · exact ⟨rfl, .inl ⟨x, m2, q2, by rw [HP.out]; exact Prog.run_inl e2, rfl, v2, k2.mono (fun k _ h => .inl h)⟩⟩
    · go_end0
      exact .inr ⟨(), fun _ => False, m2, q2, by rw [HP.out]; exact Prog.run_inr e2, rfl, fun _ h => h.elim, v2.less (fun k hk => hk.elim id False.elim), k2.mono (fun k _ h => .inl h), fun _ _ => trivial⟩
  · have HP : Hid (actP kind b x = (push b 4 x >>= fun _ => pure ())) := if_neg hk
    have PD := Lib.hid (Push_does h (by simp) hL x hx)
    clear h ra rt hx hb hL
    go_enter Try.func8, Try.ntmps8
    go_wp2_with (first
      | (go_at_call 10; refine PD.out.mono ?_; rintro e w2 (⟨x, m2, q2, e2, rfl, v2, k2⟩ | ⟨n, _, m2, q2, e2, rfl, rfl, v2, k2⟩)))
    · exact ⟨rfl, .inl ⟨x, m2, q2, by rw [HP.out]; exact Prog.run_inl e2, rfl, v2, k2.mono (fun k _ h => .inl h)⟩⟩
    · go_end0
      exact .inr ⟨(), fun _ => False, m2, q2, by rw [HP.out]; exact Prog.run_inr e2, rfl, fun _ h => h.elim, v2.less (fun k hk => hk.elim id False.elim), k2.mono (fun k _ h => .inl h), fun _ _ => trivial⟩

set_option maxRecDepth 100000 in
set_option maxHeartbeats 8000000 in
theorem apart_in {w : World} {sf : Value} {first : List Int} (h : Words w w.heap.size sf first) (hf : WIn first) {kind b0 x : Int} (hx : In64 x) :
    Calls Try.prog 3 #[sf, .agg #[.int .i64 kind, .int .i64 b0, .int .i64 x]] w fun e w' => e = .returned (.bool true) ∧ Below w.heap.size w w' := by
  have hmf : ∀ (fn : Fn) (first cap : Array Value) (w : World), (Instr.makeFunc fn first cap).run Try.prog w = .ok (.func fn first cap) w := fun _ _ _ _ => rfl
  obtain ⟨A1, c1, rfl, m1, _⟩ := id h
  obtain ⟨n1, hn1⟩ : ∃ n, first.length = n := ⟨_, rfl⟩
  obtain ⟨g, hg⟩ : ∃ g, w.heap.size = g := ⟨_, rfl⟩
  have HN := Lib.hid hn1; have HF := Lib.hid hf; have HX := Lib.hid hx
  rw [hg] at h ⊢
  rw [hn1] at h m1 ⊢
  have m1 : n1 ≤ 9223372036854775807 := m1
  have H := Lib.hid h
  obtain ⟨w1, hw1⟩ : ∃ w1, w.alloc (.cells #[.int .i64 kind, .int .i64 b0, .int .i64 x] 24) = w1 := ⟨_, rfl⟩
  have s1 : w1.heap.size = g + 1 := by rw [← hw1, ← hg]; simp
  have B1 : Hid (Below g w w1) := by rw [← hw1, ← hg]; exact (Below.refl _ _).alloc (Nat.le_refl _) _
  have R1 : Hid (w1.heap[g]? = some (.cells #[.int .i64 kind, .int .i64 b0, .int .i64 x] 24 (0, 0))) := by rw [← hw1, ← hg]; exact new_row _ _ _
  obtain ⟨w2, hw2⟩ : ∃ w2, w1.alloc (.cells ((List.replicate 16 (0 : Int)).map (Value.int .i64)).toArray 3) = w2 := ⟨_, rfl⟩
  have hmk : (Instr.makeSlice 22 (.int .i64 16) (.int .i64 16)).run Try.prog w1 = .ok (.slice (some ⟨w1.heap.size, 0, none⟩) 16 16) (w1.alloc (.cells ((List.replicate 16 (0 : Int)).map (Value.int .i64)).toArray 3)) := View.make_ints 16 (by omega) w1
  rw [hw2, s1] at hmk
  have T2 : Hid (TW w2 (g + 1) (List.replicate 16 0) (.slice (some ⟨g + 1, 0, none⟩) 16 16)) := by
    have r2 : w2.heap[g + 1]? = some (.cells ((List.replicate 16 (0 : Int)).map (Value.int .i64)).toArray 3 (0, 0)) := by rw [← hw2, ← s1]; exact new_row _ _ _
    exact TW.full r2 (Nat.le_refl _) (by simp [maxLen])
  have B2 : Hid (Below (g + 1) w1 w2) := by rw [← hw2, Hid, ← s1]; exact (Below.refl _ _).alloc (Nat.le_refl _) _
  have W0 : Hid (WIn (List.replicate 16 0)) := fun p hp => by
    have := List.eq_of_mem_replicate hp
    subst this; unfold In64; omega
  have HS1 := Lib.hid s1
  clear h hf hx hn1 s1
  go_enter Try.func3, Try.ntmps3
  go_wp2
  go_loopw [6] (fun u6 wr => ∃ (k : Nat) (ws : List Int), k ≤ 16 ∧ u6 = .int .i64 k ∧ Hid (ws.length = 16) ∧ Hid (WIn ws) ∧ Hid (TW wr (g + 1) ws (.slice (some ⟨g + 1, 0, none⟩) 16 16)) ∧ Hid (Below (g + 1) w1 wr)) (fun u6 _ => 16 - (intOf u6).toNat)
  case atStart => exact ⟨0, List.replicate 16 0, by omega, rfl, (show (List.replicate 16 (0 : Int)).length = 16 by simp), W0, T2, B2⟩
  case round =>
    clear T2 B2 W0 hmk hw2
    obtain ⟨k, ws, hk, rfl, HL, HW, HT, HB⟩ := hrel
    have hsz : g + 2 ≤ wr.heap.size := by have := HT.out.own_lt (k := g + 1) rfl; omega
    by_cases hlt : k < n1 ∧ k < 16
    · obtain ⟨hlt1, hlt2⟩ := hlt
      have hkl : k < first.length := by rw [HN.out]; exact hlt1
      obtain ⟨b, off, rfl, hbg, hcell⟩ := word_row ((H.out.below B1.out).below (HB.out.mono (by omega))) hkl
      obtain ⟨y, hy⟩ : ∃ y, first[k] = y := ⟨_, rfl⟩
      have HY : Hid (In64 y) := hy ▸ HF.out _ (List.getElem_mem hkl)
      rw [hy] at hcell
      have c0 : wr.cell? ⟨g + 1, k, none⟩ = some (.int .i64 (ws.getD k 0)) := HT.out.cell (by rw [HL.out]; exact hlt2)
      obtain ⟨z, hz⟩ : ∃ z, ws.getD k 0 = z := ⟨_, rfl⟩
      rw [hz] at c0
      have f0 : wr.frozen? ⟨g + 1, k, none⟩ = false := HT.out.frozen k
      have T3 : Hid (TW (wr.setCell ⟨g + 1, k, none⟩ (.int .i64 y)) (g + 1) (ws.set k y) (.slice (some ⟨g + 1, 0, none⟩) 16 16)) := HT.out.stored k y
      have L3 : Hid ((ws.set k y).length = 16) := by rw [Hid, List.length_set]; exact HL.out
      have W3 : Hid (WIn (ws.set k y)) := fun p hp => by
        rcases List.mem_or_eq_of_mem_set hp with hp | rfl
        · exact HW.out p hp
        · exact HY.out
      have B3 : Hid (Below (g + 1) w1 (wr.setCell ⟨g + 1, k, none⟩ (.int .i64 y))) := HB.out.setCell (by simp) _
      clear hy hz hkl HT HB HL HW
      go_wp2
      go_roundw
      case rel => exact ⟨k + 1, _, by omega, by go_num, L3, W3, T3, B3⟩
      case measure => simp [intOf]; omega
    · have R3 : Hid (wr.heap[g]? = some (.cells #[.int .i64 kind, .int .i64 b0, .int .i64 x] 24 (0, 0))) := by rw [Hid, HB.out.block g (by omega)]; exact R1.out
      have k1 : wr.cell? ⟨g, 1, none⟩ = some (.int .i64 b0) := by rw [cell_of_row _ _ _ _ _ _ R3.out]; rfl
      obtain ⟨q, hq⟩ : ∃ q, wr.heap.size = q := ⟨_, rfl⟩
      have hge : (k < n1 ∧ ¬ k < 16) ∨ ¬ k < n1 := by omega
      have D5 : Hid (∀ b : Nat, 1 ≤ b → b ≤ 11 → ∀ w5, w5 = wr.alloc (.cells #[.int .i64 b] 3) → Calls Try.prog 7 #[.slice (some ⟨g + 1, 0, none⟩) 16 16, .func (.func 8) #[] #[.pointer (some ⟨g, 0, none⟩), .pointer (some ⟨q, 0, none⟩)]] w5
          (ProgOut (fun _ => False) ws (actP kind b x) (fun _ _ => True) w5)) := by
        rintro b hb1 hb2 w5 rfl
        have T5 : TW (wr.alloc (.cells #[.int .i64 b] 3)) (g + 1) ws (.slice (some ⟨g + 1, 0, none⟩) 16 16) := HT.out.kept (fun j hj => alloc_heap _ _ _ (HT.out.own_lt hj))
        refine do_prog T5.words HW.out (by rw [HL.out]; omega) _ _ (actP kind b x) (actP_writes _ _ _) (by omega) (actP_within (by rw [HL.out]; omega) _ _ _) (callFunc_run Try.func8 (by kernel_rfl) (by kernel_rfl)) _ (fun _ h => h.elim) _ ?_
        intro A hAf hR bv bm Q w' hQ hbl hv
        refine apart1_does (b0 := b0) hv HX.out ⟨by omega, by omega⟩ ?_ ?_
        · rw [hbl.block g (by simp; omega), alloc_heap _ _ _ (by omega)]; exact R3.out
        · rw [hbl.block q (by simp; omega), ← hq]; exact new_row _ _ _
      have R5 : Hid (∀ b : Int, (wr.alloc (.cells #[.int .i64 b] 3)).heap[q]? = some (.cells #[.int .i64 b] 3 (0, 0))) := fun b => by rw [← hq]; exact new_row _ _ _
      have B5 : Hid (∀ b : Int, Below g w (wr.alloc (.cells #[.int .i64 b] 3))) := fun b => (B1.out.trans (HB.out.mono (by omega))).alloc (by omega) _
      have T5 : Hid (∀ b : Int, TW (wr.alloc (.cells #[.int .i64 b] 3)) (g + 1) ws (.slice (some ⟨g + 1, 0, none⟩) 16 16)) := fun b => HT.out.kept (fun j hj => alloc_heap _ _ _ (HT.out.own_lt hj))
      have hgq : g + 2 ≤ q := by omega
      clear hlt HB HT
      rcases hge with ⟨h1, h2⟩ | h1
      all_goals
        go_upto_region 7 with (first
          | (go_at_call 6; refine (base_any _ _).mono ?_; rintro e w4 ⟨b, hb, rfl, rfl⟩))
        obtain ⟨b, rfl⟩ : ∃ n : Nat, b = n := ⟨b.toNat, by omega⟩
        have hb1 : 1 ≤ b := by omega
        have hb2 : b ≤ 11 := by omega
        have D6 := Lib.hid (D5.out b hb1 hb2 _ rfl)
        have R6 := Lib.hid (R5.out b)
        have B6 := Lib.hid (B5.out b)
        have T6 := Lib.hid (T5.out b)
        obtain ⟨w5, hw5⟩ : ∃ w5, wr.alloc (.cells #[.int .i64 b] 3) = w5 := ⟨_, rfl⟩
        have s5 : w5.heap.size = q + 1 := by rw [← hw5, ← hq]; simp
        rw [hw5] at D6 R6 B6 T6 ⊢
        clear hw5 D5 R5 B5 T5 R3 k1 hq
        go_upto_region 8 with (first
          | (go_at_call 7; refine D6.out.mono ?_; rintro e w6 ⟨A6, c6, v6, nw, nd, rfl, hlen, ht, hq6, hat, hch, _⟩))
        obtain ⟨A9, c9, rfl, _⟩ := hq6
        rw [HL.out] at hlen ht hat ⊢
        rw [s5] at ht hch
        obtain ⟨q6, rfl, hq6, -, -⟩ := ht.shape (by omega)
        have hB6 : Below (q + 1) w5 w6 := hch.below (by omega) (fun k hk => hk.elim id False.elim)
        have NT0 := Lib.hid ht
        have NL0 := Lib.hid hlen
        have HAT : Hid (∀ j : Nat, j < 16 → (j < b ∨ b + 4 < j) → nw.getD j 0 = ws.getD j 0) := fun j hj hd => by
          have hd' : (j : Int) < b ∨ (b : Int) + 4 < j := by omega
          rw [hat j hj, actP_apart kind x _ hd']
          simp [fn]
        have NB0 := Lib.hid hB6
        have hs6 : q + 1 ≤ w6.heap.size := by have := hB6.size; omega
        have C6 : Hid (∀ w', Below (q + 1) w6 w' → w'.cell? ⟨q, 0, none⟩ = some (.int .i64 b) ∧ TW w' (g + 1) ws (.slice (some ⟨g + 1, 0, none⟩) 16 16) ∧ Below g w w') := fun w' hb' => by
          have hb'' : Below (q + 1) w5 w' := hB6.trans hb'
          refine ⟨?_, T6.out.kept (fun j hj => hb''.block j (by have := T6.out.own_lt hj; omega)), B6.out.trans (hb''.mono (by omega))⟩
          rw [hb''.cell (by simp), cell_of_row _ _ _ _ _ _ R6.out]; rfl
        have k6 := (C6.out w6 (Below.refl _ _)).1
        clear ht hlen hat hch hB6 D6 T6 R6 hb B6
        go_wp2
        go_loopw [11] (fun u11 wr => ∃ (i : Nat) (nw2 : List Int), b ≤ i ∧ i ≤ b + 5 ∧ u11 = .int .i64 i ∧ Hid (nw2.length = 16) ∧ Hid (TW wr (q + 1) nw2 (.slice (some ⟨q6, 0, none⟩) 16 c6)) ∧ Hid (Below (q + 1) w6 wr) ∧ Hid (∀ j : Nat, j < 16 → (j < i ∨ b + 4 < j) → nw2.getD j 0 = ws.getD j 0)) (fun u11 _ => b + 5 - (intOf u11).toNat)
        case atStart => exact ⟨b, nw, by omega, by omega, rfl, NL0, NT0, Below.refl _ _, HAT⟩
        case round =>
          clear NL0 NT0 HAT k6
          obtain ⟨i, nw2, hi1, hi2, rfl, NL, NT, NB, NA⟩ := hrel
          obtain ⟨k7, T7, B7⟩ := C6.out _ NB.out
          have HB7 := Lib.hid B7
          have HT7 := Lib.hid T7
          clear B7 T7
          by_cases hib : i ≤ b + 4
          · have i0 : wr.cell? ⟨g + 1, i, none⟩ = some (.int .i64 (ws.getD i 0)) := HT7.out.cell (by rw [HL.out]; omega)
            have i1 : wr.cell? ⟨q6, i, none⟩ = some (.int .i64 (nw2.getD i 0)) := NT.out.cell (by rw [NL.out]; omega)
            have f1 : wr.frozen? ⟨q6, i, none⟩ = false := NT.out.frozen i
            have N3 : Hid (∀ y, y = ws.getD i 0 → TW (wr.setCell ⟨q6, i, none⟩ (.int .i64 y)) (q + 1) (nw2.set i y) (.slice (some ⟨q6, 0, none⟩) 16 c6) ∧ (nw2.set i y).length = 16 ∧ Below (q + 1) w6 (wr.setCell ⟨q6, i, none⟩ (.int .i64 y)) ∧
                ∀ j : Nat, j < 16 → (j < i + 1 ∨ b + 4 < j) → (nw2.set i y).getD j 0 = ws.getD j 0) := fun y hy => by
              refine ⟨NT.out.stored i y, by rw [List.length_set]; exact NL.out, NB.out.setCell (by simp; omega) _, fun j hj hd => ?_⟩
              by_cases e : j = i
              · subst e
                have := NL.out
                rw [hy]
                simp [this, hj]
              · rw [← NA.out j hj (by omega)]
                have : (nw2.set i y)[j]? = nw2[j]? := List.getElem?_set_ne (by omega)
                simp [this]
            obtain ⟨y, hy⟩ : ∃ y, ws.getD i 0 = y := ⟨_, rfl⟩
            obtain ⟨z, hz⟩ : ∃ z, nw2.getD i 0 = z := ⟨_, rfl⟩
            rw [hy] at i0 N3
            rw [hz] at i1
            clear hy hz NL NT NB NA HB7 HT7
            go_wp2
            go_roundw
            case rel => exact ⟨i + 1, _, by omega, by omega, by go_num, (N3.out _ rfl).2.1, (N3.out _ rfl).1, (N3.out _ rfl).2.2.1, (N3.out _ rfl).2.2.2⟩
            case measure => simp [intOf]; omega
          · have e : nw2 = ws := by
              apply List.ext_getElem (by rw [NL.out, HL.out])
              intro j h1 h2
              have := NA.out j (by rw [NL.out] at h1; exact h1) (by omega)
              simpa [h1, h2] using this
            have SI := Lib.hid (ints_same NT.out.words HT7.out.words)
            rw [e] at SI
            simp only [decide_true] at SI
            clear NT NA e
            go_wp2_with (first
              | (go_at_call 11; refine SI.out.mono ?_; rintro e w10 ⟨rfl, j, rfl⟩)
              | (go_at_call 12; refine (lives_any _).mono ?_; rintro e w12 ⟨rfl, hb12⟩))
            go_ret
            exact ⟨rfl, (HB7.out.trans (drewN_below _ _ _)).trans (hb12.mono (by have := HB7.out.size; show g ≤ wr.heap.size; omega))⟩

set_option maxRecDepth 100000 in
theorem act_of {H : Type} {enc : TypeId × Value → H} {w : World} {base : Nat} {spare : Nat → Bool} {held : Bool} {v : Value} {d : DataW H} {p : List MemPlace} {r : Reach} {b0 : Nat}
    (hv : Value.okWide Try.prog w r b0 24 v) (h : DataW.Trod enc Try.prog w base spare held 24 v d p) : ∃ k b x : Int, v = .agg #[.int .i64 k, .int .i64 b, .int .i64 x] ∧ In64 x := by
  obtain ⟨cs, rfl, hsz, hc⟩ := open_ints_row Try.underlying24 (by kernel_rfl) Try.underlying3 (by kernel_rfl) (Go.WideShapes.okWide_struct Try.underlying24 hv) h
  have h3 : cs.size = 3 := by rw [hsz]; kernel_rfl
  obtain ⟨x0, h0, f0⟩ := hc 0 (by decide); obtain ⟨x1, h1, f1⟩ := hc 1 (by decide); obtain ⟨x2, h2, f2⟩ := hc 2 (by decide)
  refine ⟨x0, x1, x2, ?_, in64_of_wf f2⟩
  congr 1
  apply Array.ext_getElem?
  intro i
  by_cases hi : i < 3
  · match i, hi with
    | 0, _ => exact h0
    | 1, _ => exact h1
    | 2, _ => exact h2
  · rw [Array.getElem?_eq_none (by omega), Array.getElem?_eq_none (by simp; omega)]

end Stk
namespace StkApart
open Stk View
theorem walk {H : Type} {enc : TypeId × Value → H} {base : Nat} {spare : Nat → Bool} {held : Bool} {d0 d1 : DataW H} {p0 p1 : List MemPlace} {r : Reach} {b0 : Nat} (v0 v1 : Value) (w : World)
    (hv0 : Value.okWide Try.prog w r b0 22 v0) (t0 : DataW.Trod enc Try.prog w base spare held 22 v0 d0 p0)
    (hv1 : Value.okWide Try.prog w r b0 24 v1) (t1 : DataW.Trod enc Try.prog w base spare held 24 v1 d1 p1) :
    Calls Try.prog 3 #[v0, v1] w fun e w' => e = .returned (.bool true) ∧ Below w.heap.size w w' := by
  obtain ⟨ws, h1, h2⟩ := words_of hv0 t0
  obtain ⟨k, b, x, rfl, hx⟩ := act_of hv1 t1
  exact apart_in h1 h2 hx
end StkApart
end Go.Proofs.Ytfmjcinhjbihoab
