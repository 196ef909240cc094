/- Lemmas of this seat's proofs, several texts laid together. -/
import Derived.Test.YthojgahcpkdemaaGreatAfN
import Derived.Test.YthojgahcpkdemaaGreatAfK
import Derived.ProofKit
import Derived.OpenShut
import Derived.ShutString
import Derived.ChangeOld
import Derived.Below
set_option linter.unusedVariables false
set_option linter.unusedSimpArgs false
/- when the clock can not go on -/
namespace Go.Proofs.YthojgahcpkdemaaGreat
open Go.RowKit Go.Bas View VIn IMap_ VPlain Lay RefLay Of Small_
open Go.ChangeShapes Go.Sor Go.WideShapes
namespace Att
namespace Spent22

set_option maxRecDepth 100000 in
set_option maxHeartbeats 8000000 in
theorem walk_in {c0 : Cfg} {v1 v2 : Value} {js : List (List Ins)} {ss : List Int} {w0 : World} (hJ : VIn.Jobs w0 w0.heap.size v1 js) (hjs : ∀ j ∈ js, SIn j) (hS : View.Words w0 w0.heap.size v2 ss) :
    Calls Tryz.prog 5 #[.agg (cfg c0), v1, v2] w0 fun e w' => e = .returned (.bool true) ∧ Below w0.heap.size w0 w' := by
  obtain ⟨g0, hg0⟩ : ∃ g0, w0.heap.size = g0 := ⟨_, rfl⟩
  obtain ⟨A2, cp2, rfl, hm2, -⟩ := id hJ
  obtain ⟨A3, cp3, rfl, hm3, -⟩ := id hS
  obtain ⟨n, hnn⟩ : ∃ n, js.length = n := ⟨_, rfl⟩
  obtain ⟨sn, hsn⟩ : ∃ sn, ss.length = sn := ⟨_, rfl⟩
  have LN := Lib.hid (fun w => lives_any w)
  obtain ⟨w1, hw1⟩ : ∃ w1, w0.alloc (.cells (cfg c0) 23) = w1 := ⟨_, rfl⟩
  have R1 : Hid (w1.heap[g0]? = some (.cells (cfg c0) 23 (0, 0))) := by rw [← hw1, ← hg0]; exact new_row _ _ _
  have B1 : Hid (Below g0 w0 w1) := by rw [← hw1, ← hg0]; exact (Below.refl _ _).alloc (Nat.le_refl _) _
  have s1 : w1.heap.size = g0 + 1 := by rw [← hw1, ← hg0]; simp
  rw [hg0] at hJ hS ⊢
  have HJ := Lib.hid hJ; have HS := Lib.hid hS; have HJS := Lib.hid hjs; have HNN := Lib.hid hnn; have HSN := Lib.hid hsn
  rw [hnn, hsn]
  rw [hnn] at hm2; rw [hsn] at hm3
  clear hJ hS hjs hnn hsn
  by_cases hgd : 1 ≤ n ∧ n ≤ 4 ∧ sn ≤ 200
  rotate_left
  · have alt : n < 1 ∨ (1 ≤ n ∧ 4 < n) ∨ (1 ≤ n ∧ n ≤ 4 ∧ 200 < sn) := by omega
    rcases alt with h | ⟨h, h'⟩ | ⟨h, h', h''⟩
    all_goals (
      clear hgd
      go_enter Tryz.func5, Tryz.ntmps5
      go_wp2_with (first
        | (go_at_call 17; refine (LN.out _).mono ?_; rintro e wz ⟨rfl, hb⟩
           have BZ : Hid (Below g0 w0 wz) := B1.out.trans (hb.mono (by omega))
           clear hb B1))
      go_ret
      exact ⟨rfl, BZ.out⟩)
  obtain ⟨hg1, hg4, hg200⟩ := hgd
  have F := small_fine c0
  have BG := fun w => beg_any c0 0 w
  unfold BegOut at BG
  have wl0 := words0_len c0 0
  have LD := ld_words0 c0 0
  have WB0 := wb_words0 c0 0
  have hwi := words_in F
  rw [places_words] at wl0
  obtain ⟨W, hWW⟩ : ∃ W, words0 c0 0 = W := ⟨_, rfl⟩
  obtain ⟨ck, hck⟩ : ∃ ck, (small c0).clock = ck := ⟨_, rfl⟩
  have hcb := F.clock
  rw [hck] at hcb
  rw [hWW] at BG wl0 WB0
  obtain ⟨W1, hW1⟩ : ∃ W1, st W 1 ck = W1 := ⟨_, rfl⟩
  have in1 : inn W 1 = true := by unfold inn; simp; omega
  have e1 : errB W 1 = 0 := by unfold errB; rw [in1]; rfl
  have ld1 : ld W1 1 = ck := by rw [← hW1, ld_st', if_pos ⟨in1, rfl⟩]
  have wl1 : (W1.length : Int) = (places (small c0)).a11 := by rw [← hW1, len_st, places_words]; exact wl0
  have WB1 : WB W1 := ⟨fun a => by
      rw [← hW1, ld_st']; split
      · exact ⟨by omega, by omega⟩
      · exact WB0.all a, by rw [ld1]; omega⟩
  have wm1 : W1.length ≤ 1000000 := by rw [← hW1, len_st]; omega
  have SK : Hid (Keeps c0 js (QSpent js W1)) := spent_keeps (by rw [hck, ld1]; omega)
  have SQ0 : Hid (QSpent js W1 (fun i => newT i) W1) := ⟨rfl, fun i _ => .inl rfl⟩
  have CF := fun w => config_any (small c0) (places (small c0)) w
  have FC := fun w => fld_clock (small c0) w
  rw [hck] at FC
  obtain ⟨lv, hlv⟩ : ∃ lv, lay (small c0) (places (small c0)) = lv := ⟨_, rfl⟩
  have hls : (Tryz.prog.info? 29).map (·.size) = some lv.size := by rw [← hlv]; exact lay_size _ _
  have hl0 : lv.size = 23 := by rw [← hlv]; rfl
  have hl1 : lv.all (·.oneCell') = true := by rw [← hlv]; exact lay_one _ _
  rw [hlv] at BG CF
  have RUN : Hid (∀ (w : World) (a g B0 : Nat), Ar w a g W1 2 → VIn.Jobs w B0 (.slice A2 n cp2) js → View.Words w B0 (.slice A3 sn cp3) ss → B0 ≤ a ∧ B0 ≤ g ∧ B0 ≤ w.heap.size → Calls Tryz.prog 18 #[.agg lv, .pointer (some ⟨a, 0, none⟩), .slice A2 n cp2, .slice A3 sn cp3] w fun e w' => ∃ v bs S K T m, e = .returned v ∧ L2 (QSpent js W1) w w' w.heap.size S K a g c0 js bs v B0 (.slice A3 sn cp3) ss T m ∧ m ≤ 100000 ∧ ∀ i, i < js.length → (T i).phase = 10) := fun w a g B0 h1 h2 h3 h4 => by
    rw [← hlv]
    exact run_any h1 (by omega) wl1 WB1 h2 HJS.out (by rw [HNN.out]; omega) h3 (by rw [HSN.out]; omega) h4 SK.out SQ0.out
  have HBG := Lib.hid BG; have HCF := Lib.hid CF; have HLS := Lib.hid hls; have HL1 := Lib.hid hl1; have HL0 := Lib.hid hl0; have HIN := Lib.hid in1; have HE1 := Lib.hid e1; have HW1 := Lib.hid hW1; have HWM := Lib.hid wm1
  clear BG CF hls hl1 hl0 in1 e1 hW1 hWW hck ld1 wl1 WB1 WB0 LD wl0 hwi hlv SK SQ0 F wm1
  go_enter Tryz.func5, Tryz.ntmps5
  go_upto_region 3 with fail
  go_upto_region 4 with (first
    | (refine wpList_load_row rfl 23 _ rfl g0 rfl 23 (cfg c0) (0, 0) _ R1.out Tryz.underlying23 rfl (cfg_size _) ?_)
    | (go_at_call 10; refine (HBG.out _).mono ?_; rintro e w2 ⟨a, g, ra, rfl, ha, hg, hA2, hb2⟩
       have B2 : Hid (Below g0 w0 w2) := B1.out.trans (hb2.mono (by omega))
       obtain ⟨l, hl⟩ : ∃ l, w2.heap.size = l := ⟨_, rfl⟩
       have hgl : g0 ≤ l := by have := hb2.size; omega
       have HAG : Hid ((g0 ≤ a ∧ g0 ≤ g) ∧ a ≠ l ∧ g ≠ l ∧ g0 ≤ l) := by have := hA2.lt; rw [Hid]; omega
       obtain ⟨w3, hw3⟩ : ∃ w3, w2.alloc (.cells #[.int .i64 0, .int .i64 0, .int .i64 0, .int .i64 0, .int .i64 0, .int .i64 0, .int .i64 0, .int .i64 0, .int .i64 0, .int .i64 0, .int .i64 0, .int .i64 0, .int .i64 0, .int .i64 0, .int .i64 0, .int .i64 0, .int .i64 0, .int .i64 0, .int .i64 0, .int .i64 0, .int .i64 0, .int .i64 0, .int .i64 0] 29) = w3 := ⟨_, rfl⟩
       have L3 : Hid (w3.heap[l]? = some (.cells #[.int .i64 0, .int .i64 0, .int .i64 0, .int .i64 0, .int .i64 0, .int .i64 0, .int .i64 0, .int .i64 0, .int .i64 0, .int .i64 0, .int .i64 0, .int .i64 0, .int .i64 0, .int .i64 0, .int .i64 0, .int .i64 0, .int .i64 0, .int .i64 0, .int .i64 0, .int .i64 0, .int .i64 0, .int .i64 0, .int .i64 0] 29 (0, 0))) := by rw [← hw3, ← hl]; exact new_row _ _ _
       have b23 : Below w2.heap.size w2 w3 := by rw [← hw3]; exact (Below.refl _ _).alloc (Nat.le_refl _) _
       have A3' : Hid (Ar w3 a g W 1) := hA2.below b23
       have B3 : Hid (Below g0 w0 w3) := B2.out.trans (b23.mono (by omega))
       clear hb2 hA2 b23 B2 B1 R1)
    | (refine wpList_store_row rfl 29 _ _ rfl l lv rfl rfl 29 #[.int .i64 0, .int .i64 0, .int .i64 0, .int .i64 0, .int .i64 0, .int .i64 0, .int .i64 0, .int .i64 0, .int .i64 0, .int .i64 0, .int .i64 0, .int .i64 0, .int .i64 0, .int .i64 0, .int .i64 0, .int .i64 0, .int .i64 0, .int .i64 0, .int .i64 0, .int .i64 0, .int .i64 0, .int .i64 0, .int .i64 0] L3.out HLS.out (by first | exact HL0.out | exact HL0.out.symm) HL1.out ?_))
  obtain ⟨w4, hw4⟩ : ∃ w4, w3.setRow l lv = w4 := ⟨_, rfl⟩
  have L4 : Hid (w4.heap[l]? = some (.cells lv 29 (0, 0))) := by rw [← hw4]; exact setRow_same L3.out
  have A4 : Hid (Ar w4 a g W 1) := by rw [← hw4]; exact A3'.out.kept (setRow_other _ _ _ _ HAG.out.2.1) (setRow_other _ _ _ _ HAG.out.2.2.1)
  have B4 : Hid (Below g0 w0 w4) := by rw [← hw4]; exact setRow_below B3.out hgl _
  rw [hw4]
  have s4 : Hid (g0 ≤ w4.heap.size) := by have := B4.out.size; rw [Hid]; omega
  clear hw4 L3 A3' B3 hw3 hw1 s1
  go_upto_region 5 with (first
    | (refine wpList_load_row rfl 29 _ rfl l rfl 29 lv (0, 0) _ L4.out Tryz.underlying29 rfl HLS.out ?_)
    | (go_at_call 20; refine (HCF.out _).mono ?_; rintro e w5 ⟨rfl, hb⟩
       have L5 : Hid (w5.heap[l]? = some (.cells lv 29 (0, 0))) := blk_below L4.out hb
       have A5 : Hid (Ar w5 a g W 1) := A4.out.below hb
       have B5 : Hid (Below g0 w0 w5) := B4.out.trans (hb.mono s4.out)
       have s5 : Hid (g0 ≤ w5.heap.size) := by have := B5.out.size; rw [Hid]; omega
       clear hb L4 A4 B4 s4)
    | (go_at_call 25; refine (store_any A5.out (by omega) 1 ck).mono ?_; rintro e w6 ⟨rfl, ha6, hc6⟩
       rw [HE1.out]
       have A6 : Hid (Ar w6 a g W1 2) := by
         have e2 : (1 : Int) + cnt W 1 = 2 := by unfold cnt; rw [HIN.out]; rfl
         rw [e2, HW1.out] at ha6; exact ha6
       have L6 : Hid (w6.heap[l]? = some (.cells lv 29 (0, 0))) := (hc6.block l (Array.getElem?_eq_some_iff.1 L5.out).1 (fun hh => by have := HAG.out; omega)).trans L5.out
       have B6 : Hid (Below g0 w0 w6) := B5.out.trans (hc6.below s5.out (fun k hk => by have := HAG.out; omega))
       have s6 : Hid (g0 ≤ w6.heap.size) := by have := B6.out.size; rw [Hid]; omega
       clear ha6 hc6 A5 L5 B5 s5))
  go_upto_region 8 with (first
    | (go_at_call 26; refine (words_told A6.out HWM.out).mono ?_; rintro e w7 ⟨wb, rfl, hwb, hrow, hb⟩
       have L7 : Hid (w7.heap[l]? = some (.cells lv 29 (0, 0))) := blk_below L6.out hb
       have A7 : Hid (Ar w7 a g W1 2) := A6.out.below hb
       have B7 : Hid (Below g0 w0 w7) := B6.out.trans (hb.mono s6.out)
       have s7 : Hid (g0 ≤ w7.heap.size) := by have := B7.out.size; rw [Hid]; omega
       have WR7 : Hid (w7.heap[wb]? = some (.cells (W1.map (Value.int .i64)).toArray 3 (0, 0))) := hrow
       have wba : Hid (wb ≠ a ∧ wb ≠ g) := by have := A6.out.lt; rw [Hid]; omega
       clear hb hrow hwb A6 L6 B6 s6)
    | (refine wpList_load_row rfl 29 _ rfl l rfl 29 lv (0, 0) _ L7.out Tryz.underlying29 rfl HLS.out ?_)
    | (go_at_call 18; refine (RUN.out w7 a g g0 A7.out (by have h := HJ.out.below B7.out; rw [HNN.out] at h; exact h) (by have h := HS.out.below B7.out; rw [HSN.out] at h; exact h) ⟨HAG.out.1.1, HAG.out.1.2, s7.out⟩).mono ?_; rintro e w8 ⟨v, bs, S, K, T, m, rfl, hL, hm, hO⟩
       have b8 : Below g0 w7 w8 := hL.chg.below s7.out (fun k hk => by have := HAG.out; have := s7.out; omega)
       have B8 : Hid (Below g0 w0 w8) := B7.out.trans b8
       have s8 : Hid (g0 ≤ w8.heap.size) := by have := B8.out.size; rw [Hid]; omega
       have wbl : wb < w7.heap.size := (Array.getElem?_eq_some_iff.1 WR7.out).1
       have WR8 : Hid (w8.heap[wb]? = some (.cells (W1.map (Value.int .i64)).toArray 3 (0, 0))) := (hL.chg.block wb wbl (fun hh => by have := wba.out; omega)).trans WR7.out
       have HL := Lib.hid hL
       have HO : Hid (∀ i, i < n → wroteB (T i) = [] ∧ told (T i) = 3 ∧ (T i).phase = 10) := fun i hi => by
         obtain ⟨W2, c2, _, _, hq, _⟩ := hL.qw
         have hij : i < js.length := by rw [HNN.out]; exact hi
         have h10 := hO i hij
         rcases hq.2 i hij with e | e
         · rw [e] at h10; have h10 : (0 : Int) = 10 := h10; omega
         · have := wroteB_spent e; exact ⟨this.1, this.2, h10⟩
       clear hL hO b8 hm L7 A7 B7 s7 WR7))
  obtain ⟨A9, c9, e9⟩ := HL.out.slice
  rw [HNN.out] at e9
  subst e9
  have hw8 : w7.heap.size ≤ w8.heap.size := HL.out.hb
  go_loopw [12] (fun u12 wr => ∃ q : Nat, q ≤ n ∧ u12 = .int .i64 q ∧ Hid (L2 (QSpent js W1) w7 wr w7.heap.size S K a g c0 js bs (.slice A9 n c9) g0 (.slice A3 sn cp3) ss T m) ∧ Hid (Below g0 w0 wr) ∧ Hid (wr.heap[wb]? = some (.cells (W1.map (Value.int .i64)).toArray 3 (0, 0)))) (fun u12 _ => n - (intOf u12).toNat)
  case atStart => exact ⟨0, by omega, rfl, HL, B8, WR8⟩
  case round =>
    clear HL B8 WR8 s8
    obtain ⟨q, hq, rfl, HL, HB, HW⟩ := hrel
    have gsz : Hid (g0 ≤ wr.heap.size) := by have := HB.out.size; rw [Hid]; omega
    by_cases hlt : q < n
    · have hij : q < js.length := by rw [HNN.out]; exact hlt
      obtain ⟨p, cap, e9, hc1⟩ := HL.out.cell hij
      rw [HNN.out] at e9
      injection e9 with e91 _ e93
      subst e91
      subst e93
      have O := HO.out q hlt
      have ST := Lib.hid (HL.out.over hij O.2.2 (.pointer (some ⟨a, 0, none⟩)))
      have O1 := Lib.hid O.1; have O2 := Lib.hid O.2.1
      have HIJ := Lib.hid hij
      clear O hij
      go_wp2_with (first
        | (go_at_call 16; refine ST.out.mono ?_; rintro e wa ⟨rfl, hb⟩
           rw [O2.out]
           have La := Lib.hid (HL.out.below hb)
           have Ba : Hid (Below g0 w0 wa) := HB.out.trans (hb.mono gsz.out)
           have Wa : Hid (wa.heap[wb]? = some (.cells (W1.map (Value.int .i64)).toArray 3 (0, 0))) := blk_below HW.out hb
           have sa : Hid (g0 ≤ wa.heap.size) := Nat.le_trans gsz.out hb.size
           have hc2 := La.out.cell1 HIJ.out
           have WT := Lib.hid (La.out.writes HIJ.out)
           clear hb HL HB HW gsz ST hc1)
        | (go_at_call 24; refine WT.out.mono ?_; rintro e wb2 ⟨Aw, cw, rfl, hb⟩
           rw [O1.out, List.length_nil]
           have Lb := Lib.hid (La.out.below hb)
           have Bb : Hid (Below g0 w0 wb2) := Ba.out.trans (hb.mono sa.out)
           have Wb : Hid (wb2.heap[wb]? = some (.cells (W1.map (Value.int .i64)).toArray 3 (0, 0))) := blk_below Wa.out hb
           clear hb La Ba Wa WT hc2))
      go_roundw
      case rel => exact ⟨q + 1, by omega, by go_num, Lb, Bb, Wb⟩
      case measure => simp [intOf]; omega
    · obtain rfl : n = q := by omega
      obtain ⟨W2, ⟨e2, -⟩, hWT⟩ := HL.out.words (by rw [HNN.out]; omega)
      subst e2
      have WT := Lib.hid hWT
      clear hWT
      go_wp2_with (first
        | (go_at_call 26; refine WT.out.mono ?_; rintro e wa ⟨wb2, rfl, hge, hrow, hb⟩
           have Ba : Hid (Below g0 w0 wa) := HB.out.trans (hb.mono gsz.out)
           have sa : Hid (g0 ≤ wa.heap.size) := Nat.le_trans gsz.out hb.size
           have SM := Lib.hid ((View.ints_same (row_words HWM.out hrow) (row_words HWM.out (blk_below HW.out hb))).mono (fun e w' h => (⟨by rw [h.1, decide_eq_true rfl], h.2⟩ : e = .returned (.bool true) ∧ ∃ m, w' = wa.drewN m)))
           clear hb hrow hge WT HB HW gsz)
        | (go_at_call 27; refine SM.out.mono ?_; rintro e wc ⟨rfl, j, rfl⟩
           have Bc : Hid (Below g0 w0 (wa.drewN j)) := Ba.out.trans (drewN_below _ _ _)
           have sc : Hid (g0 ≤ (wa.drewN j).heap.size) := by have := Bc.out.size; rw [Hid]; omega
           clear SM Ba)
        | (go_at_call 17; refine (LN.out _).mono ?_; rintro e wz ⟨rfl, hb⟩
           have BZ : Hid (Below g0 w0 wz) := Bc.out.trans (hb.mono sc.out)
           clear hb Bc))
      go_ret
      exact ⟨rfl, BZ.out⟩

set_option maxRecDepth 100000 in
theorem walk {H : Type} {enc : TypeId × Value → H} {base : Nat} {spare : Nat → Bool} {held : Bool} {d0 d1 d2 : DataW H} {p0 p1 p2 : List MemPlace} {r : Reach} {b0 : Nat} (v0 v1 v2 : Value) (w : World)
    (hv0 : Value.okWide Tryz.prog w r b0 23 v0) (t0 : DataW.Trod enc Tryz.prog w base spare held 23 v0 d0 p0)
    (hv1 : Value.okWide Tryz.prog w r b0 24 v1) (t1 : DataW.Trod enc Tryz.prog w base spare held 24 v1 d1 p1)
    (hv2 : Value.okWide Tryz.prog w r b0 25 v2) (t2 : DataW.Trod enc Tryz.prog w base spare held 25 v2 d2 p2) :
    Calls Tryz.prog 5 #[v0, v1, v2] w fun e w' => e = .returned (.bool true) ∧ Below w.heap.size w w' := by
  obtain ⟨c, rfl⟩ := Lay.cfg_of hv0 t0
  obtain ⟨js, h3, h4⟩ := jobs_of hv1 t1
  obtain ⟨ss, h5, h6⟩ := View.words_of hv2 t2
  exact walk_in h3 h4 h5
end Spent22
end Att
end Go.Proofs.YthojgahcpkdemaaGreat

/- PROVED HERE: 'assart/assartlaw22.AttemptSpent' returns true for every input, without a panic, and its arguments read behind the call as they read before (When the clock can not go on no attempt that writes is done, and no word is changed). Condition: none beyond the row's own. -/
namespace Go.Proofs.YthojgahcpkdemaaGreat
namespace FrAttemptSpent
open Go.ChangeShapes Go.WideShapes Go.ChangeAt Go.RowKit
open Go.ChangeMaps (open_string shut_string)
set_option linter.unusedVariables false

theorem own : ownKnob Tryz.prog.godebug = none := by kernel_rfl
theorem laidOut : laidOutB Tryz.prog = true := by kernel_rfl

set_option maxRecDepth 100000 in
theorem lifted (os : Os) (started : os.Started) (H : Type) (enc : TypeId × Value → H) :
    ReturnsInHanded {} Tryz.checked os 5 .any (Rows.attemptSpentSpec.pre6 enc Tryz.prog Tryz.f5 Rows.attemptSpentRow.domain false) (Rows.attemptSpentSpec.post enc Tryz.prog Tryz.f5 false true false false) := by
  refine returnsInHanded_of_change (C := Tryz.checked) own started (by kernel_rfl) Tryz.func5
    (ChangeSpec.witness6 (enc := enc) (C := Tryz.checked) false ⟨#[], #[.agg #[.int .i64 0, .int .i64 0, .int .i64 0, .int .i64 0, .int .i64 0, .int .i64 0, .int .i64 0, .int .i64 0, .int .i64 0, .int .i64 0, .int .i64 0], .slice none 0 0, .slice none 0 0], []⟩ 8 (by kernel_rfl) (by kernel_rfl) (by kernel_rfl) (by kernel_rfl)) ?_
  intro W base args ds gs before hval0 hW hcnd _
  have hval : ∀ (j : Nat) t v, Tryz.f5.params[j]? = some t → args[j]? = some v → Value.okWide Tryz.prog W .any base t v := hval0
  have hW' := hW
  obtain ⟨p, q, hA0, hV, rfl, hfz, hnd⟩ := hW
  have hA : DataW.TrodAll enc Tryz.prog W 0 (fun _ => true) true Tryz.f5.params.toList args.toList ds p := hA0
  rw [Tryz.params5] at hA hval
  obtain ⟨v0, vs0, d0, ds0, p0, q0, hargs, rfl, rfl, h0, r0⟩ := trodAll_cons hA
  obtain ⟨v1, vs1, d1, ds1, p1, q1, rfl, rfl, rfl, h1, r1⟩ := trodAll_cons r0
  obtain ⟨v2, vs2, d2, ds2, p2, q2, rfl, rfl, rfl, h2, r2⟩ := trodAll_cons r1
  obtain ⟨rfl, rfl, rfl⟩ := trodAll_nil r2
  obtain rfl : args = #[v0, v1, v2] := by cases args; simp_all
  obtain ⟨rfl, rfl⟩ := trodVars_none hV
  have k0 := h0
  have lt0 : ∀ x ∈ p0, x.block < W.heap.size := by obtain ⟨m, hm⟩ := k0; exact DataW.trod_lt m _ _ _ hm
  have k1 := h1
  have lt1 : ∀ x ∈ p1, x.block < W.heap.size := by obtain ⟨m, hm⟩ := k1; exact DataW.trod_lt m _ _ _ hm
  have k2 := h2
  have lt2 : ∀ x ∈ p2, x.block < W.heap.size := by obtain ⟨m, hm⟩ := k2; exact DataW.trod_lt m _ _ _ hm
  clear hA0 hval0
  refine (Att.Spent22.walk v0 v1 v2 W (hval 0 23 v0 rfl rfl) h0 (hval 1 24 v1 rfl rfl) h1 (hval 2 25 v2 rfl rfl) h2).mono fun e W' ⟨he, bel⟩ => ?_
  subst he
  exact ⟨_, rfl, _, _, _, [], _, [], hW', trodAll_mk1 (shut_bool Tryz.underlying4 _), (trodAll_cons_mk (Below.trod laidOut (by kernel_rfl) (of_decide_eq_true (by kernel_rfl)) k0 bel lt0) (trodAll_cons_mk (Below.trod laidOut (by kernel_rfl) (of_decide_eq_true (by kernel_rfl)) k1 bel lt1) (trodAll_cons_mk (Below.trod laidOut (by kernel_rfl) (of_decide_eq_true (by kernel_rfl)) k2 bel lt2) trodAll_mk0))), rfl, bel.frame _, fun h => by cases h⟩

theorem over : Rows.attemptSpentRow.holds Tryz.pinned (OpenSpec.ofChange Rows.attemptSpentSpec) :=
  OpenClaim.holds_of_wide 5 Tryz.f5 rfl rfl rfl rfl rfl rfl rfl ⟨rfl, rfl, rfl, rfl, rfl⟩ rfl rfl rfl rfl rfl (by kernel_rfl) Tryz.func5 (by kernel_rfl)
    (of_decide_eq_true (by kernel_rfl)) (by unfold Func.isWrapper; first | (rw [if_pos (by decide +kernel)]; kernel_rfl) | (rw [if_neg (by decide +kernel)]; exact ⟨rfl, rfl⟩))
    (fun os started H enc _ => lifted os started H enc)

end FrAttemptSpent

theorem AttemptSpent_holds : Rows.AttemptSpentSaid := FrAttemptSpent.over
#print axioms AttemptSpent_holds
end Go.Proofs.YthojgahcpkdemaaGreat
