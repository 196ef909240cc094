/- Lemmas of this seat's proofs, several texts laid together. -/
import Derived.Test.YthojgahcpkdemaaGreatAfN
import Derived.Test.YthojgahcpkdemaaGreatAfK
import Derived.Test.YthojgahcpkdemaaGreatAfR
import Derived.Test.YthojgahcpkdemaaGreatWLast
import Derived.ProofKit
import Derived.OpenShut
import Derived.ShutString
import Derived.ChangeOld
import Derived.Below
set_option linter.unusedVariables false
set_option linter.unusedSimpArgs false
/- attempts lead, by rising stamps, from the first words to the last ones -/
namespace Go.Proofs.YthojgahcpkdemaaGreat
open Go.RowKit Go.Bas View VIn IMap_ VPlain Lay RefLay Of Small_
open Go.ChangeShapes Go.Sor Go.WideShapes
open Go.Proofs.YthojgahcpkdemaaGreatW.PrintLast
namespace Att
namespace Order22

set_option maxRecDepth 100000 in
set_option maxHeartbeats 8000000 in
theorem walk_in {c0 : Cfg} {y : Int} {v1 v2 : Value} {js : List (List Ins)} {ss : List Int} {w0 : World} (hJ : VIn.Jobs w0 w0.heap.size v1 js) (hjs : ∀ j ∈ js, SIn j) (hS : View.Words w0 w0.heap.size v2 ss) :
    Calls Tryz.prog 7 #[.agg (cfg c0), .int .i64 y, v1, v2] w0 fun e w' => e = .returned (.bool true) ∧ Below w0.heap.size w0 w' := by
  obtain ⟨g0, hg0⟩ : ∃ g0, w0.heap.size = g0 := ⟨_, rfl⟩
  obtain ⟨A2, cp2, rfl, hm2, -⟩ := id hJ
  obtain ⟨A3, cp3, rfl, hm3, -⟩ := id hS
  obtain ⟨n, hnn⟩ : ∃ n, js.length = n := ⟨_, rfl⟩
  obtain ⟨sn, hsn⟩ : ∃ sn, ss.length = sn := ⟨_, rfl⟩
  have LN := Lib.hid (fun w => lives_any w)
  obtain ⟨w1, hw1⟩ : ∃ w1, w0.alloc (.cells (cfg c0) 23) = w1 := ⟨_, rfl⟩
  have R1 : Hid (w1.heap[g0]? = some (.cells (cfg c0) 23 (0, 0))) := by rw [← hw1, ← hg0]; exact new_row _ _ _
  have B1 : Hid (Below g0 w0 w1) := by rw [← hw1, ← hg0]; exact (Below.refl _ _).alloc (Nat.le_refl _) _
  have s1 : w1.heap.size = g0 + 1 := by rw [← hw1, ← hg0]; simp
  rw [hg0] at hJ hS ⊢
  have HJ := Lib.hid hJ; have HS := Lib.hid hS; have HJS := Lib.hid hjs; have HNN := Lib.hid hnn; have HSN := Lib.hid hsn
  rw [hnn, hsn]
  rw [hnn] at hm2; rw [hsn] at hm3
  clear hJ hS hjs hnn hsn
  by_cases hgd : 1 ≤ n ∧ n ≤ 4 ∧ sn ≤ 200
  rotate_left
  · have alt : n < 1 ∨ (1 ≤ n ∧ 4 < n) ∨ (1 ≤ n ∧ n ≤ 4 ∧ 200 < sn) := by omega
    rcases alt with h | ⟨h, h'⟩ | ⟨h, h', h''⟩
    all_goals (
      clear hgd
      go_enter Tryz.func7, Tryz.ntmps7
      go_wp2_with (first
        | (go_at_call 17; refine (LN.out _).mono ?_; rintro e wz ⟨rfl, hb⟩
           have BZ : Hid (Below g0 w0 wz) := B1.out.trans (hb.mono (by omega))
           clear hb B1))
      go_ret
      exact ⟨rfl, BZ.out⟩)
  obtain ⟨hg1, hg4, hg200⟩ := hgd
  have F := small_fine c0
  have BG := fun w => beg_any c0 y w
  unfold BegOut at BG
  have wl0 := words0_len c0 y
  have LD := ld_words0 c0 y
  have WB0 := wb_words0 c0 y
  have hwi := words_in F
  rw [places_words] at wl0
  obtain ⟨W, hWW⟩ : ∃ W, words0 c0 y = W := ⟨_, rfl⟩
  obtain ⟨ck, hck⟩ : ∃ ck, (small c0).clock = ck := ⟨_, rfl⟩
  have hcb := F.clock
  rw [hck] at hcb
  rw [hWW] at BG wl0 WB0
  have CK := clock0_in c0 y
  have wl1 : (W.length : Int) = (places (small c0)).a11 := by rw [places_words]; exact wl0
  have ld1 : ld W 1 = clock0 c0 y := by rw [← hWW, LD, if_pos rfl]
  have ldj : ∀ j, j ≠ 1 → ld W j = 0 := fun j hj => by rw [← hWW, LD, if_neg hj]
  have SQ0 : Hid (QOrd c0 js.length W (fun i => newT i) W) := qord_new wl1 (by rw [ld1]; omega) ldj
  have SK : Hid (Keeps c0 js (QOrd c0 js.length W)) := qord_keeps (by rw [HNN.out]; omega) (by omega)
  have hpg := F.pages
  have htb : 0 ≤ (places (small c0)).a0 ∧ (places (small c0)).a0 ≤ 1000000 := by have := table_small c0; have := F.stripes; omega
  have htb3 : 3 ≤ (places (small c0)).a0 := by have := table_small c0; have := F.stripes; omega
  have TB := fun w => table_at (small c0) (places (small c0)) ⟨hpg.1, by omega⟩ htb w
  obtain ⟨tb, htbv⟩ : ∃ tb : Nat, (places (small c0)).a0 = tb := ⟨(places (small c0)).a0.toNat, by omega⟩
  obtain ⟨wn, hwn⟩ : ∃ wn : Nat, W.length = wn := ⟨_, rfl⟩
  have hwd : (places (small c0)).a11 = (wn : Int) := by rw [← hwn]; exact wl1.symm
  have HWM : Hid (W.length ≤ 1000000) := by rw [Hid]; omega
  have hwm : wn ≤ 1000000 := by rw [← hwn]; exact HWM.out
  have G3 := (good_of c0 js 0)
  have htw : tb + 6 ≤ wn := by have h1 := G3.fits; have h2 : tbOf c0 = (tb : Int) := htbv; have h3 : (envOf c0 js 0).words = (wn : Int) := hwd; rw [h2, h3] at h1; omega
  rw [htbv] at TB htb htb3
  have HTBV : Hid (tbOf c0 = (tb : Int)) := htbv
  have HWD := Lib.hid hwd
  have HCB : Hid ((small c0).clock ≤ 1099511627776) := by rw [Hid, hck]; omega
  have HWN := Lib.hid hwn
  have tb3 : 3 ≤ tb := by omega
  obtain ⟨lv, hlv⟩ : ∃ lv, lay (small c0) (places (small c0)) = lv := ⟨_, rfl⟩
  have hls : (Tryz.prog.info? 29).map (·.size) = some lv.size := by rw [← hlv]; exact lay_size _ _
  have hl0 : lv.size = 23 := by rw [← hlv]; rfl
  have hl1 : lv.all (·.oneCell') = true := by rw [← hlv]; exact lay_one _ _
  rw [hlv] at BG TB
  have RUN : Hid (∀ (w : World) (a g B0 : Nat), Ar w a g W 1 → VIn.Jobs w B0 (.slice A2 n cp2) js → View.Words w B0 (.slice A3 sn cp3) ss → B0 ≤ a ∧ B0 ≤ g ∧ B0 ≤ w.heap.size → Calls Tryz.prog 18 #[.agg lv, .pointer (some ⟨a, 0, none⟩), .slice A2 n cp2, .slice A3 sn cp3] w fun e w' => ∃ v bs S K T m, e = .returned v ∧ L2 (QOrd c0 js.length W) w w' w.heap.size S K a g c0 js bs v B0 (.slice A3 sn cp3) ss T m ∧ m ≤ 100000 ∧ ∀ i, i < js.length → (T i).phase = 10) := fun w a g B0 h1 h2 h3 h4 => by
    rw [← hlv]
    exact run_any h1 (by omega) wl1 WB0 h2 HJS.out (by rw [HNN.out]; omega) h3 (by rw [HSN.out]; omega) h4 SK.out SQ0.out
  have HBG := Lib.hid BG; have HTB := Lib.hid TB; have HLS := Lib.hid hls; have HL1 := Lib.hid hl1; have HL0 := Lib.hid hl0
  clear BG TB hls hl1 hl0 hWW hck ld1 ldj wl1 WB0 LD wl0 hwi hlv SK SQ0 F CK hpg htb htb3 htbv hwn hwd G3
  go_enter Tryz.func7, Tryz.ntmps7
  go_upto_region 3 with fail
  go_upto_region 4 with (first
    | (refine wpList_load_row rfl 23 _ rfl g0 rfl 23 (cfg c0) (0, 0) _ R1.out Tryz.underlying23 rfl (cfg_size _) ?_)
    | (go_at_call 10; refine (HBG.out _).mono ?_; rintro e w2 ⟨a, g, ra, rfl, ha, hg, hA2, hb2⟩
       have B2 : Hid (Below g0 w0 w2) := B1.out.trans (hb2.mono (by omega))
       obtain ⟨l, hl⟩ : ∃ l, w2.heap.size = l := ⟨_, rfl⟩
       have hgl : g0 ≤ l := by have := hb2.size; omega
       have HAG : Hid ((g0 ≤ a ∧ g0 ≤ g) ∧ a ≠ l ∧ g ≠ l ∧ g0 ≤ l) := by have := hA2.lt; rw [Hid]; omega
       obtain ⟨w3, hw3⟩ : ∃ w3, w2.alloc (.cells #[.int .i64 0, .int .i64 0, .int .i64 0, .int .i64 0, .int .i64 0, .int .i64 0, .int .i64 0, .int .i64 0, .int .i64 0, .int .i64 0, .int .i64 0, .int .i64 0, .int .i64 0, .int .i64 0, .int .i64 0, .int .i64 0, .int .i64 0, .int .i64 0, .int .i64 0, .int .i64 0, .int .i64 0, .int .i64 0, .int .i64 0] 29) = w3 := ⟨_, rfl⟩
       have L3 : Hid (w3.heap[l]? = some (.cells #[.int .i64 0, .int .i64 0, .int .i64 0, .int .i64 0, .int .i64 0, .int .i64 0, .int .i64 0, .int .i64 0, .int .i64 0, .int .i64 0, .int .i64 0, .int .i64 0, .int .i64 0, .int .i64 0, .int .i64 0, .int .i64 0, .int .i64 0, .int .i64 0, .int .i64 0, .int .i64 0, .int .i64 0, .int .i64 0, .int .i64 0] 29 (0, 0))) := by rw [← hw3, ← hl]; exact new_row _ _ _
       have b23 : Below w2.heap.size w2 w3 := by rw [← hw3]; exact (Below.refl _ _).alloc (Nat.le_refl _) _
       have A3' : Hid (Ar w3 a g W 1) := hA2.below b23
       have B3 : Hid (Below g0 w0 w3) := B2.out.trans (b23.mono (by omega))
       clear hb2 hA2 b23 B2 B1 R1)
    | (refine wpList_store_row rfl 29 _ _ rfl l lv rfl rfl 29 #[.int .i64 0, .int .i64 0, .int .i64 0, .int .i64 0, .int .i64 0, .int .i64 0, .int .i64 0, .int .i64 0, .int .i64 0, .int .i64 0, .int .i64 0, .int .i64 0, .int .i64 0, .int .i64 0, .int .i64 0, .int .i64 0, .int .i64 0, .int .i64 0, .int .i64 0, .int .i64 0, .int .i64 0, .int .i64 0, .int .i64 0] L3.out HLS.out (by first | exact HL0.out | exact HL0.out.symm) HL1.out ?_))
  obtain ⟨w4, hw4⟩ : ∃ w4, w3.setRow l lv = w4 := ⟨_, rfl⟩
  have L4 : Hid (w4.heap[l]? = some (.cells lv 29 (0, 0))) := by rw [← hw4]; exact setRow_same L3.out
  have A4 : Hid (Ar w4 a g W 1) := by rw [← hw4]; exact A3'.out.kept (setRow_other _ _ _ _ HAG.out.2.1) (setRow_other _ _ _ _ HAG.out.2.2.1)
  have B4 : Hid (Below g0 w0 w4) := by rw [← hw4]; exact setRow_below B3.out hgl _
  rw [hw4]
  have s4 : Hid (g0 ≤ w4.heap.size) := by have := B4.out.size; rw [Hid]; omega
  clear hw4 L3 A3' B3 hw3 hw1 s1
  go_upto_region 7 with (first
    | (go_at_call 26; refine (words_told A4.out HWM.out).mono ?_; rintro e w5 ⟨wb, rfl, hwb, hrow, hb⟩
       rw [HWN.out]
       have L5 : Hid (w5.heap[l]? = some (.cells lv 29 (0, 0))) := blk_below L4.out hb
       have A5 : Hid (Ar w5 a g W 1) := A4.out.below hb
       have B5 : Hid (Below g0 w0 w5) := B4.out.trans (hb.mono s4.out)
       have s5 : Hid (g0 ≤ w5.heap.size) := by have := B5.out.size; rw [Hid]; omega
       have IR5 : Hid (IR w5 wb W) := hrow
       have HWB2 : Hid ((g0 ≤ wb ∧ wb < w5.heap.size ∧ wb ≠ a ∧ wb ≠ g) ∧ wb ≠ l) := by
         have h1 := A4.out.lt; have h2 := (Array.getElem?_eq_some_iff.1 L4.out).1; have h3 := s4.out; have h4 := (show IR w5 wb W from hrow).lt
         rw [Hid]; omega
       clear hb hrow hwb A4 L4 B4 s4)
    | (refine wpList_load_row rfl 29 _ rfl l rfl 29 lv (0, 0) _ L5.out Tryz.underlying29 rfl HLS.out ?_)
    | (go_at_call 18; refine (RUN.out w5 a g g0 A5.out (by have h := HJ.out.below B5.out; rw [HNN.out] at h; exact h) (by have h := HS.out.below B5.out; rw [HSN.out] at h; exact h) ⟨HAG.out.1.1, HAG.out.1.2, s5.out⟩).mono ?_; rintro e w8 ⟨v, bs, S, K, T, m, rfl, hL, hm, hO⟩
       have b8 : Below g0 w5 w8 := hL.chg.below s5.out (fun k hk => by have := HAG.out; have := s5.out; omega)
       have B8 : Hid (Below g0 w0 w8) := B5.out.trans b8
       have L8 : Hid (w8.heap[l]? = some (.cells lv 29 (0, 0))) := (hL.chg.block l (Array.getElem?_eq_some_iff.1 L5.out).1 (fun hh => by have := HAG.out; have := (Array.getElem?_eq_some_iff.1 L5.out).1; omega)).trans L5.out
       have IR8 : Hid (IR w8 wb W) := IR5.out.keep (hL.chg.block wb IR5.out.lt (fun hh => by have := HWB2.out; omega))
       obtain ⟨Wf, hq, hok, hwb, hL2⟩ := hL.fix
       obtain ⟨cn, hcn⟩ : ∃ cn : Nat, ld Wf 1 = cn := ⟨(ld Wf 1).toNat, by have := hq.1.clk; omega⟩
       have hcnb : cn ≤ 1099511627776 := by have h1 := hq.1.clk; have h2 := HCB.out; rw [hcn] at h1; omega
       obtain ⟨mm, hoe⟩ := qord_end hq hok hO
       have OE : Hid (OEnd tb wn n T W Wf mm) := by rw [HTBV.out, HWD.out, HNN.out] at hoe; exact hoe
       have HWF : Hid (Wf.length = wn) := by
         have h0 := (hok 0 (by rw [HNN.out]; omega)).len
         have h1 : (envOf c0 js 0).words = (wn : Int) := HWD.out
         rw [h1] at h0; rw [Hid]; omega
       have HO20 : Hid (∀ i, i < js.length → (wroteB (T i)).length ≤ 20) := fun i hi => by
         obtain ⟨W9, c9, _, g9, _⟩ := hL2.qw
         have h := (g9.all i hi).2.2.1
         unfold wroteB; split
         · exact h
         · exact Nat.zero_le _
       have LDW := Lib.hid (hL2.load (by omega) 1)
       have HM := Lib.hid hm
       have HCN := Lib.hid hcn
       clear hL hO b8 hm L5 A5 B5 IR5 hq hok hwb hL2 hoe hcn)
    | (go_at_call 19; refine LDW.out.mono ?_; rintro e w9 ⟨rfl, hL9, hC9⟩
       rw [HCN.out]
       obtain ⟨er, her⟩ : ∃ er, errB Wf 1 = er := ⟨_, rfl⟩
       rw [her]
       have HL := Lib.hid hL9
       have B9 : Hid (Below g0 w0 w9) := B8.out.trans (hC9.below (by have := B8.out.size; omega) (fun k hk => by have := HAG.out; omega))
       have L9 : Hid (w9.heap[l]? = some (.cells lv 29 (0, 0))) := (hC9.block l (Array.getElem?_eq_some_iff.1 L8.out).1 (fun hh => by have := HAG.out; omega)).trans L8.out
       have IR9 : Hid (IR w9 wb W) := IR8.out.keep (hC9.block wb IR8.out.lt (fun hh => by have := HWB2.out; omega))
       clear hL9 hC9 LDW B8 L8 IR8 her))
  obtain ⟨p, cap, e9, -⟩ := HL.out.cell (i := 0) (by rw [HNN.out]; omega)
  rw [HNN.out] at e9
  subst e9
  obtain ⟨base, hbase⟩ : ∃ base, w5.heap.size = base := ⟨_, rfl⟩
  have LO0 : Hid (LO w0 w9 g0 base wb l a g S K lv c0 js bs p cap (.slice A3 sn cp3) ss T Wf W) :=
    ⟨by rw [HNN.out, ← hbase]; exact (HL.out.more (show m + 1 ≤ 200000 by have := HM.out; omega)).now, IR9.out, B9.out, L9.out, by have := HWB2.out; have := HAG.out; omega⟩
  have HGL : Hid (g0 ≤ l ∧ wb < base) := by have := HWB2.out; have := HAG.out; rw [Hid]; omega
  clear HL B9 L9 IR9 HM hbase
  go_upto_region 8 with fail
  go_loopw [16, 17, 18, 19, 20] (fun u16 _ _ _ _ wr => ∃ s : Nat, s ≤ cn + 1 ∧ u16 = .int .i64 s ∧ ∃ V, Hid (Vpre tb wn W mm s V) ∧ Hid (V.length = wn) ∧ Hid (LO w0 wr g0 base wb l a g S K lv c0 js bs p cap (.slice A3 sn cp3) ss T Wf V)) (fun u16 _ _ _ _ _ => cn + 1 - (intOf u16).toNat)
  case atStart => exact ⟨0, by omega, rfl, W, .inl ⟨rfl, rfl⟩, HWN.out, LO0⟩
  case round =>
    clear LO0
    obtain ⟨s, hs, rfl, V, HV, HVL, HO⟩ := hrel
    by_cases hle : s ≤ cn
    · go_upto_region 11 with fail
      go_loopw [17, 18, 19] (fun u17 _ _ wr => ∃ i : Nat, i ≤ n ∧ u17 = .int .i64 i ∧ Hid (LO w0 wr g0 base wb l a g S K lv c0 js bs p cap (.slice A3 sn cp3) ss T Wf (apN T s V i))) (fun u17 _ _ _ => n - (intOf u17).toNat)
      case atStart => exact ⟨0, by omega, rfl, HO⟩
      case round =>
        clear HO
        obtain ⟨i, hi, rfl, HO⟩ := hrel
        by_cases hlt : i < n
        · have hij : i < js.length := by rw [HNN.out]; exact hlt
          have HIJ := Lib.hid hij
          have hc1 := HO.out.cell hij
          have WRT := Lib.hid (HO.out.l2.wrote hij)
          obtain ⟨x, hx⟩ : ∃ x, (T i).stamp = x := ⟨_, rfl⟩
          obtain ⟨z, hz⟩ : ∃ z, (wroteB (T i)).length = z := ⟨_, rfl⟩
          have HX := Lib.hid hx; have HZ := Lib.hid hz
          clear hij hx hz
          go_upto_region 14 with (first
            | (go_at_call 24; refine WRT.out.mono ?_; rintro e wa ⟨u, rfl, ht, hb⟩
               obtain ⟨Aw, cw, rfl⟩ := told_slice ht
               have HT : Hid (View.Told wa (wb + 1) (wroteB (T i)) (.slice Aw z cw)) := by
                 rw [HZ.out] at ht
                 exact ht.low (by have := HO.out.ir.lt; omega)
               rw [HZ.out]
               have HOa := Lib.hid (HO.out.below hb)
               have hc2 := HOa.out.cell HIJ.out
               have STM := Lib.hid (HOa.out.l2.stamp HIJ.out)
               rw [HX.out] at STM
               clear ht hb HO WRT hc1))
          by_cases hxs : x = (s : Int)
          rotate_left
          · have nb : (x == (s : Int)) = false := by rw [beq_eq_false_iff_ne]; exact hxs
            go_wp2_with (first
              | (go_at_call 23; refine STM.out.mono ?_; rintro e wc ⟨rfl, hb⟩
                 have HOc : Hid (LO w0 wc g0 base wb l a g S K lv c0 js bs p cap (.slice A3 sn cp3) ss T Wf (apN T s V (i + 1))) := by
                   have h := HOa.out.below hb
                   have e : apN T s V (i + 1) = apN T s V i := by
                     show ap1 T s (apN T s V i) i = _
                     unfold ap1; rw [if_neg]; rintro ⟨h1, _⟩; exact hxs (HX.out.symm.trans h1)
                   rw [e]; exact h
                 clear hb HOa STM hc2 HT))
            go_roundw
            case rel => exact ⟨i + 1, by omega, by go_num, HOc⟩
            case measure => simp [intOf]; omega
          · have HXS := Lib.hid hxs
            by_cases hz0 : z = 0
            · have nb : (x == (s : Int)) = true := by rw [beq_iff_eq]; exact hxs
              subst hz0
              go_wp2_with (first
                | (go_at_call 23; refine STM.out.mono ?_; rintro e wc ⟨rfl, hb⟩
                   have HOc : Hid (LO w0 wc g0 base wb l a g S K lv c0 js bs p cap (.slice A3 sn cp3) ss T Wf (apN T s V (i + 1))) := by
                     have h := HOa.out.below hb
                     have e : apN T s V (i + 1) = apN T s V i := by
                       show ap1 T s (apN T s V i) i = _
                       unfold ap1; rw [if_neg]; rintro ⟨_, h2⟩; exact h2 (List.length_eq_zero_iff.1 HZ.out)
                     rw [e]; exact h
                   clear hb HOa STM hc2 HT))
              go_roundw
              case rel => exact ⟨i + 1, by omega, by go_num, HOc⟩
              case measure => simp [intOf]; omega
            · have nb : (x == (s : Int)) = true := by rw [beq_iff_eq]; exact hxs
              have nz : ((z : Int) == 0) = false := by rw [beq_eq_false_iff_ne]; omega
              have HWNE : Hid (wroteB (T i) ≠ []) := fun e => hz0 (by rw [← HZ.out, e]; rfl)
              have zb : z ≤ 20 := by
                have h := (HO20.out i HIJ.out)
                rw [← HZ.out]; exact h
              go_upto_region 16 with (first
                | (go_at_call 23; refine STM.out.mono ?_; rintro e wc ⟨rfl, hb⟩
                   have HOc : Hid (LO w0 wc g0 base wb l a g S K lv c0 js bs p cap (.slice A3 sn cp3) ss T Wf (app (apN T s V i) ((wroteB (T i)).take 0))) := HOa.out.below hb
                   have HTc : Hid (View.Told wc (wb + 1) (wroteB (T i)) (.slice Aw z cw)) := HT.out.kept fun k hk => hb.block k (HT.out.own_lt hk)
                   clear hb HOa STM hc2 HT))
              clear nb nz
              go_loopw [19] (fun u19 wr => ∃ k : Nat, k ≤ z ∧ u19 = .int .i64 k ∧ Hid (LO w0 wr g0 base wb l a g S K lv c0 js bs p cap (.slice A3 sn cp3) ss T Wf (app (apN T s V i) ((wroteB (T i)).take k))) ∧ Hid (View.Told wr (wb + 1) (wroteB (T i)) (.slice Aw z cw))) (fun u19 _ => z - (intOf u19).toNat)
              case atStart => exact ⟨0, by omega, rfl, HOc, HTc⟩
              case round =>
                clear HOc HTc
                obtain ⟨k, hk, rfl, HO, HT⟩ := hrel
                by_cases hlt2 : k < z
                · have hkl : k < (wroteB (T i)).length := by rw [HZ.out]; exact hlt2
                  obtain ⟨pb, off, rfl, _, hr⟩ := (pair_row HT.out.pairs).2 k hkl
                  have hmem : (wroteB (T i))[k] ∈ wroteB (T i) := List.getElem_mem hkl
                  have hin := ((OE.out.wrote i hlt HWNE.out).2.2 _ hmem)
                  obtain ⟨⟨xa, y⟩, hxy⟩ : ∃ q, (wroteB (T i))[k] = q := ⟨_, rfl⟩
                  have HAT := Lib.hid (app_take (apN T s V i) (wroteB (T i)) hkl)
                  rw [hxy] at hr hin HAT
                  obtain ⟨za, hza⟩ : ∃ za : Nat, xa = za := ⟨xa.toNat, by have := hin.1; simp only at this; omega⟩
                  subst hza
                  have hz1 : tb ≤ za := by have := hin.1; simp only at this; omega
                  have hz2 : za < wn := by have := hin.2; simp only at this; omega
                  rw [show ((za : Int), y).1.toNat = za from Int.toNat_natCast za] at HAT
                  have hlen : Hid ((app (apN T s V i) ((wroteB (T i)).take k)).length = wn) := by rw [Hid, app_len, apN_len]; exact HVL.out
                  have P1 : wr.cell? ⟨pb, off + k * 2, none⟩ = some (.int .i64 za) := hr 0 _ rfl
                  have P2 : wr.cell? ⟨pb, off + k * 2 + 1, none⟩ = some (.int .i64 y) := hr 1 _ rfl
                  have HPB : Hid (pb ≠ wb) := by have := HT.out.block (k := pb) rfl; rw [Hid]; omega
                  have R0 := HO.out.row
                  clear hr hmem hin hxy hkl
                  go_upto_region 18 with fail
                  refine start_ (n := 18) (S := fun w' => w'.heap[l]? = some (.cells lv 29 (0, 0)) ∧ w'.cell? ⟨pb, off + k * 2, none⟩ = some (.int .i64 za)) (ds := []) #[false, false, false, false, false, false, false, false, false, false, false, false, false, false, false, false, false, false] (by kernel_rfl) rfl rfl ⟨R0, P1⟩ (fun hHeld => ?_)
                  refine pure_ (i := 0) (N := (some 89)) (v := ?_) (a' := ?_) #[true, false, false, false, false, false, false, false, false, false, false, false, false, false, false, false, false, false] rfl rfl (by kernel_rfl) (fun _ _ _ h => h) (Or.inl ⟨by rfl, ?_⟩) ?_ ?_
                  rotate_left
                  · intro w'
                    go_simp
                    with_reducible rfl
                  rotate_left
                  · simp only [Act.put, List.setIfInBounds_toArray, List.set_cons_zero, List.set_cons_succ, i64_w, i32_w]
                    rfl
                  refine pure_ (i := 1) (N := (some 90)) (v := ?_) (a' := ?_) #[true, true, false, false, false, false, false, false, false, false, false, false, false, false, false, false, false, false] rfl rfl (by kernel_rfl) (fun _ _ _ h => h) (Or.inl ⟨by rfl, ?_⟩) ?_ ?_
                  rotate_left
                  · intro w'
                    go_simp
                    with_reducible rfl
                  rotate_left
                  · simp only [Act.put, List.setIfInBounds_toArray, List.set_cons_zero, List.set_cons_succ, i64_w, i32_w]
                    rfl
                  refine pure_ (i := 2) (N := (some 91)) (v := ?_) (a' := ?_) #[true, true, true, false, false, false, false, false, false, false, false, false, false, false, false, false, false, false] rfl rfl (by kernel_rfl) (fun _ _ _ h => h) (Or.inl ⟨by rfl, ?_⟩) ?_ ?_
                  rotate_left
                  · intro w'
                    go_simp
                    with_reducible rfl
                  rotate_left
                  · simp only [Act.put, List.setIfInBounds_toArray, List.set_cons_zero, List.set_cons_succ, i64_w, i32_w]
                    rfl
                  refine pure_ (i := 3) (N := (some 92)) (v := ?_) (a' := ?_) #[true, true, true, true, false, false, false, false, false, false, false, false, false, false, false, false, false, false] rfl rfl (by kernel_rfl) (fun _ _ _ h => h) (Or.inl ⟨by rfl, ?_⟩) ?_ ?_
                  rotate_left
                  · intro w'
                    go_simp
                    with_reducible rfl
                  rotate_left
                  · simp only [Act.put, List.setIfInBounds_toArray, List.set_cons_zero, List.set_cons_succ, i64_w, i32_w]
                    rfl
                  refine take_ (i := 4) (N := (some 93)) (v := ?_) (a' := ?_) #[true, true, true, true, true, false, false, false, false, false, false, false, false, false, false, false, false, false] rfl rfl (by kernel_rfl) (fun _ _ _ h => h) (Or.inl ⟨by rfl, ?_⟩) hHeld ?_ ?_
                  rotate_left
                  · rintro w' ⟨s0, s1⟩
                    go_simp
                    with_reducible rfl
                  rotate_left
                  · simp only [Act.put, List.setIfInBounds_toArray, List.set_cons_zero, List.set_cons_succ, i64_w, i32_w]
                    rfl
                  refine take_ (i := 5) (N := (some 94)) (v := .agg lv.toList.toArray) (a' := ?_) #[true, true, true, true, true, true, false, false, false, false, false, false, false, false, false, false, false, false] rfl rfl (by kernel_rfl) (fun _ _ _ h => h) (by exact yieldsIf_load_mid rfl 29 _ rfl l 0 rfl lv.toList _ (fun w' s0 => row_range s0.1 0 _ (fun j v h => by rw [Nat.zero_add]; simpa using h)) Tryz.underlying29 rfl HLS.out) hHeld ?_ ?_
                  rotate_left
                  · simp only [Act.put, List.setIfInBounds_toArray, List.set_cons_zero, List.set_cons_succ, i64_w, i32_w]
                    rfl
                  refine one_ (i := 6) (N := (some 95)) #[true, true, true, true, true, true, true, false, false, false, false, false, false, false, false, false, false, false] rfl rfl (by kernel_rfl) (by decide) (fun K hK => ?_)
                  refine goes_ Tryz.func15 (by kernel_rfl) rfl #[.agg lv, .int .i64 0] (by rfl) rfl rfl (by first | rfl | (simp [Act.eval]; done) | (go_simp; done)) ?_
                  refine (HTB.out wr.drew).mono ?_
                  rintro e wt ⟨rfl, hb⟩
                  have bt : Below wr.heap.size wr wt := (show Below wr.heap.size wr wr.drew from (Below.refl _ _).drew).trans hb
                  have HOt := Lib.hid (HO.out.below bt)
                  have HTt : Hid (View.Told wt (wb + 1) (wroteB (T i)) (.slice (some ⟨pb, off, none⟩) z cw)) := HT.out.kept fun q hq => bt.block q (HT.out.own_lt hq)
                  have Rt := HOt.out.row
                  have P1t : wt.cell? ⟨pb, off + k * 2, none⟩ = some (.int .i64 za) := by rw [← P1]; exact bt.cell (World.block_lt_of_cell? _ _ P1)
                  have P2t : wt.cell? ⟨pb, off + k * 2 + 1, none⟩ = some (.int .i64 y) := by rw [← P2]; exact bt.cell (World.block_lt_of_cell? _ _ P2)
                  clear hb bt HO HT R0 P1 P2
                  refine ⟨_, rfl, ?_⟩
                  refine hK.out _ _ ⟨Rt, P1t⟩ (fun hHeld => ?_)
                  clear hK K
                  refine norm_ (a' := ?_) ?_ ?_
                  rotate_left
                  · show Act.put _ (some 95) _ = _
                    simp only [Act.put, List.setIfInBounds_toArray, List.set_cons_zero, List.set_cons_succ, i64_w, i32_w]
                    rfl
                  have E7 : decide ((za : Int) < (tb : Int)) = false := by rw [decide_eq_false_iff_not]; omega
                  refine pure_ (i := 7) (N := (some 96)) (v := .bool false) (a' := ?_) #[true, true, true, true, true, true, true, true, false, false, false, false, false, false, false, false, false, false] rfl rfl (by kernel_rfl) (fun _ _ _ h => h) (Or.inl ⟨by rfl, fun w' => by go_simp; (try rw [E7]); (try rfl)⟩) ?_ ?_
                  rotate_left
                  · simp only [Act.put, List.setIfInBounds_toArray, List.set_cons_zero, List.set_cons_succ, i64_w, i32_w]
                    rfl
                  refine pure_ (i := 8) (N := (some 97)) (v := ?_) (a' := ?_) #[true, true, true, true, true, true, true, true, true, false, false, false, false, false, false, false, false, false] rfl rfl (by kernel_rfl) (fun _ _ _ h => h) (Or.inl ⟨by rfl, ?_⟩) ?_ ?_
                  rotate_left
                  · intro w'
                    go_simp
                    with_reducible rfl
                  rotate_left
                  · simp only [Act.put, List.setIfInBounds_toArray, List.set_cons_zero, List.set_cons_succ, i64_w, i32_w]
                    rfl
                  refine pure_ (i := 9) (N := (some 98)) (v := ?_) (a' := ?_) #[true, true, true, true, true, true, true, true, true, true, false, false, false, false, false, false, false, false] rfl rfl (by kernel_rfl) (fun _ _ _ h => h) (Or.inl ⟨by rfl, ?_⟩) ?_ ?_
                  rotate_left
                  · intro w'
                    go_simp
                    with_reducible rfl
                  rotate_left
                  · simp only [Act.put, List.setIfInBounds_toArray, List.set_cons_zero, List.set_cons_succ, i64_w, i32_w]
                    rfl
                  refine pure_ (i := 10) (N := (some 99)) (v := ?_) (a' := ?_) #[true, true, true, true, true, true, true, true, true, true, true, false, false, false, false, false, false, false] rfl rfl (by kernel_rfl) (fun _ _ _ h => h) (Or.inl ⟨by rfl, ?_⟩) ?_ ?_
                  rotate_left
                  · intro w'
                    go_simp
                    with_reducible rfl
                  rotate_left
                  · simp only [Act.put, List.setIfInBounds_toArray, List.set_cons_zero, List.set_cons_succ, i64_w, i32_w]
                    rfl
                  refine pure_ (i := 11) (N := (some 100)) (v := ?_) (a' := ?_) #[true, true, true, true, true, true, true, true, true, true, true, true, false, false, false, false, false, false] rfl rfl (by kernel_rfl) (fun _ _ _ h => h) (Or.inl ⟨by rfl, ?_⟩) ?_ ?_
                  rotate_left
                  · intro w'
                    go_simp
                    with_reducible rfl
                  rotate_left
                  · simp only [Act.put, List.setIfInBounds_toArray, List.set_cons_zero, List.set_cons_succ, i64_w, i32_w]
                    rfl
                  refine pure_ (i := 12) (N := (some 101)) (v := ?_) (a' := ?_) #[true, true, true, true, true, true, true, true, true, true, true, true, true, false, false, false, false, false] rfl rfl (by kernel_rfl) (fun _ _ _ h => h) (Or.inl ⟨by rfl, ?_⟩) ?_ ?_
                  rotate_left
                  · intro w'
                    go_simp
                    with_reducible rfl
                  rotate_left
                  · simp only [Act.put, List.setIfInBounds_toArray, List.set_cons_zero, List.set_cons_succ, i64_w, i32_w]
                    rfl
                  refine take_ (i := 13) (N := (some 102)) (v := ?_) (a' := ?_) #[true, true, true, true, true, true, true, true, true, true, true, true, true, true, false, false, false, false] rfl rfl (by kernel_rfl) (fun _ _ _ h => h) (Or.inl ⟨by rfl, ?_⟩) hHeld ?_ ?_
                  rotate_left
                  · rintro w' ⟨s0, s1⟩
                    go_simp
                    with_reducible rfl
                  rotate_left
                  · simp only [Act.put, List.setIfInBounds_toArray, List.set_cons_zero, List.set_cons_succ, i64_w, i32_w]
                    rfl
                  refine pure_ (i := 14) (N := (some 103)) (v := ?_) (a' := ?_) #[true, true, true, true, true, true, true, true, true, true, true, true, true, true, true, false, false, false] rfl rfl (by kernel_rfl) (fun _ _ _ h => h) (Or.inl ⟨by rfl, ?_⟩) ?_ ?_
                  rotate_left
                  · intro w'
                    go_simp
                    with_reducible rfl
                  rotate_left
                  · simp only [Act.put, List.setIfInBounds_toArray, List.set_cons_zero, List.set_cons_succ, i64_w, i32_w]
                    rfl
                  refine pure_ (i := 15) (N := (some 104)) (v := ?_) (a' := ?_) #[true, true, true, true, true, true, true, true, true, true, true, true, true, true, true, true, false, false] rfl rfl (by kernel_rfl) (fun _ _ _ h => h) (Or.inl ⟨by rfl, ?_⟩) ?_ ?_
                  rotate_left
                  · intro w'
                    go_simp
                    with_reducible rfl
                  rotate_left
                  · simp only [Act.put, List.setIfInBounds_toArray, List.set_cons_zero, List.set_cons_succ, i64_w, i32_w]
                    rfl
                  have E16 : decide ((wn : Int) ≤ (za : Int)) = false := by rw [decide_eq_false_iff_not]; omega
                  refine pure_ (i := 16) (N := (some 105)) (v := .bool false) (a' := ?_) #[true, true, true, true, true, true, true, true, true, true, true, true, true, true, true, true, true, false] rfl rfl (by kernel_rfl) (fun _ _ _ h => h) (Or.inl ⟨by rfl, fun w' => by go_simp; (try rw [E16]); (try rfl)⟩) ?_ ?_
                  rotate_left
                  · simp only [Act.put, List.setIfInBounds_toArray, List.set_cons_zero, List.set_cons_succ, i64_w, i32_w]
                    rfl
                  refine pure_ (i := 17) (N := (some 106)) (v := ?_) (a' := ?_) #[true, true, true, true, true, true, true, true, true, true, true, true, true, true, true, true, true, true] rfl rfl (by kernel_rfl) (fun _ _ _ h => h) (Or.inl ⟨by rfl, ?_⟩) ?_ ?_
                  rotate_left
                  · intro w'
                    go_simp
                    with_reducible rfl
                  rotate_left
                  · simp only [Act.put, List.setIfInBounds_toArray, List.set_cons_zero, List.set_cons_succ, i64_w, i32_w]
                    rfl
                  refine done_ (by kernel_rfl) ?_
                  go_upto_region 20 with fail
                  refine start_ (n := 13) (S := fun w' => w'.cell? ⟨pb, off + k * 2, none⟩ = some (.int .i64 za) ∧ w'.cell? ⟨pb, off + k * 2 + 1, none⟩ = some (.int .i64 y)) (ds := [12]) #[false, false, false, false, false, false, false, false, false, false, false, false, false] (by kernel_rfl) rfl rfl ⟨P1t, P2t⟩ (fun hHeld => ?_)
                  refine pure_ (i := 0) (N := (some 107)) (v := ?_) (a' := ?_) #[true, false, false, false, false, false, false, false, false, false, false, false, false] rfl rfl (by kernel_rfl) (fun _ _ _ h => h) (Or.inl ⟨by rfl, ?_⟩) ?_ ?_
                  rotate_left
                  · intro w'
                    go_simp
                    with_reducible rfl
                  rotate_left
                  · simp only [Act.put, List.setIfInBounds_toArray, List.set_cons_zero, List.set_cons_succ, i64_w, i32_w]
                    rfl
                  refine pure_ (i := 1) (N := (some 108)) (v := ?_) (a' := ?_) #[true, true, false, false, false, false, false, false, false, false, false, false, false] rfl rfl (by kernel_rfl) (fun _ _ _ h => h) (Or.inl ⟨by rfl, ?_⟩) ?_ ?_
                  rotate_left
                  · intro w'
                    go_simp
                    with_reducible rfl
                  rotate_left
                  · simp only [Act.put, List.setIfInBounds_toArray, List.set_cons_zero, List.set_cons_succ, i64_w, i32_w]
                    rfl
                  refine pure_ (i := 2) (N := (some 109)) (v := ?_) (a' := ?_) #[true, true, true, false, false, false, false, false, false, false, false, false, false] rfl rfl (by kernel_rfl) (fun _ _ _ h => h) (Or.inl ⟨by rfl, ?_⟩) ?_ ?_
                  rotate_left
                  · intro w'
                    go_simp
                    with_reducible rfl
                  rotate_left
                  · simp only [Act.put, List.setIfInBounds_toArray, List.set_cons_zero, List.set_cons_succ, i64_w, i32_w]
                    rfl
                  refine pure_ (i := 3) (N := (some 110)) (v := ?_) (a' := ?_) #[true, true, true, true, false, false, false, false, false, false, false, false, false] rfl rfl (by kernel_rfl) (fun _ _ _ h => h) (Or.inl ⟨by rfl, ?_⟩) ?_ ?_
                  rotate_left
                  · intro w'
                    go_simp
                    with_reducible rfl
                  rotate_left
                  · simp only [Act.put, List.setIfInBounds_toArray, List.set_cons_zero, List.set_cons_succ, i64_w, i32_w]
                    rfl
                  refine pure_ (i := 4) (N := (some 111)) (v := ?_) (a' := ?_) #[true, true, true, true, true, false, false, false, false, false, false, false, false] rfl rfl (by kernel_rfl) (fun _ _ _ h => h) (Or.inl ⟨by rfl, ?_⟩) ?_ ?_
                  rotate_left
                  · intro w'
                    go_simp
                    with_reducible rfl
                  rotate_left
                  · simp only [Act.put, List.setIfInBounds_toArray, List.set_cons_zero, List.set_cons_succ, i64_w, i32_w]
                    rfl
                  refine take_ (i := 5) (N := (some 112)) (v := ?_) (a' := ?_) #[true, true, true, true, true, true, false, false, false, false, false, false, false] rfl rfl (by kernel_rfl) (fun _ _ _ h => h) (Or.inl ⟨by rfl, ?_⟩) hHeld ?_ ?_
                  rotate_left
                  · rintro w' ⟨s0, s1⟩
                    go_simp
                    with_reducible rfl
                  rotate_left
                  · simp only [Act.put, List.setIfInBounds_toArray, List.set_cons_zero, List.set_cons_succ, i64_w, i32_w]
                    rfl
                  refine pure_ (i := 6) (N := (some 113)) (v := ?_) (a' := ?_) #[true, true, true, true, true, true, true, false, false, false, false, false, false] rfl rfl (by kernel_rfl) (fun _ _ _ h => h) (Or.inl ⟨by rfl, ?_⟩) ?_ ?_
                  rotate_left
                  · intro w'
                    go_simp
                    with_reducible rfl
                  rotate_left
                  · simp only [Act.put, List.setIfInBounds_toArray, List.set_cons_zero, List.set_cons_succ, i64_w, i32_w]
                    rfl
                  refine pure_ (i := 7) (N := (some 114)) (v := ?_) (a' := ?_) #[true, true, true, true, true, true, true, true, false, false, false, false, false] rfl rfl (by kernel_rfl) (fun _ _ _ h => h) (Or.inl ⟨by rfl, ?_⟩) ?_ ?_
                  rotate_left
                  · intro w'
                    go_simp
                    with_reducible rfl
                  rotate_left
                  · simp only [Act.put, List.setIfInBounds_toArray, List.set_cons_zero, List.set_cons_succ, i64_w, i32_w]
                    rfl
                  refine pure_ (i := 8) (N := (some 115)) (v := ?_) (a' := ?_) #[true, true, true, true, true, true, true, true, true, false, false, false, false] rfl rfl (by kernel_rfl) (fun _ _ _ h => h) (Or.inl ⟨by rfl, ?_⟩) ?_ ?_
                  rotate_left
                  · intro w'
                    go_simp
                    with_reducible rfl
                  rotate_left
                  · simp only [Act.put, List.setIfInBounds_toArray, List.set_cons_zero, List.set_cons_succ, i64_w, i32_w]
                    rfl
                  refine pure_ (i := 9) (N := (some 116)) (v := ?_) (a' := ?_) #[true, true, true, true, true, true, true, true, true, true, false, false, false] rfl rfl (by kernel_rfl) (fun _ _ _ h => h) (Or.inl ⟨by rfl, ?_⟩) ?_ ?_
                  rotate_left
                  · intro w'
                    go_simp
                    with_reducible rfl
                  rotate_left
                  · simp only [Act.put, List.setIfInBounds_toArray, List.set_cons_zero, List.set_cons_succ, i64_w, i32_w]
                    rfl
                  refine take_ (i := 10) (N := (some 117)) (v := ?_) (a' := ?_) #[true, true, true, true, true, true, true, true, true, true, true, false, false] rfl rfl (by kernel_rfl) (fun _ _ _ h => h) (Or.inl ⟨by rfl, ?_⟩) hHeld ?_ ?_
                  rotate_left
                  · rintro w' ⟨s0, s1⟩
                    go_simp
                    with_reducible rfl
                  rotate_left
                  · simp only [Act.put, List.setIfInBounds_toArray, List.set_cons_zero, List.set_cons_succ, i64_w, i32_w]
                    rfl
                  refine pure_ (i := 11) (N := (some 118)) (v := ?_) (a' := ?_) #[true, true, true, true, true, true, true, true, true, true, true, true, false] rfl rfl (by kernel_rfl) (fun _ _ _ h => h) (Or.inl ⟨by rfl, ?_⟩) ?_ ?_
                  rotate_left
                  · intro w'
                    go_simp
                    with_reducible rfl
                  rotate_left
                  · simp only [Act.put, List.setIfInBounds_toArray, List.set_cons_zero, List.set_cons_succ, i64_w, i32_w]
                    rfl
                  have HOd := Lib.hid HOt.out.drew
                  have q1 := HOd.out.ir.get (j := za) (by rw [hlen.out]; exact hz2)
                  have q2 := HOd.out.ir.set za y
                  have q3 := HOd.out.ir.free za
                  refine last_ (i := 12) (N := none) #[true, true, true, true, true, true, true, true, true, true, true, true, true] rfl rfl (by kernel_rfl) (by decide) (fun K hK => ?_)
                  refine skip_ (by rfl) rfl (w1 := ?_) ?_ ?_
                  rotate_left
                  · go_simp
                    with_reducible rfl
                  rotate_left
                  refine hK.out _ _ ?_
                  clear hK K
                  have HOe : Hid (LO w0 (wt.drew.setRow wb ((((app (apN T s V i) ((wroteB (T i)).take k)).map (Value.int .i64)).set za (.int .i64 y)).toArray)) g0 base wb l a g S K lv c0 js bs p cap (.slice A3 sn cp3) ss T Wf (app (apN T s V i) ((wroteB (T i)).take (k + 1)))) := by have h := HOd.out.store ((app (apN T s V i) ((wroteB (T i)).take k)).set za y); rw [List.map_set, HAT.out] at h; exact h
                  have HTe : Hid (View.Told (wt.drew.setRow wb ((((app (apN T s V i) ((wroteB (T i)).take k)).map (Value.int .i64)).set za (.int .i64 y)).toArray)) (wb + 1) (wroteB (T i)) (.slice (some ⟨pb, off, none⟩) z cw)) := HTt.out.kept fun q hq => setRow_other _ _ _ _ (by have := HTt.out.block hq; omega)
                  obtain ⟨we, hwe⟩ : ∃ we, wt.drew.setRow wb ((((app (apN T s V i) ((wroteB (T i)).take k)).map (Value.int .i64)).set za (.int .i64 y)).toArray) = we := ⟨_, rfl⟩
                  rw [hwe] at HOe HTe ⊢
                  clear hwe q1 q2 q3 HOd HOt HTt Rt P1t P2t hHeld E7 E16
                  refine done_ (by kernel_rfl) ?_
                  go_wp2
                  go_roundw
                  case rel => exact ⟨k + 1, by omega, by go_num, HOe, HTe⟩
                  case measure => simp [intOf]; omega
                · obtain rfl : z = k := by omega
                  have HOz : Hid (LO w0 wr g0 base wb l a g S K lv c0 js bs p cap (.slice A3 sn cp3) ss T Wf (apN T s V (i + 1))) := by
                    have h := HO.out
                    rw [List.take_of_length_le (by rw [HZ.out]; exact Nat.le_refl _)] at h
                    have e : apN T s V (i + 1) = app (apN T s V i) (wroteB (T i)) := by
                      show ap1 T s (apN T s V i) i = _
                      unfold ap1; rw [if_pos ⟨HX.out.trans HXS.out, HWNE.out⟩]
                    rw [e]; exact h
                  clear HO HT
                  go_wp2
                  go_roundw
                  case rel => exact ⟨i + 1, by omega, by go_num, HOz⟩
                  case measure => simp [intOf]; omega
        · obtain rfl : n = i := by omega
          have HVK := Lib.hid (OE.out.stamp (by rw [HWN.out]) (by omega) HV.out)
          have HVL2 : Hid ((apN T s V n).length = wn) := by rw [Hid, apN_len]; exact HVL.out
          obtain ⟨V2, hV2⟩ : ∃ V2, apN T s V n = V2 := ⟨_, rfl⟩
          rw [hV2] at HO HVK HVL2
          clear hV2 HV HVL
          go_upto_region 22 with fail
          go_loopw [20] (fun u20 wr => ∃ i : Nat, i ≤ n ∧ u20 = .int .i64 i ∧ Hid (LO w0 wr g0 base wb l a g S K lv c0 js bs p cap (.slice A3 sn cp3) ss T Wf V2)) (fun u20 _ => n - (intOf u20).toNat)
          case atStart => exact ⟨0, by omega, rfl, HO⟩
          case round =>
            clear HO
            obtain ⟨i, hi2, rfl, HO⟩ := hrel
            by_cases hlt : i < n
            · have hij : i < js.length := by rw [HNN.out]; exact hlt
              have HIJ := Lib.hid hij
              have hc1 := HO.out.cell hij
              have SEE := Lib.hid (HO.out.l2.seen hij)
              obtain ⟨x, hx⟩ : ∃ x, (T i).seen = x := ⟨_, rfl⟩
              have HX := Lib.hid hx
              rw [hx] at SEE
              clear hij hx
              by_cases hxs : x = (s : Int)
              rotate_left
              · have nb : (x == (s : Int)) = false := by rw [beq_eq_false_iff_ne]; exact hxs
                go_wp2_with (first
                  | (go_at_call 30; refine SEE.out.mono ?_; rintro e wc ⟨rfl, hb⟩
                     have HOc := Lib.hid (HO.out.below hb)
                     clear hb HO SEE hc1))
                go_roundw
                case rel => exact ⟨i + 1, by omega, by go_num, HOc⟩
                case measure => simp [intOf]; omega
              · have nb : (x == (s : Int)) = true := by rw [beq_iff_eq]; exact hxs
                have SB := Lib.hid (OE.out.stands (by omega) (by omega) HVK.out hlt (HX.out.trans hxs))
                go_wp2_with (first
                  | (go_at_call 30; refine SEE.out.mono ?_; rintro e wc ⟨rfl, hb⟩
                     have HOc := Lib.hid (HO.out.below hb)
                     have hc2 := HOc.out.cell HIJ.out
                     have RD := Lib.hid (HOc.out.l2.reads HIJ.out)
                     clear hb HO SEE hc1)
                  | (go_at_call 29; refine RD.out.mono ?_; rintro e wd ⟨u, rfl, ht, hb⟩
                     have HOd := Lib.hid (HOc.out.below hb)
                     have STD := Lib.hid (stands_true HOd.out.ir (by rw [HVL2.out]; omega) ht.pairs SB.out)
                     rw [HVL2.out] at STD
                     clear ht hb HOc RD hc2)
                  | (go_at_call 31; refine STD.out.mono ?_; rintro e we ⟨rfl, j, rfl⟩
                     have HOe := Lib.hid (HOd.out.drewN j)
                     clear HOd STD))
                go_roundw
                case rel => exact ⟨i + 1, by omega, by go_num, HOe⟩
                case measure => simp [intOf]; omega
            · obtain rfl : n = i := by omega
              have HVN : Hid (Vpre tb wn W mm (s + 1) V2) := HVK.out.next
              go_wp2
              go_roundw
              case rel => exact ⟨s + 1, by omega, by go_num, V2, HVN, HVL2, HO⟩
              case measure => simp [intOf]; omega
    · obtain rfl : s = cn + 1 := by omega
      have HVK : Hid (Vok tb wn mm cn V) := by
        rcases HV.out with ⟨h, _⟩ | ⟨k, h, hk⟩
        · omega
        · have : k = cn := by omega
          rw [← this]; exact hk
      have FIN : Hid (Wf.drop tb = V.drop tb) := by
        have h := OE.out.final (by omega) (by rw [HWF.out]) (by rw [HCN.out]; exact HVK.out)
        rw [Int.toNat_natCast] at h; exact h
      have WT := Lib.hid (words_of_l2 HO.out.l2 (by rw [HWF.out]; omega))
      rw [HWF.out] at WT
      go_upto_region 27 with (first
        | (go_at_call 26; refine WT.out.mono ?_; rintro e wa ⟨wb2, rfl, hge, hrow, hb⟩
           have HOa := Lib.hid (HO.out.below hb)
           have IRa : Hid (IR wa wb2 Wf) := hrow
           have Ra := Lib.hid HOa.out.row
           clear hb hrow WT HO hge))
      have ne0 : ((wn : Int) == wn) = true := by rw [beq_iff_eq]
      go_upto_region 29 with (first
        | (refine wpList_load_row_if rfl 29 _ rfl l rfl 29 lv (0, 0) _ Ra.out Tryz.underlying29 rfl HLS.out ?_)
        | (go_at_call 15; refine (HTB.out _).mono ?_; rintro e wc ⟨rfl, hb⟩
           have HOc := Lib.hid (HOa.out.below hb)
           have IRc : Hid (IR wc wb2 Wf) := IRa.out.keep (hb.block _ IRa.out.lt)
           have R0 := HOc.out.row
           clear hb HOa IRa Ra))
      refine start_ (n := 13) (S := fun w' => w'.heap[l]? = some (.cells lv 29 (0, 0))) (ds := []) #[false, false, false, false, false, false, false, false, false, false, false, false, false] (by kernel_rfl) rfl rfl R0 (fun hHeld => ?_)
      refine pure_ (i := 0) (N := (some 156)) (v := ?_) (a' := ?_) #[true, false, false, false, false, false, false, false, false, false, false, false, false] rfl rfl (by kernel_rfl) (fun _ _ _ h => h) (Or.inl ⟨by rfl, ?_⟩) ?_ ?_
      rotate_left
      · intro w'
        go_simp
        with_reducible rfl
      rotate_left
      · simp only [Act.put, List.setIfInBounds_toArray, List.set_cons_zero, List.set_cons_succ, i64_w, i32_w]
        rfl
      refine take_ (i := 1) (N := (some 157)) (v := .agg lv.toList.toArray) (a' := ?_) #[true, true, false, false, false, false, false, false, false, false, false, false, false] rfl rfl (by kernel_rfl) (fun _ _ _ h => h) (by exact yieldsIf_load_mid rfl 29 _ rfl l 0 rfl lv.toList _ (fun w' s0 => row_range s0 0 _ (fun j v h => by rw [Nat.zero_add]; simpa using h)) Tryz.underlying29 rfl HLS.out) hHeld ?_ ?_
      rotate_left
      · simp only [Act.put, List.setIfInBounds_toArray, List.set_cons_zero, List.set_cons_succ, i64_w, i32_w]
        rfl
      refine pure_ (i := 4) (N := (some 160)) (v := ?_) (a' := ?_) #[true, true, false, false, true, false, false, false, false, false, false, false, false] rfl rfl (by kernel_rfl) (fun _ _ _ h => h) (Or.inl ⟨by rfl, ?_⟩) ?_ ?_
      rotate_left
      · intro w'
        go_simp
        with_reducible rfl
      rotate_left
      · simp only [Act.put, List.setIfInBounds_toArray, List.set_cons_zero, List.set_cons_succ, i64_w, i32_w]
        rfl
      refine take_ (i := 5) (N := (some 161)) (v := .agg lv.toList.toArray) (a' := ?_) #[true, true, false, false, true, true, false, false, false, false, false, false, false] rfl rfl (by kernel_rfl) (fun _ _ _ h => h) (by exact yieldsIf_load_mid rfl 29 _ rfl l 0 rfl lv.toList _ (fun w' s0 => row_range s0 0 _ (fun j v h => by rw [Nat.zero_add]; simpa using h)) Tryz.underlying29 rfl HLS.out) hHeld ?_ ?_
      rotate_left
      · simp only [Act.put, List.setIfInBounds_toArray, List.set_cons_zero, List.set_cons_succ, i64_w, i32_w]
        rfl
      have SLC : tb ≤ wn ∧ wn ≤ wn := ⟨by omega, Nat.le_refl _⟩
      refine one_ (i := 2) (N := (some 158)) #[true, true, true, false, true, true, false, false, false, false, false, false, false] rfl rfl (by kernel_rfl) (by decide) (fun K hK => ?_)
      refine goes_ Tryz.func15 (by kernel_rfl) rfl #[.agg lv, .int .i64 0] (by rfl) rfl rfl (by first | rfl | (simp [Act.eval]; done) | (go_simp; done)) ?_
      refine (HTB.out wc.drew).mono ?_
      rintro e wd ⟨rfl, hb⟩
      have hb := (show Below wc.heap.size wc wc.drew from (Below.refl _ _).drew).trans hb
      have HOd := Lib.hid (HOc.out.below hb)
      have IRd : Hid (IR wd wb2 Wf) := IRc.out.keep (hb.block _ IRc.out.lt)
      have R1x := HOd.out.row
      clear hb
      refine ⟨_, rfl, ?_⟩
      refine hK.out _ _ R1x (fun hHeld => ?_)
      clear hK K
      refine norm_ (a' := ?_) ?_ ?_
      rotate_left
      · show Act.put _ (some 158) _ = _
        simp only [Act.put, List.setIfInBounds_toArray, List.set_cons_zero, List.set_cons_succ, i64_w, i32_w]
        rfl
      refine pure_ (i := 3) (N := (some 159)) (v := .slice (some ⟨wb2, tb, none⟩) (wn - tb) (wn - tb)) (a' := ?_) #[true, true, true, true, true, true, false, false, false, false, false, false, false] rfl rfl (by kernel_rfl) (fun _ _ _ h => h) (Or.inl ⟨by rfl, fun w' => by go_simp; (try rw [if_pos SLC]); (try simp); (try omega); (try rfl)⟩) ?_ ?_
      rotate_left
      · simp only [Act.put, List.setIfInBounds_toArray, List.set_cons_zero, List.set_cons_succ, i64_w, i32_w]
        rfl
      refine one_ (i := 6) (N := (some 162)) #[true, true, true, true, true, true, true, false, false, false, false, false, false] rfl rfl (by kernel_rfl) (by decide) (fun K hK => ?_)
      refine goes_ Tryz.func15 (by kernel_rfl) rfl #[.agg lv, .int .i64 0] (by rfl) rfl rfl (by first | rfl | (simp [Act.eval]; done) | (go_simp; done)) ?_
      refine (HTB.out wd).mono ?_
      rintro e we ⟨rfl, hb⟩
      have HOe := Lib.hid (HOd.out.below hb)
      have IRe : Hid (IR we wb2 Wf) := IRd.out.keep (hb.block _ IRd.out.lt)
      have R2x := HOe.out.row
      clear hb
      refine ⟨_, rfl, ?_⟩
      refine hK.out _ _ R2x (fun hHeld => ?_)
      clear hK K
      refine norm_ (a' := ?_) ?_ ?_
      rotate_left
      · show Act.put _ (some 162) _ = _
        simp only [Act.put, List.setIfInBounds_toArray, List.set_cons_zero, List.set_cons_succ, i64_w, i32_w]
        rfl
      refine pure_ (i := 7) (N := (some 163)) (v := .slice (some ⟨wb, tb, none⟩) (wn - tb) (wn - tb)) (a' := ?_) #[true, true, true, true, true, true, true, true, false, false, false, false, false] rfl rfl (by kernel_rfl) (fun _ _ _ h => h) (Or.inl ⟨by rfl, fun w' => by go_simp; (try rw [if_pos SLC]); (try simp); (try omega); (try rfl)⟩) ?_ ?_
      rotate_left
      · simp only [Act.put, List.setIfInBounds_toArray, List.set_cons_zero, List.set_cons_succ, i64_w, i32_w]
        rfl
      refine one_ (i := 8) (N := (some 164)) #[true, true, true, true, true, true, true, true, true, false, false, false, false] rfl rfl (by kernel_rfl) (by decide) (fun K hK => ?_)
      refine goes_ Tryz.func27 (by kernel_rfl) rfl #[.slice (some ⟨wb2, tb, none⟩) (wn - tb) (wn - tb), .slice (some ⟨wb, tb, none⟩) (wn - tb) (wn - tb)] (by rfl) rfl rfl (by first | rfl | (simp [Act.eval]; done) | (go_simp; done)) ?_
      refine (View.ints_same (ir_drop IRe.out HWF.out (by omega) (by omega)) (ir_drop HOe.out.ir HVL.out (by omega) (by omega))).mono ?_
      rintro e wg ⟨rfl, j, rfl⟩
      rw [decide_eq_true FIN.out]
      have HOg := Lib.hid (HOe.out.drewN j)
      have R3x := HOg.out.row
      refine ⟨_, rfl, ?_⟩
      refine hK.out _ _ R3x (fun hHeld => ?_)
      clear hK K
      refine norm_ (a' := ?_) ?_ ?_
      rotate_left
      · show Act.put _ (some 164) _ = _
        simp only [Act.put, List.setIfInBounds_toArray, List.set_cons_zero, List.set_cons_succ, i64_w, i32_w]
        rfl
      refine pure_ (i := 9) (N := (some 165)) (v := ?_) (a' := ?_) #[true, true, true, true, true, true, true, true, true, true, false, false, false] rfl rfl (by kernel_rfl) (fun _ _ _ h => h) (Or.inl ⟨by rfl, ?_⟩) ?_ ?_
      rotate_left
      · intro w'
        go_simp
        with_reducible rfl
      rotate_left
      · simp only [Act.put, List.setIfInBounds_toArray, List.set_cons_zero, List.set_cons_succ, i64_w, i32_w]
        rfl
      refine one_ (i := 10) (N := (some 166)) #[true, true, true, true, true, true, true, true, true, true, true, false, false] rfl rfl (by kernel_rfl) (by decide) (fun K hK => ?_)
      refine goes_ Tryz.func17 (by kernel_rfl) rfl #[] (by rfl) rfl rfl (by first | rfl | (simp [Act.eval]; done) | (go_simp; done)) ?_
      refine (LN.out _).mono ?_
      rintro e wz ⟨rfl, hb⟩
      have HOz := Lib.hid (HOg.out.below hb)
      have BZ : Hid (Below g0 w0 wz) := HOz.out.bel
      have R4x := HOz.out.row
      clear hb
      refine ⟨_, rfl, ?_⟩
      refine hK.out _ _ R4x (fun hHeld => ?_)
      clear hK K
      refine norm_ (a' := ?_) ?_ ?_
      rotate_left
      · show Act.put _ (some 166) _ = _
        simp only [Act.put, List.setIfInBounds_toArray, List.set_cons_zero, List.set_cons_succ, i64_w, i32_w]
        rfl
      refine pure_ (i := 11) (N := (some 167)) (v := ?_) (a' := ?_) #[true, true, true, true, true, true, true, true, true, true, true, true, false] rfl rfl (by kernel_rfl) (fun _ _ _ h => h) (Or.inl ⟨by rfl, ?_⟩) ?_ ?_
      rotate_left
      · intro w'
        go_simp
        with_reducible rfl
      rotate_left
      · simp only [Act.put, List.setIfInBounds_toArray, List.set_cons_zero, List.set_cons_succ, i64_w, i32_w]
        rfl
      refine pure_ (i := 12) (N := (some 8)) (v := ?_) (a' := ?_) #[true, true, true, true, true, true, true, true, true, true, true, true, true] rfl rfl (by kernel_rfl) (fun _ _ _ h => h) (Or.inl ⟨by rfl, ?_⟩) ?_ ?_
      rotate_left
      · intro w'
        go_simp
        with_reducible rfl
      rotate_left
      · simp only [Act.put, List.setIfInBounds_toArray, List.set_cons_zero, List.set_cons_succ, i64_w, i32_w]
        rfl
      refine done_ (by kernel_rfl) ?_
      go_wp2
      go_ret
      exact ⟨rfl, BZ.out⟩

set_option maxRecDepth 100000 in
theorem walk {H : Type} {enc : TypeId × Value → H} {base : Nat} {spare : Nat → Bool} {held : Bool} {d0 d1 d2 : DataW H} {p0 p1 p2 : List MemPlace} {r : Reach} {b0 : Nat} (v0 : Value) (y : Int) (v1 v2 : Value) (w : World)
    (hv0 : Value.okWide Tryz.prog w r b0 23 v0) (t0 : DataW.Trod enc Tryz.prog w base spare held 23 v0 d0 p0) (_hy : (Lit.int .i64 y).wf = true)
    (hv1 : Value.okWide Tryz.prog w r b0 24 v1) (t1 : DataW.Trod enc Tryz.prog w base spare held 24 v1 d1 p1)
    (hv2 : Value.okWide Tryz.prog w r b0 25 v2) (t2 : DataW.Trod enc Tryz.prog w base spare held 25 v2 d2 p2) :
    Calls Tryz.prog 7 #[v0, .int .i64 y, v1, v2] w fun e w' => e = .returned (.bool true) ∧ Below w.heap.size w w' := by
  obtain ⟨c, rfl⟩ := Lay.cfg_of hv0 t0
  obtain ⟨js, h3, h4⟩ := jobs_of hv1 t1
  obtain ⟨ss, h5, h6⟩ := View.words_of hv2 t2
  exact walk_in h3 h4 h5
end Order22
end Att
end Go.Proofs.YthojgahcpkdemaaGreat

/- PROVED HERE: 'assart/assartlaw22.AttemptOrder' returns true for every input, without a panic, and its arguments read behind the call as they read before (In whatever order their steps come: attempts that are done and wrote something, by rising stamps, lead from the first words to the last ones; each has read, whether it is done or not, what stood there behind those of stamps up to what it had seen). Condition: none beyond the row's own. -/
namespace Go.Proofs.YthojgahcpkdemaaGreat
namespace FrAttemptOrder
open Go.ChangeShapes Go.WideShapes Go.ChangeAt Go.RowKit
open Go.ChangeMaps (open_string shut_string)
set_option linter.unusedVariables false

theorem own : ownKnob Tryz.prog.godebug = none := by kernel_rfl
theorem laidOut : laidOutB Tryz.prog = true := by kernel_rfl

set_option maxRecDepth 100000 in
theorem lifted (os : Os) (started : os.Started) (H : Type) (enc : TypeId × Value → H) :
    ReturnsInHanded {} Tryz.checked os 7 .any (Rows.attemptOrderSpec.pre6 enc Tryz.prog Tryz.f7 Rows.attemptOrderRow.domain false) (Rows.attemptOrderSpec.post enc Tryz.prog Tryz.f7 false true false false) := by
  refine returnsInHanded_of_change (C := Tryz.checked) own started (by kernel_rfl) Tryz.func7
    (ChangeSpec.witness6 (enc := enc) (C := Tryz.checked) false ⟨#[], #[.agg #[.int .i64 0, .int .i64 0, .int .i64 0, .int .i64 0, .int .i64 0, .int .i64 0, .int .i64 0, .int .i64 0, .int .i64 0, .int .i64 0, .int .i64 0], .int .i64 0, .slice none 0 0, .slice none 0 0], []⟩ 8 (by kernel_rfl) (by kernel_rfl) (by kernel_rfl) (by kernel_rfl)) ?_
  intro W base args ds gs before hval0 hW hcnd _
  have hval : ∀ (j : Nat) t v, Tryz.f7.params[j]? = some t → args[j]? = some v → Value.okWide Tryz.prog W .any base t v := hval0
  have hW' := hW
  obtain ⟨p, q, hA0, hV, rfl, hfz, hnd⟩ := hW
  have hA : DataW.TrodAll enc Tryz.prog W 0 (fun _ => true) true Tryz.f7.params.toList args.toList ds p := hA0
  rw [Tryz.params7] at hA hval
  obtain ⟨v0, vs0, d0, ds0, p0, q0, hargs, rfl, rfl, h0, r0⟩ := trodAll_cons hA
  obtain ⟨v1, vs1, d1, ds1, p1, q1, rfl, rfl, rfl, h1, r1⟩ := trodAll_cons r0
  obtain ⟨v2, vs2, d2, ds2, p2, q2, rfl, rfl, rfl, h2, r2⟩ := trodAll_cons r1
  obtain ⟨v3, vs3, d3, ds3, p3, q3, rfl, rfl, rfl, h3, r3⟩ := trodAll_cons r2
  obtain ⟨rfl, rfl, rfl⟩ := trodAll_nil r3
  obtain rfl : args = #[v0, v1, v2, v3] := by cases args; simp_all
  obtain ⟨rfl, rfl⟩ := trodVars_none hV
  have k0 := h0
  have lt0 : ∀ x ∈ p0, x.block < W.heap.size := by obtain ⟨m, hm⟩ := k0; exact DataW.trod_lt m _ _ _ hm
  obtain ⟨a1, rfl, rfl, rfl, w1⟩ := open_int Tryz.underlying3 (hval 1 3 v1 rfl rfl) h1
  have k2 := h2
  have lt2 : ∀ x ∈ p2, x.block < W.heap.size := by obtain ⟨m, hm⟩ := k2; exact DataW.trod_lt m _ _ _ hm
  have k3 := h3
  have lt3 : ∀ x ∈ p3, x.block < W.heap.size := by obtain ⟨m, hm⟩ := k3; exact DataW.trod_lt m _ _ _ hm
  clear hA0 hval0
  refine (Att.Order22.walk v0 a1 v2 v3 W (hval 0 23 v0 rfl rfl) h0 w1 (hval 2 24 v2 rfl rfl) h2 (hval 3 25 v3 rfl rfl) h3).mono fun e W' ⟨he, bel⟩ => ?_
  subst he
  exact ⟨_, rfl, _, _, _, [], _, [], hW', trodAll_mk1 (shut_bool Tryz.underlying4 _), (trodAll_cons_mk (Below.trod laidOut (by kernel_rfl) (of_decide_eq_true (by kernel_rfl)) k0 bel lt0) (trodAll_cons_mk (shut_int Tryz.underlying3 w1) (trodAll_cons_mk (Below.trod laidOut (by kernel_rfl) (of_decide_eq_true (by kernel_rfl)) k2 bel lt2) (trodAll_cons_mk (Below.trod laidOut (by kernel_rfl) (of_decide_eq_true (by kernel_rfl)) k3 bel lt3) trodAll_mk0)))), rfl, bel.frame _, fun h => by cases h⟩

theorem over : Rows.attemptOrderRow.holds Tryz.pinned (OpenSpec.ofChange Rows.attemptOrderSpec) :=
  OpenClaim.holds_of_wide 7 Tryz.f7 rfl rfl rfl rfl rfl rfl rfl ⟨rfl, rfl, rfl, rfl, rfl⟩ rfl rfl rfl rfl rfl (by kernel_rfl) Tryz.func7 (by kernel_rfl)
    (of_decide_eq_true (by kernel_rfl)) (by unfold Func.isWrapper; first | (rw [if_pos (by decide +kernel)]; kernel_rfl) | (rw [if_neg (by decide +kernel)]; exact ⟨rfl, rfl⟩))
    (fun os started H enc _ => lifted os started H enc)

end FrAttemptOrder

theorem AttemptOrder_holds : Rows.AttemptOrderSaid := FrAttemptOrder.over
#print axioms AttemptOrder_holds
end Go.Proofs.YthojgahcpkdemaaGreat
