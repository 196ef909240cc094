/- Lemmas of this seat's proofs, several texts laid together. -/
import Derived.Test.YthojgahcpkdemaaGreatAfN
import Derived.Test.YthojgahcpkdemaaGreatAfK
import Derived.Test.YthojgahcpkdemaaGreatAfP
import Derived.Test.YthojgahcpkdemaaGreatWLast
import Derived.ProofKit
import Derived.OpenShut
import Derived.ShutString
import Derived.ChangeOld
import Derived.Below
set_option linter.unusedVariables false
set_option linter.unusedSimpArgs false
/- locks and stamps at the end -/
namespace Go.Proofs.YthojgahcpkdemaaGreat
open Go.RowKit Go.Bas View VIn IMap_ VPlain Lay RefLay Of Small_
open Go.ChangeShapes Go.Sor Go.WideShapes
open Go.Proofs.YthojgahcpkdemaaGreatW.PrintLast
namespace Att
namespace Locks22

set_option maxRecDepth 100000 in
set_option maxHeartbeats 8000000 in
theorem walk_in {c0 : Cfg} {y : Int} {v1 v2 : Value} {js : List (List Ins)} {ss : List Int} {w0 : World} (hJ : VIn.Jobs w0 w0.heap.size v1 js) (hjs : ∀ j ∈ js, SIn j) (hS : View.Words w0 w0.heap.size v2 ss) :
    Calls Tryz.prog 4 #[.agg (cfg c0), .int .i64 y, v1, v2] w0 fun e w' => e = .returned (.bool true) ∧ Below w0.heap.size w0 w' := by
  obtain ⟨g0, hg0⟩ : ∃ g0, w0.heap.size = g0 := ⟨_, rfl⟩
  obtain ⟨A2, cp2, rfl, hm2, -⟩ := id hJ
  obtain ⟨A3, cp3, rfl, hm3, -⟩ := id hS
  obtain ⟨n, hnn⟩ : ∃ n, js.length = n := ⟨_, rfl⟩
  obtain ⟨sn, hsn⟩ : ∃ sn, ss.length = sn := ⟨_, rfl⟩
  have LN := Lib.hid (fun w => lives_any w)
  obtain ⟨w1, hw1⟩ : ∃ w1, w0.alloc (.cells (cfg c0) 23) = w1 := ⟨_, rfl⟩
  have R1 : Hid (w1.heap[g0]? = some (.cells (cfg c0) 23 (0, 0))) := by rw [← hw1, ← hg0]; exact new_row _ _ _
  have B1 : Hid (Below g0 w0 w1) := by rw [← hw1, ← hg0]; exact (Below.refl _ _).alloc (Nat.le_refl _) _
  have s1 : w1.heap.size = g0 + 1 := by rw [← hw1, ← hg0]; simp
  rw [hg0] at hJ hS ⊢
  have HJ := Lib.hid hJ; have HS := Lib.hid hS; have HJS := Lib.hid hjs; have HNN := Lib.hid hnn; have HSN := Lib.hid hsn
  rw [hnn, hsn]
  rw [hnn] at hm2; rw [hsn] at hm3
  clear hJ hS hjs hnn hsn
  by_cases hgd : 1 ≤ n ∧ n ≤ 4 ∧ sn ≤ 200
  rotate_left
  · have alt : n < 1 ∨ (1 ≤ n ∧ 4 < n) ∨ (1 ≤ n ∧ n ≤ 4 ∧ 200 < sn) := by omega
    rcases alt with h | ⟨h, h'⟩ | ⟨h, h', h''⟩
    all_goals (
      clear hgd
      go_enter Tryz.func4, Tryz.ntmps4
      go_wp2_with (first
        | (go_at_call 17; refine (LN.out _).mono ?_; rintro e wz ⟨rfl, hb⟩
           have BZ : Hid (Below g0 w0 wz) := B1.out.trans (hb.mono (by omega))
           clear hb B1))
      go_ret
      exact ⟨rfl, BZ.out⟩)
  obtain ⟨hg1, hg4, hg200⟩ := hgd
  have F := small_fine c0
  have BG := fun w => beg_any c0 y w
  unfold BegOut at BG
  have wl0 := words0_len c0 y
  have LD := ld_words0 c0 y
  have WB0 := wb_words0 c0 y
  have hwi := words_in F
  rw [places_words] at wl0
  obtain ⟨W, hWW⟩ : ∃ W, words0 c0 y = W := ⟨_, rfl⟩
  obtain ⟨ck, hck⟩ : ∃ ck, (small c0).clock = ck := ⟨_, rfl⟩
  have hcb := F.clock
  rw [hck] at hcb
  rw [hWW] at BG wl0 WB0
  have CK := clock0_in c0 y
  have wl1 : (W.length : Int) = (places (small c0)).a11 := by rw [places_words]; exact wl0
  have ld1 : ld W 1 = clock0 c0 y := by rw [← hWW, LD, if_pos rfl]
  have ldj : ∀ j, j ≠ 1 → ld W j = 0 := fun j hj => by rw [← hWW, LD, if_neg hj]
  have SQ0 : Hid (Lk (small c0).stripes (small c0).clock (tbOf c0) js.length (fun i => newT i) W) := lk_new (by rw [ld1]; omega) ldj
  have SK : Hid (Keeps c0 js (fun T W => Lk (small c0).stripes (small c0).clock (tbOf c0) js.length T W)) := fun T W i hi hG hq hp => lk_step hq hG (by rw [HNN.out]; omega) (by omega) hi hp
  have hst := F.stripes
  obtain ⟨sp, hsp⟩ : ∃ sp : Nat, (small c0).stripes = sp := ⟨(small c0).stripes.toNat, by omega⟩
  obtain ⟨C, hC, CF⟩ : ∃ C : Cfg, C.stripes = (sp : Int) ∧ ∀ w, Calls Tryz.prog 20 #[.agg (lay (small c0) (places (small c0)))] w fun e w' => e = .returned (.agg (cfg C)) ∧ Below w.heap.size w w' := ⟨small c0, hsp, fun w => config_any (small c0) (places (small c0)) w⟩
  have HS64 : Hid (sp ≤ 64) := by rw [hsp] at hst; rw [Hid]; omega
  obtain ⟨lv, hlv⟩ : ∃ lv, lay (small c0) (places (small c0)) = lv := ⟨_, rfl⟩
  have hls : (Tryz.prog.info? 29).map (·.size) = some lv.size := by rw [← hlv]; exact lay_size _ _
  have hl0 : lv.size = 23 := by rw [← hlv]; rfl
  have hl1 : lv.all (·.oneCell') = true := by rw [← hlv]; exact lay_one _ _
  rw [hlv] at BG CF
  have RUN : Hid (∀ (w : World) (a g B0 : Nat), Ar w a g W 1 → VIn.Jobs w B0 (.slice A2 n cp2) js → View.Words w B0 (.slice A3 sn cp3) ss → B0 ≤ a ∧ B0 ≤ g ∧ B0 ≤ w.heap.size → Calls Tryz.prog 18 #[.agg lv, .pointer (some ⟨a, 0, none⟩), .slice A2 n cp2, .slice A3 sn cp3] w fun e w' => ∃ v bs S K T m, e = .returned v ∧ L2 (fun T W => Lk (small c0).stripes (small c0).clock (tbOf c0) js.length T W) w w' w.heap.size S K a g c0 js bs v B0 (.slice A3 sn cp3) ss T m ∧ m ≤ 100000 ∧ ∀ i, i < js.length → (T i).phase = 10) := fun w a g B0 h1 h2 h3 h4 => by
    rw [← hlv]
    exact run_any h1 (by omega) wl1 WB0 h2 HJS.out (by rw [HNN.out]; omega) h3 (by rw [HSN.out]; omega) h4 SK.out SQ0.out
  have HBG := Lib.hid BG; have HCF := Lib.hid CF; have HLS := Lib.hid hls; have HL1 := Lib.hid hl1; have HL0 := Lib.hid hl0; have HSP := Lib.hid hsp
  clear BG CF hls hl1 hl0 hWW hck ld1 ldj wl1 WB0 LD wl0 hwi hlv SK SQ0 F CK hst hsp
  go_enter Tryz.func4, Tryz.ntmps4
  go_upto_region 3 with fail
  go_upto_region 4 with (first
    | (refine wpList_load_row rfl 23 _ rfl g0 rfl 23 (cfg c0) (0, 0) _ R1.out Tryz.underlying23 rfl (cfg_size _) ?_)
    | (go_at_call 10; refine (HBG.out _).mono ?_; rintro e w2 ⟨a, g, ra, rfl, ha, hg, hA2, hb2⟩
       have B2 : Hid (Below g0 w0 w2) := B1.out.trans (hb2.mono (by omega))
       obtain ⟨l, hl⟩ : ∃ l, w2.heap.size = l := ⟨_, rfl⟩
       have hgl : g0 ≤ l := by have := hb2.size; omega
       have HAG : Hid ((g0 ≤ a ∧ g0 ≤ g) ∧ a ≠ l ∧ g ≠ l ∧ g0 ≤ l) := by have := hA2.lt; rw [Hid]; omega
       obtain ⟨w3, hw3⟩ : ∃ w3, w2.alloc (.cells #[.int .i64 0, .int .i64 0, .int .i64 0, .int .i64 0, .int .i64 0, .int .i64 0, .int .i64 0, .int .i64 0, .int .i64 0, .int .i64 0, .int .i64 0, .int .i64 0, .int .i64 0, .int .i64 0, .int .i64 0, .int .i64 0, .int .i64 0, .int .i64 0, .int .i64 0, .int .i64 0, .int .i64 0, .int .i64 0, .int .i64 0] 29) = w3 := ⟨_, rfl⟩
       have L3 : Hid (w3.heap[l]? = some (.cells #[.int .i64 0, .int .i64 0, .int .i64 0, .int .i64 0, .int .i64 0, .int .i64 0, .int .i64 0, .int .i64 0, .int .i64 0, .int .i64 0, .int .i64 0, .int .i64 0, .int .i64 0, .int .i64 0, .int .i64 0, .int .i64 0, .int .i64 0, .int .i64 0, .int .i64 0, .int .i64 0, .int .i64 0, .int .i64 0, .int .i64 0] 29 (0, 0))) := by rw [← hw3, ← hl]; exact new_row _ _ _
       have b23 : Below w2.heap.size w2 w3 := by rw [← hw3]; exact (Below.refl _ _).alloc (Nat.le_refl _) _
       have A3' : Hid (Ar w3 a g W 1) := hA2.below b23
       have B3 : Hid (Below g0 w0 w3) := B2.out.trans (b23.mono (by omega))
       clear hb2 hA2 b23 B2 B1 R1)
    | (refine wpList_store_row rfl 29 _ _ rfl l lv rfl rfl 29 #[.int .i64 0, .int .i64 0, .int .i64 0, .int .i64 0, .int .i64 0, .int .i64 0, .int .i64 0, .int .i64 0, .int .i64 0, .int .i64 0, .int .i64 0, .int .i64 0, .int .i64 0, .int .i64 0, .int .i64 0, .int .i64 0, .int .i64 0, .int .i64 0, .int .i64 0, .int .i64 0, .int .i64 0, .int .i64 0, .int .i64 0] L3.out HLS.out (by first | exact HL0.out | exact HL0.out.symm) HL1.out ?_))
  obtain ⟨w4, hw4⟩ : ∃ w4, w3.setRow l lv = w4 := ⟨_, rfl⟩
  have L4 : Hid (w4.heap[l]? = some (.cells lv 29 (0, 0))) := by rw [← hw4]; exact setRow_same L3.out
  have A4 : Hid (Ar w4 a g W 1) := by rw [← hw4]; exact A3'.out.kept (setRow_other _ _ _ _ HAG.out.2.1) (setRow_other _ _ _ _ HAG.out.2.2.1)
  have B4 : Hid (Below g0 w0 w4) := by rw [← hw4]; exact setRow_below B3.out hgl _
  rw [hw4]
  have s4 : Hid (g0 ≤ w4.heap.size) := by have := B4.out.size; rw [Hid]; omega
  clear hw4 L3 A3' B3 hw3 hw1 s1
  go_upto_region 6 with (first
    | (refine wpList_load_row rfl 29 _ rfl l rfl 29 lv (0, 0) _ L4.out Tryz.underlying29 rfl HLS.out ?_)
    | (go_at_call 18; refine (RUN.out w4 a g g0 A4.out (by have h := HJ.out.below B4.out; rw [HNN.out] at h; exact h) (by have h := HS.out.below B4.out; rw [HSN.out] at h; exact h) ⟨HAG.out.1.1, HAG.out.1.2, s4.out⟩).mono ?_; rintro e w8 ⟨v, bs, S, K, T, m, rfl, hL, hm, hO⟩
       have b8 : Below g0 w4 w8 := hL.chg.below s4.out (fun k hk => by have := HAG.out; have := s4.out; omega)
       have B8 : Hid (Below g0 w0 w8) := B4.out.trans b8
       have L8 : Hid (w8.heap[l]? = some (.cells lv 29 (0, 0))) := (hL.chg.block l (Array.getElem?_eq_some_iff.1 L4.out).1 (fun hh => by have := HAG.out; have := (Array.getElem?_eq_some_iff.1 L4.out).1; omega)).trans L4.out
       obtain ⟨Wf, hq, hok, hwb, hL2⟩ := hL.fix
       have EN := Lib.hid (lk_end' HSP.out hq (fun i hi => hO i hi))
       have HO := Lib.hid hO
       have HOK := Lib.hid hok
       have HWB := Lib.hid hwb
       have LDW := Lib.hid (hL2.load (by omega) 1)
       have HM := Lib.hid hm
       clear hL hO b8 hm L4 A4 B4 s4 hq hok hwb hL2)
    | (go_at_call 19; refine LDW.out.mono ?_; rintro e w9 ⟨rfl, hL9, hC9⟩
       have e1 : errB Wf 1 = 0 := by
         have h0 := (HOK.out 0 (by rw [HNN.out]; omega)).len
         have hE : (envOf c0 js 0).words = (places (small c0)).a11 := rfl
         have hwq := words_in (small_fine c0)
         rw [hE, places_words] at h0
         unfold errB; rw [show inn Wf 1 = true from by unfold inn; simp; omega]; rfl
       rw [e1]
       have HL := Lib.hid hL9
       have B9 : Hid (Below g0 w0 w9) := B8.out.trans (hC9.below (by have := B8.out.size; omega) (fun k hk => by have := HAG.out; omega))
       have L9 : Hid (w9.heap[l]? = some (.cells lv 29 (0, 0))) := (hC9.block l (Array.getElem?_eq_some_iff.1 L8.out).1 (fun hh => by have := HAG.out; omega)).trans L8.out
       clear hL9 hC9 LDW B8 L8 e1))
  obtain ⟨p, cap, e9, -⟩ := HL.out.cell (i := 0) (by rw [HNN.out]; omega)
  rw [HNN.out] at e9
  subst e9
  go_upto_region 7 with fail
  go_loopw [15, 16, 17] (fun u15 _ _ wr => ∃ q : Nat, q ≤ sp ∧ u15 = .int .i64 q ∧ Hid (L2 (fun _ W' => W' = Wf) w4 wr w4.heap.size S K a g c0 js bs (.slice (some ⟨p, 0, none⟩) n cap) g0 (.slice A3 sn cp3) ss T (m + 1 + q)) ∧ Hid (Below g0 w0 wr) ∧ Hid (wr.heap[l]? = some (.cells lv 29 (0, 0)))) (fun u15 _ _ _ => sp - (intOf u15).toNat)
  case atStart => exact ⟨0, by omega, rfl, HL, B9, L9⟩
  case round =>
    clear HL B9 L9
    obtain ⟨q, hq, rfl, HL, HB, HR⟩ := hrel
    have gsz : Hid (g0 ≤ wr.heap.size) := by have := HB.out.size; rw [Hid]; omega
    have sp64 : sp ≤ 64 := HS64.out
    have HMQ : Hid (m + 1 + q ≤ 1000000) := by have := HM.out; rw [Hid]; omega
    have HNA : Hid (∀ k, k = a ∨ k = g → g0 ≤ k) := fun k hk => by have := HAG.out; omega
    have HNL : Hid (¬ (l = a ∨ l = g)) := fun hh => by have := HAG.out; omega
    by_cases hlt : q < sp
    · have FRQ := EN.out.1 q hlt
      have FA := Lib.hid (fun w => fresh_any (ld Wf (3 + (q : Int))) (ld Wf 1) (HWB.out.all _) w)
      rw [FRQ] at FA
      clear FRQ
      have hq1 : q + 1 ≤ sp := hlt
      go_upto_region 9 with (first
        | (refine wpList_load_row rfl 29 _ rfl l rfl 29 lv (0, 0) _ HR.out Tryz.underlying29 rfl HLS.out ?_)
        | (go_at_call 20; refine (HCF.out _).mono ?_; rintro e wa ⟨rfl, hb⟩
           have La := Lib.hid (HL.out.below hb)
           have Ba : Hid (Below g0 w0 wa) := HB.out.trans (hb.mono gsz.out)
           have Ra : Hid (wa.heap[l]? = some (.cells lv 29 (0, 0))) := blk_below HR.out hb
           have LDQ := Lib.hid (La.out.load HMQ.out (3 + (q : Int)))
           have sa : Hid (g0 ≤ wa.heap.size) := Nat.le_trans gsz.out hb.size
           clear hb HL HB HR gsz))
      go_upto_region 10 with (first
        | (go_at_call 19; refine LDQ.out.mono ?_; rintro e wb ⟨rfl, hL, hC⟩
           have Lb := Lib.hid hL
           have Bb : Hid (Below g0 w0 wb) := Ba.out.trans (hC.below sa.out HNA.out)
           have Rb : Hid (wb.heap[l]? = some (.cells lv 29 (0, 0))) := (hC.block l (Array.getElem?_eq_some_iff.1 Ra.out).1 HNL.out).trans Ra.out
           have sb : Hid (g0 ≤ wb.heap.size) := Nat.le_trans sa.out hC.size
           clear hL hC La Ba Ra LDQ sa))
      go_wp2_with (first
        | (go_at_call 21; refine (FA.out _).mono ?_; rintro e wc ⟨rfl, hb⟩
           have Lc : Hid (L2 (fun _ W' => W' = Wf) w4 wc w4.heap.size S K a g c0 js bs (.slice (some ⟨p, 0, none⟩) n cap) g0 (.slice A3 sn cp3) ss T (m + 1 + (q + 1))) := Lb.out.below hb
           have Bc : Hid (Below g0 w0 wc) := Bb.out.trans (hb.mono sb.out)
           have Rc : Hid (wc.heap[l]? = some (.cells lv 29 (0, 0))) := blk_below Rb.out hb
           clear hb Lb Bb Rb sb FA))
      go_roundw
      case rel => exact ⟨q + 1, hq1, by go_num, Lc, Bc, Rc⟩
      case measure => simp [intOf]; omega
    · obtain rfl : sp = q := by omega
      go_upto_region 13 with (first
        | (refine wpList_load_row rfl 29 _ rfl l rfl 29 lv (0, 0) _ HR.out Tryz.underlying29 rfl HLS.out ?_)
        | (go_at_call 20; refine (HCF.out _).mono ?_; rintro e wa ⟨rfl, hb⟩
           have La := Lib.hid ((HL.out.below hb).more (show m + 1 + sp ≤ 200000 by have := HM.out; omega))
           have Ba : Hid (Below g0 w0 wa) := HB.out.trans (hb.mono gsz.out)
           clear hb HL HB HR gsz))
      go_loopw [18, 19] (fun u18 _ wr => ∃ q : Nat, q ≤ n ∧ u18 = .int .i64 q ∧ Hid (L2 (fun _ W' => W' = Wf) w4 wr w4.heap.size S K a g c0 js bs (.slice (some ⟨p, 0, none⟩) n cap) g0 (.slice A3 sn cp3) ss T 200000) ∧ Hid (Below g0 w0 wr)) (fun u18 _ _ => n - (intOf u18).toNat)
      case atStart => exact ⟨0, by omega, rfl, La, Ba⟩
      case round =>
        clear La Ba
        obtain ⟨q, hq2, rfl, HL, HB⟩ := hrel
        by_cases hlt : q < n
        · have hij : q < js.length := by rw [HNN.out]; exact hlt
          have HQJ := Lib.hid hij
          have hc1 := HL.out.cell1 hij
          have PH := Lib.hid (HL.out.phase hij)
          have h10 := HO.out q hij
          rw [h10] at PH
          clear hij h10
          go_upto_region 18 with (first
            | (go_at_call 22; refine PH.out.mono ?_; rintro e wa ⟨rfl, hb⟩
               have Lz := Lib.hid (HL.out.below hb)
               have Bz : Hid (Below g0 w0 wa) := HB.out.trans (hb.mono (by have := HB.out.size; omega))
               clear hb PH HL HB hc1))
          go_loopw [19] (fun u19 wr => ∃ r : Nat, r ≤ q ∧ u19 = .int .i64 r ∧ Hid (L2 (fun _ W' => W' = Wf) w4 wr w4.heap.size S K a g c0 js bs (.slice (some ⟨p, 0, none⟩) n cap) g0 (.slice A3 sn cp3) ss T 200000) ∧ Hid (Below g0 w0 wr)) (fun u19 _ => q - (intOf u19).toNat)
          case atStart => exact ⟨0, by omega, rfl, Lz, Bz⟩
          case round =>
            clear Lz Bz
            obtain ⟨r, hr, rfl, La, BLa⟩ := hrel
            by_cases hlt2 : r < q
            · have hrn : r < n := by omega
              have hrj : r < js.length := by rw [HNN.out]; exact hrn
              have HRJ := Lib.hid hrj
              have hcq := La.out.cell1 HQJ.out
              have hcr := La.out.cell1 HRJ.out
              have UN := EN.out.2.2 q r HQJ.out HRJ.out (by omega)
              clear hrj
              by_cases heq : (T q).stamp = (T r).stamp
              rotate_left
              · have hne := heq
                clear UN heq
                go_upto_region 20 with fail
                refine start_ (n := 29) (S := fun w' => w'.cell? ⟨p, q, none⟩ = some (.pointer (some ⟨bs q, 0, none⟩)) ∧ w'.cell? ⟨p, r, none⟩ = some (.pointer (some ⟨bs r, 0, none⟩))) (ds := []) #[false, false, false, false, false, false, false, false, false, false, false, false, false, false, false, false, false, false, false, false, false, false, false, false, false, false, false, false, false] (by kernel_rfl) rfl rfl ⟨hcq, hcr⟩ (fun hHeld => ?_)
                refine pure_ (i := 0) (N := (some 88)) (v := ?_) (a' := ?_) #[true, false, false, false, false, false, false, false, false, false, false, false, false, false, false, false, false, false, false, false, false, false, false, false, false, false, false, false, false] rfl rfl (by kernel_rfl) (fun _ _ _ h => h) (Or.inl ⟨by rfl, ?_⟩) ?_ ?_
                rotate_left
                · intro w'
                  go_simp
                  with_reducible rfl
                rotate_left
                · simp only [Act.put, List.setIfInBounds_toArray, List.set_cons_zero, List.set_cons_succ, i64_w, i32_w]
                  rfl
                refine pure_ (i := 1) (N := (some 89)) (v := ?_) (a' := ?_) #[true, true, false, false, false, false, false, false, false, false, false, false, false, false, false, false, false, false, false, false, false, false, false, false, false, false, false, false, false] rfl rfl (by kernel_rfl) (fun _ _ _ h => h) (Or.inl ⟨by rfl, ?_⟩) ?_ ?_
                rotate_left
                · intro w'
                  go_simp
                  with_reducible rfl
                rotate_left
                · simp only [Act.put, List.setIfInBounds_toArray, List.set_cons_zero, List.set_cons_succ, i64_w, i32_w]
                  rfl
                refine pure_ (i := 2) (N := (some 90)) (v := ?_) (a' := ?_) #[true, true, true, false, false, false, false, false, false, false, false, false, false, false, false, false, false, false, false, false, false, false, false, false, false, false, false, false, false] rfl rfl (by kernel_rfl) (fun _ _ _ h => h) (Or.inl ⟨by rfl, ?_⟩) ?_ ?_
                rotate_left
                · intro w'
                  go_simp
                  with_reducible rfl
                rotate_left
                · simp only [Act.put, List.setIfInBounds_toArray, List.set_cons_zero, List.set_cons_succ, i64_w, i32_w]
                  rfl
                refine take_ (i := 3) (N := (some 91)) (v := ?_) (a' := ?_) #[true, true, true, true, false, false, false, false, false, false, false, false, false, false, false, false, false, false, false, false, false, false, false, false, false, false, false, false, false] rfl rfl (by kernel_rfl) (fun _ _ _ h => h) (Or.inl ⟨by rfl, ?_⟩) hHeld ?_ ?_
                rotate_left
                · rintro w' ⟨s0, s1⟩
                  go_simp
                  with_reducible rfl
                rotate_left
                · simp only [Act.put, List.setIfInBounds_toArray, List.set_cons_zero, List.set_cons_succ, i64_w, i32_w]
                  rfl
                refine pure_ (i := 5) (N := (some 93)) (v := ?_) (a' := ?_) #[true, true, true, true, false, true, false, false, false, false, false, false, false, false, false, false, false, false, false, false, false, false, false, false, false, false, false, false, false] rfl rfl (by kernel_rfl) (fun _ _ _ h => h) (Or.inl ⟨by rfl, ?_⟩) ?_ ?_
                rotate_left
                · intro w'
                  go_simp
                  with_reducible rfl
                rotate_left
                · simp only [Act.put, List.setIfInBounds_toArray, List.set_cons_zero, List.set_cons_succ, i64_w, i32_w]
                  rfl
                refine pure_ (i := 6) (N := (some 94)) (v := ?_) (a' := ?_) #[true, true, true, true, false, true, true, false, false, false, false, false, false, false, false, false, false, false, false, false, false, false, false, false, false, false, false, false, false] rfl rfl (by kernel_rfl) (fun _ _ _ h => h) (Or.inl ⟨by rfl, ?_⟩) ?_ ?_
                rotate_left
                · intro w'
                  go_simp
                  with_reducible rfl
                rotate_left
                · simp only [Act.put, List.setIfInBounds_toArray, List.set_cons_zero, List.set_cons_succ, i64_w, i32_w]
                  rfl
                refine pure_ (i := 7) (N := (some 95)) (v := ?_) (a' := ?_) #[true, true, true, true, false, true, true, true, false, false, false, false, false, false, false, false, false, false, false, false, false, false, false, false, false, false, false, false, false] rfl rfl (by kernel_rfl) (fun _ _ _ h => h) (Or.inl ⟨by rfl, ?_⟩) ?_ ?_
                rotate_left
                · intro w'
                  go_simp
                  with_reducible rfl
                rotate_left
                · simp only [Act.put, List.setIfInBounds_toArray, List.set_cons_zero, List.set_cons_succ, i64_w, i32_w]
                  rfl
                refine take_ (i := 8) (N := (some 96)) (v := ?_) (a' := ?_) #[true, true, true, true, false, true, true, true, true, false, false, false, false, false, false, false, false, false, false, false, false, false, false, false, false, false, false, false, false] rfl rfl (by kernel_rfl) (fun _ _ _ h => h) (Or.inl ⟨by rfl, ?_⟩) hHeld ?_ ?_
                rotate_left
                · rintro w' ⟨s0, s1⟩
                  go_simp
                  with_reducible rfl
                rotate_left
                · simp only [Act.put, List.setIfInBounds_toArray, List.set_cons_zero, List.set_cons_succ, i64_w, i32_w]
                  rfl
                refine one_ (i := 4) (N := (some 92)) #[true, true, true, true, true, true, true, true, true, false, false, false, false, false, false, false, false, false, false, false, false, false, false, false, false, false, false, false, false] rfl rfl (by kernel_rfl) (by decide) (fun K hK => ?_)
                refine goes_ Tryz.func23 (by kernel_rfl) rfl #[.pointer (some ⟨bs q, 0, none⟩)] (by rfl) rfl rfl (by first | rfl | (simp [Act.eval]; done) | (go_simp; done)) ?_
                refine ((La.out.below (show Below wr.heap.size wr wr.drew from (Below.refl _ _).drew)).stamp HQJ.out).mono ?_
                rintro e x1 ⟨rfl, hb⟩
                have hb := (show Below wr.heap.size wr wr.drew from (Below.refl _ _).drew).trans hb
                have Lb := Lib.hid (La.out.below hb)
                have BLb : Hid (Below g0 w0 x1) := BLa.out.trans (hb.mono (by have := BLa.out.size; omega))
                have c1Lb := Lb.out.cell1 HQJ.out
                have c2Lb := Lb.out.cell1 HRJ.out
                clear hb
                refine ⟨_, rfl, ?_⟩
                refine hK.out _ _ ⟨c1Lb, c2Lb⟩ (fun hHeld => ?_)
                clear hK K
                refine norm_ (a' := ?_) ?_ ?_
                rotate_left
                · show Act.put _ (some 92) _ = _
                  simp only [Act.put, List.setIfInBounds_toArray, List.set_cons_zero, List.set_cons_succ, i64_w, i32_w]
                  rfl
                refine one_ (i := 9) (N := (some 97)) #[true, true, true, true, true, true, true, true, true, true, false, false, false, false, false, false, false, false, false, false, false, false, false, false, false, false, false, false, false] rfl rfl (by kernel_rfl) (by decide) (fun K hK => ?_)
                refine goes_ Tryz.func23 (by kernel_rfl) rfl #[.pointer (some ⟨bs r, 0, none⟩)] (by rfl) rfl rfl (by first | rfl | (simp [Act.eval]; done) | (go_simp; done)) ?_
                refine (Lb.out.stamp HRJ.out).mono ?_
                rintro e x2 ⟨rfl, hb⟩
                have Lc := Lib.hid (Lb.out.below hb)
                have BLc : Hid (Below g0 w0 x2) := BLb.out.trans (hb.mono (by have := BLb.out.size; omega))
                have c1Lc := Lc.out.cell1 HQJ.out
                have c2Lc := Lc.out.cell1 HRJ.out
                clear hb
                refine ⟨_, rfl, ?_⟩
                refine hK.out _ _ ⟨c1Lc, c2Lc⟩ (fun hHeld => ?_)
                clear hK K
                refine norm_ (a' := ?_) ?_ ?_
                rotate_left
                · show Act.put _ (some 97) _ = _
                  simp only [Act.put, List.setIfInBounds_toArray, List.set_cons_zero, List.set_cons_succ, i64_w, i32_w]
                  rfl
                have E10 : ((T q).stamp == (T r).stamp) = false := by rw [beq_eq_false_iff_ne]; exact hne
                refine pure_ (i := 10) (N := (some 98)) (v := .bool false) (a' := ?_) #[true, true, true, true, true, true, true, true, true, true, true, false, false, false, false, false, false, false, false, false, false, false, false, false, false, false, false, false, false] rfl rfl (by kernel_rfl) (fun _ _ _ h => h) (Or.inl ⟨by rfl, fun w' => by go_simp; (try rw [E10]); (try rfl)⟩) ?_ ?_
                rotate_left
                · simp only [Act.put, List.setIfInBounds_toArray, List.set_cons_zero, List.set_cons_succ, i64_w, i32_w]
                  rfl
                refine pure_ (i := 11) (N := (some 99)) (v := ?_) (a' := ?_) #[true, true, true, true, true, true, true, true, true, true, true, true, false, false, false, false, false, false, false, false, false, false, false, false, false, false, false, false, false] rfl rfl (by kernel_rfl) (fun _ _ _ h => h) (Or.inl ⟨by rfl, ?_⟩) ?_ ?_
                rotate_left
                · intro w'
                  go_simp
                  with_reducible rfl
                rotate_left
                · simp only [Act.put, List.setIfInBounds_toArray, List.set_cons_zero, List.set_cons_succ, i64_w, i32_w]
                  rfl
                refine pure_ (i := 12) (N := (some 100)) (v := undef) (a' := ?_) #[true, true, true, true, true, true, true, true, true, true, true, true, true, false, false, false, false, false, false, false, false, false, false, false, false, false, false, false, false] rfl rfl (by kernel_rfl) (fun _ _ _ h => h) (Or.inr ⟨by rfl, rfl⟩) ?_ ?_
                rotate_left
                · simp only [Act.put, List.setIfInBounds_toArray, List.set_cons_zero, List.set_cons_succ, i64_w, i32_w]
                  rfl
                refine pure_ (i := 13) (N := (some 101)) (v := undef) (a' := ?_) #[true, true, true, true, true, true, true, true, true, true, true, true, true, true, false, false, false, false, false, false, false, false, false, false, false, false, false, false, false] rfl rfl (by kernel_rfl) (fun _ _ _ h => h) (Or.inr ⟨by rfl, rfl⟩) ?_ ?_
                rotate_left
                · simp only [Act.put, List.setIfInBounds_toArray, List.set_cons_zero, List.set_cons_succ, i64_w, i32_w]
                  rfl
                refine pure_ (i := 14) (N := (some 102)) (v := undef) (a' := ?_) #[true, true, true, true, true, true, true, true, true, true, true, true, true, true, true, false, false, false, false, false, false, false, false, false, false, false, false, false, false] rfl rfl (by kernel_rfl) (fun _ _ _ h => h) (Or.inr ⟨by rfl, rfl⟩) ?_ ?_
                rotate_left
                · simp only [Act.put, List.setIfInBounds_toArray, List.set_cons_zero, List.set_cons_succ, i64_w, i32_w]
                  rfl
                refine pure_ (i := 15) (N := (some 103)) (v := undef) (a' := ?_) #[true, true, true, true, true, true, true, true, true, true, true, true, true, true, true, true, false, false, false, false, false, false, false, false, false, false, false, false, false] rfl rfl (by kernel_rfl) (fun _ _ _ h => h) (Or.inr ⟨by rfl, rfl⟩) ?_ ?_
                rotate_left
                · simp only [Act.put, List.setIfInBounds_toArray, List.set_cons_zero, List.set_cons_succ, i64_w, i32_w]
                  rfl
                refine pure_ (i := 16) (N := (some 104)) (v := undef) (a' := ?_) #[true, true, true, true, true, true, true, true, true, true, true, true, true, true, true, true, true, false, false, false, false, false, false, false, false, false, false, false, false] rfl rfl (by kernel_rfl) (fun _ _ _ h => h) (Or.inr ⟨by rfl, rfl⟩) ?_ ?_
                rotate_left
                · simp only [Act.put, List.setIfInBounds_toArray, List.set_cons_zero, List.set_cons_succ, i64_w, i32_w]
                  rfl
                refine pure_ (i := 17) (N := (some 105)) (v := undef) (a' := ?_) #[true, true, true, true, true, true, true, true, true, true, true, true, true, true, true, true, true, true, false, false, false, false, false, false, false, false, false, false, false] rfl rfl (by kernel_rfl) (fun _ _ _ h => h) (Or.inr ⟨by rfl, rfl⟩) ?_ ?_
                rotate_left
                · simp only [Act.put, List.setIfInBounds_toArray, List.set_cons_zero, List.set_cons_succ, i64_w, i32_w]
                  rfl
                refine pure_ (i := 18) (N := (some 106)) (v := undef) (a' := ?_) #[true, true, true, true, true, true, true, true, true, true, true, true, true, true, true, true, true, true, true, false, false, false, false, false, false, false, false, false, false] rfl rfl (by kernel_rfl) (fun _ _ _ h => h) (Or.inr ⟨by rfl, rfl⟩) ?_ ?_
                rotate_left
                · simp only [Act.put, List.setIfInBounds_toArray, List.set_cons_zero, List.set_cons_succ, i64_w, i32_w]
                  rfl
                refine pure_ (i := 19) (N := (some 107)) (v := ?_) (a' := ?_) #[true, true, true, true, true, true, true, true, true, true, true, true, true, true, true, true, true, true, true, true, false, false, false, false, false, false, false, false, false] rfl rfl (by kernel_rfl) (fun _ _ _ h => h) (Or.inl ⟨by rfl, ?_⟩) ?_ ?_
                rotate_left
                · intro w'
                  go_simp
                  with_reducible rfl
                rotate_left
                · simp only [Act.put, List.setIfInBounds_toArray, List.set_cons_zero, List.set_cons_succ, i64_w, i32_w]
                  rfl
                refine pure_ (i := 20) (N := (some 108)) (v := ?_) (a' := ?_) #[true, true, true, true, true, true, true, true, true, true, true, true, true, true, true, true, true, true, true, true, true, false, false, false, false, false, false, false, false] rfl rfl (by kernel_rfl) (fun _ _ _ h => h) (Or.inl ⟨by rfl, ?_⟩) ?_ ?_
                rotate_left
                · intro w'
                  go_simp
                  with_reducible rfl
                rotate_left
                · simp only [Act.put, List.setIfInBounds_toArray, List.set_cons_zero, List.set_cons_succ, i64_w, i32_w]
                  rfl
                refine pure_ (i := 21) (N := (some 109)) (v := undef) (a' := ?_) #[true, true, true, true, true, true, true, true, true, true, true, true, true, true, true, true, true, true, true, true, true, true, false, false, false, false, false, false, false] rfl rfl (by kernel_rfl) (fun _ _ _ h => h) (Or.inr ⟨by rfl, rfl⟩) ?_ ?_
                rotate_left
                · simp only [Act.put, List.setIfInBounds_toArray, List.set_cons_zero, List.set_cons_succ, i64_w, i32_w]
                  rfl
                refine pure_ (i := 22) (N := (some 110)) (v := undef) (a' := ?_) #[true, true, true, true, true, true, true, true, true, true, true, true, true, true, true, true, true, true, true, true, true, true, true, false, false, false, false, false, false] rfl rfl (by kernel_rfl) (fun _ _ _ h => h) (Or.inr ⟨by rfl, rfl⟩) ?_ ?_
                rotate_left
                · simp only [Act.put, List.setIfInBounds_toArray, List.set_cons_zero, List.set_cons_succ, i64_w, i32_w]
                  rfl
                refine pure_ (i := 23) (N := (some 111)) (v := undef) (a' := ?_) #[true, true, true, true, true, true, true, true, true, true, true, true, true, true, true, true, true, true, true, true, true, true, true, true, false, false, false, false, false] rfl rfl (by kernel_rfl) (fun _ _ _ h => h) (Or.inr ⟨by rfl, rfl⟩) ?_ ?_
                rotate_left
                · simp only [Act.put, List.setIfInBounds_toArray, List.set_cons_zero, List.set_cons_succ, i64_w, i32_w]
                  rfl
                refine pure_ (i := 24) (N := (some 112)) (v := undef) (a' := ?_) #[true, true, true, true, true, true, true, true, true, true, true, true, true, true, true, true, true, true, true, true, true, true, true, true, true, false, false, false, false] rfl rfl (by kernel_rfl) (fun _ _ _ h => h) (Or.inr ⟨by rfl, rfl⟩) ?_ ?_
                rotate_left
                · simp only [Act.put, List.setIfInBounds_toArray, List.set_cons_zero, List.set_cons_succ, i64_w, i32_w]
                  rfl
                refine pure_ (i := 25) (N := (some 113)) (v := undef) (a' := ?_) #[true, true, true, true, true, true, true, true, true, true, true, true, true, true, true, true, true, true, true, true, true, true, true, true, true, true, false, false, false] rfl rfl (by kernel_rfl) (fun _ _ _ h => h) (Or.inr ⟨by rfl, rfl⟩) ?_ ?_
                rotate_left
                · simp only [Act.put, List.setIfInBounds_toArray, List.set_cons_zero, List.set_cons_succ, i64_w, i32_w]
                  rfl
                refine pure_ (i := 26) (N := (some 114)) (v := undef) (a' := ?_) #[true, true, true, true, true, true, true, true, true, true, true, true, true, true, true, true, true, true, true, true, true, true, true, true, true, true, true, false, false] rfl rfl (by kernel_rfl) (fun _ _ _ h => h) (Or.inr ⟨by rfl, rfl⟩) ?_ ?_
                rotate_left
                · simp only [Act.put, List.setIfInBounds_toArray, List.set_cons_zero, List.set_cons_succ, i64_w, i32_w]
                  rfl
                refine pure_ (i := 27) (N := (some 115)) (v := undef) (a' := ?_) #[true, true, true, true, true, true, true, true, true, true, true, true, true, true, true, true, true, true, true, true, true, true, true, true, true, true, true, true, false] rfl rfl (by kernel_rfl) (fun _ _ _ h => h) (Or.inr ⟨by rfl, rfl⟩) ?_ ?_
                rotate_left
                · simp only [Act.put, List.setIfInBounds_toArray, List.set_cons_zero, List.set_cons_succ, i64_w, i32_w]
                  rfl
                refine pure_ (i := 28) (N := (some 116)) (v := ?_) (a' := ?_) #[true, true, true, true, true, true, true, true, true, true, true, true, true, true, true, true, true, true, true, true, true, true, true, true, true, true, true, true, true] rfl rfl (by kernel_rfl) (fun _ _ _ h => h) (Or.inl ⟨by rfl, ?_⟩) ?_ ?_
                rotate_left
                · intro w'
                  go_simp
                  with_reducible rfl
                rotate_left
                · simp only [Act.put, List.setIfInBounds_toArray, List.set_cons_zero, List.set_cons_succ, i64_w, i32_w]
                  rfl
                refine done_ (by kernel_rfl) ?_
                go_wp2
                go_roundw
                case rel => exact ⟨r + 1, by omega, by go_num, Lc, BLc⟩
                case measure => simp [intOf]; omega
              · by_cases hwq : wroteB (T q) = []
                · have WNQ : Hid ((wroteB (T q)).length = 0) := by rw [hwq]; rfl
                  have D18 : decide ((0 : Int) < 0) = false := by decide
                  clear UN
                  go_upto_region 20 with fail
                  refine start_ (n := 29) (S := fun w' => w'.cell? ⟨p, q, none⟩ = some (.pointer (some ⟨bs q, 0, none⟩)) ∧ w'.cell? ⟨p, r, none⟩ = some (.pointer (some ⟨bs r, 0, none⟩))) (ds := []) #[false, false, false, false, false, false, false, false, false, false, false, false, false, false, false, false, false, false, false, false, false, false, false, false, false, false, false, false, false] (by kernel_rfl) rfl rfl ⟨hcq, hcr⟩ (fun hHeld => ?_)
                  refine pure_ (i := 0) (N := (some 88)) (v := ?_) (a' := ?_) #[true, false, false, false, false, false, false, false, false, false, false, false, false, false, false, false, false, false, false, false, false, false, false, false, false, false, false, false, false] rfl rfl (by kernel_rfl) (fun _ _ _ h => h) (Or.inl ⟨by rfl, ?_⟩) ?_ ?_
                  rotate_left
                  · intro w'
                    go_simp
                    with_reducible rfl
                  rotate_left
                  · simp only [Act.put, List.setIfInBounds_toArray, List.set_cons_zero, List.set_cons_succ, i64_w, i32_w]
                    rfl
                  refine pure_ (i := 1) (N := (some 89)) (v := ?_) (a' := ?_) #[true, true, false, false, false, false, false, false, false, false, false, false, false, false, false, false, false, false, false, false, false, false, false, false, false, false, false, false, false] rfl rfl (by kernel_rfl) (fun _ _ _ h => h) (Or.inl ⟨by rfl, ?_⟩) ?_ ?_
                  rotate_left
                  · intro w'
                    go_simp
                    with_reducible rfl
                  rotate_left
                  · simp only [Act.put, List.setIfInBounds_toArray, List.set_cons_zero, List.set_cons_succ, i64_w, i32_w]
                    rfl
                  refine pure_ (i := 2) (N := (some 90)) (v := ?_) (a' := ?_) #[true, true, true, false, false, false, false, false, false, false, false, false, false, false, false, false, false, false, false, false, false, false, false, false, false, false, false, false, false] rfl rfl (by kernel_rfl) (fun _ _ _ h => h) (Or.inl ⟨by rfl, ?_⟩) ?_ ?_
                  rotate_left
                  · intro w'
                    go_simp
                    with_reducible rfl
                  rotate_left
                  · simp only [Act.put, List.setIfInBounds_toArray, List.set_cons_zero, List.set_cons_succ, i64_w, i32_w]
                    rfl
                  refine take_ (i := 3) (N := (some 91)) (v := ?_) (a' := ?_) #[true, true, true, true, false, false, false, false, false, false, false, false, false, false, false, false, false, false, false, false, false, false, false, false, false, false, false, false, false] rfl rfl (by kernel_rfl) (fun _ _ _ h => h) (Or.inl ⟨by rfl, ?_⟩) hHeld ?_ ?_
                  rotate_left
                  · rintro w' ⟨s0, s1⟩
                    go_simp
                    with_reducible rfl
                  rotate_left
                  · simp only [Act.put, List.setIfInBounds_toArray, List.set_cons_zero, List.set_cons_succ, i64_w, i32_w]
                    rfl
                  refine pure_ (i := 5) (N := (some 93)) (v := ?_) (a' := ?_) #[true, true, true, true, false, true, false, false, false, false, false, false, false, false, false, false, false, false, false, false, false, false, false, false, false, false, false, false, false] rfl rfl (by kernel_rfl) (fun _ _ _ h => h) (Or.inl ⟨by rfl, ?_⟩) ?_ ?_
                  rotate_left
                  · intro w'
                    go_simp
                    with_reducible rfl
                  rotate_left
                  · simp only [Act.put, List.setIfInBounds_toArray, List.set_cons_zero, List.set_cons_succ, i64_w, i32_w]
                    rfl
                  refine pure_ (i := 6) (N := (some 94)) (v := ?_) (a' := ?_) #[true, true, true, true, false, true, true, false, false, false, false, false, false, false, false, false, false, false, false, false, false, false, false, false, false, false, false, false, false] rfl rfl (by kernel_rfl) (fun _ _ _ h => h) (Or.inl ⟨by rfl, ?_⟩) ?_ ?_
                  rotate_left
                  · intro w'
                    go_simp
                    with_reducible rfl
                  rotate_left
                  · simp only [Act.put, List.setIfInBounds_toArray, List.set_cons_zero, List.set_cons_succ, i64_w, i32_w]
                    rfl
                  refine pure_ (i := 7) (N := (some 95)) (v := ?_) (a' := ?_) #[true, true, true, true, false, true, true, true, false, false, false, false, false, false, false, false, false, false, false, false, false, false, false, false, false, false, false, false, false] rfl rfl (by kernel_rfl) (fun _ _ _ h => h) (Or.inl ⟨by rfl, ?_⟩) ?_ ?_
                  rotate_left
                  · intro w'
                    go_simp
                    with_reducible rfl
                  rotate_left
                  · simp only [Act.put, List.setIfInBounds_toArray, List.set_cons_zero, List.set_cons_succ, i64_w, i32_w]
                    rfl
                  refine take_ (i := 8) (N := (some 96)) (v := ?_) (a' := ?_) #[true, true, true, true, false, true, true, true, true, false, false, false, false, false, false, false, false, false, false, false, false, false, false, false, false, false, false, false, false] rfl rfl (by kernel_rfl) (fun _ _ _ h => h) (Or.inl ⟨by rfl, ?_⟩) hHeld ?_ ?_
                  rotate_left
                  · rintro w' ⟨s0, s1⟩
                    go_simp
                    with_reducible rfl
                  rotate_left
                  · simp only [Act.put, List.setIfInBounds_toArray, List.set_cons_zero, List.set_cons_succ, i64_w, i32_w]
                    rfl
                  refine one_ (i := 4) (N := (some 92)) #[true, true, true, true, true, true, true, true, true, false, false, false, false, false, false, false, false, false, false, false, false, false, false, false, false, false, false, false, false] rfl rfl (by kernel_rfl) (by decide) (fun K hK => ?_)
                  refine goes_ Tryz.func23 (by kernel_rfl) rfl #[.pointer (some ⟨bs q, 0, none⟩)] (by rfl) rfl rfl (by first | rfl | (simp [Act.eval]; done) | (go_simp; done)) ?_
                  refine ((La.out.below (show Below wr.heap.size wr wr.drew from (Below.refl _ _).drew)).stamp HQJ.out).mono ?_
                  rintro e x1 ⟨rfl, hb⟩
                  have hb := (show Below wr.heap.size wr wr.drew from (Below.refl _ _).drew).trans hb
                  have Lb := Lib.hid (La.out.below hb)
                  have BLb : Hid (Below g0 w0 x1) := BLa.out.trans (hb.mono (by have := BLa.out.size; omega))
                  have c1Lb := Lb.out.cell1 HQJ.out
                  have c2Lb := Lb.out.cell1 HRJ.out
                  clear hb
                  refine ⟨_, rfl, ?_⟩
                  refine hK.out _ _ ⟨c1Lb, c2Lb⟩ (fun hHeld => ?_)
                  clear hK K
                  refine norm_ (a' := ?_) ?_ ?_
                  rotate_left
                  · show Act.put _ (some 92) _ = _
                    simp only [Act.put, List.setIfInBounds_toArray, List.set_cons_zero, List.set_cons_succ, i64_w, i32_w]
                    rfl
                  refine one_ (i := 9) (N := (some 97)) #[true, true, true, true, true, true, true, true, true, true, false, false, false, false, false, false, false, false, false, false, false, false, false, false, false, false, false, false, false] rfl rfl (by kernel_rfl) (by decide) (fun K hK => ?_)
                  refine goes_ Tryz.func23 (by kernel_rfl) rfl #[.pointer (some ⟨bs r, 0, none⟩)] (by rfl) rfl rfl (by first | rfl | (simp [Act.eval]; done) | (go_simp; done)) ?_
                  refine (Lb.out.stamp HRJ.out).mono ?_
                  rintro e x2 ⟨rfl, hb⟩
                  have Lc := Lib.hid (Lb.out.below hb)
                  have BLc : Hid (Below g0 w0 x2) := BLb.out.trans (hb.mono (by have := BLb.out.size; omega))
                  have c1Lc := Lc.out.cell1 HQJ.out
                  have c2Lc := Lc.out.cell1 HRJ.out
                  clear hb
                  refine ⟨_, rfl, ?_⟩
                  refine hK.out _ _ ⟨c1Lc, c2Lc⟩ (fun hHeld => ?_)
                  clear hK K
                  refine norm_ (a' := ?_) ?_ ?_
                  rotate_left
                  · show Act.put _ (some 97) _ = _
                    simp only [Act.put, List.setIfInBounds_toArray, List.set_cons_zero, List.set_cons_succ, i64_w, i32_w]
                    rfl
                  have E10 : ((T q).stamp == (T r).stamp) = true := by rw [beq_iff_eq]; exact heq
                  refine pure_ (i := 10) (N := (some 98)) (v := .bool true) (a' := ?_) #[true, true, true, true, true, true, true, true, true, true, true, false, false, false, false, false, false, false, false, false, false, false, false, false, false, false, false, false, false] rfl rfl (by kernel_rfl) (fun _ _ _ h => h) (Or.inl ⟨by rfl, fun w' => by go_simp; (try rw [E10]); (try rfl)⟩) ?_ ?_
                  rotate_left
                  · simp only [Act.put, List.setIfInBounds_toArray, List.set_cons_zero, List.set_cons_succ, i64_w, i32_w]
                    rfl
                  refine pure_ (i := 11) (N := (some 99)) (v := ?_) (a' := ?_) #[true, true, true, true, true, true, true, true, true, true, true, true, false, false, false, false, false, false, false, false, false, false, false, false, false, false, false, false, false] rfl rfl (by kernel_rfl) (fun _ _ _ h => h) (Or.inl ⟨by rfl, ?_⟩) ?_ ?_
                  rotate_left
                  · intro w'
                    go_simp
                    with_reducible rfl
                  rotate_left
                  · simp only [Act.put, List.setIfInBounds_toArray, List.set_cons_zero, List.set_cons_succ, i64_w, i32_w]
                    rfl
                  refine pure_ (i := 12) (N := (some 100)) (v := ?_) (a' := ?_) #[true, true, true, true, true, true, true, true, true, true, true, true, true, false, false, false, false, false, false, false, false, false, false, false, false, false, false, false, false] rfl rfl (by kernel_rfl) (fun _ _ _ h => h) (Or.inl ⟨by rfl, ?_⟩) ?_ ?_
                  rotate_left
                  · intro w'
                    go_simp
                    with_reducible rfl
                  rotate_left
                  · simp only [Act.put, List.setIfInBounds_toArray, List.set_cons_zero, List.set_cons_succ, i64_w, i32_w]
                    rfl
                  refine pure_ (i := 13) (N := (some 101)) (v := ?_) (a' := ?_) #[true, true, true, true, true, true, true, true, true, true, true, true, true, true, false, false, false, false, false, false, false, false, false, false, false, false, false, false, false] rfl rfl (by kernel_rfl) (fun _ _ _ h => h) (Or.inl ⟨by rfl, ?_⟩) ?_ ?_
                  rotate_left
                  · intro w'
                    go_simp
                    with_reducible rfl
                  rotate_left
                  · simp only [Act.put, List.setIfInBounds_toArray, List.set_cons_zero, List.set_cons_succ, i64_w, i32_w]
                    rfl
                  refine pure_ (i := 14) (N := (some 102)) (v := ?_) (a' := ?_) #[true, true, true, true, true, true, true, true, true, true, true, true, true, true, true, false, false, false, false, false, false, false, false, false, false, false, false, false, false] rfl rfl (by kernel_rfl) (fun _ _ _ h => h) (Or.inl ⟨by rfl, ?_⟩) ?_ ?_
                  rotate_left
                  · intro w'
                    go_simp
                    with_reducible rfl
                  rotate_left
                  · simp only [Act.put, List.setIfInBounds_toArray, List.set_cons_zero, List.set_cons_succ, i64_w, i32_w]
                    rfl
                  refine take_ (i := 15) (N := (some 103)) (v := ?_) (a' := ?_) #[true, true, true, true, true, true, true, true, true, true, true, true, true, true, true, true, false, false, false, false, false, false, false, false, false, false, false, false, false] rfl rfl (by kernel_rfl) (fun _ _ _ h => h) (Or.inl ⟨by rfl, ?_⟩) hHeld ?_ ?_
                  rotate_left
                  · rintro w' ⟨s0, s1⟩
                    go_simp
                    with_reducible rfl
                  rotate_left
                  · simp only [Act.put, List.setIfInBounds_toArray, List.set_cons_zero, List.set_cons_succ, i64_w, i32_w]
                    rfl
                  refine one_ (i := 16) (N := (some 104)) #[true, true, true, true, true, true, true, true, true, true, true, true, true, true, true, true, true, false, false, false, false, false, false, false, false, false, false, false, false] rfl rfl (by kernel_rfl) (by decide) (fun K hK => ?_)
                  refine goes_ Tryz.func24 (by kernel_rfl) rfl #[.pointer (some ⟨bs q, 0, none⟩)] (by rfl) rfl rfl (by first | rfl | (simp [Act.eval]; done) | (go_simp; done)) ?_
                  refine (Lc.out.writes HQJ.out).mono ?_
                  rintro e x3 ⟨Aw16, cw16, rfl, hb⟩
                  rw [WNQ.out]
                  have Ld := Lib.hid (Lc.out.below hb)
                  have BLd : Hid (Below g0 w0 x3) := BLc.out.trans (hb.mono (by have := BLc.out.size; omega))
                  have c1Ld := Ld.out.cell1 HQJ.out
                  have c2Ld := Ld.out.cell1 HRJ.out
                  clear hb
                  refine ⟨_, rfl, ?_⟩
                  refine hK.out _ _ ⟨c1Ld, c2Ld⟩ (fun hHeld => ?_)
                  clear hK K
                  refine norm_ (a' := ?_) ?_ ?_
                  rotate_left
                  · show Act.put _ (some 104) _ = _
                    simp only [Act.put, List.setIfInBounds_toArray, List.set_cons_zero, List.set_cons_succ, i64_w, i32_w]
                    rfl
                  refine pure_ (i := 17) (N := (some 105)) (v := ?_) (a' := ?_) #[true, true, true, true, true, true, true, true, true, true, true, true, true, true, true, true, true, true, false, false, false, false, false, false, false, false, false, false, false] rfl rfl (by kernel_rfl) (fun _ _ _ h => h) (Or.inl ⟨by rfl, ?_⟩) ?_ ?_
                  rotate_left
                  · intro w'
                    go_simp
                    with_reducible rfl
                  rotate_left
                  · simp only [Act.put, List.setIfInBounds_toArray, List.set_cons_zero, List.set_cons_succ, i64_w, i32_w]
                    rfl
                  refine pure_ (i := 18) (N := (some 106)) (v := .bool false) (a' := ?_) #[true, true, true, true, true, true, true, true, true, true, true, true, true, true, true, true, true, true, true, false, false, false, false, false, false, false, false, false, false] rfl rfl (by kernel_rfl) (fun _ _ _ h => h) (Or.inl ⟨by rfl, fun w' => by go_simp; (try rw [D18]); (try rfl)⟩) ?_ ?_
                  rotate_left
                  · simp only [Act.put, List.setIfInBounds_toArray, List.set_cons_zero, List.set_cons_succ, i64_w, i32_w]
                    rfl
                  refine pure_ (i := 19) (N := (some 107)) (v := ?_) (a' := ?_) #[true, true, true, true, true, true, true, true, true, true, true, true, true, true, true, true, true, true, true, true, false, false, false, false, false, false, false, false, false] rfl rfl (by kernel_rfl) (fun _ _ _ h => h) (Or.inl ⟨by rfl, ?_⟩) ?_ ?_
                  rotate_left
                  · intro w'
                    go_simp
                    with_reducible rfl
                  rotate_left
                  · simp only [Act.put, List.setIfInBounds_toArray, List.set_cons_zero, List.set_cons_succ, i64_w, i32_w]
                    rfl
                  refine pure_ (i := 20) (N := (some 108)) (v := ?_) (a' := ?_) #[true, true, true, true, true, true, true, true, true, true, true, true, true, true, true, true, true, true, true, true, true, false, false, false, false, false, false, false, false] rfl rfl (by kernel_rfl) (fun _ _ _ h => h) (Or.inl ⟨by rfl, ?_⟩) ?_ ?_
                  rotate_left
                  · intro w'
                    go_simp
                    with_reducible rfl
                  rotate_left
                  · simp only [Act.put, List.setIfInBounds_toArray, List.set_cons_zero, List.set_cons_succ, i64_w, i32_w]
                    rfl
                  refine pure_ (i := 21) (N := (some 109)) (v := undef) (a' := ?_) #[true, true, true, true, true, true, true, true, true, true, true, true, true, true, true, true, true, true, true, true, true, true, false, false, false, false, false, false, false] rfl rfl (by kernel_rfl) (fun _ _ _ h => h) (Or.inr ⟨by rfl, rfl⟩) ?_ ?_
                  rotate_left
                  · simp only [Act.put, List.setIfInBounds_toArray, List.set_cons_zero, List.set_cons_succ, i64_w, i32_w]
                    rfl
                  refine pure_ (i := 22) (N := (some 110)) (v := undef) (a' := ?_) #[true, true, true, true, true, true, true, true, true, true, true, true, true, true, true, true, true, true, true, true, true, true, true, false, false, false, false, false, false] rfl rfl (by kernel_rfl) (fun _ _ _ h => h) (Or.inr ⟨by rfl, rfl⟩) ?_ ?_
                  rotate_left
                  · simp only [Act.put, List.setIfInBounds_toArray, List.set_cons_zero, List.set_cons_succ, i64_w, i32_w]
                    rfl
                  refine pure_ (i := 23) (N := (some 111)) (v := undef) (a' := ?_) #[true, true, true, true, true, true, true, true, true, true, true, true, true, true, true, true, true, true, true, true, true, true, true, true, false, false, false, false, false] rfl rfl (by kernel_rfl) (fun _ _ _ h => h) (Or.inr ⟨by rfl, rfl⟩) ?_ ?_
                  rotate_left
                  · simp only [Act.put, List.setIfInBounds_toArray, List.set_cons_zero, List.set_cons_succ, i64_w, i32_w]
                    rfl
                  refine pure_ (i := 24) (N := (some 112)) (v := undef) (a' := ?_) #[true, true, true, true, true, true, true, true, true, true, true, true, true, true, true, true, true, true, true, true, true, true, true, true, true, false, false, false, false] rfl rfl (by kernel_rfl) (fun _ _ _ h => h) (Or.inr ⟨by rfl, rfl⟩) ?_ ?_
                  rotate_left
                  · simp only [Act.put, List.setIfInBounds_toArray, List.set_cons_zero, List.set_cons_succ, i64_w, i32_w]
                    rfl
                  refine pure_ (i := 25) (N := (some 113)) (v := undef) (a' := ?_) #[true, true, true, true, true, true, true, true, true, true, true, true, true, true, true, true, true, true, true, true, true, true, true, true, true, true, false, false, false] rfl rfl (by kernel_rfl) (fun _ _ _ h => h) (Or.inr ⟨by rfl, rfl⟩) ?_ ?_
                  rotate_left
                  · simp only [Act.put, List.setIfInBounds_toArray, List.set_cons_zero, List.set_cons_succ, i64_w, i32_w]
                    rfl
                  refine pure_ (i := 26) (N := (some 114)) (v := undef) (a' := ?_) #[true, true, true, true, true, true, true, true, true, true, true, true, true, true, true, true, true, true, true, true, true, true, true, true, true, true, true, false, false] rfl rfl (by kernel_rfl) (fun _ _ _ h => h) (Or.inr ⟨by rfl, rfl⟩) ?_ ?_
                  rotate_left
                  · simp only [Act.put, List.setIfInBounds_toArray, List.set_cons_zero, List.set_cons_succ, i64_w, i32_w]
                    rfl
                  refine pure_ (i := 27) (N := (some 115)) (v := undef) (a' := ?_) #[true, true, true, true, true, true, true, true, true, true, true, true, true, true, true, true, true, true, true, true, true, true, true, true, true, true, true, true, false] rfl rfl (by kernel_rfl) (fun _ _ _ h => h) (Or.inr ⟨by rfl, rfl⟩) ?_ ?_
                  rotate_left
                  · simp only [Act.put, List.setIfInBounds_toArray, List.set_cons_zero, List.set_cons_succ, i64_w, i32_w]
                    rfl
                  refine pure_ (i := 28) (N := (some 116)) (v := ?_) (a' := ?_) #[true, true, true, true, true, true, true, true, true, true, true, true, true, true, true, true, true, true, true, true, true, true, true, true, true, true, true, true, true] rfl rfl (by kernel_rfl) (fun _ _ _ h => h) (Or.inl ⟨by rfl, ?_⟩) ?_ ?_
                  rotate_left
                  · intro w'
                    go_simp
                    with_reducible rfl
                  rotate_left
                  · simp only [Act.put, List.setIfInBounds_toArray, List.set_cons_zero, List.set_cons_succ, i64_w, i32_w]
                    rfl
                  refine done_ (by kernel_rfl) ?_
                  go_wp2
                  go_roundw
                  case rel => exact ⟨r + 1, by omega, by go_num, Ld, BLd⟩
                  case measure => simp [intOf]; omega
                · have hwr : wroteB (T r) = [] := Classical.byContradiction fun hc => UN hwq hc heq
                  have WNR : Hid ((wroteB (T r)).length = 0) := by rw [hwr]; rfl
                  obtain ⟨z, hz⟩ : ∃ z, (wroteB (T q)).length = z := ⟨_, rfl⟩
                  have WNQ : Hid ((wroteB (T q)).length = z) := hz
                  have hz0 : 0 < z := by rw [← hz]; exact List.length_pos_iff.2 hwq
                  have D18 : decide ((0 : Int) < (z : Int)) = true := by simpa using hz0
                  clear UN hz
                  go_upto_region 20 with fail
                  refine start_ (n := 29) (S := fun w' => w'.cell? ⟨p, q, none⟩ = some (.pointer (some ⟨bs q, 0, none⟩)) ∧ w'.cell? ⟨p, r, none⟩ = some (.pointer (some ⟨bs r, 0, none⟩))) (ds := []) #[false, false, false, false, false, false, false, false, false, false, false, false, false, false, false, false, false, false, false, false, false, false, false, false, false, false, false, false, false] (by kernel_rfl) rfl rfl ⟨hcq, hcr⟩ (fun hHeld => ?_)
                  refine pure_ (i := 0) (N := (some 88)) (v := ?_) (a' := ?_) #[true, false, false, false, false, false, false, false, false, false, false, false, false, false, false, false, false, false, false, false, false, false, false, false, false, false, false, false, false] rfl rfl (by kernel_rfl) (fun _ _ _ h => h) (Or.inl ⟨by rfl, ?_⟩) ?_ ?_
                  rotate_left
                  · intro w'
                    go_simp
                    with_reducible rfl
                  rotate_left
                  · simp only [Act.put, List.setIfInBounds_toArray, List.set_cons_zero, List.set_cons_succ, i64_w, i32_w]
                    rfl
                  refine pure_ (i := 1) (N := (some 89)) (v := ?_) (a' := ?_) #[true, true, false, false, false, false, false, false, false, false, false, false, false, false, false, false, false, false, false, false, false, false, false, false, false, false, false, false, false] rfl rfl (by kernel_rfl) (fun _ _ _ h => h) (Or.inl ⟨by rfl, ?_⟩) ?_ ?_
                  rotate_left
                  · intro w'
                    go_simp
                    with_reducible rfl
                  rotate_left
                  · simp only [Act.put, List.setIfInBounds_toArray, List.set_cons_zero, List.set_cons_succ, i64_w, i32_w]
                    rfl
                  refine pure_ (i := 2) (N := (some 90)) (v := ?_) (a' := ?_) #[true, true, true, false, false, false, false, false, false, false, false, false, false, false, false, false, false, false, false, false, false, false, false, false, false, false, false, false, false] rfl rfl (by kernel_rfl) (fun _ _ _ h => h) (Or.inl ⟨by rfl, ?_⟩) ?_ ?_
                  rotate_left
                  · intro w'
                    go_simp
                    with_reducible rfl
                  rotate_left
                  · simp only [Act.put, List.setIfInBounds_toArray, List.set_cons_zero, List.set_cons_succ, i64_w, i32_w]
                    rfl
                  refine take_ (i := 3) (N := (some 91)) (v := ?_) (a' := ?_) #[true, true, true, true, false, false, false, false, false, false, false, false, false, false, false, false, false, false, false, false, false, false, false, false, false, false, false, false, false] rfl rfl (by kernel_rfl) (fun _ _ _ h => h) (Or.inl ⟨by rfl, ?_⟩) hHeld ?_ ?_
                  rotate_left
                  · rintro w' ⟨s0, s1⟩
                    go_simp
                    with_reducible rfl
                  rotate_left
                  · simp only [Act.put, List.setIfInBounds_toArray, List.set_cons_zero, List.set_cons_succ, i64_w, i32_w]
                    rfl
                  refine pure_ (i := 5) (N := (some 93)) (v := ?_) (a' := ?_) #[true, true, true, true, false, true, false, false, false, false, false, false, false, false, false, false, false, false, false, false, false, false, false, false, false, false, false, false, false] rfl rfl (by kernel_rfl) (fun _ _ _ h => h) (Or.inl ⟨by rfl, ?_⟩) ?_ ?_
                  rotate_left
                  · intro w'
                    go_simp
                    with_reducible rfl
                  rotate_left
                  · simp only [Act.put, List.setIfInBounds_toArray, List.set_cons_zero, List.set_cons_succ, i64_w, i32_w]
                    rfl
                  refine pure_ (i := 6) (N := (some 94)) (v := ?_) (a' := ?_) #[true, true, true, true, false, true, true, false, false, false, false, false, false, false, false, false, false, false, false, false, false, false, false, false, false, false, false, false, false] rfl rfl (by kernel_rfl) (fun _ _ _ h => h) (Or.inl ⟨by rfl, ?_⟩) ?_ ?_
                  rotate_left
                  · intro w'
                    go_simp
                    with_reducible rfl
                  rotate_left
                  · simp only [Act.put, List.setIfInBounds_toArray, List.set_cons_zero, List.set_cons_succ, i64_w, i32_w]
                    rfl
                  refine pure_ (i := 7) (N := (some 95)) (v := ?_) (a' := ?_) #[true, true, true, true, false, true, true, true, false, false, false, false, false, false, false, false, false, false, false, false, false, false, false, false, false, false, false, false, false] rfl rfl (by kernel_rfl) (fun _ _ _ h => h) (Or.inl ⟨by rfl, ?_⟩) ?_ ?_
                  rotate_left
                  · intro w'
                    go_simp
                    with_reducible rfl
                  rotate_left
                  · simp only [Act.put, List.setIfInBounds_toArray, List.set_cons_zero, List.set_cons_succ, i64_w, i32_w]
                    rfl
                  refine take_ (i := 8) (N := (some 96)) (v := ?_) (a' := ?_) #[true, true, true, true, false, true, true, true, true, false, false, false, false, false, false, false, false, false, false, false, false, false, false, false, false, false, false, false, false] rfl rfl (by kernel_rfl) (fun _ _ _ h => h) (Or.inl ⟨by rfl, ?_⟩) hHeld ?_ ?_
                  rotate_left
                  · rintro w' ⟨s0, s1⟩
                    go_simp
                    with_reducible rfl
                  rotate_left
                  · simp only [Act.put, List.setIfInBounds_toArray, List.set_cons_zero, List.set_cons_succ, i64_w, i32_w]
                    rfl
                  refine one_ (i := 4) (N := (some 92)) #[true, true, true, true, true, true, true, true, true, false, false, false, false, false, false, false, false, false, false, false, false, false, false, false, false, false, false, false, false] rfl rfl (by kernel_rfl) (by decide) (fun K hK => ?_)
                  refine goes_ Tryz.func23 (by kernel_rfl) rfl #[.pointer (some ⟨bs q, 0, none⟩)] (by rfl) rfl rfl (by first | rfl | (simp [Act.eval]; done) | (go_simp; done)) ?_
                  refine ((La.out.below (show Below wr.heap.size wr wr.drew from (Below.refl _ _).drew)).stamp HQJ.out).mono ?_
                  rintro e x1 ⟨rfl, hb⟩
                  have hb := (show Below wr.heap.size wr wr.drew from (Below.refl _ _).drew).trans hb
                  have Lb := Lib.hid (La.out.below hb)
                  have BLb : Hid (Below g0 w0 x1) := BLa.out.trans (hb.mono (by have := BLa.out.size; omega))
                  have c1Lb := Lb.out.cell1 HQJ.out
                  have c2Lb := Lb.out.cell1 HRJ.out
                  clear hb
                  refine ⟨_, rfl, ?_⟩
                  refine hK.out _ _ ⟨c1Lb, c2Lb⟩ (fun hHeld => ?_)
                  clear hK K
                  refine norm_ (a' := ?_) ?_ ?_
                  rotate_left
                  · show Act.put _ (some 92) _ = _
                    simp only [Act.put, List.setIfInBounds_toArray, List.set_cons_zero, List.set_cons_succ, i64_w, i32_w]
                    rfl
                  refine one_ (i := 9) (N := (some 97)) #[true, true, true, true, true, true, true, true, true, true, false, false, false, false, false, false, false, false, false, false, false, false, false, false, false, false, false, false, false] rfl rfl (by kernel_rfl) (by decide) (fun K hK => ?_)
                  refine goes_ Tryz.func23 (by kernel_rfl) rfl #[.pointer (some ⟨bs r, 0, none⟩)] (by rfl) rfl rfl (by first | rfl | (simp [Act.eval]; done) | (go_simp; done)) ?_
                  refine (Lb.out.stamp HRJ.out).mono ?_
                  rintro e x2 ⟨rfl, hb⟩
                  have Lc := Lib.hid (Lb.out.below hb)
                  have BLc : Hid (Below g0 w0 x2) := BLb.out.trans (hb.mono (by have := BLb.out.size; omega))
                  have c1Lc := Lc.out.cell1 HQJ.out
                  have c2Lc := Lc.out.cell1 HRJ.out
                  clear hb
                  refine ⟨_, rfl, ?_⟩
                  refine hK.out _ _ ⟨c1Lc, c2Lc⟩ (fun hHeld => ?_)
                  clear hK K
                  refine norm_ (a' := ?_) ?_ ?_
                  rotate_left
                  · show Act.put _ (some 97) _ = _
                    simp only [Act.put, List.setIfInBounds_toArray, List.set_cons_zero, List.set_cons_succ, i64_w, i32_w]
                    rfl
                  have E10 : ((T q).stamp == (T r).stamp) = true := by rw [beq_iff_eq]; exact heq
                  refine pure_ (i := 10) (N := (some 98)) (v := .bool true) (a' := ?_) #[true, true, true, true, true, true, true, true, true, true, true, false, false, false, false, false, false, false, false, false, false, false, false, false, false, false, false, false, false] rfl rfl (by kernel_rfl) (fun _ _ _ h => h) (Or.inl ⟨by rfl, fun w' => by go_simp; (try rw [E10]); (try rfl)⟩) ?_ ?_
                  rotate_left
                  · simp only [Act.put, List.setIfInBounds_toArray, List.set_cons_zero, List.set_cons_succ, i64_w, i32_w]
                    rfl
                  refine pure_ (i := 11) (N := (some 99)) (v := ?_) (a' := ?_) #[true, true, true, true, true, true, true, true, true, true, true, true, false, false, false, false, false, false, false, false, false, false, false, false, false, false, false, false, false] rfl rfl (by kernel_rfl) (fun _ _ _ h => h) (Or.inl ⟨by rfl, ?_⟩) ?_ ?_
                  rotate_left
                  · intro w'
                    go_simp
                    with_reducible rfl
                  rotate_left
                  · simp only [Act.put, List.setIfInBounds_toArray, List.set_cons_zero, List.set_cons_succ, i64_w, i32_w]
                    rfl
                  refine pure_ (i := 12) (N := (some 100)) (v := ?_) (a' := ?_) #[true, true, true, true, true, true, true, true, true, true, true, true, true, false, false, false, false, false, false, false, false, false, false, false, false, false, false, false, false] rfl rfl (by kernel_rfl) (fun _ _ _ h => h) (Or.inl ⟨by rfl, ?_⟩) ?_ ?_
                  rotate_left
                  · intro w'
                    go_simp
                    with_reducible rfl
                  rotate_left
                  · simp only [Act.put, List.setIfInBounds_toArray, List.set_cons_zero, List.set_cons_succ, i64_w, i32_w]
                    rfl
                  refine pure_ (i := 13) (N := (some 101)) (v := ?_) (a' := ?_) #[true, true, true, true, true, true, true, true, true, true, true, true, true, true, false, false, false, false, false, false, false, false, false, false, false, false, false, false, false] rfl rfl (by kernel_rfl) (fun _ _ _ h => h) (Or.inl ⟨by rfl, ?_⟩) ?_ ?_
                  rotate_left
                  · intro w'
                    go_simp
                    with_reducible rfl
                  rotate_left
                  · simp only [Act.put, List.setIfInBounds_toArray, List.set_cons_zero, List.set_cons_succ, i64_w, i32_w]
                    rfl
                  refine pure_ (i := 14) (N := (some 102)) (v := ?_) (a' := ?_) #[true, true, true, true, true, true, true, true, true, true, true, true, true, true, true, false, false, false, false, false, false, false, false, false, false, false, false, false, false] rfl rfl (by kernel_rfl) (fun _ _ _ h => h) (Or.inl ⟨by rfl, ?_⟩) ?_ ?_
                  rotate_left
                  · intro w'
                    go_simp
                    with_reducible rfl
                  rotate_left
                  · simp only [Act.put, List.setIfInBounds_toArray, List.set_cons_zero, List.set_cons_succ, i64_w, i32_w]
                    rfl
                  refine take_ (i := 15) (N := (some 103)) (v := ?_) (a' := ?_) #[true, true, true, true, true, true, true, true, true, true, true, true, true, true, true, true, false, false, false, false, false, false, false, false, false, false, false, false, false] rfl rfl (by kernel_rfl) (fun _ _ _ h => h) (Or.inl ⟨by rfl, ?_⟩) hHeld ?_ ?_
                  rotate_left
                  · rintro w' ⟨s0, s1⟩
                    go_simp
                    with_reducible rfl
                  rotate_left
                  · simp only [Act.put, List.setIfInBounds_toArray, List.set_cons_zero, List.set_cons_succ, i64_w, i32_w]
                    rfl
                  refine one_ (i := 16) (N := (some 104)) #[true, true, true, true, true, true, true, true, true, true, true, true, true, true, true, true, true, false, false, false, false, false, false, false, false, false, false, false, false] rfl rfl (by kernel_rfl) (by decide) (fun K hK => ?_)
                  refine goes_ Tryz.func24 (by kernel_rfl) rfl #[.pointer (some ⟨bs q, 0, none⟩)] (by rfl) rfl rfl (by first | rfl | (simp [Act.eval]; done) | (go_simp; done)) ?_
                  refine (Lc.out.writes HQJ.out).mono ?_
                  rintro e x3 ⟨Aw16, cw16, rfl, hb⟩
                  rw [WNQ.out]
                  have Ld := Lib.hid (Lc.out.below hb)
                  have BLd : Hid (Below g0 w0 x3) := BLc.out.trans (hb.mono (by have := BLc.out.size; omega))
                  have c1Ld := Ld.out.cell1 HQJ.out
                  have c2Ld := Ld.out.cell1 HRJ.out
                  clear hb
                  refine ⟨_, rfl, ?_⟩
                  refine hK.out _ _ ⟨c1Ld, c2Ld⟩ (fun hHeld => ?_)
                  clear hK K
                  refine norm_ (a' := ?_) ?_ ?_
                  rotate_left
                  · show Act.put _ (some 104) _ = _
                    simp only [Act.put, List.setIfInBounds_toArray, List.set_cons_zero, List.set_cons_succ, i64_w, i32_w]
                    rfl
                  refine pure_ (i := 17) (N := (some 105)) (v := ?_) (a' := ?_) #[true, true, true, true, true, true, true, true, true, true, true, true, true, true, true, true, true, true, false, false, false, false, false, false, false, false, false, false, false] rfl rfl (by kernel_rfl) (fun _ _ _ h => h) (Or.inl ⟨by rfl, ?_⟩) ?_ ?_
                  rotate_left
                  · intro w'
                    go_simp
                    with_reducible rfl
                  rotate_left
                  · simp only [Act.put, List.setIfInBounds_toArray, List.set_cons_zero, List.set_cons_succ, i64_w, i32_w]
                    rfl
                  refine pure_ (i := 18) (N := (some 106)) (v := .bool true) (a' := ?_) #[true, true, true, true, true, true, true, true, true, true, true, true, true, true, true, true, true, true, true, false, false, false, false, false, false, false, false, false, false] rfl rfl (by kernel_rfl) (fun _ _ _ h => h) (Or.inl ⟨by rfl, fun w' => by go_simp; (try rw [D18]); (try rfl)⟩) ?_ ?_
                  rotate_left
                  · simp only [Act.put, List.setIfInBounds_toArray, List.set_cons_zero, List.set_cons_succ, i64_w, i32_w]
                    rfl
                  refine pure_ (i := 19) (N := (some 107)) (v := ?_) (a' := ?_) #[true, true, true, true, true, true, true, true, true, true, true, true, true, true, true, true, true, true, true, true, false, false, false, false, false, false, false, false, false] rfl rfl (by kernel_rfl) (fun _ _ _ h => h) (Or.inl ⟨by rfl, ?_⟩) ?_ ?_
                  rotate_left
                  · intro w'
                    go_simp
                    with_reducible rfl
                  rotate_left
                  · simp only [Act.put, List.setIfInBounds_toArray, List.set_cons_zero, List.set_cons_succ, i64_w, i32_w]
                    rfl
                  refine pure_ (i := 20) (N := (some 108)) (v := ?_) (a' := ?_) #[true, true, true, true, true, true, true, true, true, true, true, true, true, true, true, true, true, true, true, true, true, false, false, false, false, false, false, false, false] rfl rfl (by kernel_rfl) (fun _ _ _ h => h) (Or.inl ⟨by rfl, ?_⟩) ?_ ?_
                  rotate_left
                  · intro w'
                    go_simp
                    with_reducible rfl
                  rotate_left
                  · simp only [Act.put, List.setIfInBounds_toArray, List.set_cons_zero, List.set_cons_succ, i64_w, i32_w]
                    rfl
                  refine pure_ (i := 21) (N := (some 109)) (v := ?_) (a' := ?_) #[true, true, true, true, true, true, true, true, true, true, true, true, true, true, true, true, true, true, true, true, true, true, false, false, false, false, false, false, false] rfl rfl (by kernel_rfl) (fun _ _ _ h => h) (Or.inl ⟨by rfl, ?_⟩) ?_ ?_
                  rotate_left
                  · intro w'
                    go_simp
                    with_reducible rfl
                  rotate_left
                  · simp only [Act.put, List.setIfInBounds_toArray, List.set_cons_zero, List.set_cons_succ, i64_w, i32_w]
                    rfl
                  refine pure_ (i := 22) (N := (some 110)) (v := ?_) (a' := ?_) #[true, true, true, true, true, true, true, true, true, true, true, true, true, true, true, true, true, true, true, true, true, true, true, false, false, false, false, false, false] rfl rfl (by kernel_rfl) (fun _ _ _ h => h) (Or.inl ⟨by rfl, ?_⟩) ?_ ?_
                  rotate_left
                  · intro w'
                    go_simp
                    with_reducible rfl
                  rotate_left
                  · simp only [Act.put, List.setIfInBounds_toArray, List.set_cons_zero, List.set_cons_succ, i64_w, i32_w]
                    rfl
                  refine pure_ (i := 23) (N := (some 111)) (v := ?_) (a' := ?_) #[true, true, true, true, true, true, true, true, true, true, true, true, true, true, true, true, true, true, true, true, true, true, true, true, false, false, false, false, false] rfl rfl (by kernel_rfl) (fun _ _ _ h => h) (Or.inl ⟨by rfl, ?_⟩) ?_ ?_
                  rotate_left
                  · intro w'
                    go_simp
                    with_reducible rfl
                  rotate_left
                  · simp only [Act.put, List.setIfInBounds_toArray, List.set_cons_zero, List.set_cons_succ, i64_w, i32_w]
                    rfl
                  refine take_ (i := 24) (N := (some 112)) (v := ?_) (a' := ?_) #[true, true, true, true, true, true, true, true, true, true, true, true, true, true, true, true, true, true, true, true, true, true, true, true, true, false, false, false, false] rfl rfl (by kernel_rfl) (fun _ _ _ h => h) (Or.inl ⟨by rfl, ?_⟩) hHeld ?_ ?_
                  rotate_left
                  · rintro w' ⟨s0, s1⟩
                    go_simp
                    with_reducible rfl
                  rotate_left
                  · simp only [Act.put, List.setIfInBounds_toArray, List.set_cons_zero, List.set_cons_succ, i64_w, i32_w]
                    rfl
                  refine one_ (i := 25) (N := (some 113)) #[true, true, true, true, true, true, true, true, true, true, true, true, true, true, true, true, true, true, true, true, true, true, true, true, true, true, false, false, false] rfl rfl (by kernel_rfl) (by decide) (fun K hK => ?_)
                  refine goes_ Tryz.func24 (by kernel_rfl) rfl #[.pointer (some ⟨bs r, 0, none⟩)] (by rfl) rfl rfl (by first | rfl | (simp [Act.eval]; done) | (go_simp; done)) ?_
                  refine (Ld.out.writes HRJ.out).mono ?_
                  rintro e x4 ⟨Aw25, cw25, rfl, hb⟩
                  rw [WNR.out]
                  have Le := Lib.hid (Ld.out.below hb)
                  have BLe : Hid (Below g0 w0 x4) := BLd.out.trans (hb.mono (by have := BLd.out.size; omega))
                  have c1Le := Le.out.cell1 HQJ.out
                  have c2Le := Le.out.cell1 HRJ.out
                  clear hb
                  refine ⟨_, rfl, ?_⟩
                  refine hK.out _ _ ⟨c1Le, c2Le⟩ (fun hHeld => ?_)
                  clear hK K
                  refine norm_ (a' := ?_) ?_ ?_
                  rotate_left
                  · show Act.put _ (some 113) _ = _
                    simp only [Act.put, List.setIfInBounds_toArray, List.set_cons_zero, List.set_cons_succ, i64_w, i32_w]
                    rfl
                  refine pure_ (i := 26) (N := (some 114)) (v := ?_) (a' := ?_) #[true, true, true, true, true, true, true, true, true, true, true, true, true, true, true, true, true, true, true, true, true, true, true, true, true, true, true, false, false] rfl rfl (by kernel_rfl) (fun _ _ _ h => h) (Or.inl ⟨by rfl, ?_⟩) ?_ ?_
                  rotate_left
                  · intro w'
                    go_simp
                    with_reducible rfl
                  rotate_left
                  · simp only [Act.put, List.setIfInBounds_toArray, List.set_cons_zero, List.set_cons_succ, i64_w, i32_w]
                    rfl
                  refine pure_ (i := 27) (N := (some 115)) (v := ?_) (a' := ?_) #[true, true, true, true, true, true, true, true, true, true, true, true, true, true, true, true, true, true, true, true, true, true, true, true, true, true, true, true, false] rfl rfl (by kernel_rfl) (fun _ _ _ h => h) (Or.inl ⟨by rfl, ?_⟩) ?_ ?_
                  rotate_left
                  · intro w'
                    go_simp
                    with_reducible rfl
                  rotate_left
                  · simp only [Act.put, List.setIfInBounds_toArray, List.set_cons_zero, List.set_cons_succ, i64_w, i32_w]
                    rfl
                  refine pure_ (i := 28) (N := (some 116)) (v := ?_) (a' := ?_) #[true, true, true, true, true, true, true, true, true, true, true, true, true, true, true, true, true, true, true, true, true, true, true, true, true, true, true, true, true] rfl rfl (by kernel_rfl) (fun _ _ _ h => h) (Or.inl ⟨by rfl, ?_⟩) ?_ ?_
                  rotate_left
                  · intro w'
                    go_simp
                    with_reducible rfl
                  rotate_left
                  · simp only [Act.put, List.setIfInBounds_toArray, List.set_cons_zero, List.set_cons_succ, i64_w, i32_w]
                    rfl
                  refine done_ (by kernel_rfl) ?_
                  go_wp2
                  go_roundw
                  case rel => exact ⟨r + 1, by omega, by go_num, Le, BLe⟩
                  case measure => simp [intOf]; omega
            · obtain rfl : q = r := by omega
              go_wp2
              go_roundw
              case rel => exact ⟨q + 1, by omega, by go_num, La, BLa⟩
              case measure => simp [intOf]; omega
        · obtain rfl : n = q := by omega
          have LD2 := Lib.hid (HL.out.load (by omega) 2)
          have F2 := EN.out.2.1
          go_wp2_with (first
            | (go_at_call 19; refine LD2.out.mono ?_; rintro e wa ⟨rfl, hL, hC⟩
               rw [F2]
               have Ba : Hid (Below g0 w0 wa) := HB.out.trans (hC.below (by have := HB.out.size; omega) (fun k hk => by have := HAG.out; omega))
               clear hL hC HL HB LD2)
            | (go_at_call 17; refine (LN.out _).mono ?_; rintro e wz ⟨rfl, hb⟩
               have BZ : Hid (Below g0 w0 wz) := Ba.out.trans (hb.mono (by have := Ba.out.size; omega))
               clear hb Ba))
          go_ret
          exact ⟨rfl, BZ.out⟩

set_option maxRecDepth 100000 in
theorem walk {H : Type} {enc : TypeId × Value → H} {base : Nat} {spare : Nat → Bool} {held : Bool} {d0 d1 d2 : DataW H} {p0 p1 p2 : List MemPlace} {r : Reach} {b0 : Nat} (v0 : Value) (y : Int) (v1 v2 : Value) (w : World)
    (hv0 : Value.okWide Tryz.prog w r b0 23 v0) (t0 : DataW.Trod enc Tryz.prog w base spare held 23 v0 d0 p0) (_hy : (Lit.int .i64 y).wf = true)
    (hv1 : Value.okWide Tryz.prog w r b0 24 v1) (t1 : DataW.Trod enc Tryz.prog w base spare held 24 v1 d1 p1)
    (hv2 : Value.okWide Tryz.prog w r b0 25 v2) (t2 : DataW.Trod enc Tryz.prog w base spare held 25 v2 d2 p2) :
    Calls Tryz.prog 4 #[v0, .int .i64 y, v1, v2] w fun e w' => e = .returned (.bool true) ∧ Below w.heap.size w w' := by
  obtain ⟨c, rfl⟩ := Lay.cfg_of hv0 t0
  obtain ⟨js, h3, h4⟩ := jobs_of hv1 t1
  obtain ⟨ss, h5, h6⟩ := View.words_of hv2 t2
  exact walk_in h3 h4 h5
end Locks22
end Att
end Go.Proofs.YthojgahcpkdemaaGreat

/- PROVED HERE: 'assart/assartlaw22.AttemptLocks' returns true for every input, without a panic, and its arguments read behind the call as they read before (When all are over all locks are free, of versions up to the clock; no two that wrote something have one stamp; the flag is as it was). Condition: none beyond the row's own. -/
namespace Go.Proofs.YthojgahcpkdemaaGreat
namespace FrAttemptLocks
open Go.ChangeShapes Go.WideShapes Go.ChangeAt Go.RowKit
open Go.ChangeMaps (open_string shut_string)
set_option linter.unusedVariables false

theorem own : ownKnob Tryz.prog.godebug = none := by kernel_rfl
theorem laidOut : laidOutB Tryz.prog = true := by kernel_rfl

set_option maxRecDepth 100000 in
theorem lifted (os : Os) (started : os.Started) (H : Type) (enc : TypeId × Value → H) :
    ReturnsInHanded {} Tryz.checked os 4 .any (Rows.attemptLocksSpec.pre6 enc Tryz.prog Tryz.f4 Rows.attemptLocksRow.domain false) (Rows.attemptLocksSpec.post enc Tryz.prog Tryz.f4 false true false false) := by
  refine returnsInHanded_of_change (C := Tryz.checked) own started (by kernel_rfl) Tryz.func4
    (ChangeSpec.witness6 (enc := enc) (C := Tryz.checked) false ⟨#[], #[.agg #[.int .i64 0, .int .i64 0, .int .i64 0, .int .i64 0, .int .i64 0, .int .i64 0, .int .i64 0, .int .i64 0, .int .i64 0, .int .i64 0, .int .i64 0], .int .i64 0, .slice none 0 0, .slice none 0 0], []⟩ 8 (by kernel_rfl) (by kernel_rfl) (by kernel_rfl) (by kernel_rfl)) ?_
  intro W base args ds gs before hval0 hW hcnd _
  have hval : ∀ (j : Nat) t v, Tryz.f4.params[j]? = some t → args[j]? = some v → Value.okWide Tryz.prog W .any base t v := hval0
  have hW' := hW
  obtain ⟨p, q, hA0, hV, rfl, hfz, hnd⟩ := hW
  have hA : DataW.TrodAll enc Tryz.prog W 0 (fun _ => true) true Tryz.f4.params.toList args.toList ds p := hA0
  rw [Tryz.params4] at hA hval
  obtain ⟨v0, vs0, d0, ds0, p0, q0, hargs, rfl, rfl, h0, r0⟩ := trodAll_cons hA
  obtain ⟨v1, vs1, d1, ds1, p1, q1, rfl, rfl, rfl, h1, r1⟩ := trodAll_cons r0
  obtain ⟨v2, vs2, d2, ds2, p2, q2, rfl, rfl, rfl, h2, r2⟩ := trodAll_cons r1
  obtain ⟨v3, vs3, d3, ds3, p3, q3, rfl, rfl, rfl, h3, r3⟩ := trodAll_cons r2
  obtain ⟨rfl, rfl, rfl⟩ := trodAll_nil r3
  obtain rfl : args = #[v0, v1, v2, v3] := by cases args; simp_all
  obtain ⟨rfl, rfl⟩ := trodVars_none hV
  have k0 := h0
  have lt0 : ∀ x ∈ p0, x.block < W.heap.size := by obtain ⟨m, hm⟩ := k0; exact DataW.trod_lt m _ _ _ hm
  obtain ⟨a1, rfl, rfl, rfl, w1⟩ := open_int Tryz.underlying3 (hval 1 3 v1 rfl rfl) h1
  have k2 := h2
  have lt2 : ∀ x ∈ p2, x.block < W.heap.size := by obtain ⟨m, hm⟩ := k2; exact DataW.trod_lt m _ _ _ hm
  have k3 := h3
  have lt3 : ∀ x ∈ p3, x.block < W.heap.size := by obtain ⟨m, hm⟩ := k3; exact DataW.trod_lt m _ _ _ hm
  clear hA0 hval0
  refine (Att.Locks22.walk v0 a1 v2 v3 W (hval 0 23 v0 rfl rfl) h0 w1 (hval 2 24 v2 rfl rfl) h2 (hval 3 25 v3 rfl rfl) h3).mono fun e W' ⟨he, bel⟩ => ?_
  subst he
  exact ⟨_, rfl, _, _, _, [], _, [], hW', trodAll_mk1 (shut_bool Tryz.underlying4 _), (trodAll_cons_mk (Below.trod laidOut (by kernel_rfl) (of_decide_eq_true (by kernel_rfl)) k0 bel lt0) (trodAll_cons_mk (shut_int Tryz.underlying3 w1) (trodAll_cons_mk (Below.trod laidOut (by kernel_rfl) (of_decide_eq_true (by kernel_rfl)) k2 bel lt2) (trodAll_cons_mk (Below.trod laidOut (by kernel_rfl) (of_decide_eq_true (by kernel_rfl)) k3 bel lt3) trodAll_mk0)))), rfl, bel.frame _, fun h => by cases h⟩

theorem over : Rows.attemptLocksRow.holds Tryz.pinned (OpenSpec.ofChange Rows.attemptLocksSpec) :=
  OpenClaim.holds_of_wide 4 Tryz.f4 rfl rfl rfl rfl rfl rfl rfl ⟨rfl, rfl, rfl, rfl, rfl⟩ rfl rfl rfl rfl rfl (by kernel_rfl) Tryz.func4 (by kernel_rfl)
    (of_decide_eq_true (by kernel_rfl)) (by unfold Func.isWrapper; first | (rw [if_pos (by decide +kernel)]; kernel_rfl) | (rw [if_neg (by decide +kernel)]; exact ⟨rfl, rfl⟩))
    (fun os started H enc _ => lifted os started H enc)

end FrAttemptLocks

theorem AttemptLocks_holds : Rows.AttemptLocksSaid := FrAttemptLocks.over
#print axioms AttemptLocks_holds
end Go.Proofs.YthojgahcpkdemaaGreat
