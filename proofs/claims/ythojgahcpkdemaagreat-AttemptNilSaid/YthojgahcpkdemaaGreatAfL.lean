/- Lemmas of this seat's proofs, several texts laid together. -/
import Derived.Test.YthojgahcpkdemaaGreatAfJ
import Derived.Test.YthojgahcpkdemaaGreatAfK
import Derived.Test.YthojgahcpkdemaaGreatWLast
import Derived.ProofKit
import Derived.OpenShut
import Derived.ShutString
import Derived.ChangeOld
import Derived.Below
set_option linter.unusedVariables false
set_option linter.unusedSimpArgs false
/- an attempt that is none, and a step without an arena -/
namespace Go.Proofs.YthojgahcpkdemaaGreat
open Go.RowKit Go.Bas View VIn IMap_ VPlain Lay RefLay Of Small_
open Go.ChangeShapes Go.Sor Go.WideShapes
open Go.Proofs.YthojgahcpkdemaaGreatW.PrintLast
namespace Att

set_option maxRecDepth 100000 in
theorem reads_none (w : World) : Calls Tryz.prog 29 #[.pointer none] w fun e w' => e = .returned (.slice none 0 0) ∧ Below w.heap.size w w' := by
  have B0 := Lib.hid (Below.refl w.heap.size w)
  go_enter Tryz.func29, Tryz.ntmps29
  go_wp2
  go_ret
  exact ⟨rfl, B0.out⟩
set_option maxRecDepth 100000 in
theorem writes_none (w : World) : Calls Tryz.prog 24 #[.pointer none] w fun e w' => e = .returned (.slice none 0 0) ∧ Below w.heap.size w w' := by
  have S0 := Lib.hid (fun w => sure_nil w)
  go_enter Tryz.func24, Tryz.ntmps24
  go_wp2_with (first
    | (go_at_call 32; refine (S0.out _).mono ?_; rintro e w2 ⟨rfl, hb2⟩; have B2 := Lib.hid hb2; clear hb2))
  go_ret
  exact ⟨rfl, B2.out⟩

namespace Nil22
set_option maxRecDepth 100000 in
set_option maxHeartbeats 4000000 in
theorem walk_in {c0 : Cfg} {v1 : Value} {is : List Ins} {w0 : World} (hst : VIn.Steps w0 w0.heap.size v1 is) (hsi : SIn is) :
    Calls Tryz.prog 8 #[.agg (cfg c0), v1] w0 fun e w' => e = .returned (.bool true) ∧ Below w0.heap.size w0 w' := by
  obtain ⟨g0, hg0⟩ : ∃ g0, w0.heap.size = g0 := ⟨_, rfl⟩
  have F := small_fine c0
  have BG := fun w => beg_any c0 0 w
  unfold BegOut at BG
  obtain ⟨W, hWW⟩ : ∃ W, words0 c0 0 = W := ⟨_, rfl⟩
  obtain ⟨c1, hc1⟩ : ∃ c1, small c0 = c1 := ⟨_, rfl⟩
  obtain ⟨pl, hpl⟩ : ∃ pl, places c1 = pl := ⟨_, rfl⟩
  rw [hc1] at F
  have hpg := F.pages
  have htb : 0 ≤ pl.a0 ∧ pl.a0 ≤ 1000000 := by have := place_in F 0; rw [← hpl]; show 0 ≤ place c1 0 ∧ place c1 0 ≤ 1000000; omega
  have TB := fun w => table_at c1 pl ⟨hpg.1, by omega⟩ htb w
  have MD := fun (pc : Nat) w => made_any c1 pl 0 (.func 43) #[] #[.pointer (some ⟨pc, 0, none⟩)] w
  rw [hWW, hc1, hpl] at BG
  obtain ⟨lv, hlv⟩ : ∃ lv, lay c1 pl = lv := ⟨_, rfl⟩
  have hls : (Tryz.prog.info? 29).map (·.size) = some lv.size := by rw [← hlv]; exact lay_size _ _
  have hl0 : lv.size = 23 := by rw [← hlv]; rfl
  have hl1 : lv.all (·.oneCell') = true := by rw [← hlv]; exact lay_one _ _
  rw [hlv] at BG TB MD
  obtain ⟨tb, htbv⟩ : ∃ tb, pl.a0 = tb := ⟨_, rfl⟩
  rw [htbv] at TB htb
  have HBG := Lib.hid BG; have HTB := Lib.hid TB; have HMD := Lib.hid MD
  have HLS := Lib.hid hls; have HL1 := Lib.hid hl1; have HL0 := Lib.hid hl0; have HTI := Lib.hid htb
  rw [hg0] at hst
  have HST := Lib.hid hst; have HSI := Lib.hid hsi; have HG0 := Lib.hid hg0
  have PN := Lib.hid (fun w => phase_nil w); have SN := Lib.hid (fun w => seen_nil w); have TN := Lib.hid (fun w => stamp_nil w); have UN := Lib.hid (fun w => sure_nil w)
  have RN := Lib.hid (fun w => reads_none w); have WN := Lib.hid (fun w => writes_none w); have LN := Lib.hid (fun w => lives_any w)
  clear BG TB MD hls hl1 hl0 hlv hWW hpl hc1 F hpg hst hsi htbv htb
  obtain ⟨w1, hw1⟩ : ∃ w1, w0.alloc (.cells (cfg c0) 23) = w1 := ⟨_, rfl⟩
  have R1 : Hid (w1.heap[g0]? = some (.cells (cfg c0) 23 (0, 0))) := by rw [← hw1, ← hg0]; exact new_row _ _ _
  have B1 : Hid (Below g0 w0 w1) := by rw [← hw1, ← hg0]; exact (Below.refl _ _).alloc (Nat.le_refl _) _
  have s1 : w1.heap.size = g0 + 1 := by rw [← hw1, ← hg0]; simp
  rw [hg0]
  go_enter Tryz.func8, Tryz.ntmps8
  go_upto_region 1 with fail
  go_upto_region 2 with (first
    | (refine wpList_load_row rfl 23 _ rfl g0 rfl 23 (cfg c0) (0, 0) _ R1.out Tryz.underlying23 rfl (cfg_size _) ?_)
    | (go_at_call 10; refine (HBG.out _).mono ?_; rintro e w2 ⟨a, g, ra, rfl, ha, hg, hA2, hb2⟩
       have B2 : Hid (Below g0 w0 w2) := B1.out.trans (hb2.mono (by omega))
       obtain ⟨l, hl⟩ : ∃ l, w2.heap.size = l := ⟨_, rfl⟩
       have hgl : g0 ≤ l := by have := hb2.size; omega
       have hag : g0 ≤ a ∧ g0 ≤ g := by omega
       obtain ⟨w3, hw3⟩ : ∃ w3, w2.alloc (.cells #[.int .i64 0, .int .i64 0, .int .i64 0, .int .i64 0, .int .i64 0, .int .i64 0, .int .i64 0, .int .i64 0, .int .i64 0, .int .i64 0, .int .i64 0, .int .i64 0, .int .i64 0, .int .i64 0, .int .i64 0, .int .i64 0, .int .i64 0, .int .i64 0, .int .i64 0, .int .i64 0, .int .i64 0, .int .i64 0, .int .i64 0] 29) = w3 := ⟨_, rfl⟩
       have L3 : Hid (w3.heap[l]? = some (.cells #[.int .i64 0, .int .i64 0, .int .i64 0, .int .i64 0, .int .i64 0, .int .i64 0, .int .i64 0, .int .i64 0, .int .i64 0, .int .i64 0, .int .i64 0, .int .i64 0, .int .i64 0, .int .i64 0, .int .i64 0, .int .i64 0, .int .i64 0, .int .i64 0, .int .i64 0, .int .i64 0, .int .i64 0, .int .i64 0, .int .i64 0] 29 (0, 0))) := by rw [← hw3, ← hl]; exact new_row _ _ _
       have b23 : Below w2.heap.size w2 w3 := by rw [← hw3]; exact (Below.refl _ _).alloc (Nat.le_refl _) _
       have A3 : Hid (Ar w3 a g W 1) := hA2.below b23
       have B3 : Hid (Below g0 w0 w3) := B2.out.trans (b23.mono (by omega))
       have hal : Hid (a ≠ l ∧ g ≠ l) := by have := hA2.lt; rw [Hid]; omega
       clear hb2 hA2 b23 B2 B1 R1)
    | (refine wpList_store_row rfl 29 _ _ rfl l lv rfl rfl 29 #[.int .i64 0, .int .i64 0, .int .i64 0, .int .i64 0, .int .i64 0, .int .i64 0, .int .i64 0, .int .i64 0, .int .i64 0, .int .i64 0, .int .i64 0, .int .i64 0, .int .i64 0, .int .i64 0, .int .i64 0, .int .i64 0, .int .i64 0, .int .i64 0, .int .i64 0, .int .i64 0, .int .i64 0, .int .i64 0, .int .i64 0] L3.out HLS.out (by first | exact HL0.out | exact HL0.out.symm) HL1.out ?_))
  obtain ⟨w4, hw4⟩ : ∃ w4, w3.setRow l lv = w4 := ⟨_, rfl⟩
  have L4 : Hid (w4.heap[l]? = some (.cells lv 29 (0, 0))) := by rw [← hw4]; exact setRow_same L3.out
  have A4 : Hid (Ar w4 a g W 1) := by rw [← hw4]; exact A3.out.kept (setRow_other _ _ _ _ hal.out.1) (setRow_other _ _ _ _ hal.out.2)
  have B4 : Hid (Below g0 w0 w4) := by rw [← hw4]; exact setRow_below B3.out hgl _
  rw [hw4]
  have s4 : Hid (g0 ≤ w4.heap.size) := by have := B4.out.size; rw [Hid]; omega
  clear hw4 L3 A3 B3 hw3 hal hw1 s1
  go_upto_region 4 with (first
    | (go_at_call 16; refine (step_nil _ _).mono ?_; rintro e wa ⟨rfl, hb⟩
       have Aa : Hid (Ar wa a g W 1) := A4.out.below hb; have La := Lib.hid (blk_below L4.out hb); have Ba : Hid (Below g0 w0 wa) := B4.out.trans (hb.mono s4.out); have sa : Hid (g0 ≤ wa.heap.size) := Nat.le_trans s4.out hb.size
       clear hb A4 L4 B4 s4)
    | (go_at_call 22; refine (PN.out _).mono ?_; rintro e wb ⟨rfl, hb⟩
       have Ab : Hid (Ar wb a g W 1) := Aa.out.below hb; have Lb := Lib.hid (blk_below La.out hb); have Bb : Hid (Below g0 w0 wb) := Ba.out.trans (hb.mono sa.out); have sb : Hid (g0 ≤ wb.heap.size) := Nat.le_trans sa.out hb.size
       clear hb Aa La Ba sa)
    | (go_at_call 30; refine (SN.out _).mono ?_; rintro e wc ⟨rfl, hb⟩
       have Ac : Hid (Ar wc a g W 1) := Ab.out.below hb; have Lc := Lib.hid (blk_below Lb.out hb); have Bc : Hid (Below g0 w0 wc) := Bb.out.trans (hb.mono sb.out); have sc : Hid (g0 ≤ wc.heap.size) := Nat.le_trans sb.out hb.size
       clear hb Ab Lb Bb sb)
    | (go_at_call 23; refine (TN.out _).mono ?_; rintro e wd ⟨rfl, hb⟩
       have Ad : Hid (Ar wd a g W 1) := Ac.out.below hb; have Ld := Lib.hid (blk_below Lc.out hb); have Bd : Hid (Below g0 w0 wd) := Bc.out.trans (hb.mono sc.out); have sd : Hid (g0 ≤ wd.heap.size) := Nat.le_trans sc.out hb.size
       clear hb Ac Lc Bc sc)
    | (go_at_call 32; refine (UN.out _).mono ?_; rintro e we ⟨rfl, hb⟩
       have Ae : Hid (Ar we a g W 1) := Ad.out.below hb; have Le := Lib.hid (blk_below Ld.out hb); have Be : Hid (Below g0 w0 we) := Bd.out.trans (hb.mono sd.out); have se : Hid (g0 ≤ we.heap.size) := Nat.le_trans sd.out hb.size
       clear hb Ad Ld Bd sd)
    | (go_at_call 29; refine (RN.out _).mono ?_; rintro e wf ⟨rfl, hb⟩
       have Af : Hid (Ar wf a g W 1) := Ae.out.below hb; have Lf := Lib.hid (blk_below Le.out hb); have Bf : Hid (Below g0 w0 wf) := Be.out.trans (hb.mono se.out); have sf : Hid (g0 ≤ wf.heap.size) := Nat.le_trans se.out hb.size
       clear hb Ae Le Be se)
    | (go_at_call 24; refine (WN.out _).mono ?_; rintro e w5 ⟨rfl, hb⟩
       have A4 : Hid (Ar w5 a g W 1) := Af.out.below hb; have L4 : Hid (w5.heap[l]? = some (.cells lv 29 (0, 0))) := (blk_below Lf.out hb); have B4 : Hid (Below g0 w0 w5) := Bf.out.trans (hb.mono sf.out); have s4 : Hid (g0 ≤ w5.heap.size) := Nat.le_trans sf.out hb.size
       clear hb Af Lf Bf sf))
  go_upto_region 5 with fail
  refine start_ (n := 8) (S := fun w' => w'.heap[l]? = some (.cells lv 29 (0, 0))) (ds := []) #[false, false, false, false, false, false, false, false] (by kernel_rfl) rfl rfl L4.out (fun hHeld => ?_)
  refine take_ (i := 0) (N := (some 48)) (v := .agg lv.toList.toArray) (a' := ?_) #[true, false, false, false, false, false, false, false] rfl rfl (by kernel_rfl) (fun _ _ _ h => h) (by exact yieldsIf_load_mid rfl 29 _ rfl l 0 rfl lv.toList _ (fun w' s0 => row_range s0 0 _ (fun j v h => by rw [Nat.zero_add]; simpa using h)) Tryz.underlying29 rfl HLS.out) hHeld ?_ ?_
  rotate_left
  · simp only [Act.put, List.setIfInBounds_toArray, List.set_cons_zero, List.set_cons_succ, i64_w, i32_w]
    rfl
  refine take_ (i := 1) (N := (some 49)) (v := .agg lv.toList.toArray) (a' := ?_) #[true, true, false, false, false, false, false, false] rfl rfl (by kernel_rfl) (fun _ _ _ h => h) (by exact yieldsIf_load_mid rfl 29 _ rfl l 0 rfl lv.toList _ (fun w' s0 => row_range s0 0 _ (fun j v h => by rw [Nat.zero_add]; simpa using h)) Tryz.underlying29 rfl HLS.out) hHeld ?_ ?_
  rotate_left
  · simp only [Act.put, List.setIfInBounds_toArray, List.set_cons_zero, List.set_cons_succ, i64_w, i32_w]
    rfl
  refine pure_ (i := 3) (N := (some 51)) (v := ?_) (a' := ?_) #[true, true, false, true, false, false, false, false] rfl rfl (by kernel_rfl) (fun _ _ _ h => h) (Or.inl ⟨by rfl, ?_⟩) ?_ ?_
  rotate_left
  · intro w'
    go_simp
    with_reducible rfl
  rotate_left
  · simp only [Act.put, List.setIfInBounds_toArray, List.set_cons_zero, List.set_cons_succ, i64_w, i32_w]
    rfl
  refine one_ (i := 2) (N := (some 50)) #[true, true, true, true, false, false, false, false] rfl rfl (by kernel_rfl) (by decide) (fun K hK => ?_)
  refine goes_ Tryz.func15 (by kernel_rfl) rfl #[.agg lv, .int .i64 0] (by rfl) rfl rfl (by first | rfl | (simp [Act.eval]; done) | (go_simp; done)) ?_
  refine (HTB.out w5.drew).mono ?_
  rintro e w6 ⟨rfl, hb5⟩
  have b45 : Below w5.heap.size w5 w6 := (show Below w5.heap.size w5 w5.drew from (Below.refl _ _).drew).trans hb5
  have L5 : w6.heap[l]? = some (.cells lv 29 (0, 0)) := blk_below L4.out b45
  have A5 : Hid (Ar w6 a g W 1) := A4.out.below b45
  have B5 : Hid (Below g0 w0 w6) := B4.out.trans (b45.mono s4.out)
  have s5 : Hid (g0 ≤ w6.heap.size) := by have := B5.out.size; rw [Hid]; omega
  clear b45 hb5
  refine ⟨_, rfl, ?_⟩
  refine hK.out _ _ L5 (fun hHeld => ?_)
  clear hK K
  refine norm_ (a' := ?_) ?_ ?_
  rotate_left
  · show Act.put _ (some 50) _ = _
    simp only [Act.put, List.setIfInBounds_toArray, List.set_cons_zero, List.set_cons_succ, i64_w, i32_w]
    rfl
  refine one_ (i := 4) (N := (some 52)) #[true, true, true, true, true, false, false, false] rfl rfl (by kernel_rfl) (by decide) (fun K hK => ?_)
  refine goes_ Tryz.func14 (by kernel_rfl) rfl #[.int .i64 tb, v1] (by rfl) rfl rfl (by first | rfl | (simp [Act.eval]; done) | (go_simp; done)) ?_
  refine (fit_any HTI.out ((HST.out.below B5.out).mono s5.out) HSI.out).mono ?_
  rintro e w7 ⟨vf, rfl, hf6, hb6⟩
  obtain ⟨Af, cf, rfl, -⟩ := id hf6
  have L6 : w7.heap[l]? = some (.cells lv 29 (0, 0)) := blk_below L5 hb6
  have A6 : Hid (Ar w7 a g W 1) := A5.out.below hb6
  have B6 : Hid (Below g0 w0 w7) := B5.out.trans (hb6.mono s5.out)
  have s6 : Hid (g0 ≤ w7.heap.size) := by have := B6.out.size; rw [Hid]; omega
  clear hb6 hf6
  refine ⟨_, rfl, ?_⟩
  refine hK.out _ _ L6 (fun hHeld => ?_)
  clear hK K
  refine norm_ (a' := ?_) ?_ ?_
  rotate_left
  · show Act.put _ (some 52) _ = _
    simp only [Act.put, List.setIfInBounds_toArray, List.set_cons_zero, List.set_cons_succ, i64_w, i32_w]
    rfl
  refine one_ (i := 5) (N := (some 53)) #[true, true, true, true, true, true, false, false] rfl rfl (by kernel_rfl) (by decide) (fun K hK => ?_)
  refine goes_ Tryz.func13 (by kernel_rfl) rfl #[.slice Af (fits tb is).length cf] (by rfl) rfl rfl (by first | rfl | (simp [Act.eval]; done) | (go_simp; done)) ?_
  refine (prog_made Af _ cf w7).mono ?_
  rintro e w8 ⟨pc, rfl, -, -, hb7⟩
  have L7 : w8.heap[l]? = some (.cells lv 29 (0, 0)) := blk_below L6 hb7
  have A7 : Hid (Ar w8 a g W 1) := A6.out.below hb7
  have B7 : Hid (Below g0 w0 w8) := B6.out.trans (hb7.mono s6.out)
  have s7 : Hid (g0 ≤ w8.heap.size) := by have := B7.out.size; rw [Hid]; omega
  clear hb7
  refine ⟨_, rfl, ?_⟩
  refine hK.out _ _ L7 (fun hHeld => ?_)
  clear hK K
  refine norm_ (a' := ?_) ?_ ?_
  rotate_left
  · show Act.put _ (some 53) _ = _
    simp only [Act.put, List.setIfInBounds_toArray, List.set_cons_zero, List.set_cons_succ, i64_w, i32_w]
    rfl
  refine one_ (i := 6) (N := (some 54)) #[true, true, true, true, true, true, true, false] rfl rfl (by kernel_rfl) (by decide) (fun K hK => ?_)
  refine goes_ Tryz.func12 (by kernel_rfl) rfl #[.agg lv, .int .i64 0, progV pc] (by rfl) rfl rfl (by first | rfl | (simp [Act.eval]; done) | (go_simp; done)) ?_
  refine (HMD.out pc w8).mono ?_
  rintro e w9 ⟨b, rfl, hbl, hbs, hR, hb8⟩
  have L8 : w9.heap[l]? = some (.cells lv 29 (0, 0)) := blk_below L7 hb8
  have A9 : Hid (Ar w9 a g W 1) := A7.out.below hb8
  have A7l := A7.out.lt
  have R9 := Lib.hid hR
  have B9 : Hid (Below g0 w0 w9) := B7.out.trans (hb8.mono s7.out)
  have hbg : Hid (g0 ≤ b ∧ b ≠ a ∧ b ≠ g) := by have := s7.out; rw [Hid]; omega
  clear hb8 hR A7l
  refine ⟨_, rfl, ?_⟩
  refine hK.out _ _ L8 (fun hHeld => ?_)
  clear hK K
  refine norm_ (a' := ?_) ?_ ?_
  rotate_left
  · show Act.put _ (some 54) _ = _
    simp only [Act.put, List.setIfInBounds_toArray, List.set_cons_zero, List.set_cons_succ, i64_w, i32_w]
    rfl
  refine pure_ (i := 7) (N := (some 8)) (v := ?_) (a' := ?_) #[true, true, true, true, true, true, true, true] rfl rfl (by kernel_rfl) (fun _ _ _ h => h) (Or.inl ⟨by rfl, ?_⟩) ?_ ?_
  rotate_left
  · intro w'
    go_simp
    with_reducible rfl
  rotate_left
  · simp only [Act.put, List.setIfInBounds_toArray, List.set_cons_zero, List.set_cons_succ, i64_w, i32_w]
    rfl
  refine done_ (by kernel_rfl) ?_
  have STN := Lib.hid (step_none R9.out (by show (0 : Int) ≠ 10; omega))
  have hba := Lib.hid hbg.out
  go_wp2_with (first
    | (go_at_call 16; refine STN.out.mono ?_; rintro e wa ⟨rfl, hRa, hCa⟩
       have Aa : Hid (Ar wa a g W 1) := A9.out.kept (hCa.block a A9.out.lt.1 (fun h => hba.out.2.1 h.symm)) (hCa.block g A9.out.lt.2 (fun h => hba.out.2.2 h.symm))
       have Ba : Hid (Below g0 w0 wa) := B9.out.trans (hCa.below (by have := B9.out.size; omega) (fun k hk => by have := hba.out.1; omega))
       have sa : Hid (g0 ≤ wa.heap.size) := by have := Ba.out.size; rw [Hid]; omega
       have PHa := Lib.hid (phase_any hRa)
       have HRa := Lib.hid hRa
       clear hRa hCa STN A9 B9 R9)
    | (go_at_call 22; refine PHa.out.mono ?_; rintro e wb ⟨rfl, hb⟩
       have Ab : Hid (Ar wb a g W 1) := Aa.out.below hb; have Bb : Hid (Below g0 w0 wb) := Ba.out.trans (hb.mono sa.out); have sb : Hid (g0 ≤ wb.heap.size) := Nat.le_trans sa.out hb.size
       have STO := Lib.hid (step_over (HRa.out.keep (hb.block b HRa.out.lt)) rfl (.pointer (some ⟨a, 0, none⟩)))
       clear hb Aa Ba sa HRa PHa)
    | (go_at_call 16; refine STO.out.mono ?_; rintro e wc ⟨rfl, hb⟩
       have Ac : Hid (Ar wc a g W 1) := Ab.out.below hb; have Bc : Hid (Below g0 w0 wc) := Bb.out.trans (hb.mono sb.out); have sc : Hid (g0 ≤ wc.heap.size) := Nat.le_trans sb.out hb.size
       clear hb Ab Bb sb STO
       rw [show told (fin (newT 0) 2) = 2 from rfl])
    | (go_at_call 28; refine (count_any Ac.out).mono ?_; rintro e wd ⟨rfl, hb⟩
       have Bd : Hid (Below g0 w0 wd) := Bc.out.trans (hb.mono sc.out); have sd : Hid (g0 ≤ wd.heap.size) := Nat.le_trans sc.out hb.size
       clear hb Ac Bc sc)
    | (go_at_call 17; refine (LN.out _).mono ?_; rintro e we ⟨rfl, hb⟩
       have Be : Hid (Below g0 w0 we) := Bd.out.trans (hb.mono sd.out)
       clear hb Bd sd))
  go_ret
  exact ⟨rfl, Be.out⟩

set_option maxRecDepth 100000 in
theorem walk {H : Type} {enc : TypeId × Value → H} {base : Nat} {spare : Nat → Bool} {held : Bool} {d0 d1 : DataW H} {p0 p1 : List MemPlace} {r : Reach} {b0 : Nat} (v0 v1 : Value) (w : World)
    (hv0 : Value.okWide Tryz.prog w r b0 23 v0) (t0 : DataW.Trod enc Tryz.prog w base spare held 23 v0 d0 p0)
    (hv1 : Value.okWide Tryz.prog w r b0 40 v1) (t1 : DataW.Trod enc Tryz.prog w base spare held 40 v1 d1 p1) :
    Calls Tryz.prog 8 #[v0, v1] w fun e w' => e = .returned (.bool true) ∧ Below w.heap.size w w' := by
  obtain ⟨c, rfl⟩ := Lay.cfg_of hv0 t0
  obtain ⟨l, h3, h4⟩ := steps_of hv1 t1
  exact walk_in h3 h4
end Nil22
end Att
end Go.Proofs.YthojgahcpkdemaaGreat

/- PROVED HERE: 'assart/assartlaw22.AttemptNil' returns true for every input, without a panic, and its arguments read behind the call as they read before (An attempt that is none, and a step without an arena, are aborted). Condition: none beyond the row's own. -/
namespace Go.Proofs.YthojgahcpkdemaaGreat
namespace FrAttemptNil
open Go.ChangeShapes Go.WideShapes Go.ChangeAt Go.RowKit
open Go.ChangeMaps (open_string shut_string)
set_option linter.unusedVariables false

theorem own : ownKnob Tryz.prog.godebug = none := by kernel_rfl
theorem laidOut : laidOutB Tryz.prog = true := by kernel_rfl

set_option maxRecDepth 100000 in
theorem lifted (os : Os) (started : os.Started) (H : Type) (enc : TypeId × Value → H) :
    ReturnsInHanded {} Tryz.checked os 8 .any (Rows.attemptNilSpec.pre6 enc Tryz.prog Tryz.f8 Rows.attemptNilRow.domain false) (Rows.attemptNilSpec.post enc Tryz.prog Tryz.f8 false true false false) := by
  refine returnsInHanded_of_change (C := Tryz.checked) own started (by kernel_rfl) Tryz.func8
    (ChangeSpec.witness6 (enc := enc) (C := Tryz.checked) false ⟨#[], #[.agg #[.int .i64 0, .int .i64 0, .int .i64 0, .int .i64 0, .int .i64 0, .int .i64 0, .int .i64 0, .int .i64 0, .int .i64 0, .int .i64 0, .int .i64 0], .slice none 0 0], []⟩ 8 (by kernel_rfl) (by kernel_rfl) (by kernel_rfl) (by kernel_rfl)) ?_
  intro W base args ds gs before hval0 hW hcnd _
  have hval : ∀ (j : Nat) t v, Tryz.f8.params[j]? = some t → args[j]? = some v → Value.okWide Tryz.prog W .any base t v := hval0
  have hW' := hW
  obtain ⟨p, q, hA0, hV, rfl, hfz, hnd⟩ := hW
  have hA : DataW.TrodAll enc Tryz.prog W 0 (fun _ => true) true Tryz.f8.params.toList args.toList ds p := hA0
  rw [Tryz.params8] at hA hval
  obtain ⟨v0, vs0, d0, ds0, p0, q0, hargs, rfl, rfl, h0, r0⟩ := trodAll_cons hA
  obtain ⟨v1, vs1, d1, ds1, p1, q1, rfl, rfl, rfl, h1, r1⟩ := trodAll_cons r0
  obtain ⟨rfl, rfl, rfl⟩ := trodAll_nil r1
  obtain rfl : args = #[v0, v1] := by cases args; simp_all
  obtain ⟨rfl, rfl⟩ := trodVars_none hV
  have k0 := h0
  have lt0 : ∀ x ∈ p0, x.block < W.heap.size := by obtain ⟨m, hm⟩ := k0; exact DataW.trod_lt m _ _ _ hm
  have k1 := h1
  have lt1 : ∀ x ∈ p1, x.block < W.heap.size := by obtain ⟨m, hm⟩ := k1; exact DataW.trod_lt m _ _ _ hm
  clear hA0 hval0
  refine (Att.Nil22.walk v0 v1 W (hval 0 23 v0 rfl rfl) h0 (hval 1 40 v1 rfl rfl) h1).mono fun e W' ⟨he, bel⟩ => ?_
  subst he
  exact ⟨_, rfl, _, _, _, [], _, [], hW', trodAll_mk1 (shut_bool Tryz.underlying4 _), (trodAll_cons_mk (Below.trod laidOut (by kernel_rfl) (of_decide_eq_true (by kernel_rfl)) k0 bel lt0) (trodAll_cons_mk (Below.trod laidOut (by kernel_rfl) (of_decide_eq_true (by kernel_rfl)) k1 bel lt1) trodAll_mk0)), rfl, bel.frame _, fun h => by cases h⟩

theorem over : Rows.attemptNilRow.holds Tryz.pinned (OpenSpec.ofChange Rows.attemptNilSpec) :=
  OpenClaim.holds_of_wide 8 Tryz.f8 rfl rfl rfl rfl rfl rfl rfl ⟨rfl, rfl, rfl, rfl, rfl⟩ rfl rfl rfl rfl rfl (by kernel_rfl) Tryz.func8 (by kernel_rfl)
    (of_decide_eq_true (by kernel_rfl)) (by unfold Func.isWrapper; first | (rw [if_pos (by decide +kernel)]; kernel_rfl) | (rw [if_neg (by decide +kernel)]; exact ⟨rfl, rfl⟩))
    (fun os started H enc _ => lifted os started H enc)

end FrAttemptNil

theorem AttemptNil_holds : Rows.AttemptNilSaid := FrAttemptNil.over
#print axioms AttemptNil_holds
end Go.Proofs.YthojgahcpkdemaaGreat
