/- PROVED HERE: 'assart/assartlaw34.OpaqueStates' returns true for every input, without a panic, and its arguments read behind the call as they read before (the words at any stamp, and at last, are as the document says (P34.1)). Condition: none beyond the row's own. -/
import Derived.Test.YtkegfeghdnpajaaOcD
import Derived.ProofKit
import Derived.OpenShut
import Derived.ShutString
import Derived.ChangeOld
import Derived.Below
set_option linter.unusedVariables false
set_option linter.unusedSimpArgs false
/- OpaqueStates -/
namespace Go.Proofs.Ytkegfeghdnpajaa
open Go.RowKit Go.Bas Go.WideShapes Txs View IMap_
namespace OPS
open Srt hiding Ev
open OPR

set_option maxRecDepth 100000 in
set_option maxHeartbeats 4000000 in
theorem walk_in {w : World} {A1 : Option Addr} {nw c1 : Nat} {s : Value} {l : List Tx} {words : List Int} (hW : Words w w.heap.size (.slice A1 nw c1) words) (hcap : nw ≤ c1) (h : ManyC w w.heap.size s l) (hin : ∀ t ∈ l, In64 t.stamp ∧ In64 t.seen ∧ In64 t.worker) (hm : l.length ≤ 9223372036854775807) (st : Int) :
    Calls Try.prog 7 #[.slice A1 nw c1, s, .int .i64 st] w fun e w' => e = .returned (.bool true) ∧ Below w.heap.size w w' := by
  have hnw : words.length = nw := by
    obtain ⟨_, _, e, _⟩ := id hW
    simp only [Value.slice.injEq] at e
    exact e.2.1.symm
  have G := great_any hW hcap h hm
  have L := Lib.hid lives_any
  obtain ⟨g, hg⟩ : ∃ g, w.heap.size = g := ⟨_, rfl⟩
  rw [hg] at h hW G ⊢
  obtain ⟨A, c, rfl, _⟩ := id h
  have HM := Lib.hid h
  have HW := Lib.hid hW
  have HIN := Lib.hid hin
  have HNW := Lib.hid hnw
  have HS := Lib.hid h.sizes
  clear h hW hin hnw
  cases hgr : greatB nw l with
  | true =>
    rw [hgr] at G
    go_enter Try.func7, Try.ntmps7
    go_wp2_with (first
      | (go_at_call 30; refine G.mono ?_; rintro e w2 ⟨rfl, hb2⟩)
      | (go_at_call 31; refine (L.out _).mono ?_; rintro e w3 ⟨rfl, hb3⟩))
    go_ret
    exact ⟨rfl, hb2.trans (hb3.mono (by have := hb2.size; omega))⟩
  | false =>
    rw [hgr] at G
    obtain ⟨hn, hl⟩ := great_no hgr
    cases hr : rightB nw l with
    | false =>
      have HR := Lib.hid hr
      have HN : Hid (∀ p : Prop, rightB nw l = true → p) := fun p h => by rw [HR.out] at h; cases h
      clear hr hgr
      go_enter Try.func7, Try.ntmps7
      go_wp2_with (first
        | (go_at_call 30; refine G.mono ?_; rintro e w2 ⟨rfl, hb2⟩
           have g2 : g ≤ w2.heap.size := by rw [← hg]; exact hb2.size
           have C1 := stateBad_any (A1 := A1) (nw := nw) (c1 := c1) ((HM.out.below hb2).mono g2).many hl HIN.out st HR.out)
        | (go_at_call 34; refine C1.mono ?_; rintro e w3 ⟨rfl, hb3⟩
           have b3 : Below g w w3 := hb2.trans (hb3.mono g2)
           have g3 : g ≤ w3.heap.size := by rw [← hg]; exact b3.size
           have R1 := refState_any ((HW.out.below b3).mono g3) hcap (by omega) ((HM.out.below b3).mono g3) hl HS.out [] (HN.out _) (HN.out _) st
           rw [HR.out] at R1
           simp only [Bool.false_eq_true, if_false] at R1
           clear C1)
        | (go_at_call 35; refine R1.mono ?_; rintro e w4 ⟨v4, ws4, rfl, t4, rfl, hb4⟩
           have b4 : Below g w w4 := b3.trans (hb4.mono g3)
           have g4 : g ≤ w4.heap.size := by rw [← hg]; exact b4.size
           have C2 := lastBad_any (A1 := A1) (nw := nw) (c1 := c1) ((HM.out.below b4).mono g4).many hl HIN.out HR.out
           have W4 := Lib.hid t4.words
           clear R1 t4)
        | (go_at_call 36; refine C2.mono ?_; rintro e w5 ⟨rfl, hb5⟩
           have b5 : Below g w w5 := b4.trans (hb5.mono g4)
           have g5 : g ≤ w5.heap.size := by rw [← hg]; exact b5.size
           have W5 := Lib.hid (W4.out.below hb5)
           have R2 := refLast_any ((HW.out.below b5).mono g5) hcap (by omega) ((HM.out.below b5).mono g5) hl HS.out [] (HN.out _) (HN.out _)
           rw [HR.out] at R2
           simp only [Bool.false_eq_true, if_false] at R2
           clear C2)
        | (go_at_call 37; refine R2.mono ?_; rintro e w6 ⟨v6, ws6, rfl, t6, rfl, hb6⟩
           have b6 : Below g w w6 := b5.trans (hb6.mono g5)
           have g6 : g ≤ w6.heap.size := by rw [← hg]; exact b6.size
           have W6 := Lib.hid (W5.out.below (hb6.mono (by exact hb5.size)))
           have V6 := Lib.hid t6.words
           have S1 := ints_same (no_words w6 0) W6.out
           simp only [decide_true] at S1
           clear R2 t6)
        | (go_at_call 38; refine S1.mono ?_; rintro e w7 ⟨rfl, m7, rfl⟩
           have b7 : Below g w (w6.drewN m7) := b6.trans (drewN_below _ _ m7)
           have S2 := ints_same (no_words (w6.drewN m7) 0) (V6.out.below (drewN_below _ _ m7))
           simp only [decide_true] at S2
           clear S1)
        | (go_at_call 38; refine S2.mono ?_; rintro e w8 ⟨rfl, m8, rfl⟩
           have b8 : Below g w ((w6.drewN m7).drewN m8) := b7.trans (drewN_below _ _ m8)
           have g8 : g ≤ ((w6.drewN m7).drewN m8).heap.size := by rw [← hg]; exact b8.size
           clear S2)
        | (go_at_call 31; refine (L.out _).mono ?_; rintro e w9 ⟨rfl, hb9⟩))
      go_ret
      exact ⟨rfl, (b6.trans (drewN_below g w6 (m7 + m8))).trans (hb9.mono g8)⟩
    | true =>
      have HR := Lib.hid hr
      clear hr hgr
      go_enter Try.func7, Try.ntmps7
      go_wp2_with (first
        | (go_at_call 30; refine G.mono ?_; rintro e w2 ⟨rfl, hb2⟩
           have g2 : g ≤ w2.heap.size := by rw [← hg]; exact hb2.size
           have C1 := stateOk_any ((HW.out.below hb2).mono g2) HNW.out (by omega) ((HM.out.below hb2).mono g2).many hl HIN.out st HR.out)
        | (go_at_call 34; refine C1.mono ?_; rintro e w3 ⟨v3, O, rfl, hO, hA, t3, hb3⟩
           have b3 : Below g w w3 := hb2.trans (hb3.mono g2)
           have g3 : g ≤ w3.heap.size := by rw [← hg]; exact b3.size
           rw [take_le hO] at t3
           have R1 := refState_any ((HW.out.below b3).mono g3) hcap (by omega) ((HM.out.below b3).mono g3) hl HS.out O (fun _ => hO) (fun _ => hA) st
           rw [HR.out] at R1
           simp only [if_true] at R1
           obtain ⟨ws, hws⟩ : ∃ ws, app words (O.filter fun e => decide (e.stamp ≤ st)) = ws := ⟨_, rfl⟩
           rw [hws] at t3 R1
           have V3 := Lib.hid t3.words
           clear C1 t3 hO hA hws)
        | (go_at_call 35; refine R1.mono ?_; rintro e w4 ⟨v4, ws4, rfl, t4, hw4, hb4⟩
           have b4 : Below g w w4 := b3.trans (hb4.mono g3)
           have g4 : g ≤ w4.heap.size := by rw [← hg]; exact b4.size
           rw [hw4] at t4
           have C2 := lastOk_any ((HW.out.below b4).mono g4) HNW.out (by omega) ((HM.out.below b4).mono g4).many hl HIN.out HR.out
           have W4 := Lib.hid t4.words
           have V4 := Lib.hid (V3.out.below hb4)
           have s34 := hb4.size
           clear R1 t4 hw4)
        | (go_at_call 36; refine C2.mono ?_; rintro e w5 ⟨v5, O2, rfl, hO, hA, t5, hb5⟩
           have b5 : Below g w w5 := b4.trans (hb5.mono g4)
           have g5 : g ≤ w5.heap.size := by rw [← hg]; exact b5.size
           have W5 := Lib.hid (W4.out.below hb5)
           have V5 := Lib.hid (V4.out.below (hb5.mono s34))
           have s45 := hb5.size
           have R2 := refLast_any ((HW.out.below b5).mono g5) hcap (by omega) ((HM.out.below b5).mono g5) hl HS.out O2 (fun _ => hO) (fun _ => hA)
           rw [HR.out] at R2
           simp only [if_true] at R2
           obtain ⟨ws2, hws2⟩ : ∃ ws, app words O2 = ws := ⟨_, rfl⟩
           rw [hws2] at t5 R2
           have X5 := Lib.hid t5.words
           clear C2 t5 hO hA hws2)
        | (go_at_call 37; refine R2.mono ?_; rintro e w6 ⟨v6, ws6, rfl, t6, hw6, hb6⟩
           have b6 : Below g w w6 := b5.trans (hb6.mono g5)
           have g6 : g ≤ w6.heap.size := by rw [← hg]; exact b6.size
           rw [hw6] at t6
           have Y6 := Lib.hid t6.words
           have X6 := Lib.hid (X5.out.below hb6)
           have S1 := ints_same (V5.out.below (hb6.mono (Nat.le_trans s34 s45))) (W5.out.below (hb6.mono s45))
           simp only [decide_true] at S1
           clear R2 t6 hw6)
        | (go_at_call 38; refine S1.mono ?_; rintro e w7 ⟨rfl, m7, rfl⟩
           have b7 : Below g w (w6.drewN m7) := b6.trans (drewN_below _ _ m7)
           have S2 := ints_same (X6.out.below (drewN_below _ _ m7)) (Y6.out.below (drewN_below _ _ m7))
           simp only [decide_true] at S2
           clear S1)
        | (go_at_call 38; refine S2.mono ?_; rintro e w8 ⟨rfl, m8, rfl⟩
           have b8 : Below g w ((w6.drewN m7).drewN m8) := b7.trans (drewN_below _ _ m8)
           have g8 : g ≤ ((w6.drewN m7).drewN m8).heap.size := by rw [← hg]; exact b8.size
           clear S2)
        | (go_at_call 31; refine (L.out _).mono ?_; rintro e w9 ⟨rfl, hb9⟩))
      go_ret
      exact ⟨rfl, (b6.trans (drewN_below g w6 (m7 + m8))).trans (hb9.mono g8)⟩

set_option maxRecDepth 100000 in
theorem walk {H : Type} {enc : TypeId × Value → H} {base : Nat} {spare : Nat → Bool} {held : Bool} {d0 d1 : DataW H} {p0 p1 : List MemPlace} {r : Reach} {b0 : Nat} (v0 v1 : Value) (a2 : Int) (w : World)
    (hv0 : Value.okWide Try.prog w r b0 43 v0) (t0 : DataW.Trod enc Try.prog w base spare held 43 v0 d0 p0)
    (hv1 : Value.okWide Try.prog w r b0 37 v1) (t1 : DataW.Trod enc Try.prog w base spare held 37 v1 d1 p1) (w2 : (Lit.int .i64 a2).wf = true) :
    Calls Try.prog 7 #[v0, v1, .int .i64 a2] w fun e w' => e = .returned (.bool true) ∧ Below w.heap.size w w' := by
  obtain ⟨words, h1, h2⟩ := words_of hv0 t0
  obtain ⟨l, h3, h4⟩ := many_inC hv1 t1
  obtain ⟨A, n, c, rfl, hcap⟩ := capok_in Try.underlying43 hv0 t0
  exact walk_in h1 hcap h3 h4 (by obtain ⟨_, _, _, _, hm, _⟩ := h3; exact hm) a2

end OPS
end Go.Proofs.Ytkegfeghdnpajaa

namespace Go.Proofs.Ytkegfeghdnpajaa
namespace FrOpaqueStates
open Go.ChangeShapes Go.WideShapes Go.ChangeAt Go.RowKit
open Go.ChangeMaps (open_string shut_string)
set_option linter.unusedVariables false

theorem own : ownKnob Try.prog.godebug = none := by kernel_rfl
theorem laidOut : laidOutB Try.prog = true := by kernel_rfl

set_option maxRecDepth 100000 in
theorem lifted (os : Os) (started : os.Started) (H : Type) (enc : TypeId × Value → H) :
    ReturnsInHanded {} Try.checked os 7 .any (Rows.opaqueStatesSpec.pre6 enc Try.prog Try.f7 Rows.opaqueStatesRow.domain false) (Rows.opaqueStatesSpec.post enc Try.prog Try.f7 false true false false) := by
  refine returnsInHanded_of_change (C := Try.checked) own started (by kernel_rfl) Try.func7
    (ChangeSpec.witness6 (enc := enc) (C := Try.checked) false ⟨#[], #[.slice none 0 0, .slice none 0 0, .int .i64 0], []⟩ 8 (by kernel_rfl) (by kernel_rfl) (by kernel_rfl) (by kernel_rfl)) ?_
  intro W base args ds gs before hval0 hW hcnd _
  have hval : ∀ (j : Nat) t v, Try.f7.params[j]? = some t → args[j]? = some v → Value.okWide Try.prog W .any base t v := hval0
  have hW' := hW
  obtain ⟨p, q, hA0, hV, rfl, hfz, hnd⟩ := hW
  have hA : DataW.TrodAll enc Try.prog W 0 (fun _ => true) true Try.f7.params.toList args.toList ds p := hA0
  rw [Try.params7] at hA hval
  obtain ⟨v0, vs0, d0, ds0, p0, q0, hargs, rfl, rfl, h0, r0⟩ := trodAll_cons hA
  obtain ⟨v1, vs1, d1, ds1, p1, q1, rfl, rfl, rfl, h1, r1⟩ := trodAll_cons r0
  obtain ⟨v2, vs2, d2, ds2, p2, q2, rfl, rfl, rfl, h2, r2⟩ := trodAll_cons r1
  obtain ⟨rfl, rfl, rfl⟩ := trodAll_nil r2
  obtain rfl : args = #[v0, v1, v2] := by cases args; simp_all
  obtain ⟨rfl, rfl⟩ := trodVars_none hV
  have k0 := h0
  have lt0 : ∀ x ∈ p0, x.block < W.heap.size := by obtain ⟨m, hm⟩ := k0; exact DataW.trod_lt m _ _ _ hm
  have k1 := h1
  have lt1 : ∀ x ∈ p1, x.block < W.heap.size := by obtain ⟨m, hm⟩ := k1; exact DataW.trod_lt m _ _ _ hm
  obtain ⟨a2, rfl, rfl, rfl, w2⟩ := open_int Try.underlying3 (hval 2 3 v2 rfl rfl) h2
  clear hA0 hval0
  refine (OPS.walk v0 v1 a2 W (hval 0 43 v0 rfl rfl) h0 (hval 1 37 v1 rfl rfl) h1 w2).mono fun e W' ⟨he, bel⟩ => ?_
  subst he
  exact ⟨_, rfl, _, _, _, [], _, [], hW', trodAll_mk1 (shut_bool Try.underlying4 _), (trodAll_cons_mk (Below.trod laidOut (by kernel_rfl) (of_decide_eq_true (by kernel_rfl)) k0 bel lt0) (trodAll_cons_mk (Below.trod laidOut (by kernel_rfl) (of_decide_eq_true (by kernel_rfl)) k1 bel lt1) (trodAll_cons_mk (shut_int Try.underlying3 w2) trodAll_mk0))), rfl, bel.frame _, fun h => by cases h⟩

theorem over : Rows.opaqueStatesRow.holds Try.pinned (OpenSpec.ofChange Rows.opaqueStatesSpec) :=
  OpenClaim.holds_of_wide 7 Try.f7 rfl rfl rfl rfl rfl rfl rfl ⟨rfl, rfl, rfl, rfl, rfl⟩ rfl rfl rfl rfl rfl (by kernel_rfl) Try.func7 (by kernel_rfl)
    (of_decide_eq_true (by kernel_rfl)) (by unfold Func.isWrapper; first | (rw [if_pos (by decide +kernel)]; kernel_rfl) | (rw [if_neg (by decide +kernel)]; exact ⟨rfl, rfl⟩))
    (fun os started H enc _ => lifted os started H enc)

end FrOpaqueStates

theorem OpaqueStates_holds : Rows.OpaqueStatesSaid := FrOpaqueStates.over
#print axioms OpaqueStates_holds
end Go.Proofs.Ytkegfeghdnpajaa
