/- PROVED HERE: 'assart/assartlaw34.OpaqueChecks' returns true for every input, without a panic, and its arguments read behind the call as they read before (whether all that was read stood there is as the document says (P34.2)). Condition: none beyond the row's own. -/
import Derived.Test.YtkegfeghdnpajaaOcD
import Derived.ProofKit
import Derived.OpenShut
import Derived.ShutString
import Derived.ChangeOld
import Derived.Below
set_option linter.unusedVariables false
set_option linter.unusedSimpArgs false
/- OpaqueChecks -/
namespace Go.Proofs.Ytkegfeghdnpajaa
open Go.RowKit Go.Bas Go.WideShapes Txs View IMap_
namespace OPC
open Srt hiding Ev
open OPR

set_option maxRecDepth 100000 in
set_option maxHeartbeats 4000000 in
theorem walk_in {w : World} {A1 : Option Addr} {nw c1 : Nat} {s : Value} {l : List Tx} {words : List Int} (hW : Words w w.heap.size (.slice A1 nw c1) words) (hcap : nw ≤ c1) (h : ManyC w w.heap.size s l) (hin : ∀ t ∈ l, In64 t.stamp ∧ In64 t.seen ∧ In64 t.worker) (hm : l.length ≤ 9223372036854775807) :
    Calls Try.prog 6 #[.slice A1 nw c1, s] w fun e w' => e = .returned (.bool true) ∧ Below w.heap.size w w' := by
  have hnw : words.length = nw := by
    obtain ⟨_, _, e, _⟩ := id hW
    simp only [Value.slice.injEq] at e
    exact e.2.1.symm
  have G := great_any hW hcap h hm
  have L := Lib.hid lives_any
  obtain ⟨g, hg⟩ : ∃ g, w.heap.size = g := ⟨_, rfl⟩
  rw [hg] at h hW G ⊢
  obtain ⟨A, c, rfl, _⟩ := id h
  have HM := Lib.hid h
  have HW := Lib.hid hW
  have HIN := Lib.hid hin
  have HNW := Lib.hid hnw
  have HS := Lib.hid h.sizes
  clear h hW hin hnw
  cases hgr : greatB nw l with
  | true =>
    rw [hgr] at G
    go_enter Try.func6, Try.ntmps6
    go_wp2_with (first
      | (go_at_call 30; refine G.mono ?_; rintro e w2 ⟨rfl, hb2⟩)
      | (go_at_call 31; refine (L.out _).mono ?_; rintro e w3 ⟨rfl, hb3⟩))
    go_ret
    exact ⟨rfl, hb2.trans (hb3.mono (by have := hb2.size; omega))⟩
  | false =>
    rw [hgr] at G
    obtain ⟨hn, hl⟩ := great_no hgr
    cases hr : rightB nw l with
    | false =>
      have HR := Lib.hid hr
      clear hr hgr
      go_enter Try.func6, Try.ntmps6
      go_wp2_with (first
        | (go_at_call 30; refine G.mono ?_; rintro e w2 ⟨rfl, hb2⟩
           have g2 : g ≤ w2.heap.size := by rw [← hg]; exact hb2.size
           have C1 := checkBad_any (A1 := A1) (nw := nw) (c1 := c1) ((HM.out.below hb2).mono g2).many hl HIN.out HR.out)
        | (go_at_call 32; refine C1.mono ?_; rintro e w3 ⟨rfl, hb3⟩
           have b3 : Below g w w3 := hb2.trans (hb3.mono g2)
           have g3 : g ≤ w3.heap.size := by rw [← hg]; exact b3.size
           have R1 := refCheckBad_any ((HW.out.below b3).mono g3) hcap ((HM.out.below b3).mono g3) hl HS.out HR.out)
        | (go_at_call 33; refine R1.mono ?_; rintro e w4 ⟨rfl, hb4⟩)
        | (go_at_call 31; refine (L.out _).mono ?_; rintro e w5 ⟨rfl, hb5⟩))
      go_ret
      exact ⟨rfl, b3.trans ((hb4.trans (hb5.mono hb4.size)).mono g3)⟩
    | true =>
      have HR := Lib.hid hr
      clear hr hgr
      go_enter Try.func6, Try.ntmps6
      go_wp2_with (first
        | (go_at_call 30; refine G.mono ?_; rintro e w2 ⟨rfl, hb2⟩
           have g2 : g ≤ w2.heap.size := by rw [← hg]; exact hb2.size
           have C1 := checkOk_any ((HW.out.below hb2).mono g2) HNW.out (by omega) ((HM.out.below hb2).mono g2) hl HIN.out HR.out)
        | (go_at_call 32; refine C1.mono ?_; rintro e w3 ⟨O, rfl, hO, hA, hb3⟩
           have b3 : Below g w w3 := hb2.trans (hb3.mono g2)
           have g3 : g ≤ w3.heap.size := by rw [← hg]; exact b3.size
           have R1 := refCheckOk_any ((HW.out.below b3).mono g3) hcap (by omega) ((HM.out.below b3).mono g3) hl HS.out HR.out O hO hA
           obtain ⟨V, hV⟩ : ∃ V, (if l.all (readB words O) then (0 : Int) else 19) = V := ⟨_, rfl⟩
           rw [hV] at R1 ⊢
           clear hO hA hV C1)
        | (go_at_call 33; refine R1.mono ?_; rintro e w4 ⟨rfl, hb4⟩)
        | (go_at_call 31; refine (L.out _).mono ?_; rintro e w5 ⟨rfl, hb5⟩))
      go_ret
      exact ⟨rfl, b3.trans ((hb4.trans (hb5.mono hb4.size)).mono g3)⟩

set_option maxRecDepth 100000 in
theorem walk {H : Type} {enc : TypeId × Value → H} {base : Nat} {spare : Nat → Bool} {held : Bool} {d0 d1 : DataW H} {p0 p1 : List MemPlace} {r : Reach} {b0 : Nat} (v0 v1 : Value) (w : World)
    (hv0 : Value.okWide Try.prog w r b0 43 v0) (t0 : DataW.Trod enc Try.prog w base spare held 43 v0 d0 p0)
    (hv1 : Value.okWide Try.prog w r b0 37 v1) (t1 : DataW.Trod enc Try.prog w base spare held 37 v1 d1 p1) :
    Calls Try.prog 6 #[v0, v1] w fun e w' => e = .returned (.bool true) ∧ Below w.heap.size w w' := by
  obtain ⟨words, h1, h2⟩ := words_of hv0 t0
  obtain ⟨l, h3, h4⟩ := many_inC hv1 t1
  obtain ⟨A, n, c, rfl, hcap⟩ := capok_in Try.underlying43 hv0 t0
  exact walk_in h1 hcap h3 h4 (by obtain ⟨_, _, _, _, hm, _⟩ := h3; exact hm)

end OPC
end Go.Proofs.Ytkegfeghdnpajaa

namespace Go.Proofs.Ytkegfeghdnpajaa
namespace FrOpaqueChecks
open Go.ChangeShapes Go.WideShapes Go.ChangeAt Go.RowKit
open Go.ChangeMaps (open_string shut_string)
set_option linter.unusedVariables false

theorem own : ownKnob Try.prog.godebug = none := by kernel_rfl
theorem laidOut : laidOutB Try.prog = true := by kernel_rfl

set_option maxRecDepth 100000 in
theorem lifted (os : Os) (started : os.Started) (H : Type) (enc : TypeId × Value → H) :
    ReturnsInHanded {} Try.checked os 6 .any (Rows.opaqueChecksSpec.pre6 enc Try.prog Try.f6 Rows.opaqueChecksRow.domain false) (Rows.opaqueChecksSpec.post enc Try.prog Try.f6 false true false false) := by
  refine returnsInHanded_of_change (C := Try.checked) own started (by kernel_rfl) Try.func6
    (ChangeSpec.witness6 (enc := enc) (C := Try.checked) false ⟨#[], #[.slice none 0 0, .slice none 0 0], []⟩ 8 (by kernel_rfl) (by kernel_rfl) (by kernel_rfl) (by kernel_rfl)) ?_
  intro W base args ds gs before hval0 hW hcnd _
  have hval : ∀ (j : Nat) t v, Try.f6.params[j]? = some t → args[j]? = some v → Value.okWide Try.prog W .any base t v := hval0
  have hW' := hW
  obtain ⟨p, q, hA0, hV, rfl, hfz, hnd⟩ := hW
  have hA : DataW.TrodAll enc Try.prog W 0 (fun _ => true) true Try.f6.params.toList args.toList ds p := hA0
  rw [Try.params6] at hA hval
  obtain ⟨v0, vs0, d0, ds0, p0, q0, hargs, rfl, rfl, h0, r0⟩ := trodAll_cons hA
  obtain ⟨v1, vs1, d1, ds1, p1, q1, rfl, rfl, rfl, h1, r1⟩ := trodAll_cons r0
  obtain ⟨rfl, rfl, rfl⟩ := trodAll_nil r1
  obtain rfl : args = #[v0, v1] := by cases args; simp_all
  obtain ⟨rfl, rfl⟩ := trodVars_none hV
  have k0 := h0
  have lt0 : ∀ x ∈ p0, x.block < W.heap.size := by obtain ⟨m, hm⟩ := k0; exact DataW.trod_lt m _ _ _ hm
  have k1 := h1
  have lt1 : ∀ x ∈ p1, x.block < W.heap.size := by obtain ⟨m, hm⟩ := k1; exact DataW.trod_lt m _ _ _ hm
  clear hA0 hval0
  refine (OPC.walk v0 v1 W (hval 0 43 v0 rfl rfl) h0 (hval 1 37 v1 rfl rfl) h1).mono fun e W' ⟨he, bel⟩ => ?_
  subst he
  exact ⟨_, rfl, _, _, _, [], _, [], hW', trodAll_mk1 (shut_bool Try.underlying4 _), (trodAll_cons_mk (Below.trod laidOut (by kernel_rfl) (of_decide_eq_true (by kernel_rfl)) k0 bel lt0) (trodAll_cons_mk (Below.trod laidOut (by kernel_rfl) (of_decide_eq_true (by kernel_rfl)) k1 bel lt1) trodAll_mk0)), rfl, bel.frame _, fun h => by cases h⟩

theorem over : Rows.opaqueChecksRow.holds Try.pinned (OpenSpec.ofChange Rows.opaqueChecksSpec) :=
  OpenClaim.holds_of_wide 6 Try.f6 rfl rfl rfl rfl rfl rfl rfl ⟨rfl, rfl, rfl, rfl, rfl⟩ rfl rfl rfl rfl rfl (by kernel_rfl) Try.func6 (by kernel_rfl)
    (of_decide_eq_true (by kernel_rfl)) (by unfold Func.isWrapper; first | (rw [if_pos (by decide +kernel)]; kernel_rfl) | (rw [if_neg (by decide +kernel)]; exact ⟨rfl, rfl⟩))
    (fun os started H enc _ => lifted os started H enc)

end FrOpaqueChecks

theorem OpaqueChecks_holds : Rows.OpaqueChecksSaid := FrOpaqueChecks.over
#print axioms OpaqueChecks_holds
end Go.Proofs.Ytkegfeghdnpajaa
