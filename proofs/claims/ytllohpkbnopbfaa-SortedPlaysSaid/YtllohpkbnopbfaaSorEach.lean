import Derived.Test.YtllohpkbnopbfaaSorOthers
import Derived.Test.YtllohpkbnopbfaaBase2
namespace Go.Proofs.Ytllohpkbnopbfaa
open Go.RowKit Go.Bas SorPlain Go.Sor
namespace SorStr

set_option maxHeartbeats 1000000 in
/-- Each, of any callback that keeps to an invariant -/
theorem each_any {b : Nat} {xs : List (Int × Value)} (f : FuncId) (cap : Array Value) (I : Nat → World → Prop) (Q : World → Prop) (hx : xs.length ≤ 4611686018427387904)
    (hfn : ∀ args w, (callFunc f args).run Try.prog w = .ok (.enter f args) w)
    (hmap : ∀ i w, I i w → ∃ v, IsMap TM TE w b v xs) (hdr : ∀ i w n, I i w → I i (w.drewN n))
    (hcall : ∀ i, i < xs.length → ∀ w, I i w → Calls Try.prog f (#[.int .i64 ((keys xs).getD i 0), (xs.map (·.2)).getD i undef] ++ cap) w fun e w' => ∃ r, e = .returned (.bool r) ∧ (r = true → I (i + 1) w') ∧ (r = false → Q w'))
    (hend : ∀ w, I xs.length w → Q w) (w : World) (h0 : I 0 w) :
    Calls Try.prog 12 #[.pointer (some ⟨b, 0, none⟩), .func (.func f) #[] cap] w fun e w' => e = .returned (.tuple #[]) ∧ Q w' := by
  have hl : ∀ w, I 0 w → Calls Try.prog 15 #[.pointer (some ⟨b, 0, none⟩)] w fun e w' => e = .returned (.int .i64 xs.length) ∧ w = w' := fun w h => by
    obtain ⟨v, hv⟩ := hmap 0 w h
    exact len_any hv
  have cl := hl w h0
  have H0 : Hid (I 0 w) := h0
  have HM := Lib.hid hmap; have HD := Lib.hid hdr; have HC := Lib.hid hcall; have HE := Lib.hid hend
  clear hl h0 hmap hdr hcall hend
  obtain ⟨n, hn⟩ : ∃ n, xs.length = n := ⟨_, rfl⟩
  have HN := Lib.hid hn
  rw [hn] at hx cl
  clear hn
  go_enter Try.func12, Try.ntmps12
  go_wp2_with (go_at_call 15; refine cl.mono ?_; rintro e w' ⟨rfl, rfl⟩)
  clear cl
  go_loopw [4, 7] (fun u4 i wr => ∃ k : Nat, k ≤ n ∧ i = .int .i64 k ∧ Hid (I k wr)) (fun _ i _ => n - (intOf i).toNat)
  case atStart => exact ⟨0, by omega, rfl, H0⟩
  case round =>
    obtain ⟨k, hk, rfl, HI⟩ := hrel
    by_cases hlt : k < n
    · obtain ⟨v, hm⟩ := HM.out k wr HI.out
      rcases hm.shape with ⟨_, rfl⟩ | ⟨g, cp, cur, rfl, hgb, hg, hc, hcm, hcs, ht⟩
      · have := HN.out; simp at this; omega
      have hb := hm.head
      rw [HN.out] at hb
      have hkk := row_cell hg ht (flat_key xs k (by rw [HN.out]; exact hlt))
      have hkv := row_cell hg ht (flat_val xs k (by rw [HN.out]; exact hlt))
      have cc := HC.out k (by rw [HN.out]; exact hlt) (wr.drewN 1) (HD.out k wr 1 HI.out)
      obtain ⟨x, hx'⟩ : ∃ x, (keys xs).getD k 0 = x := ⟨_, rfl⟩
      obtain ⟨u, hu⟩ : ∃ u, (xs.map (·.2)).getD k undef = u := ⟨_, rfl⟩
      rw [show (xs.map (·.1)).getD k 0 = x from hx'] at hkk
      rw [hu] at hkv
      rw [hx', hu] at cc
      clear hx' hu hm hg hc hcm hcs ht
      go_wp2
      go_still_tail 17, (by kernel_rfl)
      change wpList _ _ _ _ _ (wr.drewN 1)
      go_wp2_with fail
      refine cc.mono ?_
      rintro e w2 ⟨r, rfl, h1, h2⟩
      cases r with
      | true =>
        have HI2 : Hid (I (k + 1) w2) := h1 rfl
        clear h1 h2
        go_wp2
        go_roundw
        case rel => exact ⟨k + 1, by omega, by go_num, HI2⟩
        case measure => simp [intOf]; omega
      | false =>
        have HQ2 : Hid (Q w2) := h2 rfl
        clear h1 h2
        go_wp2
        exact bodyPost_ret (results_none rfl _ _ _) rfl ⟨rfl, HQ2.out⟩
    · obtain rfl : k = n := by omega
      have HQ2 : Hid (Q wr) := HE.out wr (by rw [HN.out]; exact HI.out)
      go_wp2
      go_end0
      exact ⟨rfl, HQ2.out⟩

end SorStr
end Go.Proofs.Ytllohpkbnopbfaa
