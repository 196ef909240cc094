/- Lemmas of this seat's proofs, several texts laid together. -/
import Derived.Test.YthojgahcpkdemaaGreatAfE
set_option linter.unusedVariables false
set_option linter.unusedSimpArgs false
/- an attempt holds a lock -/
namespace Go.Proofs.YthojgahcpkdemaaGreat
open Go.RowKit Go.Bas View VIn IMap_
open Go.ChangeShapes
open Go.Proofs.YthojgahcpkdemaaGreatW.PrintLast
namespace Att

/-- what a grab leaves -/
def GrabsOut (w : World) (b a g base : Nat) (X : AV) (T : AT) (W : List Int) (c k : Int) (e : Ending) (w' : World) : Prop :=
  e = .returned (.tuple #[]) ∧ (∃ X', Row w' b X' (grabs T W).1 ∧ ((X' = X ∧ (grabs T W).1.holds = T.holds ∧ Chg (fun j => j = b ∨ j = a ∨ j = g) w w') ∨ ∃ v, X' = { X with vh := v } ∧ HTold w' base (grabs T W).1.holds v ∧ ∀ j, v.ownBlock = some j → X.vh.ownBlock = some j ∨ w.heap.size ≤ j)) ∧ Ar w' a g (grabs T W).2 (c + cnt W k) ∧ Chg (fun j => X.vh.ownBlock = some j ∨ j = b ∨ j = a ∨ j = g) w w'

set_option maxRecDepth 100000 in
set_option maxHeartbeats 4000000 in
theorem grabs_any {w : World} {b : Nat} {X : AV} {T : AT} {a g : Nat} {W : List Int} {c : Int} (H : Row w b X T) (hA : Ar w a g W c) (hc : 0 ≤ c ∧ c < 4611686018427387904) (hne : b ≠ a ∧ b ≠ g)
    {base : Nat} (hHo : HTold w base T.holds X.vh) (hbase : base ≤ w.heap.size) (hhl : T.holds.length ≤ 10000) (hHa : ∀ k, X.vh.ownBlock = some k → k ≠ a ∧ k ≠ g ∧ k ≠ b)
    {gl n cp : Nat} (hl : X.vl = .slice (some ⟨gl, 0, none⟩) n cp) (hln : n = T.locks.length) (hin : T.holds.length < n) (hng : gl ≠ a ∧ gl ≠ g) (hkc : w.cell? ⟨gl, T.holds.length, none⟩ = some (.int .i64 (T.locks.getD T.holds.length 0))) :
    Calls Tryz.prog 68 #[.pointer (some ⟨b, 0, none⟩), .pointer (some ⟨a, 0, none⟩)] w (GrabsOut w b a g base X T W c (T.locks.getD T.holds.length 0)) := by
  have hbl := H.lt
  have HH := Lib.hid H
  have HA := Lib.hid hA
  have HHO := Lib.hid hHo
  have HVB : Hid (∀ k, X.vh.ownBlock = some k → k ≠ b) := fun k hk => (hHa k hk).2.2
  have HVA := Lib.hid hHa
  obtain ⟨k, hk⟩ : ∃ k, T.locks.getD T.holds.length 0 = k := ⟨_, rfl⟩
  have HK := Lib.hid hk
  rw [hk] at hkc ⊢
  obtain ⟨hn, hhn⟩ : ∃ hn, T.holds.length = hn := ⟨_, rfl⟩
  have HHN := Lib.hid hhn
  rw [hhn] at hkc hin hhl
  have HKC := Lib.hid hkc
  obtain ⟨x, hx⟩ : ∃ x, ld W k = x := ⟨_, rfl⟩
  have HX := Lib.hid hx
  obtain ⟨W', hu⟩ : ∃ W', (if x = T.was then st W k (heldW T.owner) else W) = W' := ⟨_, rfl⟩
  have HU := Lib.hid hu
  obtain ⟨Ah, ch, hv⟩ := hHo.slice
  rw [hhn] at hv
  have HLN := Lib.hid hln
  clear H hA hHo hHa hkc hx hu hk hhn hln
  go_enter Tryz.func68, Tryz.ntmps68
  go_wp2
  refine start_ (n := 12) (S := fun w' => Row w' b X T ∧ w'.cell? ⟨gl, hn, none⟩ = some (.int .i64 k)) (ds := []) #[false, false, false, false, false, false, false, false, false, false, false, false] (by kernel_rfl) rfl rfl ⟨HH.out, HKC.out⟩ (fun hHeld => ?_)
  refine pure_ (i := 0) (N := (some 7)) (v := ?_) (a' := ?_) #[true, false, false, false, false, false, false, false, false, false, false, false] rfl rfl (by kernel_rfl) (fun _ _ _ h => h) (Or.inl ⟨by rfl, ?_⟩) ?_ ?_
  rotate_left
  · intro w'
    go_simp
    with_reducible rfl
  rotate_left
  · simp only [Act.put, List.setIfInBounds_toArray, List.set_cons_zero, List.set_cons_succ, i64_w, i32_w]
    rfl
  refine pure_ (i := 1) (N := (some 8)) (v := ?_) (a' := ?_) #[true, true, false, false, false, false, false, false, false, false, false, false] rfl rfl (by kernel_rfl) (fun _ _ _ h => h) (Or.inl ⟨by rfl, ?_⟩) ?_ ?_
  rotate_left
  · intro w'
    go_simp
    with_reducible rfl
  rotate_left
  · simp only [Act.put, List.setIfInBounds_toArray, List.set_cons_zero, List.set_cons_succ, i64_w, i32_w]
    rfl
  refine pure_ (i := 2) (N := (some 9)) (v := ?_) (a' := ?_) #[true, true, true, false, false, false, false, false, false, false, false, false] rfl rfl (by kernel_rfl) (fun _ _ _ h => h) (Or.inl ⟨by rfl, ?_⟩) ?_ ?_
  rotate_left
  · intro w'
    go_simp
    with_reducible rfl
  rotate_left
  · simp only [Act.put, List.setIfInBounds_toArray, List.set_cons_zero, List.set_cons_succ, i64_w, i32_w]
    rfl
  refine take_ (i := 3) (N := (some 10)) (v := ?_) (a' := ?_) #[true, true, true, true, false, false, false, false, false, false, false, false] rfl rfl (by kernel_rfl) (fun _ _ _ h => h) (Or.inl ⟨by rfl, ?_⟩) hHeld ?_ ?_
  rotate_left
  · rintro w' ⟨s0, s1⟩
    have q1 := Row.get s0
    go_simp
    with_reducible rfl
  rotate_left
  · simp only [Act.put, List.setIfInBounds_toArray, List.set_cons_zero, List.set_cons_succ, i64_w, i32_w]
    rfl
  refine pure_ (i := 4) (N := (some 11)) (v := ?_) (a' := ?_) #[true, true, true, true, true, false, false, false, false, false, false, false] rfl rfl (by kernel_rfl) (fun _ _ _ h => h) (Or.inl ⟨by rfl, ?_⟩) ?_ ?_
  rotate_left
  · intro w'
    go_simp
    with_reducible rfl
  rotate_left
  · simp only [Act.put, List.setIfInBounds_toArray, List.set_cons_zero, List.set_cons_succ, i64_w, i32_w]
    rfl
  refine pure_ (i := 5) (N := (some 12)) (v := ?_) (a' := ?_) #[true, true, true, true, true, true, false, false, false, false, false, false] rfl rfl (by kernel_rfl) (fun _ _ _ h => h) (Or.inl ⟨by rfl, ?_⟩) ?_ ?_
  rotate_left
  · intro w'
    go_simp
    with_reducible rfl
  rotate_left
  · simp only [Act.put, List.setIfInBounds_toArray, List.set_cons_zero, List.set_cons_succ, i64_w, i32_w]
    rfl
  refine pure_ (i := 6) (N := (some 13)) (v := ?_) (a' := ?_) #[true, true, true, true, true, true, true, false, false, false, false, false] rfl rfl (by kernel_rfl) (fun _ _ _ h => h) (Or.inl ⟨by rfl, ?_⟩) ?_ ?_
  rotate_left
  · intro w'
    go_simp
    with_reducible rfl
  rotate_left
  · simp only [Act.put, List.setIfInBounds_toArray, List.set_cons_zero, List.set_cons_succ, i64_w, i32_w]
    rfl
  refine take_ (i := 7) (N := (some 14)) (v := ?_) (a' := ?_) #[true, true, true, true, true, true, true, true, false, false, false, false] rfl rfl (by kernel_rfl) (fun _ _ _ h => h) (Or.inl ⟨by rfl, ?_⟩) hHeld ?_ ?_
  rotate_left
  · rintro w' ⟨s0, s1⟩
    have q1 := Row.get s0
    go_simp
    with_reducible rfl
  rotate_left
  · simp only [Act.put, List.setIfInBounds_toArray, List.set_cons_zero, List.set_cons_succ, i64_w, i32_w]
    rfl
  refine pure_ (i := 8) (N := (some 15)) (v := ?_) (a' := ?_) #[true, true, true, true, true, true, true, true, true, false, false, false] rfl rfl (by kernel_rfl) (fun _ _ _ h => h) (Or.inl ⟨by rfl, ?_⟩) ?_ ?_
  rotate_left
  · intro w'
    go_simp
    with_reducible rfl
  rotate_left
  · simp only [Act.put, List.setIfInBounds_toArray, List.set_cons_zero, List.set_cons_succ, i64_w, i32_w]
    rfl
  refine pure_ (i := 9) (N := (some 16)) (v := ?_) (a' := ?_) #[true, true, true, true, true, true, true, true, true, true, false, false] rfl rfl (by kernel_rfl) (fun _ _ _ h => h) (Or.inl ⟨by rfl, ?_⟩) ?_ ?_
  rotate_left
  · intro w'
    go_simp
    with_reducible rfl
  rotate_left
  · simp only [Act.put, List.setIfInBounds_toArray, List.set_cons_zero, List.set_cons_succ, i64_w, i32_w]
    rfl
  refine take_ (i := 10) (N := (some 17)) (v := ?_) (a' := ?_) #[true, true, true, true, true, true, true, true, true, true, true, false] rfl rfl (by kernel_rfl) (fun _ _ _ h => h) (Or.inl ⟨by rfl, ?_⟩) hHeld ?_ ?_
  rotate_left
  · rintro w' ⟨s0, s1⟩
    go_simp
    with_reducible rfl
  rotate_left
  · simp only [Act.put, List.setIfInBounds_toArray, List.set_cons_zero, List.set_cons_succ, i64_w, i32_w]
    rfl
  refine pure_ (i := 11) (N := (some 4)) (v := ?_) (a' := ?_) #[true, true, true, true, true, true, true, true, true, true, true, true] rfl rfl (by kernel_rfl) (fun _ _ _ h => h) (Or.inl ⟨by rfl, ?_⟩) ?_ ?_
  rotate_left
  · intro w'
    go_simp
    with_reducible rfl
  rotate_left
  · simp only [Act.put, List.setIfInBounds_toArray, List.set_cons_zero, List.set_cons_succ, i64_w, i32_w]
    rfl
  refine done_ (by kernel_rfl) ?_
  have R1 : Row w.drew b X T := HH.out
  have HA1' : Ar w.drew a g W c := HA.out.below (Below.refl _ _).drew
  have s1 : w.drew.heap.size = w.heap.size := rfl
  have BW1 : Hid (Below w.heap.size w w.drew) := (Below.refl _ _).drew
  obtain ⟨w1, hw1⟩ : ∃ w1, w.drew = w1 := ⟨_, rfl⟩
  rw [hw1] at R1 HA1' BW1 s1 ⊢
  have HA1 := Lib.hid HA1'
  have hf1 := @hHeld
  clear hw1 HA1' hHeld hf1
  go_wp2
  refine start_ (n := 17) (S := fun w' => Row w' b X T) (ds := []) #[false, false, false, false, false, false, false, false, false, false, false, false, false, false, false, false, false] (by kernel_rfl) rfl rfl R1 (fun hHeld => ?_)
  refine pure_ (i := 0) (N := (some 19)) (v := ?_) (a' := ?_) #[true, false, false, false, false, false, false, false, false, false, false, false, false, false, false, false, false] rfl rfl (by kernel_rfl) (fun _ _ _ h => h) (Or.inl ⟨by rfl, ?_⟩) ?_ ?_
  rotate_left
  · intro w'
    go_simp
    with_reducible rfl
  rotate_left
  · simp only [Act.put, List.setIfInBounds_toArray, List.set_cons_zero, List.set_cons_succ, i64_w, i32_w]
    rfl
  refine pure_ (i := 1) (N := (some 20)) (v := ?_) (a' := ?_) #[true, true, false, false, false, false, false, false, false, false, false, false, false, false, false, false, false] rfl rfl (by kernel_rfl) (fun _ _ _ h => h) (Or.inl ⟨by rfl, ?_⟩) ?_ ?_
  rotate_left
  · intro w'
    go_simp
    with_reducible rfl
  rotate_left
  · simp only [Act.put, List.setIfInBounds_toArray, List.set_cons_zero, List.set_cons_succ, i64_w, i32_w]
    rfl
  refine pure_ (i := 2) (N := (some 21)) (v := ?_) (a' := ?_) #[true, true, true, false, false, false, false, false, false, false, false, false, false, false, false, false, false] rfl rfl (by kernel_rfl) (fun _ _ _ h => h) (Or.inl ⟨by rfl, ?_⟩) ?_ ?_
  rotate_left
  · intro w'
    go_simp
    with_reducible rfl
  rotate_left
  · simp only [Act.put, List.setIfInBounds_toArray, List.set_cons_zero, List.set_cons_succ, i64_w, i32_w]
    rfl
  refine pure_ (i := 3) (N := (some 22)) (v := ?_) (a' := ?_) #[true, true, true, true, false, false, false, false, false, false, false, false, false, false, false, false, false] rfl rfl (by kernel_rfl) (fun _ _ _ h => h) (Or.inl ⟨by rfl, ?_⟩) ?_ ?_
  rotate_left
  · intro w'
    go_simp
    with_reducible rfl
  rotate_left
  · simp only [Act.put, List.setIfInBounds_toArray, List.set_cons_zero, List.set_cons_succ, i64_w, i32_w]
    rfl
  refine pure_ (i := 4) (N := (some 23)) (v := ?_) (a' := ?_) #[true, true, true, true, true, false, false, false, false, false, false, false, false, false, false, false, false] rfl rfl (by kernel_rfl) (fun _ _ _ h => h) (Or.inl ⟨by rfl, ?_⟩) ?_ ?_
  rotate_left
  · intro w'
    go_simp
    with_reducible rfl
  rotate_left
  · simp only [Act.put, List.setIfInBounds_toArray, List.set_cons_zero, List.set_cons_succ, i64_w, i32_w]
    rfl
  refine take_ (i := 5) (N := (some 24)) (v := ?_) (a' := ?_) #[true, true, true, true, true, true, false, false, false, false, false, false, false, false, false, false, false] rfl rfl (by kernel_rfl) (fun _ _ _ h => h) (Or.inl ⟨by rfl, ?_⟩) hHeld ?_ ?_
  rotate_left
  · intro w' s0
    have q1 := Row.get s0
    go_simp
    with_reducible rfl
  rotate_left
  · simp only [Act.put, List.setIfInBounds_toArray, List.set_cons_zero, List.set_cons_succ, i64_w, i32_w]
    rfl
  refine pure_ (i := 6) (N := (some 25)) (v := ?_) (a' := ?_) #[true, true, true, true, true, true, true, false, false, false, false, false, false, false, false, false, false] rfl rfl (by kernel_rfl) (fun _ _ _ h => h) (Or.inl ⟨by rfl, ?_⟩) ?_ ?_
  rotate_left
  · intro w'
    go_simp
    with_reducible rfl
  rotate_left
  · simp only [Act.put, List.setIfInBounds_toArray, List.set_cons_zero, List.set_cons_succ, i64_w, i32_w]
    rfl
  refine pure_ (i := 7) (N := (some 26)) (v := ?_) (a' := ?_) #[true, true, true, true, true, true, true, true, false, false, false, false, false, false, false, false, false] rfl rfl (by kernel_rfl) (fun _ _ _ h => h) (Or.inl ⟨by rfl, ?_⟩) ?_ ?_
  rotate_left
  · intro w'
    go_simp
    with_reducible rfl
  rotate_left
  · simp only [Act.put, List.setIfInBounds_toArray, List.set_cons_zero, List.set_cons_succ, i64_w, i32_w]
    rfl
  refine pure_ (i := 8) (N := (some 27)) (v := ?_) (a' := ?_) #[true, true, true, true, true, true, true, true, true, false, false, false, false, false, false, false, false] rfl rfl (by kernel_rfl) (fun _ _ _ h => h) (Or.inl ⟨by rfl, ?_⟩) ?_ ?_
  rotate_left
  · intro w'
    go_simp
    with_reducible rfl
  rotate_left
  · simp only [Act.put, List.setIfInBounds_toArray, List.set_cons_zero, List.set_cons_succ, i64_w, i32_w]
    rfl
  refine take_ (i := 9) (N := (some 28)) (v := ?_) (a' := ?_) #[true, true, true, true, true, true, true, true, true, true, false, false, false, false, false, false, false] rfl rfl (by kernel_rfl) (fun _ _ _ h => h) (Or.inl ⟨by rfl, ?_⟩) hHeld ?_ ?_
  rotate_left
  · intro w' s0
    have q1 := Row.get s0
    go_simp
    with_reducible rfl
  rotate_left
  · simp only [Act.put, List.setIfInBounds_toArray, List.set_cons_zero, List.set_cons_succ, i64_w, i32_w]
    rfl
  refine one_ (i := 10) (N := (some 29)) #[true, true, true, true, true, true, true, true, true, true, true, false, false, false, false, false, false] rfl rfl (by kernel_rfl) (by decide) (fun K hK => ?_)
  refine goes_ Tryz.func83 (by kernel_rfl) rfl #[.int .i64 T.owner] (by rfl) rfl rfl (by first | rfl | (simp [Act.eval]; done) | (go_simp; done)) ?_
  refine (held_any T.owner w1.drew).mono ?_
  rintro e w2 ⟨rfl, hb2⟩
  have b12 : Below w1.heap.size w1 w2 := (show Below w1.heap.size w1 w1.drew from (Below.refl _ _).drew).trans hb2
  have R2 : Row w2 b X T := R1.keep (b12.block b R1.lt)
  have A2 : Hid (Ar w2 a g W c) := HA1.out.below b12
  have B12 := Lib.hid b12
  clear b12 hb2
  refine ⟨_, rfl, ?_⟩
  refine hK.out _ _ R2 (fun hHeld => ?_)
  clear hK K
  refine norm_ (a' := ?_) ?_ ?_
  rotate_left
  · show Act.put _ (some 29) _ = _
    simp only [Act.put, List.setIfInBounds_toArray, List.set_cons_zero, List.set_cons_succ, i64_w, i32_w]
    rfl
  refine one_ (i := 11) (N := (some 30)) #[true, true, true, true, true, true, true, true, true, true, true, true, false, false, false, false, false] rfl rfl (by kernel_rfl) (by decide) (fun K hK => ?_)
  refine goes_ Tryz.func82 (by kernel_rfl) rfl #[.pointer (some ⟨a, 0, none⟩), .int .i64 k, .int .i64 T.was, .int .i64 (heldW T.owner)] (by rfl) rfl rfl (by first | rfl | (simp [Act.eval]; done) | (go_simp; done)) ?_
  refine (swap_any A2.out hc k T.was (heldW T.owner)).mono ?_
  rintro e w3 ⟨rfl, ha3, hc3⟩
  rw [HX.out] at ha3 ⊢
  rw [HU.out] at ha3
  have R3 : Row w3 b X T := R2.keep (hc3.block b R2.lt (fun h => h.elim hne.1 hne.2))
  have A3 := Lib.hid ha3
  have C3 := Lib.hid hc3
  clear ha3 hc3
  refine ⟨_, rfl, ?_⟩
  refine hK.out _ _ R3 (fun hHeld => ?_)
  clear hK K
  refine norm_ (a' := ?_) ?_ ?_
  rotate_left
  · show Act.put _ (some 30) _ = _
    simp only [Act.put, List.setIfInBounds_toArray, List.set_cons_zero, List.set_cons_succ, i64_w, i32_w]
    rfl
  refine pure_ (i := 12) (N := (some 18)) (v := ?_) (a' := ?_) #[true, true, true, true, true, true, true, true, true, true, true, true, true, false, false, false, false] rfl rfl (by kernel_rfl) (fun _ _ _ h => h) (Or.inl ⟨by rfl, ?_⟩) ?_ ?_
  rotate_left
  · intro w'
    go_simp
    with_reducible rfl
  rotate_left
  · simp only [Act.put, List.setIfInBounds_toArray, List.set_cons_zero, List.set_cons_succ, i64_w, i32_w]
    rfl
  refine pure_ (i := 13) (N := (some 31)) (v := ?_) (a' := ?_) #[true, true, true, true, true, true, true, true, true, true, true, true, true, true, false, false, false] rfl rfl (by kernel_rfl) (fun _ _ _ h => h) (Or.inl ⟨by rfl, ?_⟩) ?_ ?_
  rotate_left
  · intro w'
    go_simp
    with_reducible rfl
  rotate_left
  · simp only [Act.put, List.setIfInBounds_toArray, List.set_cons_zero, List.set_cons_succ, i64_w, i32_w]
    rfl
  refine pure_ (i := 14) (N := (some 32)) (v := ?_) (a' := ?_) #[true, true, true, true, true, true, true, true, true, true, true, true, true, true, true, false, false] rfl rfl (by kernel_rfl) (fun _ _ _ h => h) (Or.inl ⟨by rfl, ?_⟩) ?_ ?_
  rotate_left
  · intro w'
    go_simp
    with_reducible rfl
  rotate_left
  · simp only [Act.put, List.setIfInBounds_toArray, List.set_cons_zero, List.set_cons_succ, i64_w, i32_w]
    rfl
  refine pure_ (i := 15) (N := (some 5)) (v := ?_) (a' := ?_) #[true, true, true, true, true, true, true, true, true, true, true, true, true, true, true, true, false] rfl rfl (by kernel_rfl) (fun _ _ _ h => h) (Or.inl ⟨by rfl, ?_⟩) ?_ ?_
  rotate_left
  · intro w'
    go_simp
    with_reducible rfl
  rotate_left
  · simp only [Act.put, List.setIfInBounds_toArray, List.set_cons_zero, List.set_cons_succ, i64_w, i32_w]
    rfl
  refine pure_ (i := 16) (N := (some 6)) (v := ?_) (a' := ?_) #[true, true, true, true, true, true, true, true, true, true, true, true, true, true, true, true, true] rfl rfl (by kernel_rfl) (fun _ _ _ h => h) (Or.inl ⟨by rfl, ?_⟩) ?_ ?_
  rotate_left
  · intro w'
    go_simp
    with_reducible rfl
  rotate_left
  · simp only [Act.put, List.setIfInBounds_toArray, List.set_cons_zero, List.set_cons_succ, i64_w, i32_w]
    rfl
  refine done_ (by kernel_rfl) ?_
  have K3 : Hid (Below w.heap.size w w2) := BW1.out.trans (B12.out.mono (by rw [s1]; exact Nat.le_refl _))
  have D3 : Hid (Chg (fun j => j = a ∨ j = g) w w3) := ((Chg.of_below K3.out).mono (fun j h1 h2 => by omega)).trans C3.out
  have HH5 : Hid (HTold w3 base T.holds X.vh) := HHO.out.kept fun j hj => D3.out.block j (HHO.out.own_lt hj) (fun h => by have := HVA.out j hj; omega)
  have HL5 : Hid (gl < w.heap.size) := World.block_lt_of_cell? _ _ HKC.out
  clear hHeld B12 BW1 C3 HKC
  have HVV := Lib.hid hv; have HLL := Lib.hid hl
  clear hv hl
  by_cases hxw : x = T.was
  · have eW : grabs T W = ({ T with holds := T.holds ++ [(k, T.was)], phase := if hn + 1 = T.locks.length then 6 else 4 }, W') := by
      unfold grabs
      simp only [HK.out, HX.out]
      have hl1 : (T.holds ++ [(k, T.was)]).length = hn + 1 := by simp [HHN.out]
      rw [hl1]
      have eU := HU.out
      rw [if_pos hxw] at eU
      by_cases hi : inn W k = true
      · rw [if_pos ⟨hxw, hi⟩, eU]
      · rw [if_neg (fun e => hi e.2), if_pos hxw]
        have : st W k (heldW T.owner) = W := by unfold st; rw [if_neg hi]
        rw [this] at eU; rw [eU]
    have EW := Lib.hid eW
    have x1 : (x != T.was) = false := by rw [hxw]; simp
    have x2 : (x == T.was) = true := by rw [hxw]; simp
    clear eW hxw HU HX
    have g1 := Row.get R3
    go_upto_region 4 with fail
    clear g1
    refine start_ (n := 16) (S := fun w' => Row w' b X T) (ds := [15]) #[false, false, false, false, false, false, false, false, false, false, false, false, false, false, false, false] (by kernel_rfl) rfl rfl R3 (fun hHeld => ?_)
    refine pure_ (i := 0) (N := (some 41)) (v := ?_) (a' := ?_) #[true, false, false, false, false, false, false, false, false, false, false, false, false, false, false, false] rfl rfl (by kernel_rfl) (fun _ _ _ h => h) (Or.inl ⟨by rfl, ?_⟩) ?_ ?_
    rotate_left
    · intro w'
      go_simp
      with_reducible rfl
    rotate_left
    · simp only [Act.put, List.setIfInBounds_toArray, List.set_cons_zero, List.set_cons_succ, i64_w, i32_w]
      rfl
    refine pure_ (i := 1) (N := (some 42)) (v := ?_) (a' := ?_) #[true, true, false, false, false, false, false, false, false, false, false, false, false, false, false, false] rfl rfl (by kernel_rfl) (fun _ _ _ h => h) (Or.inl ⟨by rfl, ?_⟩) ?_ ?_
    rotate_left
    · intro w'
      go_simp
      with_reducible rfl
    rotate_left
    · simp only [Act.put, List.setIfInBounds_toArray, List.set_cons_zero, List.set_cons_succ, i64_w, i32_w]
      rfl
    refine pure_ (i := 2) (N := (some 43)) (v := ?_) (a' := ?_) #[true, true, true, false, false, false, false, false, false, false, false, false, false, false, false, false] rfl rfl (by kernel_rfl) (fun _ _ _ h => h) (Or.inl ⟨by rfl, ?_⟩) ?_ ?_
    rotate_left
    · intro w'
      go_simp
      with_reducible rfl
    rotate_left
    · simp only [Act.put, List.setIfInBounds_toArray, List.set_cons_zero, List.set_cons_succ, i64_w, i32_w]
      rfl
    refine pure_ (i := 3) (N := (some 44)) (v := ?_) (a' := ?_) #[true, true, true, true, false, false, false, false, false, false, false, false, false, false, false, false] rfl rfl (by kernel_rfl) (fun _ _ _ h => h) (Or.inl ⟨by rfl, ?_⟩) ?_ ?_
    rotate_left
    · intro w'
      go_simp
      with_reducible rfl
    rotate_left
    · simp only [Act.put, List.setIfInBounds_toArray, List.set_cons_zero, List.set_cons_succ, i64_w, i32_w]
      rfl
    refine take_ (i := 4) (N := (some 45)) (v := ?_) (a' := ?_) #[true, true, true, true, true, false, false, false, false, false, false, false, false, false, false, false] rfl rfl (by kernel_rfl) (fun _ _ _ h => h) (Or.inl ⟨by rfl, ?_⟩) hHeld ?_ ?_
    rotate_left
    · intro w' s0
      have q1 := Row.get s0
      go_simp
      with_reducible rfl
    rotate_left
    · simp only [Act.put, List.setIfInBounds_toArray, List.set_cons_zero, List.set_cons_succ, i64_w, i32_w]
      rfl
    refine pure_ (i := 5) (N := (some 46)) (v := ?_) (a' := ?_) #[true, true, true, true, true, true, false, false, false, false, false, false, false, false, false, false] rfl rfl (by kernel_rfl) (fun _ _ _ h => h) (Or.inl ⟨by rfl, ?_⟩) ?_ ?_
    rotate_left
    · intro w'
      go_simp
      with_reducible rfl
    rotate_left
    · simp only [Act.put, List.setIfInBounds_toArray, List.set_cons_zero, List.set_cons_succ, i64_w, i32_w]
      rfl
    refine pure_ (i := 6) (N := (some 47)) (v := ?_) (a' := ?_) #[true, true, true, true, true, true, true, false, false, false, false, false, false, false, false, false] rfl rfl (by kernel_rfl) (fun _ _ _ h => h) (Or.inl ⟨by rfl, ?_⟩) ?_ ?_
    rotate_left
    · intro w'
      go_simp
      with_reducible rfl
    rotate_left
    · simp only [Act.put, List.setIfInBounds_toArray, List.set_cons_zero, List.set_cons_succ, i64_w, i32_w]
      rfl
    refine pure_ (i := 7) (N := (some 48)) (v := ?_) (a' := ?_) #[true, true, true, true, true, true, true, true, false, false, false, false, false, false, false, false] rfl rfl (by kernel_rfl) (fun _ _ _ h => h) (Or.inl ⟨by rfl, ?_⟩) ?_ ?_
    rotate_left
    · intro w'
      go_simp
      with_reducible rfl
    rotate_left
    · simp only [Act.put, List.setIfInBounds_toArray, List.set_cons_zero, List.set_cons_succ, i64_w, i32_w]
      rfl
    refine pure_ (i := 8) (N := (some 49)) (v := ?_) (a' := ?_) #[true, true, true, true, true, true, true, true, true, false, false, false, false, false, false, false] rfl rfl (by kernel_rfl) (fun _ _ _ h => h) (Or.inl ⟨by rfl, ?_⟩) ?_ ?_
    rotate_left
    · intro w'
      go_simp
      with_reducible rfl
    rotate_left
    · simp only [Act.put, List.setIfInBounds_toArray, List.set_cons_zero, List.set_cons_succ, i64_w, i32_w]
      rfl
    refine take_ (i := 9) (N := (some 50)) (v := ?_) (a' := ?_) #[true, true, true, true, true, true, true, true, true, true, false, false, false, false, false, false] rfl rfl (by kernel_rfl) (fun _ _ _ h => h) (Or.inl ⟨by rfl, ?_⟩) hHeld ?_ ?_
    rotate_left
    · intro w' s0
      have q1 := Row.get s0
      go_simp
      with_reducible rfl
    rotate_left
    · simp only [Act.put, List.setIfInBounds_toArray, List.set_cons_zero, List.set_cons_succ, i64_w, i32_w]
      rfl
    refine pure_ (i := 10) (N := (some 51)) (v := ?_) (a' := ?_) #[true, true, true, true, true, true, true, true, true, true, true, false, false, false, false, false] rfl rfl (by kernel_rfl) (fun _ _ _ h => h) (Or.inl ⟨by rfl, ?_⟩) ?_ ?_
    rotate_left
    · intro w'
      go_simp
      with_reducible rfl
    rotate_left
    · simp only [Act.put, List.setIfInBounds_toArray, List.set_cons_zero, List.set_cons_succ, i64_w, i32_w]
      rfl
    refine one_ (i := 11) (N := (some 52)) #[true, true, true, true, true, true, true, true, true, true, true, true, false, false, false, false] rfl rfl (by kernel_rfl) (by decide) (fun K hK => ?_)
    refine value_ (by rfl) rfl (v := .slice (some ⟨w3.heap.size, 0, none⟩) 1 1) (w1 := w3.drew.alloc (.cells #[.int .i64 k, .int .i64 T.was] 116)) ?_ ?_
    · simp only [execOp, Sem.run_bind]
      have := run_held1 w3.drew (.int .i64 k) (.int .i64 T.was)
      have e5 : w3.drew.heap.size = w3.heap.size := rfl
      rw [e5] at this
      simp [Act.eval, this, Result.andThen_ok]
    obtain ⟨w6, hw6⟩ : ∃ w6, w3.drew.alloc (.cells #[.int .i64 k, .int .i64 T.was] 116) = w6 := ⟨_, rfl⟩
    obtain ⟨p, hp⟩ : ∃ p, w3.heap.size = p := ⟨_, rfl⟩
    have b36 : Below p w3 w6 := by rw [← hw6, ← hp]; exact (Below.refl _ w3).drew.alloc (Nat.le_refl _) _
    have n6 : w6.heap[p]? = some (.cells #[.int .i64 k, .int .i64 T.was] 116 (0, 0)) := by rw [← hw6, ← hp]; exact new_row w3.drew _ _
    rw [hw6, hp]
    have R6 : Row w6 b X T := R3.keep (b36.block b (by rw [← hp]; exact R3.lt))
    have H6 : HTold w6 base T.holds X.vh := HH5.out.kept fun j hj => b36.block j (by rw [← hp]; exact HH5.out.own_lt hj)
    have hs6 : p ≤ w6.heap.size := by have := b36.size; omega
    refine hK.out _ _ R6 (fun hHeld => ?_)
    clear hK K
    refine norm_ (a' := ?_) ?_ ?_
    rotate_left
    · show Act.put _ (some 52) _ = _
      simp only [Act.put, List.setIfInBounds_toArray, List.set_cons_zero, List.set_cons_succ, i64_w, i32_w]
      rfl
    obtain ⟨v7, w7, hr7, H7, g7, o7⟩ := append_held H6 (by rw [HHN.out]; exact hhl) (by have := D3.out.size; omega) n6
    have hl1 : (T.holds ++ [(k, T.was)]).length = hn + 1 := by simp [HHN.out]
    obtain ⟨A9, c9, hv7⟩ := H7.slice
    rw [hl1] at hv7
    subst hv7
    refine one_ (i := 12) (N := (some 53)) #[true, true, true, true, true, true, true, true, true, true, true, true, true, false, false, false] rfl rfl (by kernel_rfl) (by decide) (fun K hK => ?_)
    refine value_ (by rfl) rfl (v := .slice A9 (hn + 1) c9) (w1 := w7) ?_ ?_
    · simp only [execOp, resolve, invoke, builtin, Sem.run_bind, Sem.run_pure, Result.andThen_ok, List.map_toArray, List.map_cons, List.map_nil]
      simp [Act.eval, hr7, Result.andThen_ok]
    have R7 : Row w7 b X T := R6.keep (g7.block b R6.lt (fun e => HVB.out b e.symm rfl))
    refine hK.out _ _ R7 (fun hHeld => ?_)
    clear hK K
    refine norm_ (a' := ?_) ?_ ?_
    rotate_left
    · show Act.put _ (some 53) _ = _
      simp only [Act.put, List.setIfInBounds_toArray, List.set_cons_zero, List.set_cons_succ, i64_w, i32_w]
      rfl
    refine pure_ (i := 13) (N := (some 54)) (v := ?_) (a' := ?_) #[true, true, true, true, true, true, true, true, true, true, true, true, true, true, false, false] rfl rfl (by kernel_rfl) (fun _ _ _ h => h) (Or.inl ⟨by rfl, ?_⟩) ?_ ?_
    rotate_left
    · intro w'
      go_simp
      with_reducible rfl
    rotate_left
    · simp only [Act.put, List.setIfInBounds_toArray, List.set_cons_zero, List.set_cons_succ, i64_w, i32_w]
      rfl
    refine pure_ (i := 14) (N := (some 55)) (v := ?_) (a' := ?_) #[true, true, true, true, true, true, true, true, true, true, true, true, true, true, true, false] rfl rfl (by kernel_rfl) (fun _ _ _ h => h) (Or.inl ⟨by rfl, ?_⟩) ?_ ?_
    rotate_left
    · intro w'
      go_simp
      with_reducible rfl
    rotate_left
    · simp only [Act.put, List.setIfInBounds_toArray, List.set_cons_zero, List.set_cons_succ, i64_w, i32_w]
      rfl
    refine last_ (i := 15) (N := none) #[true, true, true, true, true, true, true, true, true, true, true, true, true, true, true, true] rfl rfl (by kernel_rfl) (by decide) (fun K hK => ?_)
    have q1 := Row.get R7
    have q2 := Row.set R7
    have q3 := Row.free R7
    refine skip_ (by rfl) rfl (w1 := ?_) ?_ ?_
    rotate_left
    · go_simp
      with_reducible rfl
    rotate_left
    refine hK.out _ _ ?_
    clear hK K
    refine done_ (by kernel_rfl) ?_
    obtain ⟨X', hX'⟩ : ∃ X' : AV, { X with vh := .slice A9 (hn + 1) c9 } = X' := ⟨_, rfl⟩
    obtain ⟨w8, hw8⟩ : ∃ w8, w7.setRow b (attRow X' T) = w8 := ⟨_, rfl⟩
    rw [hX', hw8]
    have R8 : Row w8 b X' T := by rw [← hw8]; exact R7.now
    have C78 : Chg (fun j => j = b) w7 w8 := by rw [← hw8]; exact Row.chg _
    have C8 : Hid (Chg (fun j => X.vh.ownBlock = some j ∨ j = b ∨ j = a ∨ j = g) w w8) := by
      have h1 : Chg (fun j => w.heap.size ≤ j ∨ X.vh.ownBlock = some j ∨ j = b ∨ j = a ∨ j = g) w w6 := (D3.out.mono (fun j _ h => .inr (.inr (.inr h)))).trans ((Chg.of_below b36).mono (fun j _ h => .inl (by have := D3.out.size; omega)))
      have h2 := h1.trans (Chg.grown (S := fun j => w.heap.size ≤ j ∨ X.vh.ownBlock = some j ∨ j = b ∨ j = a ∨ j = g) g7 (fun j hj => .inr (.inl hj)))
      exact (h2.trans (C78.mono (fun j _ h => .inr (.inr (.inl h))))).mono (fun j hj h => h.elim (fun h => by omega) id)
    have A8 : Hid (Ar w8 a g W' (c + cnt W k)) := by
      have h0 := A3.out.lt
      have h1 : Ar w6 a g W' (c + cnt W k) := A3.out.kept (b36.block a (by omega)) (b36.block g (by omega))
      have h2 : Ar w7 a g W' (c + cnt W k) := h1.kept (g7.block a h1.lt.1 (fun e => by have := (HVA.out a e.symm).1; exact this rfl)) (g7.block g h1.lt.2 (fun e => by have := (HVA.out g e.symm).2.1; exact this rfl))
      exact h2.after C78 hne
    have hvb : ∀ j, (Value.slice A9 (hn + 1) c9).ownBlock = some j → j ≠ b := fun j hj => by
      rcases o7 with e | e
      · rw [e] at hj; exact HVB.out j hj
      · rw [e] at hj; have := Option.some.inj hj; have := b36.size; have := R3.lt; omega
    have hvo : Hid (∀ j, (Value.slice A9 (hn + 1) c9).ownBlock = some j → X.vh.ownBlock = some j ∨ w.heap.size ≤ j) := fun j hj => by
      rcases o7 with e | e
      · rw [e] at hj; exact .inl hj
      · rw [e] at hj; have := Option.some.inj hj; have := b36.size; have := D3.out.size; exact .inr (by omega)
    have H8 : Hid (HTold w8 base (T.holds ++ [(k, T.was)]) (.slice A9 (hn + 1) c9)) := H7.kept fun j hj => C78.block j (H7.own_lt hj) (hvb j hj)
    have l1 : X'.vh = .slice A9 (hn + 1) c9 := by rw [← hX']
    have l2 : X'.vl = .slice (some ⟨gl, 0, none⟩) n cp := by rw [← hX']; exact HLL.out
    have L1 := Lib.hid l1; have L2 := Lib.hid l2
    have HVb := Lib.hid hvb
    have HX' := Lib.hid hX'
    have q1 := Row.get R8; have q2 := Row.set R8; have q3 := Row.free R8; have q4 := Row.get' R8; have q5 := Row.set' R8; have q6 := Row.free' R8
    have HR8 := Lib.hid R8
    clear hX' hw8 hHeld C78 g7 b36 H7 H6 R7 R6 R3 n6 hr7 o7 hw6 hp hl1 l1 l2 R8 hvb hs6
    obtain ⟨T2, hT2⟩ : ∃ T2 : AT, { T with phase := 4 } = T2 := ⟨_, rfl⟩
    go_upto_region 6 with fail
    try rw [hT2]
    obtain ⟨w9, hw9⟩ : ∃ w9, w8.setRow b (attRow X' T2) = w9 := ⟨_, rfl⟩
    rw [hw9]
    have R9 : Row w9 b X' T2 := by rw [← hw9]; exact HR8.out.now
    have C9 : Hid (Chg (fun j => j = b) w8 w9) := by rw [← hw9]; exact Row.chg _
    have HT2 := Lib.hid hT2
    have l1 := L1.out; have l2 := L2.out
    clear hT2 hw9 q1 q2 q3 q4 q5 q6
    refine start_ (n := 11) (S := fun w' => Row w' b X' T2) (ds := []) #[false, false, false, false, false, false, false, false, false, false, false] (by kernel_rfl) rfl rfl R9 (fun hHeld => ?_)
    refine pure_ (i := 0) (N := (some 59)) (v := ?_) (a' := ?_) #[true, false, false, false, false, false, false, false, false, false, false] rfl rfl (by kernel_rfl) (fun _ _ _ h => h) (Or.inl ⟨by rfl, ?_⟩) ?_ ?_
    rotate_left
    · intro w'
      go_simp
      with_reducible rfl
    rotate_left
    · simp only [Act.put, List.setIfInBounds_toArray, List.set_cons_zero, List.set_cons_succ, i64_w, i32_w]
      rfl
    refine pure_ (i := 1) (N := (some 60)) (v := ?_) (a' := ?_) #[true, true, false, false, false, false, false, false, false, false, false] rfl rfl (by kernel_rfl) (fun _ _ _ h => h) (Or.inl ⟨by rfl, ?_⟩) ?_ ?_
    rotate_left
    · intro w'
      go_simp
      with_reducible rfl
    rotate_left
    · simp only [Act.put, List.setIfInBounds_toArray, List.set_cons_zero, List.set_cons_succ, i64_w, i32_w]
      rfl
    refine pure_ (i := 2) (N := (some 61)) (v := ?_) (a' := ?_) #[true, true, true, false, false, false, false, false, false, false, false] rfl rfl (by kernel_rfl) (fun _ _ _ h => h) (Or.inl ⟨by rfl, ?_⟩) ?_ ?_
    rotate_left
    · intro w'
      go_simp
      with_reducible rfl
    rotate_left
    · simp only [Act.put, List.setIfInBounds_toArray, List.set_cons_zero, List.set_cons_succ, i64_w, i32_w]
      rfl
    refine take_ (i := 3) (N := (some 62)) (v := ?_) (a' := ?_) #[true, true, true, true, false, false, false, false, false, false, false] rfl rfl (by kernel_rfl) (fun _ _ _ h => h) (Or.inl ⟨by rfl, ?_⟩) hHeld ?_ ?_
    rotate_left
    · intro w' s0
      have q1 := Row.get s0
      go_simp
      with_reducible rfl
    rotate_left
    · simp only [Act.put, List.setIfInBounds_toArray, List.set_cons_zero, List.set_cons_succ, i64_w, i32_w]
      rfl
    refine pure_ (i := 4) (N := (some 63)) (v := ?_) (a' := ?_) #[true, true, true, true, true, false, false, false, false, false, false] rfl rfl (by kernel_rfl) (fun _ _ _ h => h) (Or.inl ⟨by rfl, ?_⟩) ?_ ?_
    rotate_left
    · intro w'
      go_simp
      with_reducible rfl
    rotate_left
    · simp only [Act.put, List.setIfInBounds_toArray, List.set_cons_zero, List.set_cons_succ, i64_w, i32_w]
      rfl
    refine pure_ (i := 5) (N := (some 64)) (v := ?_) (a' := ?_) #[true, true, true, true, true, true, false, false, false, false, false] rfl rfl (by kernel_rfl) (fun _ _ _ h => h) (Or.inl ⟨by rfl, ?_⟩) ?_ ?_
    rotate_left
    · intro w'
      go_simp
      with_reducible rfl
    rotate_left
    · simp only [Act.put, List.setIfInBounds_toArray, List.set_cons_zero, List.set_cons_succ, i64_w, i32_w]
      rfl
    refine pure_ (i := 6) (N := (some 65)) (v := ?_) (a' := ?_) #[true, true, true, true, true, true, true, false, false, false, false] rfl rfl (by kernel_rfl) (fun _ _ _ h => h) (Or.inl ⟨by rfl, ?_⟩) ?_ ?_
    rotate_left
    · intro w'
      go_simp
      with_reducible rfl
    rotate_left
    · simp only [Act.put, List.setIfInBounds_toArray, List.set_cons_zero, List.set_cons_succ, i64_w, i32_w]
      rfl
    refine pure_ (i := 7) (N := (some 66)) (v := ?_) (a' := ?_) #[true, true, true, true, true, true, true, true, false, false, false] rfl rfl (by kernel_rfl) (fun _ _ _ h => h) (Or.inl ⟨by rfl, ?_⟩) ?_ ?_
    rotate_left
    · intro w'
      go_simp
      with_reducible rfl
    rotate_left
    · simp only [Act.put, List.setIfInBounds_toArray, List.set_cons_zero, List.set_cons_succ, i64_w, i32_w]
      rfl
    refine take_ (i := 8) (N := (some 67)) (v := ?_) (a' := ?_) #[true, true, true, true, true, true, true, true, true, false, false] rfl rfl (by kernel_rfl) (fun _ _ _ h => h) (Or.inl ⟨by rfl, ?_⟩) hHeld ?_ ?_
    rotate_left
    · intro w' s0
      have q1 := Row.get s0
      go_simp
      with_reducible rfl
    rotate_left
    · simp only [Act.put, List.setIfInBounds_toArray, List.set_cons_zero, List.set_cons_succ, i64_w, i32_w]
      rfl
    refine pure_ (i := 9) (N := (some 68)) (v := ?_) (a' := ?_) #[true, true, true, true, true, true, true, true, true, true, false] rfl rfl (by kernel_rfl) (fun _ _ _ h => h) (Or.inl ⟨by rfl, ?_⟩) ?_ ?_
    rotate_left
    · intro w'
      go_simp
      with_reducible rfl
    rotate_left
    · simp only [Act.put, List.setIfInBounds_toArray, List.set_cons_zero, List.set_cons_succ, i64_w, i32_w]
      rfl
    refine pure_ (i := 10) (N := (some 69)) (v := ?_) (a' := ?_) #[true, true, true, true, true, true, true, true, true, true, true] rfl rfl (by kernel_rfl) (fun _ _ _ h => h) (Or.inl ⟨by rfl, ?_⟩) ?_ ?_
    rotate_left
    · intro w'
      go_simp
      with_reducible rfl
    rotate_left
    · simp only [Act.put, List.setIfInBounds_toArray, List.set_cons_zero, List.set_cons_succ, i64_w, i32_w]
      rfl
    refine done_ (by kernel_rfl) ?_
    obtain ⟨w10, hw10⟩ : ∃ w10, w9.drew = w10 := ⟨_, rfl⟩
    have R10 : Row w10 b X' T2 := by rw [← hw10]; exact R9
    have C10 : Hid (Chg (fun j => j = b) w8 w10) := by rw [← hw10]; exact C9.out.trans (Chg.drew _ _)
    rw [hw10]
    have q1 := Row.get R10; have q2 := Row.set R10; have q3 := Row.free R10; have q4 := Row.get' R10; have q5 := Row.set' R10; have q6 := Row.free' R10
    have HR10 := Lib.hid R10
    have KEY : Hid (∀ w11, Chg (fun j => j = b) w10 w11 → Row w11 b X' (grabs T W).1 → GrabsOut w b a g base X T W c k (.returned (.tuple #[])) w11) := fun w11 hc11 hr11 => by
      have hc := C10.out.trans hc11
      refine ⟨rfl, ⟨X', hr11, .inr ⟨_, HX'.out.symm, ?_, hvo.out⟩⟩, by rw [EW.out]; exact A8.out.after hc hne, C8.out.trans (hc.mono (fun _ _ h => .inr (.inl h)))⟩
      rw [EW.out]
      exact H8.out.kept fun j hj => hc.block j (H8.out.own_lt hj) (HVb.out j hj)
    clear hw10 R10 R9 hHeld C9 C10 l1 l2
    by_cases hd : hn + 1 = n
    · have E1 : Hid (attRow X' { T2 with phase := 6 } = attRow X' (grabs T W).1) := by rw [Hid, EW.out, ← HLN.out, if_pos hd, ← HT2.out]; rfl
      have d1 : (((hn : Int) + 1) == (n : Int)) = true := by rw [beq_iff_eq]; omega
      have d2 : decide (hn + 1 = n) = true := by simpa using hd
      clear hd
      go_wp2
      go_end0
      exact KEY.out _ (Row.chg _) (by rw [E1.out]; exact HR10.out.now)
    · have E1 : Hid (attRow X' T2 = attRow X' (grabs T W).1) := by rw [Hid, EW.out, ← HLN.out, if_neg hd, ← HT2.out]; rfl
      have d1 : (((hn : Int) + 1) == (n : Int)) = false := by rw [beq_eq_false_iff_ne]; omega
      have d2 : decide (hn + 1 = n) = false := by simpa using hd
      clear hd
      go_wp2
      go_end0
      exact KEY.out _ (Chg.refl _ _) (by unfold Row; rw [← E1.out]; exact HR10.out)
  · have eW : grabs T W = (giveUp T 2, W') := by
      unfold grabs
      simp only [HK.out, HX.out]
      have eU := HU.out
      rw [if_neg hxw] at eU
      rw [if_neg (fun e => hxw e.1), if_neg hxw, eU]
    have EW := Lib.hid eW
    have x1 : (x != T.was) = true := by rw [bne_iff_ne]; exact hxw
    have x2 : (x == T.was) = false := by rw [beq_eq_false_iff_ne]; exact hxw
    have GU := Lib.hid (giveUp_any R3 (A := Ah) (cp := ch) (by rw [HHN.out]; exact HVV.out) 2)
    have GH : Hid ((giveUp T 2).holds = T.holds) := by unfold giveUp; split <;> rfl
    have g1 := Row.get R3
    clear eW hxw HU HX R3
    go_wp2_with (first
      | (go_at_call 81; refine GU.out.mono ?_; rintro e w5 ⟨rfl, hr, hc5⟩))
    have FIN : Hid (GrabsOut w b a g base X T W c k (.returned (.tuple #[])) w5) := by
      refine ⟨rfl, ⟨X, by rw [EW.out]; exact hr, .inl ⟨rfl, by rw [EW.out]; exact GH.out, (D3.out.mono (fun _ _ h => .inr h)).trans (hc5.mono (fun _ _ h => .inl h))⟩⟩, by rw [EW.out]; exact A3.out.after hc5 hne, (D3.out.mono (fun _ _ h => .inr (.inr h))).trans (hc5.mono (fun _ _ h => .inr (.inl h)))⟩
    refine bodyPost_ret (results_none rfl _ _ _) rfl ?_
    exact FIN.out

end Att
end Go.Proofs.YthojgahcpkdemaaGreat

/- an attempt in memory, whole: its block, and the rows that it owns -/
namespace Go.Proofs.YthojgahcpkdemaaGreat
open Go.RowKit Go.Bas View VIn IMap_
open Go.ChangeShapes
namespace Att

/-- the blocks of its rows -/
def OwnB (X : AV) (k : Nat) : Prop := X.vr.ownBlock = some k ∨ X.vw.ownBlock = some k ∨ X.vl.ownBlock = some k ∨ X.vh.ownBlock = some k ∨ X.vc.ownBlock = some k
structure IsAtt (w : World) (b base : Nat) (X : AV) (T : AT) : Prop where
  row : Row w b X T
  vr : View.Told w base T.reads X.vr
  vw : View.Told w base T.writes X.vw
  vl : TW w base T.locks X.vl
  vh : HTold w base T.holds X.vh
  vc : TW w base T.checks X.vc
  /-- what is appended to is nobody else's -/
  apr : ∀ k, X.vr.ownBlock = some k → X.vw.ownBlock ≠ some k ∧ X.vl.ownBlock ≠ some k ∧ X.vh.ownBlock ≠ some k ∧ X.vc.ownBlock ≠ some k
  aph : ∀ k, X.vh.ownBlock = some k → X.vr.ownBlock ≠ some k ∧ X.vw.ownBlock ≠ some k ∧ X.vl.ownBlock ≠ some k ∧ X.vc.ownBlock ≠ some k
  nb : ∀ k, OwnB X k → k ≠ b
theorem IsAtt.own_lt {w : World} {b base : Nat} {X : AV} {T : AT} (h : IsAtt w b base X T) {k : Nat} (hk : OwnB X k) : base ≤ k ∧ k < w.heap.size := by
  rcases hk with e | e | e | e | e
  · exact ⟨h.vr.block e, h.vr.own_lt e⟩
  · exact ⟨h.vw.block e, h.vw.own_lt e⟩
  · exact ⟨h.vl.block e, h.vl.own_lt e⟩
  · exact ⟨h.vh.block e, h.vh.own_lt e⟩
  · exact ⟨h.vc.block e, h.vc.own_lt e⟩
/-- it depends on its own blocks alone -/
theorem IsAtt.keep {w w' : World} {b base : Nat} {X : AV} {T : AT} (h : IsAtt w b base X T) (hb : w'.heap[b]? = w.heap[b]?) (ho : ∀ k, OwnB X k → w'.heap[k]? = w.heap[k]?) : IsAtt w' b base X T :=
  ⟨h.row.keep hb, h.vr.kept fun k e => ho k (.inl e), h.vw.kept fun k e => ho k (.inr (.inl e)), h.vl.kept fun k e => ho k (.inr (.inr (.inl e))), h.vh.kept fun k e => ho k (.inr (.inr (.inr (.inl e)))), h.vc.kept fun k e => ho k (.inr (.inr (.inr (.inr e)))), h.apr, h.aph, h.nb⟩
theorem IsAtt.chg {w w' : World} {b base : Nat} {X : AV} {T : AT} {S : Nat → Prop} (h : IsAtt w b base X T) (hc : Chg S w w') (hb : ¬ S b) (ho : ∀ k, OwnB X k → ¬ S k) : IsAtt w' b base X T :=
  h.keep (hc.block b h.row.lt hb) fun k hk => hc.block k (h.own_lt hk).2 (ho k hk)

theorem IsAtt.same {w w' : World} {b base : Nat} {X : AV} {T T' : AT} (h : IsAtt w b base X T) (hr : Row w' b X T') (hc : Chg (fun k => k = b) w w') (e1 : T'.reads = T.reads) (e2 : T'.writes = T.writes) (e3 : T'.locks = T.locks) (e4 : T'.holds = T.holds) (e5 : T'.checks = T.checks) : IsAtt w' b base X T' := by
  have hk : ∀ j, OwnB X j → w'.heap[j]? = w.heap[j]? := fun j hj => hc.block j (h.own_lt hj).2 (h.nb j hj)
  refine ⟨hr, ?_, ?_, ?_, ?_, ?_, h.apr, h.aph, h.nb⟩
  · rw [e1]; exact h.vr.kept fun j e => hk j (.inl e)
  · rw [e2]; exact h.vw.kept fun j e => hk j (.inr (.inl e))
  · rw [e3]; exact h.vl.kept fun j e => hk j (.inr (.inr (.inl e)))
  · rw [e4]; exact h.vh.kept fun j e => hk j (.inr (.inr (.inr (.inl e))))
  · rw [e5]; exact h.vc.kept fun j e => hk j (.inr (.inr (.inr (.inr e))))

/-- what it will write is known, and the locks of that -/
theorem IsAtt.plan {w w' : World} {b base B : Nat} {X : AV} {T T' : AT} (h : IsAtt w b base X T) {vw vl : Value} (hr : Row w' b { X with vw := vw, vl := vl } T') (hc : Chg (fun k => k = b) w w') (hB : w.heap.size ≤ B) (hb : base ≤ B)
    (h2 : View.Told w' B T'.writes vw) (h3 : TW w' B T'.locks vl) (e1 : T'.reads = T.reads) (e4 : T'.holds = T.holds) (e5 : T'.checks = T.checks) :
    IsAtt w' b base { X with vw := vw, vl := vl } T' ∧ ∀ k, OwnB { X with vw := vw, vl := vl } k → OwnB X k ∨ w.heap.size ≤ k := by
  have hk : ∀ j, OwnB X j → w'.heap[j]? = w.heap[j]? := fun j hj => hc.block j (h.own_lt hj).2 (h.nb j hj)
  have hbl := h.row.lt
  have nw : ∀ k, vw.ownBlock = some k → w.heap.size ≤ k := fun k e => by have := h2.block e; omega
  have nl : ∀ k, vl.ownBlock = some k → w.heap.size ≤ k := fun k e => by have := h3.block e; omega
  refine ⟨⟨hr, ?_, h2.low hb, h3.low hb, ?_, ?_, fun j hj => ?_, fun j hj => ?_, fun j hj => ?_⟩, fun j hj => ?_⟩
  · rw [e1]; exact h.vr.kept fun j e => hk j (.inl e)
  · rw [e4]; exact h.vh.kept fun j e => hk j (.inr (.inr (.inr (.inl e))))
  · rw [e5]; exact h.vc.kept fun j e => hk j (.inr (.inr (.inr (.inr e))))
  · have hj : X.vr.ownBlock = some j := hj
    have := (h.own_lt (.inl hj)).2
    have a := h.apr j hj
    exact ⟨fun e => by have := nw j e; omega, fun e => by have := nl j e; omega, a.2.2.1, a.2.2.2⟩
  · have hj : X.vh.ownBlock = some j := hj
    have := (h.own_lt (.inr (.inr (.inr (.inl hj))))).2
    have a := h.aph j hj
    exact ⟨a.1, fun e => by have := nw j e; omega, fun e => by have := nl j e; omega, a.2.2.2⟩
  · rcases hj with e | e | e | e | e
    · exact h.nb j (.inl e)
    · have := nw j e; omega
    · have := nl j e; omega
    · exact h.nb j (.inr (.inr (.inr (.inl e))))
    · exact h.nb j (.inr (.inr (.inr (.inr e))))
  · rcases hj with e | e | e | e | e
    · exact .inl (.inl e)
    · exact .inr (nw j e)
    · exact .inr (nl j e)
    · exact .inl (.inr (.inr (.inr (.inl e))))
    · exact .inl (.inr (.inr (.inr (.inr e))))

/-- what a program's run tells -/
def RunTells (r : Int × M) (w : World) (e : Ending) (w' : World) : Prop :=
  ((r.1 = -1 ∧ ∃ v, e = .returned (.tuple #[.int .i64 (-1), v]) ∧ View.Told w' w.heap.size r.2 v ∧ PIn r.2) ∨ (0 ≤ r.1 ∧ r.1 ≤ 9223372036854775807 ∧ e = .returned (.tuple #[.int .i64 r.1, .slice none 0 0]))) ∧ Below w.heap.size w w'
theorem RunTells.one {r : Int × M} {w w' : World} {e : Ending} (h : RunTells r w e w') : ∃ v, e = .returned (.tuple #[.int .i64 r.1, v]) ∧ Below w.heap.size w w' ∧ ((r.1 = -1 ∧ View.Told w' w.heap.size r.2 v ∧ PIn r.2) ∨ (0 ≤ r.1 ∧ r.1 ≤ 9223372036854775807 ∧ v = .slice none 0 0)) := by
  obtain ⟨⟨h1, v, rfl, h2, h3⟩ | ⟨h1, h2, rfl⟩, hb⟩ := h
  · exact ⟨v, by rw [h1], hb, .inl ⟨h1, h2, h3⟩⟩
  · exact ⟨_, rfl, hb, .inr ⟨h1, h2, rfl⟩⟩
/-- what it makes of what was read, wherever its own blocks are as they were -/
def Runs (w : World) (S : Nat → Prop) (prog : Value) (run : M → Int × M) : Prop :=
  ∀ w', (∀ k, S k → w'.heap[k]? = w.heap[k]?) → ∀ s l, Pairs w' w'.heap.size s l → PIn l → l.length ≤ 1000 → Calls Tryz.prog 79 #[s, prog] w' (RunTells (run l) w')
theorem Runs.keep {w w' : World} {S : Nat → Prop} {prog : Value} {run : M → Int × M} (h : Runs w S prog run) (hs : ∀ k, S k → w'.heap[k]? = w.heap[k]?) : Runs w' S prog run :=
  fun w2 h2 => h w2 fun k hk => (h2 k hk).trans (hs k hk)

/-- what a step leaves -/
def StepOut (w : World) (b base a g : Nat) (X : AV) (T' : AT) (W' : List Int) (c' : Int) (e : Ending) (w' : World) : Prop :=
  e = .returned (.tuple #[]) ∧ (∃ X', IsAtt w' b base X' T' ∧ (∀ k, OwnB X' k → OwnB X k ∨ w.heap.size ≤ k) ∧ X'.c = X.c ∧ X'.a = X.a ∧ X'.prog = X.prog) ∧ Ar w' a g W' c' ∧ Chg (fun k => OwnB X k ∨ k = b ∨ k = a ∨ k = g) w w'

end Att
end Go.Proofs.YthojgahcpkdemaaGreat

/- an attempt confirms what it has read, and goes on with its program -/
namespace Go.Proofs.YthojgahcpkdemaaGreat
open Go.RowKit Go.Bas View VIn IMap_
open Go.ChangeShapes
open Go.Proofs.YthojgahcpkdemaaGreatW.PrintLast
namespace Att

theorem att_need (X : AV) (T : AT) : ∀ j v, ([.int .i64 T.na, .int .i64 T.nv] : List Value)[j]? = some v → (attRow X T)[29 + j]? = some v := by
  rintro (_ | _ | j) v h <;> simp at h <;> subst h <;> rfl

theorem pairs_tail {w : World} {B g n c : Nat} {L : M} (h : Pairs w B (.slice (some ⟨g, 0, none⟩) (n + 1) c) L) (hL : L.length = n + 1) (hc : n + 1 ≤ c) : Pairs w B (.slice (if c = 1 then some ⟨g, 0, none⟩ else some ⟨g, 2, none⟩) n (c - 1)) L.tail := by
  obtain ⟨A', c', e, hm, hcl⟩ := h
  obtain ⟨b, off, e1, hlt, hcl2⟩ := hcl (by omega)
  injection e with e2 e3 e4
  subst e1
  injection e2 with e2
  injection e2 with e5 e6
  subst e4 e5 e6
  have ht : L.tail.length = n := by rw [List.length_tail, hL]; rfl
  refine ⟨_, c - 1, by rw [ht], by omega, fun h0 => ?_⟩
  rw [if_neg (by omega)]
  refine ⟨g, 2, rfl, hlt, fun i hi => ?_⟩
  have := hcl2 (i + 1) (by omega)
  rw [List.getElem_tail]
  rw [Nat.zero_add, show (i + 1) * 2 = 2 + i * 2 by omega] at this
  exact this
theorem told_cap {w : World} {base : Nat} {m : M} {A : Option Addr} {n c : Nat} (h : View.Told w base m (.slice A n c)) : n ≤ c := by
  obtain ⟨A', c', e, hown⟩ := h
  injection e with e1 e2 e3
  subst e1 e2 e3
  rcases hown.2 with ⟨h1, h2⟩ | ⟨g, cp, cur, hv, hg, hh, hn, r⟩
  · omega
  · injection hv with _ _ e3
    omega

set_option maxRecDepth 100000 in
set_option maxHeartbeats 2000000 in
theorem confirms_any {w : World} {b base : Nat} {X : AV} {T : AT} {a g : Nat} {W : List Int} {c : Int} (I : IsAtt w b base X T) (hA : Ar w a g W c) (hc : 0 ≤ c ∧ c < 4611686018427387904) (hne : b ≠ a ∧ b ≠ g) (hoa : ∀ k, OwnB X k → k ≠ a ∧ k ≠ g) (hbase : base ≤ w.heap.size)
    {run : M → Int × M} (fine : 1 ≤ X.c.stripes ∧ X.c.stripes ≤ 1048576) {S : Nat → Prop} (hS : ∀ k, S k → k < w.heap.size ∧ ¬ OwnB X k ∧ k ≠ b ∧ k ≠ a ∧ k ≠ g) (hrun : Runs w S X.prog run)
    (hrl : T.reads.length ≤ 900) (hPI : PIn T.reads) (hna : In64 T.na) (hnv : In64 T.nv) (hml : ∀ l, (run l).2.length ≤ 10000) :
    Calls Tryz.prog 66 #[.pointer (some ⟨b, 0, none⟩), .pointer (some ⟨a, 0, none⟩)] w (StepOut w b base a g X (confirms (env X.c X.a run) T W) W (c + cnt W (lock (env X.c X.a run) T.na))) := by
  have hbl := I.row.lt
  have HH := Lib.hid I.row
  have HI := Lib.hid I
  have HA := Lib.hid hA
  have HOA := Lib.hid hoa
  obtain ⟨k, hk⟩ : ∃ k, lock (env X.c X.a run) T.na = k := ⟨_, rfl⟩
  have LK : Hid (∀ w, Calls Tryz.prog 78 #[.agg (Lay.lay X.c X.a), .int .i64 T.na] w fun e w' => e = .returned (.int .i64 k) ∧ Below w.heap.size w w') := fun w => by rw [← hk]; exact lock_of X.c X.a run fine T.na hna.2 w
  have HK := Lib.hid hk
  rw [hk]
  obtain ⟨x, hx⟩ : ∃ x, ld W k = x := ⟨_, rfl⟩
  have HX := Lib.hid hx
  obtain ⟨rn, hrn⟩ : ∃ rn, T.reads.length = rn := ⟨_, rfl⟩
  have HRN := Lib.hid hrn
  rw [hrn] at hrl
  have HPI := Lib.hid hPI
  have HRUN := Lib.hid hrun
  have HS := Lib.hid hS
  have HNA := Lib.hid hna
  have HNV := Lib.hid hnv
  have HML0 := Lib.hid hml
  clear I hA hoa hk hx hrn hPI hrun hS hna hnv hml
  go_enter Tryz.func66, Tryz.ntmps66
  go_wp2
  refine start_ (n := 17) (S := fun w' => Row w' b X T) (ds := []) #[false, false, false, false, false, false, false, false, false, false, false, false, false, false, false, false, false] (by kernel_rfl) rfl rfl HH.out (fun hHeld => ?_)
  refine pure_ (i := 0) (N := (some 9)) (v := ?_) (a' := ?_) #[true, false, false, false, false, false, false, false, false, false, false, false, false, false, false, false, false] rfl rfl (by kernel_rfl) (fun _ _ _ h => h) (Or.inl ⟨by rfl, ?_⟩) ?_ ?_
  rotate_left
  · intro w'
    go_simp
    with_reducible rfl
  rotate_left
  · simp only [Act.put, List.setIfInBounds_toArray, List.set_cons_zero, List.set_cons_succ, i64_w, i32_w]
    rfl
  refine pure_ (i := 1) (N := (some 10)) (v := ?_) (a' := ?_) #[true, true, false, false, false, false, false, false, false, false, false, false, false, false, false, false, false] rfl rfl (by kernel_rfl) (fun _ _ _ h => h) (Or.inl ⟨by rfl, ?_⟩) ?_ ?_
  rotate_left
  · intro w'
    go_simp
    with_reducible rfl
  rotate_left
  · simp only [Act.put, List.setIfInBounds_toArray, List.set_cons_zero, List.set_cons_succ, i64_w, i32_w]
    rfl
  refine pure_ (i := 2) (N := (some 11)) (v := ?_) (a' := ?_) #[true, true, true, false, false, false, false, false, false, false, false, false, false, false, false, false, false] rfl rfl (by kernel_rfl) (fun _ _ _ h => h) (Or.inl ⟨by rfl, ?_⟩) ?_ ?_
  rotate_left
  · intro w'
    go_simp
    with_reducible rfl
  rotate_left
  · simp only [Act.put, List.setIfInBounds_toArray, List.set_cons_zero, List.set_cons_succ, i64_w, i32_w]
    rfl
  refine pure_ (i := 3) (N := (some 12)) (v := ?_) (a' := ?_) #[true, true, true, true, false, false, false, false, false, false, false, false, false, false, false, false, false] rfl rfl (by kernel_rfl) (fun _ _ _ h => h) (Or.inl ⟨by rfl, ?_⟩) ?_ ?_
  rotate_left
  · intro w'
    go_simp
    with_reducible rfl
  rotate_left
  · simp only [Act.put, List.setIfInBounds_toArray, List.set_cons_zero, List.set_cons_succ, i64_w, i32_w]
    rfl
  refine take_ (i := 4) (N := (some 13)) (v := .agg (Lay.lay X.c X.a).toList.toArray) (a' := ?_) #[true, true, true, true, true, false, false, false, false, false, false, false, false, false, false, false, false] rfl rfl (by kernel_rfl) (fun _ _ _ h => h) (by exact yieldsIf_load_mid rfl 29 _ rfl b 0 rfl (Lay.lay X.c X.a).toList _ (fun w' s0 => row_range (s0) 0 _ (att_lay X _)) Tryz.underlying29 rfl (Lay.lay_size X.c X.a)) hHeld ?_ ?_
  rotate_left
  · simp only [Act.put, List.setIfInBounds_toArray, List.set_cons_zero, List.set_cons_succ, i64_w, i32_w]
    rfl
  refine pure_ (i := 5) (N := (some 14)) (v := ?_) (a' := ?_) #[true, true, true, true, true, true, false, false, false, false, false, false, false, false, false, false, false] rfl rfl (by kernel_rfl) (fun _ _ _ h => h) (Or.inl ⟨by rfl, ?_⟩) ?_ ?_
  rotate_left
  · intro w'
    go_simp
    with_reducible rfl
  rotate_left
  · simp only [Act.put, List.setIfInBounds_toArray, List.set_cons_zero, List.set_cons_succ, i64_w, i32_w]
    rfl
  refine pure_ (i := 6) (N := (some 15)) (v := ?_) (a' := ?_) #[true, true, true, true, true, true, true, false, false, false, false, false, false, false, false, false, false] rfl rfl (by kernel_rfl) (fun _ _ _ h => h) (Or.inl ⟨by rfl, ?_⟩) ?_ ?_
  rotate_left
  · intro w'
    go_simp
    with_reducible rfl
  rotate_left
  · simp only [Act.put, List.setIfInBounds_toArray, List.set_cons_zero, List.set_cons_succ, i64_w, i32_w]
    rfl
  refine pure_ (i := 7) (N := (some 16)) (v := ?_) (a' := ?_) #[true, true, true, true, true, true, true, true, false, false, false, false, false, false, false, false, false] rfl rfl (by kernel_rfl) (fun _ _ _ h => h) (Or.inl ⟨by rfl, ?_⟩) ?_ ?_
  rotate_left
  · intro w'
    go_simp
    with_reducible rfl
  rotate_left
  · simp only [Act.put, List.setIfInBounds_toArray, List.set_cons_zero, List.set_cons_succ, i64_w, i32_w]
    rfl
  refine pure_ (i := 8) (N := (some 17)) (v := ?_) (a' := ?_) #[true, true, true, true, true, true, true, true, true, false, false, false, false, false, false, false, false] rfl rfl (by kernel_rfl) (fun _ _ _ h => h) (Or.inl ⟨by rfl, ?_⟩) ?_ ?_
  rotate_left
  · intro w'
    go_simp
    with_reducible rfl
  rotate_left
  · simp only [Act.put, List.setIfInBounds_toArray, List.set_cons_zero, List.set_cons_succ, i64_w, i32_w]
    rfl
  refine take_ (i := 9) (N := (some 18)) (v := ?_) (a' := ?_) #[true, true, true, true, true, true, true, true, true, true, false, false, false, false, false, false, false] rfl rfl (by kernel_rfl) (fun _ _ _ h => h) (Or.inl ⟨by rfl, ?_⟩) hHeld ?_ ?_
  rotate_left
  · intro w' s0
    have q1 := Row.get s0
    go_simp
    with_reducible rfl
  rotate_left
  · simp only [Act.put, List.setIfInBounds_toArray, List.set_cons_zero, List.set_cons_succ, i64_w, i32_w]
    rfl
  refine one_ (i := 10) (N := (some 19)) #[true, true, true, true, true, true, true, true, true, true, true, false, false, false, false, false, false] rfl rfl (by kernel_rfl) (by decide) (fun K hK => ?_)
  refine goes_ Tryz.func78 (by kernel_rfl) rfl #[.agg (Lay.lay X.c X.a), .int .i64 T.na] (by rfl) rfl rfl (by first | rfl | (simp [Act.eval]; done) | (go_simp; done)) ?_
  refine (LK.out w.drew).mono ?_
  rintro e w1 ⟨rfl, hb1⟩
  have b01 : Below w.heap.size w w1 := (show Below w.heap.size w w.drew from (Below.refl _ _).drew).trans hb1
  have R1 : Row w1 b X T := HH.out.keep (b01.block b hbl)
  have A1 : Hid (Ar w1 a g W c) := HA.out.below b01
  have B01 := Lib.hid b01
  clear b01 hb1
  refine ⟨_, rfl, ?_⟩
  refine hK.out _ _ R1 (fun hHeld => ?_)
  clear hK K
  refine norm_ (a' := ?_) ?_ ?_
  rotate_left
  · show Act.put _ (some 19) _ = _
    simp only [Act.put, List.setIfInBounds_toArray, List.set_cons_zero, List.set_cons_succ, i64_w, i32_w]
    rfl
  refine one_ (i := 11) (N := (some 20)) #[true, true, true, true, true, true, true, true, true, true, true, true, false, false, false, false, false] rfl rfl (by kernel_rfl) (by decide) (fun K hK => ?_)
  refine goes_ Tryz.func19 (by kernel_rfl) rfl #[.pointer (some ⟨a, 0, none⟩), .int .i64 k] (by rfl) rfl rfl (by first | rfl | (simp [Act.eval]; done) | (go_simp; done)) ?_
  refine (load_any A1.out hc k).mono ?_
  rintro e w2 ⟨rfl, ha2, hc2⟩
  rw [HX.out]
  have R2 : Row w2 b X T := R1.keep (hc2.block b R1.lt (fun h => h.elim hne.1 hne.2))
  have A2 := Lib.hid ha2
  have C2 := Lib.hid hc2
  clear ha2 hc2
  refine ⟨_, rfl, ?_⟩
  refine hK.out _ _ R2 (fun hHeld => ?_)
  clear hK K
  refine norm_ (a' := ?_) ?_ ?_
  rotate_left
  · show Act.put _ (some 20) _ = _
    simp only [Act.put, List.setIfInBounds_toArray, List.set_cons_zero, List.set_cons_succ, i64_w, i32_w]
    rfl
  refine pure_ (i := 12) (N := (some 8)) (v := ?_) (a' := ?_) #[true, true, true, true, true, true, true, true, true, true, true, true, true, false, false, false, false] rfl rfl (by kernel_rfl) (fun _ _ _ h => h) (Or.inl ⟨by rfl, ?_⟩) ?_ ?_
  rotate_left
  · intro w'
    go_simp
    with_reducible rfl
  rotate_left
  · simp only [Act.put, List.setIfInBounds_toArray, List.set_cons_zero, List.set_cons_succ, i64_w, i32_w]
    rfl
  refine pure_ (i := 13) (N := (some 21)) (v := ?_) (a' := ?_) #[true, true, true, true, true, true, true, true, true, true, true, true, true, true, false, false, false] rfl rfl (by kernel_rfl) (fun _ _ _ h => h) (Or.inl ⟨by rfl, ?_⟩) ?_ ?_
  rotate_left
  · intro w'
    go_simp
    with_reducible rfl
  rotate_left
  · simp only [Act.put, List.setIfInBounds_toArray, List.set_cons_zero, List.set_cons_succ, i64_w, i32_w]
    rfl
  refine pure_ (i := 14) (N := (some 22)) (v := ?_) (a' := ?_) #[true, true, true, true, true, true, true, true, true, true, true, true, true, true, true, false, false] rfl rfl (by kernel_rfl) (fun _ _ _ h => h) (Or.inl ⟨by rfl, ?_⟩) ?_ ?_
  rotate_left
  · intro w'
    go_simp
    with_reducible rfl
  rotate_left
  · simp only [Act.put, List.setIfInBounds_toArray, List.set_cons_zero, List.set_cons_succ, i64_w, i32_w]
    rfl
  refine pure_ (i := 15) (N := (some 4)) (v := ?_) (a' := ?_) #[true, true, true, true, true, true, true, true, true, true, true, true, true, true, true, true, false] rfl rfl (by kernel_rfl) (fun _ _ _ h => h) (Or.inl ⟨by rfl, ?_⟩) ?_ ?_
  rotate_left
  · intro w'
    go_simp
    with_reducible rfl
  rotate_left
  · simp only [Act.put, List.setIfInBounds_toArray, List.set_cons_zero, List.set_cons_succ, i64_w, i32_w]
    rfl
  refine pure_ (i := 16) (N := (some 5)) (v := ?_) (a' := ?_) #[true, true, true, true, true, true, true, true, true, true, true, true, true, true, true, true, true] rfl rfl (by kernel_rfl) (fun _ _ _ h => h) (Or.inl ⟨by rfl, ?_⟩) ?_ ?_
  rotate_left
  · intro w'
    go_simp
    with_reducible rfl
  rotate_left
  · simp only [Act.put, List.setIfInBounds_toArray, List.set_cons_zero, List.set_cons_succ, i64_w, i32_w]
    rfl
  refine done_ (by kernel_rfl) ?_
  have D2 : Hid (Chg (fun j => j = a ∨ j = g) w w2) := ((Chg.of_below B01.out).mono (fun j h1 h2 => by omega)).trans C2.out
  have I2 : Hid (IsAtt w2 b base X T) := HI.out.chg D2.out (fun h => h.elim hne.1 hne.2) (fun j hj h => by have := HOA.out j hj; omega)
  have HR2 := Lib.hid I2.out.vr
  have q1 := Row.get R2
  clear hHeld B01 C2 A1 R1
  by_cases hxw : x = T.was
  rotate_left
  · have eW : confirms (env X.c X.a run) T W = fin T 2 := by unfold confirms; rw [HK.out, HX.out, if_pos (.inl hxw)]
    have EW := Lib.hid eW
    have x1 : (x != T.was) = true := by rw [bne_iff_ne]; exact hxw
    have x2 : (x == T.was) = false := by rw [beq_eq_false_iff_ne]; exact hxw
    have EN := Lib.hid (end_any R2 2)
    clear eW hxw R2
    go_wp2_with (first
      | (go_at_call 47; refine EN.out.mono ?_; rintro e w5 ⟨rfl, hr, hc5⟩))
    have FIN : Hid (StepOut w b base a g X (confirms (env X.c X.a run) T W) W (c + cnt W k) (.returned (.tuple #[])) w5) := by
      refine ⟨rfl, ⟨X, by rw [EW.out]; exact I2.out.same hr hc5 rfl rfl rfl rfl rfl, fun j hj => .inl hj, rfl, rfl, rfl⟩, A2.out.after hc5 hne, (D2.out.mono (fun _ _ h => .inr (.inr h))).trans (hc5.mono (fun _ _ h => .inr (.inl h)))⟩
    refine bodyPost_ret (results_none rfl _ _ _) rfl ?_
    exact FIN.out

  have x1 : (x != T.was) = false := by rw [hxw]; simp
  have x2 : (x == T.was) = true := by rw [hxw]; simp
  by_cases hfl : T.na = 2 ∧ T.nv ≠ 0
  · have eW : confirms (env X.c X.a run) T W = fin T 2 := by unfold confirms; rw [if_pos (.inr hfl)]
    have EW := Lib.hid eW
    have y1 : (T.na == 2) = true := by rw [beq_iff_eq]; exact hfl.1
    have y2 : (T.nv != 0) = true := by rw [bne_iff_ne]; exact hfl.2
    have y3 : (T.nv == 0) = false := by rw [beq_eq_false_iff_ne]; exact hfl.2
    have EN := Lib.hid (end_any R2 2)
    clear eW hxw hfl R2
    go_wp2_with (first
      | (go_at_call 47; refine EN.out.mono ?_; rintro e w5 ⟨rfl, hr, hc5⟩))
    have FIN : Hid (StepOut w b base a g X (confirms (env X.c X.a run) T W) W (c + cnt W k) (.returned (.tuple #[])) w5) := by
      refine ⟨rfl, ⟨X, by rw [EW.out]; exact I2.out.same hr hc5 rfl rfl rfl rfl rfl, fun j hj => .inl hj, rfl, rfl, rfl⟩, A2.out.after hc5 hne, (D2.out.mono (fun _ _ h => .inr (.inr h))).trans (hc5.mono (fun _ _ h => .inr (.inl h)))⟩
    refine bodyPost_ret (results_none rfl _ _ _) rfl ?_
    exact FIN.out
  obtain ⟨T5, hT5⟩ : ∃ T5 : AT, { T with reads := T.reads ++ [(T.na, T.nv)] } = T5 := ⟨_, rfl⟩
  have eW : confirms (env X.c X.a run) T W = goesOn (env X.c X.a run) T5 := by
    unfold confirms
    rw [HK.out, HX.out, if_neg (by rintro (h | h); exact h hxw; exact hfl h), hT5]
  have EW := Lib.hid eW
  have HT5 := Lib.hid hT5
  clear eW hxw hT5 HX
  have alt : (T.na == 2) = false ∨ ((T.na == 2) = true ∧ (T.nv != 0) = false ∧ (T.nv == 0) = true) := by
    by_cases h2 : T.na = 2
    · have h3 : T.nv = 0 := by
        by_cases h3 : T.nv = 0
        · exact h3
        · exact absurd ⟨h2, h3⟩ hfl
      rw [h2, h3]; exact .inr ⟨rfl, rfl, rfl⟩
    · exact .inl (by rw [beq_eq_false_iff_ne]; exact h2)
  clear hfl
  rcases alt with y1 | ⟨y1, y2, y3⟩
  all_goals (
    go_upto_region 3 with fail
    clear q1
    refine start_ (n := 14) (S := fun w' => Row w' b X T) (ds := [13]) #[false, false, false, false, false, false, false, false, false, false, false, false, false, false] (by kernel_rfl) rfl rfl R2 (fun hHeld => ?_)
    refine pure_ (i := 0) (N := (some 47)) (v := ?_) (a' := ?_) #[true, false, false, false, false, false, false, false, false, false, false, false, false, false] rfl rfl (by kernel_rfl) (fun _ _ _ h => h) (Or.inl ⟨by rfl, ?_⟩) ?_ ?_
    rotate_left
    · intro w'
      go_simp
      with_reducible rfl
    rotate_left
    · simp only [Act.put, List.setIfInBounds_toArray, List.set_cons_zero, List.set_cons_succ, i64_w, i32_w]
      rfl
    refine pure_ (i := 1) (N := (some 48)) (v := ?_) (a' := ?_) #[true, true, false, false, false, false, false, false, false, false, false, false, false, false] rfl rfl (by kernel_rfl) (fun _ _ _ h => h) (Or.inl ⟨by rfl, ?_⟩) ?_ ?_
    rotate_left
    · intro w'
      go_simp
      with_reducible rfl
    rotate_left
    · simp only [Act.put, List.setIfInBounds_toArray, List.set_cons_zero, List.set_cons_succ, i64_w, i32_w]
      rfl
    refine pure_ (i := 2) (N := (some 49)) (v := ?_) (a' := ?_) #[true, true, true, false, false, false, false, false, false, false, false, false, false, false] rfl rfl (by kernel_rfl) (fun _ _ _ h => h) (Or.inl ⟨by rfl, ?_⟩) ?_ ?_
    rotate_left
    · intro w'
      go_simp
      with_reducible rfl
    rotate_left
    · simp only [Act.put, List.setIfInBounds_toArray, List.set_cons_zero, List.set_cons_succ, i64_w, i32_w]
      rfl
    refine pure_ (i := 3) (N := (some 50)) (v := ?_) (a' := ?_) #[true, true, true, true, false, false, false, false, false, false, false, false, false, false] rfl rfl (by kernel_rfl) (fun _ _ _ h => h) (Or.inl ⟨by rfl, ?_⟩) ?_ ?_
    rotate_left
    · intro w'
      go_simp
      with_reducible rfl
    rotate_left
    · simp only [Act.put, List.setIfInBounds_toArray, List.set_cons_zero, List.set_cons_succ, i64_w, i32_w]
      rfl
    refine take_ (i := 4) (N := (some 51)) (v := ?_) (a' := ?_) #[true, true, true, true, true, false, false, false, false, false, false, false, false, false] rfl rfl (by kernel_rfl) (fun _ _ _ h => h) (Or.inl ⟨by rfl, ?_⟩) hHeld ?_ ?_
    rotate_left
    · intro w' s0
      have q1 := Row.get s0
      go_simp
      with_reducible rfl
    rotate_left
    · simp only [Act.put, List.setIfInBounds_toArray, List.set_cons_zero, List.set_cons_succ, i64_w, i32_w]
      rfl
    refine pure_ (i := 5) (N := (some 52)) (v := ?_) (a' := ?_) #[true, true, true, true, true, true, false, false, false, false, false, false, false, false] rfl rfl (by kernel_rfl) (fun _ _ _ h => h) (Or.inl ⟨by rfl, ?_⟩) ?_ ?_
    rotate_left
    · intro w'
      go_simp
      with_reducible rfl
    rotate_left
    · simp only [Act.put, List.setIfInBounds_toArray, List.set_cons_zero, List.set_cons_succ, i64_w, i32_w]
      rfl
    refine pure_ (i := 6) (N := (some 53)) (v := ?_) (a' := ?_) #[true, true, true, true, true, true, true, false, false, false, false, false, false, false] rfl rfl (by kernel_rfl) (fun _ _ _ h => h) (Or.inl ⟨by rfl, ?_⟩) ?_ ?_
    rotate_left
    · intro w'
      go_simp
      with_reducible rfl
    rotate_left
    · simp only [Act.put, List.setIfInBounds_toArray, List.set_cons_zero, List.set_cons_succ, i64_w, i32_w]
      rfl
    refine pure_ (i := 7) (N := (some 54)) (v := ?_) (a' := ?_) #[true, true, true, true, true, true, true, true, false, false, false, false, false, false] rfl rfl (by kernel_rfl) (fun _ _ _ h => h) (Or.inl ⟨by rfl, ?_⟩) ?_ ?_
    rotate_left
    · intro w'
      go_simp
      with_reducible rfl
    rotate_left
    · simp only [Act.put, List.setIfInBounds_toArray, List.set_cons_zero, List.set_cons_succ, i64_w, i32_w]
      rfl
    refine take_ (i := 8) (N := (some 55)) (v := .agg [.int .i64 T.na, .int .i64 T.nv].toArray) (a' := ?_) #[true, true, true, true, true, true, true, true, true, false, false, false, false, false] rfl rfl (by kernel_rfl) (fun _ _ _ h => h) (by exact yieldsIf_load_mid rfl 62 _ rfl b 29 rfl [.int .i64 T.na, .int .i64 T.nv] _ (fun w' s0 => row_range s0 29 _ (att_need X T)) Tryz.underlying62 rfl View.pair_size) hHeld ?_ ?_
    rotate_left
    · simp only [Act.put, List.setIfInBounds_toArray, List.set_cons_zero, List.set_cons_succ, i64_w, i32_w]
      rfl
    refine one_ (i := 9) (N := (some 56)) #[true, true, true, true, true, true, true, true, true, true, false, false, false, false] rfl rfl (by kernel_rfl) (by decide) (fun K hK => ?_)
    refine value_ (by rfl) rfl (v := .slice (some ⟨w2.heap.size, 0, none⟩) 1 1) (w1 := w2.drew.alloc (.cells #[.int .i64 T.na, .int .i64 T.nv] 62)) ?_ ?_
    · simp only [execOp, Sem.run_bind]
      have := run_pair1 w2.drew (.int .i64 T.na) (.int .i64 T.nv)
      have e5 : w2.drew.heap.size = w2.heap.size := rfl
      rw [e5] at this
      simp [Act.eval, this, Result.andThen_ok]
    obtain ⟨w3, hw3⟩ : ∃ w3, w2.drew.alloc (.cells #[.int .i64 T.na, .int .i64 T.nv] 62) = w3 := ⟨_, rfl⟩
    obtain ⟨p, hp⟩ : ∃ p, w2.heap.size = p := ⟨_, rfl⟩
    have b23 : Below p w2 w3 := by rw [← hw3, ← hp]; exact (Below.refl _ w2).drew.alloc (Nat.le_refl _) _
    have n3 : w3.heap[p]? = some (.cells #[.int .i64 T.na, .int .i64 T.nv] 62 (0, 0)) := by rw [← hw3, ← hp]; exact new_row w2.drew _ _
    rw [hw3, hp]
    have R3 : Row w3 b X T := R2.keep (b23.block b (by rw [← hp]; exact R2.lt))
    have H3 : View.Told w3 base T.reads X.vr := HR2.out.kept fun j hj => b23.block j (by rw [← hp]; exact HR2.out.own_lt hj)
    have hs3 : p ≤ w3.heap.size := by have := b23.size; omega
    refine hK.out _ _ R3 (fun hHeld => ?_)
    clear hK K
    refine norm_ (a' := ?_) ?_ ?_
    rotate_left
    · show Act.put _ (some 56) _ = _
      simp only [Act.put, List.setIfInBounds_toArray, List.set_cons_zero, List.set_cons_succ, i64_w, i32_w]
      rfl
    obtain ⟨v4, w4, hr4, H4, g4, o4⟩ := append_pair H3 (by rw [HRN.out]; omega) (by have := D2.out.size; omega) n3
    have hl1 : (T.reads ++ [(T.na, T.nv)]).length = rn + 1 := by simp [HRN.out]
    obtain ⟨A5, c5, hv4⟩ := told_slice H4
    rw [hl1] at hv4
    subst hv4
    refine one_ (i := 10) (N := (some 57)) #[true, true, true, true, true, true, true, true, true, true, true, false, false, false] rfl rfl (by kernel_rfl) (by decide) (fun K hK => ?_)
    refine value_ (by rfl) rfl (v := .slice A5 (rn + 1) c5) (w1 := w4) ?_ ?_
    · simp only [execOp, resolve, invoke, builtin, Sem.run_bind, Sem.run_pure, Result.andThen_ok, List.map_toArray, List.map_cons, List.map_nil]
      simp [Act.eval, hr4, Result.andThen_ok]
    have R4 : Row w4 b X T := R3.keep (g4.block b R3.lt (fun e => HI.out.nb b (.inl e.symm) rfl))
    refine hK.out _ _ R4 (fun hHeld => ?_)
    clear hK K
    refine norm_ (a' := ?_) ?_ ?_
    rotate_left
    · show Act.put _ (some 57) _ = _
      simp only [Act.put, List.setIfInBounds_toArray, List.set_cons_zero, List.set_cons_succ, i64_w, i32_w]
      rfl
    refine pure_ (i := 11) (N := (some 58)) (v := ?_) (a' := ?_) #[true, true, true, true, true, true, true, true, true, true, true, true, false, false] rfl rfl (by kernel_rfl) (fun _ _ _ h => h) (Or.inl ⟨by rfl, ?_⟩) ?_ ?_
    rotate_left
    · intro w'
      go_simp
      with_reducible rfl
    rotate_left
    · simp only [Act.put, List.setIfInBounds_toArray, List.set_cons_zero, List.set_cons_succ, i64_w, i32_w]
      rfl
    refine pure_ (i := 12) (N := (some 59)) (v := ?_) (a' := ?_) #[true, true, true, true, true, true, true, true, true, true, true, true, true, false] rfl rfl (by kernel_rfl) (fun _ _ _ h => h) (Or.inl ⟨by rfl, ?_⟩) ?_ ?_
    rotate_left
    · intro w'
      go_simp
      with_reducible rfl
    rotate_left
    · simp only [Act.put, List.setIfInBounds_toArray, List.set_cons_zero, List.set_cons_succ, i64_w, i32_w]
      rfl
    refine last_ (i := 13) (N := none) #[true, true, true, true, true, true, true, true, true, true, true, true, true, true] rfl rfl (by kernel_rfl) (by decide) (fun K hK => ?_)
    have q1 := Row.get R4
    have q2 := Row.set R4
    have q3 := Row.free R4
    refine skip_ (by rfl) rfl (w1 := ?_) ?_ ?_
    rotate_left
    · go_simp
      with_reducible rfl
    rotate_left
    refine hK.out _ _ ?_
    clear hK K
    refine done_ (by kernel_rfl) ?_
    obtain ⟨gr, cr, er, hgr, hgl, -⟩ := told_range H4 (i := 0) (by rw [hl1]; omega)
    have er1 : A5 = some ⟨gr, 0, none⟩ := by injection er
    clear er
    subst er1
    obtain ⟨X5, hX5⟩ : ∃ X5 : AV, { X with vr := .slice (some ⟨gr, 0, none⟩) (rn + 1) c5 } = X5 := ⟨_, rfl⟩
    obtain ⟨w5, hw5⟩ : ∃ w5, w4.setRow b (attRow X5 T) = w5 := ⟨_, rfl⟩
    rw [hX5, hw5]
    have hR5 : Row w5 b X5 T := by rw [← hw5]; exact R4.now
    have R5 : Row w5 b X5 T5 := by rw [← HT5.out]; exact hR5
    have C45 : Chg (fun j => j = b) w4 w5 := by rw [← hw5]; exact Row.chg _
    have C24 : Chg (fun j => w.heap.size ≤ j ∨ X.vr.ownBlock = some j) w2 w4 := ((Chg.of_below b23).mono (fun j _ h => .inl (by have := D2.out.size; omega))).trans (Chg.grown g4 (fun j hj => .inr hj))
    have hgn : X.vr.ownBlock = some gr ∨ w.heap.size ≤ gr := by
      rcases o4 with e | e
      · exact .inl e.symm
      · have e2 : gr = w3.heap.size := Option.some.inj e; have := b23.size; have := D2.out.size; exact .inr (by omega)
    have ho1 : ∀ j, OwnB X j → X.vr.ownBlock ≠ some j → w4.heap[j]? = w2.heap[j]? := fun j hj hne2 => C24.block j (I2.out.own_lt hj).2 (fun h => by rcases h with h | h; (have := (HI.out.own_lt hj).2; omega); exact hne2 h)
    have hgb : gr ≠ b := by rcases hgn with h | h; exact HI.out.nb gr (.inl h); omega
    have hw25 : ∀ j, OwnB X j → X.vr.ownBlock ≠ some j → w5.heap[j]? = w2.heap[j]? := fun j hj h2 => by
      have hlt := (I2.out.own_lt hj).2
      rw [C45.block j (by have := C24.size; omega) (HI.out.nb j hj)]; exact ho1 j hj h2
    have I5 : IsAtt w5 b base X5 T5 := by
      have ap := HI.out.apr; have ah := HI.out.aph
      have gfr : ∀ j, OwnB X j → X.vr.ownBlock ≠ some j → j ≠ gr := fun j hj h2 e => by
        subst e; rcases hgn with h | h
        · exact h2 h
        · have := (HI.out.own_lt hj).2; omega
      have f2 : ∀ j, X.vw.ownBlock = some j → X.vr.ownBlock ≠ some j := fun j h1 h2 => (ap j h2).1 h1
      have f3 : ∀ j, X.vl.ownBlock = some j → X.vr.ownBlock ≠ some j := fun j h1 h2 => (ap j h2).2.1 h1
      have f4 : ∀ j, X.vh.ownBlock = some j → X.vr.ownBlock ≠ some j := fun j h1 h2 => (ap j h2).2.2.1 h1
      have f5 : ∀ j, X.vc.ownBlock = some j → X.vr.ownBlock ≠ some j := fun j h1 h2 => (ap j h2).2.2.2 h1
      have e1 : X5.vr.ownBlock = some gr := by rw [← hX5]; rfl
      have e2 : X5.vw = X.vw := by rw [← hX5]
      have e3 : X5.vl = X.vl := by rw [← hX5]
      have e4 : X5.vh = X.vh := by rw [← hX5]
      have e5 : X5.vc = X.vc := by rw [← hX5]
      refine ⟨R5, ?_, ?_, ?_, ?_, ?_, fun j hj => ?_, fun j hj => ?_, fun j hj => ?_⟩
      · rw [← hX5, ← HT5.out]
        exact H4.kept fun j hj => C45.block j (H4.own_lt hj) (by have e2 : gr = j := Option.some.inj hj; omega)
      · rw [e2, ← HT5.out]; exact I2.out.vw.kept fun j e => hw25 j (.inr (.inl e)) (f2 j e)
      · rw [e3, ← HT5.out]; exact I2.out.vl.kept fun j e => hw25 j (.inr (.inr (.inl e))) (f3 j e)
      · rw [e4, ← HT5.out]; exact I2.out.vh.kept fun j e => hw25 j (.inr (.inr (.inr (.inl e)))) (f4 j e)
      · rw [e5, ← HT5.out]; exact I2.out.vc.kept fun j e => hw25 j (.inr (.inr (.inr (.inr e)))) (f5 j e)
      · rw [e1] at hj; have hj := Option.some.inj hj; subst hj
        rw [e2, e3, e4, e5]
        exact ⟨fun e => gfr _ (.inr (.inl e)) (f2 _ e) rfl, fun e => gfr _ (.inr (.inr (.inl e))) (f3 _ e) rfl, fun e => gfr _ (.inr (.inr (.inr (.inl e)))) (f4 _ e) rfl, fun e => gfr _ (.inr (.inr (.inr (.inr e)))) (f5 _ e) rfl⟩
      · rw [e4] at hj; rw [e1, e2, e3, e5]
        exact ⟨fun e => gfr j (.inr (.inr (.inr (.inl hj)))) (f4 j hj) (Option.some.inj e).symm, (ah j hj).2.1, (ah j hj).2.2.1, (ah j hj).2.2.2⟩
      · unfold OwnB at hj
        rw [e1, e2, e3, e4, e5] at hj
        rcases hj with e | e
        · have e2 : gr = j := Option.some.inj e; omega
        · exact HI.out.nb j (.inr e)
    have O5 : Hid (∀ j, OwnB X5 j → OwnB X j ∨ w.heap.size ≤ j) := fun j hj => by
      rw [← hX5] at hj
      rcases hj with e | e
      · have := Option.some.inj (show some gr = some j from e); subst this
        exact hgn.imp .inl id
      · exact .inl (.inr e)
    have C5 : Hid (Chg (fun j => OwnB X j ∨ j = b ∨ j = a ∨ j = g) w w5) := by
      have h1 : Chg (fun j => w.heap.size ≤ j ∨ OwnB X j ∨ j = b ∨ j = a ∨ j = g) w w5 := ((D2.out.mono (fun j _ h => .inr (.inr (.inr h)))).trans (C24.mono (fun j _ h => h.imp id (fun h => .inl (.inl h))))).trans (C45.mono (fun j _ h => .inr (.inr (.inl h))))
      exact h1.mono (fun j hj h => h.elim (fun h => by omega) id)
    have A5' : Hid (Ar w5 a g W (c + cnt W k)) := by
      have h0 := A2.out.lt
      have h1 : Ar w4 a g W (c + cnt W k) := A2.out.kept (C24.block a h0.1 (fun h => by rcases h with h | h; (have := D2.out.size; have := HA.out.lt; omega); exact (HOA.out a (.inl h)).1 rfl)) (C24.block g h0.2 (fun h => by rcases h with h | h; (have := D2.out.size; have := HA.out.lt; omega); exact (HOA.out g (.inl h)).2 rfl))
      exact h1.after C45 hne
    have S5 : Hid (∀ j, S j → w5.heap[j]? = w.heap[j]?) := fun j hj => by
      obtain ⟨s1, s2, s3, s4, s5⟩ := HS.out j hj
      exact C5.out.block j s1 (by rintro (h | h | h | h); exact s2 h; exact s3 h; exact s4 h; exact s5 h)
    have l1 : X5.vr = .slice (some ⟨gr, 0, none⟩) (rn + 1) c5 := by rw [← hX5]
    have l2 : X5.prog = X.prog := by rw [← hX5]
    have l3 : X5.c = X.c := by rw [← hX5]
    have l4 : X5.a = X.a := by rw [← hX5]
    have L3 := Lib.hid l3; have L4 := Lib.hid l4; have L2 := Lib.hid l2
    have HI5 := Lib.hid I5
    have hcap : rn + 1 ≤ c5 := told_cap (by have := I5.vr; rw [l1] at this; exact this)
    clear hX5 hw5 R4 H4 H3 R3 b23 n3 hr4 g4 o4 hw3 hp hHeld C45 C24 ho1 hw25 I5 l3 l4 q1 q2 q3 hR5 R2
    obtain ⟨A6, hA6⟩ : ∃ A6 : Option Addr, (if c5 = 1 then some ⟨gr, 0, none⟩ else some ⟨gr, 2, none⟩) = A6 := ⟨_, rfl⟩
    have hrn1 : (1 : Int) ≤ (rn : Int) + 1 := by omega
    have HR0 : Hid (T5.reads.length = rn + 1) := by rw [Hid, ← HT5.out]; exact hl1
    have PR : Hid (Pairs w5 w5.heap.size (.slice A6 rn (c5 - 1)) T5.reads.tail) := by
      rw [Hid, ← hA6]
      exact pairs_tail (by have := HI5.out.vr.pairs; rw [l1] at this; exact this) HR0.out hcap
    have PIT : Hid (PIn T5.reads.tail) := fun p hp => by
      have hp' := List.mem_of_mem_tail hp
      rw [← HT5.out] at hp'
      rcases List.mem_append.1 hp' with h | h
      · exact HPI.out p h
      · rw [List.mem_singleton.1 h]; exact ⟨HNA.out, HNV.out⟩
    have PIL : Hid (T5.reads.tail.length ≤ 1000) := by rw [Hid, List.length_tail, HR0.out]; omega
    obtain ⟨⟨n6, m6⟩, hr⟩ : ∃ r, run T5.reads.tail = r := ⟨_, rfl⟩
    have HR := Lib.hid hr
    have HL1 := Lib.hid l1
    have MLE : Hid (m6.length ≤ 10000) := by have := HML0.out T5.reads.tail; rw [hr] at this; exact this
    clear hr hl1
    go_wp2
    refine start_ (n := 15) (S := fun w' => Row w' b X5 T5) (ds := []) #[false, false, false, false, false, false, false, false, false, false, false, false, false, false, false] (by kernel_rfl) rfl rfl R5 (fun hHeld => ?_)
    refine pure_ (i := 0) (N := (some 61)) (v := ?_) (a' := ?_) #[true, false, false, false, false, false, false, false, false, false, false, false, false, false, false] rfl rfl (by kernel_rfl) (fun _ _ _ h => h) (Or.inl ⟨by rfl, ?_⟩) ?_ ?_
    rotate_left
    · intro w'
      go_simp
      with_reducible rfl
    rotate_left
    · simp only [Act.put, List.setIfInBounds_toArray, List.set_cons_zero, List.set_cons_succ, i64_w, i32_w]
      rfl
    refine pure_ (i := 1) (N := (some 62)) (v := ?_) (a' := ?_) #[true, true, false, false, false, false, false, false, false, false, false, false, false, false, false] rfl rfl (by kernel_rfl) (fun _ _ _ h => h) (Or.inl ⟨by rfl, ?_⟩) ?_ ?_
    rotate_left
    · intro w'
      go_simp
      with_reducible rfl
    rotate_left
    · simp only [Act.put, List.setIfInBounds_toArray, List.set_cons_zero, List.set_cons_succ, i64_w, i32_w]
      rfl
    refine pure_ (i := 2) (N := (some 63)) (v := ?_) (a' := ?_) #[true, true, true, false, false, false, false, false, false, false, false, false, false, false, false] rfl rfl (by kernel_rfl) (fun _ _ _ h => h) (Or.inl ⟨by rfl, ?_⟩) ?_ ?_
    rotate_left
    · intro w'
      go_simp
      with_reducible rfl
    rotate_left
    · simp only [Act.put, List.setIfInBounds_toArray, List.set_cons_zero, List.set_cons_succ, i64_w, i32_w]
      rfl
    refine take_ (i := 3) (N := (some 64)) (v := ?_) (a' := ?_) #[true, true, true, true, false, false, false, false, false, false, false, false, false, false, false] rfl rfl (by kernel_rfl) (fun _ _ _ h => h) (Or.inl ⟨by rfl, ?_⟩) hHeld ?_ ?_
    rotate_left
    · intro w' s0
      have q1 := Row.get s0
      go_simp
      with_reducible rfl
    rotate_left
    · simp only [Act.put, List.setIfInBounds_toArray, List.set_cons_zero, List.set_cons_succ, i64_w, i32_w]
      rfl
    refine pure_ (i := 4) (N := (some 65)) (v := .slice A6 rn (c5 - 1)) (a' := ?_) #[true, true, true, true, true, false, false, false, false, false, false, false, false, false, false] rfl rfl (by kernel_rfl) (fun _ _ _ h => h) (Or.inl ⟨by rfl, fun w' => by go_simp; (try rw [if_pos hrn1]); (try rw [hA6]); (try rfl)⟩) ?_ ?_
    rotate_left
    · simp only [Act.put, List.setIfInBounds_toArray, List.set_cons_zero, List.set_cons_succ, i64_w, i32_w]
      rfl
    refine pure_ (i := 5) (N := (some 66)) (v := ?_) (a' := ?_) #[true, true, true, true, true, true, false, false, false, false, false, false, false, false, false] rfl rfl (by kernel_rfl) (fun _ _ _ h => h) (Or.inl ⟨by rfl, ?_⟩) ?_ ?_
    rotate_left
    · intro w'
      go_simp
      with_reducible rfl
    rotate_left
    · simp only [Act.put, List.setIfInBounds_toArray, List.set_cons_zero, List.set_cons_succ, i64_w, i32_w]
      rfl
    refine pure_ (i := 6) (N := (some 67)) (v := ?_) (a' := ?_) #[true, true, true, true, true, true, true, false, false, false, false, false, false, false, false] rfl rfl (by kernel_rfl) (fun _ _ _ h => h) (Or.inl ⟨by rfl, ?_⟩) ?_ ?_
    rotate_left
    · intro w'
      go_simp
      with_reducible rfl
    rotate_left
    · simp only [Act.put, List.setIfInBounds_toArray, List.set_cons_zero, List.set_cons_succ, i64_w, i32_w]
      rfl
    refine pure_ (i := 7) (N := (some 68)) (v := ?_) (a' := ?_) #[true, true, true, true, true, true, true, true, false, false, false, false, false, false, false] rfl rfl (by kernel_rfl) (fun _ _ _ h => h) (Or.inl ⟨by rfl, ?_⟩) ?_ ?_
    rotate_left
    · intro w'
      go_simp
      with_reducible rfl
    rotate_left
    · simp only [Act.put, List.setIfInBounds_toArray, List.set_cons_zero, List.set_cons_succ, i64_w, i32_w]
      rfl
    refine take_ (i := 8) (N := (some 69)) (v := ?_) (a' := ?_) #[true, true, true, true, true, true, true, true, true, false, false, false, false, false, false] rfl rfl (by kernel_rfl) (fun _ _ _ h => h) (Or.inl ⟨by rfl, ?_⟩) hHeld ?_ ?_
    rotate_left
    · intro w' s0
      have q1 := Row.get s0
      go_simp
      with_reducible rfl
    rotate_left
    · simp only [Act.put, List.setIfInBounds_toArray, List.set_cons_zero, List.set_cons_succ, i64_w, i32_w]
      rfl
    refine one_ (i := 9) (N := (some 70)) #[true, true, true, true, true, true, true, true, true, true, false, false, false, false, false] rfl rfl (by kernel_rfl) (by decide) (fun K hK => ?_)
    refine goes_ Tryz.func79 (by kernel_rfl) rfl #[.slice A6 rn (c5 - 1), X.prog] (by rfl) rfl rfl (by first | rfl | (simp [Act.eval]; done) | (go_simp; done)) ?_
    refine (HRUN.out w5.drew (fun j hj => S5.out j hj) (.slice A6 rn (c5 - 1)) T5.reads.tail PR.out PIT.out PIL.out).mono ?_
    rintro e w6 hrt
    obtain ⟨v6, rfl, hb6, halt⟩ := hrt.one
    rw [HR.out] at halt
    rw [HR.out]
    have b56 : Below w5.heap.size w5 w6 := (show Below w5.heap.size w5 w5.drew from (Below.refl _ _).drew).trans hb6
    have R6 : Row w6 b X5 T5 := R5.keep (b56.block b R5.lt)
    have B56 := Lib.hid b56
    clear b56 hb6 hrt
    refine ⟨_, rfl, ?_⟩
    refine hK.out _ _ R6 (fun hHeld => ?_)
    clear hK K
    refine norm_ (a' := ?_) ?_ ?_
    rotate_left
    · show Act.put _ (some 70) _ = _
      simp only [Act.put, List.setIfInBounds_toArray, List.set_cons_zero, List.set_cons_succ, i64_w, i32_w]
      rfl
    refine pure_ (i := 10) (N := (some 60)) (v := ?_) (a' := ?_) #[true, true, true, true, true, true, true, true, true, true, true, false, false, false, false] rfl rfl (by kernel_rfl) (fun _ _ _ h => h) (Or.inl ⟨by rfl, ?_⟩) ?_ ?_
    rotate_left
    · intro w'
      go_simp
      with_reducible rfl
    rotate_left
    · simp only [Act.put, List.setIfInBounds_toArray, List.set_cons_zero, List.set_cons_succ, i64_w, i32_w]
      rfl
    refine pure_ (i := 11) (N := (some 71)) (v := ?_) (a' := ?_) #[true, true, true, true, true, true, true, true, true, true, true, true, false, false, false] rfl rfl (by kernel_rfl) (fun _ _ _ h => h) (Or.inl ⟨by rfl, ?_⟩) ?_ ?_
    rotate_left
    · intro w'
      go_simp
      with_reducible rfl
    rotate_left
    · simp only [Act.put, List.setIfInBounds_toArray, List.set_cons_zero, List.set_cons_succ, i64_w, i32_w]
      rfl
    refine pure_ (i := 12) (N := (some 72)) (v := ?_) (a' := ?_) #[true, true, true, true, true, true, true, true, true, true, true, true, true, false, false] rfl rfl (by kernel_rfl) (fun _ _ _ h => h) (Or.inl ⟨by rfl, ?_⟩) ?_ ?_
    rotate_left
    · intro w'
      go_simp
      with_reducible rfl
    rotate_left
    · simp only [Act.put, List.setIfInBounds_toArray, List.set_cons_zero, List.set_cons_succ, i64_w, i32_w]
      rfl
    refine pure_ (i := 13) (N := (some 6)) (v := ?_) (a' := ?_) #[true, true, true, true, true, true, true, true, true, true, true, true, true, true, false] rfl rfl (by kernel_rfl) (fun _ _ _ h => h) (Or.inl ⟨by rfl, ?_⟩) ?_ ?_
    rotate_left
    · intro w'
      go_simp
      with_reducible rfl
    rotate_left
    · simp only [Act.put, List.setIfInBounds_toArray, List.set_cons_zero, List.set_cons_succ, i64_w, i32_w]
      rfl
    refine pure_ (i := 14) (N := (some 7)) (v := ?_) (a' := ?_) #[true, true, true, true, true, true, true, true, true, true, true, true, true, true, true] rfl rfl (by kernel_rfl) (fun _ _ _ h => h) (Or.inl ⟨by rfl, ?_⟩) ?_ ?_
    rotate_left
    · intro w'
      go_simp
      with_reducible rfl
    rotate_left
    · simp only [Act.put, List.setIfInBounds_toArray, List.set_cons_zero, List.set_cons_succ, i64_w, i32_w]
      rfl
    refine done_ (by kernel_rfl) ?_
    have I6 : Hid (IsAtt w6 b base X5 T5) := HI5.out.keep (B56.out.block b R5.lt) (fun j hj => B56.out.block j (HI5.out.own_lt hj).2)
    have C6 : Hid (Chg (fun j => OwnB X j ∨ j = b ∨ j = a ∨ j = g) w w6) := C5.out.trans' (Chg.of_below B56.out) (fun j h1 h2 => by have := C5.out.size; omega)
    have A6' : Hid (Ar w6 a g W (c + cnt W k)) := A5'.out.below B56.out
    have hs56 : w5.heap.size ≤ w6.heap.size := B56.out.size
    have hs05 : w.heap.size ≤ w5.heap.size := C5.out.size
    have q1 := Row.get R6; have q2 := Row.set R6; have q3 := Row.free R6; have q4 := Row.get' R6; have q5 := Row.set' R6; have q6 := Row.free' R6
    have HR6 := Lib.hid R6
    clear hHeld R6 R5 PR PIT PIL S5 l1 l2 hA6 hrn1
    dsimp only at halt
    have GO : Hid (goesOn (env X.c X.a run) T5 = if 0 ≤ n6 then { T5 with na := n6, nv := 0, phase := 1 } else if m6 = [] then fin { T5 with stamp := T5.seen } 1 else { T5 with writes := m6, locks := locksOf (env X.c X.a run) m6, phase := 4 }) := by
      have hrr : (env X.c X.a run).run T5.reads.tail = (n6, m6) := HR.out
      unfold goesOn
      simp only [hrr, Hid]
    have KEY : Hid (∀ w7 T', goesOn (env X.c X.a run) T5 = T' → Row w7 b X5 T' → Chg (fun j => j = b) w6 w7 → T'.reads = T5.reads → T'.writes = T5.writes → T'.locks = T5.locks → T'.holds = T5.holds → T'.checks = T5.checks → StepOut w b base a g X (confirms (env X.c X.a run) T W) W (c + cnt W k) (.returned (.tuple #[])) w7) := fun w7 T' e hr7 hc7 e1 e2 e3 e4 e5 => by
      refine ⟨rfl, ⟨X5, by rw [EW.out, e]; exact I6.out.same hr7 hc7 e1 e2 e3 e4 e5, O5.out, L3.out, L4.out, L2.out⟩, A6'.out.after hc7 hne, C6.out.trans (hc7.mono (fun _ _ h => .inr (.inl h)))⟩
    clear HR
    rcases halt with ⟨rfl, h2, h3⟩ | ⟨h1, h2, rfl⟩
    · have hm : (-1 : Int) < 0 := by omega
      obtain ⟨A7, c7, rfl⟩ := told_slice h2
      by_cases h0 : m6 = []
      · subst h0
        have GG : Hid (goesOn (env X.c X.a run) T5 = fin { T5 with stamp := T5.seen } 1) := by rw [Hid, GO.out, if_neg (by omega), if_pos rfl]
        clear h2 h3 GO
        obtain ⟨T6, hT6⟩ : ∃ T6 : AT, { T5 with stamp := T5.seen } = T6 := ⟨_, rfl⟩
        obtain ⟨w7, hw7⟩ : ∃ w7, w6.setRow b (attRow X5 T6) = w7 := ⟨_, rfl⟩
        have R7 : Row w7 b X5 T6 := by rw [← hw7]; exact HR6.out.now
        have C7 : Hid (Chg (fun j => j = b) w6 w7) := by rw [← hw7]; exact Row.chg _
        have EN := Lib.hid (end_any R7 1)
        rw [hT6] at GG
        have HT6 := Lib.hid hT6
        clear R7
        go_wp2_with (first
          | (go_at_call 47; refine EN.out.mono ?_; rintro e w8 ⟨rfl, hr, hc8⟩))
        go_end0
        exact KEY.out _ _ GG.out hr (C7.out.trans hc8) (by rw [← HT6.out]; rfl) (by rw [← HT6.out]; rfl) (by rw [← HT6.out]; rfl) (by rw [← HT6.out]; rfl) (by rw [← HT6.out]; rfl)
      · have GG : Hid (goesOn (env X.c X.a run) T5 = { T5 with writes := m6, locks := locksOf (env X.c X.a run) m6, phase := 4 }) := by rw [Hid, GO.out, if_neg (by omega), if_neg h0]
        obtain ⟨ml, hml⟩ : ∃ ml, m6.length = ml := ⟨_, rfl⟩
        have HML := Lib.hid hml
        have hml0 : 0 < ml := by rw [← hml]; exact List.length_pos_iff.2 h0
        rw [hml] at h2 ⊢
        have H2 := Lib.hid h2
        have H3 := Lib.hid h3
        obtain ⟨L, hL⟩ : ∃ L, locksOf (env X.c X.a run) m6 = L := ⟨_, rfl⟩
        rw [hL] at GG
        have HLq := Lib.hid hL
        obtain ⟨X7, hX7⟩ : ∃ X7 : AV, { X5 with vw := .slice A7 ml c7 } = X7 := ⟨_, rfl⟩
        obtain ⟨w7, hw7⟩ : ∃ w7, w6.setRow b (attRow X7 T5) = w7 := ⟨_, rfl⟩
        have R7 : Row w7 b X7 T5 := by rw [← hw7]; exact HR6.out.now
        have C7 : Hid (Chg (fun j => j = b) w6 w7) := by rw [← hw7]; exact Row.chg _
        have own7 : ∀ j, (Value.slice A7 ml c7).ownBlock = some j → w5.heap.size ≤ j ∧ j < w6.heap.size := fun j hj => ⟨h2.block hj, h2.own_lt hj⟩
        have P7 : Hid (View.Told w7 w5.heap.size m6 (.slice A7 ml c7)) := h2.kept fun j hj => C7.out.block j (own7 j hj).2 (by have := (own7 j hj).1; have := HR6.out.lt; have := HI5.out.row.lt; omega)
        have LO : Hid (m6.length ≤ 10000 → Calls Tryz.prog 80 #[.pointer (some ⟨b, 0, none⟩), .slice A7 ml c7] w7 fun e w' => ∃ v, e = .returned v ∧ TW w' w7.heap.size L v ∧ Below w7.heap.size w7 w') := fun hle => by
          have h4 : X7.c = X.c := by rw [← hX7]; exact L3.out
          have h5 : X7.a = X.a := by rw [← hX7]; exact L4.out
          have := locksOf_any R7 run (by rw [h4]; exact fine) P7.out.pairs h3 hle
          rw [h4, h5, hL] at this
          exact this
        have hle : Hid (m6.length ≤ 10000) := MLE.out
        have q1' := Row.get R7; have q2' := Row.set R7; have q3' := Row.free R7; have q4' := Row.get' R7; have q5' := Row.set' R7; have q6' := Row.free' R7
        have HR7 := Lib.hid R7
        have OWN7 := Lib.hid own7
        have HX7 := Lib.hid hX7
        clear GO hml hL R7 h2 h3 h0 own7
        go_wp2_with (first
          | (go_at_call 80; refine (LO.out hle.out).mono ?_; rintro e w8 ⟨v8, rfl, t8, hb8⟩
             have R8 : Row w8 b X7 T5 := HR7.out.keep (hb8.block b HR7.out.lt)
             have T8 := Lib.hid t8
             have B8 := Lib.hid hb8
             obtain ⟨A8, c8, rfl⟩ := tw_slice T8.out
             have p1 := Row.get R8; have p2 := Row.set R8; have p3 := Row.free R8; have p4 := Row.get' R8; have p5 := Row.set' R8; have p6 := Row.free' R8
             have HR8 := Lib.hid R8
             clear R8 t8 hb8))
        obtain ⟨w9, hw9⟩ : ∃ w9, w8.setRow b (attRow { X7 with vl := .slice A8 L.length c8 } { T5 with phase := 4 }) = w9 := ⟨_, rfl⟩
        have FIN : Hid (StepOut w b base a g X (confirms (env X.c X.a run) T W) W (c + cnt W k) (.returned (.tuple #[])) w9) := by
          have C89 : Chg (fun j => j = b) w8 w9 := by rw [← hw9]; exact Row.chg _
          have s67 := C7.out.size
          have s78 := B8.out.size
          have C69 : Chg (fun j => j = b) w6 w9 := (C7.out.trans' (Chg.of_below B8.out) (fun j h1 h2 => by omega)).trans C89
          have e8 : ({ X7 with vl := .slice A8 L.length c8 } : AV) = { X5 with vw := .slice A7 ml c7, vl := .slice A8 L.length c8 } := by rw [← HX7.out]
          have R9 : Row w9 b { X5 with vw := .slice A7 ml c7, vl := .slice A8 L.length c8 } { T5 with writes := m6, locks := L, phase := 4 } := by rw [← hw9, ← e8]; exact HR8.out.now
          have bw5 : base ≤ w5.heap.size := by omega
          have P9 : View.Told w9 w5.heap.size m6 (.slice A7 ml c7) := P7.out.kept fun j hj => by
            have h1 := OWN7.out j hj
            rw [C89.block j (by omega) (by have := HI5.out.row.lt; omega)]
            exact B8.out.block j (by omega)
          have L9 : TW w9 w5.heap.size L (.slice A8 L.length c8) := (T8.out.low (by omega)).kept fun j hj => C89.block j (T8.out.own_lt hj) (by have := T8.out.block hj; have := HI5.out.row.lt; omega)
          have I56 : IsAtt w5 b base X5 T5 := HI5.out
          have C59 : Chg (fun j => j = b) w5 w9 := ((Chg.of_below B56.out).mono (fun j h1 h2 => by omega) : Chg (fun j => j = b) w5 w6).trans C69
          obtain ⟨I9, O9⟩ := I56.plan (B := w5.heap.size) (T' := { T5 with writes := m6, locks := L, phase := 4 }) R9 C59 (Nat.le_refl _) bw5 P9 L9 rfl rfl rfl
          refine ⟨rfl, ⟨{ X5 with vw := .slice A7 ml c7, vl := .slice A8 L.length c8 }, by rw [EW.out, GG.out]; exact I9, fun j hj => ?_, L3.out, L4.out, L2.out⟩, A6'.out.after C69 hne, C6.out.trans (C69.mono (fun _ _ h => .inr (.inl h)))⟩
          rcases O9 j hj with h | h
          · exact O5.out j h
          · exact .inr (by omega)
        rw [hw9]
        go_end0
        exact FIN.out
    · have GG : Hid (goesOn (env X.c X.a run) T5 = { T5 with na := n6, nv := 0, phase := 1 }) := by rw [Hid, GO.out, if_pos h1]
      have d1 : decide (0 ≤ n6) = true := by simpa using h1
      clear GO
      go_wp2
      go_end0
      exact KEY.out _ _ GG.out HR6.out.now (Row.chg _) rfl rfl rfl rfl rfl)

end Att
end Go.Proofs.YthojgahcpkdemaaGreat
