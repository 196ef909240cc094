import Derived.Test.YtfmjcinhjbihoaaOver
namespace Go.Proofs.Ytfmjcinhjbihoaa
open Go.RowKit Go.Bas SorPlain Go.Sor IMap_ VIn VPlain MapI
namespace VOver
open View

set_option maxRecDepth 100000 in
set_option maxHeartbeats 8000000 in
theorem walk_in {w : World} {sk : Value} {kn : M} (h : Pairs w w.heap.size sk kn) (hk : PIn kn) (a x : Int) :
    Calls Try.prog 4 #[sk, .int .i64 a, .int .i64 x] w fun e w' => e = .returned (.bool true) ∧ Below w.heap.size w w' := by
  have hmf : ∀ (fn : Fn) (first cap : Array Value) (w : World), (Instr.makeFunc fn first cap).run Try.prog w = .ok (.func fn first cap) w := fun _ _ _ _ => rfl
  obtain ⟨A1, c1, rfl, m1, _⟩ := id h
  obtain ⟨n1, hn1⟩ : ∃ n, kn.length = n := ⟨_, rfl⟩
  obtain ⟨g, hg⟩ : ∃ g, w.heap.size = g := ⟨_, rfl⟩
  have H := Lib.hid h; have HKI := Lib.hid hk
  have HN1 := Lib.hid hn1
  rw [hg] at H ⊢
  rw [hn1] at H m1 ⊢
  have m1 : n1 ≤ 9223372036854775807 := m1
  clear h hk hn1
  by_cases hbig : 100 < n1
  · go_enter Try.func4, Try.ntmps4
    go_wp2_with (first
      | (go_at_call 9; refine (lives_any _).mono ?_; rintro e w2 ⟨rfl, hb2⟩))
    go_ret
    exact ⟨rfl, hb2.mono (by omega)⟩
  · obtain ⟨w1, hw1⟩ : ∃ w1, w.alloc (.cells #[.pointer none] 30) = w1 := ⟨_, rfl⟩
    have s1 : w1.heap.size = g + 1 := by rw [← hw1, ← hg]; simp
    have rc : Hid (w1.heap[g]? = some (.cells #[.pointer none] 30 (0, 0))) := by rw [← hw1, ← hg]; exact new_row _ _ _
    have B1 : Hid (Below g w w1) := by rw [← hw1, Hid, ← hg]; exact (Below.refl _ _).alloc (Nat.le_refl _) _
    have k0 : w1.cell? ⟨g, 0, none⟩ = some (.pointer none) := by rw [cell_of_row _ _ _ _ _ _ rc.out]; rfl
    have KO := Lib.hid (known_over (w := w1) ((H.out.below B1.out).mono (by omega)) HKI.out (by rw [HN1.out]; omega) rc.out)
    go_enter Try.func4, Try.ntmps4
    go_upto_region 8 with (first
      | (go_at_call 13; refine (write_nil _ a x).mono ?_; rintro e w' ⟨rfl, rfl⟩)
      | (go_at_call 14; refine (read_nil _ a).mono ?_; rintro e w' ⟨rfl, rfl⟩)
      | (go_at_call 15; refine KO.out.mono ?_; rintro e w2 ⟨r, bv, rfl, ht, hbv, rc2, hk2⟩))
    obtain ⟨A, cap, rfl, _⟩ := ht
    have k2 : w2.cell? ⟨g, 0, none⟩ = some (.pointer (some ⟨bv, 0, none⟩)) := by rw [cell_of_row _ _ _ _ _ _ rc2]; rfl
    have B2 : Hid (Below g w w2) := B1.out.trans (hk2.below (by omega) (fun k hk => by omega))
    have WN := Lib.hid (write_not hbv a x); have RN := Lib.hid (read_not hbv a)
    have hgw : g ≤ w2.heap.size := by have := B2.out.size; omega
    clear hk2 rc2 KO k0 hw1
    go_wp2_with (first
      | (go_at_call 13; refine WN.out.mono ?_; rintro e w' ⟨rfl, rfl⟩)
      | (go_at_call 14; refine RN.out.mono ?_; rintro e w' ⟨rfl, rfl⟩)
      | (go_at_call 15; refine (run_nil _ _).mono ?_; rintro e w' ⟨rfl, rfl⟩)
      | (go_at_call 9; refine (lives_any _).mono ?_; rintro e w8 ⟨rfl, hb8⟩))
    go_ret
    exact ⟨rfl, B2.out.trans (hb8.mono hgw)⟩

set_option maxRecDepth 100000 in
theorem walk {H : Type} {enc : TypeId × Value → H} {base : Nat} {spare : Nat → Bool} {held : Bool} {d0 : DataW H} {p0 : List MemPlace} {r : Reach} {b0 : Nat} (v0 : Value) (a x : Int) (w : World)
    (hv0 : Value.okWide Try.prog w r b0 22 v0) (t0 : DataW.Trod enc Try.prog w base spare held 22 v0 d0 p0) (_ : (Lit.int .i64 a).wf = true) (_ : (Lit.int .i64 x).wf = true) :
    Calls Try.prog 4 #[v0, .int .i64 a, .int .i64 x] w fun e w' => e = .returned (.bool true) ∧ Below w.heap.size w w' := by
  obtain ⟨kn, h1, h2⟩ := known_of hv0 t0
  exact walk_in h1 h2 a x

end VOver
end Go.Proofs.Ytfmjcinhjbihoaa
