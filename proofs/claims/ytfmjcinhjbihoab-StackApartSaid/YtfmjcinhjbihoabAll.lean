import Derived.Test.YtfmjcinhjbihoabPairs
namespace Go.Proofs.Ytfmjcinhjbihoab
open Go.RowKit Go.Bas SorPlain Go.Sor IMap_ VIn VPlain MapI
namespace View

/-- pairs in a row of the call's own -/
def Told (w : World) (base : Nat) (m : M) (v : Value) : Prop := ∃ A cap, v = .slice A m.length cap ∧ w.ownsRow base 52 2 v m.length (flat (vals m))

theorem flat_at (m : M) (i : Nat) (h : i < m.length) : (flat (vals m))[i * 2]? = some (.int .i64 m[i].1) ∧ (flat (vals m))[i * 2 + 1]? = some (.int .i64 m[i].2) := by
  have h' : i < (vals m).length := by rw [vals_length]; exact h
  refine ⟨?_, ?_⟩
  · rw [flat_key _ _ h']
    have : (vals m).map (·.1) = m.map (·.1) := by simp [vals]
    rw [this]; simp [h]
  · rw [flat_val _ _ h']
    have : (vals m).map (·.2) = (m.map (·.2)).map (Value.int .i64) := by simp [vals]
    rw [this]; simp [h]
theorem Told.low {w : World} {base base' : Nat} {m : M} {v : Value} (h : Told w base m v) (hb : base' ≤ base) : Told w base' m v := by
  obtain ⟨A, cap, rfl, hl, hr⟩ := h
  refine ⟨A, cap, rfl, hl, ?_⟩
  rcases hr with h | ⟨g, cp, cur, hv, hg, r⟩
  · exact .inl h
  · exact .inr ⟨g, cp, cur, hv, by omega, r⟩
theorem Told.block {w : World} {base : Nat} {m : M} {v : Value} (h : Told w base m v) {k : Nat} (e : v.ownBlock = some k) : base ≤ k := by
  obtain ⟨A, cap, rfl, hl, hr⟩ := h
  rcases hr with ⟨h, _⟩ | ⟨g, cp, cur, hv, hg, r⟩
  · rw [h] at e; simp [Value.ownBlock] at e
  · rw [hv] at e; simp [Value.ownBlock] at e; omega
theorem Told.pairs {w : World} {base : Nat} {m : M} {v : Value} (h : Told w base m v) : Pairs w w.heap.size v m := by
  obtain ⟨A, cap, rfl, hl, hr⟩ := h
  rcases hr with ⟨hv, hn⟩ | ⟨g, cp, cur, hv, hg, hh, hc, hcm, hcs, ht⟩
  · exact ⟨A, cap, rfl, by omega, fun h => by omega⟩
  · simp only [Value.slice.injEq] at hv
    obtain ⟨rfl, _, rfl⟩ := hv
    refine ⟨_, cap, rfl, by omega, fun _ => ⟨g, 0, rfl, (Array.getElem?_eq_some_iff.1 hh).1, fun i hi => ?_⟩⟩
    obtain ⟨h1, h2⟩ := flat_at m i hi
    exact ⟨by rw [Nat.zero_add]; exact row_cell hh ht h1, by rw [Nat.zero_add]; exact row_cell hh ht h2⟩

set_option maxHeartbeats 1000000 in
theorem pairs_any {w : World} {b : Nat} {v : Value} {m : M} (h : IsMap TM TE w b v (vals m)) (hn : m.length ≤ 1000) :
    Calls Try.prog 29 #[.pointer (some ⟨b, 0, none⟩)] w fun e w' => ∃ r, e = .returned r ∧ Told w' w.heap.size m r ∧ Below w.heap.size w w' := by
  have H := Lib.hid h
  have ce := each_any (b := b) (xs := vals m) 36 #[.pointer (some ⟨w.heap.size, 0, none⟩)] (fun i w' => Gath w w' w.heap.size (m.take i)) (fun w' => Gath w w' w.heap.size m) (by rw [vals_length]; omega)
    (callFunc_run Try.func36 (by kernel_rfl) (by kernel_rfl))
    (fun i w' hg => by
      obtain ⟨A, cap, _, _, hb, _⟩ := hg
      exact ⟨v, h.kept fun k hk => hb.block k (h.lt k hk)⟩)
    (fun i w' n hg => by
      obtain ⟨A, cap, h1, h2, hb, h4⟩ := hg
      exact ⟨A, cap, h1, h2, hb.trans (drewN_below _ _ _), h4⟩)
    (fun i hi w' hg => by
      have hi' : i < m.length := by rw [vals_length] at hi; exact hi
      have e : m.take (i + 1) = m.take i ++ [(m[i].1, m[i].2)] := List.take_succ_eq_append_getElem hi'
      have k1 : (keys (vals m)).getD i 0 = m[i].1 := by rw [keys_vals]; simp [keys, hi']
      have k2 : ((vals m).map (·.2)).getD i undef = .int .i64 m[i].2 := by
        have : (vals m).map (·.2) = (m.map (·.2)).map (Value.int .i64) := by simp [vals]
        rw [this]; simp [hi']
      have := callback hg (by simp; omega) m[i].1 m[i].2
      rw [k1, k2]
      exact this.mono fun e' w'' ⟨he, hg'⟩ => ⟨true, he, fun _ => by rw [e]; exact hg', fun h => by cases h⟩)
    (fun w' hg => by rw [List.take_of_length_le (by rw [vals_length]; exact Nat.le_refl _)] at hg; exact hg)
    (w.alloc (.cells #[.slice none 0 0] 26))
    ⟨none, 0, One.new _ _ _, by simpa [vals, flat] using World.ownsRow_nil _ _ _ _, (Below.refl _ _).alloc (Nat.le_refl _) _, by simp⟩
  clear h
  go_enter Try.func29, Try.ntmps29
  go_wp2_with fail
  go_at_call 35
  refine ce.mono ?_
  rintro e w1 ⟨rfl, A, cap, h1, h2, hb, h4⟩
  have g := h1.cell
  have fin : Hid (Told w1 w.heap.size m (.slice A m.length cap) ∧ Below w.heap.size w w1) := by
    refine ⟨⟨A, cap, rfl, ?_⟩, hb⟩
    obtain ⟨k1, k2⟩ := h2
    refine ⟨k1, ?_⟩
    rcases k2 with k2 | ⟨g, cp, cur, e, hl, r⟩
    · exact .inl k2
    · exact .inr ⟨g, cp, cur, e, by omega, r⟩
  clear h1 h2 hb h4 ce
  go_wp2
  go_ret
  exact ⟨_, rfl, fin.out⟩

/-- what all leaves -/
def AllOut (A : Ask) (P C : Nat → Prop) (R : (Int ⊕ M) × List Int) (Φ : World → Prop) (w : World) (e : Ending) (w' : World) : Prop :=
  (∃ m r, R.1 = .inr m ∧ e = .returned (.tuple #[.int .i64 (-1), r]) ∧ Told w' w.heap.size m r ∧ (∃ S', A.I R.2 S' w' ∧ ∀ k, S' k → ¬ P k ∧ r.ownBlock ≠ some k) ∧ Chg (fun k => ¬ P k ∨ C k) w w' ∧ PIn m ∧ ∀ w3 : World, (∀ k, k < w'.heap.size → w3.heap[k]? = w'.heap[k]?) → Φ w3) ∨
  (∃ a, R.1 = .inl a ∧ e = .returned (.tuple #[.int .i64 a, .slice none 0 0]) ∧ (∃ S', A.I R.2 S' w' ∧ ∀ k, S' k → ¬ P k) ∧ Chg (fun k => ¬ P k ∨ C k) w w' ∧ ∀ w3 : World, (∀ k, k < w'.heap.size → w3.heap[k]? = w'.heap[k]?) → Φ w3)

set_option maxRecDepth 100000 in
set_option maxHeartbeats 4000000 in
theorem all_any {A : Ask} {P : Nat → Prop} {w : World} {S : Nat → Prop} (hI : A.I [] S w) (hP : ∀ k, P k → k < w.heap.size ∧ ¬ S k) (hB : A.B ≤ w.heap.size) (pf : FuncId) (pcap : Array Value) (R : (Int ⊕ M) × List Int)
    (hrun : ∀ args w, (callFunc pf args).run Try.prog w = .ok (.enter pf args) w)
    (C : Nat → Prop) (hC : ∀ k, C k → P k) (Φ : World → Prop)
    (hprog : ∀ bv bm Q w', (∀ k, P k → Q k) → Below w.heap.size w w' → VWs A Q bv bm true [] [] w' → Calls Try.prog pf (#[.pointer (some ⟨bv, 0, none⟩)] ++ pcap) w' (Left A P C Q bv bm R Φ w'))
    (hm : ∀ m, R.1 = .inr m → m.length ≤ 1000) (ha : ∀ a, R.1 = .inl a → 0 ≤ a) :
    Calls Try.prog 17 #[.func (.func A.fn) A.first A.cap, .func (.func pf) #[] pcap] w (AllOut A P C R Φ w) := by
  obtain ⟨g, hg⟩ : ∃ g, w.heap.size = g := ⟨_, rfl⟩
  obtain ⟨w1, hw1⟩ : ∃ w1, w.alloc (.cells #[.slice none 0 0] 71) = w1 := ⟨_, rfl⟩
  have s1 : w1.heap.size = g + 1 := by rw [← hw1, ← hg]; simp
  have NW := new_any w
  rw [hw1, hg] at NW
  obtain ⟨w2, hw2⟩ : ∃ w2, w1.alloc (.cells #[.func (.func A.fn) A.first A.cap, .pointer (some ⟨g, 0, none⟩), .bool true] 65) = w2 := ⟨_, rfl⟩
  have s2 : w2.heap.size = g + 2 := by rw [← hw2]; simp; omega
  have b2 : Below g w w2 := by rw [← hw2, ← hw1, ← hg]; exact ((Below.refl _ _).alloc (Nat.le_refl _) _).alloc (by simp) _
  have hlt := A.lt _ _ _ hI
  have hv : VWs A P (g + 1) g true [] [] w2 := by
    have im := isMap_new 71 78 w
    rw [hw1, hg] at im
    have hfp : ∀ k, fp g (.slice none 0 0) k → k = g := fun k hk => by
      rcases hk with rfl | hk
      · rfl
      · simp [Value.ownBlock] at hk
    refine ⟨S, .slice none 0 0, ⟨A.keep _ _ _ _ _ hI (Chg.of_below (hg ▸ b2)) (fun k hk => ?_) (fun k hk hr => by have := A.rlt k hr; omega), ?_, ?_, ?_, ?_, ⟨by omega, ?_⟩, ?_⟩, fun k hk => ?_⟩
    · have := (hlt k hk).2; omega
    · rw [← hw2, ← s1]; exact new_row _ _ _
    · refine im.kept fun k hk => ?_
      rw [hfp k hk, ← hw2, alloc_heap _ _ _ (by omega)]
    · intro k hk
      have := (hlt k hk).2
      exact ⟨fun hf => by rw [hfp k hf] at this; omega, by omega⟩
    · intro hf; have := hfp _ hf; omega
    · intro k hk; rw [hfp k hk]; omega
    · intro p hp; simp at hp
    · obtain ⟨p1, p2⟩ := hP k hk
      exact ⟨by omega, p2, fun hf => by rw [hfp k hf] at p1; omega, by omega⟩
  have RN := run_any hv pf pcap R hrun C hC Φ (fun Q w' hQ hb hv' => hprog (g + 1) g Q w' hQ (hg ▸ b2.trans (hb.mono (by omega))) hv')
  have RNH := Lib.hid RN
  have B2 : Hid (Chg (fun k => ¬ P k ∨ C k) w w2) := (Chg.of_below b2).mono (fun k _ h => .inl fun hp => by have := (hP k hp).1; omega)
  have HM := Lib.hid hm; have HA := Lib.hid ha
  have HP := Lib.hid hP
  clear hprog hv RN b2 hm ha hI hP
  obtain ⟨af, haf⟩ : ∃ f, A.fn = f := ⟨_, rfl⟩
  obtain ⟨ac, hac⟩ : ∃ c, A.cap = c := ⟨_, rfl⟩
  obtain ⟨a0, ha0⟩ : ∃ c, A.first = c := ⟨_, rfl⟩
  rw [haf, hac, ha0] at hw2 ⊢
  clear haf hac ha0
  go_enter Try.func17, Try.ntmps17
  go_wp2_with (first
    | (go_at_call 27; refine NW.mono ?_; rintro e w' ⟨rfl, rfl⟩))
  refine RNH.out.mono ?_
  rintro e w3 ⟨N, hN, (⟨m, hR, rfl, hv3⟩ | ⟨a, m, hR, rfl, hv3⟩), hk3, hF3⟩
  · have HSZ : Hid (∀ k, P k ∨ N k → k < w3.heap.size) := fun k hk => hv3.size hk
    obtain ⟨S', v', hv3, hP3⟩ := hv3
    have k1 : w3.cell? ⟨g + 1, 1, none⟩ = some (.pointer (some ⟨g, 0, none⟩)) := by rw [cell_of_row _ _ _ _ _ _ hv3.row]; rfl
    have PA := Lib.hid (pairs_any hv3.map (HM.out m hR))
    have hlt' := A.lt _ _ _ hv3.inv
    have hbv : g + 1 < w3.heap.size := (Array.getElem?_eq_some_iff.1 hv3.row).1
    have HV := Lib.hid hv3; have HP3 := Lib.hid hP3; have HR := Lib.hid hR; have HK := Lib.hid hk3; have HL := Lib.hid hlt'; have HF := Lib.hid hF3
    clear hv3 hP3 hR hk3 hlt' hF3 hN
    go_wp2_with (first
      | (go_at_call 29; refine PA.out.mono ?_; rintro e w4 ⟨r, rfl, ht4, hb4⟩))
    have hb4 := hb4; have ht4 := ht4
    go_ret2
    refine .inl ⟨m, r, HR.out, rfl, ht4.low (by omega), ⟨S', A.keep _ _ _ _ _ HV.out.inv (Chg.of_below hb4) (fun k hk => by have := (HL.out k hk).2; omega) (fun k hk hr => by have := A.rlt k hr; have := HV.out.low.1; omega), fun k hk => ⟨fun hp => (HP3.out k (.inl hp)).2.1 hk, fun e => ?_⟩⟩, (B2.out.trans HK.out).trans ((Chg.of_below hb4).mono (fun k _ h => .inl fun hp => by have := (HP3.out k (.inl hp)).1; omega)), HV.out.rng, fun w5 h5 => HF.out w5 fun k hk => ?_⟩
    · have h1 := ht4.block e
      have h2 := (HL.out k hk).2
      omega
    · have := HSZ.out k hk
      rw [h5 k (by have := hb4.size; omega), hb4.block k this]
  · have HR := Lib.hid hR; have HK := Lib.hid hk3; have HV := Lib.hid hv3; have HF := Lib.hid hF3
    have hane : ¬ a = -1 := by have := HA.out a hR; omega
    clear hR hk3 hv3 hF3 hN
    go_wp2
    go_ret2
    have HSZ : ∀ k, P k ∨ N k → k < w3.heap.size := fun k hk => HV.out.size hk
    obtain ⟨S', v', hv3, hP3⟩ := HV.out
    exact .inr ⟨a, HR.out, rfl, ⟨S', hv3.inv, fun k hk hp => (hP3 k (.inl hp)).2.1 hk⟩, B2.out.trans HK.out, fun w5 h5 => HF.out w5 fun k hk => h5 k (HSZ k hk)⟩

end View
end Go.Proofs.Ytfmjcinhjbihoab
