import Derived.Test.YtfmjcinhjbihoaaVRuns
namespace Go.Proofs.Ytfmjcinhjbihoaa
open Go.RowKit Go.Bas SorPlain Go.Sor IMap_ VIn VPlain MapI
namespace View

/-- the closure that keeps the view -/
theorem store_over {w : World} {bv c : Nat} {x0 : Option Addr} (rc : w.heap[c]? = some (.cells #[.pointer x0] 30 (0, 0))) :
    Calls Try.prog 16 #[.pointer (some ⟨bv, 0, none⟩), .pointer (some ⟨c, 0, none⟩)] w fun e w' => e = .returned (.tuple #[]) ∧ w' = w.setCell ⟨c, 0, none⟩ (.pointer (some ⟨bv, 0, none⟩)) := by
  have k0 : w.cell? ⟨c, 0, none⟩ = some (.pointer x0) := by rw [cell_of_row _ _ _ _ _ _ rc]; rfl
  have f0 : w.frozen? ⟨c, 0, none⟩ = false := row_frozen rc 0
  clear rc
  go_enter Try.func16, Try.ntmps16
  go_wp2
  go_end0
  exact ⟨rfl, rfl⟩
theorem write_not {w : World} {bv : Nat} (h : w.cell? ⟨bv, 2, none⟩ = some (.bool false)) (a x : Int) :
    Calls Try.prog 13 #[.pointer (some ⟨bv, 0, none⟩), .int .i64 a, .int .i64 x] w fun e w' => e = .returned (.tuple #[]) ∧ w = w' := by
  go_enter Try.func13, Try.ntmps13
  go_wp2
  exact bodyPost_ret (results_none rfl _ _ _) rfl ⟨rfl, rfl⟩
theorem read_not {w : World} {bv : Nat} (h : w.cell? ⟨bv, 2, none⟩ = some (.bool false)) (a : Int) :
    Calls Try.prog 14 #[.pointer (some ⟨bv, 0, none⟩), .int .i64 a] w fun e w' => e = .returned (.int .i64 0) ∧ w = w' := by
  go_enter Try.func14, Try.ntmps14
  go_wp2
  go_ret
  exact ⟨rfl, rfl⟩
theorem write_nil (w : World) (a x : Int) :
    Calls Try.prog 13 #[.pointer none, .int .i64 a, .int .i64 x] w fun e w' => e = .returned (.tuple #[]) ∧ w = w' := by
  go_enter Try.func13, Try.ntmps13
  go_wp2
  exact bodyPost_ret (results_none rfl _ _ _) rfl ⟨rfl, rfl⟩
theorem read_nil (w : World) (a : Int) :
    Calls Try.prog 14 #[.pointer none, .int .i64 a] w fun e w' => e = .returned (.int .i64 0) ∧ w = w' := by
  go_enter Try.func14, Try.ntmps14
  go_wp2
  go_ret
  exact ⟨rfl, rfl⟩
theorem run_nil (w : World) (s : Value) :
    Calls Try.prog 15 #[s, .nilFunc] w fun e w' => e = .returned (.tuple #[.int .i64 (-1), .slice none 0 0]) ∧ w = w' := by
  have heq : ∀ w : World, (binOp BinOp.eql 34 .nilFunc .nilFunc).run Try.prog w = .ok (.bool true) w := fun _ => by kernel_rfl
  go_enter Try.func15, Try.ntmps15
  go_wp2
  go_ret2
  exact ⟨rfl, rfl⟩

set_option maxRecDepth 100000 in
set_option maxHeartbeats 2000000 in
theorem run_over {A : Ask} {P : Nat → Prop} {bv bm c : Nat} {x0 : Option Addr} {w : World} (h : VWs A P bv bm true [] [] w) (hcP : P c) (rc : w.heap[c]? = some (.cells #[.pointer x0] 30 (0, 0))) :
    Calls Try.prog 35 #[.pointer (some ⟨bv, 0, none⟩), .func (.func 16) #[] #[.pointer (some ⟨c, 0, none⟩)]] w fun e w' =>
      e = .returned (.int .i64 (-1)) ∧ VWs A P bv bm false [] [] w' ∧ w'.heap[c]? = some (.cells #[.pointer (some ⟨bv, 0, none⟩)] 30 (0, 0)) ∧ Chg (fun k => ¬ P k ∨ k = c) w w' := by
  have hrun := callFunc_run (P := Try.prog) Try.func16 (by kernel_rfl) (by kernel_rfl)
  have hmf : ∀ (fn : Fn) (first cap : Array Value) (w : World), (Instr.makeFunc fn first cap).run Try.prog w = .ok (.func fn first cap) w := fun _ _ _ _ => rfl
  obtain ⟨g, hg⟩ : ∃ g, w.heap.size = g := ⟨_, rfl⟩
  obtain ⟨w1, hw1⟩ : ∃ w1, (w.alloc (.cells #[.pointer (some ⟨bv, 0, none⟩)] 30)).alloc (.cells #[.int .i64 0] 3) = w1 := ⟨_, rfl⟩
  have s1 : w1.heap.size = g + 2 := by rw [← hw1, ← hg]; simp
  have b1 : Below g w w1 := by rw [← hw1, ← hg]; exact ((Below.refl _ _).alloc (Nat.le_refl _) _).alloc (by simp) _
  have r1 : Hid (w1.heap[g]? = some (.cells #[.pointer (some ⟨bv, 0, none⟩)] 30 (0, 0))) := by rw [← hw1, Hid, alloc_heap _ _ _ (by simp; omega), ← hg]; exact new_row _ _ _
  have r2 : Hid (w1.heap[g + 1]? = some (.cells #[.int .i64 0] 3 (0, 0))) := by
    rw [← hw1, Hid, show g + 1 = (w.alloc (.cells #[.pointer (some ⟨bv, 0, none⟩)] 30)).heap.size by rw [← hg]; simp]
    exact new_row _ _ _
  have hP : ∀ k, P k → k < g := fun k hk => by
    obtain ⟨S, v, _, hP⟩ := h
    have := (hP k hk).1; omega
  obtain ⟨Q, hQ⟩ : ∃ Q : Nat → Prop, Q = fun k => P k ∨ k = g ∨ k = g + 1 := ⟨_, rfl⟩
  have hv1 : VWs A Q bv bm true [] [] w1 := h.add (hg ▸ b1) (fun k hk => by
    rw [hQ] at hk
    rcases hk with hk | hk | hk
    · exact .inl hk
    · exact .inr ⟨by omega, by omega⟩
    · exact .inr ⟨by omega, by omega⟩)
  have hPQ : ∀ k, P k → Q k := fun k hk => by rw [hQ]; exact .inl hk
  have q1 : Q g := by rw [hQ]; exact .inr (.inl rfl)
  have q2 : Q (g + 1) := by rw [hQ]; exact .inr (.inr rfl)
  have hcg := hP c hcP
  have qc : Q c := hPQ c hcP
  have rc1 : Hid (w1.heap[c]? = some (.cells #[.pointer x0] 30 (0, 0))) := by rw [Hid, b1.block c hcg]; exact rc
  have hp := Lib.hid (store_over (bv := bv) rc1.out)
  have HV1 := Lib.hid hv1
  have QC := Lib.hid qc
  have B1 := Lib.hid b1
  have HPQ := Lib.hid hPQ; have HP := Lib.hid hP
  have Q1 := Lib.hid q1; have Q2 := Lib.hid q2
  have kp : w1.cell? ⟨g, 0, none⟩ = some (.pointer (some ⟨bv, 0, none⟩)) := by rw [cell_of_row _ _ _ _ _ _ r1.out]; rfl
  clear h hv1 hPQ b1 hP q1 q2 hQ rc hcP qc
  go_enter_defers Try.func35, Try.ntmps35
  go_wp2_with fail
  refine hp.out.mono ?_
  rintro e w2 ⟨rfl, hw2⟩
  have HC2 : Hid (Chg (fun k => k = c) w1 w2) := by rw [hw2]; exact Chg.setCell _ _ _ rfl
  have HV2 := Lib.hid (HV1.out.cell QC.out HC2.out)
  have rc2 : Hid (w2.heap[c]? = some (.cells #[.pointer (some ⟨bv, 0, none⟩)] 30 (0, 0))) := by rw [hw2, Hid, setCell_row rc1.out]; exact setRow_same rc1.out
  have r1' : Hid (w2.heap[g]? = some (.cells #[.pointer (some ⟨bv, 0, none⟩)] 30 (0, 0))) := by rw [Hid, HC2.out.block _ (by omega) (by omega)]; exact r1.out
  have r2' : Hid (w2.heap[g + 1]? = some (.cells #[.int .i64 0] 3 (0, 0))) := by rw [Hid, HC2.out.block _ (by omega) (by omega)]; exact r2.out
  have c3 : w2.cell? ⟨g + 1, 0, none⟩ = some (.int .i64 0) := by rw [cell_of_row _ _ _ _ _ _ r2'.out]; rfl
  have f3 : w2.frozen? ⟨g + 1, 0, none⟩ = false := row_frozen r2'.out 0
  clear hw2 kp
  go_wp2
  refine leaves_cons (f := 37) (args := #[.pointer (some ⟨g, 0, none⟩), .pointer (some ⟨g + 1, 0, none⟩)]) (by simp) (by simp [go_sem]) ?_
  refine (defer_any (A := A) (P := Q) (qs := []) (m := []) (x := -1) (HV2.out.cell Q2.out (Chg.setCell _ _ _ rfl)) Q1.out Q2.out (by rw [heap_setCell_other _ _ _ _ (by simp)]; exact r1'.out) (by rw [setCell_row r2'.out]; exact setRow_same r2'.out) none).mono ?_
  rintro e u' w3 ⟨rfl, rfl, hv3, r3, hc3⟩
  have hc : Chg (fun k => ¬ P k ∨ k = c) w w3 := by
    refine ((Chg.of_below (B := g) B1.out).mono (fun k hk h => .inl (fun hp => by have := HP.out k hp; omega))).trans ?_
    refine (HC2.out.mono (fun k _ h => .inr h)).trans ?_
    refine Chg.trans (Chg.setCell w2 ⟨g + 1, 0, none⟩ (.int .i64 (-1)) (.inl (fun hp => by have := HP.out _ hp; simp at this; omega))) (hc3.mono (fun k _ h => ?_))
    rcases h with h | h
    · exact .inl (fun hp => h (HPQ.out k hp))
    · exact .inl (fun hp => by have := HP.out k hp; omega)
  have rc3 : w3.heap[c]? = some (.cells #[.pointer (some ⟨bv, 0, none⟩)] 30 (0, 0)) := by
    rw [hc3.block c (by have := HC2.out.size; have h : (w2.setCell ⟨g + 1, 0, none⟩ (.int .i64 (-1))).heap.size = w2.heap.size := by simp [World.setCell]
                        omega) (fun h => by rcases h with h | h; · exact h QC.out
                                            · omega), heap_setCell_other _ _ _ _ (by simp; omega)]
    exact rc2.out
  have c3 : w3.cell? ⟨g + 1, 0, none⟩ = some (.int .i64 (-1)) := by rw [cell_of_row _ _ _ _ _ _ r3]; rfl
  have hl := hv3.less HPQ.out
  simp [Leaves, settle, results, Try.results35, go_sem, mode', c3]
  exact ⟨hl, rc3, hc⟩

set_option maxRecDepth 100000 in
set_option maxHeartbeats 4000000 in
theorem all_over {A : Ask} {P : Nat → Prop} {c : Nat} {x0 : Option Addr} {w : World} {S : Nat → Prop} (hI : A.I [] S w) (hP : ∀ k, P k → k < w.heap.size ∧ ¬ S k) (hB : A.B ≤ w.heap.size) (hcP : P c) (rc : w.heap[c]? = some (.cells #[.pointer x0] 30 (0, 0))) :
    Calls Try.prog 30 #[.func (.func A.fn) #[] A.cap, .func (.func 16) #[] #[.pointer (some ⟨c, 0, none⟩)]] w fun e w' =>
      ∃ r bv, e = .returned (.tuple #[.int .i64 (-1), r]) ∧ Told w' w.heap.size [] r ∧ w'.cell? ⟨bv, 2, none⟩ = some (.bool false) ∧ w'.heap[c]? = some (.cells #[.pointer (some ⟨bv, 0, none⟩)] 30 (0, 0)) ∧ Chg (fun k => ¬ P k ∨ k = c) w w' := by
  obtain ⟨g, hg⟩ : ∃ g, w.heap.size = g := ⟨_, rfl⟩
  obtain ⟨w1, hw1⟩ : ∃ w1, w.alloc (.cells #[.slice none 0 0] 72) = w1 := ⟨_, rfl⟩
  have s1 : w1.heap.size = g + 1 := by rw [← hw1, ← hg]; simp
  have NW := new_any w
  rw [hw1, hg] at NW
  obtain ⟨w2, hw2⟩ : ∃ w2, w1.alloc (.cells #[.func (.func A.fn) #[] A.cap, .pointer (some ⟨g, 0, none⟩), .bool true] 58) = w2 := ⟨_, rfl⟩
  have s2 : w2.heap.size = g + 2 := by rw [← hw2]; simp; omega
  have b2 : Below g w w2 := by rw [← hw2, ← hw1, ← hg]; exact ((Below.refl _ _).alloc (Nat.le_refl _) _).alloc (by simp) _
  have hlt := A.lt _ _ _ hI
  have hv : VWs A P (g + 1) g true [] [] w2 := by
    have im := isMap_new 72 69 w
    rw [hw1, hg] at im
    have hfp : ∀ k, fp g (.slice none 0 0) k → k = g := fun k hk => by
      rcases hk with rfl | hk
      · rfl
      · simp [Value.ownBlock] at hk
    refine ⟨S, .slice none 0 0, ⟨A.keep _ _ _ _ _ hI (Chg.of_below (hg ▸ b2)) (fun k hk => ?_), ?_, ?_, ?_, ?_, ⟨by omega, ?_⟩, ?_⟩, fun k hk => ?_⟩
    · have := (hlt k hk).2; omega
    · rw [← hw2, ← s1]; exact new_row _ _ _
    · refine im.kept fun k hk => ?_
      rw [hfp k hk, ← hw2, alloc_heap _ _ _ (by omega)]
    · intro k hk
      have := (hlt k hk).2
      exact ⟨fun hf => by rw [hfp k hf] at this; omega, by omega⟩
    · intro hf; have := hfp _ hf; omega
    · intro k hk; rw [hfp k hk]; omega
    · intro p hp; simp at hp
    · obtain ⟨p1, p2⟩ := hP k hk
      exact ⟨by omega, p2, fun hf => by rw [hfp k hf] at p1; omega, by omega⟩
  have RN := run_over (c := c) (x0 := x0) hv hcP (by rw [b2.block c (by have := (hP c hcP).1; omega)]; exact rc)
  have RNH := Lib.hid RN
  have B2 : Hid (Kept P w w2) := (Chg.of_below b2).mono (fun k _ h hp => by have := (hP k hp).1; omega)
  have HP := Lib.hid hP
  have HCP := Lib.hid hcP
  clear hv RN b2 hI hP rc hcP
  obtain ⟨af, haf⟩ : ∃ f, A.fn = f := ⟨_, rfl⟩
  obtain ⟨ac, hac⟩ : ∃ c, A.cap = c := ⟨_, rfl⟩
  rw [haf, hac] at hw2 ⊢
  clear haf hac
  go_enter Try.func30, Try.ntmps30
  go_wp2_with (first
    | (go_at_call 34; refine NW.mono ?_; rintro e w' ⟨rfl, rfl⟩))
  go_at_call 35
  refine RNH.out.mono ?_
  rintro e w3 ⟨rfl, hv3, rc3, hk3⟩
  obtain ⟨S', v', hv3, hP3⟩ := hv3
  have k1 : w3.cell? ⟨g + 1, 1, none⟩ = some (.pointer (some ⟨g, 0, none⟩)) := by rw [cell_of_row _ _ _ _ _ _ hv3.row]; rfl
  have PA := Lib.hid (pairs_any (m := []) hv3.map (by simp))
  have hbv : g + 1 < w3.heap.size := (Array.getElem?_eq_some_iff.1 hv3.row).1
  have HV := Lib.hid hv3; have HP3 := Lib.hid hP3; have HK := Lib.hid hk3; have RC := Lib.hid rc3
  clear hv3 hP3 hk3 rc3
  go_wp2_with (first
    | (go_at_call 36; refine PA.out.mono ?_; rintro e w4 ⟨r, rfl, ht4, hb4⟩))
  have hb4 := hb4; have ht4 := ht4
  go_ret2
  have hcl := (HP3.out c HCP.out).1
  refine ⟨r, g + 1, rfl, ht4.low (by omega), ?_, by rw [hb4.block c hcl]; exact RC.out, ((B2.out.mono (fun k _ h => .inl h)).trans HK.out).trans ((Chg.of_below hb4).mono (fun k _ h => .inl (fun hp => by have := (HP3.out k hp).1; omega)))⟩
  rw [hb4.cell hbv, cell_of_row _ _ _ _ _ _ HV.out.row]; rfl

set_option maxRecDepth 100000 in
set_option maxHeartbeats 4000000 in
theorem known_over {w : World} {s : Value} {l : M} {c : Nat} {x0 : Option Addr} (h : Pairs w w.heap.size s l) (hl : PIn l) (hn : l.length ≤ 1000) (rc : w.heap[c]? = some (.cells #[.pointer x0] 30 (0, 0))) :
    Calls Try.prog 15 #[s, .func (.func 16) #[] #[.pointer (some ⟨c, 0, none⟩)]] w fun e w' =>
      ∃ r bv, e = .returned (.tuple #[.int .i64 (-1), r]) ∧ Told w' w.heap.size [] r ∧ w'.cell? ⟨bv, 2, none⟩ = some (.bool false) ∧ w'.heap[c]? = some (.cells #[.pointer (some ⟨bv, 0, none⟩)] 30 (0, 0)) ∧ Chg (fun k => w.heap.size ≤ k ∨ k = c) w w' := by
  have hmf : ∀ (fn : Fn) (first cap : Array Value) (w : World), (Instr.makeFunc fn first cap).run Try.prog w = .ok (.func fn first cap) w := fun _ _ _ _ => rfl
  have hneq : ∀ w : World, (binOp BinOp.eql 34 (.func (.func 16) #[] #[.pointer (some ⟨c, 0, none⟩)]) .nilFunc).run Try.prog w = .ok (.bool false) w := fun _ => by kernel_rfl
  obtain ⟨g, hg⟩ : ∃ g, w.heap.size = g := ⟨_, rfl⟩
  have FS := Lib.hid (firsts_any h hl hn)
  have hcg : c < w.heap.size := (Array.getElem?_eq_some_iff.1 rc).1
  rw [hg] at FS hcg ⊢
  have HL := Lib.hid hl; have RC := Lib.hid rc
  clear hl hn h rc
  go_enter Try.func15, Try.ntmps15
  go_upto_region 5 with (first
    | (go_at_call 28; refine FS.out.mono ?_; rintro e w2 ⟨rfl, hi2, hb2⟩))
  have hs2 := hb2.size
  have hgl := hi2.lt
  obtain ⟨q, hq⟩ : ∃ q, w2.heap.size = q := ⟨_, rfl⟩
  obtain ⟨w3, hw3⟩ : ∃ w3, w2.alloc (.cells #[.map (some g)] 61) = w3 := ⟨_, rfl⟩
  rw [hw3, hq]
  have s3 : w3.heap.size = q + 1 := by rw [← hw3, ← hq]; simp
  have r3 : w3.heap[q]? = some (.cells #[.map (some g)] 61 (0, 0)) := by rw [← hw3, ← hq]; exact new_row _ _ _
  have i3 : IMap w3 g l.length (first l) := hi2.block (by rw [← hw3]; exact alloc_heap _ _ _ (by omega))
  have b3 : Below g w w3 := by rw [← hw3]; exact hb2.alloc (by omega) _
  have AL := Lib.hid (all_over (A := askK g q g l.length l HL.out ⟨by omega, Nat.le_refl _⟩) (P := fun k => k < g) (c := c) (x0 := x0) (w := w3) (S := fun k => k = q ∨ k = g) ⟨r3, i3, rfl⟩
    (fun k hk => ⟨by omega, by omega⟩) (by show g ≤ _; omega) hcg (by rw [b3.block c hcg]; exact RC.out))
  have B3 := Lib.hid b3
  clear hw3 hi2 hb2 i3 r3 b3
  go_wp2_with (first
    | (go_at_call 30; refine AL.out.mono ?_; rintro e w4 ⟨r, bv, rfl, ht, hbv, rc4, hk⟩))
  have fin : Hid (Told w4 g [] r ∧ w4.cell? ⟨bv, 2, none⟩ = some (.bool false) ∧ w4.heap[c]? = some (.cells #[.pointer (some ⟨bv, 0, none⟩)] 30 (0, 0)) ∧ Chg (fun k => g ≤ k ∨ k = c) w w4) :=
    ⟨ht.low (by omega), hbv, rc4, ((Chg.of_below B3.out).mono (fun k _ h => .inl h)).trans (hk.mono (fun k _ h => by rcases h with h | h; · exact .inl (by omega)
                                                                                                                     · exact .inr h))⟩
  clear ht hbv rc4 hk
  go_wp2
  go_ret2
  exact ⟨r, bv, rfl, fin.out⟩

end View
end Go.Proofs.Ytfmjcinhjbihoaa
