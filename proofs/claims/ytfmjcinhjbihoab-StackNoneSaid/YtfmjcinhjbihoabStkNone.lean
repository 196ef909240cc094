import Derived.Test.YtfmjcinhjbihoabStkLives
import Derived.Test.YtfmjcinhjbihoabStkOver
import Derived.Test.YtfmjcinhjbihoabTW
import Derived.Test.YtfmjcinhjbihoabIntsSame
import Derived.Test.YtfmjcinhjbihoabBase4
/- assartlaw12.StackNone -/
namespace Go.Proofs.Ytfmjcinhjbihoab
open Go.RowKit Go.Bas SorPlain Go.Sor IMap_ VIn VPlain MapI
namespace Stk
open View

theorem push_none {b l : Int} (h : noStk b l = true) (a : Int) (f : Int → Option Int) (m : M) (qs : List Int) : (push b l a).run f m qs = (.inr false, m, qs) := by
  simp [push, many, h, Prog.ret_bind]
theorem pop_none {b l : Int} (h : noStk b l = true) (f : Int → Option Int) (m : M) (qs : List Int) : (pop b l).run f m qs = (.inr (0, false), m, qs) := by
  simp [pop, many, h, Prog.ret_bind]

set_option maxHeartbeats 1000000 in
theorem many_none (bv : Nat) {b l : Int} (hn : noStk b l = true) (w : World) :
    Calls Try.prog 23 #[.agg #[.pointer (some ⟨bv, 0, none⟩), .int .i64 b, .int .i64 l]] w fun e w' => e = .returned (.int .i64 0) ∧ Below w.heap.size w w' := by
  obtain ⟨g, hg⟩ : ∃ g, w.heap.size = g := ⟨_, rfl⟩
  obtain ⟨w1, hw1⟩ : ∃ w1, w.alloc (.cells #[.pointer (some ⟨bv, 0, none⟩), .int .i64 b, .int .i64 l] 54) = w1 := ⟨_, rfl⟩
  have R1 : Hid (w1.heap[g]? = some (.cells #[.pointer (some ⟨bv, 0, none⟩), .int .i64 b, .int .i64 l] 54 (0, 0))) := by rw [← hw1, ← hg]; exact new_row _ _ _
  have B1 : Hid (Below g w w1) := by rw [← hw1, ← hg]; exact (Below.refl _ _).alloc (Nat.le_refl _) _
  have s1 : w1.heap.size = g + 1 := by rw [← hw1, ← hg]; simp
  have NO := none_any bv b l w1
  rw [hn] at NO
  rw [hg]
  clear hn
  go_enter Try.func23, Try.ntmps23
  go_wp2_with (first
    | (refine wpList_load_row rfl 54 _ rfl g rfl 54 #[.pointer (some ⟨bv, 0, none⟩), .int .i64 b, .int .i64 l] (0, 0) _ R1.out Try.underlying54 rfl row_size ?_)
    | (go_at_call 31; refine NO.mono ?_; rintro e w2 ⟨rfl, hb2⟩))
  go_ret
  exact ⟨rfl, B1.out.trans (hb2.mono (by omega))⟩
set_option maxHeartbeats 1000000 in
theorem toldInt_none (bv : Nat) {b l : Int} (hn : noStk b l = true) (w : World) :
    Calls Try.prog 22 #[.pointer (some ⟨bv, 0, none⟩), .int .i64 b, .int .i64 l, .func (.func 23) #[] #[]] w fun e w' => e = .returned (.int .i64 0) ∧ Below w.heap.size w w' := by
  have MD := Lib.hid (many_none bv hn w)
  have hrun := callFunc_run Try.func23 (by kernel_rfl) (by kernel_rfl)
  clear hn
  go_enter Try.func22, Try.ntmps22
  go_wp2_with fail
  refine MD.out.mono ?_
  rintro e w2 ⟨rfl, hb2⟩
  go_wp2
  go_ret
  exact ⟨rfl, hb2⟩
set_option maxHeartbeats 1000000 in
theorem Len_none (bv : Nat) {b l : Int} (hn : noStk b l = true) (w : World) :
    Calls Try.prog 14 #[.pointer (some ⟨bv, 0, none⟩), .int .i64 b, .int .i64 l] w fun e w' => e = .returned (.int .i64 0) ∧ Below w.heap.size w w' := by
  have MD := Lib.hid (toldInt_none bv hn w)
  clear hn
  go_enter Try.func14, Try.ntmps14
  go_wp2_with (first
    | (go_at_call 22; refine MD.out.mono ?_; rintro e w2 ⟨rfl, hb2⟩))
  go_ret
  exact ⟨rfl, hb2⟩
set_option maxHeartbeats 1000000 in
theorem all1_none (bv : Nat) {b l : Int} (hn : noStk b l = true) (w : World) :
    Calls Try.prog 25 #[.agg #[.pointer (some ⟨bv, 0, none⟩), .int .i64 b, .int .i64 l]] w fun e w' => e = .returned (.slice none 0 0) ∧ Below w.heap.size w w' := by
  obtain ⟨g, hg⟩ : ∃ g, w.heap.size = g := ⟨_, rfl⟩
  obtain ⟨w1, hw1⟩ : ∃ w1, w.alloc (.cells #[.pointer (some ⟨bv, 0, none⟩), .int .i64 b, .int .i64 l] 54) = w1 := ⟨_, rfl⟩
  have R1 : Hid (w1.heap[g]? = some (.cells #[.pointer (some ⟨bv, 0, none⟩), .int .i64 b, .int .i64 l] 54 (0, 0))) := by rw [← hw1, ← hg]; exact new_row _ _ _
  have B1 : Hid (Below g w w1) := by rw [← hw1, ← hg]; exact (Below.refl _ _).alloc (Nat.le_refl _) _
  have s1 : w1.heap.size = g + 1 := by rw [← hw1, ← hg]; simp
  have NO := many_none bv hn w1
  rw [hg]
  clear hn
  go_enter Try.func25, Try.ntmps25
  go_wp2_with (first
    | (refine wpList_load_row rfl 54 _ rfl g rfl 54 #[.pointer (some ⟨bv, 0, none⟩), .int .i64 b, .int .i64 l] (0, 0) _ R1.out Try.underlying54 rfl row_size ?_)
    | (go_at_call 23; refine NO.mono ?_; rintro e w2 ⟨rfl, hb2⟩))
  have B2 : Hid (Below g w w2) := B1.out.trans (hb2.mono (by omega))
  clear hb2
  go_loopw [7, 3] (fun u7 u3 wr => u7 = .int .i64 0 ∧ u3 = .slice none 0 0 ∧ Hid (wr = w2)) (fun _ _ _ => 0)
  case atStart => exact ⟨rfl, rfl, rfl⟩
  case round =>
    obtain ⟨rfl, rfl, HW⟩ := hrel
    go_wp2
    go_ret
    exact ⟨rfl, by rw [HW.out]; exact B2.out⟩
set_option maxHeartbeats 1000000 in
theorem toldWords_none (bv : Nat) {b l : Int} (hn : noStk b l = true) (w : World) :
    Calls Try.prog 24 #[.pointer (some ⟨bv, 0, none⟩), .int .i64 b, .int .i64 l, .func (.func 25) #[] #[]] w fun e w' => e = .returned (.slice none 0 0) ∧ Below w.heap.size w w' := by
  have MD := Lib.hid (all1_none bv hn w)
  have hrun := callFunc_run Try.func25 (by kernel_rfl) (by kernel_rfl)
  clear hn
  go_enter Try.func24, Try.ntmps24
  go_wp2_with fail
  refine MD.out.mono ?_
  rintro e w2 ⟨rfl, hb2⟩
  go_wp2
  go_ret
  exact ⟨rfl, hb2⟩
set_option maxHeartbeats 1000000 in
theorem All_none (bv : Nat) {b l : Int} (hn : noStk b l = true) (w : World) :
    Calls Try.prog 16 #[.pointer (some ⟨bv, 0, none⟩), .int .i64 b, .int .i64 l] w fun e w' => e = .returned (.slice none 0 0) ∧ Below w.heap.size w w' := by
  have MD := Lib.hid (toldWords_none bv hn w)
  clear hn
  go_enter Try.func16, Try.ntmps16
  go_wp2_with (first
    | (go_at_call 24; refine MD.out.mono ?_; rintro e w2 ⟨rfl, hb2⟩))
  go_ret
  exact ⟨rfl, hb2⟩

/-- what the captured variables hold: nothing was done -/
def Caps3 (ca cb cn : Nat) (w : World) : Prop := One w ca (.bool false) 4 ∧ One w cb (.bool false) 4 ∧ One w cn (.int .i64 0) 3

set_option maxRecDepth 100000 in
set_option maxHeartbeats 8000000 in
theorem none1_does {A : View.Ask} {P C Q : Nat → Prop} {bv bm c1 c2 c3 ca cb cn : Nat} {w : World} (h : VWs A Q bv bm true [] [] w) (hPQ : ∀ k, P k → Q k) (hCP : ∀ k, C k → P k) (hCR : ∀ k, C k → ¬ A.R k)
    (ha : C ca) (hb : C cb) (hn : C cn) (hp1 : P c1) (hp2 : P c2) (hp3 : P c3) (hd : ca < cb ∧ cb < cn) {b l x : Int} (hno : noStk b l = true) (hx : In64 x)
    (o1 : One w c1 (.int .i64 b) 3) (o2 : One w c2 (.int .i64 l) 3) (o3 : One w c3 (.int .i64 x) 3) (r : Caps3 ca cb cn w) (hlow : ∀ k, P k → k < w.heap.size) :
    Calls Try.prog 15 #[.pointer (some ⟨bv, 0, none⟩), .pointer (some ⟨c1, 0, none⟩), .pointer (some ⟨c2, 0, none⟩), .pointer (some ⟨c3, 0, none⟩), .pointer (some ⟨ca, 0, none⟩), .pointer (some ⟨cb, 0, none⟩), .pointer (some ⟨cn, 0, none⟩)] w
      (DoesL A P C Q bv bm (pure () : Prog Unit) (fun _ => Caps3 ca cb cn) w) := by
  obtain ⟨oa, ob, on⟩ := r
  obtain ⟨d1, d2⟩ := hd
  have CQ : Hid (∀ k, C k → Q k) := fun k hk => hPQ k (hCP k hk)
  have PQ := Lib.hid hPQ
  have CR := Lib.hid hCR; have CP := Lib.hid hCP
  have HA := Lib.hid ha; have HB := Lib.hid hb; have HN := Lib.hid hn
  have H1 := Lib.hid hp1; have H2 := Lib.hid hp2; have H3 := Lib.hid hp3
  have NO := Lib.hid hno
  have L : Hid (Lies b l) := .inl hno
  have PU := Lib.hid (Push_does h (by simp) L.out x hx)
  have OA := Lib.hid oa; have OB := Lib.hid ob; have ON := Lib.hid on
  have O1 := Lib.hid o1; have O2 := Lib.hid o2; have O3 := Lib.hid o3
  have k1 := o1.cell; have k2 := o2.cell; have k3 := o3.cell
  have LOW := Lib.hid hlow
  clear ha hb hn hp1 hp2 hp3 hno h hPQ hCP hCR oa ob on o1 o2 o3 hx hlow
  go_enter Try.func15, Try.ntmps15
  go_wp2_with fail
  refine PU.out.mono ?_
  rintro e w1 (⟨x, m1, q1, e1, rfl, v1, h1⟩ | ⟨ra, _, m1, q1, e1, rfl, rfl, v1, h1⟩)
  · rw [push_none NO.out] at e1; cases e1
  rw [push_none NO.out] at e1
  injection e1 with e1 e2
  injection e1 with e1
  injection e2 with e2 e3
  subst e1 e2 e3
  have OA1 : Hid (One w1 ca (.bool false) 4) := Kept.row h1 OA.out (CQ.out _ HA.out)
  have OB1 : Hid (One w1 cb (.bool false) 4) := Kept.row h1 OB.out (CQ.out _ HB.out)
  have ON1 : Hid (One w1 cn (.int .i64 0) 3) := Kept.row h1 ON.out (CQ.out _ HN.out)
  have O11 : Hid (One w1 c1 (.int .i64 b) 3) := Kept.row h1 O1.out (PQ.out _ H1.out)
  have O21 : Hid (One w1 c2 (.int .i64 l) 3) := Kept.row h1 O2.out (PQ.out _ H2.out)
  have g1 := OA1.out.free; have c1' := OA1.out.cell; have e1 := OA1.out.same
  have j1 := O11.out.cell; have j2 := O21.out.cell
  have PO := Lib.hid (Pop_does v1 (by simp) L.out)
  have K1 := Lib.hid h1
  clear h1 v1 k1 k2 k3 PU
  go_upto_region 1 with fail
  go_wp2_with fail
  refine PO.out.mono ?_
  rintro e w2 (⟨x, m2, q2, e2, rfl, v2, h2⟩ | ⟨⟨rx, rb⟩, _, m2, q2, e2, rfl, ⟨rfl, i2⟩, v2, h2⟩)
  · rw [pop_none NO.out] at e2; cases e2
  rw [pop_none NO.out] at e2
  injection e2 with e2 e3
  injection e2 with e2
  injection e2 with e2 e4
  injection e3 with e3 e5
  subst e2 e3 e4 e5
  have OA2 : Hid (One w2 ca (.bool false) 4) := Kept.row h2 OA1.out (CQ.out _ HA.out)
  have OB2 : Hid (One w2 cb (.bool false) 4) := Kept.row h2 OB1.out (CQ.out _ HB.out)
  have ON2 : Hid (One w2 cn (.int .i64 0) 3) := Kept.row h2 ON1.out (CQ.out _ HN.out)
  have O12 : Hid (One w2 c1 (.int .i64 b) 3) := Kept.row h2 O11.out (PQ.out _ H1.out)
  have O22 : Hid (One w2 c2 (.int .i64 l) 3) := Kept.row h2 O21.out (PQ.out _ H2.out)
  have K2 : Hid (Kept Q w w2) := K1.out.trans h2
  have V2 := Lib.hid v2
  have g2 := OB2.out.free; have c2' := OB2.out.cell; have e2 := OB2.out.same
  clear h2 v2 g1 c1' e1 j1 j2 PO OA1 OB1 ON1 O11 O21 K1 i2
  go_upto_region 2 with fail
  obtain ⟨g, hg⟩ : ∃ g, w2.heap.size = g := ⟨_, rfl⟩
  have l1 : c1 < g := by rw [← hg]; exact O12.out.lt
  have l2 : c2 < g := by rw [← hg]; exact O22.out.lt
  have hgw : g ≤ w2.heap.size := by omega
  have G1 : Hid (w2.heap[c1]? = some (.cells #[.int .i64 b] 3 (0, 0))) := O12.out
  have G2 : Hid (w2.heap[c2]? = some (.cells #[.int .i64 l] 3 (0, 0))) := O22.out
  have kk1 := ext_cell G1.out l1 (j := 0) (u := .int .i64 b) rfl
  have kk2 := ext_cell G2.out l2 (j := 0) (u := .int .i64 l) rfl
  refine wp_region_mono_tail g 10 (by kernel_rfl) (by kernel_rfl) ?_
  simp only [List.take_succ_cons, List.take_zero, List.drop_succ_cons, List.drop_zero]
  repeat (any_goals (first
    | go_big_quiet_step ((first | (go_at_call 14; exact Calls.ext hgw (Len_none bv NO.out _)) | (go_at_call 16; exact Calls.ext hgw (All_none bv NO.out _))))))
  refine wpQuiet_nil ?_
  rintro ⟨w3, hb3⟩
  change wpList _ _ _ _ _ w3
  have G3 : Hid (One w3 cn (.int .i64 0) 3) := ON2.out.kept (hb3.block _ (by rw [← hg]; exact ON2.out.lt))
  have g3 := G3.out.free; have c3' := G3.out.cell; have e3 := G3.out.same
  have FIN : Hid (DoesL A P C Q bv bm (pure () : Prog Unit) (fun _ => Caps3 ca cb cn) w (.returned (.tuple #[])) w3) := by
    have hc3 : Kept Q w2 w3 := (Chg.of_below hb3).mono (fun k hk h hq => by omega)
    refine .inr ⟨(), fun _ => False, [], [], rfl, rfl, fun _ h => h.elim, (V2.out.new (hg ▸ hb3)).less (fun k hk => hk.elim id False.elim), (K2.out.trans hc3).mono (fun k _ h => .inl h), fun w4 h4 => ?_⟩
    have hp : ∀ {c : Nat} {v : Value} {t : TypeId}, C c → One w2 c v t → One w4 c v t := fun hc ho => (ho.kept (hb3.block _ (by rw [← hg]; exact ho.lt))).kept (h4 _ (.inl (CP.out _ hc)))
    exact ⟨hp HA.out OA2.out, hp HB.out OB2.out, hp HN.out ON2.out⟩
  clear hb3 G3
  go_wp2
  go_end0
  exact FIN.out

set_option maxRecDepth 100000 in
set_option maxHeartbeats 8000000 in
theorem none_in {w : World} {at_ most x : Int} (hx : In64 x) :
    Calls Try.prog 5 #[.int .i64 at_, .int .i64 most, .int .i64 x] w fun e w' => e = .returned (.bool true) ∧ Below w.heap.size w w' := by
  have hmf : ∀ (fn : Fn) (first cap : Array Value) (w : World), (Instr.makeFunc fn first cap).run Try.prog w = .ok (.func fn first cap) w := fun _ _ _ _ => rfl
  obtain ⟨g, hg⟩ : ∃ g, w.heap.size = g := ⟨_, rfl⟩
  have HX := Lib.hid hx
  obtain ⟨w1, hw1⟩ : ∃ w1, ((w.alloc (.cells #[.int .i64 at_] 3)).alloc (.cells #[.int .i64 most] 3)).alloc (.cells #[.int .i64 x] 3) = w1 := ⟨_, rfl⟩
  have s1 : w1.heap.size = g + 3 := by rw [← hw1, ← hg]; simp
  have B1 : Hid (Below g w w1) := by rw [← hw1, ← hg]; exact (((Below.refl _ _).alloc (Nat.le_refl _) _).alloc (by simp) _).alloc (by simp; omega) _
  have O1 : Hid (One w1 g (.int .i64 at_) 3) := by rw [← hw1, ← hg]; exact ((One.new w _ _).alloc _).alloc _
  have O2 : Hid (One w1 (g + 1) (.int .i64 most) 3) := by rw [← hw1, ← hg]; exact (One.at (by simp) _ _).alloc _
  have O3 : Hid (One w1 (g + 1 + 1) (.int .i64 x) 3) := by rw [← hw1, ← hg]; exact One.at (by simp) _ _
  have k1 := O1.out.cell; have k2 := O2.out.cell
  rw [hg]
  by_cases hc : 1 ≤ at_ ∧ 0 ≤ most
  · obtain ⟨h1, h2⟩ := hc
    clear hx
    go_enter Try.func5, Try.ntmps5
    go_wp2_with (first
      | (go_at_call 12; refine (lives_any _).mono ?_; rintro e w2 ⟨rfl, hb2⟩))
    go_ret
    exact ⟨rfl, B1.out.trans (hb2.mono (by omega))⟩
  · have hno : noStk at_ most = true := by unfold noStk; simp; omega
    obtain ⟨w2, hw2⟩ : ∃ w2, w1.alloc (.cells #[.int .i64 3, .int .i64 1, .int .i64 4] 3) = w2 := ⟨_, rfl⟩
    have s2 : w2.heap.size = g + 4 := by rw [← hw2]; simp; omega
    have R2 : Hid (w2.heap[g + 3]? = some (.cells #[.int .i64 3, .int .i64 1, .int .i64 4] 3 (0, 0))) := by rw [← hw2, ← s1]; exact new_row _ _ _
    have B2 : Hid (Below (g + 3) w1 w2) := by rw [← hw2, Hid, ← s1]; exact (Below.refl _ _).alloc (Nat.le_refl _) _
    obtain ⟨w3, hw3⟩ : ∃ w3, ((w2.alloc (.cells #[.bool false] 4)).alloc (.cells #[.bool false] 4)).alloc (.cells #[.int .i64 0] 3) = w3 := ⟨_, rfl⟩
    have s3 : w3.heap.size = g + 7 := by rw [← hw3]; simp; omega
    have B3 : Hid (Below (g + 4) w2 w3) := by rw [← hw3, Hid, ← s2]; exact (((Below.refl _ _).alloc (Nat.le_refl _) _).alloc (by simp) _).alloc (by simp; omega) _
    have C3 : Hid (Caps3 (g + 4) (g + 4 + 1) (g + 4 + 1 + 1) w3) := by
      rw [← hw3, ← s2]
      exact ⟨((One.new w2 _ _).alloc _).alloc _, (One.at (by simp) _ _).alloc _, One.at (by simp) _ _⟩
    have z3 := C3.out.2.2.same; have f3 := C3.out.2.2.free; have x3 := C3.out.2.2.cell
    have W3 : Hid (Words w3 w3.heap.size (.slice (some ⟨g + 3, 0, none⟩) 3 3) [3, 1, 4]) := by
      have r3 : w3.heap[g + 3]? = some (.cells (([3, 1, 4] : List Int).map (Value.int .i64)).toArray 3 (0, 0)) := by rw [B3.out.block _ (by omega)]; exact R2.out
      exact (TW.full (base := 0) r3 (by omega) (by simp [maxLen])).words
    have DP : Hid (Calls Try.prog 7 #[.slice (some ⟨g + 3, 0, none⟩) 3 3, .func (.func 15) #[] #[.pointer (some ⟨g, 0, none⟩), .pointer (some ⟨g + 1, 0, none⟩), .pointer (some ⟨g + 1 + 1, 0, none⟩), .pointer (some ⟨g + 4, 0, none⟩), .pointer (some ⟨g + 4 + 1, 0, none⟩), .pointer (some ⟨g + 4 + 1 + 1, 0, none⟩)]] w3
        (ProgOut (fun k => g + 4 ≤ k ∧ k < g + 7) [3, 1, 4] (pure () : Prog Unit) (fun _ => Caps3 (g + 4) (g + 4 + 1) (g + 4 + 1 + 1)) w3)) := by
      refine do_prog W3.out (fun p hp => by
          have : p = 3 ∨ p = 1 ∨ p = 4 := by simpa using hp
          unfold In64; omega) (by simp) _ _ (pure () : Prog Unit) (Prog.Writes.pure 0 _) (by omega) (Prog.Within.pure _ _ _) (callFunc_run Try.func15 (by kernel_rfl) (by kernel_rfl)) _ (fun k hk => by omega) _ ?_
      intro A hAf hR bv bm Q w' hQ hb hv
      have hbl : ∀ {c : Nat} {v : Value} {t : TypeId}, c < g + 3 → One w1 c v t → One w' c v t := fun hc ho => ((ho.kept (B2.out.block _ hc)).kept (B3.out.block _ (by omega))).kept (hb.block _ (by omega))
      refine none1_does hv (fun k hk => hQ k hk) (fun k hk => by omega) (fun k hk hr => ?_) ⟨by omega, by omega⟩ ⟨by omega, by omega⟩ ⟨by omega, by omega⟩ (by omega) (by omega) (by omega) ⟨by omega, by omega⟩ hno HX.out (hbl (by omega) O1.out) (hbl (by omega) O2.out) (hbl (by omega) O3.out) ?_ (fun k hk => by have := hb.size; omega)
      · obtain ⟨b, off, n, c, e, rfl⟩ := hR k hr
        injection e with e _ _
        injection e with e
        injection e with e _ _
        omega
      · obtain ⟨oa, ob, oc⟩ := C3.out
        exact ⟨oa.kept (hb.block _ (by omega)), ob.kept (hb.block _ (by omega)), oc.kept (hb.block _ (by omega))⟩
    have hge : (1 ≤ at_ ∧ ¬ 0 ≤ most) ∨ ¬ 1 ≤ at_ := by omega
    clear hc hno hx
    have fin : Hid (∀ e w4, ProgOut (fun k => g + 4 ≤ k ∧ k < g + 7) [3, 1, 4] (pure () : Prog Unit) (fun _ => Caps3 (g + 4) (g + 4 + 1) (g + 4 + 1 + 1)) w3 e w4 → ∃ A c A2 n2 c2, e = .returned (.tuple #[.slice A 3 c, .slice A2 n2 c2, .int .i64 0]) ∧
        Words w4 w4.heap.size (.slice A 3 c) [3, 1, 4] ∧ Words w4 w4.heap.size (.slice (some ⟨g + 3, 0, none⟩) 3 3) [3, 1, 4] ∧ Caps3 (g + 4) (g + 4 + 1) (g + 4 + 1 + 1) w4 ∧ Below g w w4 ∧ g ≤ w4.heap.size) := by
      rintro e w4 ⟨A, c, v2, ws, nd, rfl, hlen, ht, hq, hat, hch, hph⟩
      obtain ⟨A5, c5, rfl, _⟩ := hq
      have he : ws = [3, 1, 4] := by
        apply List.ext_getElem hlen
        intro i h1 h2
        have h := hat i h2
        have e : ((pure () : Prog Unit).over (fn [3, 1, 4])).2 i = ([3, 1, 4] : List Int).getD i 0 := by simp [fn]
        rw [e] at h
        rw [List.getD_eq_getElem?_getD, List.getD_eq_getElem?_getD, List.getElem?_eq_getElem h1, List.getElem?_eq_getElem h2] at h
        exact h
      subst he
      have hb : Below (g + 4) w3 w4 := hch.below (by omega) (fun k hk => by omega)
      have hs := hb.size
      refine ⟨A, c, _, _, _, rfl, ht.words, (W3.out.keep1 (fun k hk hl hl2 => hb.block k ?_)).mono hs, hph w4 (fun _ _ => rfl), (B1.out.trans (B2.out.mono (by omega))).trans ((B3.out.mono (by omega)).trans (hb.mono (by omega))), by omega⟩
      obtain ⟨b, off, n, c, e, rfl⟩ := hk
      injection e with e _ _
      injection e with e
      injection e with e _ _
      omega
    rcases hge with ⟨h1, h2⟩ | h1
    all_goals
      go_enter Try.func5, Try.ntmps5
      go_wp2_with fail
      refine DP.out.mono ?_
      intro e w4 hh
      obtain ⟨A4, c4, A5, n5, c5, rfl, hw4, hw5, hcp, hb4, hs4⟩ := fin.out e w4 hh
      have SI := Lib.hid (ints_same hw4 hw5)
      simp only [decide_true] at SI
      have y1 := hcp.1.cell; have y2 := hcp.2.1.cell; have y3 := hcp.2.2.cell
      have HB4 := Lib.hid hb4
      clear hw4 hw5 hcp hb4 hh
      go_wp2_with (first
        | (go_at_call 11; refine SI.out.mono ?_; rintro e w10 ⟨rfl, j, rfl⟩)
        | (go_at_call 12; refine (lives_any _).mono ?_; rintro e w12 ⟨rfl, hb12⟩))
      go_ret
      exact ⟨rfl, (HB4.out.trans (drewN_below _ _ _)).trans (hb12.mono (by show g ≤ w4.heap.size; omega))⟩

end Stk
namespace StkNone
open Stk View
theorem walk (a b x : Int) (w : World) (_ : (Lit.int .i64 a).wf = true) (_ : (Lit.int .i64 b).wf = true) (hx : (Lit.int .i64 x).wf = true) :
    Calls Try.prog 5 #[.int .i64 a, .int .i64 b, .int .i64 x] w fun e w' => e = .returned (.bool true) ∧ Below w.heap.size w w' := none_in (in64_of_wf hx)
end StkNone
end Go.Proofs.Ytfmjcinhjbihoab
