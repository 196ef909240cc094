import Derived.Test.YtfmjcinhjbihoabStk
/- stack: push, pop and what calls them -/
namespace Go.Proofs.Ytfmjcinhjbihoab
open Go.RowKit Go.Bas SorPlain Go.Sor IMap_ VIn VPlain MapI
namespace Stk
open View
section
variable {A : View.Ask} {P : Nat → Prop} {bv bm : Nat} {qs : List Int} {m : M} {w : World}

def PairRes (x : Int × Bool) (v : Value) (_ : World) : Prop := v = .tuple #[.int .i64 x.1, .bool x.2] ∧ In64 x.1

set_option maxRecDepth 100000 in
set_option maxHeartbeats 4000000 in
theorem push_does (h : VWs A P bv bm true qs m w) (hlen : m.length ≤ 999990) {b l : Int} (hL : Lies b l) (a : Int) (ha : In64 a) :
    Calls Try.prog 20 #[.agg #[.pointer (some ⟨bv, 0, none⟩), .int .i64 b, .int .i64 l], .int .i64 a] w (Does A P bv bm (push b l a) m qs w BoolRes) := by
  obtain ⟨g, hg⟩ : ∃ g, w.heap.size = g := ⟨_, rfl⟩
  obtain ⟨w1, hw1⟩ : ∃ w1, w.alloc (.cells #[.pointer (some ⟨bv, 0, none⟩), .int .i64 b, .int .i64 l] 54) = w1 := ⟨_, rfl⟩
  have UB : Hid (∀ e w', Does A (fun k => P k ∨ k = g) bv bm (push b l a) m qs w1 BoolRes e w' → Does A P bv bm (push b l a) m qs w BoolRes e w') := by rw [← hw1, ← hg]; exact fun e w' h => h.unbox
  have hv1 : VWs A (fun k => P k ∨ k = g) bv bm true qs m w1 := by rw [← hw1, ← hg]; exact h.box _
  have r1 : w1.heap[g]? = some (.cells #[.pointer (some ⟨bv, 0, none⟩), .int .i64 b, .int .i64 l] 54 (0, 0)) := by rw [← hw1, ← hg]; exact new_row _ _ _
  have R1 := Lib.hid r1
  have hs1 : g + 1 ≤ w1.heap.size := by rw [← hw1, ← hg]; simp
  obtain ⟨P1, hP1⟩ : ∃ P1, (fun k => P k ∨ k = g) = P1 := ⟨_, rfl⟩
  have PG : Hid (P1 g) := by rw [← hP1]; exact .inr rfl
  rw [hP1] at UB hv1

  have MD := many_does hv1 (by omega) hL
  have HA := Lib.hid ha
  have HL := Lib.hid hL
  have HPB : Hid (push b l a = (many b l >>= fun n => if noStk b l = true ∨ l ≤ n then pure false else Prog.wr1 (b + 1 + n) a >>= fun _ => Prog.wr1 b (n + 1) >>= fun _ => pure true)) := rfl
  clear h r1 hv1 hP1 ha hL
  go_enter Try.func20, Try.ntmps20
  go_upto_region 2 with (first
    | (refine wpList_load_row rfl 54 _ rfl g rfl 54 #[.pointer (some ⟨bv, 0, none⟩), .int .i64 b, .int .i64 l] (0, 0) _ R1.out Try.underlying54 rfl row_size ?_)
    | (go_at_call 23; refine MD.mono ?_; rintro e w2 (⟨x, m2, q2, e2, rfl, v2, k2⟩ | ⟨n, _, m2, q2, e2, rfl, ⟨rfl, i2⟩, v2, k2⟩)))
  · exact ⟨rfl, UB.out _ _ (.inl ⟨x, m2, q2, by rw [HPB.out]; exact Prog.run_inl e2, rfl, v2, k2⟩)⟩
  have R2 : Hid (w2.heap[g]? = some (.cells #[.pointer (some ⟨bv, 0, none⟩), .int .i64 b, .int .i64 l] 54 (0, 0))) := Kept.row k2 R1.out PG.out
  have hs2 : g + 1 ≤ w2.heap.size := by have := k2.size; omega
  have hl2 : m2.length ≤ m.length := len_le (many_writes b l) e2
  obtain ⟨hn0, hnl⟩ := many_le e2
  have V2 := Lib.hid v2; have K2 := Lib.hid k2
  have HR2 : Hid ((push b l a).run A.f m qs = (if noStk b l = true ∨ l ≤ n then pure false else Prog.wr1 (b + 1 + n) a >>= fun _ => Prog.wr1 b (n + 1) >>= fun _ => pure true : Prog Bool).run A.f m2 q2) := by rw [Hid, HPB.out]; exact Prog.run_inr e2
  have NO := none_any bv b l w2
  clear MD e2 v2 k2 i2
  by_cases hn : noStk b l = true
  · rw [hn] at NO
    rw [if_pos (.inl hn)] at HR2
    go_wp2_with (first
      | (refine wpList_load_row rfl 54 _ rfl g rfl 54 #[.pointer (some ⟨bv, 0, none⟩), .int .i64 b, .int .i64 l] (0, 0) _ R2.out Try.underlying54 rfl row_size ?_)
      | (go_at_call 31; refine NO.mono ?_; rintro e w3 ⟨rfl, hb3⟩))
    go_ret
    exact UB.out _ _ (.inr ⟨false, _, m2, q2, HR2.out, rfl, rfl, V2.out.new hb3, K2.out.trans ((Chg.of_below hb3).mono (fun k hk h => by omega))⟩)
  · have hf : noStk b l = false := by simpa using hn
    rw [hf] at NO
    have hb : 1 ≤ b ∧ b ≤ 1000000000 ∧ 0 ≤ l ∧ l ≤ 1000000000 := by
      rcases HL.out with h | h
      · exact absurd h hn
      · exact h
    obtain ⟨hb1, hb2, hl1, hl2'⟩ := hb
    go_upto_region 2 with fail
    by_cases hln : l ≤ n
    · rw [if_pos (.inr hln)] at HR2
      go_wp2_with (first
        | (refine wpList_load_row rfl 54 _ rfl g rfl 54 #[.pointer (some ⟨bv, 0, none⟩), .int .i64 b, .int .i64 l] (0, 0) _ R2.out Try.underlying54 rfl row_size ?_)
        | (go_at_call 31; refine NO.mono ?_; rintro e w3 ⟨rfl, hb3⟩
           have R3 : Hid (w3.heap[g]? = some (.cells #[.pointer (some ⟨bv, 0, none⟩), .int .i64 b, .int .i64 l] 54 (0, 0))) := by rw [Hid, hb3.block g (by omega)]; exact R2.out
           have k2 : w3.cell? ⟨g, 2, none⟩ = some (.int .i64 l) := by rw [cell_of_row _ _ _ _ _ _ R3.out]; rfl))
      go_ret
      exact UB.out _ _ (.inr ⟨false, _, m2, q2, HR2.out, rfl, rfl, V2.out.new hb3, K2.out.trans ((Chg.of_below hb3).mono (fun k hk h => by omega))⟩)
    · have hneg : ¬ (noStk b l = true ∨ l ≤ n) := fun h => h.elim hn hln
      rw [if_neg hneg] at HR2
      have ib : In64 (b + 1 + n) := by unfold In64; omega
      have IB := Lib.hid ib
      have in1 : In64 (n + 1) := by unfold In64; omega
      have IN1 := Lib.hid in1
      have ibb : In64 b := by unfold In64; omega
      have IBB := Lib.hid ibb
      clear hneg ib in1 ibb
      go_wp2_with (first
        | (refine wpList_load_row rfl 54 _ rfl g rfl 54 #[.pointer (some ⟨bv, 0, none⟩), .int .i64 b, .int .i64 l] (0, 0) _ R2.out Try.underlying54 rfl row_size ?_)
        | (go_at_call 31; refine NO.mono ?_; rintro e w3 ⟨rfl, hb3⟩
           have R3 : Hid (w3.heap[g]? = some (.cells #[.pointer (some ⟨bv, 0, none⟩), .int .i64 b, .int .i64 l] 54 (0, 0))) := by rw [Hid, hb3.block g (by omega)]; exact R2.out
           have k0 : w3.cell? ⟨g, 0, none⟩ = some (.pointer (some ⟨bv, 0, none⟩)) := by rw [cell_of_row _ _ _ _ _ _ R3.out]; rfl
           have k1 : w3.cell? ⟨g, 1, none⟩ = some (.int .i64 b) := by rw [cell_of_row _ _ _ _ _ _ R3.out]; rfl
           have k2 : w3.cell? ⟨g, 2, none⟩ = some (.int .i64 l) := by rw [cell_of_row _ _ _ _ _ _ R3.out]; rfl
           have V3 := Lib.hid (V2.out.new hb3)
           have K3 : Hid (Kept P1 w1 w3) := K2.out.trans ((Chg.of_below hb3).mono (fun k hk h => by omega))
           have WR := Lib.hid (write_does V3.out (by omega) (b + 1 + n) a IB.out HA.out)
           clear hb3 NO)
        | (go_at_call 30; refine WR.out.mono ?_; rintro e w4 (⟨x, m4, q4, e4, rfl, v4, k4⟩ | ⟨_, _, m4, q4, e4, rfl, rfl, v4, k4⟩)
           · cases e4
           have R4 : Hid (w4.heap[g]? = some (.cells #[.pointer (some ⟨bv, 0, none⟩), .int .i64 b, .int .i64 l] 54 (0, 0))) := Kept.row k4 R3.out PG.out
           have j0 : w4.cell? ⟨g, 0, none⟩ = some (.pointer (some ⟨bv, 0, none⟩)) := by rw [cell_of_row _ _ _ _ _ _ R4.out]; rfl
           have j1 : w4.cell? ⟨g, 1, none⟩ = some (.int .i64 b) := by rw [cell_of_row _ _ _ _ _ _ R4.out]; rfl
           have hl4 : m4.length ≤ m2.length + 1 := len_le (Prog.Writes.wr1 _ _) e4
           have HR4 : Hid ((push b l a).run A.f m qs = (Prog.wr1 b (n + 1) >>= fun _ => pure true : Prog Bool).run A.f m4 q4) := HR2.out.trans (Prog.run_inr e4)
           have WR2 := Lib.hid (write_does v4 (by omega) b (n + 1) IBB.out IN1.out)
           have K4 : Hid (Kept P1 w1 w4) := K3.out.trans k4
           clear e4 v4 k4 WR k0 k1 k2 HR2)
        | (go_at_call 30; refine WR2.out.mono ?_; rintro e w5 (⟨x, m5, q5, e5, rfl, v5, k5⟩ | ⟨_, _, m5, q5, e5, rfl, rfl, v5, k5⟩)
           · cases e5))
      go_ret
      exact UB.out _ _ (.inr ⟨true, _, m5, q5, HR4.out.trans (Prog.run_inr e5), rfl, rfl, v5, K4.out.trans k5⟩)

set_option maxRecDepth 100000 in
set_option maxHeartbeats 4000000 in
theorem pop_does (h : VWs A P bv bm true qs m w) (hlen : m.length ≤ 999990) {b l : Int} (hL : Lies b l) :
    Calls Try.prog 19 #[.agg #[.pointer (some ⟨bv, 0, none⟩), .int .i64 b, .int .i64 l]] w (Does A P bv bm (pop b l) m qs w PairRes) := by
  obtain ⟨g, hg⟩ : ∃ g, w.heap.size = g := ⟨_, rfl⟩
  obtain ⟨w1, hw1⟩ : ∃ w1, w.alloc (.cells #[.pointer (some ⟨bv, 0, none⟩), .int .i64 b, .int .i64 l] 54) = w1 := ⟨_, rfl⟩
  have UB : Hid (∀ e w', Does A (fun k => P k ∨ k = g) bv bm (pop b l) m qs w1 PairRes e w' → Does A P bv bm (pop b l) m qs w PairRes e w') := by rw [← hw1, ← hg]; exact fun e w' h => h.unbox
  have hv1 : VWs A (fun k => P k ∨ k = g) bv bm true qs m w1 := by rw [← hw1, ← hg]; exact h.box _
  have r1 : w1.heap[g]? = some (.cells #[.pointer (some ⟨bv, 0, none⟩), .int .i64 b, .int .i64 l] 54 (0, 0)) := by rw [← hw1, ← hg]; exact new_row _ _ _
  have R1 := Lib.hid r1
  have hs1 : g + 1 ≤ w1.heap.size := by rw [← hw1, ← hg]; simp
  obtain ⟨P1, hP1⟩ : ∃ P1, (fun k => P k ∨ k = g) = P1 := ⟨_, rfl⟩
  have PG : Hid (P1 g) := by rw [← hP1]; exact .inr rfl
  rw [hP1] at UB hv1

  have MD := many_does hv1 (by omega) hL
  have HL := Lib.hid hL
  have HPB : Hid (pop b l = (many b l >>= fun n => if n = 0 then pure (0, false) else Prog.wr1 b (n - 1) >>= fun _ => thing b (n - 1) >>= fun x => pure (x, true))) := rfl
  clear h r1 hv1 hP1 hL
  go_enter Try.func19, Try.ntmps19
  go_upto_region 2 with (first
    | (refine wpList_load_row rfl 54 _ rfl g rfl 54 #[.pointer (some ⟨bv, 0, none⟩), .int .i64 b, .int .i64 l] (0, 0) _ R1.out Try.underlying54 rfl row_size ?_)
    | (go_at_call 23; refine MD.mono ?_; rintro e w2 (⟨x, m2, q2, e2, rfl, v2, k2⟩ | ⟨n, _, m2, q2, e2, rfl, ⟨rfl, i2⟩, v2, k2⟩)))
  · exact ⟨rfl, UB.out _ _ (.inl ⟨x, m2, q2, by rw [HPB.out]; exact Prog.run_inl e2, rfl, v2, k2⟩)⟩
  have R2 : Hid (w2.heap[g]? = some (.cells #[.pointer (some ⟨bv, 0, none⟩), .int .i64 b, .int .i64 l] 54 (0, 0))) := Kept.row k2 R1.out PG.out
  have hl2 : m2.length ≤ m.length := len_le (many_writes b l) e2
  obtain ⟨hn0, hnl⟩ := many_le e2
  have V2 := Lib.hid v2; have K2 := Lib.hid k2
  have HR2 : Hid ((pop b l).run A.f m qs = (if n = 0 then pure (0, false) else Prog.wr1 b (n - 1) >>= fun _ => thing b (n - 1) >>= fun x => pure (x, true) : Prog (Int × Bool)).run A.f m2 q2) := by rw [Hid, HPB.out]; exact Prog.run_inr e2
  have HNN : Hid (n = 0 ∨ noStk b l = false) := by
    by_cases hn : noStk b l = true
    · left
      have : many b l = pure 0 := by rw [many, if_pos hn]
      rw [this, Prog.run_pure] at e2
      injection e2 with h1 _
      injection h1 with h1
      exact h1.symm
    · exact .inr (by simpa using hn)
  clear MD e2 v2 k2 i2
  by_cases hz : n = 0
  · subst hz
    rw [if_pos rfl] at HR2
    go_wp2
    go_ret2
    exact UB.out _ _ (.inr ⟨(0, false), _, m2, q2, HR2.out, rfl, ⟨rfl, by unfold In64; omega⟩, V2.out, K2.out⟩)
  · rw [if_neg hz] at HR2
    have hb : 1 ≤ b ∧ b ≤ 1000000000 ∧ 0 ≤ l ∧ l ≤ 1000000000 := by
      rcases HL.out with h | h
      · rcases HNN.out with h' | h'
        · exact absurd h' hz
        · rw [h'] at h; cases h
      · exact h
    obtain ⟨hb1, hb2, hl1, hl2'⟩ := hb
    have hnl2 : n ≤ l := by omega
    have WR := Lib.hid (write_does V2.out (by omega) b (n - 1) (by unfold In64; omega) (by unfold In64; omega))
    have k0 : w2.cell? ⟨g, 0, none⟩ = some (.pointer (some ⟨bv, 0, none⟩)) := by rw [cell_of_row _ _ _ _ _ _ R2.out]; rfl
    have k1 : w2.cell? ⟨g, 1, none⟩ = some (.int .i64 b) := by rw [cell_of_row _ _ _ _ _ _ R2.out]; rfl
    go_wp2_with (first
      | (go_at_call 30; refine WR.out.mono ?_; rintro e w4 (⟨x, m4, q4, e4, rfl, v4, k4⟩ | ⟨_, _, m4, q4, e4, rfl, rfl, v4, k4⟩)
         · cases e4
         have R4 : Hid (w4.heap[g]? = some (.cells #[.pointer (some ⟨bv, 0, none⟩), .int .i64 b, .int .i64 l] 54 (0, 0))) := Kept.row k4 R2.out PG.out
         have hl4 : m4.length ≤ m2.length + 1 := len_le (Prog.Writes.wr1 _ _) e4
         have HR4 : Hid ((pop b l).run A.f m qs = (thing b (n - 1) >>= fun x => pure (x, true) : Prog (Int × Bool)).run A.f m4 q4) := HR2.out.trans (Prog.run_inr e4)
         have TD := Lib.hid (thing_does (l := l) v4 (by omega) (n - 1) ⟨hb1, hb2⟩ ⟨by omega, by omega⟩)
         have K4 : Hid (Kept P1 w1 w4) := K2.out.trans k4
         clear e4 v4 k4 WR k0 k1)
      | (refine wpList_load_row rfl 54 _ rfl g rfl 54 #[.pointer (some ⟨bv, 0, none⟩), .int .i64 b, .int .i64 l] (0, 0) _ R4.out Try.underlying54 rfl row_size ?_)
      | (go_at_call 26; refine TD.out.mono ?_; rintro e w5 (⟨x, m5, q5, e5, rfl, v5, k5⟩ | ⟨x, _, m5, q5, e5, rfl, ⟨rfl, i5⟩, v5, k5⟩)))
    · exact ⟨rfl, UB.out _ _ (.inl ⟨x, m5, q5, HR4.out.trans (Prog.run_inl e5), rfl, v5, K4.out.trans k5⟩)⟩
    · go_ret2
      exact UB.out _ _ (.inr ⟨(x, true), _, m5, q5, HR4.out.trans (Prog.run_inr e5), rfl, ⟨rfl, i5⟩, v5, K4.out.trans k5⟩)

set_option maxHeartbeats 1000000 in
theorem Push_does (h : VWs A P bv bm true qs m w) (hlen : m.length ≤ 999990) {b l : Int} (hL : Lies b l) (a : Int) (ha : In64 a) :
    Calls Try.prog 10 #[.pointer (some ⟨bv, 0, none⟩), .int .i64 b, .int .i64 l, .int .i64 a] w (Does A P bv bm (push b l a) m qs w BoolRes) := by
  have MD := Lib.hid (push_does h hlen hL a ha)
  clear h hL ha
  go_enter Try.func10, Try.ntmps10
  go_wp2_with (first
    | (go_at_call 20; refine MD.out.mono ?_; rintro e w2 (⟨x, m2, q2, e2, rfl, v2, k2⟩ | ⟨n, _, m2, q2, e2, rfl, rfl, v2, k2⟩)))
  · exact ⟨rfl, .inl ⟨x, m2, q2, e2, rfl, v2, k2⟩⟩
  · go_ret
    exact .inr ⟨n, _, m2, q2, e2, rfl, rfl, v2, k2⟩
set_option maxHeartbeats 1000000 in
theorem Pop_does (h : VWs A P bv bm true qs m w) (hlen : m.length ≤ 999990) {b l : Int} (hL : Lies b l) :
    Calls Try.prog 9 #[.pointer (some ⟨bv, 0, none⟩), .int .i64 b, .int .i64 l] w (Does A P bv bm (pop b l) m qs w PairRes) := by
  have MD := Lib.hid (pop_does h hlen hL)
  clear h hL
  go_enter Try.func9, Try.ntmps9
  go_wp2_with (first
    | (go_at_call 19; refine MD.out.mono ?_; rintro e w2 (⟨x, m2, q2, e2, rfl, v2, k2⟩ | ⟨⟨n1, n2⟩, _, m2, q2, e2, rfl, ⟨rfl, i2⟩, v2, k2⟩)))
  · exact ⟨rfl, .inl ⟨x, m2, q2, e2, rfl, v2, k2⟩⟩
  · go_ret2
    exact .inr ⟨(n1, n2), _, m2, q2, e2, rfl, ⟨rfl, i2⟩, v2, k2⟩
set_option maxHeartbeats 1000000 in
theorem toldInt_does (h : VWs A P bv bm true qs m w) (hlen : m.length ≤ 999990) {b l : Int} (hL : Lies b l) :
    Calls Try.prog 22 #[.pointer (some ⟨bv, 0, none⟩), .int .i64 b, .int .i64 l, .func (.func 23) #[] #[]] w (Does A P bv bm (many b l) m qs w IntRes) := by
  have MD := Lib.hid (many_does h (by omega) hL)
  have hrun := callFunc_run Try.func23 (by kernel_rfl) (by kernel_rfl)
  clear h hL
  go_enter Try.func22, Try.ntmps22
  go_wp2_with fail
  refine MD.out.mono ?_
  rintro e w2 (⟨x, m2, q2, e2, rfl, v2, k2⟩ | ⟨n, _, m2, q2, e2, rfl, ⟨rfl, i2⟩, v2, k2⟩)
  · go_wp2
    exact ⟨rfl, .inl ⟨x, m2, q2, e2, rfl, v2, k2⟩⟩
  · go_wp2
    go_ret
    exact .inr ⟨n, _, m2, q2, e2, rfl, ⟨rfl, i2⟩, v2, k2⟩
set_option maxHeartbeats 1000000 in
theorem Len_does (h : VWs A P bv bm true qs m w) (hlen : m.length ≤ 999990) {b l : Int} (hL : Lies b l) :
    Calls Try.prog 14 #[.pointer (some ⟨bv, 0, none⟩), .int .i64 b, .int .i64 l] w (Does A P bv bm (many b l) m qs w IntRes) := by
  have MD := Lib.hid (toldInt_does h hlen hL)
  clear h hL
  go_enter Try.func14, Try.ntmps14
  go_wp2_with (first
    | (go_at_call 22; refine MD.out.mono ?_; rintro e w2 (⟨x, m2, q2, e2, rfl, v2, k2⟩ | ⟨n, _, m2, q2, e2, rfl, ⟨rfl, i2⟩, v2, k2⟩)))
  · exact ⟨rfl, .inl ⟨x, m2, q2, e2, rfl, v2, k2⟩⟩
  · go_ret
    exact .inr ⟨n, _, m2, q2, e2, rfl, ⟨rfl, i2⟩, v2, k2⟩

end
end Stk
end Go.Proofs.Ytfmjcinhjbihoab
