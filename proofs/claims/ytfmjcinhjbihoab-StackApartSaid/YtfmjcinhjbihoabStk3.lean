import Derived.Test.YtfmjcinhjbihoabStk2
/- stack: all things -/
namespace Go.Proofs.Ytfmjcinhjbihoab
open Go.RowKit Go.Bas SorPlain Go.Sor IMap_ VIn VPlain MapI
namespace Stk
open View
section
variable {A : View.Ask} {P : Nat → Prop} {bv bm : Nat} {qs : List Int} {m : M} {w : World}

set_option maxRecDepth 100000 in
set_option maxHeartbeats 4000000 in
theorem all1_does (h : VWs A P bv bm true qs m w) (hlen : m.length ≤ 999990) {b l : Int} (hL : Lies b l) (hl9 : l ≤ 9999) :
    Calls Try.prog 25 #[.agg #[.pointer (some ⟨bv, 0, none⟩), .int .i64 b, .int .i64 l]] w (DoesN A P bv bm (all b l) m qs w (WordsRes w.heap.size)) := by
  obtain ⟨g, hg⟩ : ∃ g, w.heap.size = g := ⟨_, rfl⟩
  obtain ⟨w1, hw1⟩ : ∃ w1, w.alloc (.cells #[.pointer (some ⟨bv, 0, none⟩), .int .i64 b, .int .i64 l] 54) = w1 := ⟨_, rfl⟩
  have UB : Hid (∀ e w', DoesN A (fun k => P k ∨ k = g) bv bm (all b l) m qs w1 (WordsRes g) e w' → DoesN A P bv bm (all b l) m qs w (WordsRes w.heap.size) e w') := by rw [← hw1, ← hg]; exact fun e w' h => h.unbox
  have hv1 : VWs A (fun k => P k ∨ k = g) bv bm true qs m w1 := by rw [← hw1, ← hg]; exact h.box _
  have r1 : w1.heap[g]? = some (.cells #[.pointer (some ⟨bv, 0, none⟩), .int .i64 b, .int .i64 l] 54 (0, 0)) := by rw [← hw1, ← hg]; exact new_row _ _ _
  have R1 := Lib.hid r1
  have hs1 : w1.heap.size = g + 1 := by rw [← hw1, ← hg]; simp
  have hbv : bv < g := by rw [← hg]; exact h.bv_lt.1
  have hAR : Hid (∀ k, A.R k → k < g) := fun k hk => by have := h.bv_lt.2 k hk; omega
  obtain ⟨P1, hP1⟩ : ∃ P1, (fun k => P k ∨ k = g) = P1 := ⟨_, rfl⟩
  have PG : Hid (P1 g) := by rw [← hP1]; exact .inr rfl
  rw [hP1] at UB hv1
  have PL : Hid (∀ k, P1 k → k ≤ g) := fun k hk => by have := hv1.size hk; omega
  have MD := many_does hv1 (by omega) hL
  have HL := Lib.hid hL
  have HPB : Hid (all b l = (many b l >>= fun n => things b n.toNat 0 [])) := rfl
  rw [hg]
  rw [hg] at UB
  have HS1 := Lib.hid hs1
  clear h r1 hv1 hP1 hL hs1
  go_enter Try.func25, Try.ntmps25
  go_wp2_with (first
    | (refine wpList_load_row rfl 54 _ rfl g rfl 54 #[.pointer (some ⟨bv, 0, none⟩), .int .i64 b, .int .i64 l] (0, 0) _ R1.out Try.underlying54 rfl row_size ?_)
    | (go_at_call 23; refine MD.mono ?_; rintro e w2 (⟨x, m2, q2, e2, rfl, v2, k2⟩ | ⟨n, _, m2, q2, e2, rfl, ⟨rfl, i2⟩, v2, k2⟩)))
  · exact ⟨rfl, UB.out _ _ (.inl ⟨x, m2, q2, by rw [HPB.out]; exact Prog.run_inl e2, rfl, v2, k2⟩)⟩
  have hl2 : m2.length ≤ m.length := len_le (many_writes b l) e2
  obtain ⟨hn0, hnl⟩ := many_le e2
  obtain ⟨n, rfl⟩ : ∃ k : Nat, n = k := ⟨n.toNat, by omega⟩
  have HR2 : Hid ((all b l).run A.f m qs = (things b (n - 0) 0 []).run A.f m2 q2) := by rw [Hid, HPB.out]; exact Prog.run_inr e2
  have HNN : Hid (n = 0 ∨ noStk b l = false) := by
    by_cases hn : noStk b l = true
    · left
      have : many b l = pure 0 := by rw [many, if_pos hn]
      rw [this, Prog.run_pure] at e2
      injection e2 with h1 _
      injection h1 with h1
      omega
    · exact .inr (by simpa using hn)
  have hn9 : n ≤ 9999 := by omega
  have K2 := Lib.hid k2
  have T2 : Hid (TW w2 (g + 1) [] (.slice none 0 0)) := ⟨none, 0, rfl, by simpa using World.ownsRow_nil _ _ _ _⟩
  have V2 : Hid (VWs A (fun j => P1 j ∨ (Value.slice none 0 0).ownBlock = some j) bv bm true q2 m2 w2) := v2.less (fun k hk => hk.elim id (fun h => by simp [Value.ownBlock] at h))
  have HM2 : Hid (m2.length ≤ m.length) := hl2
  clear MD e2 v2 k2 i2 hl2
  go_loopw [7, 3, 4] (fun u7 u3 u4 wr => ∃ (k : Nat) (acc : List Int) (m' : M) (qs' : List Int), k ≤ n ∧ u7 = .int .i64 k ∧ Hid (acc.length = k) ∧ Hid (TW wr (g + 1) acc u3) ∧ Hid (VWs A (fun j => P1 j ∨ u3.ownBlock = some j) bv bm true qs' m' wr) ∧ Hid (Kept P1 w1 wr) ∧
    Hid ((all b l).run A.f m qs = (things b (n - k) k acc).run A.f m' qs') ∧ Hid (m'.length ≤ m.length)) (fun u7 _ _ _ => n - (intOf u7).toNat)
  case atStart => exact ⟨0, [], m2, q2, by omega, rfl, rfl, T2, V2, K2, HR2, HM2⟩
  case round =>
    clear T2 V2 K2 HR2 HM2
    obtain ⟨k, acc, m', qs', hk, rfl, HAL, HT, HV, HK, HR, HM⟩ := hrel
    have hgr : g + 1 ≤ wr.heap.size := by have := HK.out.size; have := HS1.out; omega
    by_cases hlt : k < n
    · have hb : 1 ≤ b ∧ b ≤ 1000000000 := by
        rcases HL.out with h | h
        · rcases HNN.out with h' | h'
          · omega
          · rw [h'] at h; cases h
        · exact ⟨h.1, h.2.1⟩
      have hth : Hid (things b (n - k) k acc = (thing b k >>= fun x => things b (n - (k + 1)) (k + 1) (acc ++ [x]))) := by
        rw [Hid, show n - k = n - (k + 1) + 1 by omega]; rfl
      have RR : Hid (wr.heap[g]? = some (.cells #[.pointer (some ⟨bv, 0, none⟩), .int .i64 b, .int .i64 l] 54 (0, 0))) := Kept.row HK.out R1.out PG.out
      have TD := Lib.hid (thing_does (l := l) HV.out (by have := HM.out; omega) k hb ⟨by omega, by omega⟩)
      go_wp2_with (first
        | (refine wpList_load_row rfl 54 _ rfl g rfl 54 #[.pointer (some ⟨bv, 0, none⟩), .int .i64 b, .int .i64 l] (0, 0) _ RR.out Try.underlying54 rfl row_size ?_)
        | (go_at_call 26; refine TD.out.mono ?_; rintro e w4 (⟨x, m4, q4, e4, rfl, v4, k4⟩ | ⟨x, _, m4, q4, e4, rfl, ⟨rfl, i4⟩, v4, k4⟩)
           rotate_left
           have T4 : Hid (TW w4 (g + 1) acc u3) := HT.out.kept (fun j hj => k4.block j (HT.out.own_lt hj) (fun hn => hn (.inr hj)))
           have hacc : acc.length ≤ 10000 := by have := HAL.out; omega
           have hg4 : g + 1 ≤ w4.heap.size := by have := k4.size; omega)
        | (at_builtin; refine wpList_addword rfl _ _ rfl (g + 1) acc u3 rfl (T4.out.kept (fun j hj => alloc_heap _ _ _ (T4.out.own_lt hj))) hacc (by simp; omega) _ x rfl (new_row _ _ _) ?_; intro v6 w6 t6 g6 o6
           have T6 := Lib.hid t6
           have hs6 := g6.size
           have C6 : Hid (Chg (fun j => u3.ownBlock = some j) w4 w6) := (Chg.alloc _ _ _).trans (Chg.grown g6 (fun j hj => hj))
           have V6 : Hid (VWs A (fun j => P1 j ∨ v6.ownBlock = some j) bv bm true q4 m4 w6) := by
             refine v4.chg C6.out (fun j hj ho => ⟨.inr ho, fun hr => by have := T4.out.block ho; have := hAR.out j hr; omega⟩) (fun j hj => ?_)
             rcases hj with hj | hj
             · exact .inl (.inl hj)
             · by_cases hlj : w4.heap.size ≤ j
               · exact .inr ⟨hlj, T6.out.own_lt hj⟩
               · rcases o6 with o6 | o6
                 · rw [o6] at hj; exact .inl (.inr hj)
                 · rw [o6] at hj; injection hj with hj; simp at hj; omega
           have K6 : Hid (Kept P1 w1 w6) := (HK.out.trans (k4.mono (fun j _ hn hp => hn (.inl hp)))).trans (C6.out.mono (fun j _ ho hp => by have := T4.out.block ho; have := PL.out j hp; omega))
           have HR6 : Hid ((all b l).run A.f m qs = (things b (n - (k + 1)) (k + 1) (acc ++ [x])).run A.f m4 q4) := by rw [Hid, HR.out, hth.out]; exact Prog.run_inr e4
           have HM6 : Hid (m4.length ≤ m.length) := by have h1 : m4.length ≤ m'.length := len_le (Prog.Writes.rd1 _) e4; have := HM.out; exact Nat.le_trans h1 this
           have HA6 : Hid ((acc ++ [x]).length = k + 1) := by rw [Hid, List.length_append, HAL.out]; rfl
           clear e4 v4 k4 t6 g6 o6 i4))
      · go_roundw
        case rel => exact ⟨k + 1, _, _, _, by omega, by go_num, HA6, T6, V6, K6, HR6, HM6⟩
        case measure => simp [intOf]; omega
      · exact ⟨rfl, UB.out _ _ (.inl ⟨x, m4, q4, by rw [HR.out, hth.out]; exact Prog.run_inl e4, rfl, v4.less (fun j hj => .inl hj), HK.out.trans (k4.mono (fun j _ hn hp => hn (.inl hp)))⟩)⟩
    · obtain rfl : n = k := by omega
      have HRE : Hid ((all b l).run A.f m qs = (.inr acc, m', qs')) := by rw [Hid, HR.out, Nat.sub_self]; rfl
      clear HR
      have FIN : Hid (DoesN A P bv bm (all b l) m qs w (WordsRes g) (.returned u3) wr) := by
        have := UB.out (.returned u3) wr (.inr ⟨acc, u3, fun j => u3.ownBlock = some j, m', qs', HRE.out, rfl, fun j hj => by have := HT.out.block hj; have := HS1.out; omega, ⟨HT.out.low (by omega), fun j hj => hj⟩, HV.out, HK.out⟩)
        exact this
      clear HT HV HK HRE
      go_wp2
      go_ret
      exact FIN.out

set_option maxHeartbeats 1000000 in
theorem toldWords_does (h : VWs A P bv bm true qs m w) (hlen : m.length ≤ 999990) {b l : Int} (hL : Lies b l) (hl9 : l ≤ 9999) :
    Calls Try.prog 24 #[.pointer (some ⟨bv, 0, none⟩), .int .i64 b, .int .i64 l, .func (.func 25) #[] #[]] w (DoesN A P bv bm (all b l) m qs w (WordsRes w.heap.size)) := by
  have MD := Lib.hid (all1_does h (by omega) hL hl9)
  have hrun := callFunc_run Try.func25 (by kernel_rfl) (by kernel_rfl)
  clear h hL
  go_enter Try.func24, Try.ntmps24
  go_wp2_with fail
  refine MD.out.mono ?_
  rintro e w2 (⟨x, m2, q2, e2, rfl, v2, k2⟩ | ⟨n, v, N, m2, q2, e2, rfl, hN, i2, v2, k2⟩)
  · go_wp2
    exact ⟨rfl, .inl ⟨x, m2, q2, e2, rfl, v2, k2⟩⟩
  · have FIN : Hid (DoesN A P bv bm (all b l) m qs w (WordsRes w.heap.size) (.returned v) w2) := .inr ⟨n, v, N, m2, q2, e2, rfl, hN, i2, v2, k2⟩
    obtain ⟨⟨A2, c2, rfl, _⟩, _⟩ := i2
    clear hN v2 k2
    go_wp2
    go_ret
    exact FIN.out
set_option maxHeartbeats 1000000 in
theorem All_does (h : VWs A P bv bm true qs m w) (hlen : m.length ≤ 999990) {b l : Int} (hL : Lies b l) (hl9 : l ≤ 9999) :
    Calls Try.prog 16 #[.pointer (some ⟨bv, 0, none⟩), .int .i64 b, .int .i64 l] w (DoesN A P bv bm (all b l) m qs w (WordsRes w.heap.size)) := by
  have MD := Lib.hid (toldWords_does h hlen hL hl9)
  clear h hL
  go_enter Try.func16, Try.ntmps16
  go_wp2_with (first
    | (go_at_call 24; refine MD.out.mono ?_; rintro e w2 (⟨x, m2, q2, e2, rfl, v2, k2⟩ | ⟨n, v, N, m2, q2, e2, rfl, hN, i2, v2, k2⟩)))
  · exact ⟨rfl, .inl ⟨x, m2, q2, e2, rfl, v2, k2⟩⟩
  · have FIN : Hid (DoesN A P bv bm (all b l) m qs w (WordsRes w.heap.size) (.returned v) w2) := .inr ⟨n, v, N, m2, q2, e2, rfl, hN, i2, v2, k2⟩
    obtain ⟨⟨A2, c2, rfl, _⟩, _⟩ := i2
    clear hN v2 k2
    go_ret
    exact FIN.out

end
end Stk
end Go.Proofs.Ytfmjcinhjbihoab
