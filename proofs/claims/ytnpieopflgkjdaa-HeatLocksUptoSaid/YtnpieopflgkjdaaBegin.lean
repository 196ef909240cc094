import Derived.Test.YtnpieopflgkjdaaSmall
import Derived.Test.YtnpieopflgkjdaaBase4
import Derived.Test.YtnpieopflgkjdaaOf
import Derived.Deep.Cut
import Derived.Test.YtnpieopflgkjdaaBase5
namespace Go.Bas
open Go.RowKit
theorem results_rows2_tmp {P : Program} {fn : Func} {p q u : Tmp} {t1 t2 : TypeId} (h : fn.results = #[.cell p t1, .cell q t2, .tmp u]) (tmps : Array Value) (w : World) (g1 g2 : Nat) (e1 e2 : TypeId) (c1 c2 : Array Value) (d1 d2 : TypeDesc)
    (hp : tmps.getD p undef = .pointer (some ⟨g1, 0, none⟩)) (hq : tmps.getD q undef = .pointer (some ⟨g2, 0, none⟩)) (hg1 : w.heap[g1]? = some (.cells c1 e1 (0, 0))) (hg2 : w.heap[g2]? = some (.cells c2 e2 (0, 0)))
    (hu1 : P.underlying t1 = some d1) (hd1 : (match d1 with | .struct _ | .array _ _ => true | _ => false) = true) (hi1 : (P.info? t1).map (·.size) = some c1.size)
    (hu2 : P.underlying t2 = some d2) (hd2 : (match d2 with | .struct _ | .array _ _ => true | _ => false) = true) (hi2 : (P.info? t2).map (·.size) = some c2.size) :
    (results fn tmps).run P w = .ok (.tuple #[.agg c1, .agg c2, tmps.getD u undef]) w := by
  have hp' : tmps[p]?.getD undef = .pointer (some ⟨g1, 0, none⟩) := by simpa using hp
  have hq' : tmps[q]?.getD undef = .pointer (some ⟨g2, 0, none⟩) := by simpa using hq
  simp only [results, h]
  simp [Sem.run_bind, hp', hq', asAddr, run_loadVar_row w g1 e1 t1 c1 (0, 0) d1 hg1 hu1 hd1 hi1, run_loadVar_row w g2 e2 t2 c2 (0, 0) d2 hg2 hu2 hd2 hi2, Result.andThen]
end Go.Bas
namespace Go.Proofs.Ytnpieopflgkjdaa
open Go.RowKit Go.Bas
open Lay RefLay Of Small_
namespace Begin_

set_option maxRecDepth 100000 in
theorem built_ref (c : Cfg) : Try.prog.built 32 [(0, .agg (cfg c))] = some (cfg c) := by kernel_rfl

/-- make([]int, n) -/
theorem make_ints (n : Nat) (hn : n ≤ 1000000) (w : World) :
    (Instr.makeSlice 43 (.int .i64 (n : Int)) (.int .i64 (n : Int))).run Try.prog w = .ok (.slice (some ⟨w.heap.size, 0, none⟩) n n) (w.alloc (.cells (madeCells #[.int .i64 0] (n * 1)) 3)) := by
  have hinfo : (Try.prog.info? 3).map (fun i => (i.zero, i.size, i.bytes)) = some (some (.int .i64 0), 1, 8) := by kernel_rfl
  obtain ⟨i, hi, hzz⟩ := Option.map_eq_some_iff.1 hinfo
  simp only [Prod.mk.injEq] at hzz
  obtain ⟨hz, hs, hb⟩ := hzz
  have hr := run_make (P := Try.prog) w 43 3 i _ Try.underlying43 hi hz .i64 .i64 n n (by omega) (Int.le_refl _) (by rw [hb]; omega) (by omega)
  simp only [Int.toNat_natCast, hs] at hr
  exact hr

set_option maxRecDepth 100000 in
set_option maxHeartbeats 4000000 in
theorem begin_of (c0 : Cfg) (w : World) : Calls Try.prog 24 #[.agg (cfg c0)] w fun e w' => ∃ q, e = .returned (.tuple #[.agg (lay (small c0) (places (small c0))), .agg (cfg (small c0)), .slice (some ⟨q, 0, none⟩) (words (small c0)).toNat (words (small c0)).toNat]) ∧ w.heap.size ≤ q ∧ w'.heap[q]? = some (.cells (madeCells #[.int .i64 0] (words (small c0)).toNat) 3 (0, 0)) ∧ Below w.heap.size w w' := by
  obtain ⟨c, hc⟩ : ∃ c, small c0 = c := ⟨_, rfl⟩
  have F : Fine c := by rw [← hc]; exact small_fine c0
  have FH := Lib.hid F; have HC := Lib.hid hc
  rw [hc]
  have hwi := words_in F
  obtain ⟨W, hW⟩ : ∃ W : Nat, words c = W := ⟨(words c).toNat, by omega⟩
  have hWt : (words c).toNat = W := by omega
  rw [hWt]
  have HW := Lib.hid hW
  have hW1 : 1 ≤ W ∧ W ≤ 40000 := by omega
  clear hc F hW hWt hwi
  obtain ⟨p, hp⟩ : ∃ p, places c = p := ⟨_, rfl⟩
  have HP := Lib.hid hp
  rw [hp]
  clear hp
  obtain ⟨g, hg⟩ : ∃ g, w.heap.size = g := ⟨_, rfl⟩
  obtain ⟨w1, hw1⟩ : ∃ w1, ((w.alloc (.cells (cfg c0) 23)).alloc (.cells #[.int .i64 0, .int .i64 0, .int .i64 0, .int .i64 0, .int .i64 0, .int .i64 0, .int .i64 0, .int .i64 0, .int .i64 0, .int .i64 0, .int .i64 0, .int .i64 0, .int .i64 0, .int .i64 0, .int .i64 0, .int .i64 0, .int .i64 0, .int .i64 0, .int .i64 0, .int .i64 0, .int .i64 0, .int .i64 0, .int .i64 0] 27)).alloc (.cells #[.int .i64 0, .int .i64 0, .int .i64 0, .int .i64 0, .int .i64 0, .int .i64 0, .int .i64 0, .int .i64 0, .int .i64 0, .int .i64 0, .int .i64 0] 32) = w1 := ⟨_, rfl⟩
  have R1 : Hid (w1.heap[g]? = some (.cells (cfg c0) 23 (0, 0))) := by rw [← hw1, Hid, alloc_heap _ _ _ (by simp; omega), alloc_heap _ _ _ (by simp; omega), ← hg]; exact new_row _ _ _
  have L1 : Hid (w1.heap[g + 1]? = some (.cells #[.int .i64 0, .int .i64 0, .int .i64 0, .int .i64 0, .int .i64 0, .int .i64 0, .int .i64 0, .int .i64 0, .int .i64 0, .int .i64 0, .int .i64 0, .int .i64 0, .int .i64 0, .int .i64 0, .int .i64 0, .int .i64 0, .int .i64 0, .int .i64 0, .int .i64 0, .int .i64 0, .int .i64 0, .int .i64 0, .int .i64 0] 27 (0, 0))) := by
    rw [← hw1, Hid, alloc_heap _ _ _ (by simp; omega)]
    have : (w.alloc (.cells (cfg c0) 23)).heap.size = g + 1 := by rw [← hg]; simp
    rw [← this]; exact new_row _ _ _
  have Z1 : Hid (w1.heap[g + 2]? = some (.cells #[.int .i64 0, .int .i64 0, .int .i64 0, .int .i64 0, .int .i64 0, .int .i64 0, .int .i64 0, .int .i64 0, .int .i64 0, .int .i64 0, .int .i64 0] 32 (0, 0))) := by
    have : ((w.alloc (.cells (cfg c0) 23)).alloc (.cells #[.int .i64 0, .int .i64 0, .int .i64 0, .int .i64 0, .int .i64 0, .int .i64 0, .int .i64 0, .int .i64 0, .int .i64 0, .int .i64 0, .int .i64 0, .int .i64 0, .int .i64 0, .int .i64 0, .int .i64 0, .int .i64 0, .int .i64 0, .int .i64 0, .int .i64 0, .int .i64 0, .int .i64 0, .int .i64 0, .int .i64 0] 27)).heap.size = g + 2 := by rw [← hg]; simp
    rw [← hw1, ← this]; exact new_row _ _ _
  have B1 : Hid (Below g w w1) := by rw [← hw1, ← hg]; exact (((Below.refl _ _).alloc (Nat.le_refl _) _).alloc (by simp) _).alloc (by simp; omega) _
  have hs1 : w1.heap.size = g + 3 := by rw [← hw1, ← hg]; simp
  rw [hg]
  go_enter Try.func24, Try.ntmps24
  go_upto_region 1 with fail
  go_upto_region 2 with (first
    | (refine wpList_load_row rfl 23 _ rfl g rfl 23 (cfg c0) (0, 0) _ R1.out Try.underlying23 rfl (cfg_size _) ?_)
    | (refine wpList_store_row rfl 23 _ _ rfl g (cfg c) rfl rfl 23 (cfg c0) R2.out (cfg_size _) rfl (cfg_one _) ?_)
    | (go_at_call 52; refine (small_of c0 _).mono ?_; rintro e w2 ⟨rfl, hb2⟩
       rw [HC.out]
       have R2 : Hid (w2.heap[g]? = some (.cells (cfg c0) 23 (0, 0))) := by rw [Hid, hb2.block _ (by omega)]; exact R1.out))
  obtain ⟨w3, hw3⟩ : ∃ w3, w2.setRow g (cfg c) = w3 := ⟨_, rfl⟩
  have hs2 := hb2.size
  have R3 : Hid (w3.heap[g]? = some (.cells (cfg c) 23 (0, 0))) := by rw [← hw3]; exact setRow_same R2.out
  have L3 : Hid (w3.heap[g + 1]? = some (.cells #[.int .i64 0, .int .i64 0, .int .i64 0, .int .i64 0, .int .i64 0, .int .i64 0, .int .i64 0, .int .i64 0, .int .i64 0, .int .i64 0, .int .i64 0, .int .i64 0, .int .i64 0, .int .i64 0, .int .i64 0, .int .i64 0, .int .i64 0, .int .i64 0, .int .i64 0, .int .i64 0, .int .i64 0, .int .i64 0, .int .i64 0] 27 (0, 0))) := by rw [← hw3, Hid, setRow_other _ _ _ _ (by omega), hb2.block _ (by omega)]; exact L1.out
  have Z3 : Hid (w3.heap[g + 2]? = some (.cells #[.int .i64 0, .int .i64 0, .int .i64 0, .int .i64 0, .int .i64 0, .int .i64 0, .int .i64 0, .int .i64 0, .int .i64 0, .int .i64 0, .int .i64 0] 32 (0, 0))) := by rw [← hw3, Hid, setRow_other _ _ _ _ (by omega), hb2.block _ (by omega)]; exact Z1.out
  have B3 : Hid (Below g w w3) := by rw [← hw3]; exact setRow_below (B1.out.trans (hb2.mono (by omega))) (Nat.le_refl _) _
  have hs3 : g + 3 ≤ w3.heap.size := by rw [← hw3, setRow_size, ← hs1]; exact hb2.size
  rw [hw3]
  clear hw3 hb2 R2 hw1 hs1 R1 B1 L1 Z1 hs2
  go_upto_region 3 with (first
    | (refine wpList_load_row rfl 23 _ rfl g rfl 23 (cfg c) (0, 0) _ R3.out Try.underlying23 rfl (cfg_size _) ?_)
    | (refine wpList_store_row rfl 27 _ _ rfl w4.heap.size (lay c p) rfl rfl 27 #[.int .i64 0, .int .i64 0, .int .i64 0, .int .i64 0, .int .i64 0, .int .i64 0, .int .i64 0, .int .i64 0, .int .i64 0, .int .i64 0, .int .i64 0, .int .i64 0, .int .i64 0, .int .i64 0, .int .i64 0, .int .i64 0, .int .i64 0, .int .i64 0, .int .i64 0, .int .i64 0, .int .i64 0, .int .i64 0, .int .i64 0] R5.out (lay_size _ _) rfl (lay_one _ _) ?_)
    | (go_at_call 10; refine (of_of c _ FH.out).mono ?_; rintro e w4 ⟨rfl, hb4⟩
       rw [HP.out]
       obtain ⟨w5, hw5⟩ : ∃ w5, w4.alloc (.cells #[.int .i64 0, .int .i64 0, .int .i64 0, .int .i64 0, .int .i64 0, .int .i64 0, .int .i64 0, .int .i64 0, .int .i64 0, .int .i64 0, .int .i64 0, .int .i64 0, .int .i64 0, .int .i64 0, .int .i64 0, .int .i64 0, .int .i64 0, .int .i64 0, .int .i64 0, .int .i64 0, .int .i64 0, .int .i64 0, .int .i64 0] 27) = w5 := ⟨_, rfl⟩
       have R5 : Hid (w5.heap[w4.heap.size]? = some (.cells #[.int .i64 0, .int .i64 0, .int .i64 0, .int .i64 0, .int .i64 0, .int .i64 0, .int .i64 0, .int .i64 0, .int .i64 0, .int .i64 0, .int .i64 0, .int .i64 0, .int .i64 0, .int .i64 0, .int .i64 0, .int .i64 0, .int .i64 0, .int .i64 0, .int .i64 0, .int .i64 0, .int .i64 0, .int .i64 0, .int .i64 0] 27 (0, 0))) := by rw [← hw5]; exact new_row _ _ _))
  obtain ⟨l, hl⟩ : ∃ l, w4.heap.size = l := ⟨_, rfl⟩
  obtain ⟨w6, hw6⟩ : ∃ w6, w5.setRow w4.heap.size (lay c p) = w6 := ⟨_, rfl⟩
  have hgl : g + 3 ≤ l := by rw [← hl]; exact Nat.le_trans hs3 hb4.size
  have hs6 : w6.heap.size = l + 1 := by rw [← hw6, setRow_size, ← hw5, ← hl]; simp
  have R6 : Hid (w6.heap[g]? = some (.cells (cfg c) 23 (0, 0))) := by rw [← hw6, Hid, setRow_other _ _ _ _ (by omega), ← hw5, alloc_heap _ _ _ (by omega), hb4.block _ (by omega)]; exact R3.out
  have L3' : Hid (w6.heap[g + 1]? = some (.cells #[.int .i64 0, .int .i64 0, .int .i64 0, .int .i64 0, .int .i64 0, .int .i64 0, .int .i64 0, .int .i64 0, .int .i64 0, .int .i64 0, .int .i64 0, .int .i64 0, .int .i64 0, .int .i64 0, .int .i64 0, .int .i64 0, .int .i64 0, .int .i64 0, .int .i64 0, .int .i64 0, .int .i64 0, .int .i64 0, .int .i64 0] 27 (0, 0))) := by rw [← hw6, Hid, setRow_other _ _ _ _ (by omega), ← hw5, alloc_heap _ _ _ (by omega), hb4.block _ (by omega)]; exact L3.out
  have Z3' : Hid (w6.heap[g + 2]? = some (.cells #[.int .i64 0, .int .i64 0, .int .i64 0, .int .i64 0, .int .i64 0, .int .i64 0, .int .i64 0, .int .i64 0, .int .i64 0, .int .i64 0, .int .i64 0] 32 (0, 0))) := by rw [← hw6, Hid, setRow_other _ _ _ _ (by omega), ← hw5, alloc_heap _ _ _ (by omega), hb4.block _ (by omega)]; exact Z3.out
  have L6 : Hid (w6.heap[l]? = some (.cells (lay c p) 27 (0, 0))) := by rw [← hw6, ← hl]; exact setRow_same R5.out
  have B6 : Hid (Below g w w6) := by rw [← hw6]; exact setRow_below (by rw [← hw5]; exact (B3.out.trans (hb4.mono (by omega))).alloc (by omega) _) (by omega) _
  rw [hw6, hl]
  clear hw6 hw5 R5 hb4 hl R3 B3 hs3 L3 Z3
  obtain ⟨w7, hw7⟩ : ∃ w7, w6.alloc (.cells #[.int .i64 0, .int .i64 0, .int .i64 0, .int .i64 0, .int .i64 0, .int .i64 0, .int .i64 0, .int .i64 0, .int .i64 0, .int .i64 0, .int .i64 0] 32) = w7 := ⟨_, rfl⟩
  have R7 : Hid (w7.heap[l + 1]? = some (.cells #[.int .i64 0, .int .i64 0, .int .i64 0, .int .i64 0, .int .i64 0, .int .i64 0, .int .i64 0, .int .i64 0, .int .i64 0, .int .i64 0, .int .i64 0] 32 (0, 0))) := by rw [← hw7, ← hs6]; exact new_row _ _ _
  go_upto_region 4 with (first
    | (refine wpList_load_row rfl 23 _ rfl g rfl 23 (cfg c) (0, 0) _ R6.out Try.underlying23 rfl (cfg_size _) ?_)
    | (refine wpList_built rfl 32 _ rfl [(0, .agg (cfg c))] rfl (cfg c) (built_ref c) ?_)
    | (refine wpList_store_row rfl 32 _ _ rfl (l + 1) (cfg c) rfl rfl 32 #[.int .i64 0, .int .i64 0, .int .i64 0, .int .i64 0, .int .i64 0, .int .i64 0, .int .i64 0, .int .i64 0, .int .i64 0, .int .i64 0, .int .i64 0] R7.out (cfg2_size _) rfl (cfg_one _) ?_))
  obtain ⟨w8, hw8⟩ : ∃ w8, w7.setRow (l + 1) (cfg c) = w8 := ⟨_, rfl⟩
  have hs8 : w8.heap.size = l + 2 := by rw [← hw8, setRow_size, ← hw7]; simp; omega
  have R8 : Hid (w8.heap[l + 1]? = some (.cells (cfg c) 32 (0, 0))) := by rw [← hw8]; exact setRow_same R7.out
  have L8 : Hid (w8.heap[l]? = some (.cells (lay c p) 27 (0, 0))) := by rw [← hw8, Hid, setRow_other _ _ _ _ (by omega), ← hw7, alloc_heap _ _ _ (by omega)]; exact L6.out
  have L8' : Hid (w8.heap[g + 1]? = some (.cells #[.int .i64 0, .int .i64 0, .int .i64 0, .int .i64 0, .int .i64 0, .int .i64 0, .int .i64 0, .int .i64 0, .int .i64 0, .int .i64 0, .int .i64 0, .int .i64 0, .int .i64 0, .int .i64 0, .int .i64 0, .int .i64 0, .int .i64 0, .int .i64 0, .int .i64 0, .int .i64 0, .int .i64 0, .int .i64 0, .int .i64 0] 27 (0, 0))) := by rw [← hw8, Hid, setRow_other _ _ _ _ (by omega), ← hw7, alloc_heap _ _ _ (by omega)]; exact L3'.out
  have Z8' : Hid (w8.heap[g + 2]? = some (.cells #[.int .i64 0, .int .i64 0, .int .i64 0, .int .i64 0, .int .i64 0, .int .i64 0, .int .i64 0, .int .i64 0, .int .i64 0, .int .i64 0, .int .i64 0] 32 (0, 0))) := by rw [← hw8, Hid, setRow_other _ _ _ _ (by omega), ← hw7, alloc_heap _ _ _ (by omega)]; exact Z3'.out
  have B8 : Hid (Below g w w8) := by rw [← hw8]; exact setRow_below (by rw [← hw7]; exact B6.out.alloc (by omega) _) (by omega) _
  rw [hw8]
  clear hw8 hw7 R7 R6 L6 B6 hs6 L3' Z3'
  have hl8 : l + 2 ≤ w8.heap.size := by omega
  have WO : Hid (∀ w, Calls Try.prog 51 #[.agg (cfg c)] w fun e w' => e = .returned (.int .i64 (W : Int)) ∧ Below w.heap.size w w') := fun w => by rw [← HW.out]; exact words_of c w FH.out
  have KR : Hid (w8.heap.size = l + 2) := Lib.hid hs8
  refine wp_region_inv (fun done a w' => ∃ d0 d1 d2 d3 d4 d5 d6 d7 q, done = #[d0, d1, d2, d3, d4, d5, d6, d7] ∧ (d3 = true → d2 = true) ∧ (d7 = true → d4 = true) ∧
    a = { tmps := #[.agg (cfg c0), .pointer (some ⟨g, 0, none⟩), .pointer (some ⟨g + 1, 0, none⟩), .pointer (some ⟨g + 1 + 1, 0, none⟩), (if d7 = true then .slice (some ⟨q, 0, none⟩) W W else .slice none 0 0), .pointer (some ⟨l, 0, none⟩), .int .i64 0, .pointer (some ⟨l + 1, 0, none⟩), .agg (cfg c0), .agg (cfg c), .tuple #[.agg (lay c p), .int .i64 0], .agg (cfg c), .tuple #[.agg (lay c p), .int .i64 0], .agg (lay c p), .int .i64 0, .agg (cfg c), .agg (cfg c),
      (if d0 = true then .agg (lay c p) else undef), (if d1 = true then .agg (cfg c) else undef), (if d2 = true then .agg (cfg c) else undef), (if d3 = true then .int .i64 (W : Int) else undef), (if d4 = true then .slice (some ⟨q, 0, none⟩) W W else undef)], defers := [] } ∧
    w'.heap[l]? = some (.cells (lay c p) 27 (0, 0)) ∧ w'.heap[l + 1]? = some (.cells (cfg c) 32 (0, 0)) ∧
    w'.heap[g + 1]? = some (.cells (if d5 = true then lay c p else #[.int .i64 0, .int .i64 0, .int .i64 0, .int .i64 0, .int .i64 0, .int .i64 0, .int .i64 0, .int .i64 0, .int .i64 0, .int .i64 0, .int .i64 0, .int .i64 0, .int .i64 0, .int .i64 0, .int .i64 0, .int .i64 0, .int .i64 0, .int .i64 0, .int .i64 0, .int .i64 0, .int .i64 0, .int .i64 0, .int .i64 0]) 27 (0, 0)) ∧ w'.heap[g + 2]? = some (.cells (if d6 = true then cfg c else #[.int .i64 0, .int .i64 0, .int .i64 0, .int .i64 0, .int .i64 0, .int .i64 0, .int .i64 0, .int .i64 0, .int .i64 0, .int .i64 0, .int .i64 0]) 32 (0, 0)) ∧
    (d4 = true → l + 2 ≤ q ∧ w'.heap[q]? = some (.cells (madeCells #[.int .i64 0] (W * 1)) 3 (0, 0))) ∧ Below g w w') (by kernel_rfl) ?_ ?_ ?_
  case refine_1 => exact ⟨false, false, false, false, false, false, false, false, 0, rfl, by simp, by simp, rfl, L8.out, R8.out, L8'.out, Z8'.out, by simp, B8.out.trans (Below.refl _ _).drew⟩
  case refine_2 =>
    rintro done a w' i ⟨d0, d1, d2, d3, d4, d5, d6, d7, q, rfl, h32, h74, rfl, hl, hr, hz1, hz2, hq, hb⟩ hi
    have hsz : l + 1 < w'.heap.size := (Array.getElem?_eq_some_iff.1 hr).1
    obtain ⟨hlt, _⟩ := in_of_getD (mem_ready.1 hi).1
    have hcase : i = 0 ∨ i = 1 ∨ i = 2 ∨ i = 3 ∨ i = 4 ∨ i = 5 ∨ i = 6 ∨ i = 7 := by simp at hlt; omega
    rcases hcase with rfl | rfl | rfl | rfl | rfl | rfl | rfl | rfl
    · refine wpOp_of rfl rfl (wp_load_row 27 _ rfl l rfl 27 (lay c p) (0, 0) _ hl Try.underlying27 rfl (lay_size _ _) ?_)
      exact ⟨true, d1, d2, d3, d4, d5, d6, d7, q, rfl, h32, h74, rfl, hl, hr, hz1, hz2, hq, hb⟩
    · refine wpOp_of rfl rfl (wp_load_row 32 _ rfl (l + 1) rfl 32 (cfg c) (0, 0) _ hr Try.underlying32 rfl (cfg2_size _) ?_)
      exact ⟨d0, true, d2, d3, d4, d5, d6, d7, q, rfl, h32, h74, rfl, hl, hr, hz1, hz2, hq, hb⟩
    · refine wpOp_of rfl rfl (wp_load_row 32 _ rfl (l + 1) rfl 32 (cfg c) (0, 0) _ hr Try.underlying32 rfl (cfg2_size _) ?_)
      exact ⟨d0, d1, true, d3, d4, d5, d6, d7, q, rfl, fun _ => rfl, h74, rfl, hl, hr, hz1, hz2, hq, hb⟩
    · obtain ⟨_, hall⟩ := ready_of hi rfl
      have e2 : d2 = true := hall ⟨2, .data⟩ (by simp) rfl
      subst e2
      refine wpOp_of rfl rfl (wp_call_of (f := 51) (args := #[.agg (cfg c)]) (by kernel_rfl) ((WO.out w').mono ?_))
      rintro e w'' ⟨rfl, hb2⟩
      refine ⟨_, rfl, d0, d1, true, true, d4, d5, d6, d7, q, rfl, fun _ => rfl, h74, rfl, ?_, ?_, ?_, ?_, ?_, ?_⟩
      · rw [hb2.block _ (by omega)]; exact hl
      · rw [hb2.block _ (by omega)]; exact hr
      · rw [hb2.block _ (by omega)]; exact hz1
      · rw [hb2.block _ (by omega)]; exact hz2
      · intro h4
        obtain ⟨h5, h6⟩ := hq h4
        have := (Array.getElem?_eq_some_iff.1 h6).1
        exact ⟨h5, by rw [hb2.block _ this]; exact h6⟩
      · exact hb.trans (hb2.mono (by omega))
    · obtain ⟨hd, hall⟩ := ready_of hi rfl
      have e4 : d4 = false := hd
      have e7 : d7 = false := by cases d7 <;> simp_all
      subst e4 e7
      have e3 : d3 = true := hall ⟨3, .data⟩ (by simp) rfl
      subst e3
      have e2 : d2 = true := h32 rfl
      subst e2
      have hmk := make_ints W (by omega) w'
      refine wpOp_of rfl rfl (wp_make_of (v := .slice (some ⟨w'.heap.size, 0, none⟩) W W) (w' := w'.alloc (.cells (madeCells #[.int .i64 0] (W * 1)) 3)) 43 _ _ rfl hmk ?_)
      · have hs2 : l + 2 ≤ w'.heap.size := by omega
        refine ⟨d0, d1, true, true, true, d5, d6, false, w'.heap.size, rfl, fun _ => rfl, fun h => by simp at h, rfl, ?_, ?_, ?_, ?_, ?_, ?_⟩
        · rw [alloc_heap _ _ _ (by omega)]; exact hl
        · rw [alloc_heap _ _ _ (by omega)]; exact hr
        · rw [alloc_heap _ _ _ (by omega)]; exact hz1
        · rw [alloc_heap _ _ _ (by omega)]; exact hz2
        · intro _
          exact ⟨hs2, new_row _ _ _⟩
        · exact hb.alloc (by omega) _
    · obtain ⟨_, hall⟩ := ready_of hi rfl
      have e0 : d0 = true := hall ⟨0, .data⟩ (by simp) rfl
      subst e0
      refine wpOp_of rfl rfl (wp_store_row 27 _ _ rfl (g + 1) (lay c p) rfl rfl 27 _ hz1 (lay_size _ _) (by split <;> rfl) (lay_one _ _) ?_)
      refine ⟨true, d1, d2, d3, d4, true, d6, d7, q, rfl, h32, h74, rfl, ?_, ?_, ?_, ?_, ?_, ?_⟩
      · rw [setRow_other _ _ _ _ (by omega)]; exact hl
      · rw [setRow_other _ _ _ _ (by omega)]; exact hr
      · exact setRow_same hz1
      · rw [setRow_other _ _ _ _ (by omega)]; exact hz2
      · intro h4
        obtain ⟨h5, h6⟩ := hq h4
        exact ⟨h5, by rw [setRow_other _ _ _ _ (by omega)]; exact h6⟩
      · exact setRow_below hb (by omega) _
    · obtain ⟨_, hall⟩ := ready_of hi rfl
      have e1 : d1 = true := hall ⟨1, .data⟩ (by simp) rfl
      subst e1
      refine wpOp_of rfl rfl (wp_store_row 32 _ _ rfl (g + 2) (cfg c) rfl rfl 32 _ hz2 (cfg2_size _) (by split <;> rfl) (cfg_one _) ?_)
      refine ⟨d0, true, d2, d3, d4, d5, true, d7, q, rfl, h32, h74, rfl, ?_, ?_, ?_, ?_, ?_, ?_⟩
      · rw [setRow_other _ _ _ _ (by omega)]; exact hl
      · rw [setRow_other _ _ _ _ (by omega)]; exact hr
      · rw [setRow_other _ _ _ _ (by omega)]; exact hz1
      · exact setRow_same hz2
      · intro h4
        obtain ⟨h5, h6⟩ := hq h4
        exact ⟨h5, by rw [setRow_other _ _ _ _ (by omega)]; exact h6⟩
      · exact setRow_below hb (by omega) _
    · obtain ⟨_, hall⟩ := ready_of hi rfl
      have e4 : d4 = true := hall ⟨4, .data⟩ (by simp) rfl
      subst e4
      refine wpOp_of rfl rfl (BigFrame.wp_assign _ rfl ?_)
      exact ⟨d0, d1, d2, d3, true, d5, d6, true, q, rfl, h32, fun _ => rfl, rfl, hl, hr, hz1, hz2, hq, hb⟩
  case refine_3 =>
    rintro done a w' ⟨d0, d1, d2, d3, d4, d5, d6, d7, q, rfl, h32, h74, rfl, hl, hr, hz1, hz2, hq, hb⟩ hrd
    have all : (d0 && d1 && d2 && d3 && d4 && d5 && d6 && d7) = true := by
      clear hz1 hz2 hq h32 h74
      revert hrd
      revert d0 d1 d2 d3 d4 d5 d6 d7
      decide +kernel
    simp only [Bool.and_eq_true] at all
    obtain ⟨⟨⟨⟨⟨⟨⟨rfl, rfl⟩, rfl⟩, rfl⟩, rfl⟩, rfl⟩, rfl⟩, rfl⟩ := all
    obtain ⟨hq1, hq2⟩ := hq rfl
    simp only [if_true] at hz1 hz2
    simp only [if_true]
    go_wp2
    refine bodyPost_ret (results_rows2_tmp rfl _ _ (g + 1) (g + 2) 27 32 (lay c p) (cfg c) _ _ rfl rfl hz1 hz2 Try.underlying27 rfl (lay_size _ _) Try.underlying32 rfl (cfg2_size _)) rfl ?_
    exact ⟨q, rfl, by omega, by simpa using hq2, hb⟩

end Begin_
end Go.Proofs.Ytnpieopflgkjdaa
