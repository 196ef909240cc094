import Derived.Test.YtllohpkbnopbfaaSorEach
import Derived.OneCell
namespace Go.Bas
open Go.RowKit
/-- a block of one cell -/
def One (w : World) (c : Nat) (v : Value) (t : TypeId) : Prop := w.heap[c]? = some (.cells #[v] t (0, 0))
section
variable {w w' : World} {c : Nat} {v : Value} {t : TypeId}
theorem One.cell (h : One w c v t) : w.cell? ⟨c, 0, none⟩ = some v := cell_of_one h
theorem One.free (h : One w c v t) : w.frozen? ⟨c, 0, none⟩ = false := free_of_one h
theorem One.lt (h : One w c v t) : c < w.heap.size := lt_of_block h
theorem One.drewN (h : One w c v t) (n : Nat) : One (w.drewN n) c v t := h
theorem One.chg {S : Nat → Prop} (h : One w c v t) (hc : Chg S w w') (hs : ¬ S c) : One w' c v t := (hc.block c h.lt hs).trans h
theorem One.kept (h : One w c v t) (hk : w'.heap[c]? = w.heap[c]?) : One w' c v t := hk.trans h
theorem One.alloc (h : One w c v t) (o : Obj) : One (w.alloc o) c v t := h.kept (Below.heap_alloc _ _ _ h.lt)
theorem One.set (h : One w c v t) (u : Value) : One (w.setCell ⟨c, 0, none⟩ u) c u t := one_setCell h
theorem One.other (h : One w c v t) {a : Addr} (hne : c ≠ a.block) (u : Value) : One (w.setCell a u) c v t := h.kept (Below.heap_setCell _ _ _ _ hne)
theorem One.new (w : World) (v : Value) (t : TypeId) : One (w.alloc (.cells #[v] t)) w.heap.size v t := heap_alloc_new w _
end
end Go.Bas

namespace Go.Proofs.Ytllohpkbnopbfaa
open Go.RowKit Go.Bas SorPlain Go.Sor
namespace SorEach
open SorStr SorActs
open SorOthers (acts_shape ky vl look_str)

/-- the four variables and the map, as Each's callback has them -/
structure St (B : Nat) (w0 w : World) (c3 c5 c7 c8 mb : Nat) (most : Int) (told : Int) (xs : List (Int × Value)) : Prop where
  h3 : One w c3 (.int .i64 most) 3
  h5 : One w c5 (.pointer (some ⟨mb, 0, none⟩)) 25
  h7 : One w c7 (.int .i64 told) 3
  h8 : One w c8 (.bool true) 4
  m : ∃ v, MyMap TM TE B w mb v xs ∧ ∀ k, fp mb v k → k ≠ c3 ∧ k ≠ c5 ∧ k ≠ c7 ∧ k ≠ c8
  low : B ≤ c3 ∧ B ≤ c5 ∧ B ≤ c7 ∧ B ≤ c8
  apart : c7 ≠ c3 ∧ c7 ≠ c5 ∧ c7 ≠ c8 ∧ c8 ≠ c3 ∧ c8 ≠ c5
  bel : Below B w0 w

variable {B : Nat} {w0 w : World} {c3 c5 c7 c8 mb : Nat} {most told : Int} {xs : List (Int × Value)}
theorem St.drewN (h : St B w0 w c3 c5 c7 c8 mb most told xs) (n : Nat) : St B w0 (w.drewN n) c3 c5 c7 c8 mb most told xs := by
  obtain ⟨v, hm, hf⟩ := h.m
  exact ⟨h.h3, h.h5, h.h7, h.h8, ⟨v, hm.drewN n, hf⟩, h.low, h.apart, h.bel.trans (drewN_below _ _ _)⟩
theorem St.step (h : St B w0 w c3 c5 c7 c8 mb most told xs) (t : Int) : St B w0 ((w.setCell ⟨c8, 0, none⟩ (.bool true)).setCell ⟨c7, 0, none⟩ (.int .i64 t)) c3 c5 c7 c8 mb most t xs := by
  obtain ⟨a1, a2, a3, a4, a5⟩ := h.apart
  obtain ⟨v, hm, hf⟩ := h.m
  refine ⟨(h.h3.other a4.symm _).other a1.symm _, (h.h5.other a5.symm _).other a2.symm _, (h.h7.other a3 _).set _, (h.h8.set _).other a3.symm _, ⟨v, ⟨hm.is.kept fun k hk => ?_, hm.low, hm.own⟩, hf⟩, h.low, h.apart, (h.bel.setCell h.low.2.2.2 _).setCell h.low.2.2.1 _⟩
  rw [Below.heap_setCell _ _ _ _ (hf k hk).2.2.1, Below.heap_setCell _ _ _ _ (hf k hk).2.2.2]

set_option maxHeartbeats 400000 in
/-- the callback -/
theorem callback (h : St B w0 w c3 c5 c7 c8 mb most told xs) (hx : xs.length ≤ 120) (i : Nat) (hi : i < xs.length) (ht : told = i) (s : ByteArray) (hs : (xs.map (·.2)).getD i undef = .string s) :
    Calls Try.prog 13 #[.int .i64 ((keys xs).getD i 0), .string s, .pointer (some ⟨c5, 0, none⟩), .pointer (some ⟨c7, 0, none⟩), .pointer (some ⟨c8, 0, none⟩), .pointer (some ⟨c3, 0, none⟩)] w
      fun e w' => e = .returned (.bool (decide ((i : Int) + 1 < most))) ∧ St B w0 w' c3 c5 c7 c8 mb most (i + 1) xs := by
  subst ht
  obtain ⟨v, hm, hf⟩ := h.m
  have ca := at_some hm.is (by omega) i hi
  rw [hs] at ca
  obtain ⟨x, hx'⟩ : ∃ x, (keys xs).getD i 0 = x := ⟨_, rfl⟩
  rw [hx'] at ca ⊢
  have g3 := h.h3.cell; have g5 := h.h5.cell; have g7 := h.h7.cell; have g8 := h.h8.cell
  have f7 := h.h7.free; have f8 := h.h8.free
  have fin : Hid (∀ m, St B w0 (((w.drewN m).setCell ⟨c8, 0, none⟩ (.bool true)).setCell ⟨c7, 0, none⟩ (.int .i64 ((i : Int) + 1))) c3 c5 c7 c8 mb most (i + 1) xs) := fun m => (h.drewN m).step _
  obtain ⟨a1, a2, a3, a4, a5⟩ := h.apart
  have hi2 : i < 120 := by omega
  clear hx' hs hm hf h hi
  go_enter Try.func13, Try.ntmps13
  go_wp2_with (go_at_call 14; refine ca.mono ?_; rintro e w' ⟨rfl, m, rfl⟩)
  go_ret
  exact ⟨rfl, fin.out m⟩


/-- the map and two variables, ahead of Each -/
structure St1 (B : Nat) (w0 w : World) (c3 c5 mb : Nat) (most : Int) (xs : List (Int × Value)) : Prop where
  h3 : One w c3 (.int .i64 most) 3
  h5 : One w c5 (.pointer (some ⟨mb, 0, none⟩)) 25
  m : ∃ v, MyMap TM TE B w mb v xs ∧ ∀ k, fp mb v k → k ≠ c3 ∧ k ≠ c5
  low : B ≤ c3 ∧ B ≤ c5
  size : B ≤ w.heap.size
  bel : Below B w0 w
theorem St1.drewN (h : St1 B w0 w c3 c5 mb most xs) (n : Nat) : St1 B w0 (w.drewN n) c3 c5 mb most xs := by
  obtain ⟨v, hm, hf⟩ := h.m
  exact ⟨h.h3, h.h5, ⟨v, hm.drewN n, hf⟩, h.low, h.size, h.bel.trans (drewN_below _ _ _)⟩
theorem St1.put (h : St1 B w0 w c3 c5 mb most xs) (hn : (xs.length + 1) * 24 ≤ 140737488355328) (k : Int) (s : ByteArray) :
    Calls Try.prog 11 #[.pointer (some ⟨mb, 0, none⟩), .int .i64 k, .string s] w fun e w' => e = .returned (.bool (!has k xs)) ∧ St1 B w0 w' c3 c5 mb most (SorPlain.put k (.string s) xs) := by
  obtain ⟨v, hm, hf⟩ := h.m
  refine (put_any hm.is hn k s).mono fun e w' ⟨he, v', hm', hc, hfr⟩ => ⟨he, h.h3.chg hc fun hk => (hf _ hk).1 rfl, h.h5.chg hc fun hk => (hf _ hk).2 rfl, ⟨v', hm.next h.size hm' hfr, fun k hk => ?_⟩, h.low, Nat.le_trans h.size hc.size, h.bel.trans (hc.below h.size hm.fp)⟩
  rcases hk with rfl | hk
  · exact hf k (.inl rfl)
  · rcases hfr with e | ⟨g, e, hg⟩
    · exact hf k (.inr (hk.trans e))
    · rw [e] at hk; injection hk with hk
      have := h.h3.lt; have := h.h5.lt
      omega

/-- how many are told -/
def tells (n : Nat) (most : Int) : Int := if (n : Int) < (if most < 1 then 1 else most) then (n : Int) else (if most < 1 then 1 else most)

theorem each_call (h : St B w0 w c3 c5 c7 c8 mb most 0 xs) (hx : xs.length ≤ 120) (hs : ∀ i, i < xs.length → ∃ u, (xs.map (·.2)).getD i undef = .string u) :
    Calls Try.prog 12 #[.pointer (some ⟨mb, 0, none⟩), .func (.func 13) #[] #[.pointer (some ⟨c5, 0, none⟩), .pointer (some ⟨c7, 0, none⟩), .pointer (some ⟨c8, 0, none⟩), .pointer (some ⟨c3, 0, none⟩)]] w
      fun e w' => e = .returned (.tuple #[]) ∧ St B w0 w' c3 c5 c7 c8 mb most (tells xs.length most) xs := by
  refine each_any (xs := xs) 13 _ (fun i w => St B w0 w c3 c5 c7 c8 mb most i xs ∧ (i = 0 ∨ (i : Int) < most)) _ (by omega)
    (callFunc_run Try.func13 (by kernel_rfl) (by kernel_rfl)) (fun i w h => ?_) (fun i w n h => ⟨h.1.drewN n, h.2⟩) (fun i hi w h => ?_) (fun w h => ?_) w ⟨h, .inl rfl⟩
  · obtain ⟨v, hm, _⟩ := h.1.m; exact ⟨v, hm.is⟩
  · obtain ⟨u, hu⟩ := hs i hi
    have := callback h.1 hx i hi rfl u hu
    rw [hu]
    refine this.mono fun e w' ⟨he, hst⟩ => ⟨_, he, fun hr => ⟨hst, .inr ?_⟩, fun hr => ?_⟩
    · have := of_decide_eq_true hr; omega
    · have h2 := of_decide_eq_false hr
      have e : tells xs.length most = (i : Int) + 1 := by
        unfold tells
        have h3 := h.2
        repeat' split
        all_goals omega
      rw [e]; exact hst
  · have e : tells xs.length most = (xs.length : Int) := by
      unfold tells
      have h3 := h.2
      repeat' split
      all_goals omega
    rw [e]; exact h.1

set_option maxRecDepth 100000 in
set_option maxHeartbeats 1000000 in
theorem walk0 (s : Value) (most : Int) (w : World) (l : List (Int × Int × ByteArray)) (h : Acts w w.heap.size s l) :
    Calls Try.prog 3 #[s, .int .i64 most] w fun e w' => e = .returned (.bool true) ∧ Below w.heap.size w w' := by
  obtain ⟨B, hB⟩ : ∃ B, w.heap.size = B := ⟨_, rfl⟩
  have h1 : Acts (w.alloc (.cells #[.int .i64 most] 3)) B s l := by rw [hB] at h; exact h.below ((Below.refl _ _).alloc (by omega) _)
  have cg := great_any h1
  have hB0 : B ≤ w.heap.size := by omega
  cases hg : greatB l with
  | true =>
    rw [hg] at cg
    clear hg h h1 hB0 hB
    go_enter Try.func3, Try.ntmps3
    go_wp2_with (first | (go_at_call 8; refine cg.mono ?_; rintro e w' ⟨rfl, rfl⟩) | (go_at_call 9; refine (lives_any _).mono ?_; rintro e w1 ⟨rfl, hb1⟩))
    go_ret
    exact ⟨rfl, ((Below.refl _ _).alloc (Nat.le_refl _) _).trans (hb1.mono (by simp))⟩
  | false =>
    have hl := great_len hg
    rw [hg] at cg
    clear hg
    obtain ⟨A, c, rfl, hat⟩ := acts_shape h1
    obtain ⟨n, hn⟩ : ∃ n, l.length = n := ⟨_, rfl⟩
    have HN := Lib.hid hn
    rw [hn] at hl cg ⊢
    clear hn h h1
    obtain ⟨wa, hwa⟩ : ∃ wa, w.alloc (.cells #[.int .i64 most] 3) = wa := ⟨_, rfl⟩
    have h3 : One wa B (.int .i64 most) 3 := by rw [← hwa, ← hB]; exact One.new w _ _
    have ba : Below B w wa := by rw [← hwa]; exact (Below.refl _ _).alloc hB0 _
    rw [hwa] at cg hat
    rw [hB]
    have HWA := Lib.hid hwa; have H3 := Lib.hid h3; have BA := Lib.hid ba
    have hBa : B < wa.heap.size := h3.lt
    clear h3 ba
    go_enter Try.func3, Try.ntmps3
    go_wp2_with fail
    go_at_call 8
    refine cg.mono ?_
    rintro e w' ⟨rfl, rfl⟩
    clear cg
    go_wp2_with fail
    go_at_call 10
    refine (new_any wa).mono ?_
    rintro e wb ⟨rfl, hwb⟩
    obtain ⟨c5, hc5⟩ : ∃ c5, wb.heap.size = c5 := ⟨_, rfl⟩
    obtain ⟨mb, hmb⟩ : ∃ mb, wa.heap.size = mb := ⟨_, rfl⟩
    have hmc : mb < c5 := by rw [← hc5, ← hwb, ← hmb]; simp
    have st : St1 B w (wb.alloc (.cells #[.pointer (some ⟨mb, 0, none⟩)] 25)) B c5 mb most [] := by
      refine ⟨?_, ?_, ⟨.slice none 0 0, ?_, ?_⟩, ⟨Nat.le_refl _, by omega⟩, by simp; omega, ?_⟩
      · rw [← hwb]; exact (H3.out.alloc _).alloc _
      · rw [← hc5]; exact One.new _ _ _
      · have := (myMap_new TM TE wa (show B ≤ wa.heap.size by omega))
        rw [hwb, hmb] at this
        exact ⟨this.is.kept fun k hk => Below.heap_alloc _ _ _ (this.is.lt k hk), this.low, this.own⟩
      · rintro k (rfl | hk)
        · omega
        · simp [Value.ownBlock] at hk
      · refine Below.alloc ?_ (by omega) _
        rw [← hwb]; exact BA.out.alloc (by omega) _
    have ST := Lib.hid st
    rw [hmb]
    clear st hwb
    go_wp2
    have hmb2 : wa.heap.size ≤ mb := by omega
    clear hc5 hmb hwa hB
    go_loopw [6] (fun i wr => ∃ k : Nat, k ≤ n ∧ i = .int .i64 k ∧ Hid (St1 B w wr B c5 mb most (putAll ky vl (l.take k) []))) (fun i _ => n - (intOf i).toNat)
    case atStart => exact ⟨0, by omega, rfl, ST⟩
    case round =>
      obtain ⟨j, hj, rfl, S⟩ := hrel
      have g5 := S.out.h5.cell
      by_cases hlt : j < n
      · have hbel : Below B wa wr := by
          have h := S.out.bel
          have h0 := BA.out
          exact ⟨h.os.trans h0.os.symm, h.tape.trans h0.tape.symm, h.output.trans h0.output.symm, by have := S.out.h5.lt; omega, fun k hk => (h.block k hk).trans (h0.block k hk).symm⟩
        obtain ⟨b, off, rfl, hcell⟩ := hat.out wr hbel j (by rw [HN.out]; exact hlt)
        have hkl : j < l.length := by rw [HN.out]; exact hlt
        obtain ⟨_, hc1, hc2⟩ := hcell hkl
        obtain ⟨x1, hx1⟩ : ∃ x, l[j].2.1 = x := ⟨_, rfl⟩
        obtain ⟨x2, hx2⟩ : ∃ x, l[j].2.2 = x := ⟨_, rfl⟩
        rw [hx1] at hc1; rw [hx2] at hc2
        have hta : putAll ky vl (l.take (j + 1)) [] = put x1 (.string x2) (putAll ky vl (l.take j) []) := by
          rw [List.take_succ_eq_append_getElem hkl, putAll_snoc]
          simp only [ky, vl, hx1, hx2]
        have HTA := Lib.hid hta
        clear hcell hx1 hx2 hta hbel
        have hlen : ((putAll ky vl (l.take j) []).length + 1) * 24 ≤ 140737488355328 := by
          have := putAll_length ky vl (l.take j) []
          simp at this; omega
        have cp := (S.out.drewN 1).put hlen x1 x2
        go_wp2
        go_still_tail 11, (by kernel_rfl)
        change wpList _ _ _ _ _ (wr.drewN 1)
        go_wp2_with fail
        go_at_call 11
        refine cp.mono ?_
        rintro e w2 ⟨rfl, s2⟩
        have fin : Hid (St1 B w w2 B c5 mb most (putAll ky vl (l.take (j + 1)) [])) := by unfold Hid; rw [HTA.out]; exact s2
        clear s2
        go_wp2
        go_roundw
        case rel => exact ⟨j + 1, by omega, by go_num, fin⟩
        case measure => simp [intOf]; omega
      · obtain rfl : n = j := by omega
        have st := S.out
        rw [List.take_of_length_le (by rw [HN.out]; exact Nat.le_refl _)] at st
        obtain ⟨xs, hxs⟩ : ∃ xs, putAll ky vl l [] = xs := ⟨_, rfl⟩
        rw [hxs] at st
        have hxl : xs.length ≤ 120 := by
          rw [← hxs]; have := putAll_length ky vl l []; rw [HN.out] at this; simp at this; omega
        have hstr : ∀ i, i < xs.length → ∃ u, (xs.map (·.2)).getD i undef = .string u := by
          intro i hi
          have hm : xs[i] ∈ putAll ky vl l [] := by rw [hxs]; exact List.getElem_mem hi
          rcases mem_putAll ky vl l hm with h | ⟨a, _, h⟩
          · simp at h
          · exact ⟨a.2.2, by simp [hi, h]⟩
        have S1 := Lib.hid st; have HS := Lib.hid hstr
        obtain ⟨w4, hw4⟩ : ∃ w4, (wr.alloc (.cells #[.int .i64 0] 3)).alloc (.cells #[.bool true] 4) = w4 := ⟨_, rfl⟩
        obtain ⟨c7, hc7⟩ : ∃ c7, wr.heap.size = c7 := ⟨_, rfl⟩
        have s4 : St B w w4 B c5 c7 (c7 + 1) mb most 0 xs := by
          obtain ⟨v, hm, hf⟩ := st.m
          have l3 := st.h3.lt; have l5 := st.h5.lt; have hsz := st.size
          have lm : ∀ k, fp mb v k → k < wr.heap.size := hm.is.lt
          rw [← hw4]
          refine ⟨(st.h3.alloc _).alloc _, (st.h5.alloc _).alloc _, ?_, ?_, ⟨v, ⟨hm.is.kept fun k hk => ?_, hm.low, hm.own⟩, fun k hk => ?_⟩, ⟨st.low.1, st.low.2, by omega, by omega⟩, by omega, ?_⟩
          · rw [← hc7]; exact (One.new wr _ _).alloc _
          · have := One.new (wr.alloc (.cells #[.int .i64 0] 3)) (.bool true) 4
            rw [show (wr.alloc (.cells #[.int .i64 0] 3)).heap.size = c7 + 1 by simp [hc7]] at this
            exact this
          · have := lm k hk
            rw [Below.heap_alloc _ _ _ (by simp; omega), Below.heap_alloc _ _ _ this]
          · have := lm k hk; have := hf k hk
            exact ⟨this.1, this.2, by omega, by omega⟩
          · exact (st.bel.alloc hsz _).alloc (by simp; omega) _
        have l5 := st.h5.lt
        have g5' := s4.h5.cell
        have S4 := Lib.hid s4
        clear st hxs hstr S s4
        go_wp2_with fail
        go_at_call 12
        refine (each_call S4.out hxl HS.out).mono ?_
        rintro e w5 ⟨rfl, s5⟩
        obtain ⟨t, ht⟩ : ∃ t, tells xs.length most = t := ⟨_, rfl⟩
        rw [ht] at s5
        obtain ⟨v, hm, _⟩ := s5.m
        have cl := len_any (hm.is.drewN 1)
        obtain ⟨q, hq⟩ : ∃ q, xs.length = q := ⟨_, rfl⟩
        rw [hq] at cl ht hxl
        have k3 := s5.h3.cell; have k5 := s5.h5.cell; have k7 := s5.h7.cell; have k8 := s5.h8.cell
        have S5 := Lib.hid s5; have HT := Lib.hid ht
        have B5 : Hid (Below B w w5) := s5.bel
        clear s5 hm hq ht hw4 hc7 l5 g5' g5
        have cl2 : Calls Try.prog 15 #[.pointer (some ⟨mb, 0, none⟩)] (w5.drewN 1) fun e w' => e = .returned (.int .i64 q) ∧ w' = w5.drewN 1 := cl.mono fun e w' h => ⟨h.1, h.2.symm⟩
        have CL := Lib.hid cl2
        obtain ⟨M, hM⟩ : ∃ M, (if most < 1 then 1 else most) = M := ⟨_, rfl⟩
        have hN : (if M < (q : Int) then M else (q : Int)) = t := by
          rw [← HT.out, ← hM]; unfold tells
          repeat' split
          all_goals omega
        clear cl cl2
        go_wp2
        refine wp_region_still_tail 11 (by kernel_rfl) (by kernel_rfl) ?_
        simp only [List.take_succ_cons, List.take_zero, List.drop_succ_cons, List.drop_zero]
        repeat still_step
        still_call CL.out
        repeat still_step
        refine wpStill_nil ?_
        change wpList _ _ _ _ _ (w5.drewN 1)
        go_wp2_with fail
        go_at_call 9
        refine (lives_any _).mono ?_
        rintro e w9 ⟨rfl, hb9⟩
        go_wp2
        go_ret
        exact ⟨rfl, (B5.out.trans (drewN_below _ _ _)).trans (hb9.mono (Nat.le_trans hB0 B5.out.size))⟩

theorem walk {H : Type} {enc : TypeId × Value → H} {base : Nat} {spare : Nat → Bool} {held : Bool} {d : DataW H} {p : List MemPlace} {r : Reach} {b0 : Nat} (s : Value) (k : Int) (w : World)
    (hv : Value.okWide Try.prog w r b0 22 s) (h : DataW.Trod enc Try.prog w base spare held 22 s d p) (_ : (Lit.int .i64 k).wf = true) :
    Calls Try.prog 3 #[s, .int .i64 k] w fun e w' => e = .returned (.bool true) ∧ Below w.heap.size w w' := by
  obtain ⟨l, hl⟩ := acts_of hv h
  exact walk0 s k w l hl

end SorEach
end Go.Proofs.Ytllohpkbnopbfaa
