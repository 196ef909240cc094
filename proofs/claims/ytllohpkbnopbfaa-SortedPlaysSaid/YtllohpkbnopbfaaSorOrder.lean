import Derived.Test.YtllohpkbnopbfaaSorActs
import Derived.Test.YtllohpkbnopbfaaSorPlain2
namespace Go.Proofs.Ytllohpkbnopbfaa
open Go.RowKit Go.Bas SorPlain Go.Sor
namespace SorStr
abbrev TM : TypeId := 56
abbrev TE : TypeId := 58

/-- two maps of the call's own, apart -/
def Two (B : Nat) (w : World) (a : Nat) (xa : List (Int × Value)) (b : Nat) (xb : List (Int × Value)) : Prop :=
  ∃ va vb, MyMap TM TE B w a va xa ∧ MyMap TM TE B w b vb xb ∧ ∀ k, fp a va k → ¬ fp b vb k

section
variable {B : Nat} {w w' : World} {a b : Nat} {xa xb : List (Int × Value)}
theorem Two.symm (h : Two B w a xa b xb) : Two B w b xb a xa := by
  obtain ⟨va, vb, ha, hb, hap⟩ := h
  exact ⟨vb, va, hb, ha, fun k h1 h2 => hap k h2 h1⟩
theorem Two.drewN (h : Two B w a xa b xb) (n : Nat) : Two B (w.drewN n) a xa b xb := by
  obtain ⟨va, vb, ha, hb, hap⟩ := h
  exact ⟨va, vb, ha.drewN n, hb.drewN n, hap⟩
theorem Two.keep (h : Two B w a xa b xb) (hk : ∀ k, k < w.heap.size → w'.heap[k]? = w.heap[k]?) : Two B w' a xa b xb := by
  obtain ⟨va, vb, ha, hb, hap⟩ := h
  exact ⟨va, vb, ⟨ha.is.kept fun k hf => hk k (ha.is.lt k hf), ha.low, ha.own⟩, ⟨hb.is.kept fun k hf => hk k (hb.is.lt k hf), hb.low, hb.own⟩, hap⟩
theorem Two.left (h : Two B w a xa b xb) : ∃ va, MyMap TM TE B w a va xa := by
  obtain ⟨va, vb, ha, hb, hap⟩ := h; exact ⟨va, ha⟩
theorem two_put (h : Two B w a xa b xb) (hB : B ≤ w.heap.size) (hn : (xa.length + 1) * 24 ≤ 140737488355328) (k : Int) (s : ByteArray) :
    Calls Try.prog 11 #[.pointer (some ⟨a, 0, none⟩), .int .i64 k, .string s] w fun e w' => e = .returned (.bool (!has k xa)) ∧ Two B w' a (put k (.string s) xa) b xb ∧ Below B w w' := by
  obtain ⟨va, vb, ha, hb, hap⟩ := h
  refine (put_any ha.is hn k s).mono fun e w' ⟨he, v', hm, hc, hf⟩ => ⟨he, ⟨v', vb, ha.next hB hm hf, hb.chg hc fun k h1 h2 => hap k h2 h1, fun k h1 h2 => ?_⟩, hc.below hB ha.fp⟩
  rcases h1 with rfl | h1
  · exact hap k (.inl rfl) h2
  · rcases hf with e | ⟨g, e, hg⟩
    · exact hap k (.inr (h1.trans e)) h2
    · rw [e] at h1; injection h1 with h1
      have := hb.is.lt k h2
      omega
end
end SorStr

namespace SorOrder
open SorStr SorActs

abbrev ky : Int × Int × ByteArray → Int := fun a => a.2.1
abbrev vl : Int × Int × ByteArray → Value := fun a => .string a.2.2

set_option maxRecDepth 100000 in
set_option maxHeartbeats 1000000 in
theorem walk0 (s : Value) (w : World) (l : List (Int × Int × ByteArray)) (h : Acts w w.heap.size s l) :
    Calls Try.prog 4 #[s] w fun e w' => e = .returned (.bool true) ∧ Below w.heap.size w w' := by
  obtain ⟨B, hB⟩ : ∃ B, w.heap.size = B := ⟨_, rfl⟩
  have cg := great_any h
  rw [hB] at h ⊢
  have hB0 : B ≤ w.heap.size := by omega
  have HA := Lib.hid h
  clear hB h
  cases hg : greatB l with
  | true =>
    rw [hg] at cg
    clear hg
    go_enter Try.func4, Try.ntmps4
    go_wp2_with (first | (go_at_call 8; refine cg.mono ?_; rintro e w' ⟨rfl, rfl⟩) | (go_at_call 9; refine (lives_any _).mono ?_; rintro e w1 ⟨rfl, hb1⟩))
    go_ret
    exact ⟨rfl, hb1.mono hB0⟩
  | false =>
    have hl := great_len hg
    rw [hg] at cg
    clear hg
    obtain ⟨n, hn⟩ : ∃ n, l.length = n := ⟨_, rfl⟩
    obtain ⟨A, c, hs, hat⟩ : ∃ A c, s = .slice A n c ∧ Hid (∀ wx, Below B w wx → ∀ i, i < n → ∃ b off, A = some ⟨b, off, none⟩ ∧ ∀ (h : i < l.length), wx.cell? ⟨b, off + i * 3, none⟩ = some (.int .i64 l[i].1) ∧ wx.cell? ⟨b, off + i * 3 + 1, none⟩ = some (.int .i64 l[i].2.1) ∧ wx.cell? ⟨b, off + i * 3 + 2, none⟩ = some (.string l[i].2.2)) := by
      obtain ⟨A, c, rfl, _⟩ := HA.out
      refine ⟨A, c, by rw [hn], fun wx hb i hi => ?_⟩
      obtain ⟨A', c', e, _, hc⟩ := HA.out.below hb
      injection e with e1 e2 e3
      subst e1
      obtain ⟨b, off, rfl, _, hc⟩ := hc (by omega)
      exact ⟨b, off, rfl, fun h => hc i h⟩
    subst hs
    have HN := Lib.hid hn
    rw [hn] at hl
    clear hn HA
    go_enter Try.func4, Try.ntmps4
    go_wp2_with fail
    go_at_call 8
    refine cg.mono ?_
    rintro e w' ⟨rfl, rfl⟩
    clear cg
    go_wp2_with fail
    go_at_call 10
    refine (new_any w).mono ?_
    rintro e w0 ⟨rfl, hw0⟩
    have m0 := myMap_new TM TE w hB0
    have b0 : Below B w (w.alloc (.cells #[.slice none 0 0] TM)) := (Below.refl _ _).alloc hB0 _
    rw [hw0] at m0 b0
    have hs0 : w.heap.size < w0.heap.size := by rw [← hw0]; simp
    have hB1 : B ≤ w0.heap.size := by omega
    have M0 := Lib.hid m0; have B0 := Lib.hid b0
    clear m0 b0 hw0
    go_wp2_with fail
    go_at_call 10
    refine (new_any w0).mono ?_
    rintro e w1 ⟨rfl, hw1⟩
    have t1 : Two B w1 w.heap.size [] w0.heap.size [] := by
      rw [← hw1]
      refine ⟨_, _, ⟨M0.out.is.kept fun k hf => ?_, M0.out.low, M0.out.own⟩, myMap_new TM TE w0 hB1, ?_⟩
      · exact Below.heap_alloc _ _ _ (M0.out.is.lt k hf)
      · rintro k (rfl | h1) (h2 | h2)
        · omega
        · simp [Value.ownBlock] at h2
        · simp [Value.ownBlock] at h1
        · simp [Value.ownBlock] at h1
    have b1 : Below B w w1 := by rw [← hw1]; exact B0.out.alloc hB1 _
    have hB2 : B ≤ w1.heap.size := Nat.le_trans hB1 (by rw [← hw1]; simp)
    have T1 := Lib.hid t1; have B1 := Lib.hid b1
    obtain ⟨ma, hma⟩ : ∃ ma, w.heap.size = ma := ⟨_, rfl⟩
    obtain ⟨mb, hmb⟩ : ∃ mb, w0.heap.size = mb := ⟨_, rfl⟩
    rw [hma, hmb] at T1
    rw [hma, hmb]
    clear t1 b1 hw1 M0 B0 hma hmb hs0 hB1
    go_wp2
    go_loopw [5] (fun i wr => ∃ k : Nat, k ≤ n ∧ i = .int .i64 k ∧ Hid (Two B wr ma (putAll ky vl (l.take k) []) mb (addAll ky vl (l.reverse.take k) [])) ∧ Hid (Below B w wr)) (fun i _ => n - (intOf i).toNat)
    case atStart => exact ⟨0, by omega, rfl, T1, B1⟩
    case round =>
      obtain ⟨k, hk, rfl, T, Bw⟩ := hrel
      by_cases hlt : k < n
      · obtain ⟨b, off, rfl, hcell⟩ := hat.out wr Bw.out k hlt
        have hkl : k < l.length := by rw [HN.out]; exact hlt
        obtain ⟨_, hc1, hc2⟩ := hcell hkl
        obtain ⟨x1, hx1⟩ : ∃ x, l[k].2.1 = x := ⟨_, rfl⟩
        obtain ⟨x2, hx2⟩ : ∃ x, l[k].2.2 = x := ⟨_, rfl⟩
        rw [hx1] at hc1; rw [hx2] at hc2
        have HX1 := Lib.hid hx1; have HX2 := Lib.hid hx2
        clear hcell hx1 hx2
        have hBr : B ≤ wr.heap.size := Nat.le_trans hB0 Bw.out.size
        have hlen : ((putAll ky vl (l.take k) []).length + 1) * 24 ≤ 140737488355328 := by
          have := putAll_length ky vl (l.take k) []
          simp at this; omega
        go_wp2
        go_still_tail 11, (by kernel_rfl)
        change wpList _ _ _ _ _ wr.drew
        go_wp2_with fail
        go_at_call 11
        refine (two_put (T.out.keep (w' := wr.drew) fun _ _ => rfl) hBr hlen x1 x2).mono ?_
        rintro e w2 ⟨rfl, t2, b2⟩
        have hb2 : Below B w w2 := Bw.out.trans ((Below.refl B wr).drew.trans b2)
        obtain ⟨j, hj⟩ : ∃ j, n - 1 - k = j := ⟨_, rfl⟩
        have hjn : j < n := by omega
        have hj1 : (n : Int) - 1 - (k : Int) = (j : Int) := by omega
        obtain ⟨b', off', hA', hcell⟩ := hat.out w2 hb2 j hjn
        injection hA' with hA'
        injection hA' with e1 e2
        subst e1 e2
        have hjl : j < l.length := by rw [HN.out]; exact hjn
        obtain ⟨hd0, hd1, hd2⟩ := hcell hjl
        obtain ⟨y0, hy0⟩ : ∃ x, l[j].1 = x := ⟨_, rfl⟩
        obtain ⟨y1, hy1⟩ : ∃ x, l[j].2.1 = x := ⟨_, rfl⟩
        obtain ⟨y2, hy2⟩ : ∃ x, l[j].2.2 = x := ⟨_, rfl⟩
        rw [hy0] at hd0; rw [hy1] at hd1; rw [hy2] at hd2
        have HY1 := Lib.hid hy1; have HY2 := Lib.hid hy2; have HJ := Lib.hid hj
        have T2 := Lib.hid t2; have B2 := Lib.hid hb2
        clear hcell hy0 hy1 hy2 hj t2 hb2 b2 hc1 hc2
        obtain ⟨w3, hw3⟩ : ∃ w3, w2.alloc (.cells #[.int .i64 y0, .int .i64 y1, .string y2] 29) = w3 := ⟨_, rfl⟩
        have t3 : Two B w3 ma (put x1 (.string x2) (putAll ky vl (l.take k) [])) mb (addAll ky vl (l.reverse.take k) []) := by
          rw [← hw3]; exact T2.out.keep fun k hk => Below.heap_alloc _ _ _ hk
        have hb3 : Below B w w3 := by rw [← hw3]; exact B2.out.alloc (Nat.le_trans hB0 B2.out.size) _
        have hv1 : w3.cell? ⟨w2.heap.size, 1, none⟩ = some (.int .i64 y1) := by rw [← hw3]; simp [cell_of_row _ _ _ _ _ _ (heap_alloc_new w2 _)]
        have hv2 : w3.cell? ⟨w2.heap.size, 2, none⟩ = some (.string y2) := by rw [← hw3]; simp [cell_of_row _ _ _ _ _ _ (heap_alloc_new w2 _)]
        have hB3 : B ≤ w3.heap.size := Nat.le_trans hB0 hb3.size
        have HW3 := Lib.hid hw3
        obtain ⟨vb, mb3⟩ := t3.symm.left
        have hlen3 : (addAll ky vl (l.reverse.take k) []).length + 1 ≤ 121 := by
          have := addAll_length ky vl (l.reverse.take k) []
          simp at this; omega
        have cget := get_any mb3.is (by omega) y1
        have T3 := Lib.hid t3; have B3 := Lib.hid hb3
        clear mb3 t3 hb3
        have hta : putAll ky vl (l.take (k + 1)) [] = put x1 (.string x2) (putAll ky vl (l.take k) []) := by
          rw [List.take_succ_eq_append_getElem hkl, putAll_snoc]
          simp only [ky, vl, HX1.out, HX2.out]
        have hrl : k < l.reverse.length := by simpa using hkl
        have htb : addAll ky vl (l.reverse.take (k + 1)) [] = if has y1 (addAll ky vl (l.reverse.take k) []) then addAll ky vl (l.reverse.take k) [] else put y1 (.string y2) (addAll ky vl (l.reverse.take k) []) := by
          rw [List.take_succ_eq_append_getElem hrl, addAll_snoc]
          have e : l.reverse[k] = l[j] := by
            rw [List.getElem_reverse]
            congr 1
            rw [HN.out, HJ.out]
          rw [e]
          simp only [ky, vl, HY1.out, HY2.out]
        have HTA := Lib.hid hta; have HTB := Lib.hid htb
        clear hta htb hrl
        cases hh : has y1 (addAll ky vl (l.reverse.take k) []) with
        | true =>
          rw [hh] at cget
          have HH := Lib.hid hh
          clear hh
          go_wp2_with fail
          go_at_call 16
          refine cget.mono ?_
          rintro e w4 ⟨rfl, m, rfl⟩
          have fin : Hid (Hid (Two B (w3.drewN m) ma (putAll ky vl (l.take (k + 1)) []) mb (addAll ky vl (l.reverse.take (k + 1)) [])) ∧ Hid (Below B w (w3.drewN m))) := by
            refine ⟨?_, ?_⟩
            · unfold Hid; rw [HTA.out, HTB.out, HH.out]; exact T3.out.drewN m
            · exact B3.out.trans (drewN_below _ _ _)
          go_wp2
          go_roundw
          case rel => exact ⟨k + 1, by omega, by go_num, fin.out.1, fin.out.2⟩
          case measure => simp [intOf]; omega
        | false =>
          rw [hh] at cget
          have HH := Lib.hid hh
          clear hh
          go_wp2_with fail
          go_at_call 16
          refine cget.mono ?_
          rintro e w4 ⟨rfl, m, rfl⟩
          have hB4 : B ≤ (w3.drewN m).heap.size := hB3
          have hlen4 : ((addAll ky vl (l.reverse.take k) []).length + 1) * 24 ≤ 140737488355328 := by omega
          go_wp2_with fail
          go_at_call 11
          refine (two_put (T3.out.symm.drewN m) hB4 hlen4 y1 y2).mono ?_
          rintro e w5 ⟨rfl, t5, b5⟩
          have fin : Hid (Hid (Two B w5 ma (putAll ky vl (l.take (k + 1)) []) mb (addAll ky vl (l.reverse.take (k + 1)) [])) ∧ Hid (Below B w w5)) := by
            refine ⟨?_, ?_⟩
            · unfold Hid; rw [HTA.out, HTB.out, HH.out]; exact t5.symm
            · exact (B3.out.trans (drewN_below _ _ _)).trans b5
          clear t5 b5
          go_wp2
          go_roundw
          case rel => exact ⟨k + 1, by omega, by go_num, fin.out.1, fin.out.2⟩
          case measure => simp [intOf]; omega
      · obtain rfl : n = k := by omega
        have t := T.out
        rw [List.take_of_length_le (by rw [HN.out]; exact Nat.le_refl _), List.take_of_length_le (by rw [List.length_reverse, HN.out]; exact Nat.le_refl _), ← put_add ky vl l] at t
        obtain ⟨xs, hxs⟩ : ∃ xs, putAll ky vl l [] = xs := ⟨_, rfl⟩
        rw [hxs] at t
        have hrise : Rising xs := by rw [← hxs]; exact putAll_rising ky vl rising_nil l
        have hxl : xs.length ≤ 120 := by
          rw [← hxs]; have := putAll_length ky vl l []; rw [HN.out] at this; simp at this; omega
        have hstr : ∀ i, i < xs.length → ∃ u, (xs.map (·.2)).getD i undef = .string u := by
          intro i hi
          have hm : xs[i] ∈ putAll ky vl l [] := by rw [hxs]; exact List.getElem_mem hi
          rcases mem_putAll ky vl l hm with h | ⟨a, _, h⟩
          · simp at h
          · exact ⟨a.2.2, by simp [hi, h]⟩
        have T9 := Lib.hid t; have HR := Lib.hid hrise; have HS := Lib.hid hstr
        clear t hxs hrise T hstr
        obtain ⟨q, hq⟩ : ∃ q, xs.length = q := ⟨_, rfl⟩
        have HQ := Lib.hid hq
        rw [hq] at hxl
        clear hq
        go_wp2
        go_loopw [9, 10, 11, 12, 13, 14, 15, 16, 17, 18] (fun i u10 u11 u12 u13 u14 u15 u16 u17 u18 wx => ∃ j : Nat, j ≤ q ∧ i = .int .i64 j ∧ Hid (Two B wx ma xs mb xs) ∧ Hid (Below B w wx)) (fun i u10 u11 u12 u13 u14 u15 u16 u17 u18 _ => q - (intOf i).toNat)
        case atStart => exact ⟨0, by omega, rfl, T9, Bw⟩
        case round =>
          obtain ⟨j, hj, rfl, T, Bx⟩ := hrel
          obtain ⟨va, ma1⟩ := T.out.left
          obtain ⟨vb, mb1⟩ := T.out.symm.left
          have cl := len_any ma1.is
          rw [HQ.out] at cl
          by_cases hlt : j < q
          · obtain ⟨u, hu⟩ := HS.out j (by rw [HQ.out]; exact hlt)
            obtain ⟨x, hx⟩ : ∃ x, (keys xs).getD j 0 = x := ⟨_, rfl⟩
            have ca := at_some ma1.is (by rw [HQ.out]; omega) j (by rw [HQ.out]; exact hlt)
            have cb := fun m => at_some (mb1.is.drewN m) (by rw [HQ.out]; omega) j (by rw [HQ.out]; exact hlt)
            rw [hu, hx] at ca
            simp only [hu, hx] at cb
            have HX := Lib.hid hx
            clear hu hx
            by_cases h0 : 0 < j
            · obtain ⟨u', hu'⟩ := HS.out (j - 1) (by rw [HQ.out]; omega)
              obtain ⟨x', hx'⟩ : ∃ x, (keys xs).getD (j - 1) 0 = x := ⟨_, rfl⟩
              have cc := fun m => at_some (ma1.is.drewN m) (by rw [HQ.out]; omega) (j - 1) (by rw [HQ.out]; omega)
              simp only [hu', hx'] at cc
              have hless : ¬ x ≤ x' := by
                have h1 := List.pairwise_iff_getElem.1 HR.out (j - 1) j (by simp [HQ.out]; omega) (by simp [HQ.out]; omega) (by omega)
                have h2 : (keys xs)[j - 1]'(by simp [HQ.out]; omega) = x' := by rw [← hx']; simp [HQ.out, show j - 1 < q by omega]
                have h3 : (keys xs)[j]'(by simp [HQ.out]; omega) = x := by rw [← HX.out]; simp [HQ.out, hlt]
                omega
              have hj1 : ((j - 1 : Nat) : Int) = (j : Int) - 1 := by omega
              simp only [hj1] at cc
              clear hu' hx' hj1
              go_wp2_with fail
              go_at_call 15
              refine cl.mono ?_
              rintro e w' ⟨rfl, rfl⟩
              go_wp2_with fail
              go_at_call 14
              refine ca.mono ?_
              rintro e w' ⟨rfl, m, rfl⟩
              go_wp2_with fail
              go_at_call 14
              refine (cb m).mono ?_
              rintro e w' ⟨rfl, m', rfl⟩
              go_wp2_with fail
              go_at_call 14
              refine (cc (m + m')).mono ?_
              rintro e w' ⟨rfl, m'', rfl⟩
              have t9 : Hid (Two B (wr.drewN (m + m' + m'')) ma xs mb xs) := T.out.drewN _
              have b9 : Hid (Below B w (wr.drewN (m + m' + m''))) := Bx.out.trans (drewN_below _ _ _)
              go_wp2
              go_roundw
              case rel => exact ⟨j + 1, by omega, by go_num, t9, b9⟩
              case measure => simp [intOf]; omega
            · obtain rfl : j = 0 := by omega
              go_wp2_with fail
              go_at_call 15
              refine cl.mono ?_
              rintro e w' ⟨rfl, rfl⟩
              go_wp2_with fail
              go_at_call 14
              refine ca.mono ?_
              rintro e w' ⟨rfl, m, rfl⟩
              go_wp2_with fail
              go_at_call 14
              refine (cb m).mono ?_
              rintro e w' ⟨rfl, m', rfl⟩
              have t9 : Hid (Two B (wr.drewN (m + m')) ma xs mb xs) := T.out.drewN _
              have b9 : Hid (Below B w (wr.drewN (m + m'))) := Bx.out.trans (drewN_below _ _ _)
              go_wp2
              go_roundw
              case rel => exact ⟨1, by omega, by go_num, t9, b9⟩
              case measure => simp [intOf]; omega
          · obtain rfl : j = q := by omega
            have cm := len_any mb1.is
            rw [HQ.out] at cm
            go_wp2_with fail
            go_at_call 15
            refine cl.mono ?_
            rintro e w' ⟨rfl, rfl⟩
            go_wp2_with fail
            go_at_call 15
            refine cl.mono ?_
            rintro e w' ⟨rfl, rfl⟩
            go_wp2_with fail
            go_at_call 15
            refine cm.mono ?_
            rintro e w' ⟨rfl, rfl⟩
            go_wp2_with fail
            go_at_call 9
            refine (lives_any _).mono ?_
            rintro e w9 ⟨rfl, hb9⟩
            go_wp2
            go_ret
            exact ⟨rfl, Bx.out.trans (hb9.mono (Nat.le_trans hB0 Bx.out.size))⟩

theorem walk {H : Type} {enc : TypeId × Value → H} {base : Nat} {spare : Nat → Bool} {held : Bool} {d : DataW H} {p : List MemPlace} {r : Reach} {b0 : Nat} (v : Value) (w : World)
    (hv : Value.okWide Try.prog w r b0 22 v) (h : DataW.Trod enc Try.prog w base spare held 22 v d p) :
    Calls Try.prog 4 #[v] w fun e w' => e = .returned (.bool true) ∧ Below w.heap.size w w' := by
  obtain ⟨l, hl⟩ := acts_of hv h
  exact walk0 v w l hl

end SorOrder
end Go.Proofs.Ytllohpkbnopbfaa
