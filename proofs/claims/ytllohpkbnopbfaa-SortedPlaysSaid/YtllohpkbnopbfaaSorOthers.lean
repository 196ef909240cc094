import Derived.Test.YtllohpkbnopbfaaSorCopy
namespace Go.Proofs.Ytllohpkbnopbfaa
open Go.RowKit Go.Bas SorPlain Go.Sor
namespace SorStr
theorem two_cut {B : Nat} {w : World} {a b : Nat} {xa xb : List (Int × Value)} (h : Two B w a xa b xb) (hB : B ≤ w.heap.size) (hn : xa.length ≤ 4611686018427387904) (k : Int) :
    Calls Try.prog 18 #[.pointer (some ⟨a, 0, none⟩), .int .i64 k] w fun e w' => e = .returned (.bool (has k xa)) ∧ Two B w' a (cut k xa) b xb ∧ Below B w w' := by
  obtain ⟨va, vb, ha, hb, hap⟩ := h
  cases hh : has k xa with
  | true =>
    refine (cut_some ha.is hn k hh).mono fun e w' ⟨he, v', hm, hc, hf⟩ => ⟨he, ⟨v', vb, ha.next hB hm (.inl hf), hb.chg hc fun k h1 h2 => hap k h2 h1, fun k h1 h2 => ?_⟩, hc.below hB ha.fp⟩
    rcases h1 with rfl | h1
    · exact hap k (.inl rfl) h2
    · exact hap k (.inr (h1.trans hf)) h2
  | false =>
    have hc : cut k xa = xa := by unfold cut; rw [hh]; rfl
    rw [hc]
    exact (cut_none ha.is hn k hh).mono fun e w' ⟨he, m, hw⟩ => ⟨he, by rw [hw]; exact ⟨va, vb, ha.drewN m, hb.drewN m, hap⟩, by rw [hw]; exact drewN_below _ _ _⟩
theorem two_copy {B : Nat} {w : World} {a : Nat} {va : Value} {xa : List (Int × Value)} (h : MyMap TM TE B w a va xa) (hB : B ≤ w.heap.size) (hn : xa.length * 24 ≤ 140737488355328) :
    Calls Try.prog 17 #[.pointer (some ⟨a, 0, none⟩)] w fun e w' => ∃ b, e = .returned (.pointer (some ⟨b, 0, none⟩)) ∧ Two B w' a xa b xa ∧ Below B w w' := by
  refine (copy_any h.is hn).mono fun e w' ⟨b, v', he, hm, hb⟩ => ⟨b, he, ⟨va, v', ⟨h.is.kept fun k hf => hb.block k (h.is.lt k hf), h.low, h.own⟩, ⟨hm.is, by have := hm.low; omega, fun k hk => by have := hm.own k hk; omega⟩, fun k h1 h2 => ?_⟩, hb.mono hB⟩
  have := h.is.lt k h1
  have := hm.fp k h2
  omega
end SorStr

namespace SorOthers
open SorStr SorActs

abbrev ky : Int × Int × ByteArray → Int := fun a => a.2.1
abbrev vl : Int × Int × ByteArray → Value := fun a => .string a.2.2

/-- the slice of steps, in any later world -/
theorem acts_shape {w : World} {B : Nat} {s : Value} {l : List (Int × Int × ByteArray)} (h : Acts w B s l) :
    ∃ A c, s = .slice A l.length c ∧ Hid (∀ wx, Below B w wx → ∀ i, i < l.length → ∃ b off, A = some ⟨b, off, none⟩ ∧ ∀ (h : i < l.length), wx.cell? ⟨b, off + i * 3, none⟩ = some (.int .i64 l[i].1) ∧ wx.cell? ⟨b, off + i * 3 + 1, none⟩ = some (.int .i64 l[i].2.1) ∧ wx.cell? ⟨b, off + i * 3 + 2, none⟩ = some (.string l[i].2.2)) := by
  obtain ⟨A, c, rfl, hh⟩ := h
  have h : Acts w B (.slice A l.length c) l := ⟨A, c, rfl, hh⟩
  refine ⟨A, c, rfl, fun wx hb i hi => ?_⟩
  obtain ⟨A', c', e, _, hc⟩ := h.below hb
  injection e with e1 e2 e3
  subst e1
  obtain ⟨b, off, rfl, _, hc⟩ := hc (by omega)
  exact ⟨b, off, rfl, fun h => hc i h⟩

theorem look_str {l : List (Int × Int × ByteArray)} {k : Int} {u : Value} (h : SorPlain.look k (putAll ky vl l []) = some u) : ∃ s, u = .string s := by
  rcases mem_putAll ky vl l (look_mem h) with h | ⟨a, _, h⟩
  · simp at h
  · injection h with h1 h2; exact ⟨a.2.2, h2⟩

set_option maxRecDepth 100000 in
set_option maxHeartbeats 1000000 in
theorem walk0 (s : Value) (k : Int) (v : ByteArray) (w : World) (l : List (Int × Int × ByteArray)) (h : Acts w w.heap.size s l) :
    Calls Try.prog 5 #[s, .int .i64 k, .string v] w fun e w' => e = .returned (.bool true) ∧ Below w.heap.size w w' := by
  obtain ⟨B, hB⟩ : ∃ B, w.heap.size = B := ⟨_, rfl⟩
  have cg := great_any h
  rw [hB] at h ⊢
  have hB0 : B ≤ w.heap.size := by omega
  clear hB
  by_cases hgv : greatB l = true ∨ 100 < v.size
  · cases hg : greatB l with
    | true =>
      rw [hg] at cg
      clear hg hgv
      go_enter Try.func5, Try.ntmps5
      go_wp2_with (first | (go_at_call 8; refine cg.mono ?_; rintro e w' ⟨rfl, rfl⟩) | (go_at_call 9; refine (lives_any _).mono ?_; rintro e w1 ⟨rfl, hb1⟩))
      go_ret
      exact ⟨rfl, hb1.mono hB0⟩
    | false =>
      rw [hg] at cg
      have hv : 100 < v.size := by rcases hgv with h | h; · rw [hg] at h; cases h
                                   · exact h
      clear hg hgv
      go_enter Try.func5, Try.ntmps5
      go_wp2_with (first | (go_at_call 8; refine cg.mono ?_; rintro e w' ⟨rfl, rfl⟩) | (go_at_call 9; refine (lives_any _).mono ?_; rintro e w1 ⟨rfl, hb1⟩))
      go_ret
      exact ⟨rfl, hb1.mono hB0⟩
  · have hg : greatB l = false := by
      cases hg : greatB l with
      | true => exact absurd (.inl hg) hgv
      | false => rfl
    have hv : ¬ 100 < v.size := fun h => hgv (.inr h)
    have hl := great_len hg
    rw [hg] at cg
    clear hg hgv
    obtain ⟨A, c, rfl, hat⟩ := acts_shape h
    obtain ⟨n, hn⟩ : ∃ n, l.length = n := ⟨_, rfl⟩
    have HN := Lib.hid hn
    rw [hn] at hl cg ⊢
    clear hn h
    go_enter Try.func5, Try.ntmps5
    go_wp2_with fail
    go_at_call 8
    refine cg.mono ?_
    rintro e w' ⟨rfl, rfl⟩
    clear cg
    go_wp2_with fail
    go_at_call 10
    refine (new_any w).mono ?_
    rintro e w0 ⟨rfl, hw0⟩
    have m0 : ∃ v0, MyMap TM TE B w0 w.heap.size v0 [] := ⟨_, by rw [← hw0]; exact myMap_new TM TE w hB0⟩
    have b0 : Below B w w0 := by rw [← hw0]; exact (Below.refl _ _).alloc hB0 _
    have M0 := Lib.hid m0; have B0 := Lib.hid b0
    obtain ⟨ma, hma⟩ : ∃ ma, w.heap.size = ma := ⟨_, rfl⟩
    rw [hma] at M0 ⊢
    clear m0 b0 hw0 hma
    go_wp2
    go_loopw [8] (fun i wr => ∃ k : Nat, k ≤ n ∧ i = .int .i64 k ∧ Hid (∃ v0, MyMap TM TE B wr ma v0 (putAll ky vl (l.take k) [])) ∧ Hid (Below B w wr)) (fun i _ => n - (intOf i).toNat)
    case atStart => exact ⟨0, by omega, rfl, M0, B0⟩
    case round =>
      obtain ⟨j, hj, rfl, M, Bw⟩ := hrel
      by_cases hlt : j < n
      · obtain ⟨b, off, rfl, hcell⟩ := hat.out wr Bw.out j (by rw [HN.out]; exact hlt)
        have hkl : j < l.length := by rw [HN.out]; exact hlt
        obtain ⟨_, hc1, hc2⟩ := hcell hkl
        obtain ⟨x1, hx1⟩ : ∃ x, l[j].2.1 = x := ⟨_, rfl⟩
        obtain ⟨x2, hx2⟩ : ∃ x, l[j].2.2 = x := ⟨_, rfl⟩
        rw [hx1] at hc1; rw [hx2] at hc2
        have hta : putAll ky vl (l.take (j + 1)) [] = put x1 (.string x2) (putAll ky vl (l.take j) []) := by
          rw [List.take_succ_eq_append_getElem hkl, putAll_snoc]
          simp only [ky, vl, hx1, hx2]
        have HTA := Lib.hid hta
        clear hcell hx1 hx2 hta
        have hBr : B ≤ wr.heap.size := Nat.le_trans hB0 Bw.out.size
        have hlen : ((putAll ky vl (l.take j) []).length + 1) * 24 ≤ 140737488355328 := by
          have := putAll_length ky vl (l.take j) []
          simp at this; omega
        obtain ⟨v0, mm⟩ := M.out
        have cp := put_my (mm.drewN 1) (B := B) hBr hlen x1 x2
        have MM := Lib.hid mm
        clear mm
        go_wp2
        go_still_tail 11, (by kernel_rfl)
        change wpList _ _ _ _ _ (wr.drewN 1)
        go_wp2_with fail
        go_at_call 11
        refine cp.mono ?_
        rintro e w2 ⟨rfl, v2, m2, b2⟩
        have fin : Hid (Hid (∃ v0, MyMap TM TE B w2 ma v0 (putAll ky vl (l.take (j + 1)) [])) ∧ Hid (Below B w w2)) := by
          refine ⟨⟨v2, ?_⟩, Bw.out.trans ((drewN_below _ _ 1).trans b2)⟩
          rw [HTA.out]; exact m2
        clear m2 b2
        go_wp2
        go_roundw
        case rel => exact ⟨j + 1, by omega, by go_num, fin.out.1, fin.out.2⟩
        case measure => simp [intOf]; omega
      · obtain rfl : n = j := by omega
        obtain ⟨v0, mm⟩ := M.out
        rw [List.take_of_length_le (by rw [HN.out]; exact Nat.le_refl _)] at mm
        obtain ⟨xs, hxs⟩ : ∃ xs, putAll ky vl l [] = xs := ⟨_, rfl⟩
        rw [hxs] at mm
        have hrise : Rising xs := by rw [← hxs]; exact putAll_rising ky vl rising_nil l
        have hxl : xs.length ≤ 120 := by
          rw [← hxs]; have := putAll_length ky vl l []; rw [HN.out] at this; simp at this; omega
        have hBr : B ≤ wr.heap.size := Nat.le_trans hB0 Bw.out.size
        have cc := two_copy mm hBr (by omega)
        have HXS := Lib.hid hxs; have HR := Lib.hid hrise
        clear hxs hrise M mm
        go_wp2_with fail
        go_at_call 17
        refine cc.mono ?_
        clear cc
        rintro e w2 ⟨mb, rfl, t2, b2⟩
        have hB2 : B ≤ w2.heap.size := Nat.le_trans hBr b2.size
        have cp := two_put t2 hB2 (by omega) k v
        obtain ⟨t, ht⟩ : ∃ t, (!has k xs) = t := ⟨_, rfl⟩
        rw [ht] at cp
        have HT := Lib.hid ht
        clear ht
        have B2 : Hid (Below B w w2) := Bw.out.trans b2
        clear t2 b2
        go_wp2_with fail
        go_at_call 11
        refine cp.mono ?_
        clear cp
        rintro e w3 ⟨rfl, t3, b3⟩
        have hB3 : B ≤ w3.heap.size := Nat.le_trans hB2 b3.size
        have B3 : Hid (Below B w w3) := B2.out.trans b3
        have hrp : Rising (put k (.string v) xs) := HR.out.put _ _
        have hpl : (put k (.string v) xs).length ≤ 121 := by have := put_length_le k (.string v) xs; omega
        have hhas : has k (put k (.string v) xs) = true := by rw [has_iff hrp, look_put HR.out, if_pos rfl]; rfl
        have hget : getD k (.string { data := #[] }) (put k (.string v) xs) = .string v := by rw [getD_look hrp, look_put HR.out, if_pos rfl]; rfl
        obtain ⟨v3, m3⟩ := t3.left
        have cget := get_any m3.is (by omega) k
        rw [hhas, hget] at cget
        have hpll : (put k (.string v) xs).length = xs.length + (if has k xs then 0 else 1) := put_length k _ xs
        have HRP := Lib.hid hrp; have HH := Lib.hid hhas
        have T3 := Lib.hid t3
        clear m3 t3 b3 hhas hget hrp
        go_wp2_with fail
        go_at_call 16
        refine cget.mono ?_
        clear cget
        rintro e w' ⟨rfl, m, rfl⟩
        obtain ⟨v4, m4⟩ := (T3.out.drewN m).left
        obtain ⟨v5, m5⟩ := (T3.out.drewN m).symm.left
        have cl1 := len_any m4.is
        have cl2 := len_any m5.is
        obtain ⟨p, hp⟩ : ∃ p, (put k (.string v) xs).length = p := ⟨_, rfl⟩
        obtain ⟨q, hq⟩ : ∃ q, xs.length = q := ⟨_, rfl⟩
        rw [hp] at cl1 hpll; rw [hq] at cl2 hpll
        have hcmp : ((p : Int) == (q : Int) + 1) = t := by
          rw [hpll, ← HT.out]
          cases has k xs with
          | true => simp; omega
          | false => simp
        rw [hp] at hpl; rw [hq] at hxl
        have HP := Lib.hid hp; have HQ := Lib.hid hq
        have hBm : B ≤ (w3.drewN m).heap.size := hB3
        have TM3 : Hid (Two B (w3.drewN m) ma (put k (.string v) xs) mb xs) := T3.out.drewN m
        have BM3 : Hid (Below B w (w3.drewN m)) := B3.out.trans (drewN_below _ _ _)
        obtain ⟨wz, hwz⟩ : ∃ wz, wz = w3.drewN m := ⟨_, rfl⟩
        rw [← hwz] at cl1 cl2 hBm TM3 BM3 ⊢
        clear m4 m5 hp hq hpll hwz T3 B3 hB3 hB2 B2 hBr Bw
        go_wp2_with fail
        go_at_call 15
        refine cl1.mono ?_
        rintro e w' ⟨rfl, rfl⟩
        go_wp2_with fail
        go_at_call 15
        refine cl2.mono ?_
        rintro e w' ⟨rfl, rfl⟩
        clear cl1 cl2
        go_wp2
        go_loopw [13, 14, 15, 16, 17] (fun i u14 u15 u16 u17 wr => ∃ k' : Nat, k' ≤ n ∧ i = .int .i64 k' ∧ Hid (Two B wr ma (put k (.string v) xs) mb xs) ∧ Hid (Below B w wr)) (fun i u14 u15 u16 u17 _ => n - (intOf i).toNat)
        case atStart => exact ⟨0, by omega, rfl, TM3, BM3⟩
        case round =>
          obtain ⟨j, hj, rfl, T, Bx⟩ := hrel
          by_cases hlt : j < n
          · obtain ⟨b, off, rfl, hcell⟩ := hat.out wr Bx.out j (by rw [HN.out]; exact hlt)
            have hkl : j < l.length := by rw [HN.out]; exact hlt
            obtain ⟨_, hc1, _⟩ := hcell hkl
            obtain ⟨x, hx⟩ : ∃ x, l[j].2.1 = x := ⟨_, rfl⟩
            rw [hx] at hc1
            have hsome : ∃ u, SorPlain.look x xs = some (.string u) := by
              rw [← HXS.out, look_putAll ky vl l rising_nil]
              cases hf : l.reverse.find? (fun a => ky a == x) with
              | some a => exact ⟨a.2.2, by simp [vl]⟩
              | none =>
                have := List.find?_eq_none.1 hf l[j] (by simp)
                simp [ky, hx] at this
            obtain ⟨u, hu⟩ := hsome
            have hh1 : has x xs = true := by rw [has_iff HR.out, hu]; rfl
            have hg1 : getD x (.string { data := #[] }) xs = .string u := by rw [getD_look HR.out, hu]; rfl
            have hh2 : has x (put k (.string v) xs) = true := by
              rw [has_iff HRP.out, look_put HR.out]
              split
              · rfl
              · rw [hu]; rfl
            obtain ⟨y, hy, hyu⟩ : ∃ y, getD x (.string { data := #[] }) (put k (.string v) xs) = .string y ∧ Hid (x ≠ k → y = u) := by
              rw [getD_look HRP.out, look_put HR.out]
              by_cases e : x = k
              · exact ⟨v, by rw [if_pos e]; rfl, fun h => absurd e h⟩
              · exact ⟨u, by rw [if_neg e, hu]; rfl, fun _ => rfl⟩
            obtain ⟨va, ma1⟩ := T.out.left
            obtain ⟨vb, mb1⟩ := T.out.symm.left
            have ca := get_any mb1.is (by rw [HQ.out]; omega) x
            have cb := fun m => get_any (ma1.is.drewN m) (by rw [HP.out]; omega) x
            rw [hh1, hg1] at ca
            simp only [hh2, hy] at cb
            clear hcell hx hu hh1 hg1 hh2 hy ma1 mb1
            go_wp2_with fail
            go_at_call 16
            refine ca.mono ?_
            rintro e w' ⟨rfl, m, rfl⟩
            go_wp2_with fail
            go_at_call 16
            refine (cb m).mono ?_
            rintro e w' ⟨rfl, m', rfl⟩
            have t9 : Hid (Two B (wr.drewN (m + m')) ma (put k (.string v) xs) mb xs) := T.out.drewN _
            have b9 : Hid (Below B w (wr.drewN (m + m'))) := Bx.out.trans (drewN_below _ _ _)
            by_cases e : x = k
            · subst e
              go_wp2
              go_roundw
              case rel => exact ⟨j + 1, by omega, by go_num, t9, b9⟩
              case measure => simp [intOf]; omega
            · obtain rfl := hyu.out e
              go_wp2
              go_roundw
              case rel => exact ⟨j + 1, by omega, by go_num, t9, b9⟩
              case measure => simp [intOf]; omega
          · obtain rfl : j = n := by omega
            have hBr : B ≤ wr.heap.size := Nat.le_trans hB0 Bx.out.size
            have cc := two_cut T.out hBr (by rw [HP.out]; omega) k
            rw [HH.out] at cc
            go_wp2_with fail
            go_at_call 18
            refine cc.mono ?_
            clear cc
            rintro e w2 ⟨rfl, t2, b2⟩
            have hB2 : B ≤ w2.heap.size := Nat.le_trans hBr b2.size
            have hrc : Rising (cut k (put k (.string v) xs)) := HRP.out.cut k
            have hhc : has k (cut k (put k (.string v) xs)) = false := by rw [has_iff hrc, look_cut HRP.out, if_pos rfl]; rfl
            have hlc : (cut k (put k (.string v) xs)).length ≤ 4611686018427387904 := by
              have := cut_length_le k (put k (.string v) xs); rw [HP.out] at this; omega
            obtain ⟨v2, m2⟩ := t2.left
            have cg := get_any m2.is hlc k
            have cc := fun m => two_cut (t2.drewN m) (B := B) hB2 hlc k
            rw [hhc] at cg
            simp only [hhc] at cc
            obtain ⟨u, hu⟩ : ∃ u, getD k (.string { data := #[] }) (cut k (put k (.string v) xs)) = u := ⟨_, rfl⟩
            rw [hu] at cg
            have B9 : Hid (Below B w w2) := Bx.out.trans b2
            clear t2 b2 hrc hhc hlc m2 hu
            go_wp2_with fail
            go_at_call 16
            refine cg.mono ?_
            clear cg
            rintro e w' ⟨rfl, m, rfl⟩
            have cc := cc m
            go_wp2_with fail
            go_at_call 18
            refine cc.mono ?_
            clear cc
            rintro e w3 ⟨rfl, _, b3⟩
            have B10 : Hid (Below B w w3) := (B9.out.trans (drewN_below _ _ _)).trans b3
            clear b3
            go_wp2_with fail
            go_at_call 9
            refine (lives_any _).mono ?_
            rintro e w9 ⟨rfl, hb9⟩
            go_wp2
            go_ret
            exact ⟨rfl, B10.out.trans (hb9.mono (Nat.le_trans hB0 B10.out.size))⟩

theorem walk {H : Type} {enc : TypeId × Value → H} {base : Nat} {spare : Nat → Bool} {held : Bool} {d : DataW H} {p : List MemPlace} {r : Reach} {b0 : Nat} (s : Value) (k : Int) (v : ByteArray) (w : World)
    (hv : Value.okWide Try.prog w r b0 22 s) (h : DataW.Trod enc Try.prog w base spare held 22 s d p) (_ : (Lit.int .i64 k).wf = true) (_ : v.size ≤ maxLen) :
    Calls Try.prog 5 #[s, .int .i64 k, .string v] w fun e w' => e = .returned (.bool true) ∧ Below w.heap.size w w' := by
  obtain ⟨l, hl⟩ := acts_of hv h
  exact walk0 s k v w l hl

end SorOthers
end Go.Proofs.Ytllohpkbnopbfaa
