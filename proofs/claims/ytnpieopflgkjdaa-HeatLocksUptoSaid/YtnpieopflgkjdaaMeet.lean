import Derived.Test.YtnpieopflgkjdaaLock
import Derived.Test.YtnpieopflgkjdaaTxs
namespace Go.Proofs.Ytnpieopflgkjdaa
open Go.RowKit Go.Bas
open Lay RefLay Of Txs Lock
namespace Meet

theorem pair_size : (Try.prog.info? 93).map (·.size) = some 2 := by kernel_rfl

theorem pair_row {w : World} {B : Nat} {A : Option Addr} {n cp : Nat} {ps : List (Int × Int)} (h : Pairs w B (.slice A n cp) ps) : n = ps.length ∧ ∀ k (hk : k < ps.length), ∃ b off, A = some ⟨b, off, none⟩ ∧ b < B ∧ w.rangeAt b (off + k * 2) [.int .i64 ps[k].1, .int .i64 ps[k].2] := by
  obtain ⟨A', c', e, hm, hc⟩ := h
  simp at e
  obtain ⟨rfl, rfl, rfl⟩ := e
  refine ⟨rfl, fun k hk => ?_⟩
  obtain ⟨b, off, rfl, hlt, hc⟩ := hc (by omega)
  refine ⟨b, off, rfl, hlt, ?_⟩
  rintro (_ | _ | j) v hv <;> simp at hv <;> subst hv
  · exact (hc k hk).1
  · exact (hc k hk).2

set_option maxRecDepth 100000 in
set_option maxHeartbeats 2000000 in
theorem meet_any {c : Cfg} (F : Fine c) {ps : List (Int × Int)} {B : Nat} {A : Option Addr} {n cp : Nat} (f : FuncId) (cap : Array Value) (I : Nat → World → Prop) (S : Nat → Prop) (w : World) (hm : n ≤ 9223372036854775807)
    (hfn : ∀ args w, (callFunc f args).run Try.prog w = .ok (.enter f args) w)
    (hS : ∀ k, S k → k < w.heap.size)
    (hp : ∀ i w, I i w → Pairs w B (.slice A n cp) ps)
    (hkeep : ∀ i w w', I i w → Below w.heap.size w w' → I i w')
    (hcall : ∀ i (h : i < ps.length), ¬ lockOf c ps[i].1 = 0 → ∀ w, I i w → Calls Try.prog f (#[.int .i64 (lockOf c ps[i].1 - 3)] ++ cap) w fun e w' => e = .returned (.tuple #[]) ∧ I (i + 1) w' ∧ Chg S w w')
    (hskip : ∀ i (h : i < ps.length), lockOf c ps[i].1 = 0 → ∀ w, I i w → I (i + 1) w) (h0 : I 0 w) :
    Calls Try.prog 54 #[.agg (lay c (places c)), .slice A n cp, .func (.func f) #[] cap] w fun e w' => e = .returned (.tuple #[]) ∧ I ps.length w' ∧ Chg S w w' := by
  obtain ⟨rfl, _⟩ := pair_row (hp 0 w h0)
  obtain ⟨n, hn⟩ : ∃ n, ps.length = n := ⟨_, rfl⟩
  have HN := Lib.hid hn
  have FH := Lib.hid F
  have HP := Lib.hid hp; have HK := Lib.hid hkeep; have HC := Lib.hid hcall; have HSk := Lib.hid hskip; have HS := Lib.hid hS
  rw [hn] at hm ⊢
  clear hn F hp hkeep hcall hskip hS
  obtain ⟨p, hpp⟩ : ∃ p, places c = p := ⟨_, rfl⟩
  have HPL := Lib.hid hpp
  rw [hpp]
  clear hpp
  obtain ⟨g, hg⟩ : ∃ g, w.heap.size = g := ⟨_, rfl⟩
  obtain ⟨w1, hw1⟩ : ∃ w1, w.alloc (.cells (lay c p) 27) = w1 := ⟨_, rfl⟩
  have hs1 : w1.heap.size = g + 1 := by rw [← hw1, ← hg]; simp
  have R1 : Hid (w1.heap[g]? = some (.cells (lay c p) 27 (0, 0))) := by rw [← hw1, ← hg]; exact new_row _ _ _
  have I1 : Hid (I 0 w1) := HK.out 0 w w1 h0 (by rw [← hw1]; exact (Below.refl _ _).alloc (Nat.le_refl _) _)
  have C1 : Hid (Chg S w w1) := by rw [← hw1]; exact Chg.alloc _ _ _
  clear h0
  go_enter Try.func54, Try.ntmps54
  go_wp2
  clear hw1
  go_loopw [11] (fun u11 wr => ∃ k : Nat, k ≤ n ∧ u11 = .int .i64 k ∧ Hid (I k wr) ∧ Hid (wr.heap[g]? = some (.cells (lay c p) 27 (0, 0))) ∧ Hid (Chg S w wr)) (fun u11 _ => n - (intOf u11).toNat)
  case atStart => exact ⟨0, by omega, rfl, I1, R1, C1⟩
  case round =>
    clear I1 R1 C1
    obtain ⟨k, hk, rfl, HI, HR, HCh⟩ := hrel
    have hgr : g + 1 ≤ wr.heap.size := (Array.getElem?_eq_some_iff.1 HR.out).1
    by_cases hlt : k < n
    · have hlen : k < ps.length := by rw [HN.out]; exact hlt
      obtain ⟨_, hrow⟩ := pair_row (HP.out k wr HI.out)
      obtain ⟨b, off, rfl, hbB, hrow⟩ := hrow k hlen
      have cc := HC.out k hlen; have sk := HSk.out k hlen
      obtain ⟨x, hx⟩ : ∃ x, ps[k].1 = x := ⟨_, rfl⟩
      obtain ⟨y, hy⟩ : ∃ y, ps[k].2 = y := ⟨_, rfl⟩
      rw [hx] at hrow cc sk
      rw [hy] at hrow
      have HRow := Lib.hid hrow
      clear hrow hx hy
      obtain ⟨q, hq⟩ : ∃ q, wr.heap.size = q := ⟨_, rfl⟩
      obtain ⟨w2, hw2⟩ : ∃ w2, wr.alloc (.cells #[.int .i64 0, .int .i64 0] 93) = w2 := ⟨_, rfl⟩
      have hg2 : Hid (w2.heap[q]? = some (.cells #[.int .i64 0, .int .i64 0] 93 (0, 0))) := by rw [← hw2, ← hq]; exact new_row _ _ _
      have hb2 : Hid (Below wr.heap.size wr (w2.setRow q #[.int .i64 x, .int .i64 y])) := by rw [← hw2]; exact setRow_below ((Below.refl _ _).alloc (Nat.le_refl _) _) (by omega) _
      go_upto_region 4 with (first
        | (refine wpList_load_mid rfl 93 _ rfl b (off + k * 2) (by first | rfl | simp) [.int .i64 x, .int .i64 y] _ HRow.out Try.underlying93 rfl pair_size ?r3)
        | (refine wpList_store_row rfl 93 _ _ rfl q #[.int .i64 x, .int .i64 y] rfl rfl 93 #[.int .i64 0, .int .i64 0] hg2.out pair_size rfl (by simp [Value.oneCell']) ?s3))
      obtain ⟨w3, hw3⟩ : ∃ w3, w2.setRow q #[.int .i64 x, .int .i64 y] = w3 := ⟨_, rfl⟩
      have k0 : w3.cell? ⟨q, 0, none⟩ = some (.int .i64 x) := by rw [← hw3]; exact setRow_cell hg2.out _ 0
      rw [hw3] at hb2 ⊢
      have hs3 : g + 1 ≤ w3.heap.size := by have := hb2.out.size; omega
      have R3 : Hid (w3.heap[g]? = some (.cells (lay c p) 27 (0, 0))) := by rw [Hid, hb2.out.block _ (by omega)]; exact HR.out
      have I3 : Hid (I k w3) := HK.out k wr w3 HI.out hb2.out
      have C3 : Hid (Chg S w w3) := HCh.out.trans' (Chg.of_below hb2.out) (fun j hj hj2 => by have := HCh.out.size; omega)
      clear hw3 hw2 hg2
      have LK : Calls Try.prog 83 #[.agg (lay c p), .int .i64 x] w3 fun e w' => e = .returned (.int .i64 (lockOf c x)) ∧ Below w3.heap.size w3 w' := by
        have := lock_of c x w3 FH.out
        rwa [HPL.out] at this
      have hin := lock_in FH.out x
      have hst := FH.out.stripes
      obtain ⟨L, hL⟩ : ∃ L, lockOf c x = L := ⟨_, rfl⟩
      rw [hL] at LK hin cc sk
      have LKH := Lib.hid LK; have CC := Lib.hid cc; have SK := Lib.hid sk
      clear LK hL cc sk hrow
      by_cases hz : L = 0
      · subst hz
        go_wp2_with (first
          | (refine wpList_load_row rfl 27 _ rfl g rfl 27 (lay c p) (0, 0) _ R3.out Try.underlying27 rfl (lay_size _ _) ?_)
          | (go_at_call 83; refine LKH.out.mono ?_; rintro e w4 ⟨rfl, hb4⟩))
        have R4 : Hid (w4.heap[g]? = some (.cells (lay c p) 27 (0, 0))) := by rw [Hid, hb4.block _ (by omega)]; exact R3.out
        have I4 : Hid (I (k + 1) w4) := SK.out (by first | trivial | rfl) w4 (HK.out k w3 w4 I3.out hb4)
        have C4 : Hid (Chg S w w4) := C3.out.trans' (Chg.of_below hb4) (fun j hj hj2 => by omega)
        go_roundw
        case rel => exact ⟨k + 1, by omega, by go_num, I4, R4, C4⟩
        case measure => simp [intOf]; omega
      · go_upto_region 5 with (first
          | (refine wpList_load_row rfl 27 _ rfl g rfl 27 (lay c p) (0, 0) _ R3.out Try.underlying27 rfl (lay_size _ _) ?_)
          | (go_at_call 83; refine LKH.out.mono ?_; rintro e w4 ⟨rfl, hb4⟩))
        have hs4 := hb4.size
        have R4 : Hid (w4.heap[g]? = some (.cells (lay c p) 27 (0, 0))) := by rw [Hid, hb4.block _ (by omega)]; exact R3.out
        have I4 : Hid (I k w4) := HK.out k w3 w4 I3.out hb4
        have C4 : Hid (Chg S w w4) := C3.out.trans' (Chg.of_below hb4) (fun j hj hj2 => by omega)
        have C5 := CC.out hz w4 I4.out
        have hzb : (L != 0) = true := by simpa using hz
        clear R3 I3 C3 k0
        go_wp2_with fail
        refine C5.mono ?_
        rintro e w5 ⟨rfl, i5, c5⟩
        have hgS : ¬ S g := fun hs => by have := HS.out g hs; omega
        have R5 : Hid (w5.heap[g]? = some (.cells (lay c p) 27 (0, 0))) := by rw [Hid, c5.block _ (by omega) hgS]; exact R4.out
        have I5 := Lib.hid i5
        have C6 : Hid (Chg S w w5) := C4.out.trans c5
        clear c5 i5 C5
        go_wp2
        go_roundw
        case rel => exact ⟨k + 1, by omega, by go_num, I5, R5, C6⟩
        case measure => simp [intOf]; omega
    · obtain rfl : n = k := by omega
      have HI' : Hid (I ps.length wr) := by rw [HN.out]; exact HI
      go_wp2
      go_end0
      exact ⟨rfl, by rw [← HN.out]; exact HI'.out, HCh.out⟩

end Meet
end Go.Proofs.Ytnpieopflgkjdaa
