import Derived.Test.YtnpieopflgkjdaaTxs
import Derived.Deep.Cut
namespace Go.Proofs.Ytnpieopflgkjdaa
open Go.RowKit Go.Bas
open Txs
namespace Heat

/-- small enough -/
def Few (l : List Tx) : Prop := l.length ≤ 60

/-- how a try ended -/
def how (t : Tx) : Int := if t.how < 1 then 0 else if 3 < t.how then 0 else t.how
/-- what a try counts for one of the seven numbers -/
def step (k : Int) (t : Tx) : Int :=
  if k = 4 then (if t.fall then 1 else 0) else if k = 5 then t.reads.length else if k = 6 then (if t.sure then t.writes.length else 0) else if how t = k then 1 else 0
/-- as Go adds: round the end -/
def cnt (k : Int) (l : List Tx) : Int := l.foldl (fun n t => wrap64 (n + step k t)) 0

theorem cnt_next (k : Int) {l : List Tx} {i : Nat} (h : i < l.length) : cnt k (l.take (i + 1)) = wrap64 (cnt k (l.take i) + step k l[i]) := by
  unfold cnt
  rw [List.take_succ_eq_append_getElem h, List.foldl_append]
  rfl
theorem wrap64_rng (n : Int) : -9223372036854775808 ≤ wrap64 n ∧ wrap64 n ≤ 9223372036854775807 := by unfold wrap64; omega
theorem cnt_in (k : Int) {l : List Tx} : ∀ i, i ≤ l.length → -9223372036854775808 ≤ cnt k (l.take i) ∧ cnt k (l.take i) ≤ 9223372036854775807
  | 0, _ => by simp [cnt]
  | i + 1, hi => by rw [cnt_next k (by omega)]; exact wrap64_rng _
theorem cnt_same (k : Int) {l : List Tx} {i : Nat} (h : i < l.length) (h0 : step k l[i] = 0) : cnt k (l.take (i + 1)) = cnt k (l.take i) := by
  rw [cnt_next k h, h0, Int.add_zero]
  exact IntWalk.wrap64_in _ (cnt_in k i (by omega))
theorem how_in (t : Tx) : 0 ≤ how t ∧ how t ≤ 3 := by
  unfold how
  repeat' split
  all_goals omega
theorem step_how {k : Int} {t : Tx} (h : 0 ≤ k ∧ k ≤ 3) : step k t = if how t = k then 1 else 0 := by
  unfold step
  rw [if_neg (by omega), if_neg (by omega), if_neg (by omega)]
/-- the four ways to end, together -/
theorem four {l : List Tx} : ∀ i, i ≤ l.length → i ≤ 60 → (0 ≤ cnt 0 (l.take i) ∧ 0 ≤ cnt 1 (l.take i) ∧ 0 ≤ cnt 2 (l.take i) ∧ 0 ≤ cnt 3 (l.take i)) ∧ cnt 0 (l.take i) + cnt 1 (l.take i) + cnt 2 (l.take i) + cnt 3 (l.take i) = i
  | 0, _, _ => by simp [cnt]
  | i + 1, hi, h60 => by
    obtain ⟨⟨a0, a1, a2, a3⟩, h⟩ := four (l := l) i (by omega) (by omega)
    have hh := how_in l[i]
    have e0 := step_how (k := 0) (t := l[i]) (by omega)
    have e1 := step_how (k := 1) (t := l[i]) (by omega)
    have e2 := step_how (k := 2) (t := l[i]) (by omega)
    have e3 := step_how (k := 3) (t := l[i]) (by omega)
    rw [cnt_next 0 (by omega), cnt_next 1 (by omega), cnt_next 2 (by omega), cnt_next 3 (by omega), e0, e1, e2, e3]
    have : how l[i] = 0 ∨ how l[i] = 1 ∨ how l[i] = 2 ∨ how l[i] = 3 := by omega
    rcases this with g | g | g | g <;> simp only [g] <;> simp <;> (repeat rw [IntWalk.wrap64_in _ (by omega)]) <;> omega

/-- what 'great' tells -/
def big (t : Tx) : Bool := decide (200 < wrap64 (t.reads.length + t.writes.length))
def greatB (l : List Tx) : Bool := decide (60 < l.length) || l.any big
theorem great_not {l : List Tx} (h : greatB l = false) : Few l := by
  unfold greatB at h
  rw [Bool.or_eq_false_iff] at h
  have := of_decide_eq_false h.1
  unfold Few; omega
theorem great_hit {l : List Tx} {k : Nat} (h : k < l.length) (hs : 200 < wrap64 (l[k].reads.length + l[k].writes.length)) : greatB l = true := by
  unfold greatB
  rw [Bool.or_eq_true]
  exact .inr (List.any_eq_true.2 ⟨l[k], by simp, by simpa [big] using hs⟩)
theorem great_step {l : List Tx} {k : Nat} (h : k < l.length) (hs : ¬ 200 < wrap64 (l[k].reads.length + l[k].writes.length)) (H : (l.take k).any big = false) : (l.take (k + 1)).any big = false := by
  rw [List.take_succ_eq_append_getElem h, List.any_append, H]
  simpa [big] using hs

theorem row_len {t : Tx} {r q : Value} : (row t r q).length = 8 := rfl

set_option maxRecDepth 100000 in
set_option maxHeartbeats 1000000 in
theorem great_any {w : World} {B : Nat} {s : Value} {l : List Tx} (h : Many w B s l) :
    Calls Try.prog 20 #[s] w fun e w' => e = .returned (.bool (greatB l)) ∧ ∃ m, w' = w.drewN m := by
  obtain ⟨A, c, rfl, hm, hc⟩ := h
  obtain ⟨n, hn⟩ : ∃ n, l.length = n := ⟨_, rfl⟩
  have HN := Lib.hid hn
  have hm : l.length ≤ 9223372036854775807 := hm
  have HC : Hid (∀ k, k < n → ∃ b off A6 c6 A7 c7 n6 n7, A = some ⟨b, off, none⟩ ∧ (n6 : Nat) ≤ 9223372036854775807 ∧ (n7 : Nat) ≤ 9223372036854775807 ∧ w.cell? ⟨b, off + k * 8 + 6, none⟩ = some (.slice A6 n6 c6) ∧ w.cell? ⟨b, off + k * 8 + 7, none⟩ = some (.slice A7 n7 c7) ∧ ∀ h : k < l.length, l[k].reads.length = n6 ∧ l[k].writes.length = n7) := by
    intro k hk
    obtain ⟨b, off, rfl, _, hc⟩ := hc (by omega)
    obtain ⟨r, q, hr, ⟨A6, c6, rfl, m6, _⟩, ⟨A7, c7, rfl, m7, _⟩⟩ := hc k (by omega)
    exact ⟨b, off, A6, c6, A7, c7, _, _, rfl, m6, m7, hr 6 _ rfl, hr 7 _ rfl, fun _ => ⟨rfl, rfl⟩⟩
  rw [hn] at hm ⊢
  clear hc hn
  go_enter Try.func20, Try.ntmps20
  by_cases h60 : 60 < n
  · go_wp2
    go_ret
    exact ⟨by unfold greatB; rw [HN.out]; simp [h60], 0, rfl⟩
  · go_wp2
    go_loopw [3] (fun i wr => ∃ k m : Nat, k ≤ n ∧ i = .int .i64 k ∧ wr = w.drewN m ∧ Hid ((l.take k).any big = false)) (fun i _ => n - (intOf i).toNat)
    case atStart => exact ⟨0, 0, by omega, rfl, rfl, by simp [Hid]⟩
    case round =>
      obtain ⟨k, m, hk, rfl, rfl, H⟩ := hrel
      by_cases hlt : k < n
      · obtain ⟨b, off, A6, c6, A7, c7, n6, n7, rfl, m6, m7, hc6, hc7, hu⟩ := HC.out k hlt
        have hlen : k < l.length := by rw [HN.out]; exact hlt
        obtain ⟨hu6, hu7⟩ := hu hlen
        have HU6 := Lib.hid hu6; have HU7 := Lib.hid hu7
        clear hu hu6 hu7
        by_cases hs : 200 < wrap64 ((n6 : Int) + n7)
        · have hg : greatB l = true := great_hit hlen (by rw [HU6.out, HU7.out]; exact hs)
          have HG := Lib.hid hg
          clear hg
          go_wp2
          go_quiet (fail)
          go_wp2
          go_ret
          exact ⟨by rw [HG.out]; rfl, m + nq, World.drewN_drewN w m nq⟩
        · have hg := great_step hlen (by rw [HU6.out, HU7.out]; exact hs) H.out
          have HG := Lib.hid hg
          clear hg
          go_wp2
          go_quiet (fail)
          go_wp2
          go_roundw
          case rel => exact ⟨k + 1, m + nq, by omega, by go_num, rfl, HG⟩
          case measure => simp [intOf]; omega
      · obtain rfl : n = k := by omega
        have hg : greatB l = false := by
          have h := H.out
          rw [List.take_of_length_le (by rw [HN.out]; exact Nat.le_refl _)] at h
          unfold greatB; rw [h, HN.out]; simp; omega
        have HG := Lib.hid hg
        clear hg
        go_wp2
        go_ret
        exact ⟨by rw [HG.out]; rfl, m, rfl⟩

/-- the k-th try in memory -/
theorem at_row {w : World} {A : Option Addr} {c : Nat} {l : List Tx} {B : Nat} (h : Many w B (.slice A l.length c) l) {k : Nat} (hk : k < l.length) : ∃ b off r q, A = some ⟨b, off, none⟩ ∧ b < B ∧ w.rangeAt b (off + k * 8) (row l[k] r q) ∧ Pairs w B r l[k].reads ∧ Pairs w B q l[k].writes := by
  obtain ⟨A', c', e, hm, hc⟩ := h
  obtain ⟨rfl, _, rfl⟩ : A = A' ∧ l.length = l.length ∧ c = c' := by simpa using e
  obtain ⟨b, off, rfl, hlt, hc⟩ := hc (by omega)
  obtain ⟨r, q, h1, h2, h3⟩ := hc k hk
  exact ⟨b, off, r, q, rfl, hlt, h1, h2, h3⟩

theorem tx_size : (Try.prog.info? 91).map (·.size) = some 8 := by kernel_rfl

def tz : Array Value := #[.int .i64 0, .int .i64 0, .int .i64 0, .int .i64 0, .bool false, .bool false, .slice none 0 0, .slice none 0 0]

set_option maxRecDepth 100000 in
set_option maxHeartbeats 2000000 in
theorem count_any {w : World} {s : Value} {l : List Tx} (k : Int) (hk : 0 ≤ k ∧ k ≤ 6) (h : Many w w.heap.size s l) :
    Calls Try.prog 23 #[s, .int .i64 k] w fun e w' => e = .returned (.int .i64 (cnt k l)) ∧ Below w.heap.size w w' := by
  obtain ⟨A, c, rfl, hm, hc⟩ := id h
  have hM := Lib.hid h
  clear hc h
  obtain ⟨n, hn⟩ : ∃ n, l.length = n := ⟨_, rfl⟩
  obtain ⟨B, hB⟩ : ∃ B, w.heap.size = B := ⟨_, rfl⟩
  have hm : l.length ≤ 9223372036854775807 := hm
  have HN := Lib.hid hn
  rw [hB] at hM
  rw [hn] at hm ⊢
  rw [hB]
  clear hn
  go_enter Try.func23, Try.ntmps23
  go_wp2
  go_loopw [5, 6] (fun u5 u6 wr => ∃ i : Nat, i ≤ n ∧ u6 = .int .i64 i ∧ u5 = .int .i64 (cnt k (l.take i)) ∧ Hid (Below B w wr)) (fun _ u6 _ => n - (intOf u6).toNat)
  case atStart => exact ⟨0, by omega, rfl, rfl, Below.refl _ _⟩
  case round =>
    obtain ⟨i, hi, rfl, rfl, HB⟩ := hrel
    have hsr : B ≤ wr.heap.size := by rw [← hB]; exact HB.out.size
    by_cases hlt : i < n
    · have hlen : i < l.length := by rw [HN.out]; exact hlt
      obtain ⟨b, off, r, q, rfl, hbB, hrow, ⟨A6, c6, rfl, m6, _⟩, ⟨A7, c7, rfl, m7, _⟩⟩ := at_row (hM.out.below HB.out) hlen
      obtain ⟨t, ht⟩ : ∃ t, l[i] = t := ⟨_, rfl⟩
      rw [ht] at hrow m6 m7
      have hnext := cnt_next k hlen
      rw [ht] at hnext
      have HX := Lib.hid hnext
      have HR := Lib.hid hrow
      clear hnext hrow ht
      obtain ⟨n6, hn6⟩ : ∃ n6, t.reads.length = n6 := ⟨_, rfl⟩
      obtain ⟨n7, hn7⟩ : ∃ n7, t.writes.length = n7 := ⟨_, rfl⟩
      rw [hn6, hn7] at HR
      have m6 : n6 ≤ 9223372036854775807 := by rw [← hn6]; exact m6
      have m7 : n7 ≤ 9223372036854775807 := by rw [← hn7]; exact m7
      have HN6 := Lib.hid hn6; have HN7 := Lib.hid hn7
      obtain ⟨w2, hw2⟩ : ∃ w2, wr.alloc (.cells #[.int .i64 0, .int .i64 0, .int .i64 0, .int .i64 0, .bool false, .bool false, .slice none 0 0, .slice none 0 0] 91) = w2 := ⟨_, rfl⟩
      have hg2 : Hid (w2.heap[wr.heap.size]? = some (.cells #[.int .i64 0, .int .i64 0, .int .i64 0, .int .i64 0, .bool false, .bool false, .slice none 0 0, .slice none 0 0] 91 (0, 0))) := by rw [← hw2]; exact new_row _ _ _
      have hb2 : Hid (Below B w (w2.setRow wr.heap.size #[.int .i64 t.worker, .int .i64 t.how, .int .i64 t.seen, .int .i64 t.stamp, .bool t.fall, .bool t.sure, .slice A6 n6 c6, .slice A7 n7 c7])) := by rw [← hw2]; exact setRow_below (HB.out.alloc hsr _) hsr _
      have q1 := setRow_cell hg2.out #[.int .i64 t.worker, .int .i64 t.how, .int .i64 t.seen, .int .i64 t.stamp, .bool t.fall, .bool t.sure, .slice A6 n6 c6, .slice A7 n7 c7]
      have k1 := q1 1; have k4 := q1 4; have k5 := q1 5; have k6 := q1 6; have k7 := q1 7
      simp at k1 k4 k5 k6 k7
      clear q1 hn6 hn7 ‹0 < l[i].reads.length → _› ‹0 < l[i].writes.length → _›
      have cin := @cnt_in k l i (by omega)
      obtain ⟨x, hx⟩ : ∃ x, cnt k (l.take i) = x := ⟨_, rfl⟩
      rw [hx] at HX cin ⊢
      have hxw := IntWalk.wrap64_in x cin
      clear hx cin
      have fin : ∀ y, y = wrap64 (x + step k t) → (Value.int .i64 y = .int .i64 (cnt k (l.take (i + 1)))) := fun y hy => by rw [HX.out, hy]
      have FIN := Lib.hid fin
      clear fin
      have key : ∃ H : Int, how t = H ∧ ((t.how < 1 ∧ H = 0) ∨ (¬ t.how < 1 ∧ 3 < t.how ∧ H = 0) ∨ (¬ t.how < 1 ∧ ¬ 3 < t.how ∧ H = t.how)) := by
        refine ⟨how t, rfl, ?_⟩
        unfold how
        by_cases h1 : t.how < 1
        · simp [h1]
        · by_cases h3 : 3 < t.how
          · simp [h1, h3]
          · simp [h1, h3]
      obtain ⟨H, hH, hcase⟩ := key
      have HH := Lib.hid hH
      clear hH
      have kk : (k = 4 ∧ t.fall = true ∧ step k t = 1) ∨ (k = 4 ∧ t.fall = false ∧ step k t = 0) ∨ (k = 5 ∧ step k t = n6) ∨ (k = 6 ∧ t.sure = true ∧ step k t = n7) ∨ (k = 6 ∧ t.sure = false ∧ step k t = 0) ∨ ((k == 4) = false ∧ (k == 5) = false ∧ (k == 6) = false ∧ k < 4 ∧ (H == k) = true ∧ step k t = 1) ∨ ((k == 4) = false ∧ (k == 5) = false ∧ (k == 6) = false ∧ k < 4 ∧ (H == k) = false ∧ step k t = 0) := by
        unfold step
        rw [HH.out, HN6.out, HN7.out]
        by_cases e4 : k = 4
        · cases hf : t.fall <;> simp [e4]
        · by_cases e5 : k = 5
          · simp [e5]
          · by_cases e6 : k = 6
            · cases hf : t.sure <;> simp [e6]
            · by_cases eh : H = k
              · simp [e4, e5, e6, eh]; omega
              · simp [e4, e5, e6, eh]; omega
      go_upto_region 6 with (first
        | (refine wpList_load_mid rfl 91 _ rfl b (off + i * 8) (by first | rfl | simp) [.int .i64 t.worker, .int .i64 t.how, .int .i64 t.seen, .int .i64 t.stamp, .bool t.fall, .bool t.sure, .slice A6 n6 c6, .slice A7 n7 c7] _ HR.out Try.underlying91 rfl tx_size ?r3)
        | (refine wpList_store_row rfl 91 _ _ rfl wr.heap.size #[.int .i64 t.worker, .int .i64 t.how, .int .i64 t.seen, .int .i64 t.stamp, .bool t.fall, .bool t.sure, .slice A6 n6 c6, .slice A7 n7 c7] rfl rfl 91 #[.int .i64 0, .int .i64 0, .int .i64 0, .int .i64 0, .bool false, .bool false, .slice none 0 0, .slice none 0 0] hg2.out tx_size rfl (by simp [Value.oneCell']) ?s3))
      obtain ⟨w3, hw3⟩ : ∃ w3, w2.setRow wr.heap.size #[.int .i64 t.worker, .int .i64 t.how, .int .i64 t.seen, .int .i64 t.stamp, .bool t.fall, .bool t.sure, .slice A6 n6 c6, .slice A7 n7 c7] = w3 := ⟨_, rfl⟩
      rw [hw3] at hb2 k1 k4 k5 k6 k7 ⊢
      clear hw3 hw2 hg2
      rcases hcase with ⟨h1, hH⟩ | ⟨h1, h3, hH⟩ | ⟨h1, h3, hH⟩
      all_goals (rcases kk with ⟨e, hf, hs⟩ | ⟨e, hf, hs⟩ | ⟨e, hs⟩ | ⟨e, hf, hs⟩ | ⟨e, hf, hs⟩ | ⟨e4, e5, e6, elt, eh, hs⟩ | ⟨e4, e5, e6, elt, eh, hs⟩)
      all_goals (have HS := Lib.hid hs; clear hs)
      all_goals (subst hH)
      all_goals (try (subst e))
      all_goals go_wp2
      all_goals go_roundw
      all_goals (first | exact ⟨i + 1, by omega, by go_num, FIN.out _ (by rw [HS.out]; first | done | (rw [Int.add_zero]; exact hxw.symm)), hb2⟩ | (simp [intOf]; omega))
    · obtain rfl : n = i := by omega
      go_wp2
      go_ret
      refine ⟨?_, HB.out⟩
      rw [List.take_of_length_le (by rw [HN.out]; exact Nat.le_refl _)]
      rfl

end Heat
end Go.Proofs.Ytnpieopflgkjdaa
