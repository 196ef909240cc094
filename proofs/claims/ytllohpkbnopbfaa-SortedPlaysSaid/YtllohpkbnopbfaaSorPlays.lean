import Derived.Test.YtllohpkbnopbfaaSorKeys
import Derived.Deep.RegionHeld3
namespace Go.Proofs.Ytllohpkbnopbfaa
open Go.RowKit Go.Bas SorPlain Go.Sor
namespace SorPlays
open SorStr

def Strs (xs : List (Int × Value)) : Prop := ∀ p ∈ xs, ∃ s, p.2 = .string s
theorem Strs.put {xs : List (Int × Value)} (h : Strs xs) (k : Int) (s : ByteArray) : Strs (put k (.string s) xs) := fun p hp => by
  rcases mem_put hp with rfl | hp
  · exact ⟨s, rfl⟩
  · exact h p hp
theorem Strs.cut {xs : List (Int × Value)} (h : Strs xs) (k : Int) : Strs (cut k xs) := fun p hp => by
  unfold SorPlain.cut at hp
  split at hp
  · exact h p (List.mem_of_mem_eraseIdx hp)
  · exact h p hp
theorem Strs.getD {xs : List (Int × Value)} (hr : Rising xs) (h : Strs xs) (k : Int) : ∃ s, getD k (.string { data := #[] }) xs = .string s := by
  rw [getD_look hr]
  cases hl : SorPlain.look k xs with
  | none => exact ⟨_, rfl⟩
  | some u => obtain ⟨s, hs⟩ := h _ (look_mem hl); exact ⟨s, hs⟩
theorem Strs.nth {xs : List (Int × Value)} (h : Strs xs) (i : Int) : ∃ q s t, SorRef.nthV xs i = .tuple #[.int .i64 q, .string s, .bool t] := by
  unfold SorRef.nthV
  split
  · rename_i hi
    have hl : i.toNat < xs.length := by omega
    obtain ⟨s, hs⟩ := h xs[i.toNat] (List.getElem_mem hl)
    exact ⟨(keys xs).getD i.toNat 0, s, true, by simp [hl, hs]⟩
  · exact ⟨_, _, _, rfl⟩

/-- the map and the document's, with what else must stand as it is (O) -/
def Pl (B : Nat) (w0 w : World) (O : Nat → Prop) (bm : Nat) (xs : List (Int × Value)) (rb : Nat) (zs : List (Int × Value)) : Prop :=
  ∃ v vr ys, MyMap TM TE B w bm v xs ∧ SorRef.IsRef w rb vr ys ∧ Same ys zs ∧ (∀ k, fp rb vr k → B ≤ k) ∧ (∀ k, fp bm v k → ¬ fp rb vr k) ∧ (∀ k, fp bm v k → ¬ O k) ∧ (∀ k, fp rb vr k → ¬ O k) ∧ (∀ k, O k → k < w.heap.size) ∧ B ≤ w.heap.size ∧ Below B w0 w

section
variable {B : Nat} {w0 w : World} {O : Nat → Prop} {bm rb : Nat} {xs zs : List (Int × Value)}
theorem Pl.keep {w' : World} (h : Pl B w0 w O bm xs rb zs) (hk : ∀ k, k < w.heap.size → w'.heap[k]? = w.heap[k]?) (hsz : w.heap.size ≤ w'.heap.size) (hb : Below B w w') : Pl B w0 w' O bm xs rb zs := by
  obtain ⟨v, vr, ys, hm, hr, hs, h1, h2, h3, h4, h5, h6, h7⟩ := h
  exact ⟨v, vr, ys, ⟨hm.is.kept fun k hf => hk k (hm.is.lt k hf), hm.low, hm.own⟩, hr.kept fun k hf => hk k (hr.lt k hf), hs, h1, h2, h3, h4, fun k ho => by have := h5 k ho; omega, by omega, h7.trans hb⟩
theorem Pl.drewN (h : Pl B w0 w O bm xs rb zs) (n : Nat) : Pl B w0 (w.drewN n) O bm xs rb zs := h.keep (fun _ _ => rfl) (Nat.le_refl _) (drewN_below _ _ _)
theorem Pl.alloc (h : Pl B w0 w O bm xs rb zs) (o : Obj) : Pl B w0 (w.alloc o) (fun k => O k ∨ k = w.heap.size) bm xs rb zs := by
  have h' := h.keep (w' := w.alloc o) (fun k hk => Below.heap_alloc _ _ _ hk) (by simp) (by obtain ⟨_, _, _, _, _, _, _, _, _, _, _, h6, _⟩ := h; exact (Below.refl _ _).alloc h6 _)
  obtain ⟨v0, vr0, ys0, hm0, hr0, _, _, _, _, _, h50, _, _⟩ := h
  obtain ⟨v, vr, ys, hm, hr, hs, h1, h2, h3, h4, h5, h6, h7⟩ := h'
  have hve : v = v0 := by
    have := hm.is.cell; rw [Below.heap_alloc _ _ _ (hm0.is.lt bm (.inl rfl))] at this
    have h2 := hm0.is.cell; rw [h2] at this; simpa using this.symm
  have hre : vr = vr0 := by
    have := hr.cell; rw [Below.heap_alloc _ _ _ (hr0.lt rb (.inl rfl))] at this
    have h2 := hr0.cell; rw [h2] at this; simpa using this.symm
  subst hve hre
  refine ⟨v, vr, ys, hm, hr, hs, h1, h2, fun k hf ho => ?_, fun k hf ho => ?_, fun k ho => ?_, h6, h7⟩
  · rcases ho with ho | rfl
    · exact h3 k hf ho
    · exact absurd (hm0.is.lt _ hf) (by omega)
  · rcases ho with ho | rfl
    · exact h4 k hf ho
    · exact absurd (hr0.lt _ hf) (by omega)
  · rcases ho with ho | rfl
    · have := h5 k (by exact ho); exact this
    · simp
theorem Pl.less (h : Pl B w0 w O bm xs rb zs) {O' : Nat → Prop} (ho : ∀ k, O' k → O k) : Pl B w0 w O' bm xs rb zs := by
  obtain ⟨v, vr, ys, hm, hr, hs, h1, h2, h3, h4, h5, h6, h7⟩ := h
  exact ⟨v, vr, ys, hm, hr, hs, h1, h2, fun k hf h => h3 k hf (ho k h), fun k hf h => h4 k hf (ho k h), fun k h => h5 k (ho k h), h6, h7⟩
theorem Pl.bel (h : Pl B w0 w O bm xs rb zs) : Below B w0 w ∧ B ≤ w.heap.size := by
  obtain ⟨v, vr, ys, hm, hr, hs, h1, h2, h3, h4, h5, h6, h7⟩ := h
  exact ⟨h7, h6⟩

/-- a change of the map alone -/
theorem pl_map {w' : World} {v v' : Value} {vr : Value} {ys xs' : List (Int × Value)} (hm : MyMap TM TE B w bm v xs) (hr : SorRef.IsRef w rb vr ys) (hs : Same ys zs) (h1 : ∀ k, fp rb vr k → B ≤ k) (h2 : ∀ k, fp bm v k → ¬ fp rb vr k) (h3 : ∀ k, fp bm v k → ¬ O k) (h4 : ∀ k, fp rb vr k → ¬ O k) (h5 : ∀ k, O k → k < w.heap.size) (h6 : B ≤ w.heap.size) (h7 : Below B w0 w)
    (hm' : IsMap TM TE w' bm v' xs') (hc : Chg (fp bm v) w w') (hf : ∀ g, v'.ownBlock = some g → v.ownBlock = some g ∨ w.heap.size ≤ g) :
    Pl B w0 w' O bm xs' rb zs ∧ ∀ k, O k → w'.heap[k]? = w.heap[k]? := by
  have hnew : ∀ k, fp bm v' k → fp bm v k ∨ w.heap.size ≤ k := by
    rintro k (rfl | hk)
    · exact .inl (.inl rfl)
    · rcases hf k hk.symm with h | h
      · exact .inl (.inr h.symm)
      · exact .inr h
  refine ⟨⟨v', vr, ys, ⟨hm', hm.low, fun k hk => ?_⟩, hr.chg hc fun k hk hk2 => h2 k hk2 hk, hs, h1, fun k hk hk2 => ?_, fun k hk ho => ?_, h4, fun k ho => Nat.lt_of_lt_of_le (h5 k ho) hc.size, Nat.le_trans h6 hc.size, h7.trans (hc.below h6 hm.fp)⟩, fun k ho => hc.block k (h5 k ho) fun hk => h3 k hk ho⟩
  · rcases hf k hk with h | h
    · exact hm.own k h
    · omega
  · rcases hnew k hk with h | h
    · exact h2 k h hk2
    · have := hr.lt k hk2; omega
  · rcases hnew k hk with h | h
    · exact h3 k h ho
    · have := h5 k ho; omega
theorem pl_put (h : Pl B w0 w O bm xs rb zs) (hn : (xs.length + 1) * 24 ≤ 140737488355328) (k : Int) (s : ByteArray) :
    Calls Try.prog 11 #[.pointer (some ⟨bm, 0, none⟩), .int .i64 k, .string s] w fun e w' => e = .returned (.bool (!has k xs)) ∧ Pl B w0 w' O bm (put k (.string s) xs) rb zs ∧ ∀ k, O k → w'.heap[k]? = w.heap[k]? := by
  obtain ⟨v, vr, ys, hm, hr, hs, h1, h2, h3, h4, h5, h6, h7⟩ := h
  refine (put_any hm.is hn k s).mono fun e w' ⟨he, v', hm', hc, hf⟩ => ⟨he, pl_map hm hr hs h1 h2 h3 h4 h5 h6 h7 hm' hc fun g hg => ?_⟩
  rcases hf with e | ⟨g', e, hg'⟩
  · exact .inl (e ▸ hg)
  · rw [e] at hg; injection hg with hg; exact .inr (by omega)
theorem pl_cut (h : Pl B w0 w O bm xs rb zs) (hn : xs.length ≤ 1000) (k : Int) :
    Calls Try.prog 18 #[.pointer (some ⟨bm, 0, none⟩), .int .i64 k] w fun e w' => e = .returned (.bool (has k xs)) ∧ Pl B w0 w' O bm (cut k xs) rb zs ∧ ∀ k, O k → w'.heap[k]? = w.heap[k]? := by
  cases hh : has k xs with
  | true =>
    obtain ⟨v, vr, ys, hm, hr, hs, h1, h2, h3, h4, h5, h6, h7⟩ := h
    exact (cut_some hm.is (by omega) k hh).mono fun e w' ⟨he, v', hm', hc, hf⟩ => ⟨he, pl_map hm hr hs h1 h2 h3 h4 h5 h6 h7 hm' hc fun g hg => .inl (hf ▸ hg)⟩
  | false =>
    have hc : cut k xs = xs := by unfold cut; rw [hh]; rfl
    rw [hc]
    have h' := h
    obtain ⟨v, vr, ys, hm, hr, hs, h1, h2, h3, h4, h5, h6, h7⟩ := h'
    exact (cut_none hm.is (by omega) k hh).mono fun e w' ⟨he, m, hw⟩ => ⟨he, by rw [hw]; exact h.drewN m, fun k _ => by rw [hw]; rfl⟩
theorem pl_get (h : Pl B w0 w O bm xs rb zs) (hn : xs.length ≤ 1000) (k : Int) :
    Calls Try.prog 16 #[.pointer (some ⟨bm, 0, none⟩), .int .i64 k] w fun e w' => e = .returned (.tuple #[getD k (.string { data := #[] }) xs, .bool (has k xs)]) ∧ ∃ m, w' = w.drewN m := by
  obtain ⟨v, vr, ys, hm, _⟩ := h
  exact get_any hm.is (by omega) k
theorem pl_at (h : Pl B w0 w O bm xs rb zs) (hn : xs.length ≤ 1000) (i : Int) :
    Calls Try.prog 14 #[.pointer (some ⟨bm, 0, none⟩), .int .i64 i] w fun e w' => e = .returned (SorRef.nthV xs i) ∧ ∃ m, w' = w.drewN m := by
  obtain ⟨v, vr, ys, hm, _⟩ := h
  unfold SorRef.nthV
  by_cases hi : 0 ≤ i ∧ i < xs.length
  · rw [if_pos hi]
    have := at_some hm.is (by omega) i.toNat (by omega)
    rw [show ((i.toNat : Nat) : Int) = i by omega] at this
    exact this
  · rw [if_neg hi]
    exact at_none hm.is (by omega) i (by omega)
theorem pl_len (h : Pl B w0 w O bm xs rb zs) : Calls Try.prog 15 #[.pointer (some ⟨bm, 0, none⟩)] w fun e w' => e = .returned (.int .i64 xs.length) ∧ w = w' := by
  obtain ⟨v, vr, ys, hm, _⟩ := h
  exact len_any hm.is
theorem pl_keys (h : Pl B w0 w O bm xs rb zs) (hn : xs.length ≤ 1000) : Calls Try.prog 23 #[.pointer (some ⟨bm, 0, none⟩)] w (SorKeys.KeysTold w (keys xs)) := by
  obtain ⟨v, vr, ys, hm, _⟩ := h
  exact SorKeys.keys_any hm.is hn

/-- a change of the document's map alone -/
theorem pl_ref {w' : World} {v vr : Value} {ys ys' zs' : List (Int × Value)} (hm : MyMap TM TE B w bm v xs) (hr : SorRef.IsRef w rb vr ys) (h1 : ∀ k, fp rb vr k → B ≤ k) (h2 : ∀ k, fp bm v k → ¬ fp rb vr k) (h3 : ∀ k, fp bm v k → ¬ O k) (h4 : ∀ k, fp rb vr k → ¬ O k) (h5 : ∀ k, O k → k < w.heap.size) (h6 : B ≤ w.heap.size) (h7 : Below B w0 w)
    (hs' : Same ys' zs') (hl : SorRef.Left w rb vr ys' w') :
    Pl B w0 w' O bm xs rb zs' ∧ ∀ k, O k → w'.heap[k]? = w.heap[k]? := by
  obtain ⟨v', hr', hc, hf⟩ := hl
  have hnew : ∀ k, fp rb v' k → fp rb vr k ∨ w.heap.size ≤ k := by
    rintro k (rfl | hk)
    · exact .inl (.inl rfl)
    · rcases hf k hk.symm with h | h
      · exact .inl (.inr h.symm)
      · exact .inr h
  refine ⟨⟨v, v', ys', hm.chg hc fun k hk hk2 => h2 k hk hk2, hr', hs', fun k hk => ?_, fun k hk hk2 => ?_, h3, fun k hk ho => ?_, fun k ho => Nat.lt_of_lt_of_le (h5 k ho) hc.size, Nat.le_trans h6 hc.size, h7.trans (hc.below h6 h1)⟩, fun k ho => hc.block k (h5 k ho) fun hk => h4 k hk ho⟩
  · rcases hnew k hk with h | h
    · exact h1 k h
    · omega
  · rcases hnew k hk2 with h | h
    · exact h2 k hk h
    · have := hm.is.lt k hk; omega
  · rcases hnew k hk with h | h
    · exact h4 k h ho
    · have := h5 k ho; omega
theorem pl_rput (h : Pl B w0 w O bm xs rb zs) (hn : zs.length ≤ 1000) (k : Int) (s : ByteArray) :
    Calls Try.prog 19 #[.pointer (some ⟨rb, 0, none⟩), .int .i64 k, .string s] w fun e w' => e = .returned (.bool (!has k zs)) ∧ Pl B w0 w' O bm xs rb (put k (.string s) zs) ∧ ∀ k, O k → w'.heap[k]? = w.heap[k]? := by
  obtain ⟨v, vr, ys, hm, hr, hs, h1, h2, h3, h4, h5, h6, h7⟩ := h
  exact (SorRef.put_any hr hs (by rw [hs.length]; exact hn) k s).mono fun e w' ⟨he, ys', hs', hl⟩ => ⟨he, pl_ref hm hr h1 h2 h3 h4 h5 h6 h7 hs' hl⟩
theorem pl_rcut (h : Pl B w0 w O bm xs rb zs) (hn : zs.length ≤ 1000) (k : Int) :
    Calls Try.prog 20 #[.pointer (some ⟨rb, 0, none⟩), .int .i64 k] w fun e w' => e = .returned (.bool (has k zs)) ∧ Pl B w0 w' O bm xs rb (cut k zs) ∧ ∀ k, O k → w'.heap[k]? = w.heap[k]? := by
  obtain ⟨v, vr, ys, hm, hr, hs, h1, h2, h3, h4, h5, h6, h7⟩ := h
  exact (SorRef.cut_any hr hs (by rw [hs.length]; exact hn) k).mono fun e w' ⟨he, ys', hs', hl⟩ => ⟨he, pl_ref hm hr h1 h2 h3 h4 h5 h6 h7 hs' hl⟩
theorem pl_rget (h : Pl B w0 w O bm xs rb zs) (hn : zs.length ≤ 1000) (k : Int) :
    Calls Try.prog 21 #[.pointer (some ⟨rb, 0, none⟩), .int .i64 k] w fun e w' => e = .returned (.tuple #[getD k (.string { data := #[] }) zs, .bool (has k zs)]) ∧ w = w' := by
  obtain ⟨v, vr, ys, hm, hr, hs, _⟩ := h
  exact SorRef.get_any hr hs (by rw [hs.length]; exact hn) k
theorem pl_nth (h : Pl B w0 w O bm xs rb zs) (hn : zs.length ≤ 1000) (i : Int) :
    Calls Try.prog 22 #[.pointer (some ⟨rb, 0, none⟩), .int .i64 i] w fun e w' => e = .returned (SorRef.nthV zs i) ∧ ∃ m, w' = w.drewN m := by
  obtain ⟨v, vr, ys, hm, hr, hs, _⟩ := h
  exact SorRef.nth_any hr hs (by rw [hs.length]; exact hn) i
/-- the length that stands in the document's map -/
theorem pl_rlen (h : Pl B w0 w O bm xs rb zs) : ∃ A c, w.cell? ⟨rb, 0, none⟩ = some (.slice A zs.length c) := by
  obtain ⟨v, vr, ys, hm, hr, hs, _⟩ := h
  obtain ⟨A, c, e, _⟩ := hr.look
  exact ⟨A, c, by rw [hr.head, e, hs.length]⟩
theorem pl_rise (h : Pl B w0 w O bm xs rb zs) : Rising xs := by
  obtain ⟨v, vr, ys, hm, _⟩ := h
  exact hm.is.asc
end

set_option maxRecDepth 100000 in
set_option maxHeartbeats 4000000 in
theorem walk0 (s : Value) (k i : Int) (w : World) (l : List (Int × Int × ByteArray)) (h : SorActs.Acts w w.heap.size s l) :
    Calls Try.prog 6 #[s, .int .i64 k, .int .i64 i] w fun e w' => e = .returned (.bool true) ∧ Below w.heap.size w w' := by
  obtain ⟨B, hB⟩ : ∃ B, w.heap.size = B := ⟨_, rfl⟩
  have cg := SorActs.great_any h
  rw [hB] at h ⊢
  have hB0 : B ≤ w.heap.size := by omega
  clear hB
  cases hg : SorActs.greatB l with
  | true =>
    rw [hg] at cg
    clear hg h
    go_enter Try.func6, Try.ntmps6
    go_wp2_with (first | (go_at_call 8; refine cg.mono ?_; rintro e w' ⟨rfl, rfl⟩) | (go_at_call 9; refine (lives_any _).mono ?_; rintro e w1 ⟨rfl, hb1⟩))
    go_ret
    exact ⟨rfl, hb1.mono hB0⟩
  | false =>
    have hl := SorActs.great_len hg
    rw [hg] at cg
    clear hg
    obtain ⟨A, c, rfl, hat⟩ := SorOthers.acts_shape h
    obtain ⟨n, hn⟩ : ∃ n, l.length = n := ⟨_, rfl⟩
    have HN := Lib.hid hn
    rw [hn] at hl cg ⊢
    clear hn h
    go_enter Try.func6, Try.ntmps6
    go_wp2_with fail
    go_at_call 8
    refine cg.mono ?_
    rintro e w' ⟨rfl, rfl⟩
    clear cg
    go_wp2_with fail
    go_at_call 10
    refine (new_any w).mono ?_
    rintro e wa ⟨rfl, hwa⟩
    obtain ⟨bm, hbm⟩ : ∃ bm, w.heap.size = bm := ⟨_, rfl⟩
    obtain ⟨rb, hrb⟩ : ∃ rb, wa.heap.size = rb := ⟨_, rfl⟩
    have hsz : bm < rb := by rw [← hbm, ← hrb, ← hwa]; simp
    have p0 : Pl B w (wa.alloc (.cells #[.slice none 0 0] SorRef.RM)) (fun _ => False) bm [] rb [] := by
      have m0 := myMap_new TM TE w hB0
      rw [hwa, hbm] at m0
      have ba : Below B w wa := by rw [← hwa]; exact (Below.refl _ _).alloc hB0 _
      refine ⟨_, .slice none 0 0, [], ⟨m0.is.kept fun k hk => Below.heap_alloc _ _ _ (m0.is.lt k hk), m0.low, m0.own⟩, ⟨?_, World.ownsRow_nil _ _ _ _, by simp [Value.ownBlock], by simp⟩, same_nil, ?_, ?_, fun _ _ h => h, fun _ _ h => h, fun _ h => h.elim, by simp; omega, ba.alloc (by omega) _⟩
      · rw [← hrb]; exact heap_alloc_new _ _
      · rintro k (rfl | hk)
        · omega
        · simp [Value.ownBlock] at hk
      · rintro k (rfl | hk) (h2 | h2)
        · omega
        · simp [Value.ownBlock] at h2
        · simp [Value.ownBlock] at hk
        · simp [Value.ownBlock] at h2
    have P0 := Lib.hid p0
    have S0 : Hid (Strs []) := fun p hp => by simp at hp
    rw [hbm]
    clear p0 hwa
    go_wp2
    clear hbm hrb
    go_loopw [7, 9] (fun u7 u9 wr => ∃ (q bm : Nat) (xs : List (Int × Value)), q ≤ n ∧ u9 = .int .i64 q ∧ u7 = .pointer (some ⟨bm, 0, none⟩) ∧ Hid (Pl B w wr (fun _ => False) bm xs rb xs) ∧ Hid (Strs xs) ∧ xs.length ≤ q) (fun _ u9 _ => n - (intOf u9).toNat)
    case atStart => exact ⟨0, bm, [], by omega, rfl, rfl, P0, S0, Nat.le_refl _⟩
    case round =>
      clear hsz P0 S0
      obtain ⟨q, bm, xs, hq, rfl, rfl, P, SX, hlx⟩ := hrel
      by_cases hlt : q < n
      · obtain ⟨b, off, rfl, hcell⟩ := hat.out wr P.out.bel.1 q (by rw [HN.out]; exact hlt)
        have hkl : q < l.length := by rw [HN.out]; exact hlt
        obtain ⟨hd0, hd1, hd2⟩ := hcell hkl
        obtain ⟨x0, hx0⟩ : ∃ x, l[q].1 = x := ⟨_, rfl⟩
        obtain ⟨x1, hx1⟩ : ∃ x, l[q].2.1 = x := ⟨_, rfl⟩
        obtain ⟨x2, hx2⟩ : ∃ x, l[q].2.2 = x := ⟨_, rfl⟩
        rw [hx0] at hd0; rw [hx1] at hd1; rw [hx2] at hd2
        clear hcell hx0 hx1 hx2
        obtain ⟨w1, hw1⟩ : ∃ w1, wr.alloc (.cells #[.int .i64 x0, .int .i64 x1, .string x2] 29) = w1 := ⟨_, rfl⟩
        have hsz1 : wr.heap.size < w1.heap.size := by rw [← hw1]; simp
        obtain ⟨ba, hba⟩ : ∃ ba, wr.heap.size = ba := ⟨_, rfl⟩
        have hX : w1.heap[ba]? = some (.cells #[.int .i64 x0, .int .i64 x1, .string x2] 29 (0, 0)) := by rw [← hw1, ← hba]; exact heap_alloc_new _ _
        have p1 : Pl B w w1 (fun k => False ∨ k = ba) bm xs rb xs := by rw [← hw1, ← hba]; exact P.out.alloc _
        have hcells : ∀ wx : World, wx.heap[ba]? = w1.heap[ba]? → wx.cell? ⟨ba, 0, none⟩ = some (.int .i64 x0) ∧ wx.cell? ⟨ba, 1, none⟩ = some (.int .i64 x1) ∧ wx.cell? ⟨ba, 2, none⟩ = some (.string x2) := by
          intro wx hwx
          rw [hX] at hwx
          simp [World.cell?, hwx]
        have hv0 := (hcells w1 rfl).1
        have hv1 := (hcells w1 rfl).2.1
        have hv2 := (hcells w1 rfl).2.2
        have HC := Lib.hid hcells
        have P1 := Lib.hid p1
        have hn1 : (xs.length + 1) * 24 ≤ 140737488355328 := by omega
        clear p1 hX hcells P
        by_cases k0 : x0 = 0
        · subst k0
          go_wp2
          go_region_held3 (fun wx => wx.cell? ⟨ba, 1, none⟩ = some (.int .i64 x1) ∧ wx.cell? ⟨ba, 2, none⟩ = some (.string x2)) (first | exact ⟨hv1, hv2⟩ | exact ⟨hp1, hp2⟩ | exact ⟨hq1, hq2⟩)
            (first
              | (go_at_call 11; refine (pl_put (P1.out.drewN 1) hn1 x1 x2).mono ?_; rintro e wp ⟨rfl, p2, ko⟩; have P2 := Lib.hid p2; have K2 : Hid (wp.heap[ba]? = w1.heap[ba]?) := ko ba (Or.inr rfl); have hp1 := (HC.out wp K2.out).2.1; have hp2 := (HC.out wp K2.out).2.2; clear p2 ko)
              | (go_at_call 19; refine (pl_rput P2.out (by omega) x1 x2).mono ?_; rintro e wq ⟨rfl, p3, ko⟩; have P3 := Lib.hid p3; have hq1 := (HC.out wq ((ko ba (Or.inr rfl)).trans K2.out)).2.1; have hq2 := (HC.out wq ((ko ba (Or.inr rfl)).trans K2.out)).2.2; clear p3 ko))
          obtain ⟨ys, hys⟩ : ∃ ys, put x1 (.string x2) xs = ys := ⟨_, rfl⟩
          have hlq : ys.length ≤ q + 1 := by have := put_length_le x1 (.string x2) xs; rw [hys] at this; omega
          have PQ : Hid (Pl B w wq (fun _ => False) bm ys rb ys) := by rw [← hys]; exact P3.out.less fun _ h => h.elim
          have SQ : Hid (Strs ys) := by rw [← hys]; exact SX.out.put _ _
          obtain ⟨bm', hbm'⟩ : ∃ bm', bm = bm' := ⟨_, rfl⟩
          subst hbm'
          clear P1 P2 P3 hys SX hp1 hp2 hq1 hq2 K2
          have hg := pl_get PQ.out (by omega) k
          obtain ⟨g1, hg1⟩ := Strs.getD (pl_rise PQ.out) SQ.out k
          obtain ⟨a1, a2, a3, ha⟩ := Strs.nth SQ.out i
          obtain ⟨hb, hhb⟩ : ∃ hb, has k ys = hb := ⟨_, rfl⟩
          have hr := fun m => pl_rget (PQ.out.drewN m) (by omega) k
          have hat := fun m => pl_at (PQ.out.drewN m) (by omega) i
          have hnt := fun m => pl_nth (PQ.out.drewN m) (by omega) i
          have hln := fun m => pl_len (PQ.out.drewN m)
          obtain ⟨Ar, cr, hrl⟩ := pl_rlen PQ.out
          rw [hg1, hhb] at hg
          simp only [hg1, hhb] at hr
          simp only [ha] at hat hnt
          obtain ⟨ly, hly⟩ : ∃ ly, ys.length = ly := ⟨_, rfl⟩
          simp only [hly] at hln
          rw [hly] at hrl hlq
          have HLY := Lib.hid hly
          clear hg1 ha hhb hly
          go_wp2_with fail
          go_at_call 16
          refine hg.mono ?_
          rintro e w' ⟨rfl, m1, rfl⟩
          go_wp2_with fail
          go_at_call 21
          refine (hr _).mono ?_
          rintro e w' ⟨rfl, rfl⟩
          go_wp2_with fail
          go_at_call 14
          refine (hat _).mono ?_
          rintro e w' ⟨rfl, m2, rfl⟩
          go_wp2_with fail
          go_at_call 22
          refine (hnt _).mono ?_
          rintro e w' ⟨rfl, m3, rfl⟩
          go_wp2_with fail
          go_quiet ((go_at_call 15; exact (hln _).mono fun e w' h => ⟨h.1, _, h.2.symm⟩))
          have pfin : Hid (Pl B w (wq.drewN (m1 + m2 + m3 + nq)) (fun _ => False) bm ys rb ys) := PQ.out.drewN _
          clear hg hr hat hnt hln hrl
          go_wp2
          go_roundw
          case rel => exact ⟨q + 1, bm, ys, by omega, by go_num, rfl, pfin, SQ, by have := HLY.out; omega⟩
          case measure => simp [intOf]; omega
        · by_cases k1 : x0 = 1
          · subst k1
            go_wp2
            go_region_held3 (fun wx => wx.cell? ⟨ba, 1, none⟩ = some (.int .i64 x1) ∧ wx.cell? ⟨ba, 2, none⟩ = some (.string x2)) (first | exact ⟨hv1, hv2⟩ | exact ⟨hp1, hp2⟩ | exact ⟨hq1, hq2⟩)
              (first
                | (go_at_call 18; refine (pl_cut (P1.out.drewN 1) (by omega) x1).mono ?_; rintro e wp ⟨rfl, p2, ko⟩; have P2 := Lib.hid p2; have K2 : Hid (wp.heap[ba]? = w1.heap[ba]?) := ko ba (Or.inr rfl); have hp1 := (HC.out wp K2.out).2.1; have hp2 := (HC.out wp K2.out).2.2; clear p2 ko)
                | (go_at_call 20; refine (pl_rcut P2.out (by omega) x1).mono ?_; rintro e wq ⟨rfl, p3, ko⟩; have P3 := Lib.hid p3; have hq1 := (HC.out wq ((ko ba (Or.inr rfl)).trans K2.out)).2.1; have hq2 := (HC.out wq ((ko ba (Or.inr rfl)).trans K2.out)).2.2; clear p3 ko))
            obtain ⟨ys, hys⟩ : ∃ ys, cut x1 xs = ys := ⟨_, rfl⟩
            have hlq : ys.length ≤ q + 1 := by have := cut_length_le x1 xs; rw [hys] at this; omega
            have PQ : Hid (Pl B w wq (fun _ => False) bm ys rb ys) := by rw [← hys]; exact P3.out.less fun _ h => h.elim
            have SQ : Hid (Strs ys) := by rw [← hys]; exact SX.out.cut _
            obtain ⟨bm', hbm'⟩ : ∃ bm', bm = bm' := ⟨_, rfl⟩
            subst hbm'
            clear P1 P2 P3 hys SX hp1 hp2 hq1 hq2 K2
            have hg := pl_get PQ.out (by omega) k
            obtain ⟨g1, hg1⟩ := Strs.getD (pl_rise PQ.out) SQ.out k
            obtain ⟨a1, a2, a3, ha⟩ := Strs.nth SQ.out i
            obtain ⟨hb, hhb⟩ : ∃ hb, has k ys = hb := ⟨_, rfl⟩
            have hr := fun m => pl_rget (PQ.out.drewN m) (by omega) k
            have hat := fun m => pl_at (PQ.out.drewN m) (by omega) i
            have hnt := fun m => pl_nth (PQ.out.drewN m) (by omega) i
            have hln := fun m => pl_len (PQ.out.drewN m)
            obtain ⟨Ar, cr, hrl⟩ := pl_rlen PQ.out
            rw [hg1, hhb] at hg
            simp only [hg1, hhb] at hr
            simp only [ha] at hat hnt
            obtain ⟨ly, hly⟩ : ∃ ly, ys.length = ly := ⟨_, rfl⟩
            simp only [hly] at hln
            rw [hly] at hrl hlq
            have HLY := Lib.hid hly
            clear hg1 ha hhb hly
            go_wp2_with fail
            go_at_call 16
            refine hg.mono ?_
            rintro e w' ⟨rfl, m1, rfl⟩
            go_wp2_with fail
            go_at_call 21
            refine (hr _).mono ?_
            rintro e w' ⟨rfl, rfl⟩
            go_wp2_with fail
            go_at_call 14
            refine (hat _).mono ?_
            rintro e w' ⟨rfl, m2, rfl⟩
            go_wp2_with fail
            go_at_call 22
            refine (hnt _).mono ?_
            rintro e w' ⟨rfl, m3, rfl⟩
            go_wp2_with fail
            go_quiet ((go_at_call 15; exact (hln _).mono fun e w' h => ⟨h.1, _, h.2.symm⟩))
            have pfin : Hid (Pl B w (wq.drewN (m1 + m2 + m3 + nq)) (fun _ => False) bm ys rb ys) := PQ.out.drewN _
            clear hg hr hat hnt hln hrl
            go_wp2
            go_roundw
            case rel => exact ⟨q + 1, bm, ys, by omega, by go_num, rfl, pfin, SQ, by have := HLY.out; omega⟩
            case measure => simp [intOf]; omega
          · by_cases k2 : x0 = 2
            · subst k2
              have ccopy : Calls Try.prog 17 #[.pointer (some ⟨bm, 0, none⟩)] w1 (fun e w2 => ∃ bc, e = .returned (.pointer (some ⟨bc, 0, none⟩)) ∧ ∃ vc, MyMap TM TE B w2 bc vc xs ∧ Pl B w w2 (fun k => k = ba ∨ fp bc vc k) bm xs rb xs ∧ w2.heap[ba]? = w1.heap[ba]?) := by
                obtain ⟨v, vr, ys, hm, hr, hs, h1, h2, h3, h4, h5, h6, h7⟩ := P1.out
                refine (copy_any hm.is (by omega)).mono fun e w2 ⟨bc, vc, he, hmc, hb⟩ => ⟨bc, he, vc, ⟨hmc.is, by have := hmc.low; omega, fun k hk => by have := hmc.own k hk; omega⟩, ⟨v, vr, ys, ⟨hm.is.kept fun k hf => hb.block k (hm.is.lt k hf), hm.low, hm.own⟩, hr.kept fun k hf => hb.block k (hr.lt k hf), hs, h1, h2, fun k hf ho => ?_, fun k hf ho => ?_, fun k ho => ?_, Nat.le_trans h6 hb.size, h7.trans (hb.mono h6)⟩, hb.block ba (h5 ba (Or.inr rfl))⟩
                · rcases ho with rfl | ho
                  · exact h3 _ hf (Or.inr rfl)
                  · have := hm.is.lt k hf; have := hmc.fp k ho; omega
                · rcases ho with rfl | ho
                  · exact h4 _ hf (Or.inr rfl)
                  · have := hr.lt k hf; have := hmc.fp k ho; omega
                · rcases ho with rfl | ho
                  · have := h5 k (Or.inr rfl); have := hb.size; omega
                  · exact hmc.is.lt k ho
              go_wp2_with fail
              go_at_call 17
              refine ccopy.mono ?_
              clear ccopy
              rintro e w2 ⟨bc, rfl, vc, hmc, p2, hk2⟩
              have hz1 := (HC.out w2 hk2).2.1
              have P2 := Lib.hid p2; have K2 := Lib.hid hk2; have MC := Lib.hid hmc
              clear p2 hk2 hmc
              go_wp2_with fail
              go_at_call 11
              refine (pl_put P2.out hn1 x1 _).mono ?_
              rintro e w3 ⟨rfl, p3, ko3⟩
              obtain ⟨xs3, hxs3⟩ : ∃ xs3, put x1 (.string { data := #[111, 116, 104, 101, 114] }) xs = xs3 := ⟨_, rfl⟩
              have hl3 : xs3.length ≤ 1000 := by rw [← hxs3]; have := put_length_le x1 (.string { data := #[111, 116, 104, 101, 114] }) xs; omega
              rw [hxs3] at p3
              have P3 := Lib.hid p3; have KO3 := Lib.hid ko3
              clear p3 ko3 hxs3
              go_wp2_with fail
              go_at_call 18
              refine (pl_cut P3.out hl3 k).mono ?_
              rintro e wq ⟨rfl, p4, ko4⟩
              have PQ : Hid (Pl B w wq (fun _ => False) bc xs rb xs) := by
                obtain ⟨v, vr, ys, hm, hr, hs, h1, h2, h3, h4, h5, h6, h7⟩ := p4
                exact ⟨vc, vr, ys, ⟨MC.out.is.kept fun k hf => (ko4 k (Or.inr hf)).trans (KO3.out k (Or.inr hf)), MC.out.low, MC.out.own⟩, hr, hs, h1, fun k hf hf2 => h4 k hf2 (Or.inr hf), fun _ _ h => h, fun _ _ h => h, fun _ h => h.elim, h6, h7⟩
              have SQ := SX
              have hlq : xs.length ≤ q + 1 := by omega
              clear P1 P2 P3 SX p4 ko4 KO3 MC K2
              have hg := pl_get PQ.out (by omega) k
              obtain ⟨g1, hg1⟩ := Strs.getD (pl_rise PQ.out) SQ.out k
              obtain ⟨a1, a2, a3, ha⟩ := Strs.nth SQ.out i
              obtain ⟨hb, hhb⟩ : ∃ hb, has k xs = hb := ⟨_, rfl⟩
              have hr := fun m => pl_rget (PQ.out.drewN m) (by omega) k
              have hat := fun m => pl_at (PQ.out.drewN m) (by omega) i
              have hnt := fun m => pl_nth (PQ.out.drewN m) (by omega) i
              have hln := fun m => pl_len (PQ.out.drewN m)
              obtain ⟨Ar, cr, hrl⟩ := pl_rlen PQ.out
              rw [hg1, hhb] at hg
              simp only [hg1, hhb] at hr
              simp only [ha] at hat hnt
              obtain ⟨ly, hly⟩ : ∃ ly, xs.length = ly := ⟨_, rfl⟩
              simp only [hly] at hln
              rw [hly] at hrl hlq
              have HLY := Lib.hid hly
              clear hg1 ha hhb hly
              go_wp2_with fail
              go_at_call 16
              refine hg.mono ?_
              rintro e w' ⟨rfl, m1, rfl⟩
              go_wp2_with fail
              go_at_call 21
              refine (hr _).mono ?_
              rintro e w' ⟨rfl, rfl⟩
              go_wp2_with fail
              go_at_call 14
              refine (hat _).mono ?_
              rintro e w' ⟨rfl, m2, rfl⟩
              go_wp2_with fail
              go_at_call 22
              refine (hnt _).mono ?_
              rintro e w' ⟨rfl, m3, rfl⟩
              go_wp2_with fail
              go_quiet ((go_at_call 15; exact (hln _).mono fun e w' h => ⟨h.1, _, h.2.symm⟩))
              have pfin : Hid (Pl B w (wq.drewN (m1 + m2 + m3 + nq)) (fun _ => False) bc xs rb xs) := PQ.out.drewN _
              clear hg hr hat hnt hln hrl
              go_wp2
              go_roundw
              case rel => exact ⟨q + 1, bc, xs, by omega, by go_num, rfl, pfin, SQ, by have := HLY.out; omega⟩
              case measure => simp [intOf]; omega
            · have PQ : Hid (Pl B w w1 (fun _ => False) bm xs rb xs) := P1.out.less fun _ h => h.elim
              have SQ := SX
              obtain ⟨ys, hys⟩ : ∃ ys, xs = ys := ⟨_, rfl⟩
              subst hys
              obtain ⟨wq, hwq⟩ : ∃ wq, w1 = wq := ⟨_, rfl⟩
              subst hwq
              have hlq : xs.length ≤ q + 1 := by omega
              clear P1 SX
              have hg := pl_get PQ.out (by omega) k
              obtain ⟨g1, hg1⟩ := Strs.getD (pl_rise PQ.out) SQ.out k
              obtain ⟨a1, a2, a3, ha⟩ := Strs.nth SQ.out i
              obtain ⟨hb, hhb⟩ : ∃ hb, has k xs = hb := ⟨_, rfl⟩
              have hr := fun m => pl_rget (PQ.out.drewN m) (by omega) k
              have hat := fun m => pl_at (PQ.out.drewN m) (by omega) i
              have hnt := fun m => pl_nth (PQ.out.drewN m) (by omega) i
              have hln := fun m => pl_len (PQ.out.drewN m)
              obtain ⟨Ar, cr, hrl⟩ := pl_rlen PQ.out
              rw [hg1, hhb] at hg
              simp only [hg1, hhb] at hr
              simp only [ha] at hat hnt
              obtain ⟨ly, hly⟩ : ∃ ly, xs.length = ly := ⟨_, rfl⟩
              simp only [hly] at hln
              rw [hly] at hrl hlq
              have HLY := Lib.hid hly
              clear hg1 ha hhb hly
              go_wp2_with fail
              go_at_call 16
              refine hg.mono ?_
              rintro e w' ⟨rfl, m1, rfl⟩
              go_wp2_with fail
              go_at_call 21
              refine (hr _).mono ?_
              rintro e w' ⟨rfl, rfl⟩
              go_wp2_with fail
              go_at_call 14
              refine (hat _).mono ?_
              rintro e w' ⟨rfl, m2, rfl⟩
              go_wp2_with fail
              go_at_call 22
              refine (hnt _).mono ?_
              rintro e w' ⟨rfl, m3, rfl⟩
              go_wp2_with fail
              go_quiet ((go_at_call 15; exact (hln _).mono fun e w' h => ⟨h.1, _, h.2.symm⟩))
              have pfin : Hid (Pl B w (w1.drewN (m1 + m2 + m3 + nq)) (fun _ => False) bm xs rb xs) := PQ.out.drewN _
              clear hg hr hat hnt hln hrl
              go_wp2
              go_roundw
              case rel => exact ⟨q + 1, bm, xs, by omega, by go_num, rfl, pfin, SQ, by have := HLY.out; omega⟩
              case measure => simp [intOf]; omega
      · obtain rfl : n = q := by omega
        have hB1 := P.out.bel
        have ck := pl_keys P.out (by omega)
        have hrise := pl_rise P.out
        have HR := Lib.hid hrise
        have HB1 := Lib.hid hB1
        clear hrise hB1
        go_wp2_with fail
        go_at_call 23
        refine ck.mono ?_
        clear ck
        rintro e w2 ⟨Ak, ck, rfl, hown, hbel⟩
        rw [keys_length] at hown ⊢
        have p2 : Pl B w w2 (fun _ => False) bm xs rb xs := P.out.keep (fun k hk => hbel.block k hk) hbel.size (hbel.mono HB1.out.2)
        have hkc : Hid (∀ m i, i < xs.length → ∃ g, Ak = some ⟨g, 0, none⟩ ∧ (w2.drewN m).cell? ⟨g, i, none⟩ = some (.int .i64 ((keys xs).getD i 0))) := by
          intro m i hi
          rcases hown.2 with ⟨_, h0⟩ | ⟨g, cp, cur, e, _, hg, _, _, _, ht⟩
          · omega
          · injection e with e1
            refine ⟨g, e1, row_cell (w := w2.drewN m) hg ht ?_⟩
            simp [hi]
        have P2 := Lib.hid p2
        obtain ⟨ly, hly⟩ : ∃ ly, xs.length = ly := ⟨_, rfl⟩
        have HLY := Lib.hid hly
        rw [hly] at hlx hkc ⊢
        obtain ⟨Ar, cr, hrl⟩ := pl_rlen p2
        rw [hly] at hrl
        clear hown hbel p2 P hly
        go_wp2
        go_loopw [23] (fun u23 wr => ∃ q m : Nat, q ≤ ly ∧ u23 = .int .i64 q ∧ wr = w2.drewN m) (fun u23 _ => ly - (intOf u23).toNat)
        case atStart => exact ⟨0, 0, by omega, rfl, rfl⟩
        case round =>
          obtain ⟨q, m, hq, rfl, rfl⟩ := hrel
          by_cases hlt2 : q < ly
          · obtain ⟨g, rfl, hcell⟩ := hkc.out 0 q hlt2
            obtain ⟨x, hx⟩ : ∃ x, (keys xs).getD q 0 = x := ⟨_, rfl⟩
            have hcell : w2.cell? ⟨g, q, none⟩ = some (.int .i64 x) := by rw [← hx]; exact hcell
            obtain ⟨a1, a2, a3, ha⟩ := Strs.nth SX.out q
            have hax : a1 = x := by
              unfold SorRef.nthV at ha
              rw [if_pos ⟨by omega, by rw [HLY.out]; omega⟩] at ha
              injection ha with ha
              simp at ha
              rw [← hx, ← ha.1]
              simp [HLY.out, hlt2]
            have hn := pl_nth (P2.out.drewN m) (by rw [HLY.out]; omega) q
            rw [ha] at hn
            subst hax
            clear ha hx
            go_wp2_with fail
            go_at_call 22
            refine hn.mono ?_
            rintro e w' ⟨rfl, m', rfl⟩
            go_wp2
            go_roundw
            case rel => exact ⟨q + 1, m + m', by omega, by go_num, rfl⟩
            case measure => simp [intOf]; omega
          · obtain rfl : ly = q := by omega
            go_wp2_with fail
            go_at_call 9
            refine (lives_any _).mono ?_
            rintro e w9 ⟨rfl, hb9⟩
            have fin : Hid (Below B w w9) := ((P2.out.drewN m).bel.1).trans (hb9.mono (P2.out.drewN m).bel.2)
            clear hb9
            go_wp2
            go_ret
            exact ⟨rfl, fin.out⟩

theorem walk {H : Type} {enc : TypeId × Value → H} {base : Nat} {spare : Nat → Bool} {held : Bool} {d : DataW H} {p : List MemPlace} {r : Reach} {b0 : Nat} (s : Value) (k i : Int) (w : World)
    (hv : Value.okWide Try.prog w r b0 22 s) (h : DataW.Trod enc Try.prog w base spare held 22 s d p) (_ : (Lit.int .i64 k).wf = true) (_ : (Lit.int .i64 i).wf = true) :
    Calls Try.prog 6 #[s, .int .i64 k, .int .i64 i] w fun e w' => e = .returned (.bool true) ∧ Below w.heap.size w w' := by
  obtain ⟨l, hl⟩ := SorActs.acts_of hv h
  exact walk0 s k i w l hl

end SorPlays
end Go.Proofs.Ytllohpkbnopbfaa
