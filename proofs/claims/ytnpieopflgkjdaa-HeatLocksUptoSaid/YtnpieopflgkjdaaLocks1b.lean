import Derived.Test.YtnpieopflgkjdaaLocks
import Derived.Deep.Cut
namespace Go.Proofs.Ytnpieopflgkjdaa
open Go.RowKit Go.Bas
open Lay RefLay Of Txs Lock Meet
namespace Locks

theorem hit_next {c : Cfg} {i : Nat} {n : Int} {ps : List (Int × Int)} {k : Nat} (hk : k < ps.length) : hit c i n (ps.take (k + 1)) = if lockOf c ps[k].1 = 3 + i then wrap64 (hit c i n (ps.take k) + 1) else hit c i n (ps.take k) := by
  unfold hit
  rw [List.take_succ_eq_append_getElem hk, List.foldl_append]
  rfl
theorem rds_next {c : Cfg} {l : List Tx} {k : Nat} (hk : k < l.length) (i : Nat) : rds c (l.take (k + 1)) i = hit c i (rds c (l.take k) i) l[k].reads := by
  unfold rds
  rw [List.take_succ_eq_append_getElem hk, List.foldl_append]
  rfl
theorem wrs_next {c : Cfg} {l : List Tx} {k : Nat} (hk : k < l.length) (i : Nat) : wrs c (l.take (k + 1)) i = if l[k].sure then hit c i (wrs c (l.take k) i) l[k].writes else wrs c (l.take k) i := by
  unfold wrs
  rw [List.take_succ_eq_append_getElem hk, List.foldl_append]
  rfl

theorem hfn1 : ∀ args w, (callFunc 55 args).run Try.prog w = .ok (.enter 55 args) w := fun args w => callFunc_run Try.func55 (by kernel_rfl) (by kernel_rfl) args w
theorem hfn2 : ∀ args w, (callFunc 56 args).run Try.prog w = .ok (.enter 56 args) w := fun args w => callFunc_run Try.func56 (by kernel_rfl) (by kernel_rfl) args w

theorem meet_reads {c : Cfg} (F : Fine c) {ps : List (Int × Int)} {B cv q m : Nat} {A : Option Addr} {n cp : Nat} {R W : Nat → Int} (w : World) (hmm : c.stripes = m) (hm : n ≤ 9223372036854775807)
    (hp : Pairs w B (.slice A n cp) ps) (hBq : B ≤ q) (hqc : cv ≠ q) (hc : w.heap[cv]? = some (.cells #[.slice (some ⟨q, 0, none⟩) m m] 46 (0, 0))) (h : Cnts w q m R W) :
    Calls Try.prog 54 #[.agg (lay c (places c)), .slice A n cp, .func (.func 55) #[] #[.pointer (some ⟨cv, 0, none⟩)]] w fun e w' => e = .returned (.tuple #[]) ∧ Cnts w' q m (fun i => hit c i (R i) ps) W ∧ Chg (fun k => k = q) w w' := by
  have hq := h.lt
  have lt : ∀ {w : World} {o : Obj}, w.heap[cv]? = some o → cv < w.heap.size := fun h => (Array.getElem?_eq_some_iff.1 h).1
  have hcv := lt hc
  refine (meet_any F 55 #[.pointer (some ⟨cv, 0, none⟩)] (ps := ps) (B := B) (fun j w' => Pairs w' B (.slice A n cp) ps ∧ w'.heap[cv]? = some (.cells #[.slice (some ⟨q, 0, none⟩) m m] 46 (0, 0)) ∧ Cnts w' q m (fun i => hit c i (R i) (ps.take j)) W) (fun k => k = q) w hm hfn1 (fun k hk => by omega) (fun _ _ h => h.1) ?_ ?_ ?_ ⟨hp, hc, h⟩).mono ?_
  · rintro j w1 w2 ⟨a, b, d⟩ hb
    have h1 := d.lt
    have h2 := lt b
    exact ⟨a.below (hb.mono (by omega)), (hb.block _ h2).trans b, d.block (hb.block _ h1)⟩
  · rintro j hj hz w1 ⟨a, b, d⟩
    have hin := lock_in F ps[j].1
    have h3 : 3 ≤ lockOf c ps[j].1 := by unfold lockOf at hz ⊢; split <;> have := Int.emod_nonneg ps[j].1 (b := c.stripes) (by have := F.stripes; omega) <;> (first | omega | simp_all)
    obtain ⟨i, hi⟩ : ∃ i : Nat, lockOf c ps[j].1 - 3 = i := ⟨(lockOf c ps[j].1 - 3).toNat, by omega⟩
    rw [hi]
    have him : i < m := by omega
    have h1 := d.lt
    refine (inc_reads (by rw [cell_of_row _ _ _ _ _ _ b]; rfl) d him).mono ?_
    rintro e w2 ⟨rfl, rfl⟩
    have hch : Chg (fun k => k = q) w1 (w1.setCell ⟨q, i * 3 + 1, none⟩ (.int .i64 (wrap64 (hit c i (R i) (ps.take j) + 1)))) := Chg.setCell _ _ _ rfl
    refine ⟨rfl, ⟨a.below (hch.below (by omega) (fun k hk => by omega)), ?_, ?_⟩, hch⟩
    · rw [hch.block cv (lt b) hqc]; exact b
    · refine (d.read him _).cong (fun i' hi' => ⟨rfl, ?_, rfl⟩)
      show (if i' = i then _ else _) = _
      rw [hit_next hj]
      by_cases e : i' = i
      · subst e; rw [if_pos rfl, if_pos (by omega)]
      · rw [if_neg e, if_neg (by omega)]
  · rintro j hj hz w1 ⟨a, b, d⟩
    refine ⟨a, b, d.cong (fun i hi => ⟨rfl, ?_, rfl⟩)⟩
    show _ = hit c i (R i) (ps.take (j + 1))
    rw [hit_next hj, if_neg (by omega)]
  · rintro e w' ⟨rfl, ⟨_, _, d⟩, hch⟩
    refine ⟨rfl, ?_, hch⟩
    rw [List.take_length] at d
    exact d

theorem meet_writes {c : Cfg} (F : Fine c) {ps : List (Int × Int)} {B cv q m : Nat} {A : Option Addr} {n cp : Nat} {R W : Nat → Int} (w : World) (hmm : c.stripes = m) (hm : n ≤ 9223372036854775807)
    (hp : Pairs w B (.slice A n cp) ps) (hBq : B ≤ q) (hqc : cv ≠ q) (hc : w.heap[cv]? = some (.cells #[.slice (some ⟨q, 0, none⟩) m m] 46 (0, 0))) (h : Cnts w q m R W) :
    Calls Try.prog 54 #[.agg (lay c (places c)), .slice A n cp, .func (.func 56) #[] #[.pointer (some ⟨cv, 0, none⟩)]] w fun e w' => e = .returned (.tuple #[]) ∧ Cnts w' q m R (fun i => hit c i (W i) ps) ∧ Chg (fun k => k = q) w w' := by
  have hq := h.lt
  have lt : ∀ {w : World} {o : Obj}, w.heap[cv]? = some o → cv < w.heap.size := fun h => (Array.getElem?_eq_some_iff.1 h).1
  have hcv := lt hc
  refine (meet_any F 56 #[.pointer (some ⟨cv, 0, none⟩)] (ps := ps) (B := B) (fun j w' => Pairs w' B (.slice A n cp) ps ∧ w'.heap[cv]? = some (.cells #[.slice (some ⟨q, 0, none⟩) m m] 46 (0, 0)) ∧ Cnts w' q m R (fun i => hit c i (W i) (ps.take j))) (fun k => k = q) w hm hfn2 (fun k hk => by omega) (fun _ _ h => h.1) ?_ ?_ ?_ ⟨hp, hc, h⟩).mono ?_
  · rintro j w1 w2 ⟨a, b, d⟩ hb
    have h1 := d.lt
    have h2 := lt b
    exact ⟨a.below (hb.mono (by omega)), (hb.block _ h2).trans b, d.block (hb.block _ h1)⟩
  · rintro j hj hz w1 ⟨a, b, d⟩
    have hin := lock_in F ps[j].1
    have h3 : 3 ≤ lockOf c ps[j].1 := by unfold lockOf at hz ⊢; split <;> have := Int.emod_nonneg ps[j].1 (b := c.stripes) (by have := F.stripes; omega) <;> (first | omega | simp_all)
    obtain ⟨i, hi⟩ : ∃ i : Nat, lockOf c ps[j].1 - 3 = i := ⟨(lockOf c ps[j].1 - 3).toNat, by omega⟩
    rw [hi]
    have him : i < m := by omega
    have h1 := d.lt
    refine (inc_writes (by rw [cell_of_row _ _ _ _ _ _ b]; rfl) d him).mono ?_
    rintro e w2 ⟨rfl, rfl⟩
    have hch : Chg (fun k => k = q) w1 (w1.setCell ⟨q, i * 3 + 2, none⟩ (.int .i64 (wrap64 (hit c i (W i) (ps.take j) + 1)))) := Chg.setCell _ _ _ rfl
    refine ⟨rfl, ⟨a.below (hch.below (by omega) (fun k hk => by omega)), ?_, ?_⟩, hch⟩
    · rw [hch.block cv (lt b) hqc]; exact b
    · refine (d.write him _).cong (fun i' hi' => ⟨rfl, rfl, ?_⟩)
      show (if i' = i then _ else _) = _
      rw [hit_next hj]
      by_cases e : i' = i
      · subst e; rw [if_pos rfl, if_pos (by omega)]
      · rw [if_neg e, if_neg (by omega)]
  · rintro j hj hz w1 ⟨a, b, d⟩
    refine ⟨a, b, d.cong (fun i hi => ⟨rfl, rfl, ?_⟩)⟩
    show _ = hit c i (W i) (ps.take (j + 1))
    rw [hit_next hj, if_neg (by omega)]
  · rintro e w' ⟨rfl, ⟨_, _, d⟩, hch⟩
    refine ⟨rfl, ?_, hch⟩
    rw [List.take_length] at d
    exact d

end Locks
end Go.Proofs.Ytnpieopflgkjdaa
