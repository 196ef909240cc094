/- Lemmas of this seat's proofs, several texts laid together. -/
import Derived.Test.YthojgahcpkdemaaGreatAfA
import Derived.WalkLawsBesides
import Derived.Deep.Cut
import Derived.Recover
import Derived.Defers
import Derived.Great.BuildSlice
import Derived.OneCell
import Derived.Laws.OwnMore
import Derived.OwnWalk
import Derived.Deep.Slices
import Derived.ChangeSame
import Derived.ProofKit
set_option linter.unusedVariables false
set_option linter.unusedSimpArgs false
namespace Go.Proofs.YthojgahcpkdemaaGreat
open Go.RowKit Go.Bas SorPlain Go.Sor IMap_ VIn VPlain MapI
namespace View

def vals (m : M) : List (Int × Value) := m.map fun p => (p.1, .int .i64 p.2)
theorem keys_vals (m : M) : keys (vals m) = keys m := by simp [keys, vals]
theorem vals_length (m : M) : (vals m).length = m.length := by simp [vals]
theorem has_vals (k : Int) (m : M) : has k (vals m) = has k m := by unfold has; rw [keys_vals]
theorem place_vals (k : Int) (m : M) : place k (vals m) = place k m := by unfold place; rw [keys_vals]
theorem put_vals (k x : Int) (m : M) : put k (.int .i64 x) (vals m) = vals (put k x m) := by
  unfold put
  rw [place_vals, has_vals]
  simp [vals]
theorem getD_vals (k : Int) (m : M) : getD k (.int .i64 0) (vals m) = .int .i64 (getD k 0 m) := by
  unfold getD
  rw [has_vals, place_vals]
  split
  · have : (vals m).map (·.2) = (m.map (·.2)).map (Value.int .i64) := by simp [vals]
    rw [this]
    simp only [List.getD, List.getElem?_map]
    cases hq : m[place k m]? <;> simp
  · rfl
theorem getD_in {m : M} (hm : PIn m) (k : Int) : In64 (getD k 0 m) := by
  have h0 : In64 0 := by unfold In64; simp
  unfold getD
  split
  · by_cases h : place k m < m.length
    · have : (m.map (·.2)).getD (place k m) 0 = m[place k m].2 := by simp [h]
      rw [this]
      exact (hm _ (List.getElem_mem h)).2
    · have : (m.map (·.2)).getD (place k m) 0 = 0 := by simp [h]
      rw [this]; exact h0
  · exact h0
theorem pin_put {m : M} (hm : PIn m) {k x : Int} (hk : In64 k) (hx : In64 x) : PIn (put k x m) := by
  intro p hp
  unfold SorPlain.put at hp
  rcases List.mem_append.1 hp with h | h
  · exact hm p (List.mem_of_mem_take h)
  · rcases List.mem_cons.1 h with rfl | h
    · exact ⟨hk, hx⟩
    · exact hm p (List.mem_of_mem_drop h)
theorem wr_in {m : M} (hm : PIn m) {k x : Int} (hk : In64 k) (hx : In64 x) : PIn (wr m k x) := by
  unfold wr
  split
  · exact hm
  · exact pin_put hm hk hx
theorem wr_length (m : M) (k x : Int) : (wr m k x).length ≤ m.length + 1 := by
  unfold wr
  split
  · omega
  · rw [put_length]; split <;> omega

/-- who answers for words: a closure, what it answers, and what it keeps in memory -/
structure Ask where
  B : Nat
  fn : FuncId
  first : Array Value
  cap : Array Value
  f : Int → Option Int
  R : Nat → Prop
  I : List Int → (Nat → Prop) → World → Prop
  rlt : ∀ k, R k → k < B
  lt : ∀ qs S w, I qs S w → ∀ k, S k → B ≤ k ∧ k < w.heap.size
  keep : ∀ qs S w T w', I qs S w → Chg T w w' → (∀ k, S k → ¬ T k) → (∀ k, T k → ¬ R k) → I qs S w'
  run : ∀ args w, (callFunc fn args).run Tryz.prog w = .ok (.enter fn args) w
  rng : ∀ a x, f a = some x → In64 x
  ask : ∀ qs S w a, I qs S w → 0 ≤ a → In64 a → Calls Tryz.prog fn (first ++ #[.int .i64 a] ++ cap) w fun e w' => e = .returned (.tuple #[.int .i64 ((f a).getD 0), .bool (f a).isSome]) ∧
    ∃ S', I (if (f a).isSome then qs ++ [a] else qs) S' w' ∧ Chg S w w' ∧ (∀ k, S' k → S k ∨ w.heap.size ≤ k)

/-- a view in memory -/
structure VW (A : Ask) (bv bm : Nat) (st : Bool) (qs : List Int) (m : M) (w : World) (S : Nat → Prop) (v : Value) : Prop where
  inv : A.I qs S w
  row : w.heap[bv]? = some (.cells #[.func (.func A.fn) A.first A.cap, .pointer (some ⟨bm, 0, none⟩), .bool st] 104 (0, 0))
  map : IsMap TM TE w bm v (vals m)
  apart : ∀ k, S k → ¬ fp bm v k ∧ k ≠ bv
  own : ¬ fp bm v bv
  low : A.B ≤ bv ∧ ∀ k, fp bm v k → A.B ≤ k
  rng : PIn m
/-- .. which leaves the blocks of P alone -/
def VWs (A : Ask) (P : Nat → Prop) (bv bm : Nat) (st : Bool) (qs : List Int) (m : M) (w : World) : Prop := ∃ S v, VW A bv bm st qs m w S v ∧ ∀ k, P k → k < w.heap.size ∧ ¬ S k ∧ ¬ fp bm v k ∧ k ≠ bv
/-- the blocks of P are as they were -/
abbrev Kept (P : Nat → Prop) (w w' : World) : Prop := Chg (fun k => ¬ P k) w w'

/-- what lies elsewhere does not matter -/
theorem VW.kept {A : Ask} {bv bm : Nat} {st : Bool} {qs : List Int} {m : M} {w w' : World} {S : Nat → Prop} {v : Value} (h : VW A bv bm st qs m w S v) {T : Nat → Prop} (hc : Chg T w w') (hT : ∀ k, T k → ¬ S k ∧ ¬ fp bm v k ∧ k ≠ bv ∧ ¬ A.R k) : VW A bv bm st qs m w' S v := by
  have hlt : bv < w.heap.size := (Array.getElem?_eq_some_iff.1 h.row).1
  refine ⟨A.keep _ _ _ _ _ h.inv hc (fun k hk ht => (hT k ht).1 hk) (fun k ht => (hT k ht).2.2.2), ?_, h.map.chg hc (fun k hk ht => (hT k ht).2.1 hk), h.apart, h.own, h.low, h.rng⟩
  rw [hc.block _ hlt (fun ht => (hT bv ht).2.2.1 rfl)]
  exact h.row
theorem VWs.new {A : Ask} {P : Nat → Prop} {bv bm : Nat} {st : Bool} {qs : List Int} {m : M} {w w' : World} (h : VWs A P bv bm st qs m w) (hb : Below w.heap.size w w') : VWs A P bv bm st qs m w' := by
  obtain ⟨S, v, h, hP⟩ := h
  refine ⟨S, v, h.kept (Chg.of_below hb) (fun k hk => ⟨fun hs => ?_, fun hf => ?_, fun e => ?_, fun hr => by have := A.rlt k hr; have := h.low.1; have := (Array.getElem?_eq_some_iff.1 h.row).1; omega⟩), fun k hk => ⟨by have := (hP k hk).1; have := hb.size; omega, (hP k hk).2⟩⟩
  · have := (A.lt _ _ _ h.inv k hs).2; omega
  · have := h.map.lt k hf; omega
  · have := (Array.getElem?_eq_some_iff.1 h.row).1; omega
/-- more is left alone: what is new -/
theorem VWs.add {A : Ask} {P Q : Nat → Prop} {bv bm : Nat} {st : Bool} {qs : List Int} {m : M} {w w' : World} (h : VWs A P bv bm st qs m w) (hb : Below w.heap.size w w') (hQ : ∀ k, Q k → P k ∨ (w.heap.size ≤ k ∧ k < w'.heap.size)) : VWs A Q bv bm st qs m w' := by
  obtain ⟨S, v, h, hP⟩ := h
  have hS := A.lt _ _ _ h.inv
  have hf := h.map.lt
  have hbv := (Array.getElem?_eq_some_iff.1 h.row).1
  have hs := hb.size
  refine ⟨S, v, h.kept (Chg.of_below hb) (fun k hk => ⟨fun hs => ?_, fun hf' => ?_, fun e => ?_, fun hr => by have := A.rlt k hr; have := h.low.1; omega⟩), fun k hk => ?_⟩
  · have := (hS k hs).2; omega
  · have := hf k hf'; omega
  · omega
  · rcases hQ k hk with h1 | ⟨h1, h2⟩
    · obtain ⟨p1, p2⟩ := hP k h1
      exact ⟨by omega, p2⟩
    · exact ⟨h2, fun h => by have := (hS k h).2; omega, fun h => by have := hf k h; omega, by omega⟩
/-- less is left alone -/
theorem VWs.less {A : Ask} {P Q : Nat → Prop} {bv bm : Nat} {st : Bool} {qs : List Int} {m : M} {w : World} (h : VWs A P bv bm st qs m w) (hQ : ∀ k, Q k → P k) : VWs A Q bv bm st qs m w := by
  obtain ⟨S, v, h, hP⟩ := h
  exact ⟨S, v, h, fun k hk => hP k (hQ k hk)⟩

set_option maxRecDepth 100000 in
set_option maxHeartbeats 2000000 in
theorem read_any {A : Ask} {P : Nat → Prop} {bv bm : Nat} {qs : List Int} {m : M} {w : World} (h : VWs A P bv bm true qs m w) (hlen : m.length ≤ 1000000) (a : Int) (ha : In64 a) :
    Calls Tryz.prog 62 #[.pointer (some ⟨bv, 0, none⟩), .int .i64 a] w fun e w' =>
      (∃ y, rd A.f m a = some y ∧ In64 y ∧ e = .returned (.int .i64 y) ∧ VWs A P bv bm true (asks m a qs) m w' ∧ Kept P w w') ∨
      (rd A.f m a = none ∧ e = .panicked [{ v := .iface 110 (.int .i64 a), recovered := false }] ∧ VWs A P bv bm true qs m w' ∧ Kept P w w') := by
  obtain ⟨S, v, h, hP⟩ := h
  have H := Lib.hid h
  have HP := Lib.hid hP
  clear hP
  have k0 : w.cell? ⟨bv, 0, none⟩ = some (.func (.func A.fn) A.first A.cap) := by rw [cell_of_row _ _ _ _ _ _ h.row]; rfl
  have k1 : w.cell? ⟨bv, 1, none⟩ = some (.pointer (some ⟨bm, 0, none⟩)) := by rw [cell_of_row _ _ _ _ _ _ h.row]; rfl
  have k2 : w.cell? ⟨bv, 2, none⟩ = some (.bool true) := by rw [cell_of_row _ _ _ _ _ _ h.row]; rfl
  have GT := get_any h.map (by rw [vals_length]; omega) a
  rw [getD_vals, has_vals] at GT
  have hrd : Hid (rd A.f m a = if a < 0 then some 0 else if has a m then some (getD a 0 m) else A.f a) := rfl
  have hqs : Hid (asks m a qs = if a < 0 then qs else if has a m then qs else qs ++ [a]) := rfl
  have HA := Lib.hid ha
  have hg := Lib.hid (getD_in h.rng a)
  clear h ha
  by_cases h0 : a < 0
  · clear GT
    go_enter Tryz.func62, Tryz.ntmps62
    go_wp2
    go_ret
    refine .inl ⟨0, by rw [hrd.out, if_pos h0], by unfold In64; omega, rfl, ?_, Chg.refl _ _⟩
    rw [hqs.out, if_pos h0]
    exact ⟨S, v, H.out, HP.out⟩
  · rw [if_neg h0] at hrd hqs
    obtain ⟨g, hgd⟩ : ∃ g, getD a 0 m = g := ⟨_, rfl⟩
    rw [hgd] at GT hrd hg
    cases hh : has a m with
    | true =>
      rw [hh] at GT hrd hqs
      clear hgd hh
      go_enter Tryz.func62, Tryz.ntmps62
      go_wp2_with (first
        | (go_at_call 77; refine GT.mono ?_; rintro e w' ⟨rfl, n, rfl⟩))
      go_ret
      refine .inl ⟨g, by rw [hrd.out]; rfl, hg.out, rfl, ?_, Chg.drewN _ _ _⟩
      rw [hqs.out]
      exact ⟨S, v, H.out.kept (Chg.drewN (fun _ => False) w n) (fun k hk => hk.elim), HP.out⟩
    | false =>
      rw [hh] at GT hrd hqs
      clear hgd hh
      have hrun := A.run
      have AK : Hid (∀ n, Calls Tryz.prog A.fn (A.first ++ #[.int .i64 a] ++ A.cap) (w.drewN n) fun e w' => e = .returned (.tuple #[.int .i64 ((A.f a).getD 0), .bool (A.f a).isSome]) ∧
          VWs A P bv bm true (if (A.f a).isSome then qs ++ [a] else qs) m w' ∧ Kept P w w') := fun n => by
        have hd := H.out.kept (Chg.drewN (fun _ => False) w n) (fun k hk => hk.elim)
        refine (A.ask qs S (w.drewN n) a hd.inv (by omega) HA.out).mono ?_
        rintro e w' ⟨rfl, S', i', c', hS'⟩
        have hsz := c'.size
        have hsz : w.heap.size ≤ w'.heap.size := hsz
        have hlt := A.lt _ _ _ H.out.inv
        have hbv : bv < w.heap.size := (Array.getElem?_eq_some_iff.1 H.out.row).1
        have hdis : ∀ k, S' k → ¬ fp bm v k ∧ k ≠ bv := fun k hk => by
          rcases hS' k hk with h1 | h1
          · exact H.out.apart k h1
          · have h1 : w.heap.size ≤ k := h1
            exact ⟨fun hf => by have := H.out.map.lt k hf; omega, by omega⟩
        refine ⟨rfl, ⟨S', v, ⟨i', ?_, hd.map.chg c' (fun k hk hs => (H.out.apart k hs).1 hk), hdis, H.out.own, H.out.low, H.out.rng⟩, fun k hk => ?_⟩, (Chg.drewN _ w n).trans (c'.mono (fun k _ hs hp => (HP.out k hp).2.1 hs))⟩
        · rw [c'.block bv hbv (fun hs => (H.out.apart bv hs).2 rfl)]
          exact hd.row
        · obtain ⟨p1, p2, p3⟩ := HP.out k hk
          refine ⟨by omega, fun h => ?_, p3⟩
          rcases hS' k h with h1 | h1
          · exact p2 h1
          · have h1 : w.heap.size ≤ k := h1
            omega
      obtain ⟨af, haf⟩ : ∃ f, A.fn = f := ⟨_, rfl⟩
      obtain ⟨ac, hac⟩ : ∃ c, A.cap = c := ⟨_, rfl⟩
      obtain ⟨a0, ha0⟩ : ∃ c, A.first = c := ⟨_, rfl⟩
      rw [haf] at hrun
      rw [haf, hac, ha0] at k0 AK
      clear haf hac ha0
      cases hf : A.f a with
      | some y =>
        rw [hf] at AK hrd
        have hy := Lib.hid (A.rng a y hf)
        clear hf
        go_enter Tryz.func62, Tryz.ntmps62
        go_wp2_with (first
          | (go_at_call 77; refine GT.mono ?_; rintro e w' ⟨rfl, n, rfl⟩))
        refine (AK.out n).mono ?_
        rintro e w2 ⟨rfl, hv2, hb2⟩
        have HV2 := Lib.hid hv2; have HB2 := Lib.hid hb2
        clear hv2 hb2
        go_wp2
        go_ret
        refine .inl ⟨y, by rw [hrd.out]; rfl, hy.out, rfl, ?_, HB2.out⟩
        rw [hqs.out]
        exact HV2.out
      | none =>
        rw [hf] at AK hrd
        clear hf
        go_enter Tryz.func62, Tryz.ntmps62
        go_wp2_with (first
          | (go_at_call 77; refine GT.mono ?_; rintro e w' ⟨rfl, n, rfl⟩))
        refine (AK.out n).mono ?_
        rintro e w2 ⟨rfl, hv2, hb2⟩
        have HV2 := Lib.hid hv2; have HB2 := Lib.hid hb2
        clear hv2 hb2
        go_wp2
        exact ⟨rfl, .inr ⟨by rw [hrd.out]; rfl, rfl, HV2.out, HB2.out⟩⟩

set_option maxRecDepth 100000 in
set_option maxHeartbeats 2000000 in
theorem write_any {A : Ask} {P : Nat → Prop} {bv bm : Nat} {qs : List Int} {m : M} {w : World} (h : VWs A P bv bm true qs m w) (hlen : m.length ≤ 1000000) (a x : Int) (ha : In64 a) (hx : In64 x) :
    Calls Tryz.prog 52 #[.pointer (some ⟨bv, 0, none⟩), .int .i64 a, .int .i64 x] w fun e w' => e = .returned (.tuple #[]) ∧ VWs A P bv bm true qs (wr m a x) w' ∧ Kept P w w' := by
  obtain ⟨S, v, h, hP⟩ := h
  have H := Lib.hid h
  have HP := Lib.hid hP
  clear hP
  have k1 : w.cell? ⟨bv, 1, none⟩ = some (.pointer (some ⟨bm, 0, none⟩)) := by rw [cell_of_row _ _ _ _ _ _ h.row]; rfl
  have k2 : w.cell? ⟨bv, 2, none⟩ = some (.bool true) := by rw [cell_of_row _ _ _ _ _ _ h.row]; rfl
  have hwr : Hid (wr m a x = if a < 0 then m else put a x m) := rfl
  have hin := Lib.hid (wr_in h.rng ha hx)
  have PT := put_any h.map (by rw [vals_length]; omega) a x
  rw [put_vals] at PT
  have hbv : bv < w.heap.size := (Array.getElem?_eq_some_iff.1 h.row).1
  clear h
  by_cases h0 : a < 0
  · clear PT
    rw [if_pos h0] at hwr
    go_enter Tryz.func52, Tryz.ntmps52
    go_wp2
    exact bodyPost_ret (results_none rfl _ _ _) rfl ⟨rfl, ⟨S, v, by rw [hwr.out]; exact H.out, HP.out⟩, Chg.refl _ _⟩
  · rw [if_neg h0] at hwr
    obtain ⟨b, hb⟩ : ∃ b, (!has a (vals m)) = b := ⟨_, rfl⟩
    rw [hb] at PT
    clear hb
    go_enter Tryz.func52, Tryz.ntmps52
    go_wp2_with (first
      | (go_at_call 74; refine PT.mono ?_; rintro e w' ⟨rfl, v', hm', hc', hv'⟩))
    have h := H.out
    have hlt := A.lt _ _ _ h.inv
    have hfp : ∀ k, fp bm v' k → fp bm v k ∨ w.heap.size ≤ k := fun k hk => by
      rcases hk with rfl | hk
      · exact .inl (.inl rfl)
      · rcases hv' with e | ⟨g, e, hg⟩
        · exact .inl (.inr (by rw [← e]; exact hk))
        · rw [e] at hk; injection hk with hk; subst hk; exact .inr hg
    go_end0
    refine ⟨rfl, ⟨S, v', ⟨A.keep _ _ _ _ _ h.inv hc' (fun k hk => (h.apart k hk).1) (fun k hk hr => by have := A.rlt k hr; have := h.low.2 k hk; omega), ?_, ?_, ?_, ?_, ⟨h.low.1, ?_⟩, ?_⟩, fun k hk => ?_⟩, hc'.mono (fun k _ hs hp => (HP.out k hp).2.2.1 hs)⟩
    · rw [hc'.block bv hbv h.own]; exact h.row
    · rw [hwr.out]; exact hm'
    · intro k hk
      refine ⟨fun hf => ?_, (h.apart k hk).2⟩
      rcases hfp k hf with h1 | h1
      · exact (h.apart k hk).1 h1
      · have := (hlt k hk).2; omega
    · intro hf
      rcases hfp bv hf with h1 | h1
      · exact h.own h1
      · omega
    · intro k hk
      rcases hfp k hk with h1 | h1
      · exact h.low.2 k h1
      · have := h.low.1; omega
    · exact hin.out
    · obtain ⟨p1, p2, p3, p4⟩ := HP.out k hk
      have hsz := hc'.size
      refine ⟨by omega, p2, fun hf => ?_, p4⟩
      rcases hfp k hf with h1 | h1
      · exact p3 h1
      · omega

end View
end Go.Proofs.YthojgahcpkdemaaGreat

namespace Go.Bas
open Go.RowKit

/-- all orders of a drawn region -/
def orders (ops : Array Oper) : Nat → Array Bool → List Nat → List (List Nat)
  | 0, _, acc => [acc.reverse]
  | fuel + 1, listed, acc =>
    if Region.ready .any ops listed = [] then [acc.reverse] else (Region.ready .any ops listed).flatMap fun i => orders ops fuel (listed.setIfInBounds i true) (i :: acc)
theorem go_orders (ops : Array Oper) : ∀ (fuel t : Nat) (listed : Array Bool) (acc : List Nat), Region.linearise.go .any ops fuel t listed acc ∈ orders ops fuel listed acc
  | 0, t, listed, acc => by simp [Region.linearise.go, orders]
  | fuel + 1, t, listed, acc => by
    simp only [Region.linearise.go, orders]
    change (match (Region.ready .any ops listed)[t % (Region.ready .any ops listed).length]? with
      | some i => Region.linearise.go .any ops fuel (t / (Region.ready .any ops listed).length) (listed.setIfInBounds i true) (i :: acc)
      | none => acc.reverse) ∈ _
    cases hi : (Region.ready .any ops listed)[t % (Region.ready .any ops listed).length]? with
    | none =>
      have hnil : Region.ready .any ops listed = [] := by
        cases hr : Region.ready .any ops listed with
        | nil => rfl
        | cons x xs =>
          rw [hr] at hi
          have hlt : t % (x :: xs).length < (x :: xs).length := Nat.mod_lt _ (by simp)
          simp at hi
          simp at hlt
          omega
      simp [hnil]
    | some i =>
      have hm := List.mem_of_getElem? hi
      rw [if_neg (List.ne_nil_of_mem hm)]
      exact List.mem_flatMap.2 ⟨i, hm, go_orders ops fuel _ _ _⟩

/-- a drawn region of a deferred function -/
theorem wpS_region_orders {P : Program} {Q : Exit → Act → List Frame → World → Prop} {a : Act} {cs : List Frame} {w : World} {id : Nat} {ops : Array Oper} (hm : P.follows .mixedOrders = true) (L : List (List Nat))
    (hL : orders ops ops.size (Array.replicate ops.size false) [] = L) (h : ∀ l, l ∈ L → wpOpsS P ops Q l a cs w.drew) : (Code.region id ops true).wpS P Q a cs w := by
  intro b k hb hr
  have hl : Region.schedule (P.follows .mixedOrders) ops (w.tape w.drawn (.order b.fn id)) ∈ L := by
    simp only [Region.schedule, hm, Bool.true_or, if_true]
    rw [← hL]
    exact go_orders ops _ _ _ _
  obtain ⟨e, a', cs', w', q, r⟩ := wp_opsS _ a cs _ (h _ hl) b k hb hr
  exact ⟨e, a', cs', w', q, .of_steps (.one step_region_draw) r⟩

end Go.Bas
namespace Go.Proofs.YthojgahcpkdemaaGreat
open Go.RowKit Go.Bas SorPlain Go.Sor IMap_ VIn VPlain MapI
namespace View

/-- what recover hands over -/
def caught : Option Int → Value
  | none => .nilIface
  | some a => .iface 110 (.int .i64 a)

theorem VWs.stop {A : Ask} {P : Nat → Prop} {bv bm : Nat} {st : Bool} {qs : List Int} {m : M} {w : World} (h : VWs A P bv bm st qs m w) : VWs A P bv bm false qs m (w.setCell ⟨bv, 2, none⟩ (.bool false)) ∧ Kept P w (w.setCell ⟨bv, 2, none⟩ (.bool false)) := by
  obtain ⟨S, v, h, hP⟩ := h
  have hc : Chg (fun k => k = bv) w (w.setCell ⟨bv, 2, none⟩ (.bool false)) := Chg.setCell _ _ _ rfl
  refine ⟨⟨S, v, ⟨A.keep _ _ _ _ _ h.inv hc (fun k hk => (h.apart k hk).2) (fun k hk hr => by have := A.rlt k hr; have := h.low.1; omega), ?_, h.map.chg hc (fun k hk e => h.own (by rw [← e]; exact hk)), h.apart, h.own, h.low, h.rng⟩, fun k hk => ⟨by have := (hP k hk).1; have := hc.size; omega, (hP k hk).2⟩⟩, hc.mono (fun k _ e hp => (hP k hp).2.2.2 e)⟩
  rw [setCell_row h.row]
  exact setRow_same h.row

theorem over_any {A : Ask} {P : Nat → Prop} {bv bm : Nat} {qs : List Int} {m : M} {w : World} (h : VWs A P bv bm true qs m w) (p : Option Int) :
    Calls Tryz.prog 111 #[.pointer (some ⟨bv, 0, none⟩), caught p] w fun e w' => e = .returned (.int .i64 (p.getD (-1))) ∧ VWs A P bv bm false qs m w' ∧ Kept P w w' := by
  have fin := Lib.hid h.stop
  obtain ⟨S, v, h, hP⟩ := h
  have k2 : w.cell? ⟨bv, 2, none⟩ = some (.bool true) := by rw [cell_of_row _ _ _ _ _ _ h.row]; rfl
  have hf := row_frozen h.row 2
  clear h hP
  cases p with
  | none =>
    simp only [caught]
    go_enter Tryz.func111, Tryz.ntmps111
    go_wp2
    go_ret
    exact ⟨rfl, fin.out⟩
  | some a =>
    simp only [caught]
    have hta : ∀ w, (Instr.typeAssert (.iface 110 (.int .i64 a)) 20 110 true).run Tryz.prog w = .ok (.tuple #[.int .i64 a, .bool true]) w := fun w => by kernel_rfl
    go_enter Tryz.func111, Tryz.ntmps111
    go_wp2
    go_ret
    exact ⟨rfl, fin.out⟩

end View
end Go.Proofs.YthojgahcpkdemaaGreat

namespace Go.Proofs.YthojgahcpkdemaaGreat
open Go.RowKit Go.Bas SorPlain Go.Sor IMap_ VIn VPlain MapI
namespace View

theorem VWs.cell {A : Ask} {P : Nat → Prop} {bv bm : Nat} {st : Bool} {qs : List Int} {m : M} {w w' : World} (h : VWs A P bv bm st qs m w) {g : Nat} (hg : P g) (hgR : ¬ A.R g) (hc : Chg (fun k => k = g) w w') : VWs A P bv bm st qs m w' := by
  obtain ⟨S, v, h, hP⟩ := h
  exact ⟨S, v, h.kept hc (fun k e => by subst e; exact ⟨(hP k hg).2.1, (hP k hg).2.2.1, (hP k hg).2.2.2, hgR⟩), fun k hk => ⟨by have := (hP k hk).1; have := hc.size; omega, (hP k hk).2⟩⟩

def mode : Option Int → FrameMode
  | none => .returning
  | some a => .panicking [{ v := .iface 110 (.int .i64 a), recovered := false }]
def mode' : Option Int → FrameMode
  | none => .returning
  | some a => .panicking [{ v := .iface 110 (.int .i64 a), recovered := true }]

theorem defer_any {A : Ask} {P : Nat → Prop} {bv bm g1 g2 : Nat} {x : Int} {qs : List Int} {m : M} {w : World} (h : VWs A P bv bm true qs m w) (hg1 : P g1) (hg2 : P g2) (hgR : ¬ A.R g2)
    (r1 : w.heap[g1]? = some (.cells #[.pointer (some ⟨bv, 0, none⟩)] 79 (0, 0))) (r2 : w.heap[g2]? = some (.cells #[.int .i64 x] 3 (0, 0))) (p : Option Int) :
    CallsD Tryz.prog 110 #[.pointer (some ⟨g1, 0, none⟩), .pointer (some ⟨g2, 0, none⟩)] (mode p) w fun e u' w' =>
      e = .returned (.tuple #[]) ∧ u' = mode' p ∧ VWs A P bv bm false qs m w' ∧ w'.heap[g2]? = some (.cells #[.int .i64 (p.getD (-1))] 3 (0, 0)) ∧ Chg (fun k => ¬ P k ∨ k = g2) w w' := by
  have k1 : w.drew.cell? ⟨g1, 0, none⟩ = some (.pointer (some ⟨bv, 0, none⟩)) := by
    show w.cell? _ = _
    rw [cell_of_row _ _ _ _ _ _ r1]; rfl
  have hd : VWs A P bv bm true qs m w.drew := h.new ((Below.refl _ _).drew)
  have hov := over_any hd p
  refine callsD_of_wpS Tryz.func110 rfl fun c₀ cs hu => ?_
  refine wpS_region_orders (by kernel_rfl) [[0, 1, 2, 3], [1, 0, 2, 3]] (by kernel_rfl) ?_
  intro l hl
  have hl : l = [0, 1, 2, 3] ∨ l = [1, 0, 2, 3] := by simpa using hl
  have hlt : g2 < w.drew.heap.size := (Array.getElem?_eq_some_iff.1 r2).1
  have fin : ∀ w2, VWs A P bv bm false qs m w2 → Kept P w.drew w2 → VWs A P bv bm false qs m (w2.setCell ⟨g2, 0, none⟩ (.int .i64 (p.getD (-1)))) ∧
      (w2.setCell ⟨g2, 0, none⟩ (.int .i64 (p.getD (-1)))).heap[g2]? = some (.cells #[.int .i64 (p.getD (-1))] 3 (0, 0)) ∧ Chg (fun k => ¬ P k ∨ k = g2) w (w2.setCell ⟨g2, 0, none⟩ (.int .i64 (p.getD (-1)))) := by
    intro w2 hv2 hc2
    have r3 : w2.heap[g2]? = some (.cells #[.int .i64 x] 3 (0, 0)) := by rw [hc2.block _ hlt (by simpa using hg2)]; exact r2
    have hc := Chg.setCell (S := fun k => k = g2) w2 ⟨g2, 0, none⟩ (.int .i64 (p.getD (-1))) rfl
    refine ⟨hv2.cell hg2 hgR hc, ?_, ((Chg.drew _ w).trans (hc2.mono (fun k _ h => .inl h))).trans (hc.mono (fun k _ h => .inr h))⟩
    rw [setCell_row r3]
    exact setRow_same r3
  cases p with
  | none =>
    have hu : c₀.mode = .returning := hu
    rcases hl with rfl | rfl
    · simp [wpOpsS, go_sem, recoverD, hu, Tryz.ntmps110, Exit.thenS, k1]
      refine hov.mono ?_
      rintro e w2 ⟨rfl, hv2, hc2⟩
      obtain ⟨q1, q2, q3⟩ := fin w2 hv2 hc2
      have r3 : w2.heap[g2]? = some (.cells #[.int .i64 x] 3 (0, 0)) := by rw [hc2.block _ hlt (by simpa using hg2)]; exact r2
      have c3 : w2.cell? ⟨g2, 0, none⟩ = some (.int .i64 x) := by rw [cell_of_row _ _ _ _ _ _ r3]; rfl
      have f3 : w2.frozen? ⟨g2, 0, none⟩ = false := row_frozen r3 0
      simp [go_sem, c3, f3, bodyPostS, results, Tryz.results110, Exit.thenS]
      exact ⟨.returning, by cases c₀; simp_all, rfl, q1, q2, q3⟩
    · simp [wpOpsS, go_sem, recoverD, hu, Tryz.ntmps110, Exit.thenS, k1]
      refine hov.mono ?_
      rintro e w2 ⟨rfl, hv2, hc2⟩
      obtain ⟨q1, q2, q3⟩ := fin w2 hv2 hc2
      have r3 : w2.heap[g2]? = some (.cells #[.int .i64 x] 3 (0, 0)) := by rw [hc2.block _ hlt (by simpa using hg2)]; exact r2
      have c3 : w2.cell? ⟨g2, 0, none⟩ = some (.int .i64 x) := by rw [cell_of_row _ _ _ _ _ _ r3]; rfl
      have f3 : w2.frozen? ⟨g2, 0, none⟩ = false := row_frozen r3 0
      simp [go_sem, c3, f3, bodyPostS, results, Tryz.results110, Exit.thenS]
      exact ⟨.returning, by cases c₀; simp_all, rfl, q1, q2, q3⟩
  | some a =>
    have hu : c₀.mode = .panicking [{ v := .iface 110 (.int .i64 a), recovered := false }] := hu
    rcases hl with rfl | rfl
    · simp [wpOpsS, go_sem, recoverD, hu, Tryz.ntmps110, Exit.thenS, k1]
      refine hov.mono ?_
      rintro e w2 ⟨rfl, hv2, hc2⟩
      obtain ⟨q1, q2, q3⟩ := fin w2 hv2 hc2
      have r3 : w2.heap[g2]? = some (.cells #[.int .i64 x] 3 (0, 0)) := by rw [hc2.block _ hlt (by simpa using hg2)]; exact r2
      have c3 : w2.cell? ⟨g2, 0, none⟩ = some (.int .i64 x) := by rw [cell_of_row _ _ _ _ _ _ r3]; rfl
      have f3 : w2.frozen? ⟨g2, 0, none⟩ = false := row_frozen r3 0
      simp [go_sem, c3, f3, bodyPostS, results, Tryz.results110, Exit.thenS]
      exact ⟨rfl, q1, q2, q3⟩
    · simp [wpOpsS, go_sem, recoverD, hu, Tryz.ntmps110, Exit.thenS, k1]
      refine hov.mono ?_
      rintro e w2 ⟨rfl, hv2, hc2⟩
      obtain ⟨q1, q2, q3⟩ := fin w2 hv2 hc2
      have r3 : w2.heap[g2]? = some (.cells #[.int .i64 x] 3 (0, 0)) := by rw [hc2.block _ hlt (by simpa using hg2)]; exact r2
      have c3 : w2.cell? ⟨g2, 0, none⟩ = some (.int .i64 x) := by rw [cell_of_row _ _ _ _ _ _ r3]; rfl
      have f3 : w2.frozen? ⟨g2, 0, none⟩ = false := row_frozen r3 0
      simp [go_sem, c3, f3, bodyPostS, results, Tryz.results110, Exit.thenS]
      exact ⟨rfl, q1, q2, q3⟩

end View
end Go.Proofs.YthojgahcpkdemaaGreat

namespace Go.Proofs.YthojgahcpkdemaaGreat
open Go.RowKit Go.Bas SorPlain Go.Sor IMap_ VIn VPlain MapI
namespace View

/-- how a program has ended -/
def Ran (A : Ask) (P : Nat → Prop) (bv bm : Nat) (R : (Int ⊕ M) × List Int) (e : Ending) (w : World) : Prop :=
  (∃ m, R.1 = .inr m ∧ e = .returned (.tuple #[]) ∧ VWs A P bv bm true R.2 m w) ∨
  (∃ a m, R.1 = .inl a ∧ e = .panicked [{ v := .iface 110 (.int .i64 a), recovered := false }] ∧ VWs A P bv bm true R.2 m w)

/-- what a program leaves: as Ran says; of what others have (Q) only C is changed; and Φ holds whatever else is changed -/
def Left (A : Ask) (P C Q : Nat → Prop) (bv bm : Nat) (R : (Int ⊕ M) × List Int) (Φ : World → Prop) (w : World) (e : Ending) (w' : World) : Prop :=
  ∃ N : Nat → Prop, (∀ k, N k → w.heap.size ≤ k) ∧ Ran A (fun k => Q k ∨ N k) bv bm R e w' ∧ Chg (fun k => ¬ Q k ∨ C k) w w' ∧ ∀ w3 : World, (∀ k, P k ∨ N k → w3.heap[k]? = w'.heap[k]?) → Φ w3
theorem Ran.less {A : Ask} {P Q : Nat → Prop} {bv bm : Nat} {R : (Int ⊕ M) × List Int} {e : Ending} {w : World} (h : Ran A P bv bm R e w) (hQ : ∀ k, Q k → P k) : Ran A Q bv bm R e w := by
  rcases h with ⟨m, h1, h2, h3⟩ | ⟨a, m, h1, h2, h3⟩
  · exact .inl ⟨m, h1, h2, h3.less hQ⟩
  · exact .inr ⟨a, m, h1, h2, h3.less hQ⟩
theorem Left.of_kept {A : Ask} {P Q : Nat → Prop} {bv bm : Nat} {R : (Int ⊕ M) × List Int} {w w' : World} {e : Ending} (h : Ran A Q bv bm R e w' ∧ Kept Q w w') : Left A P (fun _ => False) Q bv bm R (fun _ => True) w e w' :=
  ⟨fun _ => False, fun _ h => h.elim, h.1.less (fun k hk => hk.elim id False.elim), h.2.mono (fun k _ h => .inl h), fun _ _ => trivial⟩
/-- what run leaves -/
def RunOut (A : Ask) (P C : Nat → Prop) (bv bm : Nat) (R : (Int ⊕ M) × List Int) (Φ : World → Prop) (w : World) (e : Ending) (w' : World) : Prop :=
  ∃ N : Nat → Prop, (∀ k, N k → w.heap.size ≤ k) ∧ ((∃ m, R.1 = .inr m ∧ e = .returned (.int .i64 (-1)) ∧ VWs A (fun k => P k ∨ N k) bv bm false R.2 m w') ∨ (∃ a m, R.1 = .inl a ∧ e = .returned (.int .i64 a) ∧ VWs A (fun k => P k ∨ N k) bv bm false R.2 m w')) ∧
    Chg (fun k => ¬ P k ∨ C k) w w' ∧ ∀ w3 : World, (∀ k, P k ∨ N k → w3.heap[k]? = w'.heap[k]?) → Φ w3
theorem VWs.size {A : Ask} {P : Nat → Prop} {bv bm : Nat} {st : Bool} {qs : List Int} {m : M} {w : World} (h : VWs A P bv bm st qs m w) {k : Nat} (hk : P k) : k < w.heap.size := by
  obtain ⟨S, v, _, hP⟩ := h
  exact (hP k hk).1

set_option maxRecDepth 100000 in
set_option maxHeartbeats 2000000 in
theorem run_any {A : Ask} {P : Nat → Prop} {bv bm : Nat} {w : World} (h : VWs A P bv bm true [] [] w) (pf : FuncId) (pcap : Array Value) (R : (Int ⊕ M) × List Int)
    (hrun : ∀ args w, (callFunc pf args).run Tryz.prog w = .ok (.enter pf args) w)
    (C : Nat → Prop) (hC : ∀ k, C k → P k) (Φ : World → Prop)
    (hprog : ∀ Q w', (∀ k, P k → Q k) → Below w.heap.size w w' → VWs A Q bv bm true [] [] w' → Calls Tryz.prog pf (#[.pointer (some ⟨bv, 0, none⟩)] ++ pcap) w' (Left A P C Q bv bm R Φ w')) :
    Calls Tryz.prog 105 #[.pointer (some ⟨bv, 0, none⟩), .func (.func pf) #[] pcap] w (RunOut A P C bv bm R Φ w) := by
  have hmf : ∀ (fn : Fn) (first cap : Array Value) (w : World), (Instr.makeFunc fn first cap).run Tryz.prog w = .ok (.func fn first cap) w := fun _ _ _ _ => rfl
  obtain ⟨g, hg⟩ : ∃ g, w.heap.size = g := ⟨_, rfl⟩
  obtain ⟨w1, hw1⟩ : ∃ w1, (w.alloc (.cells #[.pointer (some ⟨bv, 0, none⟩)] 79)).alloc (.cells #[.int .i64 0] 3) = w1 := ⟨_, rfl⟩
  have s1 : w1.heap.size = g + 2 := by rw [← hw1, ← hg]; simp
  have b1 : Below g w w1 := by rw [← hw1, ← hg]; exact ((Below.refl _ _).alloc (Nat.le_refl _) _).alloc (by simp) _
  have r1 : Hid (w1.heap[g]? = some (.cells #[.pointer (some ⟨bv, 0, none⟩)] 79 (0, 0))) := by rw [← hw1, Hid, alloc_heap _ _ _ (by simp; omega), ← hg]; exact new_row _ _ _
  have r2 : Hid (w1.heap[g + 1]? = some (.cells #[.int .i64 0] 3 (0, 0))) := by
    rw [← hw1, Hid, show g + 1 = (w.alloc (.cells #[.pointer (some ⟨bv, 0, none⟩)] 79)).heap.size by rw [← hg]; simp]
    exact new_row _ _ _
  have HRG : Hid (¬ A.R (g + 1)) := by
    obtain ⟨S, v, h', _⟩ := id h
    exact fun hr => by have := A.rlt _ hr; have := h'.low.1; have := (Array.getElem?_eq_some_iff.1 h'.row).1; omega
  have hP : ∀ k, P k → k < g := fun k hk => by
    obtain ⟨S, v, _, hP⟩ := h
    have := (hP k hk).1; omega
  obtain ⟨Q, hQ⟩ : ∃ Q : Nat → Prop, Q = fun k => P k ∨ k = g ∨ k = g + 1 := ⟨_, rfl⟩
  have hv1 : VWs A Q bv bm true [] [] w1 := h.add (hg ▸ b1) (fun k hk => by
    rw [hQ] at hk
    rcases hk with hk | hk | hk
    · exact .inl hk
    · exact .inr ⟨by omega, by omega⟩
    · exact .inr ⟨by omega, by omega⟩)
  have hPQ : ∀ k, P k → Q k := fun k hk => by rw [hQ]; exact .inl hk
  have q1 : Q g := by rw [hQ]; exact .inr (.inl rfl)
  have q2 : Q (g + 1) := by rw [hQ]; exact .inr (.inr rfl)
  have hp := Lib.hid (hprog Q w1 hPQ (hg ▸ b1) hv1)
  have HC := Lib.hid hC
  have B1 := Lib.hid b1
  have HPQ := Lib.hid hPQ; have HP := Lib.hid hP
  have Q1 := Lib.hid q1; have Q2 := Lib.hid q2
  have kp : w1.cell? ⟨g, 0, none⟩ = some (.pointer (some ⟨bv, 0, none⟩)) := by rw [cell_of_row _ _ _ _ _ _ r1.out]; rfl
  clear hprog h hv1 hPQ b1 hP q1 q2 hQ hC
  go_enter_defers Tryz.func105, Tryz.ntmps105
  go_wp2
  refine hp.out.mono ?_
  rintro e w2 ⟨N, hN, ⟨m, hR, rfl, hv2⟩ | ⟨a, m, hR, rfl, hv2⟩, hc2, hΦ⟩
  · have HR := Lib.hid hR; have HV2 := Lib.hid hv2; have HC2 := Lib.hid hc2; have HN := Lib.hid hN; have HF := Lib.hid hΦ
    have nq : ∀ j, g ≤ j → Q j → ¬ (¬ Q j ∨ C j) := fun j hj hq h => by
      rcases h with h | h
      · exact h hq
      · have := HP.out j (HC.out j h); omega
    have r1' : Hid (w2.heap[g]? = some (.cells #[.pointer (some ⟨bv, 0, none⟩)] 79 (0, 0))) := by rw [Hid, hc2.block _ (by omega) (nq g (by omega) Q1.out)]; exact r1.out
    have r2' : Hid (w2.heap[g + 1]? = some (.cells #[.int .i64 0] 3 (0, 0))) := by rw [Hid, hc2.block _ (by omega) (nq (g + 1) (by omega) Q2.out)]; exact r2.out
    have c3 : w2.cell? ⟨g + 1, 0, none⟩ = some (.int .i64 0) := by rw [cell_of_row _ _ _ _ _ _ r2'.out]; rfl
    have f3 : w2.frozen? ⟨g + 1, 0, none⟩ = false := row_frozen r2'.out 0
    clear hR hv2 hc2 kp hN hΦ nq
    go_wp2
    refine leaves_cons (f := 110) (args := #[.pointer (some ⟨g, 0, none⟩), .pointer (some ⟨g + 1, 0, none⟩)]) (by simp) (by simp [go_sem]) ?_
    refine (defer_any (A := A) (P := fun k => Q k ∨ N k) (qs := R.2) (m := m) (x := -1) (HV2.out.cell (.inl Q2.out) HRG.out (Chg.setCell _ _ _ rfl)) (.inl Q1.out) (.inl Q2.out) HRG.out (by rw [heap_setCell_other _ _ _ _ (by simp)]; exact r1'.out) (by rw [setCell_row r2'.out]; exact setRow_same r2'.out) none).mono ?_
    rintro e u' w3 ⟨rfl, rfl, hv3, r3, hc3⟩
    have ng : ∀ k, P k ∨ N k → k ≠ g + 1 := fun k hk => by
      rcases hk with h | h
      · have := HP.out k h; omega
      · have := HN.out k h; omega
    have hq2 : Chg (fun k => ¬ P k ∨ C k) w1 w2 := HC2.out.mono (fun k _ h => h.elim (fun h => .inl fun hp => h (HPQ.out k hp)) .inr)
    have hc : Chg (fun k => ¬ P k ∨ C k) w w3 := by
      refine ((Chg.of_below (B := g) B1.out).mono (fun k hk h => .inl fun hp => by have := HP.out k hp; omega)).trans ?_
      refine (Chg.trans (hq2.trans (Chg.setCell _ _ _ (.inl fun hp => by have := HP.out _ hp; simp at this; omega))) (hc3.mono (fun k _ h => ?_)))
      rcases h with h | h
      · exact .inl fun hp => h (.inl (HPQ.out k hp))
      · exact .inl fun hp => by have := HP.out k hp; omega
    have hF : ∀ w4 : World, (∀ k, P k ∨ N k → w4.heap[k]? = w3.heap[k]?) → Φ w4 := fun w4 h4 => by
      refine HF.out w4 fun k hk => ?_
      have hkl : k < w2.heap.size := HV2.out.size (hk.elim (fun h => .inl (HPQ.out k h)) .inr)
      rw [h4 k hk, hc3.block k (by simpa [World.setCell] using hkl) (fun h => by
        rcases h with h | h
        · exact h (hk.elim (fun h => .inl (HPQ.out k h)) .inr)
        · exact ng k hk h), heap_setCell_other _ _ _ _ (fun e => ng k hk (by simpa using e))]
    have c3 : w3.cell? ⟨g + 1, 0, none⟩ = some (.int .i64 (-1)) := by rw [cell_of_row _ _ _ _ _ _ r3]; rfl
    have hl : VWs A (fun k => P k ∨ N k) bv bm false R.2 m w3 := hv3.less (fun k hk => hk.elim (fun h => .inl (HPQ.out k h)) .inr)
    have hnw : ∀ k, N k → w.heap.size ≤ k := fun k hk => by have := HN.out k hk; omega
    have fin : RunOut A P C bv bm R Φ w (.returned (.int .i64 (-1))) w3 := ⟨N, hnw, .inl ⟨m, HR.out, rfl, hl⟩, hc, hF⟩
    simp [Leaves, settle, results, Tryz.results105, go_sem, mode', c3]
    exact fin
  · have HR := Lib.hid hR; have HV2 := Lib.hid hv2; have HC2 := Lib.hid hc2; have HN := Lib.hid hN; have HF := Lib.hid hΦ
    have nq : ∀ j, g ≤ j → Q j → ¬ (¬ Q j ∨ C j) := fun j hj hq h => by
      rcases h with h | h
      · exact h hq
      · have := HP.out j (HC.out j h); omega
    have r1' : Hid (w2.heap[g]? = some (.cells #[.pointer (some ⟨bv, 0, none⟩)] 79 (0, 0))) := by rw [Hid, hc2.block _ (by omega) (nq g (by omega) Q1.out)]; exact r1.out
    have r2' : Hid (w2.heap[g + 1]? = some (.cells #[.int .i64 0] 3 (0, 0))) := by rw [Hid, hc2.block _ (by omega) (nq (g + 1) (by omega) Q2.out)]; exact r2.out
    clear hR hv2 hc2 kp hN hΦ nq
    go_wp2
    refine leaves_cons (f := 110) (args := #[.pointer (some ⟨g, 0, none⟩), .pointer (some ⟨g + 1, 0, none⟩)]) (by simp) (by simp [go_sem]) ?_
    refine (defer_any (A := A) (P := fun k => Q k ∨ N k) (qs := R.2) (m := m) (x := 0) HV2.out (.inl Q1.out) (.inl Q2.out) HRG.out r1'.out r2'.out (some a)).mono ?_
    rintro e u' w3 ⟨rfl, rfl, hv3, r3, hc3⟩
    have ng : ∀ k, P k ∨ N k → k ≠ g + 1 := fun k hk => by
      rcases hk with h | h
      · have := HP.out k h; omega
      · have := HN.out k h; omega
    have hq2 : Chg (fun k => ¬ P k ∨ C k) w1 w2 := HC2.out.mono (fun k _ h => h.elim (fun h => .inl fun hp => h (HPQ.out k hp)) .inr)
    have hc : Chg (fun k => ¬ P k ∨ C k) w w3 := by
      refine ((Chg.of_below (B := g) B1.out).mono (fun k hk h => .inl fun hp => by have := HP.out k hp; omega)).trans ?_
      refine (Chg.trans hq2 (hc3.mono (fun k _ h => ?_)))
      rcases h with h | h
      · exact .inl fun hp => h (.inl (HPQ.out k hp))
      · exact .inl fun hp => by have := HP.out k hp; omega
    have hF : ∀ w4 : World, (∀ k, P k ∨ N k → w4.heap[k]? = w3.heap[k]?) → Φ w4 := fun w4 h4 => by
      refine HF.out w4 fun k hk => ?_
      have hkl : k < w2.heap.size := HV2.out.size (hk.elim (fun h => .inl (HPQ.out k h)) .inr)
      rw [h4 k hk, hc3.block k hkl (fun h => by
        rcases h with h | h
        · exact h (hk.elim (fun h => .inl (HPQ.out k h)) .inr)
        · exact ng k hk h)]
    have c3 : w3.cell? ⟨g + 1, 0, none⟩ = some (.int .i64 a) := by rw [cell_of_row _ _ _ _ _ _ r3]; rfl
    have hl : VWs A (fun k => P k ∨ N k) bv bm false R.2 m w3 := hv3.less (fun k hk => hk.elim (fun h => .inl (HPQ.out k h)) .inr)
    have hnw : ∀ k, N k → w.heap.size ≤ k := fun k hk => by have := HN.out k hk; omega
    have fin : RunOut A P C bv bm R Φ w (.returned (.int .i64 (a))) w3 := ⟨N, hnw, .inr ⟨a, m, HR.out, rfl, hl⟩, hc, hF⟩
    simp [Leaves, settle, results, Tryz.results105, go_sem, mode', c3]
    exact fin

end View
end Go.Proofs.YthojgahcpkdemaaGreat

namespace Go.Bas
open Go.RowKit
/-- a block of one cell -/
def One (w : World) (c : Nat) (v : Value) (t : TypeId) : Prop := w.heap[c]? = some (.cells #[v] t (0, 0))
section
variable {w w' : World} {c : Nat} {v : Value} {t : TypeId}
theorem One.cell (h : One w c v t) : w.cell? ⟨c, 0, none⟩ = some v := cell_of_one h
theorem One.free (h : One w c v t) : w.frozen? ⟨c, 0, none⟩ = false := free_of_one h
theorem One.lt (h : One w c v t) : c < w.heap.size := lt_of_block h
theorem One.drewN (h : One w c v t) (n : Nat) : One (w.drewN n) c v t := h
theorem One.chg {S : Nat → Prop} (h : One w c v t) (hc : Chg S w w') (hs : ¬ S c) : One w' c v t := (hc.block c h.lt hs).trans h
theorem One.kept (h : One w c v t) (hk : w'.heap[c]? = w.heap[c]?) : One w' c v t := hk.trans h
theorem One.alloc (h : One w c v t) (o : Obj) : One (w.alloc o) c v t := h.kept (Below.heap_alloc _ _ _ h.lt)
theorem One.set (h : One w c v t) (u : Value) : One (w.setCell ⟨c, 0, none⟩ u) c u t := one_setCell h
theorem One.other (h : One w c v t) {a : Addr} (hne : c ≠ a.block) (u : Value) : One (w.setCell a u) c v t := h.kept (Below.heap_setCell _ _ _ _ hne)
theorem One.new (w : World) (v : Value) (t : TypeId) : One (w.alloc (.cells #[v] t)) w.heap.size v t := heap_alloc_new w _
end
end Go.Bas
namespace Go.Proofs.YthojgahcpkdemaaGreat
open Go.RowKit Go.Bas SorPlain Go.Sor IMap_ VIn VPlain MapI
namespace View

theorem infoPair : (Tryz.prog.info? 62).map (fun i => (i.zero, i.size, i.bytes)) = some (some (.agg #[.int .i64 0, .int .i64 0]), 2, 16) := by kernel_rfl

/-- a pair's slice is built -/
theorem run_pair1 (w : World) (x0 x1 : Value) : (Instr.buildSlice 53 1 #[(0, .agg #[x0, x1])]).run Tryz.prog w = .ok (.slice (some ⟨w.heap.size, 0, none⟩) 1 1) (w.alloc (.cells #[x0, x1] 62)) := by
  have hinfo : (Tryz.prog.info? 62).map (fun i => (i.zero, i.size)) = some (some (.agg #[.int .i64 0, .int .i64 0]), 2) := by kernel_rfl
  obtain ⟨i, hi, hzz⟩ := Option.map_eq_some_iff.1 hinfo
  simp only [Prod.mk.injEq] at hzz
  obtain ⟨hz, hs⟩ := hzz
  refine run_buildSlice w _ 62 1 _ #[x0, x1] i _ Tryz.underlying53 hi hz (by rw [hs]; decide) (by rw [hs]; decide) ?_
  rw [hs]
  kernel_rfl
theorem wpList_pair1 {ops : Array Oper} {rest : List Oper} {o : Oper} {a : Act} {w : World} {Q : Exit → Act → World → Prop} (hg : o.guard = none) (p0 : Operand) (ho : o.op = .buildSlice 53 1 #[(0, p0)])
    (x0 x1 : Value) (h0 : a.eval p0 = .agg #[x0, x1])
    (h : wpList Tryz.prog ops Q rest (a.put o.dst (.slice (some ⟨w.heap.size, 0, none⟩) 1 1)) (w.alloc (.cells #[x0, x1] 62))) : wpList Tryz.prog ops Q (o :: rest) a w :=
  wpList_plain hg fun K hK => by
    have e : ((#[(0, p0)] : Array (Nat × Operand)).map fun (i, x) => (i, a.eval x)) = #[(0, .agg #[x0, x1])] := by simp [h0]
    unfold Oper.wp execOp
    simp only [ho, Sem.run_bind, e, run_pair1, Result.andThen_ok]
    exact hK _ _ h

theorem flat_snoc (ks : M) (k x : Int) : flat (vals (ks ++ [(k, x)])) = flat (vals ks) ++ [.int .i64 k, .int .i64 x] := by
  simp [vals, flat]

/-- the list that is gathered, in the captured variable c -/
def Gath (w0 w : World) (c : Nat) (ks : M) : Prop :=
  ∃ A cap, One w c (.slice A ks.length cap) 53 ∧ w.ownsRow (c + 1) 62 2 (.slice A ks.length cap) ks.length (flat (vals ks)) ∧ Below c w0 w ∧ c < w.heap.size

set_option maxHeartbeats 400000 in
theorem callback {w0 w : World} {c : Nat} {ks : M} (h : Gath w0 w c ks) (hn : ks.length ≤ 1000) (k x : Int) :
    Calls Tryz.prog 113 #[.int .i64 k, .int .i64 x, .pointer (some ⟨c, 0, none⟩)] w fun e w' => e = .returned (.bool true) ∧ Gath w0 w' c (ks ++ [(k, x)]) := by
  obtain ⟨i0, hi0, hz0, hz1, hz2⟩ := info_parts infoPair
  obtain ⟨A, cap, ho, hr, hb, hlt⟩ := h
  have g := ho.cell
  have HO := Lib.hid ho; have HR := Lib.hid hr; have HB := Lib.hid hb
  obtain ⟨n, hnn⟩ : ∃ n, ks.length = n := ⟨_, rfl⟩
  have HN := Lib.hid hnn
  rw [hnn] at g hn HR HO
  have hsz : c + 1 ≤ w.heap.size := hlt
  clear hr hb ho hnn hlt
  go_enter Tryz.func113, Tryz.ntmps113
  go_wp2_with (first | (refine wpList_pair1 rfl _ rfl _ _ rfl ?_) | (at_builtin; refine wpList_append_any rfl _ _ 53 rfl (c + 1) 62 i0 (.agg #[.int .i64 0, .int .i64 0]) 2 16 Tryz.underlying53 hi0 hz0 hz1 hz2 rfl (by decide) (.slice A n cap) n (flat (vals ks)) rfl (HR.out.alloc _) (some ⟨w.heap.size, 0, none⟩) 1 1 [.int .i64 k, .int .i64 x] rfl rfl ?c1 ?c2 ?c3 ?c4 ?c5 ?c6))
  case c1 => exact fun _ => ⟨_, rfl, new_cells _ _ _⟩
  case c2 => simp [Value.oneCell']
  case c3 => unfold maxLen; omega
  case c4 => omega
  case c5 => simp; omega
  case c6 =>
  intro v1 w1 hown1 hg1 hb1
  have h1 : One w1 c (.slice A n cap) 53 := by
    refine HO.out.kept ?_
    rw [hg1.block c (by simp; omega) (fun e => by have := (HR.out.lt c e.symm).1; omega)]
    exact Below.heap_alloc _ _ _ (by omega)
  obtain ⟨A1, c1, hv1⟩ := own_slice hown1
  rw [hv1] at hown1
  have fin : Hid (Gath w0 (w1.setCell ⟨c, 0, none⟩ (.slice A1 (n + 1) c1)) c (ks ++ [(k, x)])) := by
    refine ⟨A1, c1, ?_, ?_, ?_, ?_⟩
    · rw [show (ks ++ [(k, x)]).length = n + 1 by simp [HN.out]]; exact h1.set _
    · rw [show (ks ++ [(k, x)]).length = n + 1 by simp [HN.out], flat_snoc]
      exact ownsRow_setCell_other hown1 (fun e => by have h5 : c + 1 ≤ c := (hown1.lt _ e).1; omega) _
    · refine Below.setCell (p := ⟨c, 0, none⟩) ?_ (Nat.le_refl c) _
      exact (HB.out.alloc (by omega) _).grown hg1 (by simp; omega) (fun k hk => by have := (HR.out.lt k hk).1; omega)
    · have := hg1.size; simp [World.setCell] at this ⊢; omega
  have g1 := h1.cell; have f1 := h1.free
  rw [hv1]
  clear hown1 hg1 hb1 hv1 h1
  go_wp2
  go_ret
  exact ⟨rfl, fin.out⟩

end View
end Go.Proofs.YthojgahcpkdemaaGreat

namespace Go.Proofs.YthojgahcpkdemaaGreat
open Go.RowKit Go.Bas SorPlain Go.Sor IMap_ VIn VPlain MapI
namespace View

/-- pairs in a row of the call's own -/
def Told (w : World) (base : Nat) (m : M) (v : Value) : Prop := ∃ A cap, v = .slice A m.length cap ∧ w.ownsRow base 62 2 v m.length (flat (vals m))

theorem flat_at (m : M) (i : Nat) (h : i < m.length) : (flat (vals m))[i * 2]? = some (.int .i64 m[i].1) ∧ (flat (vals m))[i * 2 + 1]? = some (.int .i64 m[i].2) := by
  have h' : i < (vals m).length := by rw [vals_length]; exact h
  refine ⟨?_, ?_⟩
  · rw [flat_key _ _ h']
    have : (vals m).map (·.1) = m.map (·.1) := by simp [vals]
    rw [this]; simp [h]
  · rw [flat_val _ _ h']
    have : (vals m).map (·.2) = (m.map (·.2)).map (Value.int .i64) := by simp [vals]
    rw [this]; simp [h]
theorem Told.low {w : World} {base base' : Nat} {m : M} {v : Value} (h : Told w base m v) (hb : base' ≤ base) : Told w base' m v := by
  obtain ⟨A, cap, rfl, hl, hr⟩ := h
  refine ⟨A, cap, rfl, hl, ?_⟩
  rcases hr with h | ⟨g, cp, cur, hv, hg, r⟩
  · exact .inl h
  · exact .inr ⟨g, cp, cur, hv, by omega, r⟩
theorem Told.block {w : World} {base : Nat} {m : M} {v : Value} (h : Told w base m v) {k : Nat} (e : v.ownBlock = some k) : base ≤ k := by
  obtain ⟨A, cap, rfl, hl, hr⟩ := h
  rcases hr with ⟨h, _⟩ | ⟨g, cp, cur, hv, hg, r⟩
  · rw [h] at e; simp [Value.ownBlock] at e
  · rw [hv] at e; simp [Value.ownBlock] at e; omega
theorem Told.pairs {w : World} {base : Nat} {m : M} {v : Value} (h : Told w base m v) : Pairs w w.heap.size v m := by
  obtain ⟨A, cap, rfl, hl, hr⟩ := h
  rcases hr with ⟨hv, hn⟩ | ⟨g, cp, cur, hv, hg, hh, hc, hcm, hcs, ht⟩
  · exact ⟨A, cap, rfl, by omega, fun h => by omega⟩
  · simp only [Value.slice.injEq] at hv
    obtain ⟨rfl, _, rfl⟩ := hv
    refine ⟨_, cap, rfl, by omega, fun _ => ⟨g, 0, rfl, (Array.getElem?_eq_some_iff.1 hh).1, fun i hi => ?_⟩⟩
    obtain ⟨h1, h2⟩ := flat_at m i hi
    exact ⟨by rw [Nat.zero_add]; exact row_cell hh ht h1, by rw [Nat.zero_add]; exact row_cell hh ht h2⟩

set_option maxHeartbeats 1000000 in
theorem pairs_any {w : World} {b : Nat} {v : Value} {m : M} (h : IsMap TM TE w b v (vals m)) (hn : m.length ≤ 1000) :
    Calls Tryz.prog 106 #[.pointer (some ⟨b, 0, none⟩)] w fun e w' => ∃ r, e = .returned r ∧ Told w' w.heap.size m r ∧ Below w.heap.size w w' := by
  have H := Lib.hid h
  have ce := each_any (b := b) (xs := vals m) 113 #[.pointer (some ⟨w.heap.size, 0, none⟩)] (fun i w' => Gath w w' w.heap.size (m.take i)) (fun w' => Gath w w' w.heap.size m) (by rw [vals_length]; omega)
    (callFunc_run Tryz.func113 (by kernel_rfl) (by kernel_rfl))
    (fun i w' hg => by
      obtain ⟨A, cap, _, _, hb, _⟩ := hg
      exact ⟨v, h.kept fun k hk => hb.block k (h.lt k hk)⟩)
    (fun i w' n hg => by
      obtain ⟨A, cap, h1, h2, hb, h4⟩ := hg
      exact ⟨A, cap, h1, h2, hb.trans (drewN_below _ _ _), h4⟩)
    (fun i hi w' hg => by
      have hi' : i < m.length := by rw [vals_length] at hi; exact hi
      have e : m.take (i + 1) = m.take i ++ [(m[i].1, m[i].2)] := List.take_succ_eq_append_getElem hi'
      have k1 : (keys (vals m)).getD i 0 = m[i].1 := by rw [keys_vals]; simp [keys, hi']
      have k2 : ((vals m).map (·.2)).getD i undef = .int .i64 m[i].2 := by
        have : (vals m).map (·.2) = (m.map (·.2)).map (Value.int .i64) := by simp [vals]
        rw [this]; simp [hi']
      have := callback hg (by simp; omega) m[i].1 m[i].2
      rw [k1, k2]
      exact this.mono fun e' w'' ⟨he, hg'⟩ => ⟨true, he, fun _ => by rw [e]; exact hg', fun h => by cases h⟩)
    (fun w' hg => by rw [List.take_of_length_le (by rw [vals_length]; exact Nat.le_refl _)] at hg; exact hg)
    (w.alloc (.cells #[.slice none 0 0] 53))
    ⟨none, 0, One.new _ _ _, by simpa [vals, flat] using World.ownsRow_nil _ _ _ _, (Below.refl _ _).alloc (Nat.le_refl _) _, by simp⟩
  clear h
  go_enter Tryz.func106, Tryz.ntmps106
  go_wp2_with fail
  go_at_call 112
  refine ce.mono ?_
  rintro e w1 ⟨rfl, A, cap, h1, h2, hb, h4⟩
  have g := h1.cell
  have fin : Hid (Told w1 w.heap.size m (.slice A m.length cap) ∧ Below w.heap.size w w1) := by
    refine ⟨⟨A, cap, rfl, ?_⟩, hb⟩
    obtain ⟨k1, k2⟩ := h2
    refine ⟨k1, ?_⟩
    rcases k2 with k2 | ⟨g, cp, cur, e, hl, r⟩
    · exact .inl k2
    · exact .inr ⟨g, cp, cur, e, by omega, r⟩
  clear h1 h2 hb h4 ce
  go_wp2
  go_ret
  exact ⟨_, rfl, fin.out⟩

/-- what all leaves -/
def AllOut (A : Ask) (P C : Nat → Prop) (R : (Int ⊕ M) × List Int) (Φ : World → Prop) (w : World) (e : Ending) (w' : World) : Prop :=
  (∃ m r, R.1 = .inr m ∧ e = .returned (.tuple #[.int .i64 (-1), r]) ∧ Told w' w.heap.size m r ∧ (∃ S', A.I R.2 S' w' ∧ ∀ k, S' k → ¬ P k ∧ r.ownBlock ≠ some k) ∧ Chg (fun k => ¬ P k ∨ C k) w w' ∧ PIn m ∧ ∀ w3 : World, (∀ k, k < w'.heap.size → w3.heap[k]? = w'.heap[k]?) → Φ w3) ∨
  (∃ a, R.1 = .inl a ∧ e = .returned (.tuple #[.int .i64 a, .slice none 0 0]) ∧ (∃ S', A.I R.2 S' w' ∧ ∀ k, S' k → ¬ P k) ∧ Chg (fun k => ¬ P k ∨ C k) w w' ∧ ∀ w3 : World, (∀ k, k < w'.heap.size → w3.heap[k]? = w'.heap[k]?) → Φ w3)

set_option maxRecDepth 100000 in
set_option maxHeartbeats 4000000 in
theorem all_any {A : Ask} {P : Nat → Prop} {w : World} {S : Nat → Prop} (hI : A.I [] S w) (hP : ∀ k, P k → k < w.heap.size ∧ ¬ S k) (hB : A.B ≤ w.heap.size) (pf : FuncId) (pcap : Array Value) (R : (Int ⊕ M) × List Int)
    (hrun : ∀ args w, (callFunc pf args).run Tryz.prog w = .ok (.enter pf args) w)
    (C : Nat → Prop) (hC : ∀ k, C k → P k) (Φ : World → Prop)
    (hprog : ∀ bv bm Q w', (∀ k, P k → Q k) → Below w.heap.size w w' → VWs A Q bv bm true [] [] w' → Calls Tryz.prog pf (#[.pointer (some ⟨bv, 0, none⟩)] ++ pcap) w' (Left A P C Q bv bm R Φ w'))
    (hm : ∀ m, R.1 = .inr m → m.length ≤ 1000) (ha : ∀ a, R.1 = .inl a → 0 ≤ a) :
    Calls Tryz.prog 96 #[.func (.func A.fn) A.first A.cap, .func (.func pf) #[] pcap] w (AllOut A P C R Φ w) := by
  obtain ⟨g, hg⟩ : ∃ g, w.heap.size = g := ⟨_, rfl⟩
  obtain ⟨w1, hw1⟩ : ∃ w1, w.alloc (.cells #[.slice none 0 0] 124) = w1 := ⟨_, rfl⟩
  have s1 : w1.heap.size = g + 1 := by rw [← hw1, ← hg]; simp
  have NW := new_any w
  rw [hw1, hg] at NW
  obtain ⟨w2, hw2⟩ : ∃ w2, w1.alloc (.cells #[.func (.func A.fn) A.first A.cap, .pointer (some ⟨g, 0, none⟩), .bool true] 104) = w2 := ⟨_, rfl⟩
  have s2 : w2.heap.size = g + 2 := by rw [← hw2]; simp; omega
  have b2 : Below g w w2 := by rw [← hw2, ← hw1, ← hg]; exact ((Below.refl _ _).alloc (Nat.le_refl _) _).alloc (by simp) _
  have hlt := A.lt _ _ _ hI
  have hv : VWs A P (g + 1) g true [] [] w2 := by
    have im := isMap_new 124 121 w
    rw [hw1, hg] at im
    have hfp : ∀ k, fp g (.slice none 0 0) k → k = g := fun k hk => by
      rcases hk with rfl | hk
      · rfl
      · simp [Value.ownBlock] at hk
    refine ⟨S, .slice none 0 0, ⟨A.keep _ _ _ _ _ hI (Chg.of_below (hg ▸ b2)) (fun k hk => ?_) (fun k hk hr => by have := A.rlt k hr; omega), ?_, ?_, ?_, ?_, ⟨by omega, ?_⟩, ?_⟩, fun k hk => ?_⟩
    · have := (hlt k hk).2; omega
    · rw [← hw2, ← s1]; exact new_row _ _ _
    · refine im.kept fun k hk => ?_
      rw [hfp k hk, ← hw2, alloc_heap _ _ _ (by omega)]
    · intro k hk
      have := (hlt k hk).2
      exact ⟨fun hf => by rw [hfp k hf] at this; omega, by omega⟩
    · intro hf; have := hfp _ hf; omega
    · intro k hk; rw [hfp k hk]; omega
    · intro p hp; simp at hp
    · obtain ⟨p1, p2⟩ := hP k hk
      exact ⟨by omega, p2, fun hf => by rw [hfp k hf] at p1; omega, by omega⟩
  have RN := run_any hv pf pcap R hrun C hC Φ (fun Q w' hQ hb hv' => hprog (g + 1) g Q w' hQ (hg ▸ b2.trans (hb.mono (by omega))) hv')
  have RNH := Lib.hid RN
  have B2 : Hid (Chg (fun k => ¬ P k ∨ C k) w w2) := (Chg.of_below b2).mono (fun k _ h => .inl fun hp => by have := (hP k hp).1; omega)
  have HM := Lib.hid hm; have HA := Lib.hid ha
  have HP := Lib.hid hP
  clear hprog hv RN b2 hm ha hI hP
  obtain ⟨af, haf⟩ : ∃ f, A.fn = f := ⟨_, rfl⟩
  obtain ⟨ac, hac⟩ : ∃ c, A.cap = c := ⟨_, rfl⟩
  obtain ⟨a0, ha0⟩ : ∃ c, A.first = c := ⟨_, rfl⟩
  rw [haf, hac, ha0] at hw2 ⊢
  clear haf hac ha0
  go_enter Tryz.func96, Tryz.ntmps96
  go_wp2_with (first
    | (go_at_call 104; refine NW.mono ?_; rintro e w' ⟨rfl, rfl⟩))
  refine RNH.out.mono ?_
  rintro e w3 ⟨N, hN, (⟨m, hR, rfl, hv3⟩ | ⟨a, m, hR, rfl, hv3⟩), hk3, hF3⟩
  · have HSZ : Hid (∀ k, P k ∨ N k → k < w3.heap.size) := fun k hk => hv3.size hk
    obtain ⟨S', v', hv3, hP3⟩ := hv3
    have k1 : w3.cell? ⟨g + 1, 1, none⟩ = some (.pointer (some ⟨g, 0, none⟩)) := by rw [cell_of_row _ _ _ _ _ _ hv3.row]; rfl
    have PA := Lib.hid (pairs_any hv3.map (HM.out m hR))
    have hlt' := A.lt _ _ _ hv3.inv
    have hbv : g + 1 < w3.heap.size := (Array.getElem?_eq_some_iff.1 hv3.row).1
    have HV := Lib.hid hv3; have HP3 := Lib.hid hP3; have HR := Lib.hid hR; have HK := Lib.hid hk3; have HL := Lib.hid hlt'; have HF := Lib.hid hF3
    clear hv3 hP3 hR hk3 hlt' hF3 hN
    go_wp2_with (first
      | (go_at_call 106; refine PA.out.mono ?_; rintro e w4 ⟨r, rfl, ht4, hb4⟩))
    have hb4 := hb4; have ht4 := ht4
    go_ret2
    refine .inl ⟨m, r, HR.out, rfl, ht4.low (by omega), ⟨S', A.keep _ _ _ _ _ HV.out.inv (Chg.of_below hb4) (fun k hk => by have := (HL.out k hk).2; omega) (fun k hk hr => by have := A.rlt k hr; have := HV.out.low.1; omega), fun k hk => ⟨fun hp => (HP3.out k (.inl hp)).2.1 hk, fun e => ?_⟩⟩, (B2.out.trans HK.out).trans ((Chg.of_below hb4).mono (fun k _ h => .inl fun hp => by have := (HP3.out k (.inl hp)).1; omega)), HV.out.rng, fun w5 h5 => HF.out w5 fun k hk => ?_⟩
    · have h1 := ht4.block e
      have h2 := (HL.out k hk).2
      omega
    · have := HSZ.out k hk
      rw [h5 k (by have := hb4.size; omega), hb4.block k this]
  · have HR := Lib.hid hR; have HK := Lib.hid hk3; have HV := Lib.hid hv3; have HF := Lib.hid hF3
    have hane : ¬ a = -1 := by have := HA.out a hR; omega
    clear hR hk3 hv3 hF3 hN
    go_wp2
    go_ret2
    have HSZ : ∀ k, P k ∨ N k → k < w3.heap.size := fun k hk => HV.out.size hk
    obtain ⟨S', v', hv3, hP3⟩ := HV.out
    exact .inr ⟨a, HR.out, rfl, ⟨S', hv3.inv, fun k hk hp => (hP3 k (.inl hp)).2.1 hk⟩, B2.out.trans HK.out, fun w5 h5 => HF.out w5 fun k hk => h5 k (HSZ k hk)⟩

end View
end Go.Proofs.YthojgahcpkdemaaGreat

/- pairs and words in memory -/
namespace Go.Proofs.YthojgahcpkdemaaGreat
open Go.RowKit Go.Bas SorPlain Go.Sor IMap_ VIn VPlain MapI
open Go.WideShapes Go.Deep Go.ChangeShapes
namespace View

theorem wpList_mapset {ops : Array Oper} {rest : List Oper} {o : Oper} {a : Act} {w : World} {Q : Exit → Act → World → Prop} (hg : o.guard = none) (m x v : Operand) (ho : o.op = .mapUpdate 125 m x v)
    (b n : Nat) (f : Int → Option Int) (hm : a.eval m = .map (some b)) (h : IMap w b n f) (hn : n < 1000000) (k z : Int) (hx : a.eval x = .int .i64 k) (hv : a.eval v = .int .i64 z) (hk : In64 k) (hz : In64 z)
    (hK : ∀ w', IMap w' b (n + 1) (fun y => if y = k then some z else f y) → w.grownBy w' (some b) → wpList Tryz.prog ops Q rest (a.put o.dst undef) w') : wpList Tryz.prog ops Q (o :: rest) a w := by
  refine wpList_plain hg fun K hK' => ?_
  obtain ⟨w', hrun, r1, r2⟩ := h.set hn hk hz
  unfold Oper.wp
  simp [execOp, ho, hm, hx, hv, hrun, Result.andThen]
  exact hK' _ _ (hK w' r1 r2)

theorem pair_row {w : World} {B : Nat} {A : Option Addr} {n cp : Nat} {ps : List (Int × Int)} (h : Pairs w B (.slice A n cp) ps) : n = ps.length ∧ ∀ k (hk : k < ps.length), ∃ b off, A = some ⟨b, off, none⟩ ∧ b < B ∧ w.rangeAt b (off + k * 2) [.int .i64 ps[k].1, .int .i64 ps[k].2] := by
  obtain ⟨A', c', e, hm, hc⟩ := h
  simp at e
  obtain ⟨rfl, rfl, rfl⟩ := e
  refine ⟨rfl, fun k hk => ?_⟩
  obtain ⟨b, off, rfl, hlt, hc⟩ := hc (by omega)
  refine ⟨b, off, rfl, hlt, ?_⟩
  rintro (_ | _ | j) v hv <;> simp at hv <;> subst hv
  · exact (hc k hk).1
  · exact (hc k hk).2
theorem pair_size : (Tryz.prog.info? 62).map (·.size) = some 2 := by kernel_rfl

theorem Told.kept {w w' : World} {base : Nat} {m : M} {v : Value} (h : Told w base m v) (hk : ∀ k, v.ownBlock = some k → w'.heap[k]? = w.heap[k]?) : Told w' base m v := by
  obtain ⟨A, cap, rfl, hl, hr⟩ := h
  refine ⟨A, cap, rfl, hl, ?_⟩
  rcases hr with h | ⟨g, cp, cur, hv, hg, hh, r⟩
  · exact .inl h
  · exact .inr ⟨g, cp, cur, hv, hg, (hk g (by rw [hv]; rfl)).trans hh, r⟩
theorem Told.own_lt {w : World} {base : Nat} {m : M} {v : Value} (h : Told w base m v) {k : Nat} (e : v.ownBlock = some k) : k < w.heap.size := by
  obtain ⟨A, cap, rfl, hl, hr⟩ := h
  rcases hr with ⟨h, _⟩ | ⟨g, cp, cur, hv, hg, hh, r⟩
  · rw [h] at e; simp [Value.ownBlock] at e
  · rw [hv] at e; simp [Value.ownBlock] at e; subst e; exact (Array.getElem?_eq_some_iff.1 hh).1
theorem no_pairs (w : World) (B : Nat) : Pairs w B (.slice none 0 0) [] := ⟨none, 0, rfl, Nat.zero_le _, fun h => absurd h (by simp)⟩
/-- ints in memory, below block B -/
def Words (w : World) (B : Nat) (s : Value) (l : List Int) : Prop :=
  ∃ (A : Option Addr) (c : Nat), s = .slice A l.length c ∧ l.length ≤ maxLen ∧
    (0 < l.length → ∃ b off, A = some ⟨b, off, none⟩ ∧ b < B ∧ ∀ i (h : i < l.length), w.cell? ⟨b, off + i, none⟩ = some (.int .i64 l[i]))
theorem Words.keep {w w' : World} {B : Nat} {s : Value} {l : List Int} (h : Words w B s l) (hb : ∀ k, k < B → k < w.heap.size → w'.heap[k]? = w.heap[k]?) : Words w' B s l := by
  obtain ⟨A, c, rfl, hm, hc⟩ := h
  refine ⟨A, c, rfl, hm, fun hn => ?_⟩
  obtain ⟨b, off, rfl, hlt, hc⟩ := hc hn
  refine ⟨b, off, rfl, hlt, fun i hi => ?_⟩
  have h0 := hc i hi
  have := World.block_lt_of_cell? w _ h0
  rw [← h0]
  simp [World.cell?, hb b hlt this]
/-- a slice's block -/
def blk (s : Value) (k : Nat) : Prop := ∃ b off n c, s = .slice (some ⟨b, off, none⟩) n c ∧ k = b
theorem Words.keep1 {w w' : World} {B : Nat} {s : Value} {l : List Int} (h : Words w B s l) (hb : ∀ k, blk s k → k < B → k < w.heap.size → w'.heap[k]? = w.heap[k]?) : Words w' B s l := by
  obtain ⟨A, c, rfl, hm, hc⟩ := h
  refine ⟨A, c, rfl, hm, fun hn => ?_⟩
  obtain ⟨b, off, rfl, hlt, hc⟩ := hc hn
  refine ⟨b, off, rfl, hlt, fun i hi => ?_⟩
  have h0 := hc i hi
  have := World.block_lt_of_cell? w _ h0
  rw [← h0]
  simp [World.cell?, hb b ⟨b, off, _, _, rfl, rfl⟩ hlt this]
theorem Words.below {w w' : World} {B : Nat} {s : Value} {l : List Int} (h : Words w B s l) (hb : Below B w w') : Words w' B s l := h.keep fun k hk _ => hb.block k hk
theorem Words.mono {w : World} {B C : Nat} {s : Value} {l : List Int} (h : Words w B s l) (hb : B ≤ C) : Words w C s l := by
  obtain ⟨A, c, rfl, hm, hc⟩ := h
  refine ⟨A, c, rfl, hm, fun hn => ?_⟩
  obtain ⟨b, off, rfl, hlt, hc⟩ := hc hn
  exact ⟨b, off, rfl, by omega, hc⟩
def WIn (l : List Int) : Prop := ∀ p ∈ l, In64 p
theorem word_row {w : World} {B : Nat} {A : Option Addr} {n c : Nat} {l : List Int} (h : Words w B (.slice A n c) l) {k : Nat} (hk : k < l.length) : ∃ b off, A = some ⟨b, off, none⟩ ∧ b < B ∧ w.cell? ⟨b, off + k, none⟩ = some (.int .i64 l[k]) := by
  obtain ⟨A', c', e, hm, hc⟩ := h
  simp at e
  obtain ⟨rfl, rfl, rfl⟩ := e
  obtain ⟨b, off, rfl, hlt, hc⟩ := hc (by omega)
  exact ⟨b, off, rfl, hlt, hc k hk⟩

/-- words in a row of the call's own -/
def TW (w : World) (base : Nat) (l : List Int) (v : Value) : Prop := ∃ A cap, v = .slice A l.length cap ∧ w.ownsRow base 3 1 v l.length (l.map (Value.int .i64))
theorem TW.low {w : World} {base base' : Nat} {m : List Int} {v : Value} (h : TW w base m v) (hb : base' ≤ base) : TW w base' m v := by
  obtain ⟨A, cap, rfl, hl, hr⟩ := h
  refine ⟨A, cap, rfl, hl, ?_⟩
  rcases hr with h | ⟨g, cp, cur, hv, hg, r⟩
  · exact .inl h
  · exact .inr ⟨g, cp, cur, hv, by omega, r⟩
theorem TW.block {w : World} {base : Nat} {m : List Int} {v : Value} (h : TW w base m v) {k : Nat} (e : v.ownBlock = some k) : base ≤ k := by
  obtain ⟨A, cap, rfl, hl, hr⟩ := h
  rcases hr with ⟨h, _⟩ | ⟨g, cp, cur, hv, hg, r⟩
  · rw [h] at e; simp [Value.ownBlock] at e
  · rw [hv] at e; simp [Value.ownBlock] at e; omega
theorem TW.kept {w w' : World} {base : Nat} {m : List Int} {v : Value} (h : TW w base m v) (hk : ∀ k, v.ownBlock = some k → w'.heap[k]? = w.heap[k]?) : TW w' base m v := by
  obtain ⟨A, cap, rfl, hl, hr⟩ := h
  refine ⟨A, cap, rfl, hl, ?_⟩
  rcases hr with h | ⟨g, cp, cur, hv, hg, hh, r⟩
  · exact .inl h
  · exact .inr ⟨g, cp, cur, hv, hg, (hk g (by rw [hv]; rfl)).trans hh, r⟩
theorem TW.own_lt {w : World} {base : Nat} {m : List Int} {v : Value} (h : TW w base m v) {k : Nat} (e : v.ownBlock = some k) : k < w.heap.size := by
  obtain ⟨A, cap, rfl, hl, hr⟩ := h
  rcases hr with ⟨h, _⟩ | ⟨g, cp, cur, hv, hg, hh, r⟩
  · rw [h] at e; simp [Value.ownBlock] at e
  · rw [hv] at e; simp [Value.ownBlock] at e; subst e; exact (Array.getElem?_eq_some_iff.1 hh).1
theorem TW.words {w : World} {base : Nat} {m : List Int} {v : Value} (h : TW w base m v) : Words w w.heap.size v m := by
  obtain ⟨A, cap, rfl, hl, hr⟩ := h
  rcases hr with ⟨hv, hn⟩ | ⟨g, cp, cur, hv, hg, hh, hc, hcm, hcs, ht⟩
  · exact ⟨A, cap, rfl, by omega, fun h => by omega⟩
  · simp only [Value.slice.injEq] at hv
    obtain ⟨rfl, _, rfl⟩ := hv
    refine ⟨_, cap, rfl, by omega, fun _ => ⟨g, 0, rfl, (Array.getElem?_eq_some_iff.1 hh).1, fun i hi => ?_⟩⟩
    rw [Nat.zero_add]
    exact row_cell hh ht (by simp [hi])
theorem TW.made (w : World) : TW (w.alloc (.cells #[] 3)) w.heap.size [] (.slice (some ⟨w.heap.size, 0, none⟩) 0 0) :=
  ⟨some ⟨w.heap.size, 0, none⟩, 0, rfl, by simpa using World.ownsRow_made w #[] 0 (Nat.le_refl _) (Nat.zero_le _) rfl⟩

theorem infoInt : (Tryz.prog.info? 3).map (fun i => (i.zero, i.size, i.bytes)) = some (some (.int .i64 0), 1, 8) := by kernel_rfl
theorem wpList_addwords {ops : Array Oper} {rest : List Oper} {o : Oper} {a : Act} {w : World} {Q : Exit → Act → World → Prop} (hgd : o.guard = none) (s x : Operand)
    (ho : o.op = .call { callee := .builtin .append, args := #[s, x], argTypes := #[25, 25] })
    (base : Nat) (out : List Int) (v : Value) (hs : a.eval s = v) (h : TW w base out v) (hn : out.length ≤ 10000) (hb : base ≤ w.heap.size) (B : Nat) (l : List Int) (A2 : Option Addr) (n2 c2 : Nat) (hx : a.eval x = .slice A2 n2 c2) (hl : Words w B (.slice A2 n2 c2) l) (hln : n2 ≤ 10000)
    (H : ∀ v' w', TW w' base (out ++ l) v' → w.grownBy w' v.ownBlock → (v'.ownBlock = v.ownBlock ∨ v'.ownBlock = some w.heap.size) → wpList Tryz.prog ops Q rest (a.put o.dst v') w') : wpList Tryz.prog ops Q (o :: rest) a w := by
  obtain ⟨i0, hi0, hz0, hz1, hz2⟩ := info_parts infoInt
  obtain ⟨A, cap, rfl, hown⟩ := h
  obtain ⟨A', c', e, hm, hc⟩ := hl
  simp only [Value.slice.injEq] at e
  obtain ⟨rfl, rfl, rfl⟩ := e
  refine wpList_append_any hgd s x 25 ho base 3 i0 (.int .i64 0) 1 8 Tryz.underlying25 hi0 hz0 hz1 hz2 rfl (by decide) _ out.length (out.map (Value.int .i64)) hs hown A2 l.length c2 (l.map (Value.int .i64)) hx (by simp) ?_ ?_ ?_ ?_ hb ?_
  · intro h0
    obtain ⟨b, off, rfl, hlt, hc⟩ := hc h0
    refine ⟨_, rfl, fun j u hj => ?_⟩
    have hjl : j < l.length := by
      have := (List.getElem?_eq_some_iff.1 hj).1
      simpa using this
    have hadd : (⟨b, off, none⟩ : Addr).add j = ⟨b, off + j, none⟩ := by unfold Addr.add; split <;> simp_all
    rw [hadd, hc j hjl]
    rw [← hj]; simp [hjl]
  · intro u hu
    obtain ⟨p, hp, rfl⟩ := List.mem_map.1 hu
    rfl
  · unfold maxLen; omega
  · omega
  · intro v' w' hown' hg hb'
    obtain ⟨A1, c1, rfl⟩ := own_slice hown'
    refine H _ w' ⟨A1, c1, by simp, ?_⟩ hg hb'
    rw [List.map_append]
    simpa using hown'

theorem no_words (w : World) (B : Nat) : Words w B (.slice none 0 0) [] := ⟨none, 0, rfl, Nat.zero_le _, fun h => by simp at h⟩

set_option maxRecDepth 100000 in
theorem words_in {H : Type} {enc : TypeId × Value → H} {w : World} {base : Nat} {spare : Nat → Bool} {held : Bool} {d : DataW H} {p : List MemPlace} {A : Option Addr} {n c : Nat}
    (h : DataW.Trod enc Tryz.prog w base spare held 25 (.slice A n c) d p) : ∃ l : List Int, Words w w.heap.size (.slice A n c) l ∧ WIn l := by
  obtain ⟨fuel, hf⟩ := h
  rcases open_slice (cs := [.slice A n c]) Tryz.underlying25 hf with ⟨hcs, _⟩ | ⟨ad, len, cap, m, k, D, Pl, hcs, _, hl, hm, hmm, _, hi⟩
  · injection hcs with hcs
    injection hcs with e1 e2 e3
    subst e1 e2 e3
    exact ⟨[], no_words _ _, fun p hp => by simp at hp⟩
  · injection hcs with hcs
    injection hcs with e1 e2 e3
    subst e1 e2 e3
    by_cases hn : n = 0
    · subst hn
      exact ⟨[], ⟨_, _, rfl, Nat.zero_le _, fun h => absurd h (by simp)⟩, fun p hp => by simp at hp⟩
    · have hmn : n ≤ m := by rw [hmm]; split <;> omega
      have key : ∀ i, ∃ x : Int, In64 x ∧ (i < n → w.cell? (ad.add i) = some (.int .i64 x)) := fun i => by
        by_cases hlt : i < n
        · obtain ⟨cs', hc, ht'⟩ := hi i (by omega)
          rw [show Tryz.prog.cellsOf 3 = 1 by kernel_rfl] at hc
          obtain ⟨x0, e0, _, f0⟩ := DataW.trod_int Tryz.underlying3 ht'
          subst e0
          obtain ⟨_, hcl, hat⟩ := World.cells?_some hc
          have := hat 0 (by simp)
          exact ⟨x0, in64_of_wf f0, fun _ => by rw [Nat.mul_one] at this; simpa [Addr.add] using this⟩
        · exact ⟨0, by unfold In64; simp, fun h => absurd h hlt⟩
      obtain ⟨b, off, spot⟩ := ad
      have h0 := (Classical.choose_spec (key 0)).2 (by omega)
      have hs : spot = none := by
        have h00 : ∃ u, w.cell? ⟨b, off, spot⟩ = some u := ⟨_, by simpa [Addr.add] using h0⟩
        obtain ⟨u, h00⟩ := h00
        cases spot with
        | none => rfl
        | some x =>
          simp [World.cell?] at h00
          split at h00 <;> simp at h00
      subst hs
      have hbl : b < w.heap.size := by
        have := World.block_lt_of_cell? w _ h0
        simpa [Addr.add] using this
      refine ⟨(List.range n).map fun i => Classical.choose (key i), ⟨_, _, by simp; rfl, by simp; omega, fun _ => ⟨b, off, rfl, hbl, fun i hi => ?_⟩⟩, fun p hp => ?_⟩
      · have hi' : i < n := by simpa using hi
        simp only [List.getElem_map, List.getElem_range]
        have := (Classical.choose_spec (key i)).2 hi'
        rw [← this]
        unfold Addr.add
        split
        · rename_i h0; rw [h0]; rfl
        · rfl
      · obtain ⟨i, _, rfl⟩ := List.mem_map.1 hp
        exact (Classical.choose_spec (key i)).1
set_option maxRecDepth 100000 in
theorem words_of {H : Type} {enc : TypeId × Value → H} {w : World} {base : Nat} {spare : Nat → Bool} {held : Bool} {v : Value} {d : DataW H} {p : List MemPlace} {r : Reach} {b0 : Nat}
    (hv : Value.okWide Tryz.prog w r b0 25 v) (h : DataW.Trod enc Tryz.prog w base spare held 25 v d p) : ∃ l, Words w w.heap.size v l ∧ WIn l := by
  obtain ⟨a0, n0, c0, rfl⟩ := okWide_slice Tryz.underlying25 hv
  exact words_in h

end View
end Go.Proofs.YthojgahcpkdemaaGreat

/- rows of words: cells and stores; structs of ints that came in -/
namespace Go.Bas
open Go.ChangeShapes Go.WideShapes Go.Deep Go.RowKit
/-- a struct of ints, by value, that came in -/
theorem open_ints_row {H : Type} {enc : TypeId × Value → H} {P : Program} {w : World} {base : Nat} {spare : Nat → Bool} {held : Bool} {t it : TypeId} {fs : Array Field} {v : Value} {d : DataW H} {p : List MemPlace}
    (ht : P.underlying t = some (.struct fs)) (hone : oneCellFields P fs = true) (hit : P.underlying it = some (.int .i64)) (hall : fs.toList.all (fun f => f.type == it) = true)
    (hok : ∃ cs, v = .agg cs ∧ cs.size = P.cellsOf t) (h : DataW.Trod enc P w base spare held t v d p) :
    ∃ cs : Array Value, v = .agg cs ∧ cs.size = P.cellsOf t ∧ ∀ j, j < fs.size → ∃ x : Int, cs[j]? = some (.int .i64 x) ∧ (Lit.int .i64 x).wf = true := by
  obtain ⟨cs, rfl, hsz⟩ := hok
  obtain ⟨fuel, hf⟩ := h
  obtain ⟨ys, n, rfl, hy, hlen, hyl, hff⟩ := DataW.trod_struct ht hf
  refine ⟨cs, rfl, hsz, fun j hj => ?_⟩
  have hfj : fs[j]? = some fs[j] := Array.getElem?_eq_getElem hj
  obtain ⟨ho, hk⟩ := hone_of hone j _ hfj
  have h1 := hff j _ hfj
  rw [ho, hk] at h1
  have hty : fs[j].type = it := by
    have := List.all_eq_true.1 hall fs[j] (by simp)
    simpa using this
  rw [hty, List.getElem?_eq_getElem (by omega)] at h1
  obtain ⟨x, hx, _, hwf⟩ := DataW.trod_int hit h1
  refine ⟨x, ?_, hwf⟩
  have e : (Value.cells (.agg cs)).toList = cs.toList := rfl
  have h2 : cs.toList[j]? = some (.int .i64 x) := by
    have h3 : ((cs.toList.drop j).take 1)[0]? = some (.int .i64 x) := by
      have hx' : (cs.toList.drop j).take 1 = [.int .i64 x] := hx
      rw [hx']; rfl
    simpa using h3
  simpa using h2
theorem One.at {w : World} {c : Nat} (h : w.heap.size = c) (v : Value) (t : TypeId) : One (w.alloc (.cells #[v] t)) c v t := h ▸ One.new w v t
end Go.Bas
namespace Go.Proofs.YthojgahcpkdemaaGreat
open Go.RowKit Go.Bas SorPlain Go.Sor IMap_ VIn VPlain MapI
namespace View

theorem TW.full {w : World} {base g : Nat} {l : List Int} (hg : w.heap[g]? = some (.cells (l.map (Value.int .i64)).toArray 3 (0, 0))) (hb : base ≤ g) (hn : l.length ≤ maxLen) : TW w base l (.slice (some ⟨g, 0, none⟩) l.length l.length) :=
  ⟨_, _, rfl, by simp, .inr ⟨g, l.length, _, rfl, hb, hg, Nat.le_refl _, hn, by simp, by simp [List.take_of_length_le]⟩⟩
theorem TW.shape {w : World} {base : Nat} {l : List Int} {A : Option Addr} {n c : Nat} (h : TW w base l (.slice A n c)) (hpos : 0 < l.length) : ∃ g, A = some ⟨g, 0, none⟩ ∧ base ≤ g ∧ n = l.length ∧ g < w.heap.size := by
  obtain ⟨A', c', e, hown⟩ := h
  injection e with e1 e2 e3
  subst e1 e2 e3
  rcases hown.2 with ⟨_, h'⟩ | ⟨g, _, _, h', hq', hh, _⟩
  · omega
  · injection h' with h'
    exact ⟨g, h', hq', rfl, (Array.getElem?_eq_some_iff.1 hh).1⟩
theorem TW.cell {w : World} {base g : Nat} {l : List Int} {n c : Nat} (h : TW w base l (.slice (some ⟨g, 0, none⟩) n c)) {k : Nat} (hk : k < l.length) : w.cell? ⟨g, k, none⟩ = some (.int .i64 (l.getD k 0)) := by
  obtain ⟨A', c', e, hown⟩ := h
  injection e with e1 e2 e3
  subst e1 e2 e3
  rw [hown.cellAt k (by omega)]
  simp [hk]
theorem TW.frozen {w : World} {base g : Nat} {l : List Int} {n c : Nat} (h : TW w base l (.slice (some ⟨g, 0, none⟩) n c)) (k : Nat) : w.frozen? ⟨g, k, none⟩ = false := by
  obtain ⟨A', c', e, hown⟩ := h
  injection e with e1 e2 e3
  subst e1 e2 e3
  exact hown.frozenAt k
theorem TW.stored {w : World} {base g : Nat} {l : List Int} {n c : Nat} (h : TW w base l (.slice (some ⟨g, 0, none⟩) n c)) (k : Nat) (y : Int) : TW (w.setCell ⟨g, k, none⟩ (.int .i64 y)) base (l.set k y) (.slice (some ⟨g, 0, none⟩) n c) := by
  obtain ⟨A', c', e, hown⟩ := h
  injection e with e1 e2 e3
  subst e1 e2 e3
  refine ⟨some ⟨g, 0, none⟩, c, by simp, ?_⟩
  have := (hown.stored k (.int .i64 y)).1
  simpa [List.map_set] using this
theorem TW.len {w : World} {base : Nat} {l : List Int} {A : Option Addr} {n c : Nat} (h : TW w base l (.slice A n c)) : n = l.length := by
  obtain ⟨A', c', e, hown⟩ := h
  injection e
theorem TW.chg {w w' : World} {base : Nat} {l : List Int} {v : Value} {S : Nat → Prop} (h : TW w base l v) (hc : Chg S w w') (hs : ∀ k, base ≤ k → ¬ S k) : TW w' base l v :=
  h.kept fun k hk => hc.block k (h.own_lt hk) (hs k (h.block hk))

/-- make([]int, n) -/
theorem make_ints (n : Nat) (hn : n ≤ 1000000) (w : World) :
    (Instr.makeSlice 25 (.int .i64 (n : Int)) (.int .i64 (n : Int))).run Tryz.prog w = .ok (.slice (some ⟨w.heap.size, 0, none⟩) n n) (w.alloc (.cells ((List.replicate n (0 : Int)).map (Value.int .i64)).toArray 3)) := by
  have hinfo : (Tryz.prog.info? 3).map (fun i => (i.zero, i.size, i.bytes)) = some (some (.int .i64 0), 1, 8) := by kernel_rfl
  obtain ⟨i, hi, hzz⟩ := Option.map_eq_some_iff.1 hinfo
  simp only [Prod.mk.injEq] at hzz
  obtain ⟨hz, hs, hb⟩ := hzz
  have hr := run_make (P := Tryz.prog) w 25 3 i _ Tryz.underlying25 hi hz .i64 .i64 n n (by omega) (Int.le_refl _) (by rw [hb]; omega) (by omega)
  simp only [Int.toNat_natCast, hs] at hr
  have e : madeCells (Value.cells (.int .i64 0)) (n * 1) = ((List.replicate n (0 : Int)).map (Value.int .i64)).toArray := by
    apply Array.ext_getElem?
    intro j
    have hc : Value.cells (.int .i64 0) = #[.int .i64 0] := rfl
    rw [hc]
    by_cases hj : j < n
    · simp [madeCells, hj, Nat.mod_one]
    · rw [Array.getElem?_eq_none (by simp [madeCells]; omega), Array.getElem?_eq_none (by simp; omega)]
  rw [e] at hr
  exact hr

end View
end Go.Proofs.YthojgahcpkdemaaGreat
