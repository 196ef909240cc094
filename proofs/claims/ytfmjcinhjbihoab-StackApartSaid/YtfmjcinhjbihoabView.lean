import Derived.Test.YtfmjcinhjbihoabVPlain
import Derived.Test.YtfmjcinhjbihoabMapI
import Derived.WalkLawsBesides
import Derived.Deep.Cut
namespace Go.Proofs.Ytfmjcinhjbihoab
open Go.RowKit Go.Bas SorPlain Go.Sor IMap_ VIn VPlain MapI
namespace View

def vals (m : M) : List (Int × Value) := m.map fun p => (p.1, .int .i64 p.2)
theorem keys_vals (m : M) : keys (vals m) = keys m := by simp [keys, vals]
theorem vals_length (m : M) : (vals m).length = m.length := by simp [vals]
theorem has_vals (k : Int) (m : M) : has k (vals m) = has k m := by unfold has; rw [keys_vals]
theorem place_vals (k : Int) (m : M) : place k (vals m) = place k m := by unfold place; rw [keys_vals]
theorem put_vals (k x : Int) (m : M) : put k (.int .i64 x) (vals m) = vals (put k x m) := by
  unfold put
  rw [place_vals, has_vals]
  simp [vals]
theorem getD_vals (k : Int) (m : M) : getD k (.int .i64 0) (vals m) = .int .i64 (getD k 0 m) := by
  unfold getD
  rw [has_vals, place_vals]
  split
  · have : (vals m).map (·.2) = (m.map (·.2)).map (Value.int .i64) := by simp [vals]
    rw [this]
    simp only [List.getD, List.getElem?_map]
    cases hq : m[place k m]? <;> simp
  · rfl
theorem getD_in {m : M} (hm : PIn m) (k : Int) : In64 (getD k 0 m) := by
  have h0 : In64 0 := by unfold In64; simp
  unfold getD
  split
  · by_cases h : place k m < m.length
    · have : (m.map (·.2)).getD (place k m) 0 = m[place k m].2 := by simp [h]
      rw [this]
      exact (hm _ (List.getElem_mem h)).2
    · have : (m.map (·.2)).getD (place k m) 0 = 0 := by simp [h]
      rw [this]; exact h0
  · exact h0
theorem pin_put {m : M} (hm : PIn m) {k x : Int} (hk : In64 k) (hx : In64 x) : PIn (put k x m) := by
  intro p hp
  unfold SorPlain.put at hp
  rcases List.mem_append.1 hp with h | h
  · exact hm p (List.mem_of_mem_take h)
  · rcases List.mem_cons.1 h with rfl | h
    · exact ⟨hk, hx⟩
    · exact hm p (List.mem_of_mem_drop h)
theorem wr_in {m : M} (hm : PIn m) {k x : Int} (hk : In64 k) (hx : In64 x) : PIn (wr m k x) := by
  unfold wr
  split
  · exact hm
  · exact pin_put hm hk hx
theorem wr_length (m : M) (k x : Int) : (wr m k x).length ≤ m.length + 1 := by
  unfold wr
  split
  · omega
  · rw [put_length]; split <;> omega

/-- who answers for words: a closure, what it answers, and what it keeps in memory -/
structure Ask where
  B : Nat
  fn : FuncId
  first : Array Value
  cap : Array Value
  f : Int → Option Int
  R : Nat → Prop
  I : List Int → (Nat → Prop) → World → Prop
  rlt : ∀ k, R k → k < B
  lt : ∀ qs S w, I qs S w → ∀ k, S k → B ≤ k ∧ k < w.heap.size
  keep : ∀ qs S w T w', I qs S w → Chg T w w' → (∀ k, S k → ¬ T k) → (∀ k, T k → ¬ R k) → I qs S w'
  run : ∀ args w, (callFunc fn args).run Try.prog w = .ok (.enter fn args) w
  rng : ∀ a x, f a = some x → In64 x
  ask : ∀ qs S w a, I qs S w → 0 ≤ a → In64 a → Calls Try.prog fn (first ++ #[.int .i64 a] ++ cap) w fun e w' => e = .returned (.tuple #[.int .i64 ((f a).getD 0), .bool (f a).isSome]) ∧
    ∃ S', I (if (f a).isSome then qs ++ [a] else qs) S' w' ∧ Chg S w w' ∧ (∀ k, S' k → S k ∨ w.heap.size ≤ k)

/-- a view in memory -/
structure VW (A : Ask) (bv bm : Nat) (st : Bool) (qs : List Int) (m : M) (w : World) (S : Nat → Prop) (v : Value) : Prop where
  inv : A.I qs S w
  row : w.heap[bv]? = some (.cells #[.func (.func A.fn) A.first A.cap, .pointer (some ⟨bm, 0, none⟩), .bool st] 65 (0, 0))
  map : IsMap TM TE w bm v (vals m)
  apart : ∀ k, S k → ¬ fp bm v k ∧ k ≠ bv
  own : ¬ fp bm v bv
  low : A.B ≤ bv ∧ ∀ k, fp bm v k → A.B ≤ k
  rng : PIn m
/-- .. which leaves the blocks of P alone -/
def VWs (A : Ask) (P : Nat → Prop) (bv bm : Nat) (st : Bool) (qs : List Int) (m : M) (w : World) : Prop := ∃ S v, VW A bv bm st qs m w S v ∧ ∀ k, P k → k < w.heap.size ∧ ¬ S k ∧ ¬ fp bm v k ∧ k ≠ bv
/-- the blocks of P are as they were -/
abbrev Kept (P : Nat → Prop) (w w' : World) : Prop := Chg (fun k => ¬ P k) w w'

/-- what lies elsewhere does not matter -/
theorem VW.kept {A : Ask} {bv bm : Nat} {st : Bool} {qs : List Int} {m : M} {w w' : World} {S : Nat → Prop} {v : Value} (h : VW A bv bm st qs m w S v) {T : Nat → Prop} (hc : Chg T w w') (hT : ∀ k, T k → ¬ S k ∧ ¬ fp bm v k ∧ k ≠ bv ∧ ¬ A.R k) : VW A bv bm st qs m w' S v := by
  have hlt : bv < w.heap.size := (Array.getElem?_eq_some_iff.1 h.row).1
  refine ⟨A.keep _ _ _ _ _ h.inv hc (fun k hk ht => (hT k ht).1 hk) (fun k ht => (hT k ht).2.2.2), ?_, h.map.chg hc (fun k hk ht => (hT k ht).2.1 hk), h.apart, h.own, h.low, h.rng⟩
  rw [hc.block _ hlt (fun ht => (hT bv ht).2.2.1 rfl)]
  exact h.row
theorem VWs.new {A : Ask} {P : Nat → Prop} {bv bm : Nat} {st : Bool} {qs : List Int} {m : M} {w w' : World} (h : VWs A P bv bm st qs m w) (hb : Below w.heap.size w w') : VWs A P bv bm st qs m w' := by
  obtain ⟨S, v, h, hP⟩ := h
  refine ⟨S, v, h.kept (Chg.of_below hb) (fun k hk => ⟨fun hs => ?_, fun hf => ?_, fun e => ?_, fun hr => by have := A.rlt k hr; have := h.low.1; have := (Array.getElem?_eq_some_iff.1 h.row).1; omega⟩), fun k hk => ⟨by have := (hP k hk).1; have := hb.size; omega, (hP k hk).2⟩⟩
  · have := (A.lt _ _ _ h.inv k hs).2; omega
  · have := h.map.lt k hf; omega
  · have := (Array.getElem?_eq_some_iff.1 h.row).1; omega
/-- more is left alone: what is new -/
theorem VWs.add {A : Ask} {P Q : Nat → Prop} {bv bm : Nat} {st : Bool} {qs : List Int} {m : M} {w w' : World} (h : VWs A P bv bm st qs m w) (hb : Below w.heap.size w w') (hQ : ∀ k, Q k → P k ∨ (w.heap.size ≤ k ∧ k < w'.heap.size)) : VWs A Q bv bm st qs m w' := by
  obtain ⟨S, v, h, hP⟩ := h
  have hS := A.lt _ _ _ h.inv
  have hf := h.map.lt
  have hbv := (Array.getElem?_eq_some_iff.1 h.row).1
  have hs := hb.size
  refine ⟨S, v, h.kept (Chg.of_below hb) (fun k hk => ⟨fun hs => ?_, fun hf' => ?_, fun e => ?_, fun hr => by have := A.rlt k hr; have := h.low.1; omega⟩), fun k hk => ?_⟩
  · have := (hS k hs).2; omega
  · have := hf k hf'; omega
  · omega
  · rcases hQ k hk with h1 | ⟨h1, h2⟩
    · obtain ⟨p1, p2⟩ := hP k h1
      exact ⟨by omega, p2⟩
    · exact ⟨h2, fun h => by have := (hS k h).2; omega, fun h => by have := hf k h; omega, by omega⟩
/-- less is left alone -/
theorem VWs.less {A : Ask} {P Q : Nat → Prop} {bv bm : Nat} {st : Bool} {qs : List Int} {m : M} {w : World} (h : VWs A P bv bm st qs m w) (hQ : ∀ k, Q k → P k) : VWs A Q bv bm st qs m w := by
  obtain ⟨S, v, h, hP⟩ := h
  exact ⟨S, v, h, fun k hk => hP k (hQ k hk)⟩

set_option maxRecDepth 100000 in
set_option maxHeartbeats 2000000 in
theorem read_any {A : Ask} {P : Nat → Prop} {bv bm : Nat} {qs : List Int} {m : M} {w : World} (h : VWs A P bv bm true qs m w) (hlen : m.length ≤ 1000000) (a : Int) (ha : In64 a) :
    Calls Try.prog 32 #[.pointer (some ⟨bv, 0, none⟩), .int .i64 a] w fun e w' =>
      (∃ y, rd A.f m a = some y ∧ In64 y ∧ e = .returned (.int .i64 y) ∧ VWs A P bv bm true (asks m a qs) m w' ∧ Kept P w w') ∨
      (rd A.f m a = none ∧ e = .panicked [{ v := .iface 75 (.int .i64 a), recovered := false }] ∧ VWs A P bv bm true qs m w' ∧ Kept P w w') := by
  obtain ⟨S, v, h, hP⟩ := h
  have H := Lib.hid h
  have HP := Lib.hid hP
  clear hP
  have k0 : w.cell? ⟨bv, 0, none⟩ = some (.func (.func A.fn) A.first A.cap) := by rw [cell_of_row _ _ _ _ _ _ h.row]; rfl
  have k1 : w.cell? ⟨bv, 1, none⟩ = some (.pointer (some ⟨bm, 0, none⟩)) := by rw [cell_of_row _ _ _ _ _ _ h.row]; rfl
  have k2 : w.cell? ⟨bv, 2, none⟩ = some (.bool true) := by rw [cell_of_row _ _ _ _ _ _ h.row]; rfl
  have GT := get_any h.map (by rw [vals_length]; omega) a
  rw [getD_vals, has_vals] at GT
  have hrd : Hid (rd A.f m a = if a < 0 then some 0 else if has a m then some (getD a 0 m) else A.f a) := rfl
  have hqs : Hid (asks m a qs = if a < 0 then qs else if has a m then qs else qs ++ [a]) := rfl
  have HA := Lib.hid ha
  have hg := Lib.hid (getD_in h.rng a)
  clear h ha
  by_cases h0 : a < 0
  · clear GT
    go_enter Try.func32, Try.ntmps32
    go_wp2
    go_ret
    refine .inl ⟨0, by rw [hrd.out, if_pos h0], by unfold In64; omega, rfl, ?_, Chg.refl _ _⟩
    rw [hqs.out, if_pos h0]
    exact ⟨S, v, H.out, HP.out⟩
  · rw [if_neg h0] at hrd hqs
    obtain ⟨g, hgd⟩ : ∃ g, getD a 0 m = g := ⟨_, rfl⟩
    rw [hgd] at GT hrd hg
    cases hh : has a m with
    | true =>
      rw [hh] at GT hrd hqs
      clear hgd hh
      go_enter Try.func32, Try.ntmps32
      go_wp2_with (first
        | (go_at_call 38; refine GT.mono ?_; rintro e w' ⟨rfl, n, rfl⟩))
      go_ret
      refine .inl ⟨g, by rw [hrd.out]; rfl, hg.out, rfl, ?_, Chg.drewN _ _ _⟩
      rw [hqs.out]
      exact ⟨S, v, H.out.kept (Chg.drewN (fun _ => False) w n) (fun k hk => hk.elim), HP.out⟩
    | false =>
      rw [hh] at GT hrd hqs
      clear hgd hh
      have hrun := A.run
      have AK : Hid (∀ n, Calls Try.prog A.fn (A.first ++ #[.int .i64 a] ++ A.cap) (w.drewN n) fun e w' => e = .returned (.tuple #[.int .i64 ((A.f a).getD 0), .bool (A.f a).isSome]) ∧
          VWs A P bv bm true (if (A.f a).isSome then qs ++ [a] else qs) m w' ∧ Kept P w w') := fun n => by
        have hd := H.out.kept (Chg.drewN (fun _ => False) w n) (fun k hk => hk.elim)
        refine (A.ask qs S (w.drewN n) a hd.inv (by omega) HA.out).mono ?_
        rintro e w' ⟨rfl, S', i', c', hS'⟩
        have hsz := c'.size
        have hsz : w.heap.size ≤ w'.heap.size := hsz
        have hlt := A.lt _ _ _ H.out.inv
        have hbv : bv < w.heap.size := (Array.getElem?_eq_some_iff.1 H.out.row).1
        have hdis : ∀ k, S' k → ¬ fp bm v k ∧ k ≠ bv := fun k hk => by
          rcases hS' k hk with h1 | h1
          · exact H.out.apart k h1
          · have h1 : w.heap.size ≤ k := h1
            exact ⟨fun hf => by have := H.out.map.lt k hf; omega, by omega⟩
        refine ⟨rfl, ⟨S', v, ⟨i', ?_, hd.map.chg c' (fun k hk hs => (H.out.apart k hs).1 hk), hdis, H.out.own, H.out.low, H.out.rng⟩, fun k hk => ?_⟩, (Chg.drewN _ w n).trans (c'.mono (fun k _ hs hp => (HP.out k hp).2.1 hs))⟩
        · rw [c'.block bv hbv (fun hs => (H.out.apart bv hs).2 rfl)]
          exact hd.row
        · obtain ⟨p1, p2, p3⟩ := HP.out k hk
          refine ⟨by omega, fun h => ?_, p3⟩
          rcases hS' k h with h1 | h1
          · exact p2 h1
          · have h1 : w.heap.size ≤ k := h1
            omega
      obtain ⟨af, haf⟩ : ∃ f, A.fn = f := ⟨_, rfl⟩
      obtain ⟨ac, hac⟩ : ∃ c, A.cap = c := ⟨_, rfl⟩
      obtain ⟨a0, ha0⟩ : ∃ c, A.first = c := ⟨_, rfl⟩
      rw [haf] at hrun
      rw [haf, hac, ha0] at k0 AK
      clear haf hac ha0
      cases hf : A.f a with
      | some y =>
        rw [hf] at AK hrd
        have hy := Lib.hid (A.rng a y hf)
        clear hf
        go_enter Try.func32, Try.ntmps32
        go_wp2_with (first
          | (go_at_call 38; refine GT.mono ?_; rintro e w' ⟨rfl, n, rfl⟩))
        refine (AK.out n).mono ?_
        rintro e w2 ⟨rfl, hv2, hb2⟩
        have HV2 := Lib.hid hv2; have HB2 := Lib.hid hb2
        clear hv2 hb2
        go_wp2
        go_ret
        refine .inl ⟨y, by rw [hrd.out]; rfl, hy.out, rfl, ?_, HB2.out⟩
        rw [hqs.out]
        exact HV2.out
      | none =>
        rw [hf] at AK hrd
        clear hf
        go_enter Try.func32, Try.ntmps32
        go_wp2_with (first
          | (go_at_call 38; refine GT.mono ?_; rintro e w' ⟨rfl, n, rfl⟩))
        refine (AK.out n).mono ?_
        rintro e w2 ⟨rfl, hv2, hb2⟩
        have HV2 := Lib.hid hv2; have HB2 := Lib.hid hb2
        clear hv2 hb2
        go_wp2
        exact ⟨rfl, .inr ⟨by rw [hrd.out]; rfl, rfl, HV2.out, HB2.out⟩⟩

set_option maxRecDepth 100000 in
set_option maxHeartbeats 2000000 in
theorem write_any {A : Ask} {P : Nat → Prop} {bv bm : Nat} {qs : List Int} {m : M} {w : World} (h : VWs A P bv bm true qs m w) (hlen : m.length ≤ 1000000) (a x : Int) (ha : In64 a) (hx : In64 x) :
    Calls Try.prog 30 #[.pointer (some ⟨bv, 0, none⟩), .int .i64 a, .int .i64 x] w fun e w' => e = .returned (.tuple #[]) ∧ VWs A P bv bm true qs (wr m a x) w' ∧ Kept P w w' := by
  obtain ⟨S, v, h, hP⟩ := h
  have H := Lib.hid h
  have HP := Lib.hid hP
  clear hP
  have k1 : w.cell? ⟨bv, 1, none⟩ = some (.pointer (some ⟨bm, 0, none⟩)) := by rw [cell_of_row _ _ _ _ _ _ h.row]; rfl
  have k2 : w.cell? ⟨bv, 2, none⟩ = some (.bool true) := by rw [cell_of_row _ _ _ _ _ _ h.row]; rfl
  have hwr : Hid (wr m a x = if a < 0 then m else put a x m) := rfl
  have hin := Lib.hid (wr_in h.rng ha hx)
  have PT := put_any h.map (by rw [vals_length]; omega) a x
  rw [put_vals] at PT
  have hbv : bv < w.heap.size := (Array.getElem?_eq_some_iff.1 h.row).1
  clear h
  by_cases h0 : a < 0
  · clear PT
    rw [if_pos h0] at hwr
    go_enter Try.func30, Try.ntmps30
    go_wp2
    exact bodyPost_ret (results_none rfl _ _ _) rfl ⟨rfl, ⟨S, v, by rw [hwr.out]; exact H.out, HP.out⟩, Chg.refl _ _⟩
  · rw [if_neg h0] at hwr
    obtain ⟨b, hb⟩ : ∃ b, (!has a (vals m)) = b := ⟨_, rfl⟩
    rw [hb] at PT
    clear hb
    go_enter Try.func30, Try.ntmps30
    go_wp2_with (first
      | (go_at_call 37; refine PT.mono ?_; rintro e w' ⟨rfl, v', hm', hc', hv'⟩))
    have h := H.out
    have hlt := A.lt _ _ _ h.inv
    have hfp : ∀ k, fp bm v' k → fp bm v k ∨ w.heap.size ≤ k := fun k hk => by
      rcases hk with rfl | hk
      · exact .inl (.inl rfl)
      · rcases hv' with e | ⟨g, e, hg⟩
        · exact .inl (.inr (by rw [← e]; exact hk))
        · rw [e] at hk; injection hk with hk; subst hk; exact .inr hg
    go_end0
    refine ⟨rfl, ⟨S, v', ⟨A.keep _ _ _ _ _ h.inv hc' (fun k hk => (h.apart k hk).1) (fun k hk hr => by have := A.rlt k hr; have := h.low.2 k hk; omega), ?_, ?_, ?_, ?_, ⟨h.low.1, ?_⟩, ?_⟩, fun k hk => ?_⟩, hc'.mono (fun k _ hs hp => (HP.out k hp).2.2.1 hs)⟩
    · rw [hc'.block bv hbv h.own]; exact h.row
    · rw [hwr.out]; exact hm'
    · intro k hk
      refine ⟨fun hf => ?_, (h.apart k hk).2⟩
      rcases hfp k hf with h1 | h1
      · exact (h.apart k hk).1 h1
      · have := (hlt k hk).2; omega
    · intro hf
      rcases hfp bv hf with h1 | h1
      · exact h.own h1
      · omega
    · intro k hk
      rcases hfp k hk with h1 | h1
      · exact h.low.2 k h1
      · have := h.low.1; omega
    · exact hin.out
    · obtain ⟨p1, p2, p3, p4⟩ := HP.out k hk
      have hsz := hc'.size
      refine ⟨by omega, p2, fun hf => ?_, p4⟩
      rcases hfp k hf with h1 | h1
      · exact p3 h1
      · omega

end View
end Go.Proofs.Ytfmjcinhjbihoab
