/- Lemmas of this seat's proofs, several texts laid together. -/
import Derived.Test.YtkegfeghdnpajaaPOpaqueStatesx4
import Derived.Test.YtkegfeghdnpajaaPOpaqueStatesx2
import Derived.Test.YtkegfeghdnpajaaOcC
import Derived.Test.YtkegfeghdnpajaaPOpaqueStatesx1
import Derived.StillTailTactics
import Derived.Great.BuildSlice
set_option linter.unusedVariables false
set_option linter.unusedSimpArgs false
/- the document's answer (assartref34), as printed, in plain -/
namespace Go.Proofs.Ytkegfeghdnpajaa
open Go.RowKit Go.Bas Txs View
open Go.Proofs.YtkegfeghdnpajaaW.PrintWords (Ev LeO Kd at_rounds)
namespace OPR
open Srt hiding Ev
open POpaqueStates

def pr (p : Int × Int) : S93 := ⟨p.1, p.2⟩
def tx (t : Tx) : S91 := ⟨t.worker, t.how, t.seen, t.stamp, t.fall, t.sure, t.reads.map pr, t.writes.map pr⟩
theorem rd_tx {l : List Tx} {i : Nat} (h : i < l.length) : rd_T91 (l.map tx) (i : Int) = tx l[i] := by
  unfold rd_T91; simp [List.getD_eq_getElem?_getD, h]
theorem rd_pr {l : List (Int × Int)} {i : Nat} (h : i < l.length) : rd_T93 (l.map pr) (i : Int) = pr l[i] := by
  unfold rd_T93; simp [List.getD_eq_getElem?_getD, h]
def raisedB (t : Tx) : Bool := t.fall && decide (0 < t.seen)
theorem stores_f (t : Tx) : assartref34_stores.f (tx t).f0 (tx t).f1 (tx t).f2 (tx t).f3 (tx t).f4 (tx t).f5 (tx t).f6 (tx t).f7 = some (storesB t) := by
  unfold assartref34_stores.f storesB tx
  cases t.sure <;> simp
theorem raised_f (t : Tx) : assartref34_raised.f (tx t).f0 (tx t).f1 (tx t).f2 (tx t).f3 (tx t).f4 (tx t).f5 (tx t).f6 (tx t).f7 = some (raisedB t) := by
  unfold assartref34_raised.f raisedB tx
  cases t.fall <;> simp
theorem w1 {i : Nat} (h : i < 9223372036854775807) : wrap64 ((i : Int) + 1) = ((i + 1 : Nat) : Int) := by unfold wrap64; omega

/-! right -/
theorem right_l2_ok {fw : List Int} {l : List Tx} (hl : l.length ≤ 9223372036854775806) {i : Nat} (hi : i < l.length) {r : Bool} (hr : Ev (fun k => assartref34_right.l0 k fw (l.map tx) ((i + 1 : Nat) : Int)) r) : ∀ d j, j + d = i → (∀ q, (h : q < i) → ¬ (storesB (l[q]'(by omega)) = true ∧ (l[q]'(by omega)).stamp = l[i].stamp)) →
    Ev (fun k => assartref34_right.l2 k fw (l.map tx) (i : Int) (j : Int)) r := by
  intro d
  induction d with
  | zero =>
    intro j hj _
    refine Ev.step (fun k => ?_) hr
    simp only [assartref34_right.l2]
    rw [if_neg (by omega), w1 (by omega)]
  | succ d ih =>
    intro j hj hn
    refine Ev.step (fun k => ?_) (ih (j + 1) (by omega) hn)
    simp only [assartref34_right.l2]
    rw [if_pos (by omega), if_pos (by omega), if_pos (by simp; omega), rd_tx (i := j) (by omega), stores_f, w1 (by omega)]
    simp only [Option.bind_some]
    cases hs : storesB (l[j]'(by omega)) with
    | false => rfl
    | true =>
      rw [if_pos rfl, if_pos (by omega), if_pos (by simp; omega), rd_tx hi, if_neg]
      exact fun e => hn j (by omega) ⟨hs, e⟩
theorem right_l2_bad {fw : List Int} {l : List Tx} (hl : l.length ≤ 9223372036854775806) {i : Nat} (hi : i < l.length) : ∀ d j, j + d = i → (∃ q, ∃ h : q < i, j ≤ q ∧ (storesB (l[q]'(by omega)) = true ∧ (l[q]'(by omega)).stamp = l[i].stamp)) →
    Ev (fun k => assartref34_right.l2 k fw (l.map tx) (i : Int) (j : Int)) false := by
  intro d
  induction d with
  | zero =>
    rintro j hj ⟨q, h1, h2, _⟩
    omega
  | succ d ih =>
    rintro j hj ⟨q, h1, h2, h3⟩
    by_cases c : storesB (l[j]'(by omega)) = true ∧ (l[j]'(by omega)).stamp = l[i].stamp
    · refine Ev.step (f := fun _ => some false) (fun k => ?_) (Ev.now _)
      simp only [assartref34_right.l2]
      rw [if_pos (by omega), if_pos (by omega), if_pos (by simp; omega), rd_tx (i := j) (by omega), stores_f, c.1]
      simp only [Option.bind_some, if_true]
      rw [if_pos (by omega), if_pos (by simp; omega), rd_tx hi, if_pos]
      exact c.2
    · have hq : j ≠ q := fun e => c (by subst e; exact h3)
      refine Ev.step (fun k => ?_) (ih (j + 1) (by omega) ⟨q, h1, by omega, h3⟩)
      simp only [assartref34_right.l2]
      rw [if_pos (by omega), if_pos (by omega), if_pos (by simp; omega), rd_tx (i := j) (by omega), stores_f, w1 (by omega)]
      simp only [Option.bind_some]
      cases hs : storesB (l[j]'(by omega)) with
      | false => rfl
      | true =>
        rw [if_pos rfl, if_pos (by omega), if_pos (by simp; omega), rd_tx hi, if_neg]
        exact fun e => c ⟨hs, e⟩
theorem right_l1_ok {fw : List Int} {l : List Tx} {i : Nat} (hi : i < l.length) (hw : l[i].writes.length ≤ 9223372036854775807) {r : Bool} (hr : Ev (fun k => assartref34_right.l2 k fw (l.map tx) (i : Int) 0) r) (ho : okW fw.length l[i] = true) : ∀ d j, j + d = l[i].writes.length →
    Ev (fun k => assartref34_right.l1 k fw (l.map tx) (i : Int) (j : Int)) r := by
  intro d
  induction d with
  | zero =>
    intro j hj
    refine Ev.step (fun k => ?_) hr
    simp only [assartref34_right.l1]
    rw [if_pos (by omega), if_pos (by simp; omega), rd_tx hi, if_neg (by simp [tx]; omega)]
  | succ d ih =>
    intro j hj
    refine Ev.step (fun k => ?_) (ih (j + 1) (by omega))
    simp only [assartref34_right.l1]
    have h1 := List.all_eq_true.1 ho _ (List.getElem_mem (show j < l[i].writes.length by omega))
    unfold inW at h1
    simp only [Bool.and_eq_true, decide_eq_true_eq] at h1
    have e : rd_T93 (tx l[i]).f7 (j : Int) = pr (l[i].writes[j]'(by omega)) := rd_pr (by omega)
    rw [if_pos (by omega), if_pos (by simp; omega), rd_tx hi, if_pos (by simp [tx]; omega), if_pos (by omega), e, if_neg (by show ¬ (l[i].writes[j]'(by omega)).1 < 0; omega), if_neg (by show ¬ (l[i].writes[j]'(by omega)).1 ≥ fw.length; omega), w1 (by omega)]
theorem right_l1_bad {fw : List Int} {l : List Tx} {i : Nat} (hi : i < l.length) (hw : l[i].writes.length ≤ 9223372036854775807) : ∀ d j, j + d = l[i].writes.length → (∃ q, ∃ h : q < l[i].writes.length, j ≤ q ∧ inW fw.length l[i].writes[q] = false) →
    Ev (fun k => assartref34_right.l1 k fw (l.map tx) (i : Int) (j : Int)) false := by
  intro d
  induction d with
  | zero =>
    rintro j hj ⟨q, h1, h2, _⟩
    omega
  | succ d ih =>
    rintro j hj ⟨q, h1, h2, h3⟩
    have e : rd_T93 (tx l[i]).f7 (j : Int) = pr (l[i].writes[j]'(by omega)) := rd_pr (by omega)
    by_cases c0 : (l[i].writes[j]'(by omega)).1 < 0
    · refine Ev.step (f := fun _ => some false) (fun k => ?_) (Ev.now _)
      simp only [assartref34_right.l1]
      rw [if_pos (by omega), if_pos (by simp; omega), rd_tx hi, if_pos (by simp [tx]; omega), if_pos (by omega), e, if_pos (by exact c0)]
    · by_cases c1 : (l[i].writes[j]'(by omega)).1 ≥ fw.length
      · refine Ev.step (f := fun _ => some false) (fun k => ?_) (Ev.now _)
        simp only [assartref34_right.l1]
        rw [if_pos (by omega), if_pos (by simp; omega), rd_tx hi, if_pos (by simp [tx]; omega), if_pos (by omega), e, if_neg (by exact c0), if_pos (by exact c1)]
      · have hq : j ≠ q := fun e => by
          subst e
          unfold inW at h3
          rw [Bool.and_eq_false_iff] at h3
          simp only [decide_eq_false_iff_not] at h3
          omega
        refine Ev.step (fun k => ?_) (ih (j + 1) (by omega) ⟨q, h1, by omega, h3⟩)
        simp only [assartref34_right.l1]
        rw [if_pos (by omega), if_pos (by simp; omega), rd_tx hi, if_pos (by simp [tx]; omega), if_pos (by omega), e, if_neg (by exact c0), if_neg (by exact c1), w1 (by omega)]
theorem right_l0 {fw : List Int} {l : List Tx} (hl : l.length ≤ 9223372036854775806) (hw : ∀ t ∈ l, t.writes.length ≤ 9223372036854775807) (h3 : 3 ≤ fw.length) : ∀ d i, i + d = l.length → (∀ t ∈ sts (l.take i), okW fw.length t = true) → Distinct (l.take i) →
    Ev (fun k => assartref34_right.l0 k fw (l.map tx) (i : Int)) (rightB fw.length l) := by
  intro d
  induction d with
  | zero =>
    intro i hi h1 h2
    rw [List.take_of_length_le (by omega)] at h1 h2
    rw [right_all h3 h1 h2]
    refine Ev.step (f := fun _ => some true) (fun k => ?_) (Ev.now _)
    simp only [assartref34_right.l0]
    rw [if_neg (by simp; omega)]
  | succ d ih =>
    intro i hi h1 h2
    have hlt : i < l.length := by omega
    have hww := hw _ (List.getElem_mem hlt)
    have head : ∀ k, assartref34_right.l0 (k + 1) fw (l.map tx) (i : Int) = if storesB l[i] = true then assartref34_right.l1 k fw (l.map tx) (i : Int) ((0 : Nat) : Int) else assartref34_right.l0 k fw (l.map tx) ((i + 1 : Nat) : Int) := fun k => by
      simp only [assartref34_right.l0]
      rw [if_pos (by simp; omega), if_pos (by omega), rd_tx hlt, stores_f, w1 (by omega)]
      rfl
    by_cases hs : storesB l[i] = true
    · simp only [hs, if_true] at head
      by_cases ho : okW fw.length l[i] = true
      · by_cases hd : ∃ t ∈ sts (l.take i), t.stamp = l[i].stamp
        · rw [right_twice hlt hs hd]
          refine Ev.step head (right_l1_ok hlt hww (right_l2_bad hl hlt i 0 (by omega) ?_) ho l[i].writes.length 0 (by omega))
          obtain ⟨t, ht, e⟩ := hd
          obtain ⟨ht, hst⟩ := List.mem_filter.1 ht
          obtain ⟨q, hq, rfl⟩ := List.mem_iff_getElem.1 ht
          rw [List.length_take] at hq
          rw [List.getElem_take] at e hst
          exact ⟨q, by omega, by omega, hst, e⟩
        · refine Ev.step head (right_l1_ok hlt hww (right_l2_ok hl hlt (ih (i + 1) (by omega) (ok_next hlt h1 fun _ => ho) (h2.next hlt fun _ => hd)) i 0 (by omega) ?_) ho l[i].writes.length 0 (by omega))
          rintro q hq ⟨e1, e2⟩
          exact hd ⟨l[q], List.mem_filter.2 ⟨by rw [List.mem_take_iff_getElem]; exact ⟨q, by omega, rfl⟩, e1⟩, e2⟩
      · rw [Bool.not_eq_true] at ho
        rw [right_bad hlt hs ho]
        refine Ev.step head (right_l1_bad hlt hww l[i].writes.length 0 (by omega) ?_)
        unfold okW at ho
        obtain ⟨x, hx, hx2⟩ := List.all_eq_false.1 ho
        obtain ⟨q, hq, rfl⟩ := List.mem_iff_getElem.1 hx
        exact ⟨q, hq, by omega, by simpa using hx2⟩
    · rw [Bool.not_eq_true] at hs
      simp only [hs, Bool.false_eq_true, if_false] at head
      exact Ev.step head (ih (i + 1) (by omega) (ok_next hlt h1 fun e => by rw [hs] at e; cases e) (h2.next hlt fun e => by rw [hs] at e; cases e))
theorem right_f {fw : List Int} {l : List Tx} (hl : l.length ≤ 9223372036854775806) (hw : ∀ t ∈ l, t.writes.length ≤ 9223372036854775807) : Ev (fun k => assartref34_right.f k fw (l.map tx)) (rightB fw.length l) := by
  unfold assartref34_right.f
  by_cases h3 : (fw.length : Int) < 3
  · simp only [if_pos h3]
    have : rightB fw.length l = false := by unfold rightB; simp; omega
    rw [this]; exact Ev.now _
  · simp only [if_neg h3]
    exact right_l0 hl hw (by omega) l.length 0 (by omega) (fun t ht => by simp [sts] at ht) (by unfold Distinct; simp [sts])

end OPR
end Go.Proofs.Ytkegfeghdnpajaa

/- ref34.next in plain -/
namespace Go.Proofs.Ytkegfeghdnpajaa
open Go.RowKit Go.Bas Txs View
open Go.Proofs.YtkegfeghdnpajaaW.PrintWords (Ev LeO Kd at_rounds)
namespace OPR
open Srt hiding Ev
open POpaqueStates

def nstep (a : Int) (has : Bool) (acc : Int × Bool) (s : Int) : Int × Bool := if (!has || decide (a < s)) && (!acc.2 || decide (s < acc.1)) then (s, true) else acc
def nfold (a : Int) (has : Bool) (acc : Int × Bool) (es : List Srt.Ev) : Int × Bool := es.foldl (fun acc e => nstep a has acc e.stamp) acc
theorem nfold_append (a : Int) (has : Bool) (acc : Int × Bool) (x y : List Srt.Ev) : nfold a has acc (x ++ y) = nfold a has (nfold a has acc x) y := by unfold nfold; rw [List.foldl_append]
/-- what the loop's condition of a try that raised the flag comes to -/
def flagB (a : Int) (has : Bool) (acc : Int × Bool) (t : Tx) : Bool := raisedB t && ((!has || decide (a < t.seen)) && (!acc.2 || decide (t.seen < acc.1)))
theorem flag_fold (a : Int) (has : Bool) (acc : Int × Bool) (t : Tx) : nfold a has acc (flagPart t) = if flagB a has acc t then (t.seen, true) else acc := by
  unfold nfold flagPart flagB
  show _ = if (raisedB t && _) = true then _ else _
  have e : (t.fall && decide (0 < t.seen)) = raisedB t := rfl
  rw [e]
  cases raisedB t with
  | false => simp
  | true => simp only [if_true, Bool.true_and, List.foldl_cons, List.foldl_nil]; rfl
theorem store_fold (a : Int) (has : Bool) (acc : Int × Bool) (t : Tx) : nfold a has acc (storePart t) = if storesB t then nstep a has acc t.stamp else acc := by
  unfold nfold storePart
  cases storesB t <;> simp

theorem next_j1 {l : List Tx} {i : Nat} (hi : i < 9223372036854775807) (a : Int) (has : Bool) (acc : Int × Bool) (t : Tx) (x : Bool) (k : Nat) :
    assartref34_next.j1 (k + 1) (l.map tx) a has acc.1 acc.2 (i : Int) x (tx t).f0 (tx t).f1 (tx t).f2 (tx t).f3 (tx t).f4 (tx t).f5 (tx t).f6 (tx t).f7 =
    assartref34_next.l0 k (l.map tx) a has (nfold a has (if x then (t.seen, true) else acc) (storePart t)).1 (nfold a has (if x then (t.seen, true) else acc) (storePart t)).2 ((i + 1 : Nat) : Int) := by
  rw [store_fold]
  simp only [assartref34_next.j1]
  rw [stores_f, w1 hi]
  simp only [Option.bind_some]
  have e3 : (tx t).f3 = t.stamp := rfl
  have e2 : (tx t).f2 = t.seen := rfl
  rw [e3, e2]
  unfold nstep
  obtain ⟨y, f⟩ := acc
  have h1 : (a < t.stamp) = True ∨ (a < t.stamp) = False := by by_cases h : a < t.stamp <;> simp [h]
  have h2 : (t.stamp < y) = True ∨ (t.stamp < y) = False := by by_cases h : t.stamp < y <;> simp [h]
  have h3 : (t.stamp < t.seen) = True ∨ (t.stamp < t.seen) = False := by by_cases h : t.stamp < t.seen <;> simp [h]
  cases x <;> cases storesB t <;> cases has <;> cases f <;> rcases h1 with h1 | h1 <;> rcases h2 with h2 | h2 <;> rcases h3 with h3 | h3 <;> simp [h1, h2, h3]
theorem next_head {l : List Tx} {i : Nat} (hl : l.length ≤ 9223372036854775806) (hi : i < l.length) (a : Int) (has : Bool) (acc : Int × Bool) (k : Nat) :
    assartref34_next.l0 (k + 1) (l.map tx) a has acc.1 acc.2 (i : Int) =
    assartref34_next.j1 k (l.map tx) a has acc.1 acc.2 (i : Int) (flagB a has acc l[i]) (tx l[i]).f0 (tx l[i]).f1 (tx l[i]).f2 (tx l[i]).f3 (tx l[i]).f4 (tx l[i]).f5 (tx l[i]).f6 (tx l[i]).f7 := by
  simp only [assartref34_next.l0]
  rw [if_pos (by simp; omega), if_pos (by omega), rd_tx hi, raised_f]
  simp only [Option.bind_some]
  have e2 : (tx l[i]).f2 = l[i].seen := rfl
  unfold flagB
  obtain ⟨y, f⟩ := acc
  have h1 : (a < l[i].seen) = True ∨ (a < l[i].seen) = False := by by_cases h : a < l[i].seen <;> simp [h]
  cases raisedB l[i] <;> cases has <;> cases f <;> rcases h1 with h1 | h1 <;> simp [h1, e2]
theorem next_l0 {l : List Tx} (hl : l.length ≤ 9223372036854775806) (a : Int) (has : Bool) : ∀ d i (acc : Int × Bool), i + d = l.length →
    Ev (fun k => assartref34_next.l0 k (l.map tx) a has acc.1 acc.2 (i : Int)) (nfold a has acc (evs (l.drop i))) := by
  intro d
  induction d with
  | zero =>
    intro i acc hi
    rw [List.drop_of_length_le (by omega)]
    refine Ev.step (f := fun _ => some (acc.1, acc.2)) (fun k => ?_) (Ev.now _)
    simp only [assartref34_next.l0]
    rw [if_neg (by simp; omega)]
  | succ d ih =>
    intro i acc hi
    have hlt : i < l.length := by omega
    have e : evs (l.drop i) = flagPart l[i] ++ storePart l[i] ++ evs (l.drop (i + 1)) := by
      rw [List.drop_eq_getElem_cons hlt]; rfl
    rw [e, nfold_append, nfold_append, flag_fold]
    exact Ev.step (next_head hl hlt a has acc) (Ev.step (next_j1 (by omega) a has acc l[i] _) (ih (i + 1) _ (by omega)))
theorem next_f {l : List Tx} (hl : l.length ≤ 9223372036854775806) (a : Int) (has : Bool) : Ev (fun k => assartref34_next.f k (l.map tx) a has) (nfold a has (0, false) (evs l)) :=
  next_l0 hl a has l.length 0 (0, false) (by omega)

/-- what it tells -/
theorem nfold_spec (a : Int) (has : Bool) : ∀ (es : List Srt.Ev) (x : Int) (f : Bool),
    ((nfold a has (x, f) es).2 = false → f = false ∧ ∀ e ∈ es, has = true ∧ e.stamp ≤ a) ∧
    ((nfold a has (x, f) es).2 = true → ((f = true ∧ (nfold a has (x, f) es).1 = x) ∨ ∃ e ∈ es, (has = true → a < e.stamp) ∧ e.stamp = (nfold a has (x, f) es).1) ∧ (f = true → (nfold a has (x, f) es).1 ≤ x) ∧ ∀ e ∈ es, (has = true → a < e.stamp) → (nfold a has (x, f) es).1 ≤ e.stamp)
  | [], x, f => by
    refine ⟨fun h => ⟨h, fun e he => by cases he⟩, fun h => ⟨.inl ⟨h, rfl⟩, fun _ => Int.le_refl _, fun e he => by cases he⟩⟩
  | e :: r, x, f => by
    have hh : nfold a has (x, f) (e :: r) = nfold a has (nstep a has (x, f) e.stamp) r := rfl
    rw [hh]
    unfold nstep
    by_cases c : ((!has || decide (a < e.stamp)) && (!f || decide (e.stamp < x))) = true
    · rw [if_pos c]
      simp only [Bool.and_eq_true, Bool.or_eq_true, Bool.not_eq_true', decide_eq_true_eq] at c
      obtain ⟨h1, h2⟩ := nfold_spec a has r e.stamp true
      refine ⟨fun h => absurd (h1 h).1 (by simp), fun h => ?_⟩
      obtain ⟨g1, g2, g3⟩ := h2 h
      have g2 := g2 rfl
      refine ⟨.inr ?_, fun hf => ?_, fun e' he' hp => ?_⟩
      · rcases g1 with ⟨_, g1⟩ | ⟨e', he', q1, q2⟩
        · exact ⟨e, by simp, fun hb => by rcases c.1 with c | c <;> simp_all, g1.symm⟩
        · exact ⟨e', by simp [he'], q1, q2⟩
      · rcases c.2 with c2 | c2
        · rw [hf] at c2; cases c2
        · omega
      · rcases List.mem_cons.1 he' with rfl | he'
        · exact g2
        · exact g3 e' he' hp
    · rw [if_neg c]
      obtain ⟨h1, h2⟩ := nfold_spec a has r x f
      have c' : (has = true ∧ e.stamp ≤ a) ∨ (f = true ∧ x ≤ e.stamp) := by
        cases has <;> cases f <;> simp_all <;> omega
      refine ⟨fun h => ?_, fun h => ?_⟩
      · obtain ⟨g1, g2⟩ := h1 h
        refine ⟨g1, fun e' he' => ?_⟩
        rcases List.mem_cons.1 he' with rfl | he'
        · rcases c' with c' | c'
          · exact c'
          · rw [g1] at c'; exact absurd c'.1 (by simp)
        · exact g2 e' he'
      · obtain ⟨g1, g2, g3⟩ := h2 h
        refine ⟨?_, g2, fun e' he' hp => ?_⟩
        · rcases g1 with g1 | ⟨e', he', q⟩
          · exact .inl g1
          · exact .inr ⟨e', by simp [he'], q⟩
        · rcases List.mem_cons.1 he' with rfl | he'
          · rcases c' with c' | c'
            · have := hp c'.1; omega
            · have := g2 c'.1; omega
          · exact g3 e' he' hp
def nxt (es : List Srt.Ev) (a : Int) (has : Bool) : Int × Bool := nfold a has (0, false) es
theorem nxt_none {es : List Srt.Ev} {a : Int} {has : Bool} (h : (nxt es a has).2 = false) : ∀ e ∈ es, has = true ∧ e.stamp ≤ a := ((nfold_spec a has es 0 false).1 h).2
theorem nxt_some {es : List Srt.Ev} {a : Int} {has : Bool} (h : (nxt es a has).2 = true) : (∃ e ∈ es, (has = true → a < e.stamp) ∧ e.stamp = (nxt es a has).1) ∧ ∀ e ∈ es, (has = true → a < e.stamp) → (nxt es a has).1 ≤ e.stamp := by
  obtain ⟨g1, _, g3⟩ := (nfold_spec a has es 0 false).2 h
  refine ⟨?_, g3⟩
  rcases g1 with ⟨g, _⟩ | g
  · cases g
  · exact g

end OPR
end Go.Proofs.Ytkegfeghdnpajaa

/- tries that came in, as the print reads them -/
namespace Go.Proofs.Ytkegfeghdnpajaa
open Go.RowKit Go.Bas Go.WideShapes Txs View
open Go.Proofs.YtkegfeghdnpajaaW.PrintWords (Ev LeO Kd at_rounds ReadsRow)
namespace OPR
open Srt hiding Ev
open POpaqueStates

def CapOk (s : Value) : Prop := ∃ A n c, s = .slice A n c ∧ n ≤ c
def ManyC (w : World) (B : Nat) (s : Value) (l : List Tx) : Prop :=
  ∃ (A : Option Addr) (c : Nat), s = .slice A l.length c ∧ l.length ≤ c ∧ l.length ≤ maxLen ∧
    (0 < l.length → ∃ b off, A = some ⟨b, off, none⟩ ∧ b < B ∧
      ∀ i (h : i < l.length), ∃ r q, w.rangeAt b (off + i * 8) (row l[i] r q) ∧ Pairs w B r l[i].reads ∧ Pairs w B q l[i].writes ∧ CapOk r ∧ CapOk q)
theorem ManyC.many {w : World} {B : Nat} {s : Value} {l : List Tx} (h : ManyC w B s l) : Many w B s l := by
  obtain ⟨A, c, e, _, hm, hc⟩ := h
  refine ⟨A, c, e, hm, fun h0 => ?_⟩
  obtain ⟨b, off, h1, h2, h3⟩ := hc h0
  refine ⟨b, off, h1, h2, fun i hi => ?_⟩
  obtain ⟨r, q, g1, g2, g3, _⟩ := h3 i hi
  exact ⟨r, q, g1, g2, g3⟩
theorem ManyC.below {w w' : World} {B : Nat} {s : Value} {l : List Tx} (h : ManyC w B s l) (hb : Below B w w') : ManyC w' B s l := by
  obtain ⟨A, c, rfl, hn, hm, hc⟩ := h
  refine ⟨A, c, rfl, hn, hm, fun h0 => ?_⟩
  obtain ⟨b, off, rfl, hlt, hc⟩ := hc h0
  refine ⟨b, off, rfl, hlt, fun i hi => ?_⟩
  obtain ⟨r, q, h0, h1, h2, h3⟩ := hc i hi
  exact ⟨r, q, fun j v hj => by rw [hb.cell (by exact hlt)]; exact h0 j v hj, h1.below hb, h2.below hb, h3⟩
theorem pairs_kd {w : World} {B : Nat} {s : Value} {l : List (Int × Int)} (h : Pairs w B s l) (hc : CapOk s) : ∃ A c, s = .slice A l.length c ∧ l.length ≤ c ∧ k93.C w A l.length (l.map pr) := by
  obtain ⟨A, c, rfl, hm, hh⟩ := h
  obtain ⟨A', n', c', e, hcc⟩ := hc
  simp only [Value.slice.injEq] at e
  obtain ⟨rfl, rfl, rfl⟩ := e
  refine ⟨A, c, rfl, hcc, by simp, hm, fun h0 => ?_⟩
  obtain ⟨b, off, rfl, _, hh⟩ := hh h0
  refine ⟨_, rfl, fun j p hp => ?_⟩
  obtain ⟨hj, rfl⟩ : ∃ hj : j < l.length, pr l[j] = p := by
    rw [List.getElem?_map] at hp
    obtain ⟨x, hx, rfl⟩ := Option.map_eq_some_iff.1 hp
    obtain ⟨hj, rfl⟩ := List.getElem?_eq_some_iff.1 hx
    exact ⟨hj, rfl⟩
  refine ⟨_, rfl, k93_mk w _, fun i u hu => ?_⟩
  have ha : (⟨b, off, none⟩ : Addr).add (j * 2 + i) = ⟨b, off + (j * 2 + i), none⟩ := by unfold Addr.add; split <;> simp_all
  show w.cell? ((⟨b, off, none⟩ : Addr).add (j * 2 + i)) = _
  rw [ha]
  match i, hu with
  | 0, hu => simp at hu; subst hu; exact (hh j hj).1
  | 1, hu => simp at hu; subst hu; have := (hh j hj).2; rwa [Nat.add_assoc] at this
  | i + 2, hu => simp at hu
theorem ManyC.kd {w : World} {B : Nat} {s : Value} {l : List Tx} (h : ManyC w B s l) : ∃ A c, s = .slice A l.length c ∧ l.length ≤ c ∧ k91.C w A l.length (l.map tx) := by
  obtain ⟨A, c, rfl, hn, hm, hh⟩ := h
  refine ⟨A, c, rfl, hn, by simp, hm, fun h0 => ?_⟩
  obtain ⟨b, off, rfl, _, hh⟩ := hh h0
  refine ⟨_, rfl, fun j p hp => ?_⟩
  obtain ⟨hj, rfl⟩ : ∃ hj : j < l.length, tx l[j] = p := by
    rw [List.getElem?_map] at hp
    obtain ⟨x, hx, rfl⟩ := Option.map_eq_some_iff.1 hp
    obtain ⟨hj, rfl⟩ := List.getElem?_eq_some_iff.1 hx
    exact ⟨hj, rfl⟩
  obtain ⟨r, q, hr, hp1, hp2, hc1, hc2⟩ := hh j hj
  obtain ⟨A6, c6, rfl, l6, g6⟩ := pairs_kd hp1 hc1
  obtain ⟨A7, c7, rfl, l7, g7⟩ := pairs_kd hp2 hc2
  have e6 : (tx l[j]).f6.length = l[j].reads.length := by simp [tx]
  have e7 : (tx l[j]).f7.length = l[j].writes.length := by simp [tx]
  refine ⟨_, rfl, k91_mk w (tx l[j]) (A6 := A6) (c6 := c6) (A7 := A7) (c7 := c7) (by rw [e6]; exact l6) (by rw [e6]; exact g6) (by rw [e7]; exact l7) (by rw [e7]; exact g7), fun i u hu => ?_⟩
  have ha : (⟨b, off, none⟩ : Addr).add (j * 8 + i) = ⟨b, off + (j * 8 + i), none⟩ := by unfold Addr.add; split <;> simp_all
  show w.cell? ((⟨b, off, none⟩ : Addr).add (j * 8 + i)) = _
  rw [ha, ← Nat.add_assoc]
  refine hr i u ?_
  rw [e6, e7] at hu
  exact hu

theorem next_any {w : World} {B : Nat} {s : Value} {l : List Tx} (h : ManyC w B s l) (hm : l.length ≤ 9223372036854775806) (a : Int) (has : Bool) :
    Calls Try.prog 90 #[s, .int .i64 a, .bool has] w fun e w' => e = .returned (.tuple #[.int .i64 (nxt (evs l) a has).1, .bool (nxt (evs l) a has).2]) ∧ Below w.heap.size w w' := by
  obtain ⟨A, c, rfl, hn, hk⟩ := h.kd
  obtain ⟨k, hf⟩ := (next_f hm a has).rounds
  have := assartref34_next.calls k A c (l.map tx) a has (nxt (evs l) a has).1 (nxt (evs l) a has).2 w (by rw [List.length_map]; exact hk) (by rw [List.length_map]; exact hn) hf
  rw [List.length_map] at this
  exact this
theorem words_kd {w : World} {B : Nat} {A : Option Addr} {n c : Nat} {l : List Int} (h : Words w B (.slice A n c) l) : Kd.C (Kd.int .i64) w A l.length l ∧ n = l.length := by
  obtain ⟨A', c', e, hm, hh⟩ := h
  simp only [Value.slice.injEq] at e
  obtain ⟨rfl, rfl, rfl⟩ := e
  refine ⟨⟨rfl, hm, fun h0 => ?_⟩, rfl⟩
  obtain ⟨b, off, rfl, _, hh⟩ := hh h0
  refine ⟨_, rfl, fun j p hp => ?_⟩
  obtain ⟨hj, rfl⟩ := List.getElem?_eq_some_iff.1 hp
  refine ⟨_, rfl, rfl, fun i u hu => ?_⟩
  have ha : (⟨b, off, none⟩ : Addr).add (j * 1 + i) = ⟨b, off + (j * 1 + i), none⟩ := by unfold Addr.add; split <;> simp_all
  show w.cell? ((⟨b, off, none⟩ : Addr).add (j * 1 + i)) = _
  rw [ha]
  match i, hu with
  | 0, hu => simp at hu; subst hu; have := hh j hj; simpa using this
  | i + 1, hu => simp at hu
theorem ref_right {w : World} {B : Nat} {A : Option Addr} {n c : Nat} {fw : List Int} {s : Value} {l : List Tx} (hw : Words w B (.slice A n c) fw) (hcap : n ≤ c) (h : ManyC w B s l) (hm : l.length ≤ 9223372036854775806) (hs : ∀ t ∈ l, t.writes.length ≤ 9223372036854775807) :
    Calls Try.prog 65 #[.slice A n c, s] w fun e w' => e = .returned (.bool (rightB fw.length l)) ∧ Below w.heap.size w w' := by
  obtain ⟨A1, c1, rfl, hn, hk⟩ := h.kd
  obtain ⟨hk0, rfl⟩ := words_kd hw
  obtain ⟨k, hf⟩ := (right_f (fw := fw) hm hs).rounds
  have := assartref34_right.calls k A c fw A1 c1 (l.map tx) _ w hk0 hcap (by rw [List.length_map]; exact hk) (by rw [List.length_map]; exact hn) hf
  rw [List.length_map] at this
  exact this

set_option maxRecDepth 100000 in
theorem ref_stores (a b c d : Int) (f s : Bool) (A6 : Option Addr) (n6 c6 : Nat) (A7 : Option Addr) (n7 c7 : Nat) (w : World) :
    Calls Try.prog 89 #[.agg #[.int .i64 a, .int .i64 b, .int .i64 c, .int .i64 d, .bool f, .bool s, .slice A6 n6 c6, .slice A7 n7 c7]] w fun e w' => e = .returned (.bool (s && decide (0 < n7))) ∧ Below w.heap.size w w' := by
  obtain ⟨w1, hw1⟩ : ∃ w1, w.alloc (.cells #[.int .i64 a, .int .i64 b, .int .i64 c, .int .i64 d, .bool f, .bool s, .slice A6 n6 c6, .slice A7 n7 c7] 91) = w1 := ⟨_, rfl⟩
  have hrow : w1.heap[w.heap.size]? = some (.cells #[.int .i64 a, .int .i64 b, .int .i64 c, .int .i64 d, .bool f, .bool s, .slice A6 n6 c6, .slice A7 n7 c7] 91 (0, 0)) := by rw [← hw1]; exact new_row _ _ _
  have B1 : Below w.heap.size w w1 := by rw [← hw1]; exact (Below.refl _ _).alloc (Nat.le_refl _) _
  have k5 : w1.cell? ⟨w.heap.size, 5, none⟩ = some (.bool s) := by rw [cell_of_row _ _ _ _ _ _ hrow]; rfl
  have k7 : w1.cell? ⟨w.heap.size, 7, none⟩ = some (.slice A7 n7 c7) := by rw [cell_of_row _ _ _ _ _ _ hrow]; rfl
  have HB := Lib.hid B1
  clear hrow B1
  go_enter Try.func89, Try.ntmps89
  cases s <;> by_cases h7 : 0 < n7
  all_goals
    go_wp2
    go_ret
    exact ⟨by first | rfl | simp [h7], HB.out⟩
set_option maxRecDepth 100000 in
theorem ref_raised (a b c d : Int) (f s : Bool) (A6 : Option Addr) (n6 c6 : Nat) (A7 : Option Addr) (n7 c7 : Nat) (w : World) :
    Calls Try.prog 91 #[.agg #[.int .i64 a, .int .i64 b, .int .i64 c, .int .i64 d, .bool f, .bool s, .slice A6 n6 c6, .slice A7 n7 c7]] w fun e w' => e = .returned (.bool (f && decide (0 < c))) ∧ Below w.heap.size w w' := by
  obtain ⟨w1, hw1⟩ : ∃ w1, w.alloc (.cells #[.int .i64 a, .int .i64 b, .int .i64 c, .int .i64 d, .bool f, .bool s, .slice A6 n6 c6, .slice A7 n7 c7] 91) = w1 := ⟨_, rfl⟩
  have hrow : w1.heap[w.heap.size]? = some (.cells #[.int .i64 a, .int .i64 b, .int .i64 c, .int .i64 d, .bool f, .bool s, .slice A6 n6 c6, .slice A7 n7 c7] 91 (0, 0)) := by rw [← hw1]; exact new_row _ _ _
  have B1 : Below w.heap.size w w1 := by rw [← hw1]; exact (Below.refl _ _).alloc (Nat.le_refl _) _
  have k5 : w1.cell? ⟨w.heap.size, 4, none⟩ = some (.bool f) := by rw [cell_of_row _ _ _ _ _ _ hrow]; rfl
  have k7 : w1.cell? ⟨w.heap.size, 2, none⟩ = some (.int .i64 c) := by rw [cell_of_row _ _ _ _ _ _ hrow]; rfl
  have HB := Lib.hid B1
  clear hrow B1
  go_enter Try.func91, Try.ntmps91
  cases f <;> by_cases h7 : 0 < c
  all_goals
    go_wp2
    go_ret
    exact ⟨by first | rfl | simp [h7], HB.out⟩

end OPR
end Go.Proofs.Ytkegfeghdnpajaa

/- opaque.stood, opaque.Check -/
namespace Go.Proofs.Ytkegfeghdnpajaa
open Go.RowKit Go.Bas Txs IMap_ View
open Go.Proofs.YtkegfeghdnpajaaW.PrintWords (Ev LeO Kd at_rounds)
open Go.Proofs.YtkegfeghdnpajaaW.PrintLast
namespace OPR
open Srt hiding Ev
open POpaqueStates

def stoodP (w : List Int) (p : Int × Int) : Bool := decide (0 ≤ p.1) && decide (p.1 < w.length) && decide (w.getD p.1.toNat 0 = p.2)
def stoodB (w : List Int) (ps : List (Int × Int)) : Bool := ps.all (stoodP w)
theorem stood_l0 {w : List Int} {ps : List (Int × Int)} (hl : ps.length ≤ 9223372036854775807) : ∀ d i, i + d = ps.length → Ev (fun k => opaque_stood.l0 k w (ps.map pr) (ps.length : Int) (i : Int)) (stoodB w (ps.drop i)) := by
  intro d
  induction d with
  | zero =>
    intro i hi
    rw [List.drop_of_length_le (by omega)]
    refine Ev.step (f := fun _ => some true) (fun k => ?_) (Ev.now _)
    simp only [opaque_stood.l0]
    rw [if_neg (by omega)]
  | succ d ih =>
    intro i hi
    have hlt : i < ps.length := by omega
    have e : stoodB w (ps.drop i) = (stoodP w ps[i] && stoodB w (ps.drop (i + 1))) := by rw [List.drop_eq_getElem_cons hlt]; rfl
    rw [e]
    have hh : ∀ k, opaque_stood.l0 (k + 1) w (ps.map pr) (ps.length : Int) (i : Int) = if stoodP w ps[i] = true then opaque_stood.l0 k w (ps.map pr) (ps.length : Int) ((i + 1 : Nat) : Int) else some false := fun k => by
      simp only [opaque_stood.l0]
      rw [if_pos (by omega), if_pos (by omega), if_pos (by simp; omega), rd_pr hlt]
      have e0 : (pr ps[i]).f0 = ps[i].1 := rfl
      have e1 : (pr ps[i]).f1 = ps[i].2 := rfl
      rw [e0, e1, w1 (by omega)]
      unfold stoodP
      by_cases c0 : ps[i].1 < 0
      · rw [if_pos c0, if_neg]; simp; omega
      · by_cases c1 : ps[i].1 ≥ w.length
        · rw [if_neg c0, if_pos c1, if_neg]; simp; omega
        · rw [if_neg c0, if_neg c1, if_pos (by omega), if_pos (by omega)]
          by_cases c2 : w.getD ps[i].1.toNat 0 = ps[i].2
          · rw [if_pos (by exact c2), if_pos]
            rw [c2]; simp; omega
          · rw [if_neg (by exact c2), if_neg]
            simp only [decide_eq_false c2, Bool.and_false]; simp
    cases hs : stoodP w ps[i] with
    | true => simp only [hs, if_true] at hh; exact Ev.step hh (ih (i + 1) (by omega))
    | false => simp only [hs, Bool.false_eq_true, if_false] at hh; exact Ev.step hh (Ev.now _)
theorem stood_any {w : World} {B B' : Nat} {v s : Value} {words : List Int} {ps : List (Int × Int)} (hv : Words w B v words) (hvc : CapOk v) (hs : Pairs w B' s ps) (hsc : CapOk s) :
    Calls Try.prog 62 #[v, s] w fun e w' => e = .returned (.bool (stoodB words ps)) ∧ Below w.heap.size w w' := by
  obtain ⟨A1, c1, rfl, hl1, hk1⟩ := pairs_kd hs hsc
  obtain ⟨A0, n0, c0, rfl, hcap⟩ := hvc
  obtain ⟨hk0, rfl⟩ := words_kd hv
  have hm : ps.length ≤ 9223372036854775807 := by
    obtain ⟨_, _, _, hm, _⟩ := hs
    exact hm
  obtain ⟨k, hf⟩ := (stood_l0 (w := words) hm ps.length 0 (by omega)).rounds
  have := opaque_stood.calls k A0 c0 words A1 c1 (ps.map pr) (stoodB words ps) w hk0 hcap (by rw [List.length_map]; exact hk1) (by rw [List.length_map]; exact hl1) (by unfold opaque_stood.f; rw [List.length_map]; exact hf)
  rw [List.length_map] at this
  exact this

/-- what a try has read stood there -/
def readB (words : List Int) (O : List Srt.Ev) (t : Tx) : Bool := decide (t.reads.length = 0) || stoodB (app words (O.takeWhile fun e => decide (e.stamp ≤ t.seen))) t.reads

theorem SV.below {w w' : World} {v : Value} {d : List St} (h : SV w v d) (hb : Below w.heap.size w w') : SV w' v d := by
  rcases h with h | ⟨g, cap, e, hs⟩
  · exact .inl h
  · exact .inr ⟨g, cap, e, hs.below hb hs.1⟩
theorem TW.capok {w : World} {base : Nat} {l : List Int} {v : Value} (h : TW w base l v) : CapOk v := by
  obtain ⟨A, cap, rfl, hl, hr⟩ := h
  rcases hr with ⟨hv, hn⟩ | ⟨g, cp, cur, hv, hg, hh, hc, hcm, hcs, ht⟩
  · simp only [Value.slice.injEq] at hv
    exact ⟨_, _, _, rfl, by omega⟩
  · simp only [Value.slice.injEq] at hv
    exact ⟨_, _, _, rfl, by omega⟩
theorem row_atC {w : World} {A : Option Addr} {c : Nat} {l : List Tx} {B : Nat} (h : ManyC w B (.slice A l.length c) l) {k : Nat} (hk : k < l.length) : ∃ b off r q, A = some ⟨b, off, none⟩ ∧ b < B ∧ w.rangeAt b (off + k * 8) (row l[k] r q) ∧ Pairs w B r l[k].reads ∧ Pairs w B q l[k].writes ∧ CapOk r ∧ CapOk q := by
  obtain ⟨A', c', e, _, hm, hc⟩ := h
  obtain ⟨rfl, _, rfl⟩ : A = A' ∧ l.length = l.length ∧ c = c' := by simpa using e
  obtain ⟨b, off, rfl, hlt, hc⟩ := hc (by omega)
  obtain ⟨r, q, h⟩ := hc k hk
  exact ⟨b, off, r, q, rfl, hlt, h⟩

set_option maxRecDepth 100000 in
set_option maxHeartbeats 2000000 in
theorem checkBad_any {w : World} {A1 : Option Addr} {nw c1 : Nat} {s : Value} {l : List Tx} (h : Many w w.heap.size s l) (hl : l.length ≤ 40) (hin : ∀ t ∈ l, In64 t.stamp ∧ In64 t.seen ∧ In64 t.worker) (hr : rightB nw l = false) :
    Calls Try.prog 32 #[.slice A1 nw c1, s] w fun e w' => e = .returned (.int .i64 2) ∧ Below w.heap.size w w' := by
  have RT := right_any (w := w) (A1 := A1) (nw := nw) (c1 := c1) h hl hin
  rw [hr] at RT
  clear h hr
  go_enter Try.func32, Try.ntmps32
  go_wp2_with (first
    | (go_at_call 60; refine RT.mono ?_; rintro e w2 ⟨rfl, hb2⟩))
  go_ret
  exact ⟨rfl, hb2⟩

set_option maxRecDepth 100000 in
set_option maxHeartbeats 4000000 in
theorem checkOk_any {w : World} {A1 : Option Addr} {nw c1 : Nat} {s : Value} {l : List Tx} {words : List Int} (hW : Words w w.heap.size (.slice A1 nw c1) words) (hnw : words.length = nw) (hn : nw ≤ 1000) (h : ManyC w w.heap.size s l) (hl : l.length ≤ 40) (hin : ∀ t ∈ l, In64 t.stamp ∧ In64 t.seen ∧ In64 t.worker) (hr : rightB nw l = true) :
    Calls Try.prog 32 #[.slice A1 nw c1, s] w fun e w' => ∃ O, e = .returned (.int .i64 (if l.all (readB words O) then 0 else 19)) ∧ Ordered O ∧ Srt.Alike (evs l) O ∧ Below w.heap.size w w' := by
  obtain ⟨g, hg⟩ : ∃ g, w.heap.size = g := ⟨_, rfl⟩
  obtain ⟨hr3, hfit⟩ := right_fit hr
  have RT := right_any (w := w) (A1 := A1) (nw := nw) (c1 := c1) h.many hl hin
  rw [hr] at RT
  rw [hg] at h hW RT ⊢
  obtain ⟨A, c, rfl, hcap, hm, _⟩ := id h
  obtain ⟨n, hnn⟩ : ∃ n, l.length = n := ⟨_, rfl⟩
  have HN := Lib.hid hnn
  have HM := Lib.hid h
  have HW := Lib.hid hW
  have HNW := Lib.hid hnw
  have HFIT := Lib.hid hfit
  have hm : l.length ≤ 9223372036854775807 := hm
  rw [hnn] at RT hm hl ⊢
  have HMN : Hid (ManyC w g (.slice A n c) l) := by have := HM.out; rwa [hnn] at this
  clear h hW hnw hfit hr hin hnn hcap
  go_enter Try.func32, Try.ntmps32
  go_upto_region 3 with (first
    | (go_at_call 60; refine RT.mono ?_; rintro e w2 ⟨rfl, hb2⟩))
  have B2 : Hid (Below g w w2) := hb2
  have g2 : g ≤ w2.heap.size := by rw [← hg]; exact hb2.size
  have AT := all_any (many_mono (HMN.out.many.below B2.out) (show g ≤ w2.heap.size by omega)) (by rw [HN.out]; omega)
  clear RT hb2
  go_upto_region 4 with (first
    | (go_at_call 61; refine AT.mono ?_; rintro e w3 ⟨vd, ds, d, rfl, hsv, hso, hsa, hit, hob, hdl, hb3⟩))
  obtain ⟨O, hO1, hO2, hO3⟩ := sorted_plain hit hsa hso
  have hg3 : w2.heap.size ≤ w3.heap.size := hb3.size
  have B3 : Hid (Below g w w3) := B2.out.trans (hb3.mono (by omega))
  obtain ⟨g3, hgg3⟩ : ∃ g3, w3.heap.size = g3 := ⟨_, rfl⟩
  have HG3 := Lib.hid hgg3
  rw [hgg3] at hg3
  have HO1 := Lib.hid hO1
  have HO2 := Lib.hid hO2
  have HO3 := Lib.hid hO3
  have HSV := Lib.hid hsv
  have HDL := Lib.hid hdl
  clear AT hsv hso hsa hit hob hb3 hO1 hO2 hO3 hdl hgg3
  go_wp2
  go_loopw [16] (fun u16 wr => ∃ i : Nat, i ≤ n ∧ u16 = .int .i64 i ∧ Hid (∀ t ∈ l.take i, readB words O t = true) ∧ Hid (Below g3 w3 wr)) (fun u16 _ => n - (intOf u16).toNat)
  case atStart => exact ⟨0, by omega, rfl, fun t ht => by simp at ht, by rw [Hid, ← HG3.out]; exact Below.refl _ _⟩
  case round =>
    obtain ⟨i, hi, rfl, HR, HB⟩ := hrel
    have hsr : g3 ≤ wr.heap.size := by rw [← HG3.out]; exact HB.out.size
    have hgg3 : g ≤ g3 := by omega
    by_cases hlt : i < n
    · have hlen : i < l.length := by rw [HN.out]; exact hlt
      obtain ⟨b, off, r, q, rfl, hbB, hrow, hP6, hP7, hC6, -⟩ := row_atC (HM.out.below (B3.out.trans (HB.out.mono hgg3))) hlen
      obtain ⟨A6, c6, rfl, m6, _⟩ := id hP6
      obtain ⟨A7, c7, rfl, m7, _⟩ := id hP7
      obtain ⟨t, ht⟩ : ∃ t, l[i] = t := ⟨_, rfl⟩
      rw [ht] at hrow m6 m7 hP6 hC6
      have HT := Lib.hid ht
      have HC6 := Lib.hid hC6
      obtain ⟨n6, hn6⟩ : ∃ n6, t.reads.length = n6 := ⟨_, rfl⟩
      obtain ⟨n7, hn7⟩ : ∃ n7, t.writes.length = n7 := ⟨_, rfl⟩
      have HN6 := Lib.hid hn6
      have HP6 : Hid (Pairs wr g (.slice A6 n6 c6) t.reads) := by rw [Hid, ← hn6]; exact hP6
      have HC6 : Hid (CapOk (.slice A6 n6 c6)) := by rw [Hid, ← hn6]; exact hC6
      have HROW : Hid (wr.rangeAt b (off + i * 8) [.int .i64 t.worker, .int .i64 t.how, .int .i64 t.seen, .int .i64 t.stamp, .bool t.fall, .bool t.sure, .slice A6 n6 c6, .slice A7 n7 c7]) := by
        rw [Hid, ← hn6, ← hn7]; exact hrow
      have m6 : n6 ≤ 9223372036854775807 := by rw [← hn6]; exact m6
      clear hrow hP6 hP7 hC6 ‹0 < l[i].reads.length → _› ‹0 < l[i].writes.length → _› m7 hn6 hn7 ht
      obtain ⟨gb, hgb⟩ : ∃ gb, wr.heap.size = gb := ⟨_, rfl⟩
      rw [hgb] at hsr
      obtain ⟨w2', hw2⟩ : ∃ w2', wr.alloc (.cells #[.int .i64 0, .int .i64 0, .int .i64 0, .int .i64 0, .bool false, .bool false, .slice none 0 0, .slice none 0 0] 91) = w2' := ⟨_, rfl⟩
      have hg2 : Hid (w2'.heap[gb]? = some (.cells #[.int .i64 0, .int .i64 0, .int .i64 0, .int .i64 0, .bool false, .bool false, .slice none 0 0, .slice none 0 0] 91 (0, 0))) := by rw [← hw2, ← hgb]; exact new_row _ _ _
      go_upto_region 7 with (first
        | (refine wpList_load_mid rfl 91 _ rfl b (off + i * 8) (by first | rfl | simp) [.int .i64 t.worker, .int .i64 t.how, .int .i64 t.seen, .int .i64 t.stamp, .bool t.fall, .bool t.sure, .slice A6 n6 c6, .slice A7 n7 c7] _ HROW.out Try.underlying91 rfl txsize ?r3)
        | (refine wpList_store_row rfl 91 _ _ rfl gb #[.int .i64 t.worker, .int .i64 t.how, .int .i64 t.seen, .int .i64 t.stamp, .bool t.fall, .bool t.sure, .slice A6 n6 c6, .slice A7 n7 c7] rfl rfl 91 #[.int .i64 0, .int .i64 0, .int .i64 0, .int .i64 0, .bool false, .bool false, .slice none 0 0, .slice none 0 0] hg2.out txsize rfl (by simp [Value.oneCell']) ?s3))
      obtain ⟨w4, hw4⟩ : ∃ w4, w2'.setRow gb #[.int .i64 t.worker, .int .i64 t.how, .int .i64 t.seen, .int .i64 t.stamp, .bool t.fall, .bool t.sure, .slice A6 n6 c6, .slice A7 n7 c7] = w4 := ⟨_, rfl⟩
      have G4 : w4.heap[gb]? = some (.cells #[.int .i64 t.worker, .int .i64 t.how, .int .i64 t.seen, .int .i64 t.stamp, .bool t.fall, .bool t.sure, .slice A6 n6 c6, .slice A7 n7 c7] 91 (0, 0)) := by rw [← hw4]; exact setRow_same hg2.out
      have s4 : w4.heap.size = gb + 1 := by rw [← hw4, Bas.setRow_size, ← hw2, ← hgb]; simp
      have b4 : Below gb wr w4 := by rw [← hw4, ← hw2]; exact setRow_below ((Below.refl _ _).alloc (by omega) _) (Nat.le_refl _) _
      rw [hw4]
      clear hw4 hw2 hg2 HROW
      have B4 : Hid (Below g3 w3 w4) := HB.out.trans (b4.mono hsr)
      have S4 := Lib.hid s4
      have C6 : w4.drew.cell? ⟨gb, 6, none⟩ = some (.slice A6 n6 c6) := by show w4.cell? _ = _; rw [cell_of_row _ _ _ _ _ _ G4]; rfl
      have C2 : Hid (w4.cell? ⟨gb, 2, none⟩ = some (.int .i64 t.seen)) := by rw [Hid, cell_of_row _ _ _ _ _ _ G4]; rfl
      have P4 : Hid (Pairs w4 g (.slice A6 n6 c6) t.reads) := HP6.out.below (b4.mono (by omega))
      clear b4 s4 HP6 HB
      obtain ⟨bd, hbd⟩ : ∃ bd, readB words O t = bd := ⟨_, rfl⟩
      have HBD := Lib.hid hbd
      clear hbd
      dsimp only [Act.put]
      go_cut [33] from 20 to 33 (fun s33 wx => s33 = .bool (!bd) ∧ Hid (Below g3 w3 wx))
      case first =>
        by_cases h6 : n6 = 0
        · subst h6
          have e : bd = true := by rw [← HBD.out]; unfold readB; rw [HN6.out]; simp
          subst e
          have z6 : ∀ e : Ext (gb + 1) w4, e.at_.cell? ⟨gb, 6, none⟩ = some (.slice A6 0 c6) := fun e => by rw [e.below.cell (show gb < gb + 1 by omega)]; exact C6
          have BX : Hid (∀ w', Below (gb + 1) w4 w' → Below g3 w3 w') := fun w' hb => B4.out.trans (hb.mono (by omega))
          refine wp_region_mono (gb + 1) (by kernel_rfl) (by kernel_rfl) ?_
          repeat (any_goals (go_big_quiet_step (fail)))
          refine wpQuiet_nil ?_
          rintro ⟨w6, hb6⟩
          dsimp only
          go_wp2_with fail
          go_meet
          exact ⟨rfl, BX.out _ hb6⟩
        · have h60 : decide (0 < n6) = true := decide_eq_true (by omega)
          have e : stoodB (app words (O.takeWhile fun e => decide (e.stamp ≤ t.seen))) t.reads = bd := by rw [← HBD.out]; unfold readB; rw [HN6.out]; simp [h6]
          have HE := Lib.hid e
          have UT : Hid (Calls Try.prog 63 #[.slice A1 nw c1, vd, .func (.func 64) #[] #[.pointer (some ⟨gb, 0, none⟩)]] w4.drew fun e w' => ∃ v', e = .returned v' ∧ TW w' w4.drew.heap.size (app words (O.takeWhile fun e => decide (e.stamp ≤ t.seen))) v' ∧ Below w4.drew.heap.size w4.drew w') := by
            have hs : w4.drew.heap.size = gb + 1 := S4.out
            have b5 : Below g3 w3 w4.drew := B4.out.trans ((Below.refl _ _).drew)
            exact upTo_check (w := w4.drew) (cb := gb) (fun x => decide (x ≤ t.seen)) (HW.out.below (B3.out.trans (b5.mono hgg3))) (by omega) (by rw [HNW.out]; omega) (by rw [HNW.out]; exact hn)
              (SV.below HSV.out (by rw [HG3.out]; exact b5)) (by have := HDL.out; omega) (HO1.out.kept b5.size (fun k hk _ => b5.block k (by rw [← HG3.out]; exact hk)) (fun _ _ h => h)) (fun e he q hq => by rw [HNW.out]; exact HFIT.out e (HO3.out.mem.1 he) q hq)
              (fun w' a hb => check_let (by rw [hb.cell (show gb < w4.drew.heap.size by omega)]; exact C2.out) a)
          clear e
          refine start_ (n := 14) (S := fun w' => w'.cell? ⟨gb, 6, none⟩ = some (.slice A6 n6 c6)) (ds := []) #[false, false, false, false, false, false, false, false, false, false, false, false, false, false] (by kernel_rfl) rfl rfl C6 (fun hHeld => ?_)
          refine pure_ (i := 0) (N := (some 20)) (v := ?_) (a' := ?_) #[true, false, false, false, false, false, false, false, false, false, false, false, false, false] rfl rfl (by kernel_rfl) (fun _ _ _ h => h) (Or.inl ⟨by rfl, ?_⟩) ?_ ?_
          rotate_left
          · intro w'
            go_simp
            with_reducible rfl
          rotate_left
          · simp only [Act.put, List.setIfInBounds_toArray, List.set_cons_zero, List.set_cons_succ, i64_w, i32_w]
            rfl
          refine take_ (i := 1) (N := (some 21)) (v := ?_) (a' := ?_) #[true, true, false, false, false, false, false, false, false, false, false, false, false, false] rfl rfl (by kernel_rfl) (fun _ _ _ h => h) (Or.inl ⟨by rfl, ?_⟩) hHeld ?_ ?_
          rotate_left
          · intro w' s0
            go_simp
            with_reducible rfl
          rotate_left
          · simp only [Act.put, List.setIfInBounds_toArray, List.set_cons_zero, List.set_cons_succ, i64_w, i32_w]
            rfl
          refine pure_ (i := 2) (N := (some 22)) (v := ?_) (a' := ?_) #[true, true, true, false, false, false, false, false, false, false, false, false, false, false] rfl rfl (by kernel_rfl) (fun _ _ _ h => h) (Or.inl ⟨by rfl, ?_⟩) ?_ ?_
          rotate_left
          · intro w'
            go_simp
            with_reducible rfl
          rotate_left
          · simp only [Act.put, List.setIfInBounds_toArray, List.set_cons_zero, List.set_cons_succ, i64_w, i32_w]
            rfl
          refine pure_ (i := 3) (N := (some 23)) (v := ?_) (a' := ?_) #[true, true, true, true, false, false, false, false, false, false, false, false, false, false] rfl rfl (by kernel_rfl) (fun _ _ _ h => h) (Or.inl ⟨by rfl, ?_⟩) ?_ ?_
          rotate_left
          · intro w'
            go_simp
            (try simp only [h60])
            with_reducible rfl
          rotate_left
          · simp only [Act.put, List.setIfInBounds_toArray, List.set_cons_zero, List.set_cons_succ, i64_w, i32_w]
            rfl
          refine pure_ (i := 4) (N := (some 24)) (v := ?_) (a' := ?_) #[true, true, true, true, true, false, false, false, false, false, false, false, false, false] rfl rfl (by kernel_rfl) (fun _ _ _ h => h) (Or.inl ⟨by rfl, ?_⟩) ?_ ?_
          rotate_left
          · intro w'
            go_simp
            with_reducible rfl
          rotate_left
          · simp only [Act.put, List.setIfInBounds_toArray, List.set_cons_zero, List.set_cons_succ, i64_w, i32_w]
            rfl
          refine pure_ (i := 5) (N := (some 25)) (v := ?_) (a' := ?_) #[true, true, true, true, true, true, false, false, false, false, false, false, false, false] rfl rfl (by kernel_rfl) (fun _ _ _ h => h) (Or.inl ⟨by rfl, ?_⟩) ?_ ?_
          rotate_left
          · intro w'
            go_simp
            with_reducible rfl
          rotate_left
          · simp only [Act.put, List.setIfInBounds_toArray, List.set_cons_zero, List.set_cons_succ, i64_w, i32_w]
            rfl
          refine pure_ (i := 6) (N := (some 26)) (v := ?_) (a' := ?_) #[true, true, true, true, true, true, true, false, false, false, false, false, false, false] rfl rfl (by kernel_rfl) (fun _ _ _ h => h) (Or.inl ⟨by rfl, ?_⟩) ?_ ?_
          rotate_left
          · intro w'
            go_simp
            with_reducible rfl
          rotate_left
          · simp only [Act.put, List.setIfInBounds_toArray, List.set_cons_zero, List.set_cons_succ, i64_w, i32_w]
            rfl
          refine pure_ (i := 7) (N := (some 27)) (v := ?_) (a' := ?_) #[true, true, true, true, true, true, true, true, false, false, false, false, false, false] rfl rfl (by kernel_rfl) (fun _ _ _ h => h) (Or.inl ⟨by rfl, ?_⟩) ?_ ?_
          rotate_left
          · intro w'
            go_simp
            with_reducible rfl
          rotate_left
          · simp only [Act.put, List.setIfInBounds_toArray, List.set_cons_zero, List.set_cons_succ, i64_w, i32_w]
            rfl
          refine pure_ (i := 9) (N := (some 29)) (v := ?_) (a' := ?_) #[true, true, true, true, true, true, true, true, false, true, false, false, false, false] rfl rfl (by kernel_rfl) (fun _ _ _ h => h) (Or.inl ⟨by rfl, ?_⟩) ?_ ?_
          rotate_left
          · intro w'
            go_simp
            with_reducible rfl
          rotate_left
          · simp only [Act.put, List.setIfInBounds_toArray, List.set_cons_zero, List.set_cons_succ, i64_w, i32_w]
            rfl
          refine take_ (i := 10) (N := (some 30)) (v := ?_) (a' := ?_) #[true, true, true, true, true, true, true, true, false, true, true, false, false, false] rfl rfl (by kernel_rfl) (fun _ _ _ h => h) (Or.inl ⟨by rfl, ?_⟩) hHeld ?_ ?_
          rotate_left
          · intro w' s0
            go_simp
            with_reducible rfl
          rotate_left
          · simp only [Act.put, List.setIfInBounds_toArray, List.set_cons_zero, List.set_cons_succ, i64_w, i32_w]
            rfl
          refine one_ (i := 8) (N := (some 28)) #[true, true, true, true, true, true, true, true, true, true, true, false, false, false] rfl rfl (by kernel_rfl) (by decide) (fun K hK => ?_)
          refine goes_ Try.func63 (by kernel_rfl) rfl #[.slice A1 nw c1, vd, .func (.func 64) #[] #[.pointer (some ⟨gb, 0, none⟩)]] (by rfl) rfl rfl (by first | rfl | (simp [Act.eval]; done) | (go_simp; done)) ?_
          refine UT.out.mono ?_
          rintro e w6 ⟨v6, rfl, t6, hb6'⟩
          have D6 : w6.cell? ⟨gb, 6, none⟩ = some (.slice A6 n6 c6) := by rw [hb6'.cell (show gb < w4.drew.heap.size by show gb < w4.heap.size; rw [S4.out]; omega)]; exact C6
          have ST := stood_any t6.words (TW.capok t6) (Pairs.below P4.out ((Below.refl _ _).drew.trans (hb6'.mono (by show g ≤ w4.heap.size; rw [S4.out]; omega)))) HC6.out
          rw [HE.out] at ST
          have B6 : Hid (Below g3 w3 w6) := B4.out.trans ((Below.refl _ _).drew.trans (hb6'.mono (by show g3 ≤ w4.heap.size; rw [S4.out]; omega)))
          clear t6 hb6'
          refine ⟨_, rfl, ?_⟩
          refine hK.out _ _ D6 (fun hHeld => ?_)
          clear hK K
          refine norm_ (a' := ?_) ?_ ?_
          rotate_left
          · show Act.put _ (some 28) _ = _
            simp only [Act.put, List.setIfInBounds_toArray, List.set_cons_zero, List.set_cons_succ, i64_w, i32_w]
            rfl
          refine one_ (i := 11) (N := (some 31)) #[true, true, true, true, true, true, true, true, true, true, true, true, false, false] rfl rfl (by kernel_rfl) (by decide) (fun K hK => ?_)
          refine goes_ Try.func62 (by kernel_rfl) rfl #[v6, .slice A6 n6 c6] (by rfl) rfl rfl (by first | rfl | (simp [Act.eval]; done) | (go_simp; done)) ?_
          refine ST.mono ?_
          rintro e w7 ⟨rfl, hb7⟩
          have D7 : w7.cell? ⟨gb, 6, none⟩ = some (.slice A6 n6 c6) := (hb7.cell (World.block_lt_of_cell? _ _ D6)).trans D6
          refine ⟨_, rfl, ?_⟩
          refine hK.out _ _ D7 (fun hHeld => ?_)
          clear hK K
          refine norm_ (a' := ?_) ?_ ?_
          rotate_left
          · show Act.put _ (some 31) _ = _
            simp only [Act.put, List.setIfInBounds_toArray, List.set_cons_zero, List.set_cons_succ, i64_w, i32_w]
            rfl
          refine pure_ (i := 12) (N := (some 32)) (v := ?_) (a' := ?_) #[true, true, true, true, true, true, true, true, true, true, true, true, true, false] rfl rfl (by kernel_rfl) (fun _ _ _ h => h) (Or.inl ⟨by rfl, ?_⟩) ?_ ?_
          rotate_left
          · intro w'
            go_simp
            with_reducible rfl
          rotate_left
          · simp only [Act.put, List.setIfInBounds_toArray, List.set_cons_zero, List.set_cons_succ, i64_w, i32_w]
            rfl
          refine pure_ (i := 13) (N := (some 33)) (v := ?_) (a' := ?_) #[true, true, true, true, true, true, true, true, true, true, true, true, true, true] rfl rfl (by kernel_rfl) (fun _ _ _ h => h) (Or.inl ⟨by rfl, ?_⟩) ?_ ?_
          rotate_left
          · intro w'
            go_simp
            with_reducible rfl
          rotate_left
          · simp only [Act.put, List.setIfInBounds_toArray, List.set_cons_zero, List.set_cons_succ, i64_w, i32_w]
            rfl
          refine done_ (by kernel_rfl) ?_
          go_wp2_with fail
          go_meet
          exact ⟨rfl, B6.out.trans (hb7.mono (by have := B6.out.size; rw [HG3.out] at this; exact this))⟩
      case rest =>
        obtain ⟨rfl, B5⟩ := hcut
        cases bd with
        | true =>
          have HR2 : Hid (∀ t' ∈ l.take (i + 1), readB words O t' = true) := fun t' ht' => by
            rw [List.take_succ_eq_append_getElem hlen] at ht'
            rcases List.mem_append.1 ht' with ht' | ht'
            · exact HR.out t' ht'
            · rw [List.mem_singleton.1 ht', HT.out]; exact HBD.out
          clear HR
          go_wp2
          go_roundw
          case rel => exact ⟨i + 1, by omega, by go_num, HR2, B5⟩
          case measure => simp [intOf]; omega
        | false =>
          have e : l.all (readB words O) = false := by
            apply Bool.eq_false_iff.2
            intro hh
            have := List.all_eq_true.1 hh l[i] (List.getElem_mem hlen)
            rw [HT.out, HBD.out] at this; cases this
          go_wp2
          go_ret
          exact ⟨O, by rw [e]; rfl, HO2.out, HO3.out, B3.out.trans (B5.out.mono hgg3)⟩
    · obtain rfl : n = i := by omega
      have e : l.all (readB words O) = true := by
        refine List.all_eq_true.2 fun t ht => HR.out t ?_
        rw [List.take_of_length_le (by rw [HN.out]; exact Nat.le_refl _)]; exact ht
      go_wp2
      go_ret
      exact ⟨O, by rw [e]; rfl, HO2.out, HO3.out, B3.out.trans (HB.out.mono hgg3)⟩

end OPR
end Go.Proofs.Ytkegfeghdnpajaa

/- the loop of ref34.state in plain -/
namespace Go.Proofs.Ytkegfeghdnpajaa
open Go.RowKit Go.Bas Go.WideShapes Txs View
namespace OPR
open Srt hiding Ev

theorem flag_next {l : List Tx} {i : Nat} (h : i < l.length) (a : Int) : (evs (l.take (i + 1))).filter (atF a true) = (evs (l.take i)).filter (atF a true) ++ if raisedB l[i] && decide (l[i].seen = a) then [⟨l[i].seen, true, [(2, wrap64 (l[i].worker + 1))]⟩] else [] := by
  rw [evs_next h, List.filter_append]
  congr 1
  show (flagPart l[i] ++ storePart l[i]).filter (atF a true) = _
  have e : flagPart l[i] = if raisedB l[i] then [⟨l[i].seen, true, [(2, wrap64 (l[i].worker + 1))]⟩] else [] := rfl
  have e2 : (storePart l[i]).filter (atF a true) = [] := by unfold storePart; split <;> simp [atF]
  rw [List.filter_append, e2, List.append_nil, e]
  cases raisedB l[i] <;> by_cases c : l[i].seen = a <;> simp [atF, c]
theorem store_next {l : List Tx} {i : Nat} (h : i < l.length) (a : Int) : (evs (l.take (i + 1))).filter (atF a false) = (evs (l.take i)).filter (atF a false) ++ if storesB l[i] && decide (l[i].stamp = a) then [⟨l[i].stamp, false, l[i].writes⟩] else [] := by
  rw [evs_next h, List.filter_append]
  congr 1
  show (flagPart l[i] ++ storePart l[i]).filter (atF a false) = _
  have e2 : (flagPart l[i]).filter (atF a false) = [] := by unfold flagPart; split <;> simp [atF]
  rw [List.filter_append, e2, List.nil_append]
  unfold storePart
  cases storesB l[i] <;> by_cases c : l[i].stamp = a <;> simp [atF, c]
theorem app_flag (w : List Int) (X : List Srt.Ev) (s v : Int) : app w (X ++ [⟨s, true, [(2, v)]⟩]) = (app w X).set 2 v := by rw [app_append]; rfl
theorem app_store (w : List Int) (X : List Srt.Ev) (s : Int) (ps : List (Int × Int)) : app w (X ++ [⟨s, false, ps⟩]) = putW (app w X) ps := by rw [app_append]; rfl

def SI (O : List Srt.Ev) (first : List Int) (a : Int) (has : Bool) (W : List Int) : Prop := (has = true ∧ W = app first (O.filter fun e => decide (e.stamp < a)) ∧ ∃ e ∈ O, e.stamp = a) ∨ (has = false ∧ W = app first O)
def LI (O : List Srt.Ev) (a : Int) (has : Bool) (s : Int) (all : Bool) : Prop := ∀ e ∈ O, (has = true → e.stamp < a) → all = true ∨ e.stamp ≤ s
def mes (O : List Srt.Ev) (a : Int) (has : Bool) : Nat := if has then (O.filter fun e => decide (a ≤ e.stamp)).length + 1 else 0
def bOf : Value → Bool | .bool b => b | _ => false
theorem filter_len {O : List Srt.Ev} {p q : Srt.Ev → Bool} (h : ∀ e ∈ O, p e = true → q e = true) (x : Srt.Ev) (hx : x ∈ O) (h1 : p x = false) (h2 : q x = true) : (O.filter p).length < (O.filter q).length := by
  induction O with
  | nil => cases hx
  | cons y r ih =>
    have hle : ∀ (r : List Srt.Ev), (∀ e ∈ r, p e = true → q e = true) → (r.filter p).length ≤ (r.filter q).length := by
      intro r hr
      induction r with
      | nil => simp
      | cons z t iht =>
        have := iht fun e he => hr e (by simp [he])
        have h3 := hr z (by simp)
        rw [List.filter_cons, List.filter_cons]
        cases hp : p z with
        | true => rw [h3 hp]; simpa using this
        | false => cases q z <;> simp <;> omega
    rcases List.mem_cons.1 hx with rfl | hx
    · rw [List.filter_cons, List.filter_cons, h1, h2]
      have := hle r fun e he => h e (by simp [he])
      simp; omega
    · have := ih (fun e he => h e (by simp [he])) hx
      have h3 := h y (by simp)
      rw [List.filter_cons, List.filter_cons]
      cases hp : p y with
      | true => rw [h3 hp]; simpa using this
      | false => cases q y <;> simp <;> omega
theorem filter_all {O : List Srt.Ev} {p : Srt.Ev → Bool} (h : ∀ e ∈ O, p e = true) : O.filter p = O := List.filter_eq_self.2 h
theorem SI_start {E O : List Srt.Ev} (hA : Srt.Alike E O) (first : List Int) (s : Int) (all : Bool) : SI O first (nxt E 0 false).1 (nxt E 0 false).2 first ∧ LI O (nxt E 0 false).1 (nxt E 0 false).2 s all := by
  cases hb : (nxt E 0 false).2 with
  | false =>
    have hn := nxt_none hb
    have hO : O = [] := by
      cases O with
      | nil => rfl
      | cons x r => exact absurd (hn x (hA.mem.1 (by simp))).1 (by simp)
    subst hO
    exact ⟨.inr ⟨rfl, rfl⟩, fun e he => by cases he⟩
  | true =>
    obtain ⟨⟨x, hx, _, hxe⟩, h2⟩ := nxt_some hb
    have hmin : ∀ e ∈ O, (nxt E 0 false).1 ≤ e.stamp := fun e he => h2 e (hA.mem.1 he) (by simp)
    refine ⟨.inl ⟨rfl, ?_, x, hA.mem.2 hx, hxe⟩, fun e he h => ?_⟩
    · rw [filter_none fun e he => by have := hmin e he; simp; omega]; rfl
    · have := hmin e he; have := h rfl; omega
theorem SI_stop {O : List Srt.Ev} {first W : List Int} {a s : Int} {has all : Bool} (h : SI O first a has W) (hL : LI O a has s all) (hx : (has && (all || decide (a ≤ s))) = false) : W = app first (O.filter fun e => all || decide (e.stamp ≤ s)) := by
  rcases h with ⟨rfl, rfl, _⟩ | ⟨rfl, rfl⟩
  · simp only [Bool.true_and, Bool.or_eq_false_iff, decide_eq_false_iff_not] at hx
    congr 1
    refine List.filter_congr fun e he => ?_
    by_cases c : e.stamp < a
    · rcases hL e he (fun _ => c) with h | h
      · rw [hx.1] at h; cases h
      · simp [c, h]
    · simp [c, hx.1]; omega
  · rw [filter_all]
    intro e he
    rcases hL e he (fun h => by cases h) with h | h
    · simp [h]
    · simp [h]
theorem SI_step {E O : List Srt.Ev} (hO : Ordered O) (hA : Srt.Alike E O) {first W : List Int} {a s : Int} {all : Bool} (h : SI O first a true W) (hL : LI O a true s all) (hx : (all || decide (a ≤ s)) = true) :
    SI O first (nxt E a true).1 (nxt E a true).2 (app (app W (E.filter (atF a true))) (E.filter (atF a false))) ∧ LI O (nxt E a true).1 (nxt E a true).2 s all ∧ mes O (nxt E a true).1 (nxt E a true).2 < mes O a true := by
  obtain ⟨_, rfl, x0, hx0, hxa⟩ : _ ∧ _ ∧ _ := by
    rcases h with h | ⟨h, _⟩
    · exact h
    · cases h
  rw [app_at hO hA]
  have hle : ∀ e ∈ O, e.stamp ≤ a → all = true ∨ e.stamp ≤ s := fun e he hea => by
    simp only [Bool.or_eq_true, decide_eq_true_eq] at hx
    rcases hx with hx | hx
    · exact .inl hx
    · exact .inr (by omega)
  cases hb : (nxt E a true).2 with
  | false =>
    have hn : ∀ e ∈ O, e.stamp ≤ a := fun e he => (nxt_none hb e (hA.mem.1 he)).2
    refine ⟨.inr ⟨rfl, by rw [filter_all fun e he => by simpa using hn e he]⟩, fun e he _ => hle e he (hn e he), by simp [mes]⟩
  | true =>
    obtain ⟨⟨x, hx1, hx2, hxe⟩, h2⟩ := nxt_some hb
    have hx2 := hx2 rfl
    have hmin : ∀ e ∈ O, a < e.stamp → (nxt E a true).1 ≤ e.stamp := fun e he h => h2 e (hA.mem.1 he) (fun _ => h)
    refine ⟨.inl ⟨rfl, ?_, x, hA.mem.2 hx1, hxe⟩, fun e he h => ?_, ?_⟩
    · rw [below_next hmin (by omega)]
    · have h := h rfl
      refine hle e he ?_
      apply Int.not_lt.1
      intro hh
      have := hmin e he hh
      omega
    · unfold mes
      simp only [if_true]
      have := filter_len (O := O) (p := fun e => decide ((nxt E a true).1 ≤ e.stamp)) (q := fun e => decide (a ≤ e.stamp)) (fun e _ h => by simp at h ⊢; omega) x0 hx0 (by simp; omega) (by simp; omega)
      omega

end OPR
end Go.Proofs.Ytkegfeghdnpajaa

/- ref34.state -/
namespace Go.Proofs.Ytkegfeghdnpajaa
open Go.RowKit Go.Bas Go.WideShapes Txs View IMap_
namespace OPR
open Srt hiding Ev

theorem pair_row {w : World} {B : Nat} {A : Option Addr} {n cp : Nat} {ps : List (Int × Int)} (h : Pairs w B (.slice A n cp) ps) : n = ps.length ∧ ∀ k (hk : k < ps.length), ∃ b off, A = some ⟨b, off, none⟩ ∧ b < B ∧ w.rangeAt b (off + k * 2) [.int .i64 ps[k].1, .int .i64 ps[k].2] := by
  obtain ⟨A', c', e, hm, hc⟩ := h
  simp at e
  obtain ⟨rfl, rfl, rfl⟩ := e
  refine ⟨rfl, fun k hk => ?_⟩
  obtain ⟨b, off, rfl, hlt, hc⟩ := hc (by omega)
  refine ⟨b, off, rfl, hlt, ?_⟩
  rintro (_ | _ | j) v hv <;> simp at hv <;> subst hv
  · exact (hc k hk).1
  · exact (hc k hk).2
theorem wpList_load_mid_if {P : Program} {ops : Array Oper} {rest : List Oper} {op : Oper} {a : Act} {w : World} {Q : Exit → Act → World → Prop} (hw : Region.wanted op (yielded ops a.tmps) = true) (ty : TypeId) (x : Operand) (ho : op.op = .load ty x)
    (b o : Nat) (hx : a.eval x = .pointer (some ⟨b, o, none⟩)) (cs : List Value) (d : TypeDesc) (hc : w.rangeAt b o cs)
    (hu : P.underlying ty = some d) (hd : d.isRow = true) (hi : (P.info? ty).map (·.size) = some cs.length)
    (h : wpList P ops Q rest (a.put op.dst (.agg cs.toArray)) w) : wpList P ops Q (op :: rest) a w :=
  BigFrame.wpList_want hw fun _ hK => wp_load_mid ty x ho b o hx cs d hc hu hd hi (hK _ _ h)

set_option maxRecDepth 100000 in
set_option maxHeartbeats 8000000 in
theorem state_any {w : World} {A1 : Option Addr} {nw c1 : Nat} {s : Value} {l : List Tx} {first : List Int} {O : List Srt.Ev} (hW : Words w w.heap.size (.slice A1 nw c1) first) (h3 : 3 ≤ nw) (hn : nw ≤ 1000) (h : ManyC w w.heap.size s l) (hl : l.length ≤ 40)
    (hfit : ∀ t ∈ l, storesB t = true → ∀ q ∈ t.writes, 0 ≤ q.1 ∧ q.1 < nw) (hO : Ordered O) (hA : Srt.Alike (evs l) O) (st : Int) (all : Bool) :
    Calls Try.prog 66 #[.slice A1 nw c1, s, .int .i64 st, .bool all] w fun e w' => ∃ v', e = .returned v' ∧ TW w' w.heap.size (app first (O.filter fun e => all || decide (e.stamp ≤ st))) v' ∧ Below w.heap.size w w' := by
  obtain ⟨A, c, rfl, hcap, hm, hc⟩ := id h
  have hM := Lib.hid h
  clear hc h
  obtain ⟨n, hnn⟩ : ∃ n, l.length = n := ⟨_, rfl⟩
  obtain ⟨g, hg⟩ : ∃ g, w.heap.size = g := ⟨_, rfl⟩
  have hm : l.length ≤ 9223372036854775807 := hm
  have HN := Lib.hid hnn
  have HNW : Hid (first.length = nw) := by
    obtain ⟨_, _, e, _⟩ := id hW
    simp only [Value.slice.injEq] at e
    exact e.2.1.symm
  have HF := Lib.hid hfit
  have HO := Lib.hid hO
  have HA := Lib.hid hA
  rw [hg] at hM hW
  have hMN : Hid (ManyC w g (.slice A n c) l) := by have := hM.out; rwa [hnn] at this
  rw [hnn] at hm hl hcap ⊢
  rw [hg]
  clear hnn hfit hO hA
  obtain ⟨w2, hw2⟩ : ∃ w2, w.alloc (.cells #[] 3) = w2 := ⟨_, rfl⟩
  have T2 : Hid (TW w2 g [] (.slice (some ⟨g, 0, none⟩) 0 0)) := by have := TW.made w; rw [hw2, hg] at this; exact this
  have B2 : Hid (Below g w w2) := by rw [← hw2]; exact (Below.refl _ _).alloc (by omega) _
  have S2 : Hid (w2.heap.size = g + 1) := by rw [Hid, ← hw2, ← hg]; simp
  have HW2 : Hid (Words w2 g (.slice A1 nw c1) first) := hW.below B2.out
  clear hW
  go_enter Try.func66, Try.ntmps66
  go_upto_region 1 with fail
  go_upto_region 2 with (first
    | (at_builtin; refine wpList_addwords rfl _ _ rfl g [] (.slice (some ⟨g, 0, none⟩) 0 0) rfl T2.out (by simp) (by rw [S2.out]; omega) g first _ _ _ rfl HW2.out (by omega) ?_; intro v3 w3 t3 g3 o3
       have T3 : Hid (TW w3 g first v3) := t3
       have B3 : Hid (Below g w w3) := B2.out.trans ((Chg.grown (S := fun k => g ≤ k) g3 (fun k hk => by simp [Value.ownBlock] at hk; omega)).below (by rw [S2.out]; omega) (fun k hk => hk))
       clear t3 g3 o3))
  obtain ⟨A3, c3, rfl, -⟩ := id T3.out
  obtain ⟨q, rfl, hq1, -, hq2⟩ := T3.out.shape (by rw [HNW.out]; omega)
  rw [HNW.out] at T3 ⊢
  clear T2 B2 S2 HW2 hw2
  have hgw : g ≤ w3.heap.size := by rw [← hg]; exact B3.out.size
  have N0 := next_any ((hMN.out.below B3.out)) (by rw [HN.out]; omega) 0 false
  have SS0 := SI_start HA.out first st all
  obtain ⟨⟨a0, b0⟩, hab⟩ : ∃ p, nxt (evs l) 0 false = p := ⟨_, rfl⟩
  rw [hab] at N0 SS0
  have SI0 := Lib.hid SS0.1
  have LI0 := Lib.hid SS0.2
  clear SS0 hab
  go_upto_region 3 with (first
    | (go_at_call 90; refine N0.mono ?_; rintro e w4 ⟨rfl, hb4⟩))
  have T4 : Hid (TW w4 g first (.slice (some ⟨q, 0, none⟩) nw c3)) := T3.out.kept fun i hi => hb4.block i (T3.out.own_lt hi)
  have B4 : Hid (Below g w w4) := B3.out.trans (hb4.mono hgw)
  clear hb4 T3 B3 N0 hgw
  go_wp2
  go_loopw [10, 11, 12, 13, 14] (fun u10 u11 u12 u13 u14 wr => ∃ (a : Int) (b : Bool) (W : List Int), u10 = .int .i64 a ∧ u11 = .bool b ∧ W.length = nw ∧ Hid (SI O first a b W) ∧ Hid (LI O a b st all) ∧ Hid (TW wr g W (.slice (some ⟨q, 0, none⟩) nw c3)) ∧ Hid (Below g w wr)) (fun u10 u11 _ _ _ _ => mes O (intOf u10) (bOf u11))
  case atStart => exact ⟨a0, b0, first, rfl, rfl, HNW.out, SI0, LI0, T4, B4⟩
  case round =>
    clear SI0 LI0 T4 B4
    obtain ⟨a, b, W, rfl, rfl, hWl, HSI, HLI, HT, HB⟩ := hrel
    by_cases hx : (b && (all || decide (a ≤ st))) = true
    · obtain ⟨rfl, hx2⟩ : b = true ∧ (all || decide (a ≤ st)) = true := by rw [Bool.and_eq_true] at hx; exact hx
      have STEP := SI_step HO.out HA.out HSI.out HLI.out hx2
      have HSTEP := Lib.hid STEP
      have HWl := Lib.hid hWl
      clear STEP hx HSI HLI hWl
      go_upto_region 3 with fail
      go_cut [31] from 23 to 30 (fun s31 wx => s31 = .bool true ∧ wx = wr)
      case first =>
        cases all with
        | true =>
          go_wp2_with fail
          go_meet
          exact ⟨rfl, rfl⟩
        | false =>
          have ha : a ≤ st := by simpa using hx2
          go_wp2_with fail
          go_meet
          exact ⟨rfl, rfl⟩
      case rest =>
        obtain ⟨rfl, rfl⟩ := hcut
        clear hx2
        go_upto_if 31 with fail
        go_wp2
        go_loopw [12] (fun u12 wq => ∃ i : Nat, i ≤ n ∧ u12 = .int .i64 i ∧ Hid (TW wq g (app W ((evs (l.take i)).filter (atF a true))) (.slice (some ⟨q, 0, none⟩) nw c3)) ∧ Hid (Below g w wq)) (fun u12 _ => n - (intOf u12).toNat)
        case atStart => exact ⟨0, by omega, rfl, HT, HB⟩
        case round =>
          clear HT HB
          obtain ⟨i, hi, rfl, HT, HB⟩ := hrel
          have hsr : g ≤ wr.heap.size := by rw [← hg]; exact HB.out.size
          by_cases hlt : i < n
          · have hlen : i < l.length := by rw [HN.out]; exact hlt
            obtain ⟨b, off, r, q', rfl, hbB, hrow, hP6, hP7⟩ := row_at (hM.out.many.below HB.out) hlen
            obtain ⟨A6, c6, rfl, m6, _⟩ := id hP6
            obtain ⟨A7, c7, rfl, m7, _⟩ := id hP7
            have hnext := flag_next hlen a
            obtain ⟨t, ht⟩ : ∃ t, l[i] = t := ⟨_, rfl⟩
            rw [ht] at hrow m6 m7 hnext
            clear hP6 hP7 ‹0 < l[i].reads.length → _› ‹0 < l[i].writes.length → _› ht
            obtain ⟨n6, hn6⟩ : ∃ n6, t.reads.length = n6 := ⟨_, rfl⟩
            obtain ⟨n7, hn7⟩ : ∃ n7, t.writes.length = n7 := ⟨_, rfl⟩
            obtain ⟨sn, hsn⟩ : ∃ x, t.seen = x := ⟨_, rfl⟩
            obtain ⟨wk, hwk⟩ : ∃ x, t.worker = x := ⟨_, rfl⟩
            have HROW : Hid (wr.rangeAt b (off + i * 8) [.int .i64 wk, .int .i64 t.how, .int .i64 sn, .int .i64 t.stamp, .bool t.fall, .bool t.sure, .slice A6 n6 c6, .slice A7 n7 c7]) := by
              rw [Hid, ← hn6, ← hn7, ← hsn, ← hwk]; exact hrow
            have RT := fun w' => ref_raised wk t.how sn t.stamp t.fall t.sure A6 n6 c6 A7 n7 c7 w'
            obtain ⟨rb, hrb⟩ : ∃ rb, (t.fall && decide (0 < sn)) = rb := ⟨_, rfl⟩
            have hrb2 : raisedB t = rb := by unfold raisedB; rw [hsn, hrb]
            simp only [hrb] at RT
            rw [hrb2, hsn, hwk] at hnext
            have HX := Lib.hid hnext
            have hlq : (app W ((evs (l.take i)).filter (atF a true))).length = nw := by rw [app_length]; exact HWl.out
            have HLQ := Lib.hid hlq
            obtain ⟨W1, hW1⟩ : ∃ W1, app W ((evs (l.take i)).filter (atF a true)) = W1 := ⟨_, rfl⟩
            rw [hW1] at HT HLQ
            have HW1 := Lib.hid hW1
            clear hrow m6 m7 hn6 hn7 hsn hwk hrb hrb2 hnext hlq hW1
            cases rb with
            | false =>
              have e1 : Hid (app W ((evs (l.take (i + 1))).filter (atF a true)) = W1) := by rw [Hid, HX.out, ← HW1.out]; simp
              go_wp2_with (first
                | (refine wpList_load_mid rfl 91 _ rfl b (off + i * 8) (by first | rfl | simp) [.int .i64 wk, .int .i64 t.how, .int .i64 sn, .int .i64 t.stamp, .bool t.fall, .bool t.sure, .slice A6 n6 c6, .slice A7 n7 c7] _ HROW.out Try.underlying91 rfl txsize ?_)
                | (go_at_call 91; refine (RT _).mono ?_; rintro e w5 ⟨rfl, hb5⟩))
              have T5 : Hid (TW w5 g W1 (.slice (some ⟨q, 0, none⟩) nw c3)) := HT.out.kept fun k hk => hb5.block k (HT.out.own_lt hk)
              have B5 : Hid (Below g w w5) := HB.out.trans (hb5.mono hsr)
              go_roundw
              case rel => exact ⟨i + 1, by omega, by go_num, by rw [Hid, e1.out]; exact T5.out, B5⟩
              case measure => simp [intOf]; omega
            | true =>
              by_cases hs : sn = a
              · have hs' := hs.symm
                subst hs'
                have e1 : Hid (app W ((evs (l.take (i + 1))).filter (atF a true)) = W1.set 2 (wrap64 (wk + 1))) := by
                  rw [Hid, HX.out, ← HW1.out]
                  simp only [Bool.true_and, decide_true, if_true]
                  rw [app_flag]
                clear hs
                go_wp2_with (first
                  | (refine wpList_load_mid rfl 91 _ rfl b (off + i * 8) (by first | rfl | simp) [.int .i64 wk, .int .i64 t.how, .int .i64 a, .int .i64 t.stamp, .bool t.fall, .bool t.sure, .slice A6 n6 c6, .slice A7 n7 c7] _ HROW.out Try.underlying91 rfl txsize ?_)
                  | (go_at_call 91; refine (RT _).mono ?_; rintro e w5 ⟨rfl, hb5⟩
                     have k2 : w5.cell? ⟨b, off + i * 8 + 2, none⟩ = some (.int .i64 a) := by rw [hb5.cell (show b < wr.heap.size by omega)]; exact HROW.out 2 _ rfl
                     have k0 : w5.cell? ⟨b, off + i * 8, none⟩ = some (.int .i64 wk) := by rw [hb5.cell (show b < wr.heap.size by omega)]; exact HROW.out 0 _ rfl
                     have T5 : Hid (TW w5 g W1 (.slice (some ⟨q, 0, none⟩) nw c3)) := HT.out.kept fun k hk => hb5.block k (HT.out.own_lt hk)
                     have B5 : Hid (Below g w w5) := HB.out.trans (hb5.mono hsr)
                     have c5 := T5.out.cell (k := 2) (by rw [HLQ.out]; omega)
                     have f5 := T5.out.frozen 2
                     clear hb5 RT))
                have T7 : Hid (TW (w5.setCell ⟨q, 2, none⟩ (.int .i64 (wrap64 (wk + 1)))) g (app W ((evs (l.take (i + 1))).filter (atF a true))) (.slice (some ⟨q, 0, none⟩) nw c3)) := by rw [Hid, e1.out]; exact T5.out.stored 2 _
                have B7 : Hid (Below g w (w5.setCell ⟨q, 2, none⟩ (.int .i64 (wrap64 (wk + 1))))) := B5.out.trans ((Chg.setCell (S := fun k => g ≤ k) w5 ⟨q, 2, none⟩ (.int .i64 (wrap64 (wk + 1))) hq1).below (by rw [← hg]; exact B5.out.size) (fun k hk => hk))
                go_roundw
                case rel => exact ⟨i + 1, by omega, by go_num, T7, B7⟩
                case measure => simp [intOf]; omega
              · have e1 : Hid (app W ((evs (l.take (i + 1))).filter (atF a true)) = W1) := by rw [Hid, HX.out, ← HW1.out]; simp [hs]
                go_wp2_with (first
                  | (refine wpList_load_mid rfl 91 _ rfl b (off + i * 8) (by first | rfl | simp) [.int .i64 wk, .int .i64 t.how, .int .i64 sn, .int .i64 t.stamp, .bool t.fall, .bool t.sure, .slice A6 n6 c6, .slice A7 n7 c7] _ HROW.out Try.underlying91 rfl txsize ?_)
                  | (go_at_call 91; refine (RT _).mono ?_; rintro e w5 ⟨rfl, hb5⟩
                     have k2 : w5.cell? ⟨b, off + i * 8 + 2, none⟩ = some (.int .i64 sn) := by rw [hb5.cell (show b < wr.heap.size by omega)]; exact HROW.out 2 _ rfl))
                have T5 : Hid (TW w5 g W1 (.slice (some ⟨q, 0, none⟩) nw c3)) := HT.out.kept fun k hk => hb5.block k (HT.out.own_lt hk)
                have B5 : Hid (Below g w w5) := HB.out.trans (hb5.mono hsr)
                go_roundw
                case rel => exact ⟨i + 1, by omega, by go_num, by rw [Hid, e1.out]; exact T5.out, B5⟩
                case measure => simp [intOf]; omega
          · obtain rfl : n = i := by omega
            obtain ⟨W2, hW2⟩ : ∃ W2, app W ((evs (l.take n)).filter (atF a true)) = W2 := ⟨_, rfl⟩
            have htn : l.take n = l := List.take_of_length_le (by rw [HN.out]; exact Nat.le_refl _)
            have hW2' : app W ((evs l).filter (atF a true)) = W2 := by rw [← hW2, htn]
            have hst := HSTEP.out
            have hWl2 : W2.length = nw := by rw [← hW2, app_length]; exact HWl.out
            rw [hW2'] at hst
            rw [hW2] at HT
            have HST := Lib.hid hst
            have HTN := Lib.hid htn
            have HWL := Lib.hid hWl2
            clear hst hW2 hW2' HWl hWl2 htn hlt
            go_wp2
            go_loopw [13, 14] (fun u13 u14 wq => ∃ i : Nat, i ≤ n ∧ u13 = .int .i64 i ∧ Hid (TW wq g (app W2 ((evs (l.take i)).filter (atF a false))) (.slice (some ⟨q, 0, none⟩) nw c3)) ∧ Hid (Below g w wq)) (fun u13 _ _ => n - (intOf u13).toNat)
            case atStart => exact ⟨0, by omega, rfl, HT, HB⟩
            case round =>
              clear HT HB
              obtain ⟨i, hi, rfl, HT, HB⟩ := hrel
              by_cases hlt : i < n
              · have hlen : i < l.length := by rw [HN.out]; exact hlt
                have hnext := store_next hlen a
                have hfit := HF.out l[i] (List.getElem_mem hlen)
                obtain ⟨t, ht⟩ : ∃ t, l[i] = t := ⟨_, rfl⟩
                have HTT := Lib.hid ht
                rw [ht] at hnext hfit
                have HX := Lib.hid hnext
                have HFT := Lib.hid hfit
                have HLQ : Hid ((app W2 ((evs (l.take i)).filter (atF a false))).length = nw) := by rw [Hid, app_length]; exact HWL.out
                obtain ⟨W3, hW3⟩ : ∃ W3, app W2 ((evs (l.take i)).filter (atF a false)) = W3 := ⟨_, rfl⟩
                rw [hW3] at HT HLQ
                have HW3 := Lib.hid hW3
                clear hnext hfit ht hW3
                obtain ⟨n7, hn7⟩ : ∃ n7, t.writes.length = n7 := ⟨_, rfl⟩
                have HN7 := Lib.hid hn7
                have hsr0 : g ≤ wr.heap.size := by rw [← hg]; exact HB.out.size
                have hnw7 : n7 ≤ 9223372036854775807 := by
                  obtain ⟨_, _, _, _, _, _, _, _, hp⟩ := row_at (hM.out.many.below HB.out) hlen
                  obtain ⟨_, _, _, hm7, _⟩ := hp
                  rw [HTT.out, hn7] at hm7; exact hm7
                clear hn7
                go_wp2
                go_loopw [14] (fun u14 wq => ∃ j : Nat, j ≤ n7 ∧ u14 = .int .i64 j ∧ (j = 0 ∨ Hid (storesB t = true ∧ t.stamp = a)) ∧ Hid (TW wq g (putW W3 (t.writes.take j)) (.slice (some ⟨q, 0, none⟩) nw c3)) ∧ Hid (Below g w wq)) (fun u14 _ => n7 - (intOf u14).toNat)
                case atStart => exact ⟨0, by omega, rfl, .inl rfl, HT, HB⟩
                case round =>
                  clear HT HB hsr0
                  obtain ⟨j, hj, rfl, hj0, HT, HB⟩ := hrel
                  have hsr : g ≤ wr.heap.size := by rw [← hg]; exact HB.out.size
                  obtain ⟨b, off, r, q', rfl, hbB, hrow, hP6, hP7⟩ := row_at (hM.out.many.below HB.out) hlen
                  obtain ⟨A6, c6, rfl, m6, _⟩ := id hP6
                  obtain ⟨A7, c7, rfl, m7, _⟩ := id hP7
                  rw [HTT.out] at hrow hP7
                  have HP7 := Lib.hid hP7
                  obtain ⟨n6, hn6⟩ : ∃ n6, t.reads.length = n6 := ⟨_, rfl⟩
                  obtain ⟨sm, hsm⟩ : ∃ x, t.stamp = x := ⟨_, rfl⟩
                  have HROW : Hid (wr.rangeAt b (off + i * 8) [.int .i64 t.worker, .int .i64 t.how, .int .i64 t.seen, .int .i64 sm, .bool t.fall, .bool t.sure, .slice A6 n6 c6, .slice A7 n7 c7]) := by
                    rw [Hid, ← hn6, ← HN7.out, ← hsm]; exact hrow
                  have RT := fun w' => ref_stores t.worker t.how t.seen sm t.fall t.sure A6 n6 c6 A7 n7 c7 w'
                  obtain ⟨sb, hsb⟩ : ∃ sb, (t.sure && decide (0 < n7)) = sb := ⟨_, rfl⟩
                  have hsb2 : storesB t = sb := by unfold storesB; rw [HN7.out, hsb]
                  simp only [hsb] at RT
                  have HSB := Lib.hid hsb2
                  have HSM := Lib.hid hsm
                  have k7 : wr.cell? ⟨b, off + i * 8 + 7, none⟩ = some (.slice A7 n7 c7) := HROW.out 7 _ rfl
                  have OUT : Hid (storesB t = false ∨ t.stamp ≠ a → TW wr g (app W2 ((evs (l.take (i + 1))).filter (atF a false))) (.slice (some ⟨q, 0, none⟩) nw c3)) := fun ho => by
                    have hj1 : j = 0 := by
                      rcases hj0 with h | h
                      · exact h
                      · have h := h.out
                        rcases ho with ho | ho
                        · rw [h.1] at ho; cases ho
                        · exact absurd h.2 ho
                    subst hj1
                    have e : app W2 ((evs (l.take (i + 1))).filter (atF a false)) = W3 := by
                      rw [HX.out, if_neg, List.append_nil, HW3.out]
                      rintro hh
                      simp only [Bool.and_eq_true, decide_eq_true_eq] at hh
                      rcases ho with ho | ho
                      · rw [hh.1] at ho; cases ho
                      · exact ho hh.2
                    rw [e]; exact HT.out
                  clear hrow hP6 hP7 ‹0 < l[i].reads.length → _› ‹0 < l[i].writes.length → _› m6 m7 hn6 hsm hsb hsb2
                  by_cases hjl : j < n7
                  · cases sb with
                    | false =>
                      have FIN := Lib.hid (OUT.out (.inl HSB.out))
                      clear OUT HT
                      go_wp2_with (first
                        | (refine wpList_load_mid_if rfl 91 _ rfl b (off + i * 8) (by first | rfl | simp) [.int .i64 t.worker, .int .i64 t.how, .int .i64 t.seen, .int .i64 sm, .bool t.fall, .bool t.sure, .slice A6 n6 c6, .slice A7 n7 c7] _ HROW.out Try.underlying91 rfl txsize ?_)
                        | (go_at_call 89; refine (RT _).mono ?_; rintro e w5 ⟨rfl, hb5⟩))
                      have T5 : Hid (TW w5 g (app W2 ((evs (l.take (i + 1))).filter (atF a false))) (.slice (some ⟨q, 0, none⟩) nw c3)) := FIN.out.kept fun k hk => hb5.block k (FIN.out.own_lt hk)
                      have B5 : Hid (Below g w w5) := HB.out.trans (hb5.mono hsr)
                      go_roundw
                      case rel => exact ⟨i + 1, by omega, by go_num, T5, B5⟩
                      case measure => simp [intOf]; omega
                    | true =>
                      by_cases hs : sm = a
                      · have hjlen : j < t.writes.length := by rw [HN7.out]; exact hjl
                        obtain ⟨b7, off7, rfl, hb7, hp7⟩ := (pair_row (HP7.out)).2 j hjlen
                        have hin := HFT.out HSB.out _ (List.getElem_mem hjlen)
                        have hput := putW_next (words := W3) hjlen
                        obtain ⟨⟨x, y⟩, hxy⟩ : ∃ p, t.writes[j] = p := ⟨_, rfl⟩
                        rw [hxy] at hp7 hin hput
                        obtain ⟨ad, rfl⟩ : ∃ ad : Nat, x = ad := ⟨x.toNat, by have : 0 ≤ x := hin.1; omega⟩
                        have had : ad < nw := by have := hin.2; simp at this; omega
                        have hps : Hid (putW W3 (t.writes.take (j + 1)) = (putW W3 (t.writes.take j)).set ad y) := hput
                        have ROW7 : Hid (wr.rangeAt b7 (off7 + j * 2) [.int .i64 ad, .int .i64 y]) := hp7
                        have HS : Hid (storesB t = true ∧ t.stamp = a) := ⟨HSB.out, by rw [HSM.out, hs]⟩
                        have hs' := hs.symm
                        subst hs'
                        clear hp7 hin hput hxy OUT hs hjlen
                        go_upto_if 89 with (first
                          | (refine wpList_load_mid_if rfl 91 _ rfl b (off + i * 8) (by first | rfl | simp) [.int .i64 t.worker, .int .i64 t.how, .int .i64 t.seen, .int .i64 a, .bool t.fall, .bool t.sure, .slice A6 n6 c6, .slice (some ⟨b7, off7, none⟩) n7 c7] _ HROW.out Try.underlying91 rfl txsize ?_)
                          | (go_at_call 89; refine (RT _).mono ?_; rintro e w5 ⟨rfl, hb5⟩
                             have k3 : w5.cell? ⟨b, off + i * 8 + 3, none⟩ = some (.int .i64 a) := by rw [hb5.cell (show b < wr.heap.size by omega)]; exact HROW.out 3 _ rfl
                             have HB5 := Lib.hid hb5
                             clear hb5))
                        have T5 : Hid (TW w5 g (putW W3 (t.writes.take j)) (.slice (some ⟨q, 0, none⟩) nw c3)) := HT.out.kept fun k hk => HB5.out.block k (HT.out.own_lt hk)
                        have B5 : Hid (Below g w w5) := HB.out.trans (HB5.out.mono hsr)
                        have c5 : w5.drew.cell? ⟨q, ad, none⟩ = _ := T5.out.cell (k := ad) (by rw [putW_length, HLQ.out]; exact had)
                        have f5 : w5.drew.frozen? ⟨q, ad, none⟩ = false := T5.out.frozen ad
                        have z7 : w5.drew.cell? ⟨b, off + i * 8 + 7, none⟩ = some (.slice (some ⟨b7, off7, none⟩) n7 c7) := by show w5.cell? _ = _; rw [HB5.out.cell (show b < wr.heap.size by omega)]; exact HROW.out 7 _ rfl
                        have z0 : w5.drew.cell? ⟨b7, off7 + j * 2, none⟩ = some (.int .i64 ad) := by show w5.cell? _ = _; rw [HB5.out.cell (show b7 < wr.heap.size by omega)]; exact ROW7.out 0 _ rfl
                        have z1 : w5.drew.cell? ⟨b7, off7 + j * 2 + 1, none⟩ = some (.int .i64 y) := by show w5.cell? _ = _; rw [HB5.out.cell (show b7 < wr.heap.size by omega)]; exact ROW7.out 1 _ rfl
                        have T7 : Hid (TW (w5.drew.setCell ⟨q, ad, none⟩ (.int .i64 y)) g (putW W3 (t.writes.take (j + 1))) (.slice (some ⟨q, 0, none⟩) nw c3)) := by rw [Hid, hps.out]; exact TW.stored (w := w5.drew) T5.out ad y
                        have B7 : Hid (Below g w (w5.drew.setCell ⟨q, ad, none⟩ (.int .i64 y))) := (B5.out.trans ((Below.refl _ _).drew)).trans ((Chg.setCell (S := fun k => g ≤ k) w5.drew ⟨q, ad, none⟩ (.int .i64 y) hq1).below (by have h : w5.drew.heap.size = w5.heap.size := rfl; rw [h, ← hg]; exact B5.out.size) (fun k hk => hk))
                        clear T5 B5 HT HB HB5 RT k7 k3
                        go_upto_region 15 with fail
                        go_still_tail 20, (by kernel_rfl)
                        change wpList _ _ _ _ _ w5.drew
                        go_wp2
                        go_roundw
                        case rel => exact ⟨j + 1, by omega, by go_num, .inr HS, T7, B7⟩
                        case measure => simp [intOf]; omega
                      · have FIN := Lib.hid (OUT.out (.inr (by rw [HSM.out]; exact hs)))
                        clear OUT HT
                        go_wp2_with (first
                          | (refine wpList_load_mid_if rfl 91 _ rfl b (off + i * 8) (by first | rfl | simp) [.int .i64 t.worker, .int .i64 t.how, .int .i64 t.seen, .int .i64 sm, .bool t.fall, .bool t.sure, .slice A6 n6 c6, .slice A7 n7 c7] _ HROW.out Try.underlying91 rfl txsize ?_)
                          | (go_at_call 89; refine (RT _).mono ?_; rintro e w5 ⟨rfl, hb5⟩
                             have k3 : w5.cell? ⟨b, off + i * 8 + 3, none⟩ = some (.int .i64 sm) := by rw [hb5.cell (show b < wr.heap.size by omega)]; exact HROW.out 3 _ rfl))
                        have T5 : Hid (TW w5 g (app W2 ((evs (l.take (i + 1))).filter (atF a false))) (.slice (some ⟨q, 0, none⟩) nw c3)) := FIN.out.kept fun k hk => hb5.block k (FIN.out.own_lt hk)
                        have B5 : Hid (Below g w w5) := HB.out.trans (hb5.mono hsr)
                        go_roundw
                        case rel => exact ⟨i + 1, by omega, by go_num, T5, B5⟩
                        case measure => simp [intOf]; omega
                  · obtain rfl : n7 = j := by omega
                    have FIN : Hid (TW wr g (app W2 ((evs (l.take (i + 1))).filter (atF a false))) (.slice (some ⟨q, 0, none⟩) nw c3)) := by
                      rcases hj0 with h | h
                      · refine OUT.out (.inl ?_)
                        unfold storesB; rw [HN7.out, h]; simp
                      · have e : app W2 ((evs (l.take (i + 1))).filter (atF a false)) = putW W3 (t.writes.take n7) := by
                          rw [HX.out, if_pos (by simp [h.out.1, h.out.2]), app_store, HW3.out, List.take_of_length_le (by rw [HN7.out]; exact Nat.le_refl _)]
                        rw [Hid, e]; exact HT.out
                    clear OUT HT RT
                    go_wp2
                    go_roundw
                    case rel => exact ⟨i + 1, by omega, by go_num, FIN, HB⟩
                    case measure => simp [intOf]; omega
              · obtain rfl : n = i := by omega
                rw [HTN.out] at HT
                have N1 := next_any (hMN.out.below HB.out) (by rw [HN.out]; omega) a true
                obtain ⟨⟨a1, b1⟩, hab⟩ : ∃ p, nxt (evs l) a true = p := ⟨_, rfl⟩
                have hst := HST.out
                rw [hab] at N1 hst
                have HST1 := Lib.hid hst
                have hsr : g ≤ wr.heap.size := by rw [← hg]; exact HB.out.size
                clear hst hab HST HSTEP
                go_wp2_with (first
                  | (go_at_call 90; refine N1.mono ?_; rintro e w5 ⟨rfl, hb5⟩))
                have T5 : Hid (TW w5 g (app W2 ((evs l).filter (atF a false))) (.slice (some ⟨q, 0, none⟩) nw c3)) := HT.out.kept fun k hk => hb5.block k (HT.out.own_lt hk)
                have B5 : Hid (Below g w w5) := HB.out.trans (hb5.mono hsr)
                go_roundw
                case rel => exact ⟨a1, b1, _, rfl, rfl, by rw [app_length]; exact HWL.out, HST1.out.1, HST1.out.2.1, T5, B5⟩
                case measure => exact HST1.out.2.2
    · have hx2 : (b && (all || decide (a ≤ st))) = false := by simpa using hx
      have fin := SI_stop HSI.out HLI.out hx2
      have FIN : Hid (TW wr g (app first (O.filter fun e => all || decide (e.stamp ≤ st))) (.slice (some ⟨q, 0, none⟩) nw c3)) := by rw [Hid, ← fin]; exact HT.out
      clear fin hx HSI HLI HT
      cases b with
      | false =>
        go_wp2
        go_ret
        exact ⟨_, rfl, FIN.out, HB.out⟩
      | true =>
        cases all with
        | true => simp at hx2
        | false =>
          have ha : ¬ a ≤ st := by simpa using hx2
          clear hx2
          go_wp2
          go_ret
          exact ⟨_, rfl, FIN.out, HB.out⟩

end OPR
end Go.Proofs.Ytkegfeghdnpajaa

/- ref34.Check, State, Last -/
namespace Go.Proofs.Ytkegfeghdnpajaa
open Go.RowKit Go.Bas Go.WideShapes Txs View IMap_
open Go.Proofs.YtkegfeghdnpajaaW.PrintLast
namespace OPR
open Srt hiding Ev

theorem right_fit2 {n : Nat} {l : List Tx} (h : rightB n l = true) : ∀ t ∈ l, storesB t = true → ∀ q ∈ t.writes, 0 ≤ q.1 ∧ q.1 < n := fun t ht hs q hq => by
  unfold rightB at h
  simp only [Bool.and_eq_true, decide_eq_true_eq] at h
  have := List.all_eq_true.1 h.1.2 t (List.mem_filter.2 ⟨ht, hs⟩)
  have := List.all_eq_true.1 this q hq
  unfold inW at this
  simpa using this

theorem ManyC.mono {w : World} {B C : Nat} {s : Value} {l : List Tx} (h : ManyC w B s l) (hb : B ≤ C) : ManyC w C s l := by
  obtain ⟨A', c', e, h1, h2, h3⟩ := h
  refine ⟨A', c', e, h1, h2, fun h0 => ?_⟩
  obtain ⟨b, off, q1, q2, q3⟩ := h3 h0
  refine ⟨b, off, q1, by omega, fun i hi => ?_⟩
  obtain ⟨r, q, p1, p2, p3, p4⟩ := q3 i hi
  exact ⟨r, q, p1, Srt.pairs_mono p2 hb, Srt.pairs_mono p3 hb, p4⟩

set_option maxRecDepth 100000 in
set_option maxHeartbeats 4000000 in
theorem refState_any {w : World} {A1 : Option Addr} {nw c1 : Nat} {s : Value} {l : List Tx} {first : List Int} (hW : Words w w.heap.size (.slice A1 nw c1) first) (hcap : nw ≤ c1) (hn : nw ≤ 1000) (h : ManyC w w.heap.size s l) (hl : l.length ≤ 40)
    (hs : ∀ t ∈ l, t.writes.length ≤ 9223372036854775807) (O : List Srt.Ev) (hO : rightB nw l = true → Ordered O) (hA : rightB nw l = true → Srt.Alike (evs l) O) (st : Int) :
    Calls Try.prog 35 #[.slice A1 nw c1, s, .int .i64 st] w fun e w' => ∃ v' ws, e = .returned (.tuple #[v', .int .i64 (if rightB nw l then 0 else 2)]) ∧ TW w' w.heap.size ws v' ∧ ws = (if rightB nw l then app first (O.filter fun e => decide (e.stamp ≤ st)) else []) ∧ Below w.heap.size w w' := by
  obtain ⟨g, hg⟩ : ∃ g, w.heap.size = g := ⟨_, rfl⟩
  have hnw : first.length = nw := by
    obtain ⟨_, _, e, _⟩ := id hW
    simp only [Value.slice.injEq] at e
    exact e.2.1.symm
  have RT := ref_right hW hcap h (by omega) hs
  rw [hnw] at RT
  rw [hg] at h hW RT ⊢
  have HM := Lib.hid h
  have HW := Lib.hid hW
  have N0 : Hid (∀ w', TW w' g [] (.slice none 0 0)) := fun w' => ⟨none, 0, rfl, by simpa using World.ownsRow_nil _ _ _ _⟩
  obtain ⟨A, c, rfl, hcp, hm, _⟩ := id h
  clear h hW hnw hs hcp
  cases hr : rightB nw l with
  | false =>
    rw [hr] at RT
    go_enter Try.func35, Try.ntmps35
    go_wp2_with (first
      | (go_at_call 65; refine RT.mono ?_; rintro e w2 ⟨rfl, hb2⟩))
    refine bodyPost_ret (results_tmp2 rfl _ _ _) rfl ?_
    exact ⟨_, rfl, [], N0.out _, rfl, hb2⟩
  | true =>
    rw [hr] at RT
    have hO := hO hr
    have hA := hA hr
    obtain ⟨hr3, _⟩ := right_fit hr
    have hfit := right_fit2 hr
    go_enter Try.func35, Try.ntmps35
    go_wp2_with (first
      | (go_at_call 65; refine RT.mono ?_; rintro e w2 ⟨rfl, hb2⟩
         have g2 : g ≤ w2.heap.size := by rw [← hg]; exact hb2.size
         have STT := state_any ((HW.out.below hb2).mono g2) hr3 hn ((HM.out.below hb2).mono g2) hl hfit hO hA st false)
      | (go_at_call 66; refine STT.mono ?_; rintro e w3 ⟨v3, rfl, t3, hb3⟩))
    refine bodyPost_ret (results_tmp2 rfl _ _ _) rfl ?_
    refine ⟨v3, rfl, _, t3.low (by rw [← hg]; exact hb2.size), ?_, hb2.trans (hb3.mono (by rw [← hg]; exact hb2.size))⟩
    simp
set_option maxRecDepth 100000 in
set_option maxHeartbeats 4000000 in
theorem refLast_any {w : World} {A1 : Option Addr} {nw c1 : Nat} {s : Value} {l : List Tx} {first : List Int} (hW : Words w w.heap.size (.slice A1 nw c1) first) (hcap : nw ≤ c1) (hn : nw ≤ 1000) (h : ManyC w w.heap.size s l) (hl : l.length ≤ 40)
    (hs : ∀ t ∈ l, t.writes.length ≤ 9223372036854775807) (O : List Srt.Ev) (hO : rightB nw l = true → Ordered O) (hA : rightB nw l = true → Srt.Alike (evs l) O) :
    Calls Try.prog 37 #[.slice A1 nw c1, s] w fun e w' => ∃ v' ws, e = .returned (.tuple #[v', .int .i64 (if rightB nw l then 0 else 2)]) ∧ TW w' w.heap.size ws v' ∧ ws = (if rightB nw l then app first O else []) ∧ Below w.heap.size w w' := by
  obtain ⟨g, hg⟩ : ∃ g, w.heap.size = g := ⟨_, rfl⟩
  have hnw : first.length = nw := by
    obtain ⟨_, _, e, _⟩ := id hW
    simp only [Value.slice.injEq] at e
    exact e.2.1.symm
  have RT := ref_right hW hcap h (by omega) hs
  rw [hnw] at RT
  rw [hg] at h hW RT ⊢
  have HM := Lib.hid h
  have HW := Lib.hid hW
  have N0 : Hid (∀ w', TW w' g [] (.slice none 0 0)) := fun w' => ⟨none, 0, rfl, by simpa using World.ownsRow_nil _ _ _ _⟩
  obtain ⟨A, c, rfl, hcp, hm, _⟩ := id h
  clear h hW hnw hs hcp
  cases hr : rightB nw l with
  | false =>
    rw [hr] at RT
    go_enter Try.func37, Try.ntmps37
    go_wp2_with (first
      | (go_at_call 65; refine RT.mono ?_; rintro e w2 ⟨rfl, hb2⟩))
    refine bodyPost_ret (results_tmp2 rfl _ _ _) rfl ?_
    exact ⟨_, rfl, [], N0.out _, rfl, hb2⟩
  | true =>
    rw [hr] at RT
    have hO := hO hr
    have hA := hA hr
    obtain ⟨hr3, _⟩ := right_fit hr
    have hfit := right_fit2 hr
    go_enter Try.func37, Try.ntmps37
    go_wp2_with (first
      | (go_at_call 65; refine RT.mono ?_; rintro e w2 ⟨rfl, hb2⟩
         have g2 : g ≤ w2.heap.size := by rw [← hg]; exact hb2.size
         have STT := state_any ((HW.out.below hb2).mono g2) hr3 hn ((HM.out.below hb2).mono g2) hl hfit hO hA 0 true)
      | (go_at_call 66; refine STT.mono ?_; rintro e w3 ⟨v3, rfl, t3, hb3⟩))
    refine bodyPost_ret (results_tmp2 rfl _ _ _) rfl ?_
    refine ⟨v3, rfl, _, t3.low (by rw [← hg]; exact hb2.size), ?_, hb2.trans (hb3.mono (by rw [← hg]; exact hb2.size))⟩
    simp [filter_all fun (e : Srt.Ev) (_ : e ∈ O) => rfl]

set_option maxRecDepth 100000 in
set_option maxHeartbeats 4000000 in
theorem refCheckBad_any {w : World} {A1 : Option Addr} {nw c1 : Nat} {s : Value} {l : List Tx} {first : List Int} (hW : Words w w.heap.size (.slice A1 nw c1) first) (hcap : nw ≤ c1) (h : ManyC w w.heap.size s l) (hl : l.length ≤ 40)
    (hs : ∀ t ∈ l, t.writes.length ≤ 9223372036854775807) (hr : rightB nw l = false) :
    Calls Try.prog 33 #[.slice A1 nw c1, s] w fun e w' => e = .returned (.int .i64 2) ∧ Below w.heap.size w w' := by
  have hnw : first.length = nw := by
    obtain ⟨_, _, e, _⟩ := id hW
    simp only [Value.slice.injEq] at e
    exact e.2.1.symm
  have RT := ref_right hW hcap h (by omega) hs
  rw [hnw, hr] at RT
  obtain ⟨A, c, rfl, hcp, hm, _⟩ := id h
  clear h hW hnw hs hcp
  go_enter Try.func33, Try.ntmps33
  go_wp2_with (first
    | (go_at_call 65; refine RT.mono ?_; rintro e w2 ⟨rfl, hb2⟩))
  go_ret
  exact ⟨rfl, hb2⟩

set_option maxRecDepth 100000 in
set_option maxHeartbeats 4000000 in
theorem refCheckOk_any {w : World} {A1 : Option Addr} {nw c1 : Nat} {s : Value} {l : List Tx} {first : List Int} (hW : Words w w.heap.size (.slice A1 nw c1) first) (hcap : nw ≤ c1) (hn : nw ≤ 1000) (h : ManyC w w.heap.size s l) (hl : l.length ≤ 40)
    (hs : ∀ t ∈ l, t.writes.length ≤ 9223372036854775807) (hr : rightB nw l = true) (O : List Srt.Ev) (hO : Ordered O) (hA : Srt.Alike (evs l) O) :
    Calls Try.prog 33 #[.slice A1 nw c1, s] w fun e w' => e = .returned (.int .i64 (if l.all (readB first O) then 0 else 19)) ∧ Below w.heap.size w w' := by
  obtain ⟨g, hg⟩ : ∃ g, w.heap.size = g := ⟨_, rfl⟩
  have hnw : first.length = nw := by
    obtain ⟨_, _, e, _⟩ := id hW
    simp only [Value.slice.injEq] at e
    exact e.2.1.symm
  have RT := ref_right hW hcap h (by omega) hs
  rw [hnw, hr] at RT
  obtain ⟨hr3, _⟩ := right_fit hr
  have HFIT := Lib.hid (right_fit2 hr)
  rw [hg] at h hW RT ⊢
  obtain ⟨A, c, rfl, hcp, hm, _⟩ := id h
  obtain ⟨n, hnn⟩ : ∃ n, l.length = n := ⟨_, rfl⟩
  have HN := Lib.hid hnn
  have HM := Lib.hid h
  have HW := Lib.hid hW
  have HNW := Lib.hid hnw
  have HO := Lib.hid hO
  have HA := Lib.hid hA
  have hm : l.length ≤ 9223372036854775807 := hm
  rw [hnn] at RT hm hl ⊢
  have HMN : Hid (ManyC w g (.slice A n c) l) := by have := HM.out; rwa [hnn] at this
  obtain ⟨V, hV⟩ : ∃ V, (if l.all (readB first O) then (0 : Int) else 19) = V := ⟨_, rfl⟩
  rw [hV]
  have HV := Lib.hid hV
  clear h hW hnw hr hnn hcp hO hA hs hV
  go_enter Try.func33, Try.ntmps33
  go_upto_region 3 with (first
    | (go_at_call 65; refine RT.mono ?_; rintro e w2 ⟨rfl, hb2⟩))
  have B2 : Hid (Below g w w2) := hb2
  clear RT hb2
  go_wp2
  go_loopw [5, 6, 7, 8] (fun u5 u6 u7 u8 wr => ∃ i : Nat, i ≤ n ∧ u5 = .int .i64 i ∧ Hid (∀ t ∈ l.take i, readB first O t = true) ∧ Hid (Below g w wr)) (fun u5 _ _ _ _ => n - (intOf u5).toNat)
  case atStart => exact ⟨0, by omega, rfl, fun t ht => by simp at ht, B2⟩
  case round =>
    clear B2
    obtain ⟨i, hi, rfl, HR, HB⟩ := hrel
    have hsr : g ≤ wr.heap.size := by rw [← hg]; exact HB.out.size
    by_cases hlt : i < n
    · have hlen : i < l.length := by rw [HN.out]; exact hlt
      obtain ⟨b, off, r, q, rfl, hbB, hrow, hP6, hP7, hC6, -⟩ := row_atC (HM.out.below HB.out) hlen
      obtain ⟨A6, c6, rfl, m6, _⟩ := id hP6
      obtain ⟨t, ht⟩ : ∃ t, l[i] = t := ⟨_, rfl⟩
      rw [ht] at hrow m6 hP6 hC6
      have HT := Lib.hid ht
      obtain ⟨n6, hn6⟩ : ∃ n6, t.reads.length = n6 := ⟨_, rfl⟩
      have HN6 := Lib.hid hn6
      have HP6 : Hid (Pairs wr g (.slice A6 n6 c6) t.reads) := by rw [Hid, ← hn6]; exact hP6
      have K2 : Hid (wr.cell? ⟨b, off + i * 8 + 2, none⟩ = some (.int .i64 t.seen)) := hrow 2 _ rfl
      have k6 : wr.cell? ⟨b, off + i * 8 + 6, none⟩ = some (.slice A6 n6 c6) := by rw [← hn6]; exact hrow 6 _ rfl
      have m6 : n6 ≤ 9223372036854775807 := by rw [← hn6]; exact m6
      clear hrow hP6 hP7 hC6 ‹0 < l[i].reads.length → _› hn6 ht
      obtain ⟨bd, hbd⟩ : ∃ bd, readB first O t = bd := ⟨_, rfl⟩
      have HBD := Lib.hid hbd
      have NEXT : Hid (bd = true → ∀ t' ∈ l.take (i + 1), readB first O t' = true) := fun hb t' ht' => by
        rw [List.take_succ_eq_append_getElem hlen] at ht'
        rcases List.mem_append.1 ht' with ht' | ht'
        · exact HR.out t' ht'
        · rw [List.mem_singleton.1 ht', HT.out, HBD.out]; exact hb
      have STOP : Hid (bd = false → l.all (readB first O) = false) := fun hb => by
        apply Bool.eq_false_iff.2
        intro hh
        have := List.all_eq_true.1 hh l[i] (List.getElem_mem hlen)
        rw [HT.out, HBD.out, hb] at this; cases this
      clear hbd HR
      by_cases h6 : n6 = 0
      · subst h6
        have e : bd = true := by rw [← HBD.out]; unfold readB; rw [HN6.out]; simp
        have HR2 := Lib.hid (NEXT.out e)
        clear NEXT STOP
        go_wp2
        go_roundw
        case rel => exact ⟨i + 1, by omega, by go_num, HR2, HB⟩
        case measure => simp [intOf]; omega
      · have e : stoodB (app first (O.filter fun e => decide (e.stamp ≤ t.seen))) t.reads = bd := by rw [← take_le HO.out, ← HBD.out]; unfold readB; rw [HN6.out]; simp [h6]
        have HE := Lib.hid e
        have hn6p : 0 < n6 := by omega
        have STT := state_any (w := wr) ((HW.out.below HB.out).mono hsr) hr3 hn ((HMN.out.below HB.out).mono hsr) (by rw [HN.out]; exact hl) HFIT.out HO.out HA.out t.seen false
        have k2 := K2.out
        clear e h6 K2
        go_upto_region 8 with (first
          | (go_at_call 66; refine STT.mono ?_; rintro e w3 ⟨v3, rfl, t3, hb3⟩))
        have T3 : Hid (TW w3 wr.heap.size (app first (O.filter fun e => decide (e.stamp ≤ t.seen))) v3) := by have h := t3; simp only [Bool.false_or] at h; exact h
        have B3 : Hid (Below g w w3) := HB.out.trans (hb3.mono hsr)
        have P3 : Hid (Pairs w3 g (.slice A6 n6 c6) t.reads) := HP6.out.below (hb3.mono hsr)
        have K6 : Hid (w3.cell? ⟨b, off + i * 8 + 6, none⟩ = some (.slice A6 n6 c6)) := by rw [Hid, hb3.cell (show b < wr.heap.size by omega)]; exact k6
        obtain ⟨ws, hws⟩ : ∃ ws, app first (O.filter fun e => decide (e.stamp ≤ t.seen)) = ws := ⟨_, rfl⟩
        rw [hws] at T3 HE
        have hwl : ws.length = nw := by rw [← hws, app_length]; exact HNW.out
        have HWL := Lib.hid hwl
        obtain ⟨A3, c3, rfl, -⟩ := id T3.out
        obtain ⟨q3, rfl, hq1, -, hq2⟩ := T3.out.shape (by omega)
        rw [hwl] at T3 ⊢
        have hg3 : wr.heap.size ≤ w3.heap.size := hb3.size
        obtain ⟨g3, hgg3⟩ : ∃ g3, w3.heap.size = g3 := ⟨_, rfl⟩
        rw [hgg3] at hg3 hq2
        have HG3 := Lib.hid hgg3
        clear t3 hb3 HB HP6 k6 k2 STT hws hwl hgg3
        go_wp2
        go_loopw [7, 8] (fun u7 u8 wq => ∃ j : Nat, j ≤ n6 ∧ u7 = .int .i64 j ∧ Hid (∀ p ∈ t.reads.take j, stoodP ws p = true) ∧ Hid (Below g3 w3 wq)) (fun u7 _ _ => n6 - (intOf u7).toNat)
        case atStart => exact ⟨0, by omega, rfl, fun p hp => by simp at hp, by rw [Hid, ← HG3.out]; exact Below.refl _ _⟩
        case round =>
          obtain ⟨j, hj, rfl, HQ, HB⟩ := hrel
          have z6 : wr.cell? ⟨b, off + i * 8 + 6, none⟩ = some (.slice A6 n6 c6) := by rw [HB.out.cell (show b < g3 by omega)]; exact K6.out
          have hsr3 : g3 ≤ wr.heap.size := by rw [← HG3.out]; exact HB.out.size
          by_cases hjl : j < n6
          · have hjlen : j < t.reads.length := by rw [HN6.out]; exact hjl
            obtain ⟨b6, off6, rfl, hb6, hrow⟩ := (pair_row (P3.out.below (HB.out.mono (by omega)))).2 j hjlen
            have HNX : Hid (stoodP ws t.reads[j] = true → ∀ p ∈ t.reads.take (j + 1), stoodP ws p = true) := fun hb p hp => by
              rw [List.take_succ_eq_append_getElem hjlen] at hp
              rcases List.mem_append.1 hp with hp | hp
              · exact HQ.out p hp
              · rw [List.mem_singleton.1 hp]; exact hb
            have HST : Hid (stoodP ws t.reads[j] = false → V = 19) := fun hb => by
              have e1 : stoodB ws t.reads = false := by
                apply Bool.eq_false_iff.2
                intro hh
                have := List.all_eq_true.1 hh _ (List.getElem_mem hjlen)
                rw [hb] at this; cases this
              have e2 := STOP.out (by rw [← HE.out]; exact e1)
              rw [← HV.out, e2]; rfl
            obtain ⟨⟨x, y⟩, hxy⟩ : ∃ p, t.reads[j] = p := ⟨_, rfl⟩
            rw [hxy] at hrow HNX HST
            have ROW : Hid (wr.rangeAt b6 (off6 + j * 2) [.int .i64 x, .int .i64 y]) := hrow
            clear hrow hxy hjlen HQ
            obtain ⟨gb, hgb⟩ : ∃ gb, wr.heap.size = gb := ⟨_, rfl⟩
            rw [hgb] at hsr3
            obtain ⟨w5, hw5⟩ : ∃ w5, wr.alloc (.cells #[.int .i64 0, .int .i64 0] 93) = w5 := ⟨_, rfl⟩
            have hg5 : Hid (w5.heap[gb]? = some (.cells #[.int .i64 0, .int .i64 0] 93 (0, 0))) := by rw [← hw5, ← hgb]; exact new_row _ _ _
            go_upto_region 12 with (first
              | (refine wpList_load_mid rfl 93 _ rfl b6 (off6 + j * 2) (by first | rfl | simp) [.int .i64 x, .int .i64 y] _ ROW.out Try.underlying93 rfl prsize ?r5)
              | (refine wpList_store_row rfl 93 _ _ rfl gb #[.int .i64 x, .int .i64 y] rfl rfl 93 #[.int .i64 0, .int .i64 0] hg5.out prsize rfl (by simp [Value.oneCell']) ?s5))
            obtain ⟨w6, hw6⟩ : ∃ w6, w5.setRow gb #[.int .i64 x, .int .i64 y] = w6 := ⟨_, rfl⟩
            have G6 : w6.heap[gb]? = some (.cells #[.int .i64 x, .int .i64 y] 93 (0, 0)) := by rw [← hw6]; exact setRow_same hg5.out
            have b6 : Below gb wr w6 := by rw [← hw6, ← hw5]; exact setRow_below ((Below.refl _ _).alloc (by omega) _) (Nat.le_refl _) _
            rw [hw6]
            clear hw6 hw5 hg5 ROW
            have B6 : Hid (Below g3 w3 w6) := HB.out.trans (b6.mono hsr3)
            have k0 : w6.drew.cell? ⟨gb, 0, none⟩ = some (.int .i64 x) := by show w6.cell? _ = _; rw [cell_of_row _ _ _ _ _ _ G6]; rfl
            have k1 : w6.drew.cell? ⟨gb, 1, none⟩ = some (.int .i64 y) := by show w6.cell? _ = _; rw [cell_of_row _ _ _ _ _ _ G6]; rfl
            have TC : Hid (∀ k, k < ws.length → w6.drew.cell? ⟨q3, k, none⟩ = some (.int .i64 (ws.getD k 0))) := fun k hk => by
              show w6.cell? _ = _
              rw [B6.out.cell (show q3 < g3 by omega)]
              exact T3.out.cell hk
            have B6 : Hid (Below g3 w3 w6.drew) := B6.out.trans (Below.refl _ _).drew
            clear b6 G6 HB z6
            dsimp only [Act.put]
            by_cases c0 : x < 0
            · have hb0 : decide (x < 0) = true := decide_eq_true c0
              have hv : V = 19 := HST.out (by unfold stoodP; simp; omega)
              subst hv
              refine start_ (n := 20) (S := fun w' => w'.cell? ⟨gb, 0, none⟩ = some (.int .i64 x) ∧ w'.cell? ⟨gb, 1, none⟩ = some (.int .i64 y)) (ds := []) #[false, false, false, false, false, false, false, false, false, false, false, false, false, false, false, false, false, false, false, false] (by kernel_rfl) rfl rfl ⟨k0, k1⟩ (fun hHeld => ?_)
              refine pure_ (i := 0) (N := (some 52)) (v := ?_) (a' := ?_) #[true, false, false, false, false, false, false, false, false, false, false, false, false, false, false, false, false, false, false, false] rfl rfl (by kernel_rfl) (fun _ _ _ h => h) (Or.inl ⟨by rfl, ?_⟩) ?_ ?_
              rotate_left
              · intro w'
                go_simp
                with_reducible rfl
              rotate_left
              · simp only [Act.put, List.setIfInBounds_toArray, List.set_cons_zero, List.set_cons_succ, i64_w, i32_w]
                rfl
              refine take_ (i := 1) (N := (some 53)) (v := ?_) (a' := ?_) #[true, true, false, false, false, false, false, false, false, false, false, false, false, false, false, false, false, false, false, false] rfl rfl (by kernel_rfl) (fun _ _ _ h => h) (Or.inl ⟨by rfl, ?_⟩) hHeld ?_ ?_
              rotate_left
              · rintro w' ⟨s0, s1⟩
                go_simp
                with_reducible rfl
              rotate_left
              · simp only [Act.put, List.setIfInBounds_toArray, List.set_cons_zero, List.set_cons_succ, i64_w, i32_w]
                rfl
              refine pure_ (i := 2) (N := (some 54)) (v := ?_) (a' := ?_) #[true, true, true, false, false, false, false, false, false, false, false, false, false, false, false, false, false, false, false, false] rfl rfl (by kernel_rfl) (fun _ _ _ h => h) (Or.inl ⟨by rfl, ?_⟩) ?_ ?_
              rotate_left
              · intro w'
                go_simp
                (try simp only [hb0])
                with_reducible rfl
              rotate_left
              · simp only [Act.put, List.setIfInBounds_toArray, List.set_cons_zero, List.set_cons_succ, i64_w, i32_w]
                rfl
              refine pure_ (i := 3) (N := (some 55)) (v := ?_) (a' := ?_) #[true, true, true, true, false, false, false, false, false, false, false, false, false, false, false, false, false, false, false, false] rfl rfl (by kernel_rfl) (fun _ _ _ h => h) (Or.inl ⟨by rfl, ?_⟩) ?_ ?_
              rotate_left
              · intro w'
                go_simp
                with_reducible rfl
              rotate_left
              · simp only [Act.put, List.setIfInBounds_toArray, List.set_cons_zero, List.set_cons_succ, i64_w, i32_w]
                rfl
              refine pure_ (i := 4) (N := (some 56)) (v := undef) (a' := ?_) #[true, true, true, true, true, false, false, false, false, false, false, false, false, false, false, false, false, false, false, false] rfl rfl (by kernel_rfl) (fun _ _ _ h => h) (Or.inr ⟨by rfl, rfl⟩) ?_ ?_
              rotate_left
              · simp only [Act.put, List.setIfInBounds_toArray, List.set_cons_zero, List.set_cons_succ, i64_w, i32_w]
                rfl
              refine pure_ (i := 5) (N := (some 57)) (v := undef) (a' := ?_) #[true, true, true, true, true, true, false, false, false, false, false, false, false, false, false, false, false, false, false, false] rfl rfl (by kernel_rfl) (fun _ _ _ h => h) (Or.inr ⟨by rfl, rfl⟩) ?_ ?_
              rotate_left
              · simp only [Act.put, List.setIfInBounds_toArray, List.set_cons_zero, List.set_cons_succ, i64_w, i32_w]
                rfl
              refine pure_ (i := 6) (N := (some 58)) (v := undef) (a' := ?_) #[true, true, true, true, true, true, true, false, false, false, false, false, false, false, false, false, false, false, false, false] rfl rfl (by kernel_rfl) (fun _ _ _ h => h) (Or.inr ⟨by rfl, rfl⟩) ?_ ?_
              rotate_left
              · simp only [Act.put, List.setIfInBounds_toArray, List.set_cons_zero, List.set_cons_succ, i64_w, i32_w]
                rfl
              refine pure_ (i := 7) (N := (some 59)) (v := undef) (a' := ?_) #[true, true, true, true, true, true, true, true, false, false, false, false, false, false, false, false, false, false, false, false] rfl rfl (by kernel_rfl) (fun _ _ _ h => h) (Or.inr ⟨by rfl, rfl⟩) ?_ ?_
              rotate_left
              · simp only [Act.put, List.setIfInBounds_toArray, List.set_cons_zero, List.set_cons_succ, i64_w, i32_w]
                rfl
              refine pure_ (i := 8) (N := (some 60)) (v := undef) (a' := ?_) #[true, true, true, true, true, true, true, true, true, false, false, false, false, false, false, false, false, false, false, false] rfl rfl (by kernel_rfl) (fun _ _ _ h => h) (Or.inr ⟨by rfl, rfl⟩) ?_ ?_
              rotate_left
              · simp only [Act.put, List.setIfInBounds_toArray, List.set_cons_zero, List.set_cons_succ, i64_w, i32_w]
                rfl
              refine pure_ (i := 9) (N := (some 61)) (v := ?_) (a' := ?_) #[true, true, true, true, true, true, true, true, true, true, false, false, false, false, false, false, false, false, false, false] rfl rfl (by kernel_rfl) (fun _ _ _ h => h) (Or.inl ⟨by rfl, ?_⟩) ?_ ?_
              rotate_left
              · intro w'
                go_simp
                with_reducible rfl
              rotate_left
              · simp only [Act.put, List.setIfInBounds_toArray, List.set_cons_zero, List.set_cons_succ, i64_w, i32_w]
                rfl
              refine pure_ (i := 10) (N := (some 62)) (v := ?_) (a' := ?_) #[true, true, true, true, true, true, true, true, true, true, true, false, false, false, false, false, false, false, false, false] rfl rfl (by kernel_rfl) (fun _ _ _ h => h) (Or.inl ⟨by rfl, ?_⟩) ?_ ?_
              rotate_left
              · intro w'
                go_simp
                with_reducible rfl
              rotate_left
              · simp only [Act.put, List.setIfInBounds_toArray, List.set_cons_zero, List.set_cons_succ, i64_w, i32_w]
                rfl
              refine pure_ (i := 11) (N := (some 63)) (v := undef) (a' := ?_) #[true, true, true, true, true, true, true, true, true, true, true, true, false, false, false, false, false, false, false, false] rfl rfl (by kernel_rfl) (fun _ _ _ h => h) (Or.inr ⟨by rfl, rfl⟩) ?_ ?_
              rotate_left
              · simp only [Act.put, List.setIfInBounds_toArray, List.set_cons_zero, List.set_cons_succ, i64_w, i32_w]
                rfl
              refine pure_ (i := 12) (N := (some 64)) (v := undef) (a' := ?_) #[true, true, true, true, true, true, true, true, true, true, true, true, true, false, false, false, false, false, false, false] rfl rfl (by kernel_rfl) (fun _ _ _ h => h) (Or.inr ⟨by rfl, rfl⟩) ?_ ?_
              rotate_left
              · simp only [Act.put, List.setIfInBounds_toArray, List.set_cons_zero, List.set_cons_succ, i64_w, i32_w]
                rfl
              refine pure_ (i := 13) (N := (some 65)) (v := undef) (a' := ?_) #[true, true, true, true, true, true, true, true, true, true, true, true, true, true, false, false, false, false, false, false] rfl rfl (by kernel_rfl) (fun _ _ _ h => h) (Or.inr ⟨by rfl, rfl⟩) ?_ ?_
              rotate_left
              · simp only [Act.put, List.setIfInBounds_toArray, List.set_cons_zero, List.set_cons_succ, i64_w, i32_w]
                rfl
              refine pure_ (i := 14) (N := (some 66)) (v := undef) (a' := ?_) #[true, true, true, true, true, true, true, true, true, true, true, true, true, true, true, false, false, false, false, false] rfl rfl (by kernel_rfl) (fun _ _ _ h => h) (Or.inr ⟨by rfl, rfl⟩) ?_ ?_
              rotate_left
              · simp only [Act.put, List.setIfInBounds_toArray, List.set_cons_zero, List.set_cons_succ, i64_w, i32_w]
                rfl
              refine pure_ (i := 15) (N := (some 67)) (v := undef) (a' := ?_) #[true, true, true, true, true, true, true, true, true, true, true, true, true, true, true, true, false, false, false, false] rfl rfl (by kernel_rfl) (fun _ _ _ h => h) (Or.inr ⟨by rfl, rfl⟩) ?_ ?_
              rotate_left
              · simp only [Act.put, List.setIfInBounds_toArray, List.set_cons_zero, List.set_cons_succ, i64_w, i32_w]
                rfl
              refine pure_ (i := 16) (N := (some 68)) (v := undef) (a' := ?_) #[true, true, true, true, true, true, true, true, true, true, true, true, true, true, true, true, true, false, false, false] rfl rfl (by kernel_rfl) (fun _ _ _ h => h) (Or.inr ⟨by rfl, rfl⟩) ?_ ?_
              rotate_left
              · simp only [Act.put, List.setIfInBounds_toArray, List.set_cons_zero, List.set_cons_succ, i64_w, i32_w]
                rfl
              refine pure_ (i := 17) (N := (some 69)) (v := undef) (a' := ?_) #[true, true, true, true, true, true, true, true, true, true, true, true, true, true, true, true, true, true, false, false] rfl rfl (by kernel_rfl) (fun _ _ _ h => h) (Or.inr ⟨by rfl, rfl⟩) ?_ ?_
              rotate_left
              · simp only [Act.put, List.setIfInBounds_toArray, List.set_cons_zero, List.set_cons_succ, i64_w, i32_w]
                rfl
              refine pure_ (i := 18) (N := (some 70)) (v := undef) (a' := ?_) #[true, true, true, true, true, true, true, true, true, true, true, true, true, true, true, true, true, true, true, false] rfl rfl (by kernel_rfl) (fun _ _ _ h => h) (Or.inr ⟨by rfl, rfl⟩) ?_ ?_
              rotate_left
              · simp only [Act.put, List.setIfInBounds_toArray, List.set_cons_zero, List.set_cons_succ, i64_w, i32_w]
                rfl
              refine pure_ (i := 19) (N := (some 71)) (v := ?_) (a' := ?_) #[true, true, true, true, true, true, true, true, true, true, true, true, true, true, true, true, true, true, true, true] rfl rfl (by kernel_rfl) (fun _ _ _ h => h) (Or.inl ⟨by rfl, ?_⟩) ?_ ?_
              rotate_left
              · intro w'
                go_simp
                with_reducible rfl
              rotate_left
              · simp only [Act.put, List.setIfInBounds_toArray, List.set_cons_zero, List.set_cons_succ, i64_w, i32_w]
                rfl
              refine done_ (by kernel_rfl) ?_
              go_wp2
              go_ret
              exact ⟨rfl, B3.out.trans (B6.out.mono (by omega))⟩
            · obtain ⟨xn, rfl⟩ : ∃ xn : Nat, x = xn := ⟨x.toNat, by omega⟩
              have hb0 : decide ((xn : Int) < 0) = false := decide_eq_false c0
              by_cases c1 : nw ≤ xn
              · have hb1 : decide (nw ≤ xn) = true := decide_eq_true c1
                have hv : V = 19 := HST.out (by unfold stoodP; rw [HWL.out]; simp; omega)
                subst hv
                refine start_ (n := 20) (S := fun w' => w'.cell? ⟨gb, 0, none⟩ = some (.int .i64 xn) ∧ w'.cell? ⟨gb, 1, none⟩ = some (.int .i64 y)) (ds := []) #[false, false, false, false, false, false, false, false, false, false, false, false, false, false, false, false, false, false, false, false] (by kernel_rfl) rfl rfl ⟨k0, k1⟩ (fun hHeld => ?_)
                refine pure_ (i := 0) (N := (some 52)) (v := ?_) (a' := ?_) #[true, false, false, false, false, false, false, false, false, false, false, false, false, false, false, false, false, false, false, false] rfl rfl (by kernel_rfl) (fun _ _ _ h => h) (Or.inl ⟨by rfl, ?_⟩) ?_ ?_
                rotate_left
                · intro w'
                  go_simp
                  with_reducible rfl
                rotate_left
                · simp only [Act.put, List.setIfInBounds_toArray, List.set_cons_zero, List.set_cons_succ, i64_w, i32_w]
                  rfl
                refine take_ (i := 1) (N := (some 53)) (v := ?_) (a' := ?_) #[true, true, false, false, false, false, false, false, false, false, false, false, false, false, false, false, false, false, false, false] rfl rfl (by kernel_rfl) (fun _ _ _ h => h) (Or.inl ⟨by rfl, ?_⟩) hHeld ?_ ?_
                rotate_left
                · rintro w' ⟨s0, s1⟩
                  go_simp
                  with_reducible rfl
                rotate_left
                · simp only [Act.put, List.setIfInBounds_toArray, List.set_cons_zero, List.set_cons_succ, i64_w, i32_w]
                  rfl
                refine pure_ (i := 2) (N := (some 54)) (v := ?_) (a' := ?_) #[true, true, true, false, false, false, false, false, false, false, false, false, false, false, false, false, false, false, false, false] rfl rfl (by kernel_rfl) (fun _ _ _ h => h) (Or.inl ⟨by rfl, ?_⟩) ?_ ?_
                rotate_left
                · intro w'
                  go_simp
                  (try simp only [hb0])
                  with_reducible rfl
                rotate_left
                · simp only [Act.put, List.setIfInBounds_toArray, List.set_cons_zero, List.set_cons_succ, i64_w, i32_w]
                  rfl
                refine pure_ (i := 3) (N := (some 55)) (v := ?_) (a' := ?_) #[true, true, true, true, false, false, false, false, false, false, false, false, false, false, false, false, false, false, false, false] rfl rfl (by kernel_rfl) (fun _ _ _ h => h) (Or.inl ⟨by rfl, ?_⟩) ?_ ?_
                rotate_left
                · intro w'
                  go_simp
                  with_reducible rfl
                rotate_left
                · simp only [Act.put, List.setIfInBounds_toArray, List.set_cons_zero, List.set_cons_succ, i64_w, i32_w]
                  rfl
                refine pure_ (i := 4) (N := (some 56)) (v := ?_) (a' := ?_) #[true, true, true, true, true, false, false, false, false, false, false, false, false, false, false, false, false, false, false, false] rfl rfl (by kernel_rfl) (fun _ _ _ h => h) (Or.inl ⟨by rfl, ?_⟩) ?_ ?_
                rotate_left
                · intro w'
                  go_simp
                  with_reducible rfl
                rotate_left
                · simp only [Act.put, List.setIfInBounds_toArray, List.set_cons_zero, List.set_cons_succ, i64_w, i32_w]
                  rfl
                refine take_ (i := 5) (N := (some 57)) (v := ?_) (a' := ?_) #[true, true, true, true, true, true, false, false, false, false, false, false, false, false, false, false, false, false, false, false] rfl rfl (by kernel_rfl) (fun _ _ _ h => h) (Or.inl ⟨by rfl, ?_⟩) hHeld ?_ ?_
                rotate_left
                · rintro w' ⟨s0, s1⟩
                  go_simp
                  with_reducible rfl
                rotate_left
                · simp only [Act.put, List.setIfInBounds_toArray, List.set_cons_zero, List.set_cons_succ, i64_w, i32_w]
                  rfl
                refine pure_ (i := 6) (N := (some 58)) (v := ?_) (a' := ?_) #[true, true, true, true, true, true, true, false, false, false, false, false, false, false, false, false, false, false, false, false] rfl rfl (by kernel_rfl) (fun _ _ _ h => h) (Or.inl ⟨by rfl, ?_⟩) ?_ ?_
                rotate_left
                · intro w'
                  go_simp
                  with_reducible rfl
                rotate_left
                · simp only [Act.put, List.setIfInBounds_toArray, List.set_cons_zero, List.set_cons_succ, i64_w, i32_w]
                  rfl
                refine pure_ (i := 7) (N := (some 59)) (v := ?_) (a' := ?_) #[true, true, true, true, true, true, true, true, false, false, false, false, false, false, false, false, false, false, false, false] rfl rfl (by kernel_rfl) (fun _ _ _ h => h) (Or.inl ⟨by rfl, ?_⟩) ?_ ?_
                rotate_left
                · intro w'
                  go_simp
                  with_reducible rfl
                rotate_left
                · simp only [Act.put, List.setIfInBounds_toArray, List.set_cons_zero, List.set_cons_succ, i64_w, i32_w]
                  rfl
                refine pure_ (i := 8) (N := (some 60)) (v := ?_) (a' := ?_) #[true, true, true, true, true, true, true, true, true, false, false, false, false, false, false, false, false, false, false, false] rfl rfl (by kernel_rfl) (fun _ _ _ h => h) (Or.inl ⟨by rfl, ?_⟩) ?_ ?_
                rotate_left
                · intro w'
                  go_simp
                  (try simp only [hb1])
                  with_reducible rfl
                rotate_left
                · simp only [Act.put, List.setIfInBounds_toArray, List.set_cons_zero, List.set_cons_succ, i64_w, i32_w]
                  rfl
                refine pure_ (i := 9) (N := (some 61)) (v := ?_) (a' := ?_) #[true, true, true, true, true, true, true, true, true, true, false, false, false, false, false, false, false, false, false, false] rfl rfl (by kernel_rfl) (fun _ _ _ h => h) (Or.inl ⟨by rfl, ?_⟩) ?_ ?_
                rotate_left
                · intro w'
                  go_simp
                  with_reducible rfl
                rotate_left
                · simp only [Act.put, List.setIfInBounds_toArray, List.set_cons_zero, List.set_cons_succ, i64_w, i32_w]
                  rfl
                refine pure_ (i := 10) (N := (some 62)) (v := ?_) (a' := ?_) #[true, true, true, true, true, true, true, true, true, true, true, false, false, false, false, false, false, false, false, false] rfl rfl (by kernel_rfl) (fun _ _ _ h => h) (Or.inl ⟨by rfl, ?_⟩) ?_ ?_
                rotate_left
                · intro w'
                  go_simp
                  with_reducible rfl
                rotate_left
                · simp only [Act.put, List.setIfInBounds_toArray, List.set_cons_zero, List.set_cons_succ, i64_w, i32_w]
                  rfl
                refine pure_ (i := 11) (N := (some 63)) (v := undef) (a' := ?_) #[true, true, true, true, true, true, true, true, true, true, true, true, false, false, false, false, false, false, false, false] rfl rfl (by kernel_rfl) (fun _ _ _ h => h) (Or.inr ⟨by rfl, rfl⟩) ?_ ?_
                rotate_left
                · simp only [Act.put, List.setIfInBounds_toArray, List.set_cons_zero, List.set_cons_succ, i64_w, i32_w]
                  rfl
                refine pure_ (i := 12) (N := (some 64)) (v := undef) (a' := ?_) #[true, true, true, true, true, true, true, true, true, true, true, true, true, false, false, false, false, false, false, false] rfl rfl (by kernel_rfl) (fun _ _ _ h => h) (Or.inr ⟨by rfl, rfl⟩) ?_ ?_
                rotate_left
                · simp only [Act.put, List.setIfInBounds_toArray, List.set_cons_zero, List.set_cons_succ, i64_w, i32_w]
                  rfl
                refine pure_ (i := 13) (N := (some 65)) (v := undef) (a' := ?_) #[true, true, true, true, true, true, true, true, true, true, true, true, true, true, false, false, false, false, false, false] rfl rfl (by kernel_rfl) (fun _ _ _ h => h) (Or.inr ⟨by rfl, rfl⟩) ?_ ?_
                rotate_left
                · simp only [Act.put, List.setIfInBounds_toArray, List.set_cons_zero, List.set_cons_succ, i64_w, i32_w]
                  rfl
                refine pure_ (i := 14) (N := (some 66)) (v := undef) (a' := ?_) #[true, true, true, true, true, true, true, true, true, true, true, true, true, true, true, false, false, false, false, false] rfl rfl (by kernel_rfl) (fun _ _ _ h => h) (Or.inr ⟨by rfl, rfl⟩) ?_ ?_
                rotate_left
                · simp only [Act.put, List.setIfInBounds_toArray, List.set_cons_zero, List.set_cons_succ, i64_w, i32_w]
                  rfl
                refine pure_ (i := 15) (N := (some 67)) (v := undef) (a' := ?_) #[true, true, true, true, true, true, true, true, true, true, true, true, true, true, true, true, false, false, false, false] rfl rfl (by kernel_rfl) (fun _ _ _ h => h) (Or.inr ⟨by rfl, rfl⟩) ?_ ?_
                rotate_left
                · simp only [Act.put, List.setIfInBounds_toArray, List.set_cons_zero, List.set_cons_succ, i64_w, i32_w]
                  rfl
                refine pure_ (i := 16) (N := (some 68)) (v := undef) (a' := ?_) #[true, true, true, true, true, true, true, true, true, true, true, true, true, true, true, true, true, false, false, false] rfl rfl (by kernel_rfl) (fun _ _ _ h => h) (Or.inr ⟨by rfl, rfl⟩) ?_ ?_
                rotate_left
                · simp only [Act.put, List.setIfInBounds_toArray, List.set_cons_zero, List.set_cons_succ, i64_w, i32_w]
                  rfl
                refine pure_ (i := 17) (N := (some 69)) (v := undef) (a' := ?_) #[true, true, true, true, true, true, true, true, true, true, true, true, true, true, true, true, true, true, false, false] rfl rfl (by kernel_rfl) (fun _ _ _ h => h) (Or.inr ⟨by rfl, rfl⟩) ?_ ?_
                rotate_left
                · simp only [Act.put, List.setIfInBounds_toArray, List.set_cons_zero, List.set_cons_succ, i64_w, i32_w]
                  rfl
                refine pure_ (i := 18) (N := (some 70)) (v := undef) (a' := ?_) #[true, true, true, true, true, true, true, true, true, true, true, true, true, true, true, true, true, true, true, false] rfl rfl (by kernel_rfl) (fun _ _ _ h => h) (Or.inr ⟨by rfl, rfl⟩) ?_ ?_
                rotate_left
                · simp only [Act.put, List.setIfInBounds_toArray, List.set_cons_zero, List.set_cons_succ, i64_w, i32_w]
                  rfl
                refine pure_ (i := 19) (N := (some 71)) (v := ?_) (a' := ?_) #[true, true, true, true, true, true, true, true, true, true, true, true, true, true, true, true, true, true, true, true] rfl rfl (by kernel_rfl) (fun _ _ _ h => h) (Or.inl ⟨by rfl, ?_⟩) ?_ ?_
                rotate_left
                · intro w'
                  go_simp
                  with_reducible rfl
                rotate_left
                · simp only [Act.put, List.setIfInBounds_toArray, List.set_cons_zero, List.set_cons_succ, i64_w, i32_w]
                  rfl
                refine done_ (by kernel_rfl) ?_
                go_wp2
                go_ret
                exact ⟨rfl, B3.out.trans (B6.out.mono (by omega))⟩
              · have hb1 : decide (nw ≤ xn) = false := decide_eq_false c1
                have hxn : xn < nw := by omega
                have k2 := TC.out xn (by rw [HWL.out]; exact hxn)
                obtain ⟨z, hz⟩ : ∃ z, ws.getD xn 0 = z := ⟨_, rfl⟩
                rw [hz] at k2
                by_cases c2 : z = y
                · have hok := Lib.hid (HNX.out (by unfold stoodP; rw [HWL.out]; simp only [Int.toNat_natCast, hz, c2]; simp; omega))
                  have hb2 : (z != y) = false := by rw [c2]; simp
                  clear HNX HST TC hz
                  refine start_ (n := 20) (S := fun w' => w'.cell? ⟨gb, 0, none⟩ = some (.int .i64 xn) ∧ w'.cell? ⟨gb, 1, none⟩ = some (.int .i64 y) ∧ w'.cell? ⟨q3, xn, none⟩ = some (.int .i64 z)) (ds := []) #[false, false, false, false, false, false, false, false, false, false, false, false, false, false, false, false, false, false, false, false] (by kernel_rfl) rfl rfl ⟨k0, k1, k2⟩ (fun hHeld => ?_)
                  refine pure_ (i := 0) (N := (some 52)) (v := ?_) (a' := ?_) #[true, false, false, false, false, false, false, false, false, false, false, false, false, false, false, false, false, false, false, false] rfl rfl (by kernel_rfl) (fun _ _ _ h => h) (Or.inl ⟨by rfl, ?_⟩) ?_ ?_
                  rotate_left
                  · intro w'
                    go_simp
                    with_reducible rfl
                  rotate_left
                  · simp only [Act.put, List.setIfInBounds_toArray, List.set_cons_zero, List.set_cons_succ, i64_w, i32_w]
                    rfl
                  refine take_ (i := 1) (N := (some 53)) (v := ?_) (a' := ?_) #[true, true, false, false, false, false, false, false, false, false, false, false, false, false, false, false, false, false, false, false] rfl rfl (by kernel_rfl) (fun _ _ _ h => h) (Or.inl ⟨by rfl, ?_⟩) hHeld ?_ ?_
                  rotate_left
                  · rintro w' ⟨s0, s1, s2⟩
                    go_simp
                    with_reducible rfl
                  rotate_left
                  · simp only [Act.put, List.setIfInBounds_toArray, List.set_cons_zero, List.set_cons_succ, i64_w, i32_w]
                    rfl
                  refine pure_ (i := 2) (N := (some 54)) (v := ?_) (a' := ?_) #[true, true, true, false, false, false, false, false, false, false, false, false, false, false, false, false, false, false, false, false] rfl rfl (by kernel_rfl) (fun _ _ _ h => h) (Or.inl ⟨by rfl, ?_⟩) ?_ ?_
                  rotate_left
                  · intro w'
                    go_simp
                    (try simp only [hb0])
                    with_reducible rfl
                  rotate_left
                  · simp only [Act.put, List.setIfInBounds_toArray, List.set_cons_zero, List.set_cons_succ, i64_w, i32_w]
                    rfl
                  refine pure_ (i := 3) (N := (some 55)) (v := ?_) (a' := ?_) #[true, true, true, true, false, false, false, false, false, false, false, false, false, false, false, false, false, false, false, false] rfl rfl (by kernel_rfl) (fun _ _ _ h => h) (Or.inl ⟨by rfl, ?_⟩) ?_ ?_
                  rotate_left
                  · intro w'
                    go_simp
                    with_reducible rfl
                  rotate_left
                  · simp only [Act.put, List.setIfInBounds_toArray, List.set_cons_zero, List.set_cons_succ, i64_w, i32_w]
                    rfl
                  refine pure_ (i := 4) (N := (some 56)) (v := ?_) (a' := ?_) #[true, true, true, true, true, false, false, false, false, false, false, false, false, false, false, false, false, false, false, false] rfl rfl (by kernel_rfl) (fun _ _ _ h => h) (Or.inl ⟨by rfl, ?_⟩) ?_ ?_
                  rotate_left
                  · intro w'
                    go_simp
                    with_reducible rfl
                  rotate_left
                  · simp only [Act.put, List.setIfInBounds_toArray, List.set_cons_zero, List.set_cons_succ, i64_w, i32_w]
                    rfl
                  refine take_ (i := 5) (N := (some 57)) (v := ?_) (a' := ?_) #[true, true, true, true, true, true, false, false, false, false, false, false, false, false, false, false, false, false, false, false] rfl rfl (by kernel_rfl) (fun _ _ _ h => h) (Or.inl ⟨by rfl, ?_⟩) hHeld ?_ ?_
                  rotate_left
                  · rintro w' ⟨s0, s1, s2⟩
                    go_simp
                    with_reducible rfl
                  rotate_left
                  · simp only [Act.put, List.setIfInBounds_toArray, List.set_cons_zero, List.set_cons_succ, i64_w, i32_w]
                    rfl
                  refine pure_ (i := 6) (N := (some 58)) (v := ?_) (a' := ?_) #[true, true, true, true, true, true, true, false, false, false, false, false, false, false, false, false, false, false, false, false] rfl rfl (by kernel_rfl) (fun _ _ _ h => h) (Or.inl ⟨by rfl, ?_⟩) ?_ ?_
                  rotate_left
                  · intro w'
                    go_simp
                    with_reducible rfl
                  rotate_left
                  · simp only [Act.put, List.setIfInBounds_toArray, List.set_cons_zero, List.set_cons_succ, i64_w, i32_w]
                    rfl
                  refine pure_ (i := 7) (N := (some 59)) (v := ?_) (a' := ?_) #[true, true, true, true, true, true, true, true, false, false, false, false, false, false, false, false, false, false, false, false] rfl rfl (by kernel_rfl) (fun _ _ _ h => h) (Or.inl ⟨by rfl, ?_⟩) ?_ ?_
                  rotate_left
                  · intro w'
                    go_simp
                    with_reducible rfl
                  rotate_left
                  · simp only [Act.put, List.setIfInBounds_toArray, List.set_cons_zero, List.set_cons_succ, i64_w, i32_w]
                    rfl
                  refine pure_ (i := 8) (N := (some 60)) (v := ?_) (a' := ?_) #[true, true, true, true, true, true, true, true, true, false, false, false, false, false, false, false, false, false, false, false] rfl rfl (by kernel_rfl) (fun _ _ _ h => h) (Or.inl ⟨by rfl, ?_⟩) ?_ ?_
                  rotate_left
                  · intro w'
                    go_simp
                    (try simp only [hb1])
                    with_reducible rfl
                  rotate_left
                  · simp only [Act.put, List.setIfInBounds_toArray, List.set_cons_zero, List.set_cons_succ, i64_w, i32_w]
                    rfl
                  refine pure_ (i := 9) (N := (some 61)) (v := ?_) (a' := ?_) #[true, true, true, true, true, true, true, true, true, true, false, false, false, false, false, false, false, false, false, false] rfl rfl (by kernel_rfl) (fun _ _ _ h => h) (Or.inl ⟨by rfl, ?_⟩) ?_ ?_
                  rotate_left
                  · intro w'
                    go_simp
                    with_reducible rfl
                  rotate_left
                  · simp only [Act.put, List.setIfInBounds_toArray, List.set_cons_zero, List.set_cons_succ, i64_w, i32_w]
                    rfl
                  refine pure_ (i := 10) (N := (some 62)) (v := ?_) (a' := ?_) #[true, true, true, true, true, true, true, true, true, true, true, false, false, false, false, false, false, false, false, false] rfl rfl (by kernel_rfl) (fun _ _ _ h => h) (Or.inl ⟨by rfl, ?_⟩) ?_ ?_
                  rotate_left
                  · intro w'
                    go_simp
                    with_reducible rfl
                  rotate_left
                  · simp only [Act.put, List.setIfInBounds_toArray, List.set_cons_zero, List.set_cons_succ, i64_w, i32_w]
                    rfl
                  refine pure_ (i := 11) (N := (some 63)) (v := ?_) (a' := ?_) #[true, true, true, true, true, true, true, true, true, true, true, true, false, false, false, false, false, false, false, false] rfl rfl (by kernel_rfl) (fun _ _ _ h => h) (Or.inl ⟨by rfl, ?_⟩) ?_ ?_
                  rotate_left
                  · intro w'
                    go_simp
                    with_reducible rfl
                  rotate_left
                  · simp only [Act.put, List.setIfInBounds_toArray, List.set_cons_zero, List.set_cons_succ, i64_w, i32_w]
                    rfl
                  refine pure_ (i := 12) (N := (some 64)) (v := ?_) (a' := ?_) #[true, true, true, true, true, true, true, true, true, true, true, true, true, false, false, false, false, false, false, false] rfl rfl (by kernel_rfl) (fun _ _ _ h => h) (Or.inl ⟨by rfl, ?_⟩) ?_ ?_
                  rotate_left
                  · intro w'
                    go_simp
                    with_reducible rfl
                  rotate_left
                  · simp only [Act.put, List.setIfInBounds_toArray, List.set_cons_zero, List.set_cons_succ, i64_w, i32_w]
                    rfl
                  refine take_ (i := 13) (N := (some 65)) (v := ?_) (a' := ?_) #[true, true, true, true, true, true, true, true, true, true, true, true, true, true, false, false, false, false, false, false] rfl rfl (by kernel_rfl) (fun _ _ _ h => h) (Or.inl ⟨by rfl, ?_⟩) hHeld ?_ ?_
                  rotate_left
                  · rintro w' ⟨s0, s1, s2⟩
                    go_simp
                    with_reducible rfl
                  rotate_left
                  · simp only [Act.put, List.setIfInBounds_toArray, List.set_cons_zero, List.set_cons_succ, i64_w, i32_w]
                    rfl
                  refine take_ (i := 14) (N := (some 66)) (v := ?_) (a' := ?_) #[true, true, true, true, true, true, true, true, true, true, true, true, true, true, true, false, false, false, false, false] rfl rfl (by kernel_rfl) (fun _ _ _ h => h) (Or.inl ⟨by rfl, ?_⟩) hHeld ?_ ?_
                  rotate_left
                  · rintro w' ⟨s0, s1, s2⟩
                    go_simp
                    with_reducible rfl
                  rotate_left
                  · simp only [Act.put, List.setIfInBounds_toArray, List.set_cons_zero, List.set_cons_succ, i64_w, i32_w]
                    rfl
                  refine take_ (i := 15) (N := (some 67)) (v := ?_) (a' := ?_) #[true, true, true, true, true, true, true, true, true, true, true, true, true, true, true, true, false, false, false, false] rfl rfl (by kernel_rfl) (fun _ _ _ h => h) (Or.inl ⟨by rfl, ?_⟩) hHeld ?_ ?_
                  rotate_left
                  · rintro w' ⟨s0, s1, s2⟩
                    go_simp
                    with_reducible rfl
                  rotate_left
                  · simp only [Act.put, List.setIfInBounds_toArray, List.set_cons_zero, List.set_cons_succ, i64_w, i32_w]
                    rfl
                  refine pure_ (i := 16) (N := (some 68)) (v := ?_) (a' := ?_) #[true, true, true, true, true, true, true, true, true, true, true, true, true, true, true, true, true, false, false, false] rfl rfl (by kernel_rfl) (fun _ _ _ h => h) (Or.inl ⟨by rfl, ?_⟩) ?_ ?_
                  rotate_left
                  · intro w'
                    go_simp
                    with_reducible rfl
                  rotate_left
                  · simp only [Act.put, List.setIfInBounds_toArray, List.set_cons_zero, List.set_cons_succ, i64_w, i32_w]
                    rfl
                  refine take_ (i := 17) (N := (some 69)) (v := ?_) (a' := ?_) #[true, true, true, true, true, true, true, true, true, true, true, true, true, true, true, true, true, true, false, false] rfl rfl (by kernel_rfl) (fun _ _ _ h => h) (Or.inl ⟨by rfl, ?_⟩) hHeld ?_ ?_
                  rotate_left
                  · rintro w' ⟨s0, s1, s2⟩
                    go_simp
                    with_reducible rfl
                  rotate_left
                  · simp only [Act.put, List.setIfInBounds_toArray, List.set_cons_zero, List.set_cons_succ, i64_w, i32_w]
                    rfl
                  refine pure_ (i := 18) (N := (some 70)) (v := ?_) (a' := ?_) #[true, true, true, true, true, true, true, true, true, true, true, true, true, true, true, true, true, true, true, false] rfl rfl (by kernel_rfl) (fun _ _ _ h => h) (Or.inl ⟨by rfl, ?_⟩) ?_ ?_
                  rotate_left
                  · intro w'
                    go_simp
                    (try simp only [hb2])
                    with_reducible rfl
                  rotate_left
                  · simp only [Act.put, List.setIfInBounds_toArray, List.set_cons_zero, List.set_cons_succ, i64_w, i32_w]
                    rfl
                  refine pure_ (i := 19) (N := (some 71)) (v := ?_) (a' := ?_) #[true, true, true, true, true, true, true, true, true, true, true, true, true, true, true, true, true, true, true, true] rfl rfl (by kernel_rfl) (fun _ _ _ h => h) (Or.inl ⟨by rfl, ?_⟩) ?_ ?_
                  rotate_left
                  · intro w'
                    go_simp
                    with_reducible rfl
                  rotate_left
                  · simp only [Act.put, List.setIfInBounds_toArray, List.set_cons_zero, List.set_cons_succ, i64_w, i32_w]
                    rfl
                  refine done_ (by kernel_rfl) ?_
                  go_wp2
                  go_roundw
                  case rel => exact ⟨j + 1, by omega, by go_num, hok, B6⟩
                  case measure => simp [intOf]; omega
                · have hb2 : (z != y) = true := by simp [c2]
                  have hv : V = 19 := HST.out (by unfold stoodP; rw [HWL.out]; simp only [Int.toNat_natCast, hz, decide_eq_false c2, Bool.and_false])
                  subst hv
                  clear HNX HST TC hz
                  refine start_ (n := 20) (S := fun w' => w'.cell? ⟨gb, 0, none⟩ = some (.int .i64 xn) ∧ w'.cell? ⟨gb, 1, none⟩ = some (.int .i64 y) ∧ w'.cell? ⟨q3, xn, none⟩ = some (.int .i64 z)) (ds := []) #[false, false, false, false, false, false, false, false, false, false, false, false, false, false, false, false, false, false, false, false] (by kernel_rfl) rfl rfl ⟨k0, k1, k2⟩ (fun hHeld => ?_)
                  refine pure_ (i := 0) (N := (some 52)) (v := ?_) (a' := ?_) #[true, false, false, false, false, false, false, false, false, false, false, false, false, false, false, false, false, false, false, false] rfl rfl (by kernel_rfl) (fun _ _ _ h => h) (Or.inl ⟨by rfl, ?_⟩) ?_ ?_
                  rotate_left
                  · intro w'
                    go_simp
                    with_reducible rfl
                  rotate_left
                  · simp only [Act.put, List.setIfInBounds_toArray, List.set_cons_zero, List.set_cons_succ, i64_w, i32_w]
                    rfl
                  refine take_ (i := 1) (N := (some 53)) (v := ?_) (a' := ?_) #[true, true, false, false, false, false, false, false, false, false, false, false, false, false, false, false, false, false, false, false] rfl rfl (by kernel_rfl) (fun _ _ _ h => h) (Or.inl ⟨by rfl, ?_⟩) hHeld ?_ ?_
                  rotate_left
                  · rintro w' ⟨s0, s1, s2⟩
                    go_simp
                    with_reducible rfl
                  rotate_left
                  · simp only [Act.put, List.setIfInBounds_toArray, List.set_cons_zero, List.set_cons_succ, i64_w, i32_w]
                    rfl
                  refine pure_ (i := 2) (N := (some 54)) (v := ?_) (a' := ?_) #[true, true, true, false, false, false, false, false, false, false, false, false, false, false, false, false, false, false, false, false] rfl rfl (by kernel_rfl) (fun _ _ _ h => h) (Or.inl ⟨by rfl, ?_⟩) ?_ ?_
                  rotate_left
                  · intro w'
                    go_simp
                    (try simp only [hb0])
                    with_reducible rfl
                  rotate_left
                  · simp only [Act.put, List.setIfInBounds_toArray, List.set_cons_zero, List.set_cons_succ, i64_w, i32_w]
                    rfl
                  refine pure_ (i := 3) (N := (some 55)) (v := ?_) (a' := ?_) #[true, true, true, true, false, false, false, false, false, false, false, false, false, false, false, false, false, false, false, false] rfl rfl (by kernel_rfl) (fun _ _ _ h => h) (Or.inl ⟨by rfl, ?_⟩) ?_ ?_
                  rotate_left
                  · intro w'
                    go_simp
                    with_reducible rfl
                  rotate_left
                  · simp only [Act.put, List.setIfInBounds_toArray, List.set_cons_zero, List.set_cons_succ, i64_w, i32_w]
                    rfl
                  refine pure_ (i := 4) (N := (some 56)) (v := ?_) (a' := ?_) #[true, true, true, true, true, false, false, false, false, false, false, false, false, false, false, false, false, false, false, false] rfl rfl (by kernel_rfl) (fun _ _ _ h => h) (Or.inl ⟨by rfl, ?_⟩) ?_ ?_
                  rotate_left
                  · intro w'
                    go_simp
                    with_reducible rfl
                  rotate_left
                  · simp only [Act.put, List.setIfInBounds_toArray, List.set_cons_zero, List.set_cons_succ, i64_w, i32_w]
                    rfl
                  refine take_ (i := 5) (N := (some 57)) (v := ?_) (a' := ?_) #[true, true, true, true, true, true, false, false, false, false, false, false, false, false, false, false, false, false, false, false] rfl rfl (by kernel_rfl) (fun _ _ _ h => h) (Or.inl ⟨by rfl, ?_⟩) hHeld ?_ ?_
                  rotate_left
                  · rintro w' ⟨s0, s1, s2⟩
                    go_simp
                    with_reducible rfl
                  rotate_left
                  · simp only [Act.put, List.setIfInBounds_toArray, List.set_cons_zero, List.set_cons_succ, i64_w, i32_w]
                    rfl
                  refine pure_ (i := 6) (N := (some 58)) (v := ?_) (a' := ?_) #[true, true, true, true, true, true, true, false, false, false, false, false, false, false, false, false, false, false, false, false] rfl rfl (by kernel_rfl) (fun _ _ _ h => h) (Or.inl ⟨by rfl, ?_⟩) ?_ ?_
                  rotate_left
                  · intro w'
                    go_simp
                    with_reducible rfl
                  rotate_left
                  · simp only [Act.put, List.setIfInBounds_toArray, List.set_cons_zero, List.set_cons_succ, i64_w, i32_w]
                    rfl
                  refine pure_ (i := 7) (N := (some 59)) (v := ?_) (a' := ?_) #[true, true, true, true, true, true, true, true, false, false, false, false, false, false, false, false, false, false, false, false] rfl rfl (by kernel_rfl) (fun _ _ _ h => h) (Or.inl ⟨by rfl, ?_⟩) ?_ ?_
                  rotate_left
                  · intro w'
                    go_simp
                    with_reducible rfl
                  rotate_left
                  · simp only [Act.put, List.setIfInBounds_toArray, List.set_cons_zero, List.set_cons_succ, i64_w, i32_w]
                    rfl
                  refine pure_ (i := 8) (N := (some 60)) (v := ?_) (a' := ?_) #[true, true, true, true, true, true, true, true, true, false, false, false, false, false, false, false, false, false, false, false] rfl rfl (by kernel_rfl) (fun _ _ _ h => h) (Or.inl ⟨by rfl, ?_⟩) ?_ ?_
                  rotate_left
                  · intro w'
                    go_simp
                    (try simp only [hb1])
                    with_reducible rfl
                  rotate_left
                  · simp only [Act.put, List.setIfInBounds_toArray, List.set_cons_zero, List.set_cons_succ, i64_w, i32_w]
                    rfl
                  refine pure_ (i := 9) (N := (some 61)) (v := ?_) (a' := ?_) #[true, true, true, true, true, true, true, true, true, true, false, false, false, false, false, false, false, false, false, false] rfl rfl (by kernel_rfl) (fun _ _ _ h => h) (Or.inl ⟨by rfl, ?_⟩) ?_ ?_
                  rotate_left
                  · intro w'
                    go_simp
                    with_reducible rfl
                  rotate_left
                  · simp only [Act.put, List.setIfInBounds_toArray, List.set_cons_zero, List.set_cons_succ, i64_w, i32_w]
                    rfl
                  refine pure_ (i := 10) (N := (some 62)) (v := ?_) (a' := ?_) #[true, true, true, true, true, true, true, true, true, true, true, false, false, false, false, false, false, false, false, false] rfl rfl (by kernel_rfl) (fun _ _ _ h => h) (Or.inl ⟨by rfl, ?_⟩) ?_ ?_
                  rotate_left
                  · intro w'
                    go_simp
                    with_reducible rfl
                  rotate_left
                  · simp only [Act.put, List.setIfInBounds_toArray, List.set_cons_zero, List.set_cons_succ, i64_w, i32_w]
                    rfl
                  refine pure_ (i := 11) (N := (some 63)) (v := ?_) (a' := ?_) #[true, true, true, true, true, true, true, true, true, true, true, true, false, false, false, false, false, false, false, false] rfl rfl (by kernel_rfl) (fun _ _ _ h => h) (Or.inl ⟨by rfl, ?_⟩) ?_ ?_
                  rotate_left
                  · intro w'
                    go_simp
                    with_reducible rfl
                  rotate_left
                  · simp only [Act.put, List.setIfInBounds_toArray, List.set_cons_zero, List.set_cons_succ, i64_w, i32_w]
                    rfl
                  refine pure_ (i := 12) (N := (some 64)) (v := ?_) (a' := ?_) #[true, true, true, true, true, true, true, true, true, true, true, true, true, false, false, false, false, false, false, false] rfl rfl (by kernel_rfl) (fun _ _ _ h => h) (Or.inl ⟨by rfl, ?_⟩) ?_ ?_
                  rotate_left
                  · intro w'
                    go_simp
                    with_reducible rfl
                  rotate_left
                  · simp only [Act.put, List.setIfInBounds_toArray, List.set_cons_zero, List.set_cons_succ, i64_w, i32_w]
                    rfl
                  refine take_ (i := 13) (N := (some 65)) (v := ?_) (a' := ?_) #[true, true, true, true, true, true, true, true, true, true, true, true, true, true, false, false, false, false, false, false] rfl rfl (by kernel_rfl) (fun _ _ _ h => h) (Or.inl ⟨by rfl, ?_⟩) hHeld ?_ ?_
                  rotate_left
                  · rintro w' ⟨s0, s1, s2⟩
                    go_simp
                    with_reducible rfl
                  rotate_left
                  · simp only [Act.put, List.setIfInBounds_toArray, List.set_cons_zero, List.set_cons_succ, i64_w, i32_w]
                    rfl
                  refine take_ (i := 14) (N := (some 66)) (v := ?_) (a' := ?_) #[true, true, true, true, true, true, true, true, true, true, true, true, true, true, true, false, false, false, false, false] rfl rfl (by kernel_rfl) (fun _ _ _ h => h) (Or.inl ⟨by rfl, ?_⟩) hHeld ?_ ?_
                  rotate_left
                  · rintro w' ⟨s0, s1, s2⟩
                    go_simp
                    with_reducible rfl
                  rotate_left
                  · simp only [Act.put, List.setIfInBounds_toArray, List.set_cons_zero, List.set_cons_succ, i64_w, i32_w]
                    rfl
                  refine take_ (i := 15) (N := (some 67)) (v := ?_) (a' := ?_) #[true, true, true, true, true, true, true, true, true, true, true, true, true, true, true, true, false, false, false, false] rfl rfl (by kernel_rfl) (fun _ _ _ h => h) (Or.inl ⟨by rfl, ?_⟩) hHeld ?_ ?_
                  rotate_left
                  · rintro w' ⟨s0, s1, s2⟩
                    go_simp
                    with_reducible rfl
                  rotate_left
                  · simp only [Act.put, List.setIfInBounds_toArray, List.set_cons_zero, List.set_cons_succ, i64_w, i32_w]
                    rfl
                  refine pure_ (i := 16) (N := (some 68)) (v := ?_) (a' := ?_) #[true, true, true, true, true, true, true, true, true, true, true, true, true, true, true, true, true, false, false, false] rfl rfl (by kernel_rfl) (fun _ _ _ h => h) (Or.inl ⟨by rfl, ?_⟩) ?_ ?_
                  rotate_left
                  · intro w'
                    go_simp
                    with_reducible rfl
                  rotate_left
                  · simp only [Act.put, List.setIfInBounds_toArray, List.set_cons_zero, List.set_cons_succ, i64_w, i32_w]
                    rfl
                  refine take_ (i := 17) (N := (some 69)) (v := ?_) (a' := ?_) #[true, true, true, true, true, true, true, true, true, true, true, true, true, true, true, true, true, true, false, false] rfl rfl (by kernel_rfl) (fun _ _ _ h => h) (Or.inl ⟨by rfl, ?_⟩) hHeld ?_ ?_
                  rotate_left
                  · rintro w' ⟨s0, s1, s2⟩
                    go_simp
                    with_reducible rfl
                  rotate_left
                  · simp only [Act.put, List.setIfInBounds_toArray, List.set_cons_zero, List.set_cons_succ, i64_w, i32_w]
                    rfl
                  refine pure_ (i := 18) (N := (some 70)) (v := ?_) (a' := ?_) #[true, true, true, true, true, true, true, true, true, true, true, true, true, true, true, true, true, true, true, false] rfl rfl (by kernel_rfl) (fun _ _ _ h => h) (Or.inl ⟨by rfl, ?_⟩) ?_ ?_
                  rotate_left
                  · intro w'
                    go_simp
                    (try simp only [hb2])
                    with_reducible rfl
                  rotate_left
                  · simp only [Act.put, List.setIfInBounds_toArray, List.set_cons_zero, List.set_cons_succ, i64_w, i32_w]
                    rfl
                  refine pure_ (i := 19) (N := (some 71)) (v := ?_) (a' := ?_) #[true, true, true, true, true, true, true, true, true, true, true, true, true, true, true, true, true, true, true, true] rfl rfl (by kernel_rfl) (fun _ _ _ h => h) (Or.inl ⟨by rfl, ?_⟩) ?_ ?_
                  rotate_left
                  · intro w'
                    go_simp
                    with_reducible rfl
                  rotate_left
                  · simp only [Act.put, List.setIfInBounds_toArray, List.set_cons_zero, List.set_cons_succ, i64_w, i32_w]
                    rfl
                  refine done_ (by kernel_rfl) ?_
                  go_wp2
                  go_ret
                  exact ⟨rfl, B3.out.trans (B6.out.mono (by omega))⟩
          · obtain rfl : n6 = j := by omega
            have hall : stoodB ws t.reads = true := by
              refine List.all_eq_true.2 fun p hp => HQ.out p ?_
              rw [List.take_of_length_le (by rw [HN6.out]; exact Nat.le_refl _)]; exact hp
            have HR2 := Lib.hid (NEXT.out (by rw [← HE.out]; exact hall))
            have B7 : Hid (Below g w wr) := B3.out.trans (HB.out.mono (by omega))
            clear NEXT STOP HQ HB hall
            go_wp2
            go_roundw
            case rel => exact ⟨i + 1, by omega, by go_num, HR2, B7⟩
            case measure => simp [intOf]; omega
    · obtain rfl : n = i := by omega
      have e : l.all (readB first O) = true := by
        refine List.all_eq_true.2 fun t ht => HR.out t ?_
        rw [List.take_of_length_le (by rw [HN.out]; exact Nat.le_refl _)]; exact ht
      have hv := HV.out
      rw [e] at hv
      have hv : 0 = V := hv
      subst hv
      go_wp2
      go_ret
      exact ⟨rfl, HB.out⟩

end OPR
end Go.Proofs.Ytkegfeghdnpajaa

/- law34's lives -/
namespace Go.Proofs.Ytkegfeghdnpajaa
open Go.RowKit Go.Bas Go.WideShapes Txs View IMap_
namespace OPR
open Srt hiding Ev

theorem alike_one {e : Srt.Ev} {O : List Srt.Ev} (h : Srt.Alike [e] O) : O = [e] := by
  have h1 : ∀ x ∈ O, x = e := fun x hx => by simpa using h.mem.1 hx
  have h2 := h e.stamp e.flag
  have h3 : O.filter (atF e.stamp e.flag) = O := filter_all fun x hx => by rw [h1 x hx]; simp [atF]
  have h4 : [e].filter (atF e.stamp e.flag) = [e] := by simp [atF]
  rw [h3, h4] at h2
  exact h2
def e1 : Srt.Ev := ⟨1, false, [(3, 7)]⟩
def t1 : Tx := ⟨0, 0, 0, 1, false, true, [], [(3, 7)]⟩
def t2 : Tx := ⟨0, 0, 1, 0, false, false, [(3, 7)], []⟩
def t3 : Tx := ⟨0, 0, 0, 0, false, false, [(3, 7)], []⟩
theorem evs3 : evs [t1, t2, t3] = [e1] := rfl
theorem evs2 : evs [t1, t2] = [e1] := rfl
theorem right3 : rightB 4 [t1, t2, t3] = true := by decide
theorem right2 : rightB 4 [t1, t2] = true := by decide
theorem read3 : [t1, t2, t3].all (readB [0, 0, 0, 0] [e1]) = false := by decide
theorem read2 : [t1, t2].all (readB [0, 0, 0, 0] [e1]) = true := by decide
theorem app3 : app [0, 0, 0, 0] [e1] = [0, 0, 0, 7] := by decide
theorem in1 : ∀ t ∈ [t1, t2, t3], In64 t.stamp ∧ In64 t.seen ∧ In64 t.worker := by
  intro t ht
  simp at ht
  rcases ht with rfl | rfl | rfl <;> simp [t1, t2, t3, In64]

theorem run_tx3 (w : World) (x0 x1 x2 x3 x4 x5 x6 x7 y0 y1 y2 y3 y4 y5 y6 y7 z0 z1 z2 z3 z4 z5 z6 z7 : Value) : (Instr.buildSlice 37 3 #[(0, .agg #[x0, x1, x2, x3, x4, x5, x6, x7]), (1, .agg #[y0, y1, y2, y3, y4, y5, y6, y7]), (2, .agg #[z0, z1, z2, z3, z4, z5, z6, z7])]).run Try.prog w = .ok (.slice (some ⟨w.heap.size, 0, none⟩) 3 3) (w.alloc (.cells #[x0, x1, x2, x3, x4, x5, x6, x7, y0, y1, y2, y3, y4, y5, y6, y7, z0, z1, z2, z3, z4, z5, z6, z7] 91)) := by
  have hinfo : (Try.prog.info? 91).map (fun i => (i.zero, i.size)) = some (some (.agg #[.int .i64 0, .int .i64 0, .int .i64 0, .int .i64 0, .bool false, .bool false, .slice none 0 0, .slice none 0 0]), 8) := by kernel_rfl
  obtain ⟨i, hi, hzz⟩ := Option.map_eq_some_iff.1 hinfo
  simp only [Prod.mk.injEq] at hzz
  obtain ⟨hz, hs⟩ := hzz
  refine run_buildSlice w _ 91 3 _ #[x0, x1, x2, x3, x4, x5, x6, x7, y0, y1, y2, y3, y4, y5, y6, y7, z0, z1, z2, z3, z4, z5, z6, z7] i _ Try.underlying37 hi hz (by rw [hs]; decide) (by rw [hs]; decide) ?_
  rw [hs]
  kernel_rfl
theorem wpList_tx3 {ops : Array Oper} {rest : List Oper} {o : Oper} {a : Act} {w : World} {Q : Exit → Act → World → Prop} (hg : o.guard = none) (p0 p1 p2 : Operand) (ho : o.op = .buildSlice 37 3 #[(0, p0), (1, p1), (2, p2)])
    (x0 x1 x2 x3 x4 x5 x6 x7 y0 y1 y2 y3 y4 y5 y6 y7 z0 z1 z2 z3 z4 z5 z6 z7 : Value) (h0 : a.eval p0 = .agg #[x0, x1, x2, x3, x4, x5, x6, x7]) (h1 : a.eval p1 = .agg #[y0, y1, y2, y3, y4, y5, y6, y7]) (h2 : a.eval p2 = .agg #[z0, z1, z2, z3, z4, z5, z6, z7])
    (h : wpList Try.prog ops Q rest (a.put o.dst (.slice (some ⟨w.heap.size, 0, none⟩) 3 3)) (w.alloc (.cells #[x0, x1, x2, x3, x4, x5, x6, x7, y0, y1, y2, y3, y4, y5, y6, y7, z0, z1, z2, z3, z4, z5, z6, z7] 91))) : wpList Try.prog ops Q (o :: rest) a w :=
  wpList_plain hg fun K hK => by
    have e : ((#[(0, p0), (1, p1), (2, p2)] : Array (Nat × Operand)).map fun (i, x) => (i, a.eval x)) = #[(0, .agg #[x0, x1, x2, x3, x4, x5, x6, x7]), (1, .agg #[y0, y1, y2, y3, y4, y5, y6, y7]), (2, .agg #[z0, z1, z2, z3, z4, z5, z6, z7])] := by simp [h0, h1, h2]
    unfold Oper.wp execOp
    simp only [ho, Sem.run_bind, e, run_tx3, Result.andThen_ok]
    exact hK _ _ h
theorem run_ints4 (w : World) (x0 x1 x2 x3 : Int) : (Instr.buildSlice 43 4 #[(0, .int .i64 x0), (1, .int .i64 x1), (2, .int .i64 x2), (3, .int .i64 x3)]).run Try.prog w = .ok (.slice (some ⟨w.heap.size, 0, none⟩) 4 4) (w.alloc (.cells #[.int .i64 x0, .int .i64 x1, .int .i64 x2, .int .i64 x3] 3)) := by
  have hinfo : (Try.prog.info? 3).map (fun i => (i.zero, i.size)) = some (some (.int .i64 0), 1) := by kernel_rfl
  obtain ⟨i, hi, hzz⟩ := Option.map_eq_some_iff.1 hinfo
  simp only [Prod.mk.injEq] at hzz
  obtain ⟨hz, hs⟩ := hzz
  refine run_buildSlice w _ 3 4 _ #[.int .i64 x0, .int .i64 x1, .int .i64 x2, .int .i64 x3] i _ Try.underlying43 hi hz (by rw [hs]; decide) (by rw [hs]; decide) ?_
  rw [hs]
  kernel_rfl
theorem wpList_ints4 {ops : Array Oper} {rest : List Oper} {o : Oper} {a : Act} {w : World} {Q : Exit → Act → World → Prop} (hw : Region.wanted o (yielded ops a.tmps) = true) (p0 p1 p2 p3 : Operand) (ho : o.op = .buildSlice 43 4 #[(0, p0), (1, p1), (2, p2), (3, p3)])
    (x0 x1 x2 x3 : Int) (h0 : a.eval p0 = .int .i64 x0) (h1 : a.eval p1 = .int .i64 x1) (h2 : a.eval p2 = .int .i64 x2) (h3 : a.eval p3 = .int .i64 x3)
    (h : wpList Try.prog ops Q rest (a.put o.dst (.slice (some ⟨w.heap.size, 0, none⟩) 4 4)) (w.alloc (.cells #[.int .i64 x0, .int .i64 x1, .int .i64 x2, .int .i64 x3] 3))) : wpList Try.prog ops Q (o :: rest) a w := by
  refine BigFrame.wpList_want hw fun K hK => ?_
  have e : ((#[(0, p0), (1, p1), (2, p2), (3, p3)] : Array (Nat × Operand)).map fun (i, x) => (i, a.eval x)) = #[(0, .int .i64 x0), (1, .int .i64 x1), (2, .int .i64 x2), (3, .int .i64 x3)] := by simp [h0, h1, h2, h3]
  unfold Oper.wp execOp
  simp only [ho, Sem.run_bind, e, run_ints4, Result.andThen_ok]
  exact hK _ _ h

theorem pairs_one {w : World} {gp B : Nat} (h : w.heap[gp]? = some (.cells #[.int .i64 3, .int .i64 7] 93 (0, 0))) (hb : gp < B) : Pairs w B (.slice (some ⟨gp, 0, none⟩) 1 1) [(3, 7)] := by
  refine ⟨_, 1, rfl, by decide, fun _ => ⟨gp, 0, rfl, hb, fun i hi => ?_⟩⟩
  obtain rfl : i = 0 := by simpa using hi
  simp only [cell_of_row _ _ _ _ _ _ h]
  exact ⟨rfl, rfl⟩
theorem capok1 (a : Option Addr) (n c : Nat) (h : n ≤ c) : CapOk (.slice a n c) := ⟨a, n, c, rfl, h⟩
theorem many3 {w : World} {p1 p2 p3 g B : Nat} (n : Nat) (hn : n = 2 ∨ n = 3) (h1 : w.heap[p1]? = some (.cells #[.int .i64 3, .int .i64 7] 93 (0, 0))) (h2 : w.heap[p2]? = some (.cells #[.int .i64 3, .int .i64 7] 93 (0, 0))) (h3 : w.heap[p3]? = some (.cells #[.int .i64 3, .int .i64 7] 93 (0, 0)))
    (hg : w.heap[g]? = some (.cells #[.int .i64 0, .int .i64 0, .int .i64 0, .int .i64 1, .bool false, .bool true, .slice none 0 0, .slice (some ⟨p1, 0, none⟩) 1 1, .int .i64 0, .int .i64 0, .int .i64 1, .int .i64 0, .bool false, .bool false, .slice (some ⟨p2, 0, none⟩) 1 1, .slice none 0 0, .int .i64 0, .int .i64 0, .int .i64 0, .int .i64 0, .bool false, .bool false, .slice (some ⟨p3, 0, none⟩) 1 1, .slice none 0 0] 91 (0, 0)))
    (b1 : p1 < B) (b2 : p2 < B) (b3 : p3 < B) (bg : g < B) : ManyC w B (.slice (some ⟨g, 0, none⟩) n 3) ([t1, t2, t3].take n) := by
  have hlen : ([t1, t2, t3].take n).length = n := by rcases hn with rfl | rfl <;> rfl
  have key : ∀ i (h : i < ([t1, t2, t3].take n).length), ∃ r q, w.rangeAt g (0 + i * 8) (row ([t1, t2, t3].take n)[i] r q) ∧ Pairs w B r ([t1, t2, t3].take n)[i].reads ∧ Pairs w B q ([t1, t2, t3].take n)[i].writes ∧ CapOk r ∧ CapOk q := by
    intro i hi
    rw [hlen] at hi
    simp only [List.getElem_take]
    have hi : i = 0 ∨ i = 1 ∨ i = 2 := by rcases hn with rfl | rfl <;> omega
    rcases hi with rfl | rfl | rfl
    · refine ⟨.slice none 0 0, .slice (some ⟨p1, 0, none⟩) 1 1, row_range hg _ _ ?_, no_pairs _ _, pairs_one h1 b1, capok1 _ _ _ (by omega), capok1 _ _ _ (by omega)⟩
      rintro (_ | _ | _ | _ | _ | _ | _ | _ | j) v hv <;> simp [row, t1] at hv <;> subst hv <;> rfl
    · refine ⟨.slice (some ⟨p2, 0, none⟩) 1 1, .slice none 0 0, row_range hg _ _ ?_, pairs_one h2 b2, no_pairs _ _, capok1 _ _ _ (by omega), capok1 _ _ _ (by omega)⟩
      rintro (_ | _ | _ | _ | _ | _ | _ | _ | j) v hv <;> simp [row, t2] at hv <;> subst hv <;> rfl
    · refine ⟨.slice (some ⟨p3, 0, none⟩) 1 1, .slice none 0 0, row_range hg _ _ ?_, pairs_one h3 b3, no_pairs _ _, capok1 _ _ _ (by omega), capok1 _ _ _ (by omega)⟩
      rintro (_ | _ | _ | _ | _ | _ | _ | _ | j) v hv <;> simp [row, t3] at hv <;> subst hv <;> rfl
  exact ⟨_, 3, by rw [hlen], by rw [hlen]; rcases hn with rfl | rfl <;> omega, by rw [hlen]; rcases hn with rfl | rfl <;> decide, fun _ => ⟨g, 0, rfl, bg, key⟩⟩

set_option maxRecDepth 100000 in
set_option maxHeartbeats 2000000 in
theorem lives_any (w : World) : Calls Try.prog 31 #[] w fun e w' => e = .returned (.bool true) ∧ Below w.heap.size w w' := by
  obtain ⟨g, hg⟩ : ∃ g, w.heap.size = g := ⟨_, rfl⟩
  have mk : (Instr.makeSlice 43 (.int .i64 4) (.int .i64 4)).run Try.prog w = .ok (.slice (some ⟨w.heap.size, 0, none⟩) 4 4) (w.alloc (.cells ((List.replicate 4 (0 : Int)).map (Value.int .i64)).toArray 3)) := make_ints 4 (by omega) w
  obtain ⟨w1, hw1⟩ : ∃ w1, w.alloc (.cells ((List.replicate 4 (0 : Int)).map (Value.int .i64)).toArray 3) = w1 := ⟨_, rfl⟩
  have s1 : w1.heap.size = g + 1 := by rw [← hw1, ← hg]; simp
  have W1 : Hid (TW w1 g [0, 0, 0, 0] (.slice (some ⟨g, 0, none⟩) 4 4)) := by
    refine TW.full (l := [0, 0, 0, 0]) ?_ (Nat.le_refl _) (by decide)
    rw [← hw1, ← hg]; exact new_row _ _ _
  have B1 : Hid (Below g w w1) := by rw [← hw1]; exact (Below.refl _ _).alloc (by omega) _
  rw [hw1] at mk
  rw [hg] at mk ⊢
  go_enter Try.func31, Try.ntmps31
  go_upto_region 2 with fail
  clear mk hw1
  go_upto_region 3 with (first
    | (refine wpList_pr rfl _ rfl _ _ rfl ?_)
    | (refine wpList_tx3 rfl _ _ _ rfl _ _ _ _ _ _ _ _ _ _ _ _ _ _ _ _ _ _ _ _ _ _ _ _ rfl rfl rfl ?_))
  obtain ⟨w2, hw2⟩ : ∃ w2, w1.alloc (.cells #[.int .i64 3, .int .i64 7] 93) = w2 := ⟨_, rfl⟩
  rw [hw2]
  obtain ⟨w3, hw3⟩ : ∃ w3, w2.alloc (.cells #[.int .i64 3, .int .i64 7] 93) = w3 := ⟨_, rfl⟩
  rw [hw3]
  obtain ⟨w4, hw4⟩ : ∃ w4, w3.alloc (.cells #[.int .i64 3, .int .i64 7] 93) = w4 := ⟨_, rfl⟩
  rw [hw4]
  obtain ⟨w5, hw5⟩ : ∃ w5, w4.alloc (.cells #[.int .i64 0, .int .i64 0, .int .i64 0, .int .i64 1, .bool false, .bool true, .slice none 0 0, .slice (some ⟨g + 1, 0, none⟩) 1 1, .int .i64 0, .int .i64 0, .int .i64 1, .int .i64 0, .bool false, .bool false, .slice (some ⟨g + 1 + 1, 0, none⟩) 1 1, .slice none 0 0, .int .i64 0, .int .i64 0, .int .i64 0, .int .i64 0, .bool false, .bool false, .slice (some ⟨g + 1 + 1 + 1, 0, none⟩) 1 1, .slice none 0 0] 91) = w5 := ⟨_, rfl⟩
  rw [hw5]
  have s2 : w2.heap.size = g + 1 + 1 := by rw [← hw2]; simp [s1]
  have s3 : w3.heap.size = g + 1 + 1 + 1 := by rw [← hw3]; simp [s2]
  have s4 : w4.heap.size = g + 1 + 1 + 1 + 1 := by rw [← hw4]; simp [s3]
  have s5 : w5.heap.size = g + 5 := by rw [← hw5]; simp [s4]
  have q1 : w5.heap[g + 1]? = some (.cells #[.int .i64 3, .int .i64 7] 93 (0, 0)) := by
    rw [← hw5, alloc_heap _ _ _ (by omega), ← hw4, alloc_heap _ _ _ (by omega), ← hw3, alloc_heap _ _ _ (by omega), ← hw2, ← s1]; exact new_row _ _ _
  have q2 : w5.heap[g + 1 + 1]? = some (.cells #[.int .i64 3, .int .i64 7] 93 (0, 0)) := by
    rw [← hw5, alloc_heap _ _ _ (by omega), ← hw4, alloc_heap _ _ _ (by omega), ← hw3, ← s2]; exact new_row _ _ _
  have q3 : w5.heap[g + 1 + 1 + 1]? = some (.cells #[.int .i64 3, .int .i64 7] 93 (0, 0)) := by
    rw [← hw5, alloc_heap _ _ _ (by omega), ← hw4, ← s3]; exact new_row _ _ _
  have q4 : w5.heap[g + 1 + 1 + 1 + 1]? = some (.cells #[.int .i64 0, .int .i64 0, .int .i64 0, .int .i64 1, .bool false, .bool true, .slice none 0 0, .slice (some ⟨g + 1, 0, none⟩) 1 1, .int .i64 0, .int .i64 0, .int .i64 1, .int .i64 0, .bool false, .bool false, .slice (some ⟨g + 1 + 1, 0, none⟩) 1 1, .slice none 0 0, .int .i64 0, .int .i64 0, .int .i64 0, .int .i64 0, .bool false, .bool false, .slice (some ⟨g + 1 + 1 + 1, 0, none⟩) 1 1, .slice none 0 0] 91 (0, 0)) := by
    rw [← hw5, ← s4]; exact new_row _ _ _
  have B5 : Hid (Below g w w5) := by
    rw [← hw5, ← hw4, ← hw3, ← hw2]
    exact (((B1.out.alloc (by omega) _).alloc (by rw [hw2]; omega) _).alloc (by rw [hw2, hw3]; omega) _).alloc (by rw [hw2, hw3, hw4]; omega) _
  have M3 : Hid (ManyC w5 (g + 5) (.slice (some ⟨g + 1 + 1 + 1 + 1, 0, none⟩) 3 3) [t1, t2, t3]) := many3 3 (.inr rfl) q1 q2 q3 q4 (by omega) (by omega) (by omega) (by omega)
  have M2 : Hid (ManyC w5 (g + 5) (.slice (some ⟨g + 1 + 1 + 1 + 1, 0, none⟩) 2 3) [t1, t2]) := many3 2 (.inl rfl) q1 q2 q3 q4 (by omega) (by omega) (by omega) (by omega)
  have W5 : Hid (Words w5 (g + 5) (.slice (some ⟨g, 0, none⟩) 4 4) [0, 0, 0, 0]) := by
    have h : Below (g + 1) w1 w5 := by
      rw [← hw5, ← hw4, ← hw3, ← hw2]
      exact ((((Below.refl _ _).alloc (by omega) _).alloc (by rw [hw2]; omega) _).alloc (by rw [hw2, hw3]; omega) _).alloc (by rw [hw2, hw3, hw4]; omega) _
    have h2 := W1.out.words
    rw [s1] at h2
    exact (h2.below h).mono (by omega)
  clear q1 q2 q3 q4 s2 s3 s4 hw2 hw3 hw4 hw5 W1 B1 s1
  have LT := lastOk_any (w := w5) (A1 := some ⟨g, 0, none⟩) (nw := 4) (c1 := 4) (words := [0, 0, 0, 0]) (l := [t1, t2, t3]) (s := .slice (some ⟨g + 1 + 1 + 1 + 1, 0, none⟩) 3 3) (by rw [s5]; exact W5.out) rfl (by omega) (by rw [s5]; exact M3.out.many) (by decide) in1 right3
  rw [s5] at LT
  have S5 := Lib.hid s5
  clear s5
  go_upto_region 4 with (first
    | (go_at_call 36; refine LT.mono ?_; rintro e w6 ⟨v6, O, rfl, hO, hA, t6, hb6⟩))
  rw [evs3] at hA
  obtain rfl := alike_one hA
  rw [app3] at t6
  have B6 : Hid (Below g w w6) := B5.out.trans (hb6.mono (by omega))
  have W6 : Hid (Words w6 (g + 5) (.slice (some ⟨g, 0, none⟩) 4 4) [0, 0, 0, 0]) := W5.out.below hb6
  have N3 : Hid (ManyC w6 (g + 5) (.slice (some ⟨g + 1 + 1 + 1 + 1, 0, none⟩) 3 3) [t1, t2, t3]) := M3.out.below hb6
  have N2 : Hid (ManyC w6 (g + 5) (.slice (some ⟨g + 1 + 1 + 1 + 1, 0, none⟩) 2 3) [t1, t2]) := M2.out.below hb6
  have g6 : g + 5 ≤ w6.heap.size := by rw [← S5.out]; exact hb6.size
  have T6 := Lib.hid t6
  clear t6 hb6 hO hA LT W5 M3 M2 B5
  obtain ⟨A6, c6, rfl, -⟩ := id T6.out
  have C2 : Hid (∀ w', Below (g + 5) w6 w' → Calls Try.prog 32 #[.slice (some ⟨g, 0, none⟩) 4 4, .slice (some ⟨g + 1 + 1 + 1 + 1, 0, none⟩) 2 3] w' fun e w'' => e = .returned (.int .i64 0) ∧ Below w'.heap.size w' w'') := fun w' hb => by
    have hs : g + 5 ≤ w'.heap.size := by have := hb.size; omega
    refine (checkOk_any (w := w') (A1 := some ⟨g, 0, none⟩) (nw := 4) (c1 := 4) (words := [0, 0, 0, 0]) (l := [t1, t2]) (s := .slice (some ⟨g + 1 + 1 + 1 + 1, 0, none⟩) 2 3) ((W6.out.below hb).mono hs) rfl (by omega) ((N2.out.below hb).mono hs) (by decide) (fun t ht => in1 t (by simp at ht ⊢; rcases ht with h | h <;> simp [h])) right2).mono ?_
    rintro e w'' ⟨O, rfl, _, hA, hb2⟩
    rw [evs2] at hA
    obtain rfl := alike_one hA
    rw [read2]
    exact ⟨rfl, hb2⟩
  have C3 : Hid (∀ w', Below (g + 5) w6 w' → Calls Try.prog 32 #[.slice (some ⟨g, 0, none⟩) 4 4, .slice (some ⟨g + 1 + 1 + 1 + 1, 0, none⟩) 3 3] w' fun e w'' => e = .returned (.int .i64 19) ∧ Below w'.heap.size w' w'') := fun w' hb => by
    have hs : g + 5 ≤ w'.heap.size := by have := hb.size; omega
    refine (checkOk_any (w := w') (A1 := some ⟨g, 0, none⟩) (nw := 4) (c1 := 4) (words := [0, 0, 0, 0]) (l := [t1, t2, t3]) (s := .slice (some ⟨g + 1 + 1 + 1 + 1, 0, none⟩) 3 3) ((W6.out.below hb).mono hs) rfl (by omega) ((N3.out.below hb).mono hs) (by decide) in1 right3).mono ?_
    rintro e w'' ⟨O, rfl, _, hA, hb2⟩
    rw [evs3] at hA
    obtain rfl := alike_one hA
    rw [read3]
    exact ⟨rfl, hb2⟩
  clear N2 N3 W6
  have TW6 := Lib.hid (Words.mono T6.out.words (Nat.le_refl _))
  clear T6
  go_wp2_with (first
    | (refine wpList_ints4 rfl _ _ _ _ rfl 0 0 0 7 rfl rfl rfl rfl ?_
       obtain ⟨w7, hw7⟩ : ∃ w7, w6.alloc (.cells #[.int .i64 0, .int .i64 0, .int .i64 0, .int .i64 7] 3) = w7 := ⟨_, rfl⟩
       rw [hw7]
       have b7 : Below w6.heap.size w6 w7 := by rw [← hw7]; exact (Below.refl _ _).alloc (Nat.le_refl _) _
       have r7 : TW w7 0 [0, 0, 0, 7] (.slice (some ⟨w6.heap.size, 0, none⟩) 4 4) := TW.full (l := [0, 0, 0, 7]) (by rw [← hw7]; exact new_row _ _ _) (Nat.zero_le _) (by decide)
       have SM := ints_same (TW6.out.below b7) r7.words
       have B7 : Hid (Below (g + 5) w6 w7) := b7.mono g6
       simp only [decide_true] at SM
       clear hw7 b7 r7)
    | (go_at_call 38; refine SM.mono ?_; rintro e w8 ⟨rfl, m8, rfl⟩
       have CC2 := C2.out _ (B7.out.trans (drewN_below _ _ m8))
       have B8 : Hid (Below (g + 5) w6 (w7.drewN m8)) := B7.out.trans (drewN_below _ _ m8))
    | (go_at_call 32; refine CC2.mono ?_; rintro e w9 ⟨rfl, hb9⟩
       have B9 : Hid (Below (g + 5) w6 w9) := B8.out.trans (hb9.mono (by have := B8.out.size; omega))
       have CC3 := C3.out _ B9.out
       clear CC2 hb9)
    | (go_at_call 32; refine CC3.mono ?_; rintro e w10 ⟨rfl, hb10⟩))
  go_ret
  exact ⟨rfl, B6.out.trans ((B9.out.trans (hb10.mono (by have := B9.out.size; omega))).mono (by omega))⟩

end OPR
end Go.Proofs.Ytkegfeghdnpajaa

/- law34's great; what came in -/
namespace Go.Proofs.Ytkegfeghdnpajaa
open Go.RowKit Go.Bas Go.WideShapes Txs View IMap_ Go.ChangeShapes Go.Deep
open Go.Proofs.YtkegfeghdnpajaaW.PrintWords (Ev LeO Kd at_rounds)
namespace OPR
open Srt hiding Ev
open POpaqueStates

def bigT (t : Tx) : Bool := decide (wrap64 ((t.reads.length : Int) + (t.writes.length : Int)) > 100)
def greatB (n : Nat) (l : List Tx) : Bool := decide ((n : Int) > 300) || decide ((l.length : Int) > 40) || l.any bigT
theorem great_l0 {l : List Tx} (hl : l.length ≤ 9223372036854775807) : ∀ d i, i + d = l.length → Ev (fun k => assartlaw34_great.l0 k (l.map tx) (i : Int)) ((l.drop i).any bigT) := by
  intro d
  induction d with
  | zero =>
    intro i hi
    rw [List.drop_of_length_le (by omega)]
    refine Ev.step (f := fun _ => some false) (fun k => ?_) (Ev.now _)
    simp only [assartlaw34_great.l0]
    rw [if_neg (by simp; omega)]
  | succ d ih =>
    intro i hi
    have hlt : i < l.length := by omega
    have e : (l.drop i).any bigT = (bigT l[i] || (l.drop (i + 1)).any bigT) := by rw [List.drop_eq_getElem_cons hlt]; rfl
    rw [e]
    have hh : ∀ k, assartlaw34_great.l0 (k + 1) (l.map tx) (i : Int) = if bigT l[i] = true then some true else assartlaw34_great.l0 k (l.map tx) ((i + 1 : Nat) : Int) := fun k => by
      simp only [assartlaw34_great.l0]
      rw [if_pos (by simp; omega), if_pos (by omega), rd_tx hlt, w1 (by omega)]
      have e6 : (tx l[i]).f6.length = l[i].reads.length := by simp [tx]
      have e7 : (tx l[i]).f7.length = l[i].writes.length := by simp [tx]
      rw [e6, e7]
      unfold bigT
      simp only [decide_eq_true_eq]
    cases hs : bigT l[i] with
    | true => simp only [hs, if_true] at hh; exact Ev.step hh (Ev.now _)
    | false => simp only [hs, Bool.false_eq_true, if_false] at hh; exact Ev.step hh (ih (i + 1) (by omega))
theorem great_f {fw : List Int} {l : List Tx} (hl : l.length ≤ 9223372036854775807) : Ev (fun k => assartlaw34_great.f k fw (l.map tx)) (greatB fw.length l) := by
  unfold assartlaw34_great.f greatB
  by_cases h : (fw.length : Int) > 300
  · simp only [if_pos h]
    refine Ev.step (f := fun _ => some true) (fun k => ?_) (by simp only [decide_eq_true h, Bool.true_or]; exact Ev.now _)
    simp only [assartlaw34_great.j0]; rfl
  · simp only [if_neg h, List.length_map]
    by_cases h2 : (l.length : Int) > 40
    · refine Ev.step (f := fun _ => some true) (fun k => ?_) (by simp only [decide_eq_true h2, Bool.true_or, Bool.or_true]; exact Ev.now _)
      simp only [assartlaw34_great.j0, decide_eq_true h2]; rfl
    · have e : (decide ((fw.length : Int) > 300) || decide ((l.length : Int) > 40) || l.any bigT) = (l.drop 0).any bigT := by simp only [decide_eq_false h, decide_eq_false h2]; rfl
      rw [e]
      refine Ev.step (fun k => ?_) (great_l0 hl l.length 0 (by omega))
      simp only [assartlaw34_great.j0, decide_eq_false h2]; rfl
theorem great_any {w : World} {B B' : Nat} {A : Option Addr} {n c : Nat} {fw : List Int} {s : Value} {l : List Tx} (hw : Words w B (.slice A n c) fw) (hcap : n ≤ c) (h : ManyC w B' s l) (hm : l.length ≤ 9223372036854775807) :
    Calls Try.prog 30 #[.slice A n c, s] w fun e w' => e = .returned (.bool (greatB n l)) ∧ Below w.heap.size w w' := by
  obtain ⟨A1, c1, rfl, hn, hk⟩ := h.kd
  obtain ⟨hk0, rfl⟩ := words_kd hw
  obtain ⟨k, hf⟩ := (great_f (fw := fw) hm).rounds
  have := assartlaw34_great.calls k A c fw A1 c1 (l.map tx) _ w hk0 hcap (by rw [List.length_map]; exact hk) (by rw [List.length_map]; exact hn) hf
  rw [List.length_map] at this
  exact this.mono fun e w' h => ⟨h.1, h.2.below⟩

theorem capok_trod {H : Type} {enc : TypeId × Value → H} {P : Program} {w : World} {base : Nat} {spare : Nat → Bool} {held : Bool} {t e : TypeId} {v : Value} {x : DataW H × List MemPlace} {fuel : Nat}
    (ht : P.underlying t = some (.slice e)) (hf : DataW.trod enc P w base spare held fuel t [v] = some x) : CapOk v := by
  rcases open_slice ht hf with ⟨hcs, _⟩ | ⟨ad, len, cap, m, k, D, Pl, hcs, _, hl, _⟩
  · simp at hcs; subst hcs
    exact ⟨none, 0, 0, rfl, Nat.le_refl _⟩
  · simp at hcs; subst hcs
    exact ⟨_, _, _, rfl, hl⟩

set_option maxRecDepth 100000 in
theorem many_inC {H : Type} {enc : TypeId × Value → H} {w : World} {base : Nat} {spare : Nat → Bool} {held : Bool} {v : Value} {d : DataW H} {p : List MemPlace} {r : Reach} {b0 : Nat}
    (hv : Value.okWide Try.prog w r b0 37 v) (h : DataW.Trod enc Try.prog w base spare held 37 v d p) : ∃ l, ManyC w w.heap.size v l ∧ ∀ t ∈ l, In64 t.stamp ∧ In64 t.seen ∧ In64 t.worker := by
  obtain ⟨a0, n0, c0, rfl⟩ := okWide_slice Try.underlying37 hv
  obtain ⟨fuel, hf⟩ := h
  obtain ⟨A, n, c, he, hnc, hcm, hb⟩ := open_rows Try.underlying37 Try.underlying91 (by kernel_rfl) (by kernel_rfl) (by decide) (v := .slice a0 n0 c0) hf
  rw [he]
  by_cases hn : n = 0
  · subst hn
    exact ⟨[], ⟨A, c, rfl, Nat.zero_le _, Nat.zero_le _, fun h => absurd h (by simp)⟩, fun t ht => by simp at ht⟩
  · obtain ⟨b, off, rfl, hlt, hc⟩ := hb (by omega)
    have key : ∀ i, ∃ x : Tx, (In64 x.stamp ∧ In64 x.seen ∧ In64 x.worker) ∧ (i < n → ∃ r q, w.rangeAt b (off + i * 8) (row x r q) ∧ Pairs w w.heap.size r x.reads ∧ Pairs w w.heap.size q x.writes ∧ CapOk r ∧ CapOk q) := by
      intro i
      by_cases hi : i < n
      · obtain ⟨u0, y0, m0, c0, t0⟩ := hc i hi 0 _ rfl
        obtain ⟨u1, y1, m1, c1, t1⟩ := hc i hi 1 _ rfl
        obtain ⟨u2, y2, m2, c2, t2⟩ := hc i hi 2 _ rfl
        obtain ⟨u3, y3, m3, c3, t3⟩ := hc i hi 3 _ rfl
        obtain ⟨u4, y4, m4, c4, t4⟩ := hc i hi 4 _ rfl
        obtain ⟨u5, y5, m5, c5, t5⟩ := hc i hi 5 _ rfl
        obtain ⟨u6, y6, m6, c6, t6⟩ := hc i hi 6 _ rfl
        obtain ⟨u7, y7, m7, c7, t7⟩ := hc i hi 7 _ rfl
        obtain ⟨x0, e0, _, f0⟩ := DataW.trod_int Try.underlying3 t0
        obtain ⟨x1, e1, _, f1⟩ := DataW.trod_int Try.underlying3 t1
        obtain ⟨x2, e2, _, f2⟩ := DataW.trod_int Try.underlying3 t2
        obtain ⟨x3, e3, _, f3⟩ := DataW.trod_int Try.underlying3 t3
        obtain ⟨x4, e4, _⟩ := DataW.trod_bool Try.underlying4 t4
        obtain ⟨x5, e5, _⟩ := DataW.trod_bool Try.underlying4 t5
        obtain ⟨l6, h6⟩ := pairs_of t6
        obtain ⟨l7, h7⟩ := pairs_of t7
        have k6 := capok_trod Try.underlying89 t6
        have k7 := capok_trod Try.underlying89 t7
        simp at e0 e1 e2 e3 e4 e5
        subst e0 e1 e2 e3 e4 e5
        refine ⟨⟨x0, x1, x2, x3, x4, x5, l6, l7⟩, ⟨in64_of_wf f3, in64_of_wf f2, in64_of_wf f0⟩, fun _ => ⟨u6, u7, ?_, h6, h7, k6, k7⟩⟩
        rintro (_ | _ | _ | _ | _ | _ | _ | _ | j) v hv <;> simp [row] at hv <;> subst hv <;> assumption
      · exact ⟨⟨0, 0, 0, 0, false, false, [], []⟩, by simp [In64], fun h => absurd h hi⟩
    refine ⟨(List.range n).map fun i => Classical.choose (key i), ⟨some ⟨b, off, none⟩, c, by simp, by simpa using hnc, by simp; omega, fun _ => ⟨b, off, rfl, hlt, fun i hi => ?_⟩⟩, fun t ht => ?_⟩
    · have hi' : i < n := by simpa using hi
      simp only [List.getElem_map, List.getElem_range]
      exact (Classical.choose_spec (key i)).2 hi'
    · obtain ⟨i, _, rfl⟩ := List.mem_map.1 ht
      exact (Classical.choose_spec (key i)).1
set_option maxRecDepth 100000 in
theorem capok_in {H : Type} {enc : TypeId × Value → H} {w : World} {base : Nat} {spare : Nat → Bool} {held : Bool} {t e : TypeId} {v : Value} {d : DataW H} {p : List MemPlace} {r : Reach} {b0 : Nat}
    (ht : Try.prog.underlying t = some (.slice e)) (hv : Value.okWide Try.prog w r b0 t v) (h : DataW.Trod enc Try.prog w base spare held t v d p) : CapOk v := by
  obtain ⟨a0, n0, c0, rfl⟩ := okWide_slice ht hv
  obtain ⟨fuel, hf⟩ := h
  exact capok_trod ht hf

theorem ManyC.sizes {w : World} {B : Nat} {s : Value} {l : List Tx} (h : ManyC w B s l) : ∀ t ∈ l, t.writes.length ≤ 9223372036854775807 := by
  obtain ⟨A, c, rfl, _, _, hh⟩ := h
  intro t ht
  obtain ⟨i, hi, rfl⟩ := List.mem_iff_getElem.1 ht
  obtain ⟨b, off, _, _, hh⟩ := hh (by omega)
  obtain ⟨r, q, _, _, hp, _⟩ := hh i hi
  obtain ⟨_, _, _, hm, _⟩ := hp
  exact hm
theorem great_no {n : Nat} {l : List Tx} (h : greatB n l = false) : n ≤ 300 ∧ l.length ≤ 40 := by
  unfold greatB at h
  simp only [Bool.or_eq_false_iff, decide_eq_false_iff_not] at h
  omega

end OPR
end Go.Proofs.Ytkegfeghdnpajaa
