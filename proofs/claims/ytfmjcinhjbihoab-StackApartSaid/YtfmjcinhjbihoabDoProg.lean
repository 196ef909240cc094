import Derived.Test.YtfmjcinhjbihoabDo
import Derived.Test.YtfmjcinhjbihoabDoes
/- view.Do of a function that is a program, over words that it stays within -/
namespace Go.Proofs.Ytfmjcinhjbihoab
open Go.RowKit Go.Bas SorPlain Go.Sor IMap_ VIn VPlain MapI
namespace View

/-- a function that is a program over the view and ends without an answer; C: what it changes of what others have; Φ: what then holds, whatever else is changed -/
def DoesL {α : Type} (A : Ask) (P C Q : Nat → Prop) (bv bm : Nat) (p : Prog α) (Φ : α → World → Prop) (w : World) (e : Ending) (w' : World) : Prop :=
  (∃ a m' qs', p.run A.f [] [] = (.inl a, m', qs') ∧ e = .panicked [{ v := .iface 75 (.int .i64 a), recovered := false }] ∧ VWs A Q bv bm true qs' m' w' ∧ Chg (fun k => ¬ Q k ∨ C k) w w') ∨
  (∃ (x : α) (N : Nat → Prop) (m' : M) (qs' : List Int), p.run A.f [] [] = (.inr x, m', qs') ∧ e = .returned (.tuple #[]) ∧ (∀ k, N k → w.heap.size ≤ k) ∧ VWs A (fun k => Q k ∨ N k) bv bm true qs' m' w' ∧ Chg (fun k => ¬ Q k ∨ C k) w w' ∧ ∀ w3 : World, (∀ k, P k ∨ N k → w3.heap[k]? = w'.heap[k]?) → Φ x w3)

/-- words as a function -/
def fn (words : List Int) (a : Int) : Int := words.getD a.toNat 0
theorem fW_fn (words : List Int) (a : Int) (h0 : 0 ≤ a) (h1 : a < words.length) : fW words a = some (fn words a) := by
  unfold fW; rw [if_pos ⟨h0, h1⟩]; rfl
theorem putW_at : ∀ (m : M) (words : List Int), Rising m → (∀ q ∈ m, 0 ≤ q.1 ∧ q.1 < words.length) → ∀ i : Nat, i < words.length → (putW words m).getD i 0 = ov (fn words) m i
  | [], words, _, _, i, hi => by simp [putW, ov_nil, fn]
  | q :: r, words, hs, hm, i, hi => by
    have hs' : Rising r := by unfold Rising keys at *; simp at hs; exact hs.2
    have hlt : ∀ p ∈ r, q.1 < p.1 := fun p hp => by
      unfold Rising keys at hs
      rw [List.map_cons, List.pairwise_cons] at hs
      exact hs.1 _ (List.mem_map_of_mem hp)
    have hq := hm q (by simp)
    have e : putW words (q :: r) = putW (words.set q.1.toNat q.2) r := rfl
    rw [e, putW_at r _ hs' (fun p hp => by simpa using hm p (by simp [hp])) i (by simpa using hi)]
    unfold ov
    rw [first_cons]
    by_cases h : q.1 = i
    · have hn : first r i = none := by
        unfold first
        have : r.find? (fun p => p.1 == (i : Int)) = none := by
          rw [List.find?_eq_none]
          intro p hp
          have := hlt p hp
          simp; omega
        rw [this]; rfl
      rw [hn, if_pos h]
      have : q.1.toNat = i := by omega
      simp [fn, this, hi]
    · rw [if_neg h]
      have : (fn (words.set q.1.toNat q.2) i) = fn words i := by
        have hne : q.1.toNat ≠ i := by omega
        simp [fn, List.getElem?_set, hne]
      rw [this]

/-- what Do of a program leaves -/
def ProgOut {α : Type} (C : Nat → Prop) (words : List Int) (p : Prog α) (Φ : α → World → Prop) (w : World) (e : Ending) (w' : World) : Prop :=
  ∃ A c v2 ws nd, e = .returned (.tuple #[.slice A words.length c, v2, .int .i64 0]) ∧ ws.length = words.length ∧ TW w' w.heap.size ws (.slice A words.length c) ∧ Told w' w.heap.size nd v2 ∧ (∀ i : Nat, i < words.length → ws.getD i 0 = (p.over (fn words)).2 i) ∧
    Chg (fun k => w.heap.size ≤ k ∨ C k) w w' ∧ ∀ w3 : World, (∀ k, k < w'.heap.size → w3.heap[k]? = w'.heap[k]?) → Φ (p.over (fn words)).1 w3

theorem do_prog {α : Type} {w : World} {sw : Value} {words : List Int} (h : Words w w.heap.size sw words) (hwi : WIn words) (hwn : words.length ≤ 1000) (pf : FuncId) (pcap : Array Value) (p : Prog α) {n : Nat} (hp : p.Writes n) (hn : n ≤ 1000)
    (hin : p.Within words.length (fn words))
    (hrun : ∀ args w, (callFunc pf args).run Try.prog w = .ok (.enter pf args) w)
    (C : Nat → Prop) (hC : ∀ k, C k → k < w.heap.size) (Φ : α → World → Prop)
    (hprog : ∀ A : Ask, A.f = fW words → (∀ k, A.R k → blk sw k) → ∀ bv bm Q w', (∀ k, k < w.heap.size → Q k) → Below w.heap.size w w' → VWs A Q bv bm true [] [] w' → Calls Try.prog pf (#[.pointer (some ⟨bv, 0, none⟩)] ++ pcap) w' (DoesL A (fun k => k < w.heap.size) C Q bv bm p Φ w')) :
    Calls Try.prog 7 #[sw, .func (.func pf) #[] pcap] w (ProgOut C words p Φ w) := by
  have hr0 : Rising ([] : M) := by simp [Rising, keys]
  have hin' : p.Within words.length (ov (fn words) []) := by rw [ov_nil]; exact hin
  obtain ⟨h1, h2, h3⟩ := Prog.run_over (fW_fn words) p [] [] hr0 hin'
  have h4 := Prog.wrote_lt (fW_fn words) p [] [] hr0 (by simp) hin'
  have h5 := Prog.run_wrote (fW words) p [] [] ⟨hr0, by simp⟩
  have h6 := hp.run (fW words) [] []
  rw [ov_nil] at h1 h2
  obtain ⟨r, m', qs', hr⟩ : ∃ r m' qs', p.run (fW words) [] [] = (r, m', qs') := ⟨_, _, _, rfl⟩
  rw [hr] at h1 h2 h3 h4 h5 h6
  have h1 : r = .inr (p.over (fn words)).1 := h1
  subst h1
  refine (do_leaves h hwi hwn pf pcap (.inr m', qs') hrun C hC (Φ (p.over (fn words)).1) (fun A hA hR bv bm Q w' hQ hb hv => ?_) (fun m e => ?_) (fun a e => by cases e)).mono ?_
  · refine (hprog A hA hR bv bm Q w' hQ hb hv).mono fun e w'' hh => ?_
    rw [DoesL, hA, hr] at hh
    rcases hh with ⟨a, m2, q2, e1, _⟩ | ⟨x, N, m2, q2, e1, e2, e3, e4, e5, e6⟩
    · cases e1
    · injection e1 with a1 a2
      injection a1 with a1
      injection a2 with a2 a3
      subst a1 a2 a3
      exact ⟨N, e3, .inl ⟨m', rfl, e2, e4⟩, e5, e6⟩
  · injection e with e
    subst e
    exact ⟨by simp at h6; omega, h5.2⟩
  · rintro e w' ⟨hd, hc, hf⟩
    rcases hd with ⟨hbad, _⟩ | ⟨m, v, q, a1, a2, rfl, a3, a4⟩
    · rcases hbad with ⟨a, ha⟩ | ⟨m, hm, q, hq, hlt⟩
      · cases ha
      · injection hm with hm
        subst hm
        have := h4 q hq
        omega
    · injection a1 with a1
      subst a1
      obtain ⟨A, c, rfl, hown⟩ := id a3
      have hl : (putW words m').length = words.length := putW_length _ _
      refine ⟨A, c, q, putW words m', _, by rw [hl], hl, hl ▸ a3, a4, fun i hi => ?_, hc, hf⟩
      rw [← h2]
      exact putW_at m' words h3 (fun q hq => ⟨h5.2 q hq, by have := h4 q hq; exact this⟩) i hi

end View
end Go.Proofs.Ytfmjcinhjbihoab
