import Derived.Test.YtllohpkbnopbfaaSorStr4
import Derived.Deep.Slices
import Derived.Deep.Fields
import Derived.ChangeSame
import Derived.ProofKit
namespace Go.Bas
open Go.ChangeShapes Go.WideShapes Go.Deep Go.RowKit

/-- a slice of structs of one-cell fields that came in: at each place and field a cell, and its reading -/
theorem open_structs {H : Type} {enc : TypeId × Value → H} {P : Program} {w : World} {base : Nat} {spare : Nat → Bool} {held : Bool} {t e : TypeId} {fs : Array Field} {v : Value} {d : DataW H} {p : List MemPlace}
    (ht : P.underlying t = some (.slice e)) (he : P.underlying e = some (.struct fs)) (hone : oneCellFields P fs = true) (hC : P.cellsOf e = fs.size) (hpos : 0 < fs.size)
    (hok : ∃ a n c, v = .slice a n c) (h : DataW.Trod enc P w base spare held t v d p) :
    ∃ (A : Option Addr) (n c : Nat), v = .slice A n c ∧ n ≤ c ∧ c ≤ maxLen ∧
      (0 < n → ∃ b off, A = some ⟨b, off, none⟩ ∧ b < w.heap.size ∧
        ∀ i, i < n → ∀ (j : Nat) (f : Field), fs[j]? = some f → ∃ u y m, w.cell? ⟨b, off + i * fs.size + j, none⟩ = some u ∧ DataW.trod enc P w base spare held m f.type [u] = some y) := by
  obtain ⟨a, n, c, rfl⟩ := hok
  obtain ⟨fuel, hf⟩ := h
  rcases open_slice ht hf with ⟨hcs, _⟩ | ⟨ad, len, cap, m, k, D, Pl, hcs, _, hl, hm, hmm, _, hi⟩
  · simp [Value.cells] at hcs
    obtain ⟨rfl, rfl, rfl⟩ := hcs
    exact ⟨none, 0, 0, rfl, Nat.le_refl _, Nat.zero_le _, fun h => absurd h (by omega)⟩
  · simp [Value.cells] at hcs
    obtain ⟨rfl, rfl, rfl⟩ := hcs
    refine ⟨_, _, _, rfl, hl, hm, fun hn => ?_⟩
    have hmn : n ≤ m := by rw [hmm]; split <;> omega
    have key : ∀ i, i < n → ∀ (j : Nat) (f : Field), fs[j]? = some f → ∃ u y q, w.cell? (ad.add (i * fs.size + j)) = some u ∧ DataW.trod enc P w base spare held q f.type [u] = some y := by
      intro i him j f hj
      obtain ⟨cs', hc, ht'⟩ := hi i (by omega)
      rw [hC] at hc
      obtain ⟨ys, n', hn', hy, hlen, hyl, hff⟩ := DataW.trod_struct he ht'
      obtain ⟨_, hcl, hat⟩ := World.cells?_some hc
      obtain ⟨ho, hk⟩ := hone_of hone j f hj
      have hjl : j < fs.size := (Array.getElem?_eq_some_iff.1 hj).1
      have hcell := hat j hjl
      have h1 := hff j f hj
      rw [ho, hk] at h1
      have hjl' : j < cs'.length := by omega
      have h2 : (cs'.drop j).take 1 = [cs'[j]] := by
        rw [List.drop_eq_getElem_cons hjl']; rfl
      rw [h2] at h1
      have hys : ys[j]? = some (ys[j]'(by omega)) := List.getElem?_eq_getElem (by omega)
      refine ⟨_, _, n', ?_, h1.trans hys⟩
      rw [← Go.Deep.add_add, hcell]
      exact List.getElem?_eq_getElem hjl'
    obtain ⟨b, off, spot⟩ := ad
    obtain ⟨u0, _, _, h0, _⟩ := key 0 hn 0 _ (Array.getElem?_eq_getElem hpos)
    have hs : spot = none := by
      have h00 : w.cell? ⟨b, off, spot⟩ = some u0 := by simpa [Addr.add] using h0
      cases spot with
      | none => rfl
      | some x =>
        simp [World.cell?] at h00
        split at h00 <;> simp at h00
    subst hs
    refine ⟨b, off, rfl, ?_, ?_⟩
    · have := World.block_lt_of_cell? w _ h0
      simpa [Addr.add] using this
    · intro i hin j f hj
      obtain ⟨u, y, q, hc, hy⟩ := key i hin j f hj
      refine ⟨u, y, q, ?_, hy⟩
      rw [← hc]
      unfold Addr.add
      split
      · rename_i h0; rw [Nat.add_assoc, h0]; rfl
      · simp [Nat.add_assoc]

end Go.Bas

namespace Go.Proofs.Ytllohpkbnopbfaa
open Go.RowKit Go.Bas Go.WideShapes
namespace SorActs

/-- a slice of Act that came in, below block B -/
def Acts (w : World) (B : Nat) (s : Value) (l : List (Int × Int × ByteArray)) : Prop :=
  ∃ (A : Option Addr) (c : Nat), s = .slice A l.length c ∧ l.length ≤ maxLen ∧
    (0 < l.length → ∃ b off, A = some ⟨b, off, none⟩ ∧ b < B ∧
      ∀ i (h : i < l.length), w.cell? ⟨b, off + i * 3, none⟩ = some (.int .i64 l[i].1) ∧ w.cell? ⟨b, off + i * 3 + 1, none⟩ = some (.int .i64 l[i].2.1) ∧ w.cell? ⟨b, off + i * 3 + 2, none⟩ = some (.string l[i].2.2))

theorem acts_of {H : Type} {enc : TypeId × Value → H} {w : World} {base : Nat} {spare : Nat → Bool} {held : Bool} {v : Value} {d : DataW H} {p : List MemPlace} {r : Reach} {b0 : Nat}
    (hv : Value.okWide Try.prog w r b0 22 v) (h : DataW.Trod enc Try.prog w base spare held 22 v d p) : ∃ l, Acts w w.heap.size v l := by
  obtain ⟨A, n, c, rfl, hnc, hcm, hb⟩ := open_structs Try.underlying22 Try.underlying29 (by kernel_rfl) (by kernel_rfl) (by decide) (okWide_slice Try.underlying22 hv) h
  by_cases hn : n = 0
  · subst hn
    exact ⟨[], A, c, rfl, Nat.zero_le _, fun h => absurd h (by simp)⟩
  · obtain ⟨b, off, rfl, hlt, hc⟩ := hb (by omega)
    have key : ∀ i, ∃ x : Int × Int × ByteArray, i < n → w.cell? ⟨b, off + i * 3, none⟩ = some (.int .i64 x.1) ∧ w.cell? ⟨b, off + i * 3 + 1, none⟩ = some (.int .i64 x.2.1) ∧ w.cell? ⟨b, off + i * 3 + 2, none⟩ = some (.string x.2.2) := by
      intro i
      by_cases hi : i < n
      · obtain ⟨u0, y0, m0, c0, t0⟩ := hc i hi 0 _ rfl
        obtain ⟨u1, y1, m1, c1, t1⟩ := hc i hi 1 _ rfl
        obtain ⟨u2, y2, m2, c2, t2⟩ := hc i hi 2 _ rfl
        obtain ⟨x0, e0, _⟩ := DataW.trod_int Try.underlying3 t0
        obtain ⟨x1, e1, _⟩ := DataW.trod_int Try.underlying3 t1
        obtain ⟨x2, e2, _⟩ := DataW.trod_string Try.underlying9 t2
        simp at e0 e1 e2
        subst e0 e1 e2
        exact ⟨(x0, x1, x2), fun _ => ⟨c0, c1, c2⟩⟩
      · exact ⟨(0, 0, ByteArray.empty), fun h => absurd h hi⟩
    refine ⟨(List.range n).map fun i => Classical.choose (key i), some ⟨b, off, none⟩, c, by simp, by simp; omega, fun _ => ⟨b, off, rfl, hlt, fun i hi => ?_⟩⟩
    have hi' : i < n := by simpa using hi
    simp only [List.getElem_map, List.getElem_range]
    exact Classical.choose_spec (key i) hi'

theorem Acts.below {w w' : World} {B : Nat} {s : Value} {l : List (Int × Int × ByteArray)} (h : Acts w B s l) (hb : Below B w w') : Acts w' B s l := by
  obtain ⟨A, c, rfl, hm, hc⟩ := h
  refine ⟨A, c, rfl, hm, fun hn => ?_⟩
  obtain ⟨b, off, rfl, hlt, hc⟩ := hc hn
  refine ⟨b, off, rfl, hlt, fun i hi => ?_⟩
  obtain ⟨h0, h1, h2⟩ := hc i hi
  refine ⟨?_, ?_, ?_⟩
  · rw [hb.cell (by exact hlt)]; exact h0
  · rw [hb.cell (by exact hlt)]; exact h1
  · rw [hb.cell (by exact hlt)]; exact h2

/-- what 'great' tells -/
def greatB (l : List (Int × Int × ByteArray)) : Bool := (l.take 130).any (fun a => decide (100 < a.2.2.size)) || decide (120 < l.length)
theorem great_hit {l : List (Int × Int × ByteArray)} {k : Nat} (h : k < l.length) (hk : k < 130) (hs : 100 < l[k].2.2.size) : greatB l = true := by
  unfold greatB
  rw [Bool.or_eq_true]
  refine .inl (List.any_eq_true.2 ⟨l[k], ?_, by simpa using hs⟩)
  rw [List.mem_iff_getElem]
  exact ⟨k, by simp; omega, by simp⟩
theorem great_step {l : List (Int × Int × ByteArray)} {k : Nat} (h : k < l.length) (hs : ¬ 100 < l[k].2.2.size) (H : (l.take k).any (fun a => decide (100 < a.2.2.size)) = false) : (l.take (k + 1)).any (fun a => decide (100 < a.2.2.size)) = false := by
  rw [List.take_succ_eq_append_getElem h, List.any_append, H]
  simpa using hs
theorem great_end {l : List (Int × Int × ByteArray)} {k : Nat} (hk : ¬ (k < l.length ∧ k < 130)) (hle : k ≤ 130) (hl : k ≤ l.length) (H : (l.take k).any (fun a => decide (100 < a.2.2.size)) = false) : greatB l = decide (120 < l.length) := by
  unfold greatB
  have : l.take 130 = l.take k := by
    by_cases h : k = 130
    · rw [h]
    · have : k = l.length := by omega
      rw [this, List.take_of_length_le (by omega), List.take_of_length_le (by omega)]
  rw [this, H, Bool.false_or]
theorem great_len {l : List (Int × Int × ByteArray)} (h : greatB l = false) : l.length ≤ 120 := by
  unfold greatB at h
  rw [Bool.or_eq_false_iff] at h
  have := of_decide_eq_false h.2
  omega

set_option maxRecDepth 100000 in
set_option maxHeartbeats 400000 in
theorem great_any {w : World} {B : Nat} {s : Value} {l : List (Int × Int × ByteArray)} (h : Acts w B s l) :
    Calls Try.prog 8 #[s] w fun e w' => e = .returned (.bool (greatB l)) ∧ w = w' := by
  obtain ⟨A, c, rfl, hm, hc⟩ := h
  obtain ⟨n, hn⟩ : ∃ n, l.length = n := ⟨_, rfl⟩
  have HN := Lib.hid hn
  have hm : l.length ≤ 9223372036854775807 := hm
  have HC : Hid (∀ k, k < n → ∃ b off u, A = some ⟨b, off, none⟩ ∧ w.cell? ⟨b, off + k * 3 + 2, none⟩ = some (.string u) ∧ ∀ h : k < l.length, l[k].2.2 = u) := by
    intro k hk
    obtain ⟨b, off, rfl, _, hc⟩ := hc (by omega)
    exact ⟨b, off, _, rfl, (hc k (by omega)).2.2, fun _ => rfl⟩
  rw [hn] at hm ⊢
  clear hc hn
  go_enter Try.func8, Try.ntmps8
  go_wp2
  go_loop [3] (fun i => ∃ k : Nat, k ≤ n ∧ k ≤ 130 ∧ i = .int .i64 k ∧ Hid ((l.take k).any (fun a => decide (100 < a.2.2.size)) = false)) (fun i => 130 - (intOf i).toNat)
  case atStart => exact ⟨0, by omega, by omega, rfl, by simp [Hid]⟩
  case round =>
    obtain ⟨k, hk, hk2, rfl, H⟩ := hrel
    by_cases hlt : k < n
    · by_cases hlt2 : k < 130
      · obtain ⟨b, off, u, rfl, hcell, hu⟩ := HC.out k hlt
        have hlen : k < l.length := by rw [HN.out]; exact hlt
        have hu := hu hlen
        have HU := Lib.hid hu
        clear hu
        by_cases hs : 100 < u.size
        · have hg : greatB l = true := great_hit hlen hlt2 (by rw [HU.out]; exact hs)
          have HG := Lib.hid hg
          clear hg
          go_wp2
          go_ret
          exact ⟨by rw [HG.out]; rfl, rfl⟩
        · have hg := great_step hlen (by rw [HU.out]; exact hs) H.out
          have HG := Lib.hid hg
          clear hg
          go_wp2
          go_round
          case rel => exact ⟨k + 1, by omega, by omega, by go_num, HG⟩
          case measure => simp [intOf]; omega
      · have hg : greatB l = decide (120 < l.length) := great_end (k := k) (by omega) hk2 (by rw [HN.out]; exact hk) H.out
        rw [HN.out] at hg
        have HG := Lib.hid hg
        clear hg
        go_wp2
        go_ret
        exact ⟨by rw [HG.out]; simp; omega, rfl⟩
    · have hg : greatB l = decide (120 < l.length) := great_end (k := k) (by rw [HN.out]; omega) hk2 (by rw [HN.out]; exact hk) H.out
      rw [HN.out] at hg
      have HG := Lib.hid hg
      clear hg
      go_wp2
      go_ret
      exact ⟨by rw [HG.out]; simp; omega, rfl⟩

end SorActs
end Go.Proofs.Ytllohpkbnopbfaa
