import Derived.Test.YtllohpkbnopbfaaSorOrder
namespace Go.Proofs.Ytllohpkbnopbfaa
open Go.RowKit Go.Bas SorPlain Go.Sor
namespace SorStr

def Copied (w : World) (xs : List (Int × Value)) (e : Ending) (w' : World) : Prop :=
  ∃ b' v', e = .returned (.pointer (some ⟨b', 0, none⟩)) ∧ MyMap TM TE w.heap.size w' b' v' xs ∧ Below w.heap.size w w'

theorem copy_any {w : World} {b : Nat} {v : Value} {xs : List (Int × Value)} (h : IsMap TM TE w b v xs) (hn : xs.length * 24 ≤ 140737488355328) :
    Calls Try.prog 17 #[.pointer (some ⟨b, 0, none⟩)] w (Copied w xs) := by
  obtain ⟨i0, hi, hz0, hz1, hz2⟩ := info_parts info
  have H := Lib.hid h
  have hb := h.head
  obtain ⟨ad, cap, hv, hsrc⟩ : ∃ ad cap, v = .slice ad xs.length cap ∧ Hid (0 < xs.length → ∃ a, ad = some a ∧ a.block < w.heap.size ∧ ∀ j u, (flat xs)[j]? = some u → w.cell? (a.add j) = some u) := by
    rcases h.shape with ⟨rfl, rfl⟩ | ⟨g, cap, cur, rfl, hgb, hg, hc, hcm, hcs, ht⟩
    · exact ⟨_, _, rfl, fun h => absurd h (by simp)⟩
    · refine ⟨_, _, rfl, fun _ => ⟨_, rfl, h.lt g (.inr rfl), fun j u hu => ?_⟩⟩
      have hadd : (⟨g, 0, none⟩ : Addr).add j = ⟨g, j, none⟩ := by unfold Addr.add; split <;> simp_all
      rw [hadd]; exact row_cell hg ht hu
  subst hv
  clear h
  have hlt : b < w.heap.size := H.out.lt b (.inl rfl)
  have HLT := Lib.hid hlt
  obtain ⟨n, hnn⟩ : ∃ n, xs.length = n := ⟨_, rfl⟩
  have HN := Lib.hid hnn
  rw [hnn] at hb hn
  clear hnn hlt
  have hb2 : (w.alloc (.cells #[] TE)).cell? ⟨b, 0, none⟩ = some (.slice ad n cap) := by
    rw [World.cell?_of_block (w := w) (Below.heap_alloc _ _ _ HLT.out)]; exact hb
  have hown : Hid ((w.alloc (.cells #[] TE)).ownsRow w.heap.size TE 2 (.slice (some ⟨w.heap.size, 0, none⟩) 0 0) 0 []) := World.ownsRow_made w #[] 0 (Nat.le_refl _) (Nat.zero_le _) rfl
  go_enter Try.func17, Try.ntmps17
  go_wp2_with (at_builtin; refine wpList_append_any rfl _ _ 54 rfl w.heap.size 58 i0 (.agg #[.int .i64 0, .string { data := #[] }]) 2 24 Try.underlying54 hi hz0 hz1 hz2 rfl (by decide) (.slice (some ⟨w.heap.size, 0, none⟩) 0 0) 0 [] rfl hown.out ad n cap (flat xs) rfl ?c0 ?c1 ?c2 ?c3 ?c4 ?c5 ?c6)
  case c0 => rw [flat_length, HN.out]
  case c1 =>
    intro h0
    obtain ⟨a, rfl, hlt, hc⟩ := hsrc.out (by rw [HN.out]; exact h0)
    refine ⟨a, rfl, fun j u hu => ?_⟩
    rw [World.cell?_of_block (w := w) (Below.heap_alloc _ _ _ (by unfold Addr.add; split <;> exact hlt))]
    exact hc j u hu
  case c2 =>
    intro u hu
    simp only [flat, List.mem_flatMap] at hu
    obtain ⟨p, hp, hu3⟩ := hu
    simp at hu3
    rcases hu3 with rfl | rfl
    · rfl
    · exact H.out.one p hp
  case c3 => unfold maxLen; omega
  case c4 => omega
  case c5 => simp
  case c6 =>
  intro v1 w1 hown1 hg1 hb1
  have hown1 : w1.ownsRow w.heap.size TE 2 v1 n (flat xs) := by simpa using hown1
  have fin : Hid (MyMap TM TE w.heap.size (w1.alloc (.cells #[v1] TM)) w1.heap.size v1 xs ∧ Below w.heap.size w (w1.alloc (.cells #[v1] TM))) := by
    have hbel : Below w.heap.size w w1 := ((Below.refl _ _).alloc (Nat.le_refl _) _).grown hg1 (by simp) (fun k hk => by simp [Value.ownBlock] at hk; omega)
    refine ⟨⟨⟨heap_alloc_new _ _, ?_, ?_, H.out.asc, H.out.one⟩, hbel.size, fun k hk => (hown1.lt k hk).1⟩, hbel.alloc hbel.size _⟩
    · have := hown1.alloc (.cells #[v1] TM)
      rw [← HN.out] at this
      obtain ⟨h1, h2⟩ := this
      refine ⟨h1, ?_⟩
      rcases h2 with h2 | ⟨g, cap, cur, e, _, r⟩
      · exact .inl h2
      · exact .inr ⟨g, cap, cur, e, Nat.zero_le _, r⟩
    · intro e
      have := (hown1.lt _ e).2
      omega
  obtain ⟨A1, c1, hv1⟩ := own_slice hown1
  rw [hv1] at fin ⊢
  clear hown1 hg1 hb1 hv1
  go_wp2
  go_ret
  exact ⟨_, _, rfl, fin.out.1, fin.out.2⟩

end SorStr
end Go.Proofs.Ytllohpkbnopbfaa
