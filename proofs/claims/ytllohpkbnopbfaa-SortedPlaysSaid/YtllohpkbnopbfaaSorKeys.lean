import Derived.Test.YtllohpkbnopbfaaSorRef3
namespace Go.Proofs.Ytllohpkbnopbfaa
open Go.RowKit Go.Bas SorPlain Go.Sor
namespace SorKeys
open SorStr

theorem infoInt : (Try.prog.info? 3).map (fun i => (i.zero, i.size, i.bytes)) = some (some (.int .i64 0), 1, 8) := by kernel_rfl

/-- the list that is gathered, in the captured variable c -/
def Gath (w0 w : World) (c : Nat) (ks : List Int) : Prop :=
  ∃ A cap, One w c (.slice A ks.length cap) 43 ∧ w.ownsRow (c + 1) 3 1 (.slice A ks.length cap) ks.length (ks.map (Value.int .i64)) ∧ Below c w0 w ∧ c < w.heap.size

set_option maxHeartbeats 400000 in
theorem callback {w0 w : World} {c : Nat} {ks : List Int} (h : Gath w0 w c ks) (hn : ks.length ≤ 1000) (k : Int) (u : Value) :
    Calls Try.prog 35 #[.int .i64 k, u, .pointer (some ⟨c, 0, none⟩)] w fun e w' => e = .returned (.bool true) ∧ Gath w0 w' c (ks ++ [k]) := by
  obtain ⟨i0, hi0, hz0, hz1, hz2⟩ := info_parts infoInt
  obtain ⟨A, cap, ho, hr, hb, hlt⟩ := h
  have g := ho.cell
  have HO := Lib.hid ho; have HR := Lib.hid hr; have HB := Lib.hid hb
  obtain ⟨n, hnn⟩ : ∃ n, ks.length = n := ⟨_, rfl⟩
  have HN := Lib.hid hnn
  rw [hnn] at g hn HR HO
  have hsz : c + 1 ≤ w.heap.size := hlt
  clear hr hb ho hnn hlt
  go_enter Try.func35, Try.ntmps35
  go_wp2_with (at_builtin; refine wpList_append_any rfl _ _ 43 rfl (c + 1) 3 i0 (.int .i64 0) 1 8 Try.underlying43 hi0 hz0 hz1 hz2 rfl (by decide) (.slice A n cap) n (ks.map (Value.int .i64)) rfl (HR.out.alloc _) (some ⟨w.heap.size, 0, none⟩) 1 1 [.int .i64 k] rfl rfl ?c1 ?c2 ?c3 ?c4 ?c5 ?c6)
  case c1 => exact fun _ => ⟨_, rfl, new_cells _ _ _⟩
  case c2 => simp [Value.oneCell']
  case c3 => unfold maxLen; omega
  case c4 => omega
  case c5 => simp; omega
  case c6 =>
  intro v1 w1 hown1 hg1 hb1
  have h1 : One w1 c (.slice A n cap) 43 := by
    refine HO.out.kept ?_
    rw [hg1.block c (by simp; omega) (fun e => by have := (HR.out.lt c e.symm).1; omega)]
    exact Below.heap_alloc _ _ _ (by omega)
  obtain ⟨A1, c1, hv1⟩ := own_slice hown1
  rw [hv1] at hown1
  have fin : Hid (Gath w0 (w1.setCell ⟨c, 0, none⟩ (.slice A1 (n + 1) c1)) c (ks ++ [k])) := by
    refine ⟨A1, c1, ?_, ?_, ?_, ?_⟩
    · rw [show (ks ++ [k]).length = n + 1 by simp [HN.out]]; exact h1.set _
    · rw [show (ks ++ [k]).length = n + 1 by simp [HN.out], show (ks ++ [k]).map (Value.int .i64) = ks.map (Value.int .i64) ++ [.int .i64 k] by simp]
      exact ownsRow_setCell_other hown1 (fun e => by have h5 : c + 1 ≤ c := (hown1.lt _ e).1; omega) _
    · refine Below.setCell (p := ⟨c, 0, none⟩) ?_ (Nat.le_refl c) _
      exact (HB.out.alloc (by omega) _).grown hg1 (by simp; omega) (fun k hk => by have := (HR.out.lt k hk).1; omega)
    · have := hg1.size; simp [World.setCell] at this ⊢; omega
  have g1 := h1.cell; have f1 := h1.free
  rw [hv1]
  clear hown1 hg1 hb1 hv1 h1
  go_wp2
  go_ret
  exact ⟨rfl, fin.out⟩

/-- Keys -/
def KeysTold (w : World) (ks : List Int) (e : Ending) (w' : World) : Prop :=
  ∃ A cap, e = .returned (.slice A ks.length cap) ∧ w'.ownsRow w.heap.size 3 1 (.slice A ks.length cap) ks.length (ks.map (Value.int .i64)) ∧ Below w.heap.size w w'

set_option maxHeartbeats 400000 in
theorem keys_any {w : World} {b : Nat} {v : Value} {xs : List (Int × Value)} (h : IsMap TM TE w b v xs) (hn : xs.length ≤ 1000) :
    Calls Try.prog 23 #[.pointer (some ⟨b, 0, none⟩)] w (KeysTold w (keys xs)) := by
  have H := Lib.hid h
  have ce := each_any (b := b) (xs := xs) 35 #[.pointer (some ⟨w.heap.size, 0, none⟩)] (fun i w' => Gath w w' w.heap.size ((keys xs).take i)) (fun w' => Gath w w' w.heap.size (keys xs)) (by omega)
    (callFunc_run Try.func35 (by kernel_rfl) (by kernel_rfl))
    (fun i w' hg => by
      obtain ⟨A, cap, _, _, hb, _⟩ := hg
      exact ⟨v, h.kept fun k hk => hb.block k (h.lt k hk)⟩)
    (fun i w' n hg => by
      obtain ⟨A, cap, h1, h2, hb, h4⟩ := hg
      exact ⟨A, cap, h1, h2, hb.trans (drewN_below _ _ _), h4⟩)
    (fun i hi w' hg => by
      have e : (keys xs).take (i + 1) = (keys xs).take i ++ [(keys xs).getD i 0] := by
        rw [List.take_succ_eq_append_getElem (by simpa using hi)]
        simp [hi]
      have := callback hg (by simp; omega) ((keys xs).getD i 0) ((xs.map (·.2)).getD i undef)
      exact this.mono fun e' w'' ⟨he, hg'⟩ => ⟨true, he, fun _ => by rw [e]; exact hg', fun h => by cases h⟩)
    (fun w' hg => by rw [List.take_of_length_le (by simp)] at hg; exact hg)
    (w.alloc (.cells #[.slice none 0 0] 43))
    ⟨none, 0, One.new _ _ _, by simpa using World.ownsRow_nil _ _ _ _, (Below.refl _ _).alloc (Nat.le_refl _) _, by simp⟩
  clear h
  go_enter Try.func23, Try.ntmps23
  go_wp2_with fail
  go_at_call 12
  refine ce.mono ?_
  rintro e w1 ⟨rfl, A, cap, h1, h2, hb, h4⟩
  rw [keys_length] at h1 h2
  have g := h1.cell
  have fin : Hid (KeysTold w (keys xs) (.returned (.slice A xs.length cap)) w1) := by
    refine ⟨A, cap, by rw [keys_length], ?_, hb⟩
    rw [keys_length]
    obtain ⟨k1, k2⟩ := h2
    refine ⟨k1, ?_⟩
    rcases k2 with k2 | ⟨g, cp, cur, e, hl, r⟩
    · exact .inl k2
    · exact .inr ⟨g, cp, cur, e, by omega, r⟩
  clear h1 h2 hb h4 ce
  go_wp2
  go_ret
  exact fin.out

end SorKeys
end Go.Proofs.Ytllohpkbnopbfaa
