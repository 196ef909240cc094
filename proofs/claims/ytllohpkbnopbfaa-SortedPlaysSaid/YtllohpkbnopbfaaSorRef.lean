import Derived.Test.YtllohpkbnopbfaaSorEachW
import Derived.Test.YtllohpkbnopbfaaSorPlain3
namespace Go.Proofs.Ytllohpkbnopbfaa
open Go.RowKit Go.Bas SorPlain Go.Sor
namespace SorRef
abbrev RM : TypeId := 42
abbrev RE : TypeId := 61

theorem info : (Try.prog.info? 61).map (fun i => (i.zero, i.size, i.bytes)) = some (some (.agg #[.int .i64 0, .string { data := #[] }]), 2, 24) := by kernel_rfl

/-- the document's map in memory -/
structure IsRef (w : World) (b : Nat) (v : Value) (ys : List (Int × Value)) : Prop where
  cell : w.heap[b]? = some (.cells #[v] RM (0, 0))
  own : w.ownsRow 0 RE 2 v ys.length (flat ys)
  ne : v.ownBlock ≠ some b
  one : ∀ p ∈ ys, p.2.oneCell' = true

section
variable {w w' : World} {b : Nat} {v : Value} {ys : List (Int × Value)}
theorem IsRef.lt (h : IsRef w b v ys) : ∀ k, fp b v k → k < w.heap.size := by
  intro k hk
  rcases hk with rfl | hk
  · exact (Array.getElem?_eq_some_iff.1 h.cell).1
  · exact (h.own.lt k hk.symm).2
theorem IsRef.kept (h : IsRef w b v ys) (hk : ∀ k, fp b v k → w'.heap[k]? = w.heap[k]?) : IsRef w' b v ys := by
  refine ⟨(hk b (.inl rfl)).trans h.cell, ⟨h.own.1, ?_⟩, h.ne, h.one⟩
  rcases h.own.2 with hn | ⟨g, cap, cur, rfl, hb, hg, r⟩
  · exact .inl hn
  · exact .inr ⟨g, cap, cur, rfl, hb, (hk g (.inr rfl)).trans hg, r⟩
theorem IsRef.chg {S : Nat → Prop} (h : IsRef w b v ys) (hc : Chg S w w') (hs : ∀ k, fp b v k → ¬ S k) : IsRef w' b v ys :=
  h.kept fun k hk => hc.block k (h.lt k hk) (hs k hk)
theorem IsRef.head (h : IsRef w b v ys) : w.cell? ⟨b, 0, none⟩ = some v := by simp [World.cell?, h.cell]
theorem IsRef.free (h : IsRef w b v ys) : w.frozen? ⟨b, 0, none⟩ = false := by simp [World.frozen?, h.cell]
theorem IsRef.shape (h : IsRef w b v ys) : (v = .slice none 0 0 ∧ ys = []) ∨
    ∃ g cap cur, v = .slice (some ⟨g, 0, none⟩) ys.length cap ∧ g ≠ b ∧ w.heap[g]? = some (.cells cur RE (0, 0)) ∧ ys.length ≤ cap ∧ cap ≤ maxLen ∧ cur.size = cap * 2 ∧ cur.toList.take (ys.length * 2) = flat ys := by
  rcases h.own.2 with ⟨hv, hn⟩ | ⟨g, cap, cur, rfl, _, r⟩
  · exact .inl ⟨hv, List.eq_nil_of_length_eq_zero hn⟩
  · exact .inr ⟨g, cap, cur, rfl, fun e => h.ne (by simp [Value.ownBlock, e]), r⟩
/-- what a look at a place finds -/
theorem IsRef.look (h : IsRef w b v ys) : ∃ A cap, v = .slice A ys.length cap ∧ Hid (∀ i (hi : i < ys.length), ∃ g, A = some ⟨g, 0, none⟩ ∧ w.cell? ⟨g, i * 2, none⟩ = some (.int .i64 (ys[i]).1) ∧ w.cell? ⟨g, i * 2 + 1, none⟩ = some (ys[i]).2) := by
  rcases h.shape with ⟨rfl, rfl⟩ | ⟨g, cap, cur, rfl, hgb, hg, hc, hcm, hcs, ht⟩
  · exact ⟨_, _, rfl, fun i hi => by simp at hi⟩
  · refine ⟨_, _, rfl, fun i hi => ⟨g, rfl, ?_, ?_⟩⟩
    · have := row_cell hg ht (flat_key ys i hi); simpa [hi] using this
    · have := row_cell hg ht (flat_val ys i hi); simpa [hi] using this
end

/-- what 'at' tells -/
def Found (k : Int) (ys : List (Int × Value)) (r : Int) : Prop := (∃ i : Nat, r = i ∧ i < ys.length ∧ (keys ys).getD i 0 = k) ∨ (r = -1 ∧ ∀ p ∈ ys, p.1 ≠ k)

set_option maxRecDepth 100000 in
set_option maxHeartbeats 400000 in
theorem at_any {w : World} {b : Nat} {v : Value} {ys : List (Int × Value)} (h : IsRef w b v ys) (hn : ys.length ≤ 1000) (k : Int) :
    Calls Try.prog 34 #[.pointer (some ⟨b, 0, none⟩), .int .i64 k] w fun e w' => ∃ r, e = .returned (.int .i64 r) ∧ Found k ys r ∧ w = w' := by
  have hb := h.head
  obtain ⟨A, cap, rfl, HL⟩ := h.look
  clear h
  obtain ⟨n, hnn⟩ : ∃ n, ys.length = n := ⟨_, rfl⟩
  have HN := Lib.hid hnn
  rw [hnn] at hb hn
  clear hnn
  go_enter Try.func34, Try.ntmps34
  go_wp2
  go_loop [5] (fun i => ∃ j : Nat, j ≤ n ∧ i = .int .i64 j ∧ Hid (∀ p ∈ ys.take j, p.1 ≠ k)) (fun i => n - (intOf i).toNat)
  case atStart => exact ⟨0, by omega, rfl, by simp [Hid]⟩
  case round =>
    obtain ⟨j, hj, rfl, HM⟩ := hrel
    by_cases hlt : j < n
    · have hjl : j < ys.length := by rw [HN.out]; exact hlt
      obtain ⟨g, rfl, hc1, _⟩ := HL.out j hjl
      obtain ⟨x, hx⟩ : ∃ x, (ys[j]).1 = x := ⟨_, rfl⟩
      rw [hx] at hc1
      have HX := Lib.hid hx
      clear hx
      by_cases e : x = k
      · subst e
        have fin : Hid (Found x ys j) := .inl ⟨j, rfl, hjl, by rw [← HX.out]; simp [keys, hjl]⟩
        go_wp2
        go_ret
        exact ⟨_, rfl, fin.out, rfl⟩
      · have fin : Hid (∀ p ∈ ys.take (j + 1), p.1 ≠ k) := by
          intro p hp
          rw [List.take_succ_eq_append_getElem hjl, List.mem_append, List.mem_singleton] at hp
          rcases hp with hp | hp
          · exact HM.out p hp
          · rw [hp, HX.out]; exact e
        go_wp2
        go_round
        case rel => exact ⟨j + 1, by omega, by go_num, fin⟩
        case measure => simp [intOf]; omega
    · have fin : Hid (Found k ys (-1)) := .inr ⟨rfl, fun p hp => HM.out p (by rw [List.take_of_length_le (by rw [HN.out]; omega)]; exact hp)⟩
      go_wp2
      go_ret
      exact ⟨_, rfl, fin.out, rfl⟩

/-- Get -/
theorem get_any {w : World} {b : Nat} {v : Value} {ys xs : List (Int × Value)} (h : IsRef w b v ys) (hs : Same ys xs) (hn : ys.length ≤ 1000) (k : Int) :
    Calls Try.prog 21 #[.pointer (some ⟨b, 0, none⟩), .int .i64 k] w fun e w' => e = .returned (.tuple #[getD k (.string { data := #[] }) xs, .bool (has k xs)]) ∧ w = w' := by
  have ca := at_any h hn k
  have hb := h.head
  obtain ⟨A, cap, rfl, HL⟩ := h.look
  have HS := Lib.hid hs
  clear h hs
  obtain ⟨n, hnn⟩ : ∃ n, ys.length = n := ⟨_, rfl⟩
  have HN := Lib.hid hnn
  rw [hnn] at hb hn
  clear hnn
  go_enter Try.func21, Try.ntmps21
  go_wp2_with fail
  go_at_call 34
  refine ca.mono ?_
  clear ca
  rintro e w' ⟨r, rfl, hf, rfl⟩
  rcases hf with ⟨i, rfl, hi, hk⟩ | ⟨rfl, hm⟩
  · have hl := HS.out.hit hi hk
    obtain ⟨g, rfl, _, hc2⟩ := HL.out i hi
    obtain ⟨u, hu⟩ : ∃ u, (ys[i]).2 = u := ⟨_, rfl⟩
    rw [hu] at hc2 hl
    rw [HN.out] at hi
    have e1 : Hid (getD k (.string { data := #[] }) xs = u) := by unfold Hid; rw [getD_look HS.out.2.1, hl]; rfl
    have e2 : Hid (has k xs = true) := by unfold Hid; rw [has_iff HS.out.2.1, hl]; rfl
    clear hl hu hk
    go_wp2
    go_ret2
    exact ⟨by rw [e1.out, e2.out]; rfl, rfl⟩
  · have hl := HS.out.miss hm
    have e1 : Hid (getD k (.string { data := #[] }) xs = .string { data := #[] }) := by unfold Hid; rw [getD_look HS.out.2.1, hl]; rfl
    have e2 : Hid (has k xs = false) := by unfold Hid; rw [has_iff HS.out.2.1, hl]; rfl
    clear hl hm
    go_wp2
    go_ret2
    exact ⟨by rw [e1.out, e2.out]; rfl, rfl⟩

end SorRef
end Go.Proofs.Ytllohpkbnopbfaa
