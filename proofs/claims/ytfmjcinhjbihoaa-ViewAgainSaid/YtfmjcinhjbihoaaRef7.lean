import Derived.Test.YtfmjcinhjbihoaaVLives
namespace Go.Proofs.Ytfmjcinhjbihoaa
open Go.RowKit Go.Bas SorPlain Go.Sor IMap_ VIn VPlain MapI
namespace View

/-- where the first pair of an address stands; -1: nowhere -/
def idx (l : M) (a : Int) : Int := match l.findIdx? (fun p => p.1 == a) with | some i => i | none => -1
theorem idx_some {l : M} {a : Int} {k : Nat} (hk : k < l.length) (h : l[k].1 = a) (hb : ∀ j (hj : j < k), ¬ l[j].1 = a) : idx l a = k ∧ first l a = some l[k].2 := by
  have h1 : l.findIdx? (fun p => p.1 == a) = some k := by
    rw [List.findIdx?_eq_some_iff_getElem]
    exact ⟨hk, by simpa using h, fun j hj => by simpa using hb j hj⟩
  have h2 : l.find? (fun p => p.1 == a) = some l[k] := by
    rw [List.find?_eq_some_iff_getElem]
    exact ⟨by simpa using h, k, hk, rfl, fun j hj => by simpa using hb j hj⟩
  unfold idx first
  rw [h1, h2]
  exact ⟨rfl, rfl⟩
theorem idx_none {l : M} {a : Int} (hb : ∀ j (hj : j < l.length), ¬ l[j].1 = a) : idx l a = -1 ∧ first l a = none := by
  have h1 : l.findIdx? (fun p => p.1 == a) = none := by
    rw [List.findIdx?_eq_none_iff]
    intro p hp
    obtain ⟨j, hj, rfl⟩ := List.mem_iff_getElem.1 hp
    simpa using hb j hj
  have h2 : l.find? (fun p => p.1 == a) = none := by
    rw [List.find?_eq_none]
    intro p hp
    obtain ⟨j, hj, rfl⟩ := List.mem_iff_getElem.1 hp
    simpa using hb j hj
  unfold idx first
  rw [h1, h2]
  exact ⟨rfl, rfl⟩
theorem idx_cases (l : M) (a : Int) : (idx l a = -1 ∧ first l a = none) ∨ ∃ k : Nat, ∃ hk : k < l.length, idx l a = k ∧ first l a = some l[k].2 := by
  cases h : l.findIdx? (fun p => p.1 == a) with
  | none =>
    left
    rw [List.findIdx?_eq_none_iff] at h
    exact idx_none (fun j hj => by simpa using h _ (List.getElem_mem hj))
  | some k =>
    right
    rw [List.findIdx?_eq_some_iff_getElem] at h
    obtain ⟨hk, e, hmin⟩ := h
    exact ⟨k, hk, idx_some hk (by simpa using e) (fun j hj => by simpa using hmin j hj)⟩

set_option maxRecDepth 100000 in
set_option maxHeartbeats 1000000 in
theorem find_any {w : World} {B : Nat} {s : Value} {l : M} (h : Pairs w B s l) (a : Int) :
    Calls Try.prog 32 #[s, .int .i64 a] w fun e w' => e = .returned (.int .i64 (idx l a)) ∧ w = w' := by
  obtain ⟨A, c, rfl, hm, _⟩ := id h
  obtain ⟨n, hn⟩ : ∃ n, l.length = n := ⟨_, rfl⟩
  have HN := Lib.hid hn
  rw [hn] at hm h ⊢
  have hm : n ≤ 9223372036854775807 := hm
  have HP := Lib.hid h
  obtain ⟨r, hr⟩ : ∃ r, idx l a = r := ⟨_, rfl⟩
  rw [hr]
  have HR := Lib.hid hr
  clear h hn hr
  go_enter Try.func32, Try.ntmps32
  go_wp2
  go_loopw [5] (fun u5 wr => ∃ k : Nat, k ≤ n ∧ u5 = .int .i64 k ∧ Hid (w = wr) ∧ Hid (∀ j (hj : j < l.length), j < k → ¬ l[j].1 = a)) (fun u5 _ => n - (intOf u5).toNat)
  case atStart => exact ⟨0, by omega, rfl, rfl, fun j hj h => by omega⟩
  case round =>
    obtain ⟨k, hk, rfl, HW, HB⟩ := hrel
    by_cases hlt : k < n
    · have hlen : k < l.length := by rw [HN.out]; exact hlt
      obtain ⟨b, off, rfl, _, row⟩ := (pair_row HP.out).2 k hlen
      have hsome := fun e => (idx_some (a := a) hlen e (fun j hj => HB.out j (by omega) hj)).1
      have hb2 : Hid (¬ l[k].1 = a → ∀ j (hj : j < l.length), j < k + 1 → ¬ l[j].1 = a) := fun hne j hj hjk => by
        by_cases e : j = k
        · subst e; exact hne
        · exact HB.out j hj (by omega)
      obtain ⟨x, hx⟩ : ∃ x, l[k].1 = x := ⟨_, rfl⟩
      have c1 : wr.cell? ⟨b, off + k * 2, none⟩ = some (.int .i64 x) := by rw [← HW.out, ← hx]; exact row 0 _ rfl
      rw [hx] at hsome hb2
      have HS := Lib.hid hsome
      clear row hx hsome hlen
      by_cases hxa : x = a
      · have hrk : Hid (r = k) := by rw [Hid, ← HR.out]; exact HS.out hxa
        go_wp2
        go_ret
        exact ⟨by rw [hrk.out]; rfl, HW.out⟩
      · have HB2 := Lib.hid (hb2.out hxa)
        clear hb2
        go_wp2
        go_roundw
        case rel => exact ⟨k + 1, by omega, by go_num, HW, HB2⟩
        case measure => simp [intOf]; omega
    · obtain rfl : n = k := by omega
      have hrk : Hid (r = -1) := by
        rw [Hid, ← HR.out]
        exact (idx_none (fun j hj => HB.out j hj (by rw [← HN.out]; exact hj))).1
      go_wp2
      go_ret
      exact ⟨by rw [hrk.out]; rfl, HW.out⟩

/-- what a word is, by the document; none: it is needed -/
def word (kn wrote : M) (a : Int) : Option Int := if a < 0 then some 0 else match first wrote a with | some x => some x | none => first kn a

set_option maxRecDepth 100000 in
set_option maxHeartbeats 1000000 in
theorem word_any {w : World} {B : Nat} {sk sw : Value} {kn wrote : M} (hk : Pairs w B sk kn) (hw : Pairs w B sw wrote) (a : Int) :
    Calls Try.prog 24 #[sk, sw, .int .i64 a] w fun e w' => e = .returned (.tuple #[.int .i64 ((word kn wrote a).getD 0), .bool (word kn wrote a).isSome]) ∧ w = w' := by
  have F1 := Lib.hid (find_any hw a); have F2 := Lib.hid (find_any hk a)
  obtain ⟨A, c, rfl, _, _⟩ := id hk
  obtain ⟨A2, c2, rfl, _, _⟩ := id hw
  obtain ⟨nk, hnk⟩ : ∃ n, kn.length = n := ⟨_, rfl⟩
  obtain ⟨nw, hnw⟩ : ∃ n, wrote.length = n := ⟨_, rfl⟩
  have HNK := Lib.hid hnk; have HNW := Lib.hid hnw
  rw [hnk] at hk F2 ⊢
  rw [hnw] at hw F1 ⊢
  clear hnk hnw
  have hdef : Hid (word kn wrote a = if a < 0 then some 0 else match first wrote a with | some x => some x | none => first kn a) := rfl
  obtain ⟨r, hr⟩ : ∃ r, word kn wrote a = r := ⟨_, rfl⟩
  rw [hr] at hdef ⊢
  clear hr
  by_cases h0 : a < 0
  · rw [if_pos h0] at hdef
    clear hk hw F1 F2
    go_enter Try.func24, Try.ntmps24
    go_wp2
    go_ret2
    exact ⟨by rw [hdef.out]; rfl, rfl⟩
  · rw [if_neg h0] at hdef
    rcases idx_cases wrote a with ⟨i1, f1⟩ | ⟨k, hkk, i1, f1⟩
    · rw [i1] at F1
      rw [f1] at hdef
      dsimp only at hdef
      rcases idx_cases kn a with ⟨i2, f2⟩ | ⟨k, hkk, i2, f2⟩
      · rw [i2] at F2
        rw [f2] at hdef
        clear i1 i2 f1 f2 hk hw
        go_enter Try.func24, Try.ntmps24
        go_wp2_with (first
          | (go_at_call 32; refine F1.out.mono ?_; rintro e w' ⟨rfl, rfl⟩; clear F1)
          | (go_at_call 32; refine F2.out.mono ?_; rintro e w' ⟨rfl, rfl⟩))
        go_ret2
        exact ⟨by rw [hdef.out]; rfl, rfl⟩
      · rw [i2] at F2
        rw [f2] at hdef
        obtain ⟨b, off, rfl, _, row⟩ := (pair_row hk).2 k hkk
        obtain ⟨x, hx⟩ : ∃ x, kn[k].2 = x := ⟨_, rfl⟩
        have c1 : w.cell? ⟨b, off + k * 2 + 1, none⟩ = some (.int .i64 x) := by rw [← hx]; exact row 1 _ rfl
        rw [hx] at hdef
        clear i1 i2 f1 f2 hk hw hx row
        have hlt : k < nk := by rw [← HNK.out]; exact hkk
        clear hkk
        go_enter Try.func24, Try.ntmps24
        go_wp2_with (first
          | (go_at_call 32; refine F1.out.mono ?_; rintro e w' ⟨rfl, rfl⟩; clear F1)
          | (go_at_call 32; refine F2.out.mono ?_; rintro e w' ⟨rfl, rfl⟩))
        go_ret2
        exact ⟨by rw [hdef.out]; rfl, rfl⟩
    · rw [i1] at F1
      rw [f1] at hdef
      dsimp only at hdef
      obtain ⟨b, off, rfl, _, row⟩ := (pair_row hw).2 k hkk
      obtain ⟨x, hx⟩ : ∃ x, wrote[k].2 = x := ⟨_, rfl⟩
      have c1 : w.cell? ⟨b, off + k * 2 + 1, none⟩ = some (.int .i64 x) := by rw [← hx]; exact row 1 _ rfl
      rw [hx] at hdef
      clear i1 f1 hk hw hx row F2
      have hlt : k < nw := by rw [← HNW.out]; exact hkk
      clear hkk
      go_enter Try.func24, Try.ntmps24
      go_wp2_with (first
        | (go_at_call 32; refine F1.out.mono ?_; rintro e w' ⟨rfl, rfl⟩; clear F1))
      go_ret2
      exact ⟨by rw [hdef.out]; rfl, rfl⟩

end View
end Go.Proofs.Ytfmjcinhjbihoaa
