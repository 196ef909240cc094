import Derived.Test.YtfmjcinhjbihoaaRun
namespace Go.Proofs.Ytfmjcinhjbihoaa
open Go.RowKit Go.Bas SorPlain Go.Sor IMap_ VIn VPlain MapI
namespace View

theorem step_row {w : World} {B : Nat} {A : Option Addr} {n cp : Nat} {ps : List Ins} (h : VIn.Steps w B (.slice A n cp) ps) {k : Nat} (hk : k < ps.length) : ∃ b off, A = some ⟨b, off, none⟩ ∧ b < B ∧
    w.cell? ⟨b, off + k * 3, none⟩ = some (.int .i64 ps[k].kind) ∧ w.cell? ⟨b, off + k * 3 + 1, none⟩ = some (.int .i64 ps[k].a) ∧ w.cell? ⟨b, off + k * 3 + 2, none⟩ = some (.int .i64 ps[k].b) := by
  obtain ⟨A', c', e, hm, hc⟩ := h
  simp at e
  obtain ⟨rfl, rfl, rfl⟩ := e
  obtain ⟨b, off, rfl, hlt, hc⟩ := hc (by omega)
  exact ⟨b, off, rfl, hlt, hc k hk⟩

theorem play_skip (f : Int → Option Int) (l : List Ins) (k : Nat) (x : Int) (m : M) (qs : List Int) : play f (l.drop (k + 1)) true x m qs = play f (l.drop (k + 2)) false x m qs := by
  have e : l.drop (k + 2) = (l.drop (k + 1)).tail := by rw [List.tail_drop]
  rw [e]
  cases l.drop (k + 1) with
  | nil => rfl
  | cons i r => rfl

set_option maxRecDepth 100000 in
set_option maxHeartbeats 8000000 in
theorem plays_any {A : Ask} {P : Nat → Prop} {bv bm B : Nat} {w : World} {s : Value} {l : List Ins} (h : VWs A P bv bm true [] [] w) (hs : VIn.Steps w B s l) (hl : SIn l) (hn : l.length ≤ 1000) (hPB : ∀ k, k < B → P k) :
    Calls Try.prog 19 #[.pointer (some ⟨bv, 0, none⟩), s] w fun e w' => Ran A P bv bm (play A.f l false 0 [] []) e w' ∧ Kept P w w' := by
  obtain ⟨R, hR⟩ : ∃ R, play A.f l false 0 [] [] = R := ⟨_, rfl⟩
  have H0 : Hid (play A.f (l.drop 0) false 0 [] [] = R) := hR
  rw [hR]
  clear hR
  obtain ⟨Ad, cp, rfl, hm, _⟩ := id hs
  obtain ⟨n, hnn⟩ : ∃ n, l.length = n := ⟨_, rfl⟩
  have HN := Lib.hid hnn
  have HS : Hid (∀ w', Kept P w w' → VIn.Steps w' B (.slice Ad n cp) l) := fun w' hk => by
    rw [← hnn]
    have hlt : B ≤ w.heap.size := by
      by_cases h0 : B = 0
      · omega
      · obtain ⟨S, v, _, hP⟩ := h
        have := (hP (B - 1) (hPB _ (by omega))).1
        omega
    exact hs.below (hk.below hlt (fun k hk' => by
      by_cases e : k < B
      · exact absurd (hPB k e) hk'
      · omega))
  rw [hnn] at hn ⊢
  have HL := Lib.hid hl
  have HV := Lib.hid h
  have h0 : In64 0 := by unfold In64; simp
  have HZ := Lib.hid h0
  clear hs hl hnn hm h h0 hPB
  go_enter Try.func19, Try.ntmps19
  go_wp2
  go_loopw [5, 4] (fun u5 u4 wr => ∃ (k : Nat) (x : Int) (m : M) (qs : List Int), k ≤ n + 1 ∧ u5 = .int .i64 k ∧ u4 = .int .i64 x ∧ Hid (In64 x) ∧ m.length ≤ k ∧ Hid (VWs A P bv bm true qs m wr) ∧ Hid (Kept P w wr) ∧ Hid (play A.f (l.drop k) false x m qs = R)) (fun u5 _ _ => n + 1 - (intOf u5).toNat)
  case atStart => exact ⟨0, 0, [], [], by omega, rfl, rfl, HZ, Nat.le_refl _, HV, Chg.refl _ _, H0⟩
  case round =>
    clear HV H0 HZ
    obtain ⟨k, x, m, qs, hk, rfl, rfl, HX, hml, HV, HK, HR⟩ := hrel
    by_cases hlt : k < n
    · have hlen : k < l.length := by rw [HN.out]; exact hlt
      obtain ⟨b, off, rfl, hbB, c0, c1, c2⟩ := step_row (HS.out _ HK.out) hlen
      have hin := HL.out _ (List.getElem_mem hlen)
      have hdr : l.drop k = l[k] :: l.drop (k + 1) := List.drop_eq_getElem_cons hlen
      obtain ⟨⟨kd, a, bb⟩, hi⟩ : ∃ i, l[k] = i := ⟨_, rfl⟩
      rw [hi] at c0 c1 c2 hin hdr
      have HD := Lib.hid hdr; have HIn := Lib.hid hin
      clear hi hdr hin hlen
      dsimp only at c0 c1 c2 HIn
      have hpl : Hid (play A.f (l.drop k) false x m qs = if kd = 0 then (match rd A.f m a with | some y => play A.f (l.drop (k + 1)) false y m (asks m a qs) | none => (.inl a, qs))
          else if kd = 1 then play A.f (l.drop (k + 1)) false x (VPlain.wr m a bb) qs
          else if kd = 2 then play A.f (l.drop (k + 1)) false x (VPlain.wr m a x) qs
          else if kd = 3 then (match rd A.f m x with | some y => play A.f (l.drop (k + 1)) false y m (asks m x qs) | none => (.inl x, qs))
          else if kd = 4 then play A.f (l.drop (k + 1)) (decide (x = bb)) x m qs
          else play A.f (l.drop (k + 1)) false x m qs) := by rw [Hid, HD.out]; rfl
      rw [HR.out] at hpl
      clear HD HR
      by_cases h0 : kd = 0
      · subst h0
        rw [if_pos rfl] at hpl
        have RD := Lib.hid (read_any HV.out (by omega) a HIn.out.1)
        go_wp2_with (first
          | (go_at_call 14; refine RD.out.mono ?_; rintro e w2 (⟨y, q1, q2, rfl, q3, q4⟩ | ⟨q1, rfl, q3, q4⟩)))
        · rw [q1] at hpl
          have Q3 := Lib.hid q3; have Q4 := Lib.hid (HK.out.trans q4)
          have Q2 := Lib.hid q2
          clear q1 q2 q3 q4 RD
          go_roundw
          case rel => exact ⟨k + 1, y, m, asks m a qs, by omega, by go_num, rfl, Q2, by omega, Q3, Q4, hpl.out.symm⟩
          case measure => simp [intOf]; omega
        · rw [q1] at hpl
          have h1 : R = (.inl a, qs) := hpl.out
          exact ⟨rfl, .inr ⟨a, m, by rw [h1], rfl, by rw [h1]; exact q3⟩, HK.out.trans q4⟩
      rw [if_neg h0] at hpl
      by_cases h1 : kd = 1
      · subst h1
        rw [if_pos rfl] at hpl
        have WR := Lib.hid (write_any (HV.out.new ((Below.refl _ _).drew)) (by omega) a bb HIn.out.1 HIn.out.2)
        have d1 : wr.drew.cell? ⟨b, off + k * 3 + 1, none⟩ = some (.int .i64 a) := c1
        have d2 : wr.drew.cell? ⟨b, off + k * 3 + 2, none⟩ = some (.int .i64 bb) := c2
        go_upto_region 8 with fail
        go_still_tail 11, (by kernel_rfl)
        change wpList _ _ _ _ _ wr.drew
        go_wp2_with (first
          | (go_at_call 13; refine WR.out.mono ?_; rintro e w2 ⟨rfl, q1, q2⟩))
        have Q1 := Lib.hid q1; have Q2 : Hid (Kept P w w2) := (HK.out.trans (Chg.drew _ wr)).trans q2
        have hwl := wr_length m a bb
        clear q1 q2
        go_wp2
        go_roundw
        case rel => exact ⟨k + 1, x, VPlain.wr m a bb, qs, by omega, by go_num, rfl, HX, by omega, Q1, Q2, hpl.out.symm⟩
        case measure => simp [intOf]; omega
      rw [if_neg h1] at hpl
      by_cases h2 : kd = 2
      · subst h2
        rw [if_pos rfl] at hpl
        have WR := Lib.hid (write_any HV.out (by omega) a x HIn.out.1 HX.out)
        go_wp2_with (first
          | (go_at_call 13; refine WR.out.mono ?_; rintro e w2 ⟨rfl, q1, q2⟩))
        have Q1 := Lib.hid q1; have Q2 : Hid (Kept P w w2) := HK.out.trans q2
        have hwl := wr_length m a x
        clear q1 q2
        go_wp2
        go_roundw
        case rel => exact ⟨k + 1, x, VPlain.wr m a x, qs, by omega, by go_num, rfl, HX, by omega, Q1, Q2, hpl.out.symm⟩
        case measure => simp [intOf]; omega
      rw [if_neg h2] at hpl
      by_cases h3 : kd = 3
      · subst h3
        rw [if_pos rfl] at hpl
        have RD := Lib.hid (read_any HV.out (by omega) x HX.out)
        go_wp2_with (first
          | (go_at_call 14; refine RD.out.mono ?_; rintro e w2 (⟨y, q1, q2, rfl, q3, q4⟩ | ⟨q1, rfl, q3, q4⟩)))
        · rw [q1] at hpl
          have Q3 := Lib.hid q3; have Q4 := Lib.hid (HK.out.trans q4)
          have Q2 := Lib.hid q2
          clear q1 q2 q3 q4 RD
          go_roundw
          case rel => exact ⟨k + 1, y, m, asks m x qs, by omega, by go_num, rfl, Q2, by omega, Q3, Q4, hpl.out.symm⟩
          case measure => simp [intOf]; omega
        · rw [q1] at hpl
          have h1 : R = (.inl x, qs) := hpl.out
          exact ⟨rfl, .inr ⟨x, m, by rw [h1], rfl, by rw [h1]; exact q3⟩, HK.out.trans q4⟩
      rw [if_neg h3] at hpl
      by_cases h4 : kd = 4
      · subst h4
        rw [if_pos rfl] at hpl
        by_cases hxb : x = bb
        · subst hxb
          have hp2 : Hid (play A.f (l.drop (k + 2)) false x m qs = R) := by
            have := hpl.out
            simp only [decide_true, play_skip] at this
            exact this.symm
          clear hpl
          go_wp2
          go_roundw
          case rel => exact ⟨k + 2, x, m, qs, by omega, by go_num, rfl, HX, by omega, HV, HK, hp2⟩
          case measure => simp [intOf]; omega
        · have hp2 : Hid (play A.f (l.drop (k + 1)) false x m qs = R) := by
            have := hpl.out
            rw [decide_eq_false hxb] at this
            exact this.symm
          clear hpl
          go_wp2
          go_roundw
          case rel => exact ⟨k + 1, x, m, qs, by omega, by go_num, rfl, HX, by omega, HV, HK, hp2⟩
          case measure => simp [intOf]; omega
      · rw [if_neg h4] at hpl
        go_wp2
        go_roundw
        case rel => exact ⟨k + 1, x, m, qs, by omega, by go_num, rfl, HX, by omega, HV, HK, hpl.out.symm⟩
        case measure => simp [intOf]; omega
    · have hd : l.drop k = [] := List.drop_eq_nil_of_le (by rw [HN.out]; omega)
      have HR2 : Hid ((.inr m, qs) = R) := by have := HR.out; rw [hd] at this; exact this
      clear hd
      go_wp2
      go_end0
      exact ⟨.inl ⟨m, by rw [← HR2.out], rfl, by rw [← HR2.out]; exact HV.out⟩, HK.out⟩

end View
end Go.Proofs.Ytfmjcinhjbihoaa
