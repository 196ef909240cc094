import Derived.Test.YtfmjcinhjbihoaaRise
import Derived.Deep.QuietTactic
import Derived.BigQuiet
import Derived.Deep.RegionHeld3
import Derived.Deep.AppendLies
namespace Go.Proofs.Ytfmjcinhjbihoaa
open Go.RowKit Go.Bas SorPlain Go.Sor IMap_ VIn VPlain MapI
namespace Rise
open View

/-- the place told by the inner loop: of the first k pairs the last one of address a -/
def Lastly (l : M) (k : Nat) (a : Int) (j : Int) : Prop := (j = -1 ∧ first (l.take k).reverse a = none) ∨ (∃ i : Nat, j = i ∧ i < k ∧ ∃ h : i < l.length, first (l.take k).reverse a = some l[i].2)
theorem Lastly.none {l : M} {k : Nat} {a j : Int} (h : Lastly l k a j) (hk : k < l.length) (hne : ¬ l[k].1 = a) : Lastly l (k + 1) a j := by
  have e : (l.take (k + 1)).reverse = l[k] :: (l.take k).reverse := by rw [List.take_succ_eq_append_getElem hk]; simp
  rcases h with ⟨h1, h2⟩ | ⟨i, h1, h2, h3, h4⟩
  · exact .inl ⟨h1, by rw [e, first_cons, if_neg hne, h2]⟩
  · exact .inr ⟨i, h1, by omega, h3, by rw [e, first_cons, if_neg hne, h4]⟩
theorem Lastly.next {l : M} {k : Nat} {a : Int} (hk : k < l.length) (he : l[k].1 = a) : Lastly l (k + 1) a k := by
  have e : (l.take (k + 1)).reverse = l[k] :: (l.take k).reverse := by rw [List.take_succ_eq_append_getElem hk]; simp
  exact .inr ⟨k, rfl, by omega, hk, by rw [e, first_cons, if_pos he]⟩
theorem Lastly.zero (l : M) (a : Int) : Lastly l 0 a (-1) := .inl ⟨rfl, by simp [first]⟩
theorem Lastly.all {l : M} {a j x : Int} (h : Lastly l l.length a j) (hf : first l.reverse a = some x) : ∃ i : Nat, j = i ∧ ∃ h : i < l.length, l[i].2 = x := by
  rcases h with ⟨_, h2⟩ | ⟨i, h1, _, h3, h4⟩
  · rw [List.take_length, hf] at h2; cases h2
  · rw [List.take_length, hf] at h4
    exact ⟨i, h1, h3, by simpa using h4.symm⟩

theorem run_addins {w : World} {base : Nat} {out : List Ins} {v : Value} (h : IRow w base out v) (hn : out.length ≤ 10000) (hb : base ≤ w.heap.size) (b : Nat) (i : Ins)
    (hrow : w.heap[b]? = some (.cells #[.int .i64 i.kind, .int .i64 i.a, .int .i64 i.b] 40 (0, 0))) :
    ∃ v' w', (∀ ty, (Builtin.append_ #[23, 23] ty #[v, .slice (some ⟨b, 0, none⟩) 1 1]).run Try.prog w = .ok v' w') ∧ IRow w' base (out ++ [i]) v' ∧ w.grownBy w' v.ownBlock := by
  obtain ⟨i0, hi0, hz0, hz1, hz2⟩ := info_parts infoIns
  obtain ⟨A, cap, rfl, hown⟩ := h
  have key := fun ty => run_append_any (P := Try.prog) w base 23 ty 40 i0 (.agg #[.int .i64 0, .int .i64 0, .int .i64 0]) 3 24 Try.underlying23 hi0 hz0 hz1 hz2 rfl (by decide) _ out.length (flatI out) hown (some ⟨b, 0, none⟩) 1 1 [.int .i64 i.kind, .int .i64 i.a, .int .i64 i.b] rfl
    (fun _ => ⟨_, rfl, fun j u hj => by
      match j, hj with
      | 0, hj => simp at hj; subst hj; simp [Addr.add, cell_of_row _ _ _ _ _ _ hrow]
      | 1, hj => simp at hj; subst hj; simp [Addr.add, cell_of_row _ _ _ _ _ _ hrow]
      | 2, hj => simp at hj; subst hj; simp [Addr.add, cell_of_row _ _ _ _ _ _ hrow]
      | j + 3, hj => simp at hj⟩)
    (by simp [Value.oneCell']) (by unfold maxLen; omega) (by omega) hb
  obtain ⟨v', w', h1, h2, h3, _⟩ := key 0
  obtain ⟨A1, c1, rfl⟩ := own_slice h2
  refine ⟨.slice A1 (out.length + 1) c1, w', fun ty => ?_, ⟨A1, c1, by simp, ?_⟩, h3⟩
  · have e : Builtin.append_ #[23, 23] ty = Builtin.append_ #[23, 23] 0 := rfl
    rw [e]; exact h1
  · rw [flatI_snoc]; simpa using h2

set_option maxRecDepth 100000 in
set_option maxHeartbeats 8000000 in
theorem walk_in {w : World} {sk sl : Value} {kn l : M} (h : Pairs w w.heap.size sk kn) (hk : PIn kn) (hs : Pairs w w.heap.size sl l) (hl : PIn l) :
    Calls Try.prog 6 #[sk, sl] w fun e w' => e = .returned (.bool true) ∧ Below w.heap.size w w' := by
  obtain ⟨A1, c1, rfl, m1, _⟩ := id h
  obtain ⟨A2, c2, rfl, m2, _⟩ := id hs
  obtain ⟨n1, hn1⟩ : ∃ n, kn.length = n := ⟨_, rfl⟩
  obtain ⟨n2, hn2⟩ : ∃ n, l.length = n := ⟨_, rfl⟩
  obtain ⟨g, hg⟩ : ∃ g, w.heap.size = g := ⟨_, rfl⟩
  have H := Lib.hid h; have HS := Lib.hid hs; have HKI := Lib.hid hk; have HLI := Lib.hid hl
  have HN1 := Lib.hid hn1; have HN2 := Lib.hid hn2
  rw [hg] at H HS ⊢
  rw [hn1] at H m1 ⊢
  rw [hn2] at HS m2 ⊢
  have m1 : n1 ≤ 9223372036854775807 := m1
  have m2 : n2 ≤ 9223372036854775807 := m2
  clear h hs hk hl hn1 hn2
  by_cases hbig : 60 < n1 ∨ 100 < n2
  · have key : (60 < n1) ∨ (¬ 60 < n1 ∧ 100 < n2) := by omega
    rcases key with h1 | ⟨h1, h2⟩
    all_goals (
      clear hbig
      go_enter Try.func6, Try.ntmps6
      go_wp2_with (first
        | (go_at_call 9; refine (lives_any _).mono ?_; rintro e w2 ⟨rfl, hb2⟩))
      go_ret
      exact ⟨rfl, hb2.mono (by omega)⟩)
  · have h1 : ¬ 60 < n1 := fun h => hbig (.inl h)
    have h2 : ¬ 100 < n2 := fun h => hbig (.inr h)
    clear hbig
    have FT := Lib.hid (folds_told l)
    have RA : Hid (∀ w' v, Below g w w' → IRow w' g (ins l) v → Calls Try.prog 10 #[.slice A1 n1 c1, v] w' fun e w'' => RunTold w'.heap.size (.inr (folds l)) e w'' ∧ Below w'.heap.size w' w'') := fun w' v hb hr => by
      have := runs_any (w := w') ((H.out.below hb).mono (by have := hb.size; omega)) HKI.out (by rw [HN1.out]; omega) hr.steps (l := ins l) (fun p hp => by
        obtain ⟨q, hq, rfl⟩ := List.mem_map.1 hp
        exact HLI.out q hq) (by simp [ins]; rw [HN2.out]; omega)
      rw [play_ins] at this
      exact this
    have R0 : Hid (IRow w g (ins (l.take 0)) (.slice none 0 0)) := ⟨none, 0, rfl, by simpa [ins, flatI] using World.ownsRow_nil _ _ _ _⟩
    go_enter Try.func6, Try.ntmps6
    go_wp2
    go_loopw [6, 5] (fun u6 u5 wr => ∃ k : Nat, k ≤ n2 ∧ u6 = .int .i64 k ∧ Hid (IRow wr g (ins (l.take k)) u5) ∧ Hid (Below g w wr)) (fun u6 _ _ => n2 - (intOf u6).toNat)
    case atStart => exact ⟨0, by omega, rfl, R0, Below.refl _ _⟩
    case round =>
      clear R0
      obtain ⟨k, hk, rfl, HR, HB⟩ := hrel
      by_cases hlt : k < n2
      · have hlen : k < l.length := by rw [HN2.out]; exact hlt
        obtain ⟨b, off, rfl, hbg, row⟩ := (pair_row (HS.out.below HB.out)).2 k hlen
        have et : ins (l.take (k + 1)) = ins (l.take k) ++ [⟨1, l[k].1, l[k].2⟩] := by unfold ins; rw [List.take_succ_eq_append_getElem hlen, List.map_append]; rfl
        obtain ⟨⟨q1, q2⟩, hq⟩ : ∃ p, l[k] = p := ⟨_, rfl⟩
        rw [hq] at row et
        have ET := Lib.hid et
        have d1 : wr.drew.cell? ⟨b, off + k * 2, none⟩ = some (.int .i64 q1) := row 0 _ rfl
        have d2 : wr.drew.cell? ⟨b, off + k * 2 + 1, none⟩ = some (.int .i64 q2) := row 1 _ rfl
        obtain ⟨p, hp⟩ : ∃ p, wr.heap.size = p := ⟨_, rfl⟩
        have hgp : g ≤ p := by have := HB.out.size; omega
        obtain ⟨w3, hw3⟩ : ∃ w3, wr.drew.alloc (.cells #[.int .i64 1, .int .i64 q1, .int .i64 q2] 40) = w3 := ⟨_, rfl⟩
        have s3 : w3.heap.size = p + 1 := by rw [← hw3, ← hp]; simp
        have hs3 : wr.drew.heap.size = p := hp
        have r3 : Hid (w3.heap[p]? = some (.cells #[.int .i64 1, .int .i64 q1, .int .i64 q2] 40 (0, 0))) := by rw [← hw3, ← hp]; exact new_row wr.drew _ _
        have B3 : Hid (Below g w w3) := by rw [← hw3]; exact (HB.out.trans ((Below.refl _ _).drew)).alloc (show g ≤ wr.drew.heap.size by rw [hs3]; exact hgp) _
        have R3 : Hid (IRow w3 g (ins (l.take k)) u5) := HR.out.kept (fun j hj => by rw [← hw3]; exact alloc_heap wr.drew _ _ (HR.out.own_lt hj))
        have hil : (ins (l.take k)).length ≤ 10000 := by simp [ins]; omega
        have hrun := Lib.hid (run_addins R3.out hil (by omega : g ≤ w3.heap.size) p ⟨1, q1, q2⟩ r3.out)
        obtain ⟨v4, w4, hr4, t4, g4⟩ := hrun.out
        have T4 : Hid (IRow w4 g (ins (l.take (k + 1))) v4) := by rw [Hid, ET.out]; exact t4
        have b4 : Hid (Below g w w4) := B3.out.trans ((Chg.grown (S := fun k => g ≤ k) g4 (fun k hk => R3.out.block hk)).below (by omega) (fun k hk => hk))
        have HR4 := Lib.hid hr4
        have c1 : wr.cell? ⟨b, off + k * 2, none⟩ = some (.int .i64 q1) := d1
        have c2 : wr.cell? ⟨b, off + k * 2 + 1, none⟩ = some (.int .i64 q2) := d2
        have z1 : w.cell? ⟨b, off + k * 2, none⟩ = some (.int .i64 q1) := (HB.out.cell (show (⟨b, off + k * 2, none⟩ : Addr).block < g from hbg)).symm.trans c1
        have z2 : w.cell? ⟨b, off + k * 2 + 1, none⟩ = some (.int .i64 q2) := (HB.out.cell (show (⟨b, off + k * 2 + 1, none⟩ : Addr).block < g from hbg)).symm.trans c2
        have e1 : w3.cell? ⟨b, off + k * 2, none⟩ = some (.int .i64 q1) := (B3.out.cell (show (⟨b, off + k * 2, none⟩ : Addr).block < g from hbg)).trans z1
        have e2 : w3.cell? ⟨b, off + k * 2 + 1, none⟩ = some (.int .i64 q2) := (B3.out.cell (show (⟨b, off + k * 2 + 1, none⟩ : Addr).block < g from hbg)).trans z2
        have f1 : w4.cell? ⟨b, off + k * 2, none⟩ = some (.int .i64 q1) := (b4.out.cell (show (⟨b, off + k * 2, none⟩ : Addr).block < g from hbg)).trans z1
        have f2 : w4.cell? ⟨b, off + k * 2 + 1, none⟩ = some (.int .i64 q2) := (b4.out.cell (show (⟨b, off + k * 2 + 1, none⟩ : Addr).block < g from hbg)).trans z2
        clear z1 z2
        have hk0 : (0 : Int) ≤ (k : Int) := by omega
        have hk1 : (k : Int) < (n2 : Int) := by omega
        subst hw3
        clear et hq row hlen HR r3 R3 hr4 hrun t4 g4 B3
        obtain ⟨i0, hi0, hz0, hz1, hz2⟩ := info_parts infoIns
        go_upto_region 7 with fail
        go_region_held3 (fun wx => wx.cell? ⟨b, off + k * 2, none⟩ = some (.int .i64 q1) ∧ wx.cell? ⟨b, off + k * 2 + 1, none⟩ = some (.int .i64 q2)) (first | exact ⟨c1, c2⟩ | exact ⟨d1, d2⟩ | exact ⟨e1, e2⟩ | exact ⟨f1, f2⟩)
          ((refine step_append_run rfl (.tmp 30) (.tmp 42) 23 rfl _ _ v4 w4 rfl rfl HR4.out ?_))
        go_wp2
        clear c1 c2 d1 d2 e1 e2 f1 f2
        go_roundw
        case rel => exact ⟨k + 1, by omega, by go_num, T4, b4⟩
        case measure => simp [intOf]; omega
      · obtain rfl : n2 = k := by omega
        have et : l.take n2 = l := List.take_of_length_le (by rw [HN2.out]; exact Nat.le_refl _)
        rw [et] at HR
        have CR := Lib.hid (RA.out _ _ HB.out HR.out)
        have hgq : g ≤ wr.heap.size := by have := HB.out.size; omega
        obtain ⟨m, hm⟩ : ∃ m, folds l = m := ⟨_, rfl⟩
        rw [hm] at CR FT
        clear et RA HR hm
        go_upto_region 9 with (first
          | (go_at_call 10; refine CR.out.mono ?_; rintro e w2 ⟨⟨m', r, q1, rfl, q2, _⟩ | ⟨_, q1, _⟩, q3⟩
             rotate_left
             · cases q1
             obtain rfl : m = m' := by simpa using q1))
        have P2 := Lib.hid q2.pairs
        have B2 : Hid (Below g w w2) := HB.out.trans (q3.mono hgq)
        obtain ⟨Ar, cr, rfl, mr, _⟩ := id q2.pairs
        obtain ⟨nr, hnr⟩ : ∃ n, m.length = n := ⟨_, rfl⟩
        have HNR := Lib.hid hnr
        rw [hnr] at P2 mr ⊢
        have mr : nr ≤ 9223372036854775807 := mr
        have HS2 := Lib.hid (HS.out.below B2.out)
        have hgw : g ≤ w2.heap.size := by have := B2.out.size; omega
        clear q1 q2 q3 CR hnr HB
        have HRis : Hid (∀ i (h : i + 1 < m.length), m[i].1 < m[i + 1].1) := fun i h => by
          have := List.pairwise_iff_getElem.1 FT.out.1 i (i + 1) (by simp [keys]; omega) (by simp [keys]; omega) (by omega)
          simpa [keys] using this
        have HMem : Hid (∀ i (h : i < m.length), 0 ≤ m[i].1 ∧ first l.reverse m[i].1 = some m[i].2) := fun i h => FT.out.2.1 _ (List.getElem_mem h)
        have HAll : Hid (∀ i (h : i < l.length), l[i].1 < 0 ∨ ∃ p ∈ m, p.1 = l[i].1) := fun i h => FT.out.2.2 _ (List.getElem_mem h)
        clear FT
        go_wp2
        go_loopw [9, 10, 11] (fun u9 u10 u11 wr2 => ∃ i : Nat, i ≤ nr ∧ u9 = .int .i64 i ∧ ∃ j, Hid (wr2 = w2.drewN j)) (fun u9 _ _ _ => nr - (intOf u9).toNat)
        case atStart => exact ⟨0, by omega, rfl, 0, rfl⟩
        case round =>
          obtain ⟨i, hi, rfl, j, HW⟩ := hrel
          by_cases hlt : i < nr
          · have hlm : i < m.length := by rw [HNR.out]; exact hlt
            obtain ⟨br, off, rfl, _, rowr⟩ := (pair_row P2.out).2 i hlm
            have hm2 := HMem.out i hlm
            have hris : 0 < i → ∃ p, m[i - 1]? = some p ∧ p.1 < m[i].1 := fun h0 => by
              obtain ⟨i', rfl⟩ : ∃ i', i = i' + 1 := ⟨i - 1, by omega⟩
              exact ⟨m[i'], by simp, HRis.out i' hlm⟩
            obtain ⟨⟨a, x⟩, hax⟩ : ∃ p, m[i] = p := ⟨_, rfl⟩
            rw [hax] at rowr hm2 hris
            have hm2 : 0 ≤ a ∧ first l.reverse a = some x := hm2
            obtain ⟨ha0, hfx⟩ := hm2
            have HFX := Lib.hid hfx
            have HRI := Lib.hid hris
            have c1 : ∀ q, (w2.drewN q).cell? ⟨br, off + i * 2, none⟩ = some (.int .i64 a) := fun q => rowr 0 _ rfl
            have c2 : ∀ q, (w2.drewN q).cell? ⟨br, off + i * 2 + 1, none⟩ = some (.int .i64 x) := fun q => rowr 1 _ rfl
            have C1 := Lib.hid c1; have C2 := Lib.hid c2
            clear hax rowr hfx hris c1 c2 hlm
            go_wp2
            go_loopw [11, 10] (fun u11 u10 wr3 => ∃ k : Nat, k ≤ n2 ∧ u11 = .int .i64 k ∧ ∃ jj : Int, u10 = .int .i64 jj ∧ Hid (Lastly l k a jj) ∧ ∃ q, Hid (wr3 = w2.drewN q)) (fun u11 _ _ => n2 - (intOf u11).toNat)
            case atStart => exact ⟨0, by omega, rfl, -1, rfl, Lastly.zero _ _, j, HW⟩
            case round =>
              clear HW
              obtain ⟨k, hk, rfl, jj, rfl, HL, q, HW⟩ := hrel
              by_cases hlt2 : k < n2
              · have hlen : k < l.length := by rw [HN2.out]; exact hlt2
                obtain ⟨bl, ol, rfl, _, rowl⟩ := (pair_row HS2.out).2 k hlen
                have hne := fun e => HL.out.none hlen e
                have heq := fun e => Lastly.next hlen (a := a) e
                obtain ⟨⟨b1, b2⟩, hb⟩ : ∃ p, l[k] = p := ⟨_, rfl⟩
                rw [hb] at rowl hne heq
                have d1 : wr.cell? ⟨br, off + i * 2, none⟩ = some (.int .i64 a) := by rw [HW.out]; exact C1.out q
                have d2 : wr.cell? ⟨bl, ol + k * 2, none⟩ = some (.int .i64 b1) := by rw [HW.out]; exact rowl 0 _ rfl
                have HNE := Lib.hid hne; have HEQ := Lib.hid heq
                clear hb rowl hlen hne heq
                have HEQ : Hid (b1 = a → Lastly l (k + 1) a k) := HEQ
                have HNE : Hid (¬ b1 = a → Lastly l (k + 1) a jj) := HNE
                by_cases he : b1 = a
                · have HE2 := Lib.hid (HEQ.out he)
                  clear HEQ HNE
                  subst he
                  go_wp2
                  go_quiet (fail)
                  go_wp2
                  go_roundw
                  case rel => exact ⟨k + 1, by omega, by go_num, _, rfl, HE2, q + nq, by rw [Hid, HW.out, World.drewN_drewN]⟩
                  case measure => simp [intOf]; omega
                · go_wp2
                  go_quiet (fail)
                  go_wp2
                  go_roundw
                  case rel => exact ⟨k + 1, by omega, by go_num, _, rfl, HNE.out he, q + nq, by rw [Hid, HW.out, World.drewN_drewN]⟩
                  case measure => simp [intOf]; omega
              · obtain rfl : n2 = k := by omega
                have hl2 := HL.out
                rw [← HN2.out] at hl2
                obtain ⟨y, rfl, hy, hyx⟩ := hl2.all HFX.out
                obtain ⟨bl, ol, rfl, _, rowl⟩ := (pair_row HS2.out).2 y hy
                obtain ⟨⟨b1, b2⟩, hb⟩ : ∃ p, l[y] = p := ⟨_, rfl⟩
                rw [hb] at rowl hyx
                have hyx : b2 = x := hyx
                subst hyx
                have hyn : y < n2 := by rw [← HN2.out]; exact hy
                have d1 : wr.cell? ⟨br, off + i * 2, none⟩ = some (.int .i64 a) := by rw [HW.out]; exact C1.out q
                have d3 : wr.cell? ⟨br, off + i * 2 + 1, none⟩ = some (.int .i64 b2) := by rw [HW.out]; exact C2.out q
                have d2 : wr.cell? ⟨bl, ol + y * 2 + 1, none⟩ = some (.int .i64 b2) := by rw [HW.out]; exact rowl 1 _ rfl
                have hy0 : decide ((y : Int) < 0) = false := decide_eq_false (by omega)
                have ha0' : decide (a < 0) = false := decide_eq_false (by omega)
                clear hb rowl hy hl2 HL
                by_cases hi0 : i = 0
                · have hI0 : decide (0 < (i : Int)) = false := decide_eq_false (by omega)
                  have hI4 : decide (0 < i) = false := decide_eq_false (by omega)
                  clear hi0
                  go_wp2
                  go_quiet (fail)
                  go_wp2
                  go_roundw
                  case rel => exact ⟨i + 1, by omega, by go_num, q + nq, by rw [Hid, HW.out, World.drewN_drewN]⟩
                  case measure => simp [intOf]; omega
                · obtain ⟨p, hp1, hp2⟩ := HRI.out (by omega)
                  have hlm : i - 1 < m.length := by rw [HNR.out]; omega
                  obtain ⟨br', off', he', _, rowq⟩ := (pair_row P2.out).2 (i - 1) hlm
                  simp only [Option.some.injEq, Addr.mk.injEq, and_true] at he'
                  obtain ⟨rfl, rfl⟩ := he'
                  have hpe : m[i - 1] = p := by rw [List.getElem?_eq_getElem hlm] at hp1; exact Option.some.inj hp1
                  rw [hpe] at rowq
                  obtain ⟨p1, p2⟩ := p
                  have hp2 : decide (a ≤ p1) = false := decide_eq_false (by have : p1 < a := hp2; omega)
                  have d4 := rowq 0 _ rfl
                  clear rowq
                  obtain ⟨i', hi'⟩ : ∃ i', i - 1 = i' := ⟨_, rfl⟩
                  rw [hi'] at d4
                  have d4 : wr.cell? ⟨br, off + i' * 2, none⟩ = some (.int .i64 p1) := by rw [HW.out]; exact d4
                  have hI0 : decide (0 < (i : Int)) = true := decide_eq_true (by omega)
                  have hI3 : (0 : Int) < (i : Int) := by omega
                  have hI4 : decide (0 < i) = true := decide_eq_true (by omega)
                  have hI1 : (i : Int) - 1 = (i' : Int) := by omega
                  have hI2 : i' < nr := by omega
                  clear hpe hp1 hlm hi' hi0
                  go_wp2
                  go_quiet (fail)
                  go_wp2
                  go_roundw
                  case rel => exact ⟨i + 1, by omega, by go_num, q + nq, by rw [Hid, HW.out, World.drewN_drewN]⟩
                  case measure => simp [intOf]; omega
          · obtain rfl : nr = i := by omega
            clear HMem HRis
            go_wp2
            go_loopw [12, 13, 14] (fun u12 u13 u14 wr2 => ∃ i : Nat, i ≤ n2 ∧ u12 = .int .i64 i ∧ ∃ j, Hid (wr2 = w2.drewN j)) (fun u12 _ _ _ => n2 - (intOf u12).toNat)
            case atStart => exact ⟨0, by omega, rfl, j, HW⟩
            case round =>
              clear HW
              obtain ⟨i, hi2, rfl, q, HW⟩ := hrel
              by_cases hlt2 : i < n2
              · have hlen : i < l.length := by rw [HN2.out]; exact hlt2
                obtain ⟨bl, ol, rfl, _, rowl⟩ := (pair_row HS2.out).2 i hlen
                have hall := HAll.out i hlen
                obtain ⟨⟨a, x⟩, hax⟩ : ∃ p, l[i] = p := ⟨_, rfl⟩
                rw [hax] at rowl hall
                have HA : Hid (a < 0 ∨ ∃ p ∈ m, p.1 = a) := hall
                have C1 : Hid (∀ q, (w2.drewN q).cell? ⟨bl, ol + i * 2, none⟩ = some (.int .i64 a)) := fun q => rowl 0 _ rfl
                have c0 : wr.cell? ⟨bl, ol + i * 2, none⟩ = some (.int .i64 a) := by rw [HW.out]; exact C1.out q
                clear hall rowl hax hlen
                go_wp2
                clear c0
                go_loopw [14, 13] (fun u14 u13 wr3 => ∃ k : Nat, k ≤ nr ∧ u14 = .int .i64 k ∧ ∃ d, u13 = .bool d ∧ Hid (d = true ↔ (a < 0 ∨ ∃ p ∈ m.take k, p.1 = a)) ∧ ∃ q, Hid (wr3 = w2.drewN q)) (fun u14 _ _ => nr - (intOf u14).toNat)
                case atStart => exact ⟨0, by omega, rfl, _, rfl, by simp [Hid], q, HW⟩
                case round =>
                  clear HW
                  obtain ⟨k, hk, rfl, d, rfl, HD, q, HW⟩ := hrel
                  by_cases hlt3 : k < nr
                  · have hlen : k < m.length := by rw [HNR.out]; exact hlt3
                    obtain ⟨br, off, rfl, _, rowr⟩ := (pair_row P2.out).2 k hlen
                    have et : m.take (k + 1) = m.take k ++ [m[k]] := List.take_succ_eq_append_getElem hlen
                    obtain ⟨⟨b1, b2⟩, hb⟩ : ∃ p, m[k] = p := ⟨_, rfl⟩
                    rw [hb] at rowr et
                    have d1 : wr.cell? ⟨bl, ol + i * 2, none⟩ = some (.int .i64 a) := by rw [HW.out]; exact C1.out q
                    have d2 : wr.cell? ⟨br, off + k * 2, none⟩ = some (.int .i64 b1) := by rw [HW.out]; exact rowr 0 _ rfl
                    have HN : Hid (∀ d', (d' = true ↔ d = true ∨ b1 = a) → (d' = true ↔ (a < 0 ∨ ∃ p ∈ m.take (k + 1), p.1 = a))) := fun d' h => by
                      rw [h, HD.out, et]
                      constructor
                      · rintro ((h | ⟨p, hp, e⟩) | h)
                        · exact .inl h
                        · exact .inr ⟨p, by simp [hp], e⟩
                        · exact .inr ⟨(b1, b2), by simp, h⟩
                      · rintro (h | ⟨p, hp, e⟩)
                        · exact .inl (.inl h)
                        · rcases List.mem_append.1 hp with hp | hp
                          · exact .inl (.inr ⟨p, hp, e⟩)
                          · simp at hp; subst hp; exact .inr e
                    clear hb et rowr hlen
                    cases d with
                    | true =>
                      go_wp2
                      go_quiet (fail)
                      go_wp2
                      go_roundw
                      case rel => exact ⟨k + 1, by omega, by go_num, true, rfl, HN.out true (by simp), q + nq, by rw [Hid, HW.out, World.drewN_drewN]⟩
                      case measure => simp [intOf]; omega
                    | false =>
                      go_wp2
                      go_quiet (fail)
                      go_wp2
                      go_roundw
                      case rel => exact ⟨k + 1, by omega, by go_num, _, rfl, HN.out (b1 == a) (by simp), q + nq, by rw [Hid, HW.out, World.drewN_drewN]⟩
                      case measure => simp [intOf]; omega
                  · obtain rfl : nr = k := by omega
                    have ed : d = true := by
                      rw [HD.out, List.take_of_length_le (by rw [HNR.out]; exact Nat.le_refl _)]
                      exact HA.out
                    subst ed
                    go_wp2
                    go_roundw
                    case rel => exact ⟨i + 1, by omega, by go_num, q, HW⟩
                    case measure => simp [intOf]; omega
              · obtain rfl : n2 = i := by omega
                go_wp2_with (first
                  | (go_at_call 9; refine (lives_any _).mono ?_; rintro e w8 ⟨rfl, hb8⟩))
                go_ret
                rw [HW.out] at hb8
                exact ⟨rfl, (B2.out.trans (drewN_below _ _ _)).trans (hb8.mono hgw)⟩

set_option maxRecDepth 100000 in
theorem walk {H : Type} {enc : TypeId × Value → H} {base : Nat} {spare : Nat → Bool} {held : Bool} {d0 d1 : DataW H} {p0 p1 : List MemPlace} {r : Reach} {b0 : Nat} (v0 v1 : Value) (w : World)
    (hv0 : Value.okWide Try.prog w r b0 22 v0) (t0 : DataW.Trod enc Try.prog w base spare held 22 v0 d0 p0)
    (hv1 : Value.okWide Try.prog w r b0 22 v1) (t1 : DataW.Trod enc Try.prog w base spare held 22 v1 d1 p1) :
    Calls Try.prog 6 #[v0, v1] w fun e w' => e = .returned (.bool true) ∧ Below w.heap.size w w' := by
  obtain ⟨kn, h1, h2⟩ := known_of hv0 t0
  obtain ⟨l, h3, h4⟩ := known_of hv1 t1
  exact walk_in h1 h2 h3 h4

end Rise
end Go.Proofs.Ytfmjcinhjbihoaa
