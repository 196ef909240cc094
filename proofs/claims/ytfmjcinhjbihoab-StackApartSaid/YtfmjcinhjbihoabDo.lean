import Derived.Test.YtfmjcinhjbihoabAsk
import Derived.Deep.QuietTactic
import Derived.BigQuiet
/- view.Do: a program over plain words -/
namespace Go.Proofs.Ytfmjcinhjbihoab
open Go.RowKit Go.Bas SorPlain Go.Sor IMap_ VIn VPlain MapI
namespace View

/- plain -/
/-- what was written is written into the words -/
def putW (words : List Int) (m : M) : List Int := m.foldl (fun ws p => ws.set p.1.toNat p.2) words
theorem putW_length (m : M) : ∀ words : List Int, (putW words m).length = words.length := by
  induction m with
  | nil => intro w; rfl
  | cons p r ih => intro w; simp only [putW, List.foldl_cons]; exact (ih _).trans (by simp)
theorem putW_next {m : M} {k : Nat} (h : k < m.length) (words : List Int) : putW words (m.take (k + 1)) = (putW words (m.take k)).set m[k].1.toNat m[k].2 := by
  unfold putW
  rw [List.take_succ_eq_append_getElem h, List.foldl_append]
  rfl

/-- what Do tells -/
def DoTold (base : Nat) (words : List Int) (R : (Int ⊕ M) × List Int) (e : Ending) (w' : World) : Prop :=
  (((∃ a, R.1 = .inl a) ∨ (∃ m, R.1 = .inr m ∧ ∃ p ∈ m, (words.length : Int) ≤ p.1)) ∧ e = .returned (.tuple #[.slice none 0 0, .slice none 0 0, .int .i64 3])) ∨
  (∃ m v q, R.1 = .inr m ∧ (∀ p ∈ m, p.1 < words.length) ∧ e = .returned (.tuple #[v, q, .int .i64 0]) ∧ TW w' base (putW words m) v ∧ Told w' base (need words R.2) q)

theorem run_made0 (w : World) : (Instr.makeMap 45 none).run Try.prog w = .ok (.map (some w.heap.size)) (w.alloc (.map #[] 0)) := by
  simp [Instr.makeMap, run_underlying Try.underlying45, asInt, Sem.run_bind, Result.andThen]

/-- what Do leaves -/
def DoOut (C : Nat → Prop) (words : List Int) (R : (Int ⊕ M) × List Int) (Φ : World → Prop) (w : World) (e : Ending) (w' : World) : Prop :=
  DoTold w.heap.size words R e w' ∧ Chg (fun k => w.heap.size ≤ k ∨ C k) w w' ∧ ∀ w3 : World, (∀ k, k < w'.heap.size → w3.heap[k]? = w'.heap[k]?) → Φ w3

set_option maxRecDepth 100000 in
set_option maxHeartbeats 4000000 in
theorem do_leaves {w : World} {sw : Value} {words : List Int} (h : Words w w.heap.size sw words) (hwi : WIn words) (hwn : words.length ≤ 1000) (pf : FuncId) (pcap : Array Value) (R : (Int ⊕ M) × List Int)
    (hrun : ∀ args w, (callFunc pf args).run Try.prog w = .ok (.enter pf args) w)
    (C : Nat → Prop) (hC : ∀ k, C k → k < w.heap.size) (Φ : World → Prop)
    (hprog : ∀ A : Ask, A.f = fW words → (∀ k, A.R k → blk sw k) → ∀ bv bm Q w', (∀ k, k < w.heap.size → Q k) → Below w.heap.size w w' → VWs A Q bv bm true [] [] w' → Calls Try.prog pf (#[.pointer (some ⟨bv, 0, none⟩)] ++ pcap) w' (Left A (fun k => k < w.heap.size) C Q bv bm R Φ w'))
    (hm : ∀ m, R.1 = .inr m → m.length ≤ 1000 ∧ ∀ p ∈ m, 0 ≤ p.1) (ha : ∀ a, R.1 = .inl a → 0 ≤ a) :
    Calls Try.prog 7 #[sw, .func (.func pf) #[] pcap] w (DoOut C words R Φ w) := by
  have hmf : ∀ (fn : Fn) (first cap : Array Value) (w : World), (Instr.makeFunc fn first cap).run Try.prog w = .ok (.func fn first cap) w := fun _ _ _ _ => rfl
  have hneq : ∀ w : World, (binOp BinOp.neq 34 (.func (.func pf) #[] pcap) .nilFunc).run Try.prog w = .ok (.bool true) w := fun _ => by kernel_rfl
  obtain ⟨A1, c1, rfl, m1, _⟩ := id h
  obtain ⟨n, hn⟩ : ∃ n, words.length = n := ⟨_, rfl⟩
  have HN := Lib.hid hn
  obtain ⟨g, hg⟩ : ∃ g, w.heap.size = g := ⟨_, rfl⟩
  obtain ⟨w1, hw1⟩ : ∃ w1, w.alloc (.map #[] 0) = w1 := ⟨_, rfl⟩
  have I1 := IMap.made w
  rw [hw1, hg] at I1
  have s1 : w1.heap.size = g + 1 := by rw [← hw1, ← hg]; simp
  have m1 : n ≤ 9223372036854775807 := by have := m1; unfold maxLen at this; omega
  have HGC : Hid (∀ e w', DoTold g words R e w' → Chg (fun k => g ≤ k ∨ C k) w w' → (∀ w3 : World, (∀ k, k < w'.heap.size → w3.heap[k]? = w'.heap[k]?) → Φ w3) → DoOut C words R Φ w e w') := fun e w' h1 h2 h3 => by
    subst hg; exact ⟨h1, h2, h3⟩
  rw [hg] at h hprog hC
  have hwn' := hwn
  rw [hn] at h hwn' hprog
  simp only [hn]
  obtain ⟨w2, hw2⟩ : ∃ w2, w1.alloc (.cells #[.slice A1 n c1, .map (some g), .slice none 0 0] 47) = w2 := ⟨_, rfl⟩
  have s2 : w2.heap.size = g + 2 := by rw [← hw2]; simp; omega
  have b2 : Below g w w2 := by rw [← hw2, ← hw1, ← hg]; exact ((Below.refl _ _).alloc (Nat.le_refl _) _).alloc (by simp) _
  have r2 : w2.heap[g + 1]? = some (.cells #[.slice A1 n c1, .map (some g), .slice none 0 0] 47 (0, 0)) := by rw [← hw2, ← s1]; exact new_row _ _ _
  have i2 : IW (.slice A1 n c1) words g (g + 1) g [] (fun k => k = g + 1 ∨ k = g ∨ (Value.slice none 0 0).ownBlock = some k) w2 :=
    ⟨h.below b2, by omega, Nat.le_refl _, by omega, .slice none 0 0, r2, by
      have e : (fun a : Int => if a ∈ keys (need words []) then some (1 : Int) else none) = (fun _ => none) := by funext a; simp [need, keys]
      exact (show IMap w1 g 0 (fun a : Int => if a ∈ keys (need words []) then some (1 : Int) else none) by rw [e]; exact I1).block (by rw [← hw2]; exact alloc_heap _ _ _ (by omega)), ⟨none, 0, rfl, by simpa [need, vals, flat] using World.ownsRow_nil _ _ _ _⟩, by simp [need, keys], by simp [need, keys], rfl⟩
  have AL := Lib.hid (all_any (A := askW (.slice A1 n c1) words hwn hwi g (g + 1) g) (P := fun k => k < g) i2
    (fun k hk => ⟨by omega, by simp [Value.ownBlock]; omega⟩) (by show g ≤ _; omega) pf pcap R hrun
    C hC Φ (fun bv bm Q w' hQ hb hv => hprog (askW (.slice A1 n c1) words hwn hwi g (g + 1) g) rfl (fun k h => And.left h) bv bm Q w' (fun k hk => hQ k hk) (b2.trans (hb.mono (by omega))) hv) (fun m hR => (hm m hR).1) ha)
  have H := Lib.hid h; have HM := Lib.hid hm; have B2 := Lib.hid b2; have HA := Lib.hid ha
  have hmk := run_made0 w
  rw [hw1, hg] at hmk
  clear h hprog hm ha hrun r2 i2 I1 b2 hw1 hC
  go_enter Try.func7, Try.ntmps7
  go_upto_region 5 with (first
    | (go_at_call 17; refine AL.out.mono ?_; rintro e w4 (⟨m, r, hR, rfl, ht, ⟨S', hI, hS⟩, hk, hin, hF⟩ | ⟨a, hR, rfl, _, hk, hF⟩)))
  · have hs4 := hk.size
    have C4 : Hid (Chg (fun k => g ≤ k ∨ C k) w w4) := ((Chg.of_below B2.out).mono (fun k _ h => .inl h)).trans (hk.mono (fun k _ h => h.elim (fun h => .inl (by omega)) .inr))
    obtain ⟨q, hq⟩ : ∃ q, w4.heap.size = q := ⟨_, rfl⟩
    have FIN : Hid (∀ e w', Below q w4 w' → DoTold g words R e w' → DoOut C words R Φ w e w') := fun e w' hb hd => by
      refine HGC.out e w' hd (C4.out.trans ((Chg.of_below hb).mono (fun k _ h => .inl (by have := C4.out.size; have := B2.out.size; omega)))) fun w3 h3 => hF w3 fun k hk => ?_
      rw [h3 k (by have := hb.size; omega), hb.block k (by omega)]
    have TP := Lib.hid ht.pairs
    obtain ⟨Ar, cr, rfl, mr, _⟩ := id ht.pairs
    obtain ⟨nm, hnm⟩ : ∃ k, m.length = k := ⟨_, rfl⟩
    have HNM := Lib.hid hnm
    have hmm := HM.out m hR
    have HM0 : Hid (∀ p ∈ m, 0 ≤ p.1) := hmm.2
    have hm1 : nm ≤ 1000 := by rw [← hnm]; exact hmm.1
    have HIN := Lib.hid hin
    obtain ⟨hw4, _, _, hpg, vq, hrow, _, hneed, _, _, _⟩ := hI
    have k2 : Hid (w4.cell? ⟨g + 1, 2, none⟩ = some vq) := by rw [Hid, cell_of_row _ _ _ _ _ _ hrow]; rfl
    have hgq : g + 1 < q := by rw [← hq]; exact (Array.getElem?_eq_some_iff.1 hrow).1
    have HNQ : Hid (∀ w', Below q w4 w' → Told w' g (need words R.2) vq) := fun w' hb => (hneed.low (by omega)).kept (fun j hj => hb.block j (by have := hneed.own_lt hj; omega))
    have HR := Lib.hid hR
    have HW4 : Hid (Words w4 g (.slice A1 n c1) words) := hw4
    rw [hq, hnm] at TP
    rw [hnm]
    clear hR ht hS hk hin hmm hrow hneed hnm hmk AL HM hF hw4 C4
    obtain ⟨w5, hw5⟩ : ∃ w5, w4.alloc (.cells #[] 3) = w5 := ⟨_, rfl⟩
    have T5 : Hid (TW w5 q [] (.slice (some ⟨q, 0, none⟩) 0 0)) := by have := TW.made w4; rw [hw5, hq] at this; exact this
    have s5 : w5.heap.size = q + 1 := by rw [← hw5, ← hq]; simp
    have B5 : Hid (Below q w4 w5) := by rw [← hw5, Hid, ← hq]; exact (Below.refl _ _).alloc (Nat.le_refl _) _
    go_upto_region 8 with (first
      | (at_builtin; refine wpList_addwords rfl _ _ rfl q [] (.slice (some ⟨q, 0, none⟩) 0 0) rfl T5.out (by simp) (by omega) g words _ _ _ rfl (HW4.out.below (B5.out.mono (by omega))) (by omega) ?_; intro v6 w6 t6 g6 o6
         have T6 : Hid (TW w6 q words v6) := t6
         have B6 : Hid (Below q w4 w6) := B5.out.trans ((Chg.grown (S := fun k => q ≤ k) g6 (fun k hk => by simp [Value.ownBlock] at hk; omega)).below (by omega) (fun k hk => hk))
         clear t6 g6 o6))
    obtain ⟨A6, c6, rfl, _⟩ := id T6.out
    rw [hn] at T6 ⊢
    have T6 : Hid (TW w6 q (putW words (m.take 0)) (.slice A6 n c6)) := T6
    clear hw5 T5 s5 B5
    go_wp2
    go_loopw [33] (fun u33 wr => ∃ k : Nat, k ≤ nm ∧ u33 = .int .i64 k ∧ Hid (TW wr q (putW words (m.take k)) (.slice A6 n c6)) ∧ Hid (Below q w4 wr) ∧ Hid (∀ p ∈ m.take k, p.1 < words.length)) (fun u33 _ => nm - (intOf u33).toNat)
    case atStart => exact ⟨0, by omega, rfl, T6, B6, fun p hp => by simp at hp⟩
    case round =>
      clear T6 B6
      obtain ⟨k, hk, rfl, HT, HB, HL⟩ := hrel
      by_cases hlt : k < nm
      · have hlen : k < m.length := by rw [HNM.out]; exact hlt
        obtain ⟨b, off, rfl, hbq, row⟩ := (pair_row (TP.out.below HB.out)).2 k hlen
        have hp0 := HM0.out _ (List.getElem_mem hlen)
        have hin := HIN.out _ (List.getElem_mem hlen)
        have hput := putW_next hlen words
        have hmem : m[k] ∈ m := List.getElem_mem hlen
        have htk : m.take (k + 1) = m.take k ++ [m[k]] := List.take_succ_eq_append_getElem hlen
        obtain ⟨⟨x, y⟩, hxy⟩ : ∃ p, m[k] = p := ⟨_, rfl⟩
        rw [hxy] at row hp0 hin hput hmem htk
        have HTK := Lib.hid htk
        have hp0 : 0 ≤ x := hp0
        have HROW : Hid (wr.rangeAt b (off + k * 2) [.int .i64 x, .int .i64 y]) := row
        have HPUT : Hid (putW words (m.take (k + 1)) = (putW words (m.take k)).set x.toNat y) := hput
        have HMEM := Lib.hid hmem
        obtain ⟨p, hp⟩ : ∃ p, wr.heap.size = p := ⟨_, rfl⟩
        have hqp : q ≤ p := by have := HB.out.size; omega
        obtain ⟨w7, hw7⟩ : ∃ w7, wr.alloc (.cells #[.int .i64 0, .int .i64 0] 52) = w7 := ⟨_, rfl⟩
        have hg7 : Hid (w7.heap[p]? = some (.cells #[.int .i64 0, .int .i64 0] 52 (0, 0))) := by rw [← hw7, ← hp]; exact new_row _ _ _
        clear row hput hmem hxy hin hlen htk
        go_upto_region 11 with (first
          | (refine wpList_load_mid rfl 52 _ rfl b (off + k * 2) (by first | rfl | simp) [.int .i64 x, .int .i64 y] _ HROW.out Try.underlying52 rfl pair_size ?_)
          | (refine wpList_store_row rfl 52 _ _ rfl p #[.int .i64 x, .int .i64 y] rfl rfl 52 #[.int .i64 0, .int .i64 0] hg7.out pair_size rfl (by simp [Value.oneCell']) ?_))
        obtain ⟨w8, hw8⟩ : ∃ w8, w7.setRow p #[.int .i64 x, .int .i64 y] = w8 := ⟨_, rfl⟩
        have k0 : w8.cell? ⟨p, 0, none⟩ = some (.int .i64 x) := by rw [← hw8]; exact setRow_cell hg7.out _ 0
        have k1 : w8.cell? ⟨p, 1, none⟩ = some (.int .i64 y) := by rw [← hw8]; exact setRow_cell hg7.out _ 1
        have b8 : Below p wr w8 := by rw [← hw8, ← hw7, ← hp]; exact setRow_below ((Below.refl _ _).alloc (Nat.le_refl _) _) (Nat.le_refl _) _
        rw [hw8]
        have B8 : Hid (Below q w4 w8) := HB.out.trans (b8.mono hqp)
        have T8 : Hid (TW w8 q (putW words (m.take k)) (.slice A6 n c6)) := HT.out.kept (fun j hj => b8.block j (by have := HT.out.own_lt hj; omega))
        clear hw8 hw7 hg7 b8 HB HT
        by_cases hxn : x < n
        · obtain ⟨ai, rfl⟩ : ∃ ai : Nat, x = ai := ⟨x.toNat, by omega⟩
          obtain ⟨A6', c6', e6, hown⟩ := id T8.out
          have hln : (putW words (m.take k)).length = n := by rw [putW_length, HN.out]
          rw [hln] at e6 hown
          simp only [Value.slice.injEq, true_and] at e6
          obtain ⟨rfl, rfl⟩ := e6
          have hA : ∃ g6, A6 = some ⟨g6, 0, none⟩ ∧ q ≤ g6 := by
            rcases hown.2 with ⟨h', _⟩ | ⟨g6, _, _, h', hq', _⟩
            · simp at h'; omega
            · simp at h'; exact ⟨g6, h'.1, hq'⟩
          obtain ⟨g6, rfl, hg6⟩ := hA
          have HO := Lib.hid hown
          have e0 : (putW words (m.take k)).map (Value.int .i64) = (putW words (m.take k)).map (Value.int .i64) := rfl
          have k6 : w8.cell? ⟨g6, ai, none⟩ = some (.int .i64 ((putW words (m.take k)).getD ai 0)) := by
            rw [hown.cellAt ai (by omega)]
            have : ai < (putW words (m.take k)).length := by omega
            simp [this]
          have f6 : w8.frozen? ⟨g6, ai, none⟩ = false := hown.frozenAt ai
          obtain ⟨z, hz⟩ : ∃ z, (putW words (m.take k)).getD ai 0 = z := ⟨_, rfl⟩
          rw [hz] at k6
          have fin : Hid (∀ w9, w9 = w8.setCell ⟨g6, ai, none⟩ (.int .i64 y) → TW w9 q (putW words (m.take (k + 1))) (.slice (some ⟨g6, 0, none⟩) n c6) ∧ Below q w4 w9) := by
            rintro w9 rfl
            obtain ⟨h1, h2⟩ := HO.out.stored ai (.int .i64 y)
            refine ⟨⟨some ⟨g6, 0, none⟩, c6, by rw [HPUT.out]; simp [hln], ?_⟩, B8.out.trans ((Chg.setCell (S := fun j => j = g6) _ _ _ rfl).below (by have := B8.out.size; omega) (fun j hj => by omega))⟩
            rw [HPUT.out]
            simpa [hln, List.map_set] using h1
          have HL2 : Hid (∀ p ∈ m.take (k + 1), p.1 < words.length) := by
            rw [Hid, HTK.out]
            intro p hp
            rcases List.mem_append.1 hp with hp | hp
            · exact HL.out p hp
            · simp at hp; subst hp; rw [HN.out]; exact hxn
          clear hown hln e0 hz T8 B8 HO
          go_wp2
          go_roundw
          case rel => exact ⟨k + 1, by omega, by go_num, (fin.out _ rfl).1, (fin.out _ rfl).2, HL2⟩
          case measure => simp [intOf]; omega
        · have fin : Hid (DoOut C words R Φ w (.returned (.tuple #[.slice none 0 0, .slice none 0 0, .int .i64 3])) w8) :=
            FIN.out _ _ B8.out (.inl ⟨.inr ⟨m, HR.out, _, HMEM.out, by rw [HN.out]; show (n : Int) ≤ x; omega⟩, rfl⟩)
          clear T8 B8
          go_wp2
          go_ret3
          exact fin.out
      · obtain rfl : nm = k := by omega
        have et : m.take nm = m := List.take_of_length_le (by rw [HNM.out]; exact Nat.le_refl _)
        have hall : ∀ p ∈ m, p.1 < words.length := by have := HL.out; rw [et] at this; exact this
        rw [et] at HT
        have k3 : wr.cell? ⟨g + 1, 2, none⟩ = some vq := by rw [HB.out.cell (by exact hgq)]; exact k2.out
        have fin : Hid (∀ j, DoOut C words R Φ w (.returned (.tuple #[.slice A6 n c6, vq, .int .i64 0])) (wr.drewN j)) := fun j => by
          have hb : Below q w4 (wr.drewN j) := HB.out.trans (drewN_below _ _ _)
          exact FIN.out _ _ hb (.inr ⟨m, _, vq, HR.out, hall, rfl, HT.out.low (by omega), HNQ.out _ hb⟩)
        clear et hall HT HB
        go_wp2
        go_quiet (fail)
        go_wp2
        go_ret3
        exact fin.out _
  · have hae : ¬ a = -1 := by have := HA.out a hR; omega
    have fin : Hid (DoOut C words R Φ w (.returned (.tuple #[.slice none 0 0, .slice none 0 0, .int .i64 3])) w4) :=
      HGC.out _ _ (.inl ⟨.inl ⟨a, hR⟩, rfl⟩) (((Chg.of_below B2.out).mono (fun k _ h => .inl h)).trans (hk.mono (fun k _ h => h.elim (fun h => .inl (by omega)) .inr))) hF
    clear hR hk hmk AL HM hF
    go_wp2
    go_ret3
    exact fin.out

theorem do_any {w : World} {sw : Value} {words : List Int} (h : Words w w.heap.size sw words) (hwi : WIn words) (hwn : words.length ≤ 1000) (pf : FuncId) (pcap : Array Value) (R : (Int ⊕ M) × List Int)
    (hrun : ∀ args w, (callFunc pf args).run Try.prog w = .ok (.enter pf args) w)
    (hprog : ∀ A : Ask, A.f = fW words → ∀ bv bm Q w', (∀ k, k < w.heap.size → Q k) → Below w.heap.size w w' → VWs A Q bv bm true [] [] w' → Calls Try.prog pf (#[.pointer (some ⟨bv, 0, none⟩)] ++ pcap) w' fun e w'' => Ran A Q bv bm R e w'' ∧ Kept Q w' w'')
    (hm : ∀ m, R.1 = .inr m → m.length ≤ 1000 ∧ ∀ p ∈ m, 0 ≤ p.1) (ha : ∀ a, R.1 = .inl a → 0 ≤ a) :
    Calls Try.prog 7 #[sw, .func (.func pf) #[] pcap] w fun e w' => DoTold w.heap.size words R e w' ∧ Below w.heap.size w w' :=
  (do_leaves h hwi hwn pf pcap R hrun (fun _ => False) (fun _ h => h.elim) (fun _ => True) (fun A hA _ bv bm Q w' hQ hb hv => (hprog A hA bv bm Q w' hQ hb hv).mono (fun _ _ h => Left.of_kept h)) hm ha).mono
    fun _ _ h => ⟨h.1, h.2.1.below (Nat.le_refl _) (fun k hk => hk.elim id False.elim)⟩

end View
end Go.Proofs.Ytfmjcinhjbihoab
