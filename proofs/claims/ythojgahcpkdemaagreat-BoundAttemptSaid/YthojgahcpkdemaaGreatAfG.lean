/- Lemmas of this seat's proofs, several texts laid together. -/
import Derived.Test.YthojgahcpkdemaaGreatAfE
import Derived.Lib.SliceRun
import Derived.Test.YthojgahcpkdemaaGreatAfC
set_option linter.unusedVariables false
set_option linter.unusedSimpArgs false
/- slices.DeleteFunc with what an attempt hands it: the locks that it holds are left out -/
namespace Go.Proofs.YthojgahcpkdemaaGreat
open Go.RowKit Go.Bas View VIn IMap_
open Go.ChangeShapes
namespace Att

/-- what the closure needs: the box of the attempt, the attempt, its locks -/
structure Pick (w : World) (c b g : Nat) (L : List Int) : Prop where
  box : w.heap[c]? = some (.cells #[.pointer (some ⟨b, 0, none⟩)] 36 (0, 0))
  row : ∃ X T cp, Row w b X T ∧ X.vl = .slice (some ⟨g, 0, none⟩) L.length cp
  lt : g < w.heap.size
  words : ∀ j, j < L.length → w.cell? ⟨g, j, none⟩ = some (.int .i64 (L.getD j 0))
theorem Pick.kept {w w' : World} {c b g : Nat} {L : List Int} (h : Pick w c b g L) (hk : ∀ k, k = c ∨ k = b ∨ k = g → w'.heap[k]? = w.heap[k]?) : Pick w' c b g L := by
  obtain ⟨X, T, cp, h1, h2⟩ := h.row
  exact ⟨(hk c (.inl rfl)).trans h.box, ⟨X, T, cp, (hk b (.inr (.inl rfl))).trans h1, h2⟩, by
    have e := hk g (.inr (.inr rfl))
    rw [Array.getElem?_eq_getElem h.lt] at e
    exact (Array.getElem?_eq_some_iff.1 e).1, fun j hj => by rw [← h.words j hj]; simp [World.cell?, hk g (.inr (.inr rfl))]⟩

set_option maxRecDepth 100000 in
theorem pick_any {w : World} {c b g : Nat} {L : List Int} (h : Pick w c b g L) (hn : L.length ≤ 10000) (x : Int) :
    Calls Tryz.prog 86 #[.int .i64 x, .pointer (some ⟨c, 0, none⟩)] w fun e w' => e = .returned (.bool (L.contains x)) ∧ w = w' := by
  obtain ⟨X, T, cp, h1, h2⟩ := h.row
  have g1 := h1.get
  have k0 : w.cell? ⟨c, 0, none⟩ = some (.pointer (some ⟨b, 0, none⟩)) := by rw [cell_of_row _ _ _ _ _ _ h.box]; rfl
  have CN := Tryz.slices_Contains_int g 0 L.length cp L x w (Nat.le_refl _) (by omega) (fun j hj => by rw [Nat.zero_add]; exact h.words j hj)
  rw [List.take_length] at CN
  obtain ⟨n, hnn⟩ : ∃ n, L.length = n := ⟨_, rfl⟩
  obtain ⟨r, hr⟩ : ∃ r, L.contains x = r := ⟨_, rfl⟩
  rw [hnn] at CN h2
  rw [hr] at CN ⊢
  have CNH := Lib.hid CN
  clear h h1 hr hnn CN hn
  go_enter Tryz.func86, Tryz.ntmps86
  go_wp2_with (first
    | (go_at_call 87; refine CNH.out.mono ?_; rintro e w2 ⟨rfl, rfl⟩))
  go_ret
  exact ⟨rfl, rfl⟩

/-- what IndexFunc tells -/
def IndexOut (l L : List Int) (w : World) (e : Ending) (w' : World) : Prop :=
  w = w' ∧ ((e = .returned (.int .i64 (-1)) ∧ ∀ x ∈ l, L.contains x = false) ∨ (∃ k : Nat, e = .returned (.int .i64 (k : Int)) ∧ k < l.length ∧ L.contains (l.getD k 0) = true ∧ ∀ x ∈ l.take k, L.contains x = false))

set_option maxRecDepth 100000 in
set_option maxHeartbeats 1000000 in
theorem index_any {w : World} {base gs n cap : Nat} {l : List Int} (h : TW w base l (.slice (some ⟨gs, 0, none⟩) n cap)) (hn : l.length ≤ 10000) {c b g : Nat} {L : List Int} (hP : Pick w c b g L) (hL : L.length ≤ 10000) :
    Calls Tryz.prog 101 #[.slice (some ⟨gs, 0, none⟩) n cap, .func (.func 86) #[] #[.pointer (some ⟨c, 0, none⟩)]] w (IndexOut l L w) := by
  have hrun := callFunc_run Tryz.func86 (by kernel_rfl) (by kernel_rfl)
  obtain rfl := h.len
  have PK := Lib.hid (fun x => pick_any hP hL x)
  obtain ⟨n, hnn⟩ : ∃ n, l.length = n := ⟨_, rfl⟩
  have HN := Lib.hid hnn
  have HT := Lib.hid h
  rw [hnn] at HT hn ⊢
  clear h hP hL hnn
  go_enter Tryz.func101, Tryz.ntmps101
  go_wp2
  go_loop [8] (fun u8 => ∃ k : Nat, k ≤ n ∧ u8 = .int .i64 k ∧ Hid (∀ x ∈ l.take k, L.contains x = false)) (fun u8 => n - (intOf u8).toNat)
  case atStart => exact ⟨0, by omega, rfl, fun x hx => by simp at hx⟩
  case round =>
    obtain ⟨k, hk, rfl, HA⟩ := hrel
    by_cases hlt : k < n
    · have hlen : k < l.length := by rw [HN.out]; exact hlt
      have kc := HT.out.cell hlen
      have hnx : l.take (k + 1) = l.take k ++ [l.getD k 0] := by rw [List.take_succ_eq_append_getElem hlen]; simp [List.getD_eq_getElem?_getD, hlen]
      obtain ⟨y, hy⟩ : ∃ y, l.getD k 0 = y := ⟨_, rfl⟩
      rw [hy] at kc hnx
      have HY := Lib.hid hy
      have HNX := Lib.hid hnx
      have PY := Lib.hid (PK.out y)
      obtain ⟨r, hr⟩ : ∃ r, L.contains y = r := ⟨_, rfl⟩
      have HR := Lib.hid hr
      rw [hr] at PY
      clear hy hnx hr hlen
      cases r with
      | true =>
        go_wp2_with (first
          | (go_at_call 86; refine PY.out.mono ?_; rintro e w2 ⟨rfl, rfl⟩))
        go_ret
        exact ⟨rfl, .inr ⟨k, rfl, by have := HN.out; omega, by rw [HY.out]; exact HR.out, HA.out⟩⟩
      | false =>
        have HA2 : Hid (∀ x ∈ l.take (k + 1), L.contains x = false) := fun x hx => by
          rw [HNX.out] at hx
          rcases List.mem_append.1 hx with hx | hx
          · exact HA.out x hx
          · rw [List.mem_singleton.1 hx]; exact HR.out
        go_wp2_with (first
          | (go_at_call 86; refine PY.out.mono ?_; rintro e w2 ⟨rfl, rfl⟩))
        go_round
        case rel => exact ⟨k + 1, by omega, by go_num, HA2⟩
        case measure => simp [intOf]; omega
    · obtain rfl : n = k := by omega
      have HA2 : Hid (∀ x ∈ l, L.contains x = false) := by have := HA.out; rwa [← HN.out, List.take_length] at this
      go_wp2
      go_ret
      exact ⟨rfl, .inl ⟨rfl, HA2.out⟩⟩

/-- those that are kept of the first j -/
def kept (l L : List Int) (j : Nat) : List Int := (l.take j).filter fun x => !L.contains x
theorem kept_next {l L : List Int} {j : Nat} (h : j < l.length) : kept l L (j + 1) = kept l L j ++ (if L.contains (l.getD j 0) = true then [] else [l.getD j 0]) := by
  unfold kept
  rw [List.take_succ_eq_append_getElem h, List.filter_append]
  have e : l.getD j 0 = l[j] := by simp [List.getD_eq_getElem?_getD, h]
  rw [e]
  congr 1
  rw [List.filter_cons]
  cases hc : L.contains l[j] <;> rfl
theorem kept_le (l L : List Int) (j : Nat) : (kept l L j).length ≤ j := by
  unfold kept
  have h1 := List.length_filter_le (fun x => !L.contains x) (l.take j)
  have h2 : (l.take j).length ≤ j := List.length_take_le _ _
  omega
theorem kept_first {l L : List Int} {k : Nat} (h : k < l.length) (h1 : L.contains (l.getD k 0) = true) (h2 : ∀ x ∈ l.take k, L.contains x = false) : kept l L (k + 1) = l.take k := by
  rw [kept_next h, if_pos h1, List.append_nil]
  unfold kept
  exact List.filter_eq_self.2 fun x hx => by rw [h2 x hx]; rfl
theorem TW.cut {w : World} {base g n cap i : Nat} {l : List Int} (h : TW w base l (.slice (some ⟨g, 0, none⟩) n cap)) (hi : i ≤ l.length) (h0 : 0 < l.length) : TW w base (l.take i) (.slice (some ⟨g, 0, none⟩) i cap) := by
  obtain ⟨rfl, hb, hg, cur, hc, h1, h2, h3, h4⟩ := tw_open h h0
  have e : (l.take i).length = i := by simp; omega
  refine ⟨some ⟨g, 0, none⟩, cap, by rw [e], by simp, .inr ⟨g, cap, cur, by rw [e], hb, hc, by omega, h2, h3, ?_⟩⟩
  rw [e, Nat.mul_one]
  have := congrArg (List.take i) h4
  rw [List.take_take, Nat.min_eq_left hi, ← List.map_take] at this
  exact this

theorem setCells_chg {b : Nat} : ∀ (vs : List Value) (o : Nat) (w : World), Chg (fun k => k = b) w (w.setCells b o vs)
  | [], o, w => Chg.refl _ _
  | v :: vs, o, w => (Chg.setCell (S := fun k => k = b) w ⟨b, o, none⟩ v rfl).trans (setCells_chg vs (o + 1) _)
theorem tw_zeros {base g cap n : Nat} : ∀ (m o : Nat) {w : World} {D : List Int}, TW w base D (.slice (some ⟨g, 0, none⟩) n cap) → ∃ D', TW (w.setCells g o (List.replicate m (.int .i64 0))) base D' (.slice (some ⟨g, 0, none⟩) n cap) ∧ D'.take o = D.take o ∧ D'.length = D.length
  | 0, o, w, D, h => ⟨D, h, rfl, rfl⟩
  | m + 1, o, w, D, h => by
    obtain ⟨D', h1, h2, h3⟩ := tw_zeros m (o + 1) (h.stored o 0)
    refine ⟨D', h1, ?_, by rw [h3, List.length_set]⟩
    have := congrArg (List.take o) h2
    rw [List.take_take, Nat.min_eq_left (by omega), List.take_take, Nat.min_eq_left (by omega), List.take_set_of_le (Nat.le_refl _)] at this
    exact this

def DelOut (base cap gs : Nat) (l L : List Int) (w : World) (e : Ending) (w' : World) : Prop :=
  e = .returned (.slice (some ⟨gs, 0, none⟩) (l.filter fun x => !L.contains x).length cap) ∧ TW w' base (l.filter fun x => !L.contains x) (.slice (some ⟨gs, 0, none⟩) (l.filter fun x => !L.contains x).length cap) ∧ Chg (fun k => k = gs) w w'

set_option maxRecDepth 100000 in
set_option maxHeartbeats 4000000 in
theorem delete_any {w : World} {base gs n cap : Nat} {l : List Int} (h : TW w base l (.slice (some ⟨gs, 0, none⟩) n cap)) (hn : l.length ≤ 10000) (h0 : 0 < l.length) {c b g : Nat} {L : List Int} (hP : Pick w c b g L) (hL : L.length ≤ 10000) (hne : gs ≠ c ∧ gs ≠ b ∧ gs ≠ g) :
    Calls Tryz.prog 85 #[.slice (some ⟨gs, 0, none⟩) n cap, .func (.func 86) #[] #[.pointer (some ⟨c, 0, none⟩)]] w (DelOut base cap gs l L w) := by
  have hrun := callFunc_run Tryz.func86 (by kernel_rfl) (by kernel_rfl)
  have IX := Lib.hid (index_any h hn hP hL)
  obtain ⟨rfl, -, -, -, -, hcap, -, -, -⟩ := tw_open h h0
  have PK := Lib.hid (fun (w' : World) (hc : Chg (fun k => k = gs) w w') x => pick_any (hP.kept (fun k hk => hc.block k (by
      obtain ⟨X, T, cp, h1, h2⟩ := hP.row
      rcases hk with rfl | rfl | rfl
      · exact (Array.getElem?_eq_some_iff.1 hP.box).1
      · exact h1.lt
      · exact hP.lt) (by rcases hk with rfl | rfl | rfl <;> (intro e; omega)))) hL x)
  obtain ⟨n, hnn⟩ : ∃ n, l.length = n := ⟨_, rfl⟩
  have HN := Lib.hid hnn
  have HT := Lib.hid h
  rw [hnn] at HT IX hn h0 hcap ⊢
  clear h hP hL hnn
  go_enter Tryz.func85, Tryz.ntmps85
  go_wp2_with (first
    | (go_at_call 101; refine IX.out.mono ?_; rintro e w2 ⟨rfl, (⟨rfl, ha⟩ | ⟨k, rfl, hk, hc, ha⟩)⟩
       rotate_left
       have hkn : k < n := by have := HN.out; omega
       have hkb : ((k : Int) == -1) = false := by rw [beq_eq_false_iff_ne]; omega))
  rotate_left
  · have FIN : Hid (DelOut base cap gs l L w (.returned (.slice (some ⟨gs, 0, none⟩) n cap)) w) := by
      have e : l.filter (fun x => !L.contains x) = l := List.filter_eq_self.2 fun x hx => by rw [ha x hx]; rfl
      unfold DelOut
      rw [Hid, e, HN.out]
      exact ⟨rfl, HT.out, Chg.refl _ _⟩
    go_ret
    exact FIN.out
  · have T0 : Hid (l.take k = kept l L (k + 1)) := (kept_first hk hc ha).symm
    have C0 : Hid (Chg (fun k => k = gs) w w) := Chg.refl _ _
    have G0 : Hid (∀ m, k + 1 ≤ m → l.getD m 0 = l.getD m 0) := fun _ _ => rfl
    clear ha hc hk IX hkb
    go_loopw [5, 6] (fun u5 u6 wr => ∃ (i j : Nat) (D : List Int), i < j ∧ j ≤ n ∧ u5 = .int .i64 i ∧ u6 = .int .i64 j ∧ Hid (D.length = n) ∧ Hid (D.take i = kept l L j) ∧ Hid (∀ m, j ≤ m → D.getD m 0 = l.getD m 0) ∧ Hid (TW wr base D (.slice (some ⟨gs, 0, none⟩) n cap)) ∧ Hid (Chg (fun k => k = gs) w wr)) (fun _ u6 _ => n - (intOf u6).toNat)
    case atStart => exact ⟨k, k + 1, l, by omega, by omega, rfl, by go_num, HN, T0, G0, HT, C0⟩
    case round =>
      clear HT T0 C0 G0
      obtain ⟨i, j, D, hij, hj, rfl, rfl, HD, HK, HG, HT, HC⟩ := hrel
      by_cases hlt : j < n
      · have kc := HT.out.cell (k := j) (by rw [HD.out]; exact hlt)
        rw [HG.out j (Nat.le_refl _)] at kc
        have hnx := kept_next (L := L) (show j < l.length by rw [HN.out]; exact hlt)
        obtain ⟨y, hy⟩ : ∃ y, l.getD j 0 = y := ⟨_, rfl⟩
        rw [hy] at kc hnx
        have HNX := Lib.hid hnx
        have PY := Lib.hid (PK.out wr HC.out y)
        obtain ⟨r, hr⟩ : ∃ r, L.contains y = r := ⟨_, rfl⟩
        have HR := Lib.hid hr
        rw [hr] at PY
        have ki := HT.out.cell (k := i) (by rw [HD.out]; omega)
        have fi := HT.out.frozen i
        obtain ⟨z, hz⟩ : ∃ z, D.getD i 0 = z := ⟨_, rfl⟩
        rw [hz] at ki
        clear hy hnx hr hz
        cases r with
        | true =>
          have HK2 : Hid (D.take i = kept l L (j + 1)) := by rw [Hid, HNX.out, if_pos HR.out, List.append_nil]; exact HK.out
          have HG2 : Hid (∀ m, j + 1 ≤ m → D.getD m 0 = l.getD m 0) := fun m hm => HG.out m (by omega)
          clear ki fi
          go_wp2_with (first
            | (go_at_call 86; refine PY.out.mono ?_; rintro e w2 ⟨rfl, rfl⟩))
          go_roundw
          case rel => exact ⟨i, j + 1, D, by omega, by omega, rfl, by go_num, HD, HK2, HG2, HT, HC⟩
          case measure => simp [intOf]; omega
        | false =>
          have HD2 : Hid ((D.set i y).length = n) := by rw [Hid, List.length_set]; exact HD.out
          have HK2 : Hid ((D.set i y).take (i + 1) = kept l L (j + 1)) := by
            rw [Hid, HNX.out, if_neg (by rw [HR.out]; simp), ← HK.out, List.take_succ_eq_append_getElem (by rw [List.length_set, HD.out]; omega), List.take_set_of_le (Nat.le_refl _)]
            simp
          have HG2 : Hid (∀ m, j + 1 ≤ m → (D.set i y).getD m 0 = l.getD m 0) := fun m hm => by
            rw [← HG.out m (by omega), List.getD_eq_getElem?_getD, List.getElem?_set_ne (by omega), ← List.getD_eq_getElem?_getD]
          have HT2 : Hid (TW (wr.setCell ⟨gs, i, none⟩ (.int .i64 y)) base (D.set i y) (.slice (some ⟨gs, 0, none⟩) n cap)) := HT.out.stored i y
          have HC2 : Hid (Chg (fun k => k = gs) w (wr.setCell ⟨gs, i, none⟩ (.int .i64 y))) := HC.out.trans (Chg.setCell _ _ _ rfl)
          go_wp2_with (first
            | (go_at_call 86; refine PY.out.mono ?_; rintro e w2 ⟨rfl, rfl⟩))
          go_roundw
          case rel => exact ⟨i + 1, j + 1, D.set i y, by omega, by omega, by go_num, by go_num, HD2, HK2, HG2, HT2, HC2⟩
          case measure => simp [intOf]; omega
      · obtain rfl : n = j := by omega
        obtain ⟨W2, hW2⟩ : ∃ W2, wr.setCells gs i (List.replicate (n - i) (.int .i64 0)) = W2 := ⟨_, rfl⟩
        have CL := fun ty => Lib.run_clear_slice (P := Tryz.prog) wr 25 3 ty (.int .i64 0) Tryz.underlying25 (fun _ => rfl) rfl rfl gs i (n - i) (cap - i) (by omega) (fun m hm => by rw [HT.out.cell (k := i + m) (by rw [HD.out]; omega)]; rfl) (fun m _ => HT.out.frozen (i + m))
        rw [hW2] at CL
        have EK : Hid (D.take i = l.filter fun x => !L.contains x) := by rw [Hid, HK.out]; unfold kept; rw [← HN.out, List.take_length]
        have EI : Hid ((l.filter fun x => !L.contains x).length = i) := by rw [Hid, ← EK.out, List.length_take, HD.out]; omega
        have FIN : Hid (DelOut base cap gs l L w (.returned (.slice (some ⟨gs, 0, none⟩) i cap)) W2) := by
          unfold DelOut
          obtain ⟨D', t1, t2, t3⟩ := tw_zeros (n - i) i HT.out
          rw [hW2] at t1
          refine ⟨by rw [EI.out], ?_, HC.out.trans (by rw [← hW2]; exact setCells_chg _ _ _)⟩
          have := TW.cut (i := i) t1 (by rw [t3, HD.out]; omega) (by rw [t3, HD.out]; omega)
          rw [t2, EK.out] at this
          rw [EI.out]
          exact this
        have hin : i ≤ cap := by omega
        clear HK HG HT HC HD hW2 EK EI
        go_wp2
        go_ret
        exact FIN.out

end Att
end Go.Proofs.YthojgahcpkdemaaGreat

/- an attempt lets the clock go on -/
namespace Go.Proofs.YthojgahcpkdemaaGreat
open Go.RowKit Go.Bas View VIn IMap_
open Go.ChangeShapes
open Go.Proofs.YthojgahcpkdemaaGreatW.PrintLast
namespace Att

/-- what lets the clock go on leaves -/
def BumpsOut (w : World) (b a g : Nat) (X : AV) (T : AT) (E : Env) (W : List Int) (c : Int) (e : Ending) (w' : World) : Prop :=
  e = .returned (.tuple #[]) ∧ (∃ X', Row w' b X' (bumps E T W).1 ∧ ((X' = X ∧ (bumps E T W).1.checks = T.checks) ∨ ∃ v, X' = { X with vc := v } ∧ TW w' w.heap.size (bumps E T W).1.checks v)) ∧ Ar w' a g (bumps E T W).2 (c + cnt W 1) ∧ Chg (fun k => k = b ∨ k = a ∨ k = g) w w'

set_option maxRecDepth 100000 in
set_option maxHeartbeats 4000000 in
theorem bumps_any {w : World} {b : Nat} {X : AV} {T : AT} {a g : Nat} {W : List Int} {c : Int} (H : Row w b X T) (hA : Ar w a g W c) (hc : 0 ≤ c ∧ c < 4611686018427387904) (hne : b ≠ a ∧ b ≠ g) (run : M → Int × M) (fine : 1 ≤ X.c.stripes ∧ X.c.stripes ≤ 1048576) (hclk : X.c.clock ≤ 9223372036854775807)
    (hW : ∀ k, IMap_.In64 (ld W k)) {vA : Option Addr} {vc : Nat} (hv : X.vh = .slice vA T.holds.length vc)
    {bR : Nat} (hP : View.Told w bR T.reads X.vr) (hRa : ∀ k, X.vr.ownBlock = some k → k ≠ a ∧ k ≠ g ∧ k ≠ b) (hPI : PIn T.reads) (hrl : T.reads.length ≤ 10000) (hr0 : T.reads ≠ [])
    {base : Nat} (hL : TW w base T.locks X.vl) (hLl : T.locks.length ≤ 10000) (hL0 : 0 < T.locks.length) (hLa : ∀ k, X.vl.ownBlock = some k → k ≠ a ∧ k ≠ g ∧ k ≠ b) :
    Calls Tryz.prog 69 #[.pointer (some ⟨b, 0, none⟩), .pointer (some ⟨a, 0, none⟩)] w (BumpsOut w b a g X T (env X.c X.a run) W c) := by
  have hbl := H.lt
  have hal := hA.lt
  obtain ⟨B, hB⟩ : ∃ B, w.heap.size = B := ⟨_, rfl⟩
  obtain ⟨w1, hw1⟩ : ∃ w1, w.alloc (.cells #[.pointer (some ⟨b, 0, none⟩)] 36) = w1 := ⟨_, rfl⟩
  have s1 : w1.heap.size = B + 1 := by rw [← hw1, ← hB]; simp
  have o1 : w1.heap[B]? = some (.cells #[.pointer (some ⟨b, 0, none⟩)] 36 (0, 0)) := by rw [← hw1, ← hB]; exact new_row _ _ _
  have k1 : w1.cell? ⟨B, 0, none⟩ = some (.pointer (some ⟨b, 0, none⟩)) := by rw [cell_of_row _ _ _ _ _ _ o1]; rfl
  have b1 : Below B w w1 := by rw [← hw1, ← hB]; exact (Below.refl _ _).alloc (Nat.le_refl _) _
  have HO := Lib.hid o1
  have HB1 := Lib.hid b1
  have R1 : Row w1 b X T := H.keep (b1.block b (by omega))
  have A1 : Ar w1 a g W c := hA.below (by rw [hB]; exact b1)
  have HR1 := Lib.hid R1
  have HA1 := Lib.hid A1
  have BU : Hid (∀ w2, Ar w2 a g W c → Calls Tryz.prog 84 #[.pointer (some ⟨a, 0, none⟩), .int .i64 1, .int .i64 X.c.clock] w2 _) := fun w2 h2 => bump_any h2 hc 1 X.c.clock (hW 1) hclk
  obtain ⟨u, hu⟩ : ∃ u, bumpE W 1 X.c.clock = u := ⟨_, rfl⟩
  obtain ⟨x, hx⟩ : ∃ x, bumpV W 1 X.c.clock = x := ⟨_, rfl⟩
  obtain ⟨W', hW'⟩ : ∃ W', bumpW W 1 X.c.clock = W' := ⟨_, rfl⟩
  rw [hu, hx, hW'] at BU
  obtain ⟨T1, hT1⟩ : ∃ T1 : AT, { T with stamp := x } = T1 := ⟨_, rfl⟩
  have eB : bumps (env X.c X.a run) T W = if u ≠ 0 then (giveUp T1 3, W') else (next { T1 with checks := (locksOf (env X.c X.a run) T.reads).filter fun y => !T.locks.contains y } 7 ((locksOf (env X.c X.a run) T.reads).filter fun y => !T.locks.contains y).length, W') := by
    unfold bumps; show (if bumpE W 1 X.c.clock ≠ 0 then _ else _) = _; rw [hu]
    show (if u ≠ 0 then (giveUp { T with stamp := bumpV W 1 X.c.clock } 3, bumpW W 1 X.c.clock) else (next { T with stamp := bumpV W 1 X.c.clock, checks := _ } 7 _, bumpW W 1 X.c.clock)) = _
    rw [hx, hW', ← hT1]
  have RG : Hid (w1.rangeAt b 0 (Lay.lay X.c X.a).toList) := row_range R1 0 _ (att_lay X T)
  have lsz : (Tryz.prog.info? 29).map (·.size) = some (Lay.lay X.c X.a).toList.length := Lay.lay_size X.c X.a
  have HHB := Lib.hid hB
  have EB := Lib.hid eB
  have HP := Lib.hid hP
  have HLT := Lib.hid hL
  have HPI := Lib.hid hPI
  have HT1 := Lib.hid hT1
  have HLA := Lib.hid hLa
  have HRA := Lib.hid hRa
  have HV := Lib.hid hv
  have HR0 := Lib.hid hr0
  clear H hA R1 A1 o1 hu hx hW' eB hT1 hP hPI hL b1 hLa hr0 hRa hv
  go_enter Tryz.func69, Tryz.ntmps69
  go_upto_region 2 with (first
    | (refine wpList_load_mid rfl 29 _ rfl b 0 rfl (Lay.lay X.c X.a).toList _ RG.out Tryz.underlying29 rfl lsz ?_)
    | (go_at_call 20; refine (Lay.config_any X.c X.a _).mono ?_; rintro e w2 ⟨rfl, hb2⟩
       have A2 : Hid (Ar w2 a g W c) := HA1.out.below hb2
       have B2 := Lib.hid hb2
       clear hb2)
    | (go_at_call 84; refine (BU.out _ A2.out).mono ?_; rintro e w3 ⟨rfl, ha3, hc3⟩))
  have hBa : B ≠ a ∧ B ≠ g ∧ B ≠ b := by omega
  have R3' : Row w3 b X T := (HR1.out.keep (B2.out.block b HR1.out.lt)).keep (hc3.block b (by have := B2.out.size; have := HR1.out.lt; omega) (fun h => h.elim hne.1 hne.2))
  have o3 : w3.heap[B]? = some (.cells #[.pointer (some ⟨b, 0, none⟩)] 36 (0, 0)) := by
    rw [hc3.block B (by have := B2.out.size; omega) (fun h => h.elim hBa.1 hBa.2.1), B2.out.block B (by omega)]; exact HO.out
  have j3 : w3.cell? ⟨B, 0, none⟩ = some (.pointer (some ⟨b, 0, none⟩)) := by rw [cell_of_row _ _ _ _ _ _ o3]; rfl
  have q1 := Row.get R3'
  have q2 := Row.set R3'
  have q3 := Row.free R3'
  have HR3 := Lib.hid R3'
  obtain ⟨w4, hw4⟩ : ∃ w4, w3.setRow b (attRow X T1) = w4 := ⟨_, rfl⟩
  have R4 : Row w4 b X T1 := by rw [← hw4]; exact R3'.now
  have o4 : w4.heap[B]? = some (.cells #[.pointer (some ⟨b, 0, none⟩)] 36 (0, 0)) := by rw [← hw4, setRow_other _ _ _ _ hBa.2.2]; exact o3
  have s34 : w4.heap.size = w3.heap.size := by rw [← hw4, Bas.setRow_size]
  have A4 : Hid (Ar w4 a g W' (c + cnt W 1)) := by rw [← hw4]; exact ha3.after (Row.chg _) hne
  have C4 : Hid (Chg (fun k => k = b ∨ k = a ∨ k = g) w w4) := by
    rw [← hw4]
    exact (((Chg.of_below HB1.out).trans ((Chg.of_below B2.out).mono (fun k _ h => by omega))).mono (T := fun k => B ≤ k ∨ k = b ∨ k = a ∨ k = g) (fun k _ h => .inl h) |>.trans (hc3.mono (fun _ _ h => .inr (.inr h))) |>.trans ((Row.chg _).mono (fun _ _ h => .inr (.inl h)))).mono (fun k hk h => h.elim (fun h => by omega) id)
  have hs4 : B + 1 ≤ w4.heap.size := by have := B2.out.size; have := hc3.size; omega
  have e4 : attRow X { T with stamp := x } = attRow X T1 := by rw [HT1.out]
  have k4 : w4.cell? ⟨B, 0, none⟩ = some (.pointer (some ⟨b, 0, none⟩)) := by rw [cell_of_row _ _ _ _ _ _ o4]; rfl
  have HR4 := Lib.hid R4
  have HO4 := Lib.hid o4
  have BK : Hid (∀ k, k < B → k ≠ a → k ≠ g → k ≠ b → w4.heap[k]? = w.heap[k]?) := fun k h1 h2 h3 h4 => C4.out.block k (by omega) (by rintro (h | h | h) <;> omega)
  have S34 := Lib.hid s34
  clear R3' o3 ha3 hc3 R4 o4 s34 k1 RG
  by_cases hu0 : u = 0
  · subst hu0
    have EB0 : Hid (bumps (env X.c X.a run) T W = (next { T1 with checks := (locksOf (env X.c X.a run) T.reads).filter fun y => !T.locks.contains y } 7 ((locksOf (env X.c X.a run) T.reads).filter fun y => !T.locks.contains y).length, W')) := by rw [Hid, EB.out, if_neg (by simp)]
    clear EB
    go_upto_region 5 with fail
    clear j3 q1 q2 q3 hw4 e4 HR3 BU
    have hmf : ∀ (fn : Fn) (first cap : Array Value) (w : World), (Instr.makeFunc fn first cap).run Tryz.prog w = .ok (.func fn first cap) w := fun _ _ _ _ => rfl
    have P4 : Hid (View.Told w4 bR T.reads X.vr) := HP.out.kept fun k hk => by have := HRA.out k hk; exact BK.out k (by have := HP.out.own_lt hk; omega) this.1 this.2.1 this.2.2
    have L4 : Hid (TW w4 base T.locks X.vl) := HLT.out.kept fun k hk => by have := HLA.out k hk; exact BK.out k (by have := HLT.out.own_lt hk; omega) this.1 this.2.1 this.2.2
    have hvl : ∃ gl cl, X.vl = .slice (some ⟨gl, 0, none⟩) T.locks.length cl ∧ gl < B ∧ gl ≠ b := by
      obtain ⟨A0, c0, e0⟩ := tw_slice HLT.out
      obtain ⟨gl, rfl, -, -, hlt⟩ := (by have := HLT.out; rw [e0] at this; exact this : TW w base T.locks (.slice A0 T.locks.length c0)).shape hL0
      exact ⟨gl, c0, e0, by rw [← HHB.out]; exact hlt, (HLA.out gl (by rw [e0]; rfl)).2.2⟩
    obtain ⟨L5, hL5⟩ : ∃ L5, locksOf (env X.c X.a run) T.reads = L5 := ⟨_, rfl⟩
    have h05 : 0 < L5.length := by
      rw [← hL5]
      obtain ⟨p, r, e⟩ := List.exists_cons_of_ne_nil HR0.out
      exact List.length_pos_of_mem (mem_locksOf.2 ⟨p, by rw [e]; simp, rfl⟩)
    have h15 : L5.length ≤ 10000 := by
      rw [← hL5]
      unfold locksOf
      exact Nat.le_trans (rise_len _) (by rw [List.length_map]; exact hrl)
    have LO : Hid (∀ w5, Row w5 b X T1 → View.Told w5 bR T.reads X.vr → Calls Tryz.prog 80 #[.pointer (some ⟨b, 0, none⟩), X.vr] w5 fun e w' => ∃ v, e = .returned v ∧ TW w' w5.heap.size L5 v ∧ Below w5.heap.size w5 w') := fun w5 h5 h6 => by
      rw [← hL5]; exact locksOf_any h5 run fine h6.pairs HPI.out hrl
    rw [hL5] at EB0
    have R4 := HR4.out
    obtain ⟨D, hD⟩ : ∃ D, (L5.filter fun y => !T.locks.contains y) = D := ⟨_, rfl⟩
    rw [hD] at EB0
    have HD := Lib.hid hD
    obtain ⟨q, hq⟩ : ∃ q, w4.heap.size = q := ⟨_, rfl⟩
    have HQ := Lib.hid hq
    have hbq : b < q := by omega
    have hBq : B < q := by omega
    clear hL5 hD hq
    refine start_ (n := 12) (S := fun w' => w'.cell? ⟨B, 0, none⟩ = some (.pointer (some ⟨b, 0, none⟩)) ∧ Row w' b X T1) (ds := [11]) #[false, false, false, false, false, false, false, false, false, false, false, false] (by kernel_rfl) rfl rfl ⟨k4, R4⟩ (fun hHeld => ?_)
    refine take_ (i := 0) (N := (some 25)) (v := ?_) (a' := ?_) #[true, false, false, false, false, false, false, false, false, false, false, false] rfl rfl (by kernel_rfl) (fun _ _ _ h => h) (Or.inl ⟨by rfl, ?_⟩) hHeld ?_ ?_
    rotate_left
    · rintro w' ⟨s0, s1⟩
      go_simp
      with_reducible rfl
    rotate_left
    · simp only [Act.put, List.setIfInBounds_toArray, List.set_cons_zero, List.set_cons_succ, i64_w, i32_w]
      rfl
    refine take_ (i := 1) (N := (some 26)) (v := ?_) (a' := ?_) #[true, true, false, false, false, false, false, false, false, false, false, false] rfl rfl (by kernel_rfl) (fun _ _ _ h => h) (Or.inl ⟨by rfl, ?_⟩) hHeld ?_ ?_
    rotate_left
    · rintro w' ⟨s0, s1⟩
      go_simp
      with_reducible rfl
    rotate_left
    · simp only [Act.put, List.setIfInBounds_toArray, List.set_cons_zero, List.set_cons_succ, i64_w, i32_w]
      rfl
    refine take_ (i := 2) (N := (some 27)) (v := ?_) (a' := ?_) #[true, true, true, false, false, false, false, false, false, false, false, false] rfl rfl (by kernel_rfl) (fun _ _ _ h => h) (Or.inl ⟨by rfl, ?_⟩) hHeld ?_ ?_
    rotate_left
    · rintro w' ⟨s0, s1⟩
      go_simp
      with_reducible rfl
    rotate_left
    · simp only [Act.put, List.setIfInBounds_toArray, List.set_cons_zero, List.set_cons_succ, i64_w, i32_w]
      rfl
    refine pure_ (i := 3) (N := (some 28)) (v := ?_) (a' := ?_) #[true, true, true, true, false, false, false, false, false, false, false, false] rfl rfl (by kernel_rfl) (fun _ _ _ h => h) (Or.inl ⟨by rfl, ?_⟩) ?_ ?_
    rotate_left
    · intro w'
      go_simp
      with_reducible rfl
    rotate_left
    · simp only [Act.put, List.setIfInBounds_toArray, List.set_cons_zero, List.set_cons_succ, i64_w, i32_w]
      rfl
    refine pure_ (i := 4) (N := (some 29)) (v := ?_) (a' := ?_) #[true, true, true, true, true, false, false, false, false, false, false, false] rfl rfl (by kernel_rfl) (fun _ _ _ h => h) (Or.inl ⟨by rfl, ?_⟩) ?_ ?_
    rotate_left
    · intro w'
      go_simp
      with_reducible rfl
    rotate_left
    · simp only [Act.put, List.setIfInBounds_toArray, List.set_cons_zero, List.set_cons_succ, i64_w, i32_w]
      rfl
    refine take_ (i := 5) (N := (some 30)) (v := ?_) (a' := ?_) #[true, true, true, true, true, true, false, false, false, false, false, false] rfl rfl (by kernel_rfl) (fun _ _ _ h => h) (Or.inl ⟨by rfl, ?_⟩) hHeld ?_ ?_
    rotate_left
    · rintro w' ⟨s0, s1⟩
      have q1 := Row.get s1
      go_simp
      with_reducible rfl
    rotate_left
    · simp only [Act.put, List.setIfInBounds_toArray, List.set_cons_zero, List.set_cons_succ, i64_w, i32_w]
      rfl
    refine pure_ (i := 7) (N := (some 32)) (v := ?_) (a' := ?_) #[true, true, true, true, true, true, false, true, false, false, false, false] rfl rfl (by kernel_rfl) (fun _ _ _ h => h) (Or.inl ⟨by rfl, ?_⟩) ?_ ?_
    rotate_left
    · intro w'
      go_simp
      with_reducible rfl
    rotate_left
    · simp only [Act.put, List.setIfInBounds_toArray, List.set_cons_zero, List.set_cons_succ, i64_w, i32_w]
      rfl
    refine one_ (i := 6) (N := (some 31)) #[true, true, true, true, true, true, true, true, false, false, false, false] rfl rfl (by kernel_rfl) (by decide) (fun K hK => ?_)
    refine goes_ Tryz.func80 (by kernel_rfl) rfl #[.pointer (some ⟨b, 0, none⟩), X.vr] (by rfl) rfl rfl (by first | rfl | (simp [Act.eval]; done) | (go_simp; done)) ?_
    refine (LO.out w4.drew R4 P4.out).mono ?_
    rintro e w5 ⟨v5, rfl, t5, hb5⟩
    have b45 : Below q w4 w5 := (show Below q w4 w4.drew from (Below.refl _ _).drew).trans (HQ.out ▸ hb5)
    have k5 : w5.cell? ⟨B, 0, none⟩ = some (.pointer (some ⟨b, 0, none⟩)) := by rw [b45.cell (p := ⟨B, 0, none⟩) hBq]; exact k4
    have R5 : Row w5 b X T1 := R4.keep (b45.block b hbq)
    have T5 : Hid (TW w5 q L5 v5) := HQ.out ▸ t5
    have B45 := Lib.hid b45
    obtain ⟨A5, c5, rfl⟩ := tw_slice T5.out
    obtain ⟨gs, rfl, hgs, -, hgl⟩ := T5.out.shape h05
    obtain ⟨n5, hn5⟩ : ∃ n5, L5.length = n5 := ⟨_, rfl⟩
    have HN5 := Lib.hid hn5
    rw [hn5] at T5
    rw [hn5]
    clear b45 hb5 t5 hn5
    refine ⟨_, rfl, ?_⟩
    refine hK.out _ _ ⟨k5, R5⟩ (fun hHeld => ?_)
    clear hK K
    refine norm_ (a' := ?_) ?_ ?_
    rotate_left
    · show Act.put _ (some 31) _ = _
      simp only [Act.put, List.setIfInBounds_toArray, List.set_cons_zero, List.set_cons_succ, i64_w, i32_w]
      rfl
    refine one_ (i := 8) (N := (some 33)) #[true, true, true, true, true, true, true, true, true, false, false, false] rfl rfl (by kernel_rfl) (by decide) (fun K hK => ?_)
    refine goes_ Tryz.func85 (by kernel_rfl) rfl #[.slice (some ⟨gs, 0, none⟩) n5 c5, .func (.func 86) #[] #[.pointer (some ⟨B, 0, none⟩)]] (by rfl) rfl rfl (by first | rfl | (simp [Act.eval]; done) | (go_simp; done)) ?_
    obtain ⟨gl, cl, hvl, hlB, hlb⟩ := hvl
    have HVL := Lib.hid hvl
    have PK : Pick w5 B b gl T.locks := by
      have L5' : TW w5 base T.locks (.slice (some ⟨gl, 0, none⟩) T.locks.length cl) := by
        have := L4.out.kept (w' := w5) fun k hk => B45.out.block k (by have := L4.out.own_lt hk; rw [HQ.out] at this; exact this)
        rwa [hvl] at this
      refine ⟨(B45.out.block B hBq).trans HO4.out, ⟨X, T1, cl, R5, hvl⟩, L5'.own_lt rfl, fun j hj => L5'.cell hj⟩
    refine (delete_any T5.out h15 h05 PK hLl ⟨by omega, by omega, by omega⟩).mono ?_
    rintro e w6 ⟨rfl, t6, hc6⟩
    clear hvl
    rw [HD.out] at t6 ⊢
    have k6 : w6.cell? ⟨B, 0, none⟩ = some (.pointer (some ⟨b, 0, none⟩)) := by
      have hk := hc6.block B (World.block_lt_of_cell? _ _ k5) (by omega)
      rw [← k5]; simp [World.cell?, hk]
    have R6 : Row w6 b X T1 := R5.keep (hc6.block b R5.lt (by omega))
    have T6 := Lib.hid t6
    have C6 := Lib.hid hc6
    obtain ⟨n6, hn6⟩ : ∃ n6, D.length = n6 := ⟨_, rfl⟩
    have HN6 := Lib.hid hn6
    rw [hn6] at T6 ⊢
    clear t6 hc6 hn6
    refine ⟨_, rfl, ?_⟩
    refine hK.out _ _ ⟨k6, R6⟩ (fun hHeld => ?_)
    clear hK K
    refine norm_ (a' := ?_) ?_ ?_
    rotate_left
    · show Act.put _ (some 33) _ = _
      simp only [Act.put, List.setIfInBounds_toArray, List.set_cons_zero, List.set_cons_succ, i64_w, i32_w]
      rfl
    refine pure_ (i := 9) (N := (some 34)) (v := ?_) (a' := ?_) #[true, true, true, true, true, true, true, true, true, true, false, false] rfl rfl (by kernel_rfl) (fun _ _ _ h => h) (Or.inl ⟨by rfl, ?_⟩) ?_ ?_
    rotate_left
    · intro w'
      go_simp
      with_reducible rfl
    rotate_left
    · simp only [Act.put, List.setIfInBounds_toArray, List.set_cons_zero, List.set_cons_succ, i64_w, i32_w]
      rfl
    refine pure_ (i := 10) (N := (some 35)) (v := ?_) (a' := ?_) #[true, true, true, true, true, true, true, true, true, true, true, false] rfl rfl (by kernel_rfl) (fun _ _ _ h => h) (Or.inl ⟨by rfl, ?_⟩) ?_ ?_
    rotate_left
    · intro w'
      go_simp
      with_reducible rfl
    rotate_left
    · simp only [Act.put, List.setIfInBounds_toArray, List.set_cons_zero, List.set_cons_succ, i64_w, i32_w]
      rfl
    refine last_ (i := 11) (N := none) #[true, true, true, true, true, true, true, true, true, true, true, true] rfl rfl (by kernel_rfl) (by decide) (fun K hK => ?_)
    have q1 := Row.get R6
    have q2 := Row.set R6
    have q3 := Row.free R6
    refine skip_ (by rfl) rfl (w1 := ?_) ?_ ?_
    rotate_left
    · go_simp
      with_reducible rfl
    rotate_left
    refine hK.out _ _ ?_
    clear hK K
    refine done_ (by kernel_rfl) ?_
    obtain ⟨X', hX'⟩ : ∃ X' : AV, { X with vc := .slice (some ⟨gs, 0, none⟩) n6 c5 } = X' := ⟨_, rfl⟩
    obtain ⟨w7, hw7⟩ : ∃ w7, w6.setRow b (attRow X' T1) = w7 := ⟨_, rfl⟩
    rw [hX', hw7]
    have R7 : Row w7 b X' T1 := by rw [← hw7]; exact R6.now
    have k7 : w7.cell? ⟨B, 0, none⟩ = some (.pointer (some ⟨b, 0, none⟩)) := by rw [← hw7, setRow_cell_other _ _ _ _ _ hBa.2.2]; exact k6
    have C67 : Hid (Chg (fun k => k = b ∨ k = a ∨ k = g) w6 w7) := by rw [← hw7]; exact (Row.chg _).mono (fun _ _ h => .inl h)
    have C7 : Hid (Chg (fun k => k = b ∨ k = a ∨ k = g) w w7) := by
      have h1 : Chg (fun k => B ≤ k ∨ k = b ∨ k = a ∨ k = g) w w6 := ((C4.out.mono (fun _ _ h => .inr h)).trans ((Chg.of_below B45.out).mono (fun k _ h => .inl (by omega)))).trans (C6.out.mono (fun k _ (h : k = gs) => .inl (show B ≤ k by omega)))
      exact (h1.trans (C67.out.mono (fun _ _ h => .inr h))).mono (fun k hk h => h.elim (fun h => by omega) id)
    have A7 : Hid (Ar w7 a g W' (c + cnt W 1)) := by
      have h1 : Ar w5 a g W' (c + cnt W 1) := A4.out.below (HQ.out ▸ B45.out)
      have h2 : Ar w6 a g W' (c + cnt W 1) := h1.kept (C6.out.block a h1.lt.1 (by omega)) (C6.out.block g h1.lt.2 (by omega))
      rw [← hw7]; exact h2.after (Row.chg _) hne
    have T7 : Hid (TW w7 B D (.slice (some ⟨gs, 0, none⟩) n6 c5)) := (T6.out.low (by omega)).kept fun k hk => by have hk2 : gs = k := Option.some.inj hk; rw [← hw7, setRow_other _ _ _ _ (show k ≠ b by omega)]
    have l7 : X'.vc = .slice (some ⟨gs, 0, none⟩) n6 c5 := by rw [← hX']
    have HX' := Lib.hid hX'
    have NX : Hid (∀ w, Row w b X' T1 → Calls Tryz.prog 88 #[.pointer (some ⟨b, 0, none⟩), .int .i64 7, .int .i64 n6] w fun e w' => e = .returned (.tuple #[]) ∧ Row w' b X' (next T1 7 n6) ∧ Chg (fun k => k = b) w w') := fun w h => next_any h 7 (by omega) n6
    clear hX' hw7 q1 q2 q3 R6 k6 hHeld C67 C6 T6 T5 B45 C4 A4 k5 R5
    go_wp2
    refine start_ (n := 7) (S := fun w' => w'.cell? ⟨B, 0, none⟩ = some (.pointer (some ⟨b, 0, none⟩)) ∧ Row w' b X' T1) (ds := [6]) #[false, false, false, false, false, false, false] (by kernel_rfl) rfl rfl ⟨k7, R7⟩ (fun hHeld => ?_)
    refine take_ (i := 0) (N := (some 36)) (v := ?_) (a' := ?_) #[true, false, false, false, false, false, false] rfl rfl (by kernel_rfl) (fun _ _ _ h => h) (Or.inl ⟨by rfl, ?_⟩) hHeld ?_ ?_
    rotate_left
    · rintro w' ⟨s0, s1⟩
      go_simp
      with_reducible rfl
    rotate_left
    · simp only [Act.put, List.setIfInBounds_toArray, List.set_cons_zero, List.set_cons_succ, i64_w, i32_w]
      rfl
    refine take_ (i := 1) (N := (some 37)) (v := ?_) (a' := ?_) #[true, true, false, false, false, false, false] rfl rfl (by kernel_rfl) (fun _ _ _ h => h) (Or.inl ⟨by rfl, ?_⟩) hHeld ?_ ?_
    rotate_left
    · rintro w' ⟨s0, s1⟩
      go_simp
      with_reducible rfl
    rotate_left
    · simp only [Act.put, List.setIfInBounds_toArray, List.set_cons_zero, List.set_cons_succ, i64_w, i32_w]
      rfl
    refine pure_ (i := 2) (N := (some 38)) (v := ?_) (a' := ?_) #[true, true, true, false, false, false, false] rfl rfl (by kernel_rfl) (fun _ _ _ h => h) (Or.inl ⟨by rfl, ?_⟩) ?_ ?_
    rotate_left
    · intro w'
      go_simp
      with_reducible rfl
    rotate_left
    · simp only [Act.put, List.setIfInBounds_toArray, List.set_cons_zero, List.set_cons_succ, i64_w, i32_w]
      rfl
    refine pure_ (i := 3) (N := (some 39)) (v := ?_) (a' := ?_) #[true, true, true, true, false, false, false] rfl rfl (by kernel_rfl) (fun _ _ _ h => h) (Or.inl ⟨by rfl, ?_⟩) ?_ ?_
    rotate_left
    · intro w'
      go_simp
      with_reducible rfl
    rotate_left
    · simp only [Act.put, List.setIfInBounds_toArray, List.set_cons_zero, List.set_cons_succ, i64_w, i32_w]
      rfl
    refine take_ (i := 4) (N := (some 40)) (v := ?_) (a' := ?_) #[true, true, true, true, true, false, false] rfl rfl (by kernel_rfl) (fun _ _ _ h => h) (Or.inl ⟨by rfl, ?_⟩) hHeld ?_ ?_
    rotate_left
    · rintro w' ⟨s0, s1⟩
      have q1 := Row.get s1
      go_simp
      with_reducible rfl
    rotate_left
    · simp only [Act.put, List.setIfInBounds_toArray, List.set_cons_zero, List.set_cons_succ, i64_w, i32_w]
      rfl
    refine pure_ (i := 5) (N := (some 41)) (v := ?_) (a' := ?_) #[true, true, true, true, true, true, false] rfl rfl (by kernel_rfl) (fun _ _ _ h => h) (Or.inl ⟨by rfl, ?_⟩) ?_ ?_
    rotate_left
    · intro w'
      go_simp
      with_reducible rfl
    rotate_left
    · simp only [Act.put, List.setIfInBounds_toArray, List.set_cons_zero, List.set_cons_succ, i64_w, i32_w]
      rfl
    refine last_ (i := 6) (N := (some 42)) #[true, true, true, true, true, true, true] rfl rfl (by kernel_rfl) (by decide) (fun K hK => ?_)
    refine goes_ Tryz.func88 (by kernel_rfl) rfl #[.pointer (some ⟨b, 0, none⟩), .int .i64 7, .int .i64 n6] (by rfl) rfl rfl (by first | rfl | (simp [Act.eval]; done) | (go_simp; done)) ?_
    refine (NX.out w7.drew R7).mono ?_
    rintro e w8 ⟨rfl, hr8, hc8⟩
    refine ⟨_, rfl, ?_⟩
    refine hK.out _ _ ?_
    clear hK K
    refine done_ (by kernel_rfl) ?_
    have FIN : Hid (BumpsOut w b a g X T (env X.c X.a run) W c (.returned (.tuple #[])) w8) := by
      have hc8' : Chg (fun k => k = b) w7 w8 := (Chg.drew _ _).trans hc8
      refine ⟨rfl, ⟨X', ?_, .inr ⟨_, HX'.out.symm, ?_⟩⟩, by rw [EB0.out]; exact A7.out.after hc8' hne, C7.out.trans (hc8'.mono (fun _ _ h => .inl h))⟩
      · rw [EB0.out, HN6.out]; exact hr8
      · rw [EB0.out, HHB.out]
        exact T7.out.kept fun k hk => by
          have hk' := T7.out.own_lt hk
          refine hc8'.block k hk' ?_
          have hk2 : gs = k := Option.some.inj hk
          omega
    go_end0
    exact FIN.out
  · have EB0 : Hid (bumps (env X.c X.a run) T W = (giveUp T1 3, W')) := by rw [Hid, EB.out, if_pos hu0]
    have u1 : (u == 0) = false := by rw [beq_eq_false_iff_ne]; exact hu0
    have u2 : (u != 0) = true := by rw [bne_iff_ne]; exact hu0
    have eh : T1.holds = T.holds := by rw [← HT1.out]
    have ec : T1.checks = T.checks := by rw [← HT1.out]
    have hv1 : X.vh = .slice vA T1.holds.length vc := by rw [eh]; exact HV.out
    have GU := Lib.hid (giveUp_any HR4.out hv1 3)
    have EC : Hid ((giveUp T1 3).checks = T.checks) := by rw [Hid, ← ec]; unfold giveUp; split <;> rfl
    clear eh ec hv1 EB hu0
    go_wp2_with (first
      | (go_at_call 81; refine GU.out.mono ?_; rintro e w5 ⟨rfl, hr, hc5⟩))
    have FIN : Hid (BumpsOut w b a g X T (env X.c X.a run) W c (.returned (.tuple #[])) w5) := by
      refine ⟨rfl, ⟨X, by rw [EB0.out]; exact hr, .inl ⟨rfl, by rw [EB0.out]; exact EC.out⟩⟩, by rw [EB0.out]; exact A4.out.after hc5 hne, C4.out.trans (hc5.mono (fun _ _ h => .inl h))⟩
    refine bodyPost_ret (results_none rfl _ _ _) rfl ?_
    exact FIN.out

end Att
end Go.Proofs.YthojgahcpkdemaaGreat

/- an attempt lets a lock go -/
namespace Go.Proofs.YthojgahcpkdemaaGreat
open Go.RowKit Go.Bas
open Go.Proofs.YthojgahcpkdemaaGreatW.PrintLast
namespace Att

theorem held_size : (Tryz.prog.info? 116).map (·.size) = some 2 := by kernel_rfl

set_option maxRecDepth 100000 in
set_option maxHeartbeats 4000000 in
theorem releases_any {w : World} {b : Nat} {X : AV} {T : AT} {a g : Nat} {W : List Int} {c : Int} (H : Row w b X T) (hA : Ar w a g W c) (hc : 0 ≤ c ∧ c < 4611686018427387904) (hne : b ≠ a ∧ b ≠ g)
    (h0 : 0 ≤ T.at_ ∧ T.at_ ≤ 1000000)
    {gh vn vc : Nat} (hv : X.vh = .slice (some ⟨gh, 0, none⟩) vn vc) (hvn : vn = T.holds.length) (h1 : T.at_ < vn) (hgh : gh < w.heap.size)
    (hkc : w.rangeAt gh (T.at_.toNat * 2) [.int .i64 (T.holds.getD T.at_.toNat (0, 0)).1, .int .i64 (T.holds.getD T.at_.toNat (0, 0)).2]) :
    Calls Tryz.prog 72 #[.pointer (some ⟨b, 0, none⟩), .pointer (some ⟨a, 0, none⟩)] w fun e w' => e = .returned (.tuple #[]) ∧ Row w' b X (releases T W).1 ∧ Ar w' a g (releases T W).2 (c + cnt W (T.holds.getD T.at_.toNat (0, 0)).1) ∧ Chg (fun k => k = b ∨ k = a ∨ k = g) w w' := by
  have hbl := H.lt
  have HH := Lib.hid H
  have HA := Lib.hid hA
  have h00 := Lib.hid h0
  obtain ⟨p, hp⟩ : ∃ p, T.holds.getD T.at_.toNat (0, 0) = p := ⟨_, rfl⟩
  rw [hp] at hkc ⊢
  obtain ⟨x, y⟩ := p
  obtain ⟨d, hd⟩ : ∃ d, decide ((vn : Int) ≤ T.at_ + 1) = d := ⟨_, rfl⟩
  have ST : Hid (∀ w, Row w b X T → Calls Tryz.prog 89 #[.pointer (some ⟨b, 0, none⟩), .int .i64 vn] w fun e w' => e = .returned (.bool d) ∧ Row w' b X { T with at_ := T.at_ + 1 } ∧ Chg (fun k => k = b) w w') := fun w hr => by rw [← hd]; exact step_any hr h00.out vn
  obtain ⟨z, hz⟩ : ∃ z, (if T.how = 1 then freeW T.stamp else y) = z := ⟨_, rfl⟩
  have eL : (releases T W).1 = if d then fin { T with at_ := T.at_ + 1 } T.how else { T with at_ := T.at_ + 1 } := by
    unfold releases; rw [← hd, hvn]; simp only [decide_eq_true_eq]
  have EL := Lib.hid eL
  have eW : (releases T W).2 = st W x z := by unfold releases; rw [hp, ← hz]
  have EW := Lib.hid eW
  have HZ := Lib.hid hz
  have HKC := Lib.hid hkc
  clear H hA hd eL eW hp hkc hvn hz
  go_enter Tryz.func72, Tryz.ntmps72
  go_wp2
  refine start_ (n := 12) (S := fun w' => Row w' b X T ∧ w'.rangeAt gh (T.at_.toNat * 2) [.int .i64 x, .int .i64 y]) (ds := [11]) #[false, false, false, false, false, false, false, false, false, false, false, false] (by kernel_rfl) rfl rfl ⟨HH.out, HKC.out⟩ (fun hHeld => ?_)
  refine pure_ (i := 0) (N := (some 5)) (v := ?_) (a' := ?_) #[true, false, false, false, false, false, false, false, false, false, false, false] rfl rfl (by kernel_rfl) (fun _ _ _ h => h) (Or.inl ⟨by rfl, ?_⟩) ?_ ?_
  rotate_left
  · intro w'
    go_simp
    with_reducible rfl
  rotate_left
  · simp only [Act.put, List.setIfInBounds_toArray, List.set_cons_zero, List.set_cons_succ, i64_w, i32_w]
    rfl
  refine pure_ (i := 1) (N := (some 6)) (v := ?_) (a' := ?_) #[true, true, false, false, false, false, false, false, false, false, false, false] rfl rfl (by kernel_rfl) (fun _ _ _ h => h) (Or.inl ⟨by rfl, ?_⟩) ?_ ?_
  rotate_left
  · intro w'
    go_simp
    with_reducible rfl
  rotate_left
  · simp only [Act.put, List.setIfInBounds_toArray, List.set_cons_zero, List.set_cons_succ, i64_w, i32_w]
    rfl
  refine pure_ (i := 2) (N := (some 7)) (v := ?_) (a' := ?_) #[true, true, true, false, false, false, false, false, false, false, false, false] rfl rfl (by kernel_rfl) (fun _ _ _ h => h) (Or.inl ⟨by rfl, ?_⟩) ?_ ?_
  rotate_left
  · intro w'
    go_simp
    with_reducible rfl
  rotate_left
  · simp only [Act.put, List.setIfInBounds_toArray, List.set_cons_zero, List.set_cons_succ, i64_w, i32_w]
    rfl
  refine take_ (i := 3) (N := (some 8)) (v := ?_) (a' := ?_) #[true, true, true, true, false, false, false, false, false, false, false, false] rfl rfl (by kernel_rfl) (fun _ _ _ h => h) (Or.inl ⟨by rfl, ?_⟩) hHeld ?_ ?_
  rotate_left
  · rintro w' ⟨s0, s1⟩
    have q1 := Row.get s0
    go_simp
    with_reducible rfl
  rotate_left
  · simp only [Act.put, List.setIfInBounds_toArray, List.set_cons_zero, List.set_cons_succ, i64_w, i32_w]
    rfl
  refine pure_ (i := 4) (N := (some 9)) (v := ?_) (a' := ?_) #[true, true, true, true, true, false, false, false, false, false, false, false] rfl rfl (by kernel_rfl) (fun _ _ _ h => h) (Or.inl ⟨by rfl, ?_⟩) ?_ ?_
  rotate_left
  · intro w'
    go_simp
    with_reducible rfl
  rotate_left
  · simp only [Act.put, List.setIfInBounds_toArray, List.set_cons_zero, List.set_cons_succ, i64_w, i32_w]
    rfl
  refine pure_ (i := 5) (N := (some 10)) (v := ?_) (a' := ?_) #[true, true, true, true, true, true, false, false, false, false, false, false] rfl rfl (by kernel_rfl) (fun _ _ _ h => h) (Or.inl ⟨by rfl, ?_⟩) ?_ ?_
  rotate_left
  · intro w'
    go_simp
    with_reducible rfl
  rotate_left
  · simp only [Act.put, List.setIfInBounds_toArray, List.set_cons_zero, List.set_cons_succ, i64_w, i32_w]
    rfl
  refine pure_ (i := 6) (N := (some 11)) (v := ?_) (a' := ?_) #[true, true, true, true, true, true, true, false, false, false, false, false] rfl rfl (by kernel_rfl) (fun _ _ _ h => h) (Or.inl ⟨by rfl, ?_⟩) ?_ ?_
  rotate_left
  · intro w'
    go_simp
    with_reducible rfl
  rotate_left
  · simp only [Act.put, List.setIfInBounds_toArray, List.set_cons_zero, List.set_cons_succ, i64_w, i32_w]
    rfl
  refine take_ (i := 7) (N := (some 12)) (v := ?_) (a' := ?_) #[true, true, true, true, true, true, true, true, false, false, false, false] rfl rfl (by kernel_rfl) (fun _ _ _ h => h) (Or.inl ⟨by rfl, ?_⟩) hHeld ?_ ?_
  rotate_left
  · rintro w' ⟨s0, s1⟩
    have q1 := Row.get s0
    go_simp
    with_reducible rfl
  rotate_left
  · simp only [Act.put, List.setIfInBounds_toArray, List.set_cons_zero, List.set_cons_succ, i64_w, i32_w]
    rfl
  refine pure_ (i := 8) (N := (some 13)) (v := ?_) (a' := ?_) #[true, true, true, true, true, true, true, true, true, false, false, false] rfl rfl (by kernel_rfl) (fun _ _ _ h => h) (Or.inl ⟨by rfl, ?_⟩) ?_ ?_
  rotate_left
  · intro w'
    go_simp
    with_reducible rfl
  rotate_left
  · simp only [Act.put, List.setIfInBounds_toArray, List.set_cons_zero, List.set_cons_succ, i64_w, i32_w]
    rfl
  refine take_ (i := 9) (N := (some 14)) (v := .agg [.int .i64 x, .int .i64 y].toArray) (a' := ?_) #[true, true, true, true, true, true, true, true, true, true, false, false] rfl rfl (by kernel_rfl) (fun _ _ _ h => h) (by exact yieldsIf_load_mid rfl 116 _ rfl gh (T.at_.toNat * 2) rfl [.int .i64 x, .int .i64 y] _ (fun w' s0 => s0.2) Tryz.underlying116 rfl held_size) hHeld ?_ ?_
  rotate_left
  · simp only [Act.put, List.setIfInBounds_toArray, List.set_cons_zero, List.set_cons_succ, i64_w, i32_w]
    rfl
  refine one_ (i := 10) (N := (some 4)) #[true, true, true, true, true, true, true, true, true, true, true, false] rfl rfl (by kernel_rfl) (by decide) (fun K hK => ?_)
  refine value_ (by rfl) rfl (v := .pointer (some ⟨w.heap.size, 0, none⟩)) (w1 := w.drew.alloc (.cells #[.int .i64 0, .int .i64 0] 116)) ?_ ?_
  · go_simp; first | done | rfl
  have hk1 : ∀ k, k < w.heap.size → (w.drew.alloc (.cells #[.int .i64 0, .int .i64 0] 116)).heap[k]? = w.heap[k]? := fun k hk => alloc_heap w.drew _ k hk
  have hn1 : (w.drew.alloc (.cells #[.int .i64 0, .int .i64 0] 116)).heap[w.heap.size]? = some (.cells #[.int .i64 0, .int .i64 0] 116 (0, 0)) := new_row w.drew _ _
  obtain ⟨w1, hw1⟩ : ∃ w1, w.drew.alloc (.cells #[.int .i64 0, .int .i64 0] 116) = w1 := ⟨_, rfl⟩
  have b1 : Hid (Below w.heap.size w w1) := by rw [← hw1]; exact (Below.refl _ w).drew.alloc (Nat.le_refl _) _
  rw [hw1] at hk1 hn1 ⊢
  refine hK.out _ _ ⟨HH.out.keep (hk1 b hbl), fun j v hj => by rw [← HKC.out j v hj]; simp [World.cell?, hk1 gh hgh]⟩ (fun hHeld => ?_)
  clear hK K hw1
  refine norm_ (a' := ?_) ?_ ?_
  rotate_left
  · show Act.put _ (some 4) _ = _
    simp only [Act.put, List.setIfInBounds_toArray, List.set_cons_zero, List.set_cons_succ, i64_w, i32_w]
    rfl
  refine last_ (i := 11) (N := none) #[true, true, true, true, true, true, true, true, true, true, true, true] rfl rfl (by kernel_rfl) (by decide) (fun K hK => ?_)
  rw [if_pos (by rfl)]
  refine wp_store_row 116 _ _ rfl w.heap.size #[.int .i64 x, .int .i64 y] rfl rfl 116 #[.int .i64 0, .int .i64 0] hn1 held_size rfl (by simp [Value.oneCell']) ?_
  refine hK.out _ _ ?_
  clear hK K
  refine done_ (by kernel_rfl) ?_
  obtain ⟨w2, hw2⟩ : ∃ w2, w1.setRow w.heap.size #[.int .i64 x, .int .i64 y] = w2 := ⟨_, rfl⟩
  have S2 : Hid (w2.heap[w.heap.size]? = some (.cells #[.int .i64 x, .int .i64 y] 116 (0, 0))) := by rw [← hw2]; exact setRow_same hn1
  have R2 : Row w2 b X T := HH.out.keep (by rw [← hw2, setRow_other _ _ _ _ (by omega)]; exact hk1 b hbl)
  have B2 : Hid (Below w.heap.size w w2) := by rw [← hw2]; exact setRow_below b1.out (Nat.le_refl _) _
  have m0 : ∀ j, w2.cell? ⟨w.heap.size, j, none⟩ = (#[.int .i64 x, .int .i64 y] : Array Value)[j]? := fun j => cell_of_row _ _ _ _ _ _ S2.out
  have q1 := Row.get R2
  have HR2 := Lib.hid R2
  rw [hw2]
  clear hw2 R2 hk1 hn1 b1 hHeld
  have A2 : Hid (Ar w2 a g W c) := HA.out.below B2.out
  have C2 : Hid (Chg (fun k => k = b ∨ k = a ∨ k = g) w w2) := (Chg.of_below B2.out).mono (fun k h1 h2 => by omega)
  have hla := HA.out.lt
  obtain ⟨B, hB⟩ : ∃ B, w.heap.size = B := ⟨_, rfl⟩
  rw [hB] at B2 S2 m0 hla hbl ⊢
  by_cases hh : T.how = 1
  · have ez : z = freeW T.stamp := by rw [← HZ.out, if_pos hh]
    have hlt2 : B < w2.heap.size := (Array.getElem?_eq_some_iff.1 S2.out).1
    go_upto_region 4 with (first
      | (go_at_call 90; refine (free_any T.stamp _).mono ?_; rintro e wf ⟨rfl, hbf⟩
         have SF : wf.heap[B]? = some (.cells #[.int .i64 x, .int .i64 y] 116 (0, 0)) := by rw [hbf.block B hlt2]; exact S2.out
         have RF : Row wf b X T := HR2.out.keep (hbf.block b HR2.out.lt)
         have AF : Hid (Ar wf a g W c) := A2.out.below hbf
         have CF : Hid (Chg (fun k => k = b ∨ k = a ∨ k = g) w wf) := C2.out.trans ((Chg.of_below hbf).mono (fun k h1 h2 => by omega))
         have n1 : ∀ j, wf.cell? ⟨B, j, none⟩ = (#[.int .i64 x, .int .i64 y] : Array Value)[j]? := fun j => cell_of_row _ _ _ _ _ _ SF
         have n2 : ∀ j v, wf.setCell ⟨B, j, none⟩ v = wf.setRow B ((#[.int .i64 x, .int .i64 y] : Array Value).setIfInBounds j v) := fun j v => setCell_row SF
         have n3 : ∀ j, wf.frozen? ⟨B, j, none⟩ = false := fun j => row_frozen SF j
         obtain ⟨wg, hwg⟩ : ∃ wg, wf.setRow B #[.int .i64 x, .int .i64 (freeW T.stamp)] = wg := ⟨_, rfl⟩
         have SG : wg.heap[B]? = some (.cells #[.int .i64 x, .int .i64 (freeW T.stamp)] 116 (0, 0)) := by rw [← hwg]; exact setRow_same SF
         have n4 : ∀ j, wg.cell? ⟨B, j, none⟩ = (#[.int .i64 x, .int .i64 (freeW T.stamp)] : Array Value)[j]? := fun j => cell_of_row _ _ _ _ _ _ SG
         have RG : Hid (Row wg b X T) := by rw [← hwg]; exact RF.keep (setRow_other _ _ _ _ (by omega))
         have AG : Hid (Ar wg a g W c) := by rw [← hwg]; exact AF.out.kept (setRow_other _ _ _ _ (by omega)) (setRow_other _ _ _ _ (by omega))
         have CG : Hid (Chg (fun k => k = b ∨ k = a ∨ k = g) w wg) := by
           have hblk : ∀ k, k < w.heap.size → wg.heap[k]? = wf.heap[k]? := fun k hk => by rw [← hwg]; exact setRow_other _ _ _ _ (by omega)
           have hh := CF.out
           exact ⟨by rw [← hwg]; exact hh.os, by rw [← hwg]; exact hh.tape, by rw [← hwg]; exact hh.output, by rw [← hwg, setRow_size]; exact hh.size, fun k hk hn => (hblk k hk).trans (hh.block k hk hn)⟩
         clear SF RF SG hbf)
      | (go_at_call 25; refine (store_any AG.out hc x (freeW T.stamp)).mono ?_; rintro e w3 ⟨rfl, ha3, hc3⟩
         have R3 : Row w3 b X T := RG.out.keep (hc3.block b RG.out.lt (fun h => h.elim hne.1 hne.2))
         have p1 := Row.get R3
         have HR3 := Lib.hid R3
         have HA3 := Lib.hid ha3
         clear R3 ha3))
    rw [← ez] at HA3
    have C3 : Hid (Chg (fun k => k = b ∨ k = a ∨ k = g) w w3) := CG.out.trans (hc3.mono (fun _ _ h => .inr h))
    clear m0 hc3 HR2 q1 hh
    go_upto_region 5 with (first
      | (go_at_call 89; refine (ST.out _ HR3.out).mono ?_; rintro e w4 ⟨rfl, hr4, hc4⟩
         have HR4 := Lib.hid hr4
         have HC4 := Lib.hid hc4
         have g1 := Row.get hr4
         clear hr4 hc4
         cases d))
    all_goals (
      have A4 : Hid (Ar w4 a g (st W x z) (c + cnt W x)) := HA3.out.after HC4.out hne
      have C4 : Hid (Chg (fun k => k = b ∨ k = a ∨ k = g) w w4) := C3.out.trans (HC4.out.mono (fun _ _ h => .inl h))
      clear p1)
    case true =>
      go_wp2_with (first
        | (go_at_call 47; refine (end_any HR4.out T.how).mono ?_; rintro e w7 ⟨rfl, hr, hc7⟩; have HR7 := Lib.hid hr; clear hr))
      go_end0
      exact ⟨rfl, by rw [EL.out]; exact HR7.out, by rw [EW.out]; exact A4.out.after hc7 hne, C4.out.trans (hc7.mono (fun _ _ h => .inl h))⟩
    case false =>
      go_wp2
      go_end0
      exact ⟨rfl, by rw [EL.out]; exact HR4.out, by rw [EW.out]; exact A4.out, C4.out⟩
  · have ez : z = y := by rw [← HZ.out, if_neg hh]
    subst ez
    go_upto_region 4 with (first
      | (go_at_call 25; refine (store_any A2.out hc x z).mono ?_; rintro e w3 ⟨rfl, ha3, hc3⟩
         have R3 : Row w3 b X T := HR2.out.keep (hc3.block b HR2.out.lt (fun h => h.elim hne.1 hne.2))
         have p1 := Row.get R3
         have HR3 := Lib.hid R3
         have HA3 := Lib.hid ha3
         clear R3 ha3))
    have C3 : Hid (Chg (fun k => k = b ∨ k = a ∨ k = g) w w3) := C2.out.trans (hc3.mono (fun _ _ h => .inr h))
    clear m0 hc3 HR2 q1 hh
    go_upto_region 5 with (first
      | (go_at_call 89; refine (ST.out _ HR3.out).mono ?_; rintro e w4 ⟨rfl, hr4, hc4⟩
         have HR4 := Lib.hid hr4
         have HC4 := Lib.hid hc4
         have g1 := Row.get hr4
         clear hr4 hc4
         cases d))
    all_goals (
      have A4 : Hid (Ar w4 a g (st W x z) (c + cnt W x)) := HA3.out.after HC4.out hne
      have C4 : Hid (Chg (fun k => k = b ∨ k = a ∨ k = g) w w4) := C3.out.trans (HC4.out.mono (fun _ _ h => .inl h))
      clear p1)
    case true =>
      go_wp2_with (first
        | (go_at_call 47; refine (end_any HR4.out T.how).mono ?_; rintro e w7 ⟨rfl, hr, hc7⟩; have HR7 := Lib.hid hr; clear hr))
      go_end0
      exact ⟨rfl, by rw [EL.out]; exact HR7.out, by rw [EW.out]; exact A4.out.after hc7 hne, C4.out.trans (hc7.mono (fun _ _ h => .inl h))⟩
    case false =>
      go_wp2
      go_end0
      exact ⟨rfl, by rw [EL.out]; exact HR4.out, by rw [EW.out]; exact A4.out, C4.out⟩

end Att
end Go.Proofs.YthojgahcpkdemaaGreat

/- what is done in a phase -/
namespace Go.Proofs.YthojgahcpkdemaaGreat
open Go.RowKit Go.Bas
namespace Att

set_option maxRecDepth 100000 in
theorem does_0 {w : World} {b : Nat} {X : AV} {T : AT} (H : Row w b X T) (hp : T.phase = 0) :
    Calls Tryz.prog 48 #[.pointer (some ⟨b, 0, none⟩)] w fun e w' => e = .returned (.func (.func 63) #[.pointer (some ⟨b, 0, none⟩)] #[]) ∧ Below w.heap.size w w' := by
  have hmf : ∀ (fn : Fn) (first cap : Array Value) (w : World), (Instr.makeFunc fn first cap).run Tryz.prog w = .ok (.func fn first cap) w := fun _ _ _ _ => rfl
  have g1 := H.get
  have B0 := Lib.hid (Below.refl w.heap.size w)
  clear H
  go_enter Tryz.func48, Tryz.ntmps48
  go_wp2
  go_ret
  exact ⟨rfl, B0.out⟩

set_option maxRecDepth 100000 in
theorem does_1 {w : World} {b : Nat} {X : AV} {T : AT} (H : Row w b X T) (hp : T.phase = 1) :
    Calls Tryz.prog 48 #[.pointer (some ⟨b, 0, none⟩)] w fun e w' => e = .returned (.func (.func 64) #[.pointer (some ⟨b, 0, none⟩)] #[]) ∧ Below w.heap.size w w' := by
  have hmf : ∀ (fn : Fn) (first cap : Array Value) (w : World), (Instr.makeFunc fn first cap).run Tryz.prog w = .ok (.func fn first cap) w := fun _ _ _ _ => rfl
  have g1 := H.get
  have B0 := Lib.hid (Below.refl w.heap.size w)
  clear H
  go_enter Tryz.func48, Tryz.ntmps48
  go_wp2
  go_ret
  exact ⟨rfl, B0.out⟩

set_option maxRecDepth 100000 in
theorem does_2 {w : World} {b : Nat} {X : AV} {T : AT} (H : Row w b X T) (hp : T.phase = 2) :
    Calls Tryz.prog 48 #[.pointer (some ⟨b, 0, none⟩)] w fun e w' => e = .returned (.func (.func 65) #[.pointer (some ⟨b, 0, none⟩)] #[]) ∧ Below w.heap.size w w' := by
  have hmf : ∀ (fn : Fn) (first cap : Array Value) (w : World), (Instr.makeFunc fn first cap).run Tryz.prog w = .ok (.func fn first cap) w := fun _ _ _ _ => rfl
  have g1 := H.get
  have B0 := Lib.hid (Below.refl w.heap.size w)
  clear H
  go_enter Tryz.func48, Tryz.ntmps48
  go_wp2
  go_ret
  exact ⟨rfl, B0.out⟩

set_option maxRecDepth 100000 in
theorem does_3 {w : World} {b : Nat} {X : AV} {T : AT} (H : Row w b X T) (hp : T.phase = 3) :
    Calls Tryz.prog 48 #[.pointer (some ⟨b, 0, none⟩)] w fun e w' => e = .returned (.func (.func 66) #[.pointer (some ⟨b, 0, none⟩)] #[]) ∧ Below w.heap.size w w' := by
  have hmf : ∀ (fn : Fn) (first cap : Array Value) (w : World), (Instr.makeFunc fn first cap).run Tryz.prog w = .ok (.func fn first cap) w := fun _ _ _ _ => rfl
  have g1 := H.get
  have B0 := Lib.hid (Below.refl w.heap.size w)
  clear H
  go_enter Tryz.func48, Tryz.ntmps48
  go_wp2
  go_ret
  exact ⟨rfl, B0.out⟩

set_option maxRecDepth 100000 in
theorem does_4 {w : World} {b : Nat} {X : AV} {T : AT} (H : Row w b X T) (hp : T.phase = 4) :
    Calls Tryz.prog 48 #[.pointer (some ⟨b, 0, none⟩)] w fun e w' => e = .returned (.func (.func 67) #[.pointer (some ⟨b, 0, none⟩)] #[]) ∧ Below w.heap.size w w' := by
  have hmf : ∀ (fn : Fn) (first cap : Array Value) (w : World), (Instr.makeFunc fn first cap).run Tryz.prog w = .ok (.func fn first cap) w := fun _ _ _ _ => rfl
  have g1 := H.get
  have B0 := Lib.hid (Below.refl w.heap.size w)
  clear H
  go_enter Tryz.func48, Tryz.ntmps48
  go_wp2
  go_ret
  exact ⟨rfl, B0.out⟩

set_option maxRecDepth 100000 in
theorem does_5 {w : World} {b : Nat} {X : AV} {T : AT} (H : Row w b X T) (hp : T.phase = 5) :
    Calls Tryz.prog 48 #[.pointer (some ⟨b, 0, none⟩)] w fun e w' => e = .returned (.func (.func 68) #[.pointer (some ⟨b, 0, none⟩)] #[]) ∧ Below w.heap.size w w' := by
  have hmf : ∀ (fn : Fn) (first cap : Array Value) (w : World), (Instr.makeFunc fn first cap).run Tryz.prog w = .ok (.func fn first cap) w := fun _ _ _ _ => rfl
  have g1 := H.get
  have B0 := Lib.hid (Below.refl w.heap.size w)
  clear H
  go_enter Tryz.func48, Tryz.ntmps48
  go_wp2
  go_ret
  exact ⟨rfl, B0.out⟩

set_option maxRecDepth 100000 in
theorem does_6 {w : World} {b : Nat} {X : AV} {T : AT} (H : Row w b X T) (hp : T.phase = 6) :
    Calls Tryz.prog 48 #[.pointer (some ⟨b, 0, none⟩)] w fun e w' => e = .returned (.func (.func 69) #[.pointer (some ⟨b, 0, none⟩)] #[]) ∧ Below w.heap.size w w' := by
  have hmf : ∀ (fn : Fn) (first cap : Array Value) (w : World), (Instr.makeFunc fn first cap).run Tryz.prog w = .ok (.func fn first cap) w := fun _ _ _ _ => rfl
  have g1 := H.get
  have B0 := Lib.hid (Below.refl w.heap.size w)
  clear H
  go_enter Tryz.func48, Tryz.ntmps48
  go_wp2
  go_ret
  exact ⟨rfl, B0.out⟩

set_option maxRecDepth 100000 in
theorem does_7 {w : World} {b : Nat} {X : AV} {T : AT} (H : Row w b X T) (hp : T.phase = 7) :
    Calls Tryz.prog 48 #[.pointer (some ⟨b, 0, none⟩)] w fun e w' => e = .returned (.func (.func 70) #[.pointer (some ⟨b, 0, none⟩)] #[]) ∧ Below w.heap.size w w' := by
  have hmf : ∀ (fn : Fn) (first cap : Array Value) (w : World), (Instr.makeFunc fn first cap).run Tryz.prog w = .ok (.func fn first cap) w := fun _ _ _ _ => rfl
  have g1 := H.get
  have B0 := Lib.hid (Below.refl w.heap.size w)
  clear H
  go_enter Tryz.func48, Tryz.ntmps48
  go_wp2
  go_ret
  exact ⟨rfl, B0.out⟩

set_option maxRecDepth 100000 in
theorem does_8 {w : World} {b : Nat} {X : AV} {T : AT} (H : Row w b X T) (hp : T.phase = 8) :
    Calls Tryz.prog 48 #[.pointer (some ⟨b, 0, none⟩)] w fun e w' => e = .returned (.func (.func 71) #[.pointer (some ⟨b, 0, none⟩)] #[]) ∧ Below w.heap.size w w' := by
  have hmf : ∀ (fn : Fn) (first cap : Array Value) (w : World), (Instr.makeFunc fn first cap).run Tryz.prog w = .ok (.func fn first cap) w := fun _ _ _ _ => rfl
  have g1 := H.get
  have B0 := Lib.hid (Below.refl w.heap.size w)
  clear H
  go_enter Tryz.func48, Tryz.ntmps48
  go_wp2
  go_ret
  exact ⟨rfl, B0.out⟩

set_option maxRecDepth 100000 in
theorem does_9 {w : World} {b : Nat} {X : AV} {T : AT} (H : Row w b X T) (hp : T.phase = 9) :
    Calls Tryz.prog 48 #[.pointer (some ⟨b, 0, none⟩)] w fun e w' => e = .returned (.func (.func 72) #[.pointer (some ⟨b, 0, none⟩)] #[]) ∧ Below w.heap.size w w' := by
  have hmf : ∀ (fn : Fn) (first cap : Array Value) (w : World), (Instr.makeFunc fn first cap).run Tryz.prog w = .ok (.func fn first cap) w := fun _ _ _ _ => rfl
  have g1 := H.get
  have B0 := Lib.hid (Below.refl w.heap.size w)
  clear H
  go_enter Tryz.func48, Tryz.ntmps48
  go_wp2
  go_ret
  exact ⟨rfl, B0.out⟩

end Att
end Go.Proofs.YthojgahcpkdemaaGreat
