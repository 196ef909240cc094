/- Lemmas of this seat's proofs, several texts laid together. -/
import Derived.Test.YthojgahcpkdemaaGreatAfD
import Derived.Test.YthojgahcpkdemaaGreatAfB
import Derived.Test.YthojgahcpkdemaaGreatAfE
import Derived.Test.YthojgahcpkdemaaGreatAfF
import Derived.Test.YthojgahcpkdemaaGreatAfI
import Derived.Test.YthojgahcpkdemaaGreatAfH
import Derived.Test.YthojgahcpkdemaaGreatAfC
set_option linter.unusedVariables false
set_option linter.unusedSimpArgs false
namespace Go.Proofs.YthojgahcpkdemaaGreat
open Go.RowKit Go.Bas SorPlain Go.Sor IMap_ VIn VPlain MapI
namespace View

theorem first_next {l : M} {k : Nat} (h : k < l.length) (a : Int) : first (l.take (k + 1)) a = if (first (l.take k) a).isSome then first (l.take k) a else if a = l[k].1 then some l[k].2 else none := by
  unfold first
  rw [List.take_succ_eq_append_getElem h, List.find?_append]
  cases hf : (l.take k).find? (fun p => p.1 == a) with
  | some p => simp
  | none =>
    simp only [Option.none_or, Option.map_none, Option.isSome_none, Bool.false_eq_true, if_false, List.find?_cons, List.find?_nil]
    by_cases e : l[k].1 = a
    · subst e; simp
    · have e' : (l[k].1 == a) = false := by simpa using e
      rw [e']; simp; exact fun h => e h.symm
theorem first_in {l : M} (hl : PIn l) {a x : Int} (h : first l a = some x) : In64 x := by
  unfold first at h
  obtain ⟨p, hp, rfl⟩ := Option.map_eq_some_iff.1 h
  exact (hl p (List.mem_of_find?_eq_some hp)).2

theorem run_made (n : Int) (w : World) : (Instr.makeMap 125 (some (.int .i64 n))).run Tryz.prog w = .ok (.map (some w.heap.size)) (w.alloc (.map #[] 0)) := by
  simp [Instr.makeMap, run_underlying Tryz.underlying125, asInt, Sem.run_bind, Result.andThen]
  rfl

set_option maxRecDepth 100000 in
set_option maxHeartbeats 4000000 in
theorem firsts_any {w : World} {s : Value} {l : M} (h : Pairs w w.heap.size s l) (hl : PIn l) (hn : l.length ≤ 1000) :
    Calls Tryz.prog 94 #[s] w fun e w' => e = .returned (.map (some w.heap.size)) ∧ IMap w' w.heap.size l.length (first l) ∧ Below w.heap.size w w' := by
  obtain ⟨A, cp, rfl, hm, _⟩ := id h
  obtain ⟨g, hg⟩ : ∃ g, w.heap.size = g := ⟨_, rfl⟩
  obtain ⟨n, hnn⟩ : ∃ n, l.length = n := ⟨_, rfl⟩
  have HN := Lib.hid hnn
  have hP := Lib.hid h
  rw [hg] at hP ⊢
  rw [hnn] at hP hn ⊢
  have HL := Lib.hid hl
  obtain ⟨w1, hw1⟩ : ∃ w1, w.alloc (.map #[] 0) = w1 := ⟨_, rfl⟩
  have I1 := IMap.made w
  rw [hw1, hg] at I1
  have II := Lib.hid I1
  have s1 : w1.heap.size = g + 1 := by rw [← hw1, ← hg]; simp
  have B1 : Hid (Below g w w1) := by rw [← hw1, Hid, ← hg]; exact (Below.refl _ _).alloc (Nat.le_refl _) _
  clear h hl hnn hm I1
  go_enter Tryz.func94, Tryz.ntmps94
  have hmk := run_made n w
  rw [hw1, hg] at hmk
  clear hw1
  go_wp2
  clear hmk
  go_loopw [13] (fun u13 wr => ∃ k : Nat, k ≤ n ∧ u13 = .int .i64 k ∧ Hid (IMap wr g k (first (l.take k))) ∧ Hid (Below g w wr)) (fun u13 _ => n - (intOf u13).toNat)
  case atStart => exact ⟨0, by omega, rfl, II, B1⟩
  case round =>
    clear II B1
    obtain ⟨k, hk, rfl, HI, HB⟩ := hrel
    have hgl := HI.out.lt
    by_cases hlt : k < n
    · have hlen : k < l.length := by rw [HN.out]; exact hlt
      have hrow := (pair_row (hP.out.below HB.out)).2
      obtain ⟨b, off, rfl, hbg, hrow⟩ := hrow k hlen
      have hin := HL.out _ (List.getElem_mem hlen)
      have hnx := fun a => first_next hlen a
      obtain ⟨x, hx⟩ : ∃ x, l[k].1 = x := ⟨_, rfl⟩
      obtain ⟨y, hy⟩ : ∃ y, l[k].2 = y := ⟨_, rfl⟩
      rw [hx, hy] at hrow hin
      simp only [hx, hy] at hnx
      have HRow := Lib.hid hrow; have HIn := Lib.hid hin; have HNX := Lib.hid hnx
      clear hrow hx hy hnx hin hlen
      obtain ⟨q, hq⟩ : ∃ q, wr.heap.size = q := ⟨_, rfl⟩
      obtain ⟨w2, hw2⟩ : ∃ w2, wr.alloc (.cells #[.int .i64 0, .int .i64 0] 62) = w2 := ⟨_, rfl⟩
      have hg2 : Hid (w2.heap[q]? = some (.cells #[.int .i64 0, .int .i64 0] 62 (0, 0))) := by rw [← hw2, ← hq]; exact new_row _ _ _
      go_upto_region 5 with (first
        | (refine wpList_load_mid rfl 62 _ rfl b (off + k * 2) (by first | rfl | simp) [.int .i64 x, .int .i64 y] _ HRow.out Tryz.underlying62 rfl pair_size ?_)
        | (refine wpList_store_row rfl 62 _ _ rfl q #[.int .i64 x, .int .i64 y] rfl rfl 62 #[.int .i64 0, .int .i64 0] hg2.out pair_size rfl (by simp [Value.oneCell']) ?_))
      obtain ⟨w3, hw3⟩ : ∃ w3, w2.setRow q #[.int .i64 x, .int .i64 y] = w3 := ⟨_, rfl⟩
      have k0 : w3.cell? ⟨q, 0, none⟩ = some (.int .i64 x) := by rw [← hw3]; exact setRow_cell hg2.out _ 0
      have k1 : w3.cell? ⟨q, 1, none⟩ = some (.int .i64 y) := by rw [← hw3]; exact setRow_cell hg2.out _ 1
      have b3 : Below q wr w3 := by rw [← hw3, ← hw2, ← hq]; exact setRow_below ((Below.refl _ _).alloc (Nat.le_refl _) _) (Nat.le_refl _) _
      rw [hw3]
      have B3 : Hid (Below g w w3) := HB.out.trans (b3.mono (by omega))
      have I3 : Hid (IMap w3 g k (first (l.take k))) := HI.out.block (b3.block _ (by omega))
      clear hw3 hw2 hg2 b3
      have lk := I3.out.look HIn.out.1
      cases hf : first (l.take k) x with
      | some z =>
        rw [hf] at lk
        have I4 : Hid (IMap w3 g (k + 1) (first (l.take (k + 1)))) := by
          obtain ⟨D, ⟨es, cl, h1, h2, h3, h4⟩, h5⟩ := I3.out
          refine ⟨D, ⟨es, cl, h1, h2, by omega, h4⟩, ?_⟩
          have e : first (l.take (k + 1)) = first (l.take k) := by
            funext a
            rw [HNX.out a]
            split
            · rfl
            · rename_i hns
              split
              · rename_i e; subst e; rw [hf] at hns; simp at hns
              · cases h : first (l.take k) a <;> simp_all
          rw [e]; exact h5
        clear hf
        go_wp2
        go_roundw
        case rel => exact ⟨k + 1, by omega, by go_num, I4, B3⟩
        case measure => simp [intOf]; omega
      | none =>
        rw [hf] at lk
        have HF := Lib.hid hf
        clear hf
        go_wp2_with (first
          | (refine wpList_mapset rfl _ _ _ rfl g k (first (l.take k)) rfl I3.out (by omega) x y rfl rfl HIn.out.1 HIn.out.2 ?_; intro w4 i4 g4))
        have I4 : Hid (IMap w4 g (k + 1) (first (l.take (k + 1)))) := by
          have e : first (l.take (k + 1)) = (fun z => if z = x then some y else first (l.take k) z) := by
            funext a
            rw [HNX.out a]
            by_cases e : a = x
            · subst e; rw [HF.out]; simp
            · rw [if_neg e, if_neg e]
              cases h : first (l.take k) a <;> simp
          rw [e]; exact i4
        have B4 : Hid (Below g w w4) := B3.out.trans ((Chg.grown (S := fun k => k = g) g4 (fun k hk => by injection hk with hk; exact hk.symm)).below (by have := I3.out.lt; omega) (fun k hk => by omega))
        clear i4 g4 lk
        go_roundw
        case rel => exact ⟨k + 1, by omega, by go_num, I4, B4⟩
        case measure => simp [intOf]; omega
    · obtain rfl : n = k := by omega
      have hI' : Hid (IMap wr g n (first l)) := by have := HI.out; rwa [← HN.out, List.take_length, HN.out] at this
      go_wp2
      go_ret
      exact ⟨rfl, hI'.out, HB.out⟩

end View
end Go.Proofs.YthojgahcpkdemaaGreat

namespace Go.Proofs.YthojgahcpkdemaaGreat
open Go.RowKit Go.Bas SorPlain Go.Sor IMap_ VIn VPlain MapI
namespace View

theorem ask_known {w : World} {c g n : Nat} {f : Int → Option Int} (hc : w.heap[c]? = some (.cells #[.map (some g)] 125 (0, 0))) (h : IMap w g n f) {a : Int} (ha : In64 a) :
    Calls Tryz.prog 95 #[.int .i64 a, .pointer (some ⟨c, 0, none⟩)] w fun e w' => e = .returned (.tuple #[.int .i64 ((f a).getD 0), .bool (f a).isSome]) ∧ w = w' := by
  have lk := h.look ha
  have k0 : w.cell? ⟨c, 0, none⟩ = some (.map (some g)) := by rw [cell_of_row _ _ _ _ _ _ hc]; rfl
  clear h hc
  obtain ⟨x, hx⟩ : ∃ x, (f a).getD 0 = x := ⟨_, rfl⟩
  obtain ⟨y, hy⟩ : ∃ y, (f a).isSome = y := ⟨_, rfl⟩
  rw [hx, hy] at lk ⊢
  go_enter Tryz.func95, Tryz.ntmps95
  go_wp2
  go_ret2
  exact ⟨rfl, rfl⟩

/-- Run's answers -/
def askK (B c g n : Nat) (l : M) (hl : PIn l) (hcg : B ≤ c ∧ B ≤ g) : Ask where
  B := B
  fn := 95
  first := #[]
  R := fun _ => False
  rlt := fun _ h => h.elim
  cap := #[.pointer (some ⟨c, 0, none⟩)]
  f := first l
  I := fun _ S w => w.heap[c]? = some (.cells #[.map (some g)] 125 (0, 0)) ∧ IMap w g n (first l) ∧ S = fun k => k = c ∨ k = g
  lt := by
    rintro qs S w ⟨h1, h2, rfl⟩ k (rfl | rfl)
    · exact ⟨hcg.1, (Array.getElem?_eq_some_iff.1 h1).1⟩
    · exact ⟨hcg.2, h2.lt⟩
  keep := by
    rintro qs S w T w' ⟨h1, h2, rfl⟩ hc hT _
    exact ⟨by rw [hc.block c (Array.getElem?_eq_some_iff.1 h1).1 (hT c (.inl rfl))]; exact h1, h2.block (hc.block g h2.lt (hT g (.inr rfl))), rfl⟩
  run := callFunc_run Tryz.func95 (by kernel_rfl) (by kernel_rfl)
  rng := fun a x h => first_in hl h
  ask := by
    rintro qs S w a ⟨h1, h2, rfl⟩ h0 ha
    refine (ask_known h1 h2 ha).mono ?_
    rintro e w' ⟨rfl, rfl⟩
    exact ⟨rfl, _, ⟨h1, h2, rfl⟩, Chg.refl _ _, fun k hk => .inl hk⟩

/-- what Run leaves -/
def KnownOut (C : Nat → Prop) (R : (Int ⊕ M) × List Int) (Φ : World → Prop) (w : World) (e : Ending) (w' : World) : Prop :=
  ((∃ m r, R.1 = .inr m ∧ e = .returned (.tuple #[.int .i64 (-1), r]) ∧ Told w' w.heap.size m r ∧ PIn m) ∨
    (∃ a, R.1 = .inl a ∧ e = .returned (.tuple #[.int .i64 a, .slice none 0 0]))) ∧ Chg (fun k => w.heap.size ≤ k ∨ C k) w w' ∧ ∀ w3 : World, (∀ k, k < w'.heap.size → w3.heap[k]? = w'.heap[k]?) → Φ w3

set_option maxRecDepth 100000 in
set_option maxHeartbeats 4000000 in
theorem run_leaves {w : World} {s : Value} {l : M} (h : Pairs w w.heap.size s l) (hl : PIn l) (hn : l.length ≤ 1000) (pf : FuncId) (pcap : Array Value) (R : (Int ⊕ M) × List Int)
    (hrun : ∀ args w, (callFunc pf args).run Tryz.prog w = .ok (.enter pf args) w)
    (C : Nat → Prop) (hC : ∀ k, C k → k < w.heap.size) (Φ : World → Prop)
    (hprog : ∀ A : Ask, A.f = first l → (∀ k, ¬ A.R k) → ∀ bv bm Q w', (∀ k, k < w.heap.size → Q k) → Below w.heap.size w w' → VWs A Q bv bm true [] [] w' → Calls Tryz.prog pf (#[.pointer (some ⟨bv, 0, none⟩)] ++ pcap) w' (Left A (fun k => k < w.heap.size) C Q bv bm R Φ w'))
    (hm : ∀ m, R.1 = .inr m → m.length ≤ 1000) (ha : ∀ a, R.1 = .inl a → 0 ≤ a) :
    Calls Tryz.prog 79 #[s, .func (.func pf) #[] pcap] w (KnownOut C R Φ w) := by
  have hmf : ∀ (fn : Fn) (first cap : Array Value) (w : World), (Instr.makeFunc fn first cap).run Tryz.prog w = .ok (.func fn first cap) w := fun _ _ _ _ => rfl
  have hneq : ∀ w : World, (binOp BinOp.eql 38 (.func (.func pf) #[] pcap) .nilFunc).run Tryz.prog w = .ok (.bool false) w := fun _ => by kernel_rfl
  obtain ⟨g, hg⟩ : ∃ g, w.heap.size = g := ⟨_, rfl⟩
  have FS := Lib.hid (firsts_any h hl hn)
  rw [hg] at FS
  have HP := Lib.hid hprog; have HM := Lib.hid hm; have HA := Lib.hid ha; have HR := Lib.hid hrun; have HC := Lib.hid hC; have HL := Lib.hid hl
  clear hprog hm ha hrun hl hn h hC
  rw [hg] at HP HC
  go_enter Tryz.func79, Tryz.ntmps79
  go_upto_region 5 with (first
    | (go_at_call 94; refine FS.out.mono ?_; rintro e w2 ⟨rfl, hi2, hb2⟩))
  have hs2 := hb2.size
  have hgl := hi2.lt
  obtain ⟨c, hc⟩ : ∃ c, w2.heap.size = c := ⟨_, rfl⟩
  obtain ⟨w3, hw3⟩ : ∃ w3, w2.alloc (.cells #[.map (some g)] 125) = w3 := ⟨_, rfl⟩
  rw [hw3, hc]
  have s3 : w3.heap.size = c + 1 := by rw [← hw3, ← hc]; simp
  have r3 : w3.heap[c]? = some (.cells #[.map (some g)] 125 (0, 0)) := by rw [← hw3, ← hc]; exact new_row _ _ _
  have i3 : IMap w3 g l.length (first l) := hi2.block (by rw [← hw3]; exact alloc_heap _ _ _ (by omega))
  have b3 : Below g w w3 := by rw [← hw3]; exact hb2.alloc (by omega) _
  have AL := Lib.hid (all_any (A := askK g c g l.length l HL.out ⟨by omega, Nat.le_refl _⟩) (P := fun k => k < g) (w := w3) (S := fun k => k = c ∨ k = g) ⟨r3, i3, rfl⟩
    (fun k hk => ⟨by omega, by omega⟩) (by show g ≤ _; omega) pf pcap R HR.out C HC.out Φ
    (fun bv bm Q w' hQ hb hv => HP.out _ rfl (fun _ h => h) bv bm Q w' (fun k hk => hQ k hk) (b3.trans (hb.mono (by omega))) hv) HM.out HA.out)
  have B3 := Lib.hid b3
  clear hw3 hi2 hb2 i3 r3 b3
  have hbk : ∀ w4 : World, Chg (fun k => ¬ k < g ∨ C k) w3 w4 → Chg (fun k => w.heap.size ≤ k ∨ C k) w w4 := fun w4 hk =>
    ((Chg.of_below B3.out).mono (fun k _ h => .inl (by omega))).trans (hk.mono (fun k _ h => h.elim (fun h => .inl (by omega)) .inr))
  have HBK := Lib.hid hbk
  clear hbk
  go_wp2_with (first
    | (go_at_call 96; refine AL.out.mono ?_; rintro e w4 (⟨m, r, hR, rfl, ht, _, hk, hin, hF⟩ | ⟨a, hR, rfl, _, hk, hF⟩)))
  · have fin : Hid (KnownOut C R Φ w (.returned (.tuple #[.int .i64 (-1), r])) w4) :=
      ⟨.inl ⟨m, r, hR, rfl, ht.low (by omega), hin⟩, HBK.out _ hk, hF⟩
    clear hR ht hk hF
    go_wp2
    go_ret2
    exact fin.out
  · have fin : Hid (KnownOut C R Φ w (.returned (.tuple #[.int .i64 a, .slice none 0 0])) w4) :=
      ⟨.inr ⟨a, hR, rfl⟩, HBK.out _ hk, hF⟩
    clear hR hk hF
    go_wp2
    go_ret2
    exact fin.out

theorem run_known {w : World} {s : Value} {l : M} (h : Pairs w w.heap.size s l) (hl : PIn l) (hn : l.length ≤ 1000) (pf : FuncId) (pcap : Array Value) (R : (Int ⊕ M) × List Int)
    (hrun : ∀ args w, (callFunc pf args).run Tryz.prog w = .ok (.enter pf args) w)
    (hprog : ∀ A : Ask, A.f = first l → ∀ bv bm Q w', (∀ k, k < w.heap.size → Q k) → Below w.heap.size w w' → VWs A Q bv bm true [] [] w' → Calls Tryz.prog pf (#[.pointer (some ⟨bv, 0, none⟩)] ++ pcap) w' fun e w'' => Ran A Q bv bm R e w'' ∧ Kept Q w' w'')
    (hm : ∀ m, R.1 = .inr m → m.length ≤ 1000) (ha : ∀ a, R.1 = .inl a → 0 ≤ a) :
    Calls Tryz.prog 79 #[s, .func (.func pf) #[] pcap] w fun e w' =>
      ((∃ m r, R.1 = .inr m ∧ e = .returned (.tuple #[.int .i64 (-1), r]) ∧ Told w' w.heap.size m r ∧ PIn m) ∨
      (∃ a, R.1 = .inl a ∧ e = .returned (.tuple #[.int .i64 a, .slice none 0 0]))) ∧ Below w.heap.size w w' :=
  (run_leaves h hl hn pf pcap R hrun (fun _ => False) (fun _ h => h.elim) (fun _ => True) (fun A hA _ bv bm Q w' hQ hb hv => (hprog A hA bv bm Q w' hQ hb hv).mono (fun _ _ h => Left.of_kept h)) hm ha).mono
    fun _ _ h => ⟨h.1, h.2.1.below (Nat.le_refl _) (fun k hk => hk.elim id False.elim)⟩

end View
end Go.Proofs.YthojgahcpkdemaaGreat

/- small programs: their steps in memory, what they do by a view -/
namespace Go.Proofs.YthojgahcpkdemaaGreat
open Go.RowKit Go.Bas Go.WideShapes
namespace VIn
open IMap_
/-- a step of a small program -/
structure Ins where
  (kind a b : Int)
/-- steps in memory, below block B -/
def Steps (w : World) (B : Nat) (s : Value) (l : List Ins) : Prop :=
  ∃ (A : Option Addr) (c : Nat), s = .slice A l.length c ∧ l.length ≤ maxLen ∧
    (0 < l.length → ∃ b off, A = some ⟨b, off, none⟩ ∧ b < B ∧
      ∀ i (h : i < l.length), w.cell? ⟨b, off + i * 3, none⟩ = some (.int .i64 l[i].kind) ∧ w.cell? ⟨b, off + i * 3 + 1, none⟩ = some (.int .i64 l[i].a) ∧ w.cell? ⟨b, off + i * 3 + 2, none⟩ = some (.int .i64 l[i].b))
theorem Steps.below {w w' : World} {B : Nat} {s : Value} {l : List Ins} (h : Steps w B s l) (hb : Below B w w') : Steps w' B s l := by
  obtain ⟨A, c, rfl, hm, hc⟩ := h
  refine ⟨A, c, rfl, hm, fun hn => ?_⟩
  obtain ⟨b, off, rfl, hlt, hc⟩ := hc hn
  refine ⟨b, off, rfl, hlt, fun i hi => ?_⟩
  obtain ⟨h1, h2, h3⟩ := hc i hi
  exact ⟨by rw [hb.cell (by exact hlt)]; exact h1, by rw [hb.cell (by exact hlt)]; exact h2, by rw [hb.cell (by exact hlt)]; exact h3⟩
theorem Steps.mono {w : World} {B C : Nat} {s : Value} {l : List Ins} (h : Steps w B s l) (hb : B ≤ C) : Steps w C s l := by
  obtain ⟨A, c, rfl, hm, hc⟩ := h
  refine ⟨A, c, rfl, hm, fun hn => ?_⟩
  obtain ⟨b, off, rfl, hlt, hc⟩ := hc hn
  exact ⟨b, off, rfl, by omega, hc⟩
def SIn (l : List Ins) : Prop := ∀ p ∈ l, In64 p.a ∧ In64 p.b

set_option maxRecDepth 100000 in
theorem steps_of {H : Type} {enc : TypeId × Value → H} {w : World} {base : Nat} {spare : Nat → Bool} {held : Bool} {v : Value} {d : DataW H} {p : List MemPlace} {r : Reach} {b0 : Nat}
    (hv : Value.okWide Tryz.prog w r b0 40 v) (h : DataW.Trod enc Tryz.prog w base spare held 40 v d p) : ∃ l, Steps w w.heap.size v l ∧ SIn l := by
  obtain ⟨a0, n0, c0, rfl⟩ := okWide_slice Tryz.underlying40 hv
  obtain ⟨fuel, hf⟩ := h
  obtain ⟨A, n, c, he, hnc, hcm, hb⟩ := open_rows Tryz.underlying40 Tryz.underlying82 (by kernel_rfl) (by kernel_rfl) (by decide) (v := .slice a0 n0 c0) hf
  rw [he]
  by_cases hn : n = 0
  · subst hn
    exact ⟨[], ⟨A, c, rfl, Nat.zero_le _, fun h => absurd h (by simp)⟩, fun p hp => by simp at hp⟩
  · obtain ⟨b, off, rfl, hlt, hc⟩ := hb (by omega)
    have key : ∀ i, ∃ x : Ins, (In64 x.a ∧ In64 x.b) ∧ (i < n → w.cell? ⟨b, off + i * 3, none⟩ = some (.int .i64 x.kind) ∧ w.cell? ⟨b, off + i * 3 + 1, none⟩ = some (.int .i64 x.a) ∧ w.cell? ⟨b, off + i * 3 + 2, none⟩ = some (.int .i64 x.b)) := by
      intro i
      by_cases hi : i < n
      · obtain ⟨u0, y0, m0, c0, t0⟩ := hc i hi 0 _ rfl
        obtain ⟨u1, y1, m1, c1, t1⟩ := hc i hi 1 _ rfl
        obtain ⟨u2, y2, m2, c2, t2⟩ := hc i hi 2 _ rfl
        obtain ⟨x0, e0, _, f0⟩ := DataW.trod_int Tryz.underlying3 t0
        obtain ⟨x1, e1, _, f1⟩ := DataW.trod_int Tryz.underlying3 t1
        obtain ⟨x2, e2, _, f2⟩ := DataW.trod_int Tryz.underlying3 t2
        simp at e0 e1 e2
        subst e0 e1 e2
        exact ⟨⟨x0, x1, x2⟩, ⟨in64_of_wf f1, in64_of_wf f2⟩, fun _ => ⟨c0, c1, c2⟩⟩
      · exact ⟨⟨0, 0, 0⟩, by unfold In64; simp, fun h => absurd h hi⟩
    refine ⟨(List.range n).map fun i => Classical.choose (key i), ⟨some ⟨b, off, none⟩, c, by simp, by simp; omega, fun _ => ⟨b, off, rfl, hlt, fun i hi => ?_⟩⟩, fun p hp => ?_⟩
    · have hi' : i < n := by simpa using hi
      simp only [List.getElem_map, List.getElem_range]
      exact (Classical.choose_spec (key i)).2 hi'
    · obtain ⟨i, _, rfl⟩ := List.mem_map.1 hp
      exact (Classical.choose_spec (key i)).1

end VIn
open SorPlain IMap_ VIn VPlain
namespace VPlain
/-- a run: the address that is needed, or what was written; and what was asked for. skip: the next step is left out -/
def play (f : Int → Option Int) : List Ins → Bool → Int → M → List Int → (Int ⊕ M) × List Int
  | [], _, _, m, qs => (.inr m, qs)
  | _ :: r, true, x, m, qs => play f r false x m qs
  | i :: r, false, x, m, qs =>
    if i.kind = 0 then (match rd f m i.a with | some y => play f r false y m (asks m i.a qs) | none => (.inl i.a, qs))
    else if i.kind = 1 then play f r false x (wr m i.a i.b) qs
    else if i.kind = 2 then play f r false x (wr m i.a x) qs
    else if i.kind = 3 then (match rd f m x with | some y => play f r false y m (asks m x qs) | none => (.inl x, qs))
    else if i.kind = 4 then play f r (decide (x = i.b)) x m qs
    else play f r false x m qs

end VPlain
open Go.RowKit Go.Bas SorPlain Go.Sor IMap_ VIn VPlain MapI
namespace View

theorem step_row {w : World} {B : Nat} {A : Option Addr} {n cp : Nat} {ps : List Ins} (h : VIn.Steps w B (.slice A n cp) ps) {k : Nat} (hk : k < ps.length) : ∃ b off, A = some ⟨b, off, none⟩ ∧ b < B ∧
    w.cell? ⟨b, off + k * 3, none⟩ = some (.int .i64 ps[k].kind) ∧ w.cell? ⟨b, off + k * 3 + 1, none⟩ = some (.int .i64 ps[k].a) ∧ w.cell? ⟨b, off + k * 3 + 2, none⟩ = some (.int .i64 ps[k].b) := by
  obtain ⟨A', c', e, hm, hc⟩ := h
  simp at e
  obtain ⟨rfl, rfl, rfl⟩ := e
  obtain ⟨b, off, rfl, hlt, hc⟩ := hc (by omega)
  exact ⟨b, off, rfl, hlt, hc k hk⟩

theorem play_skip (f : Int → Option Int) (l : List Ins) (k : Nat) (x : Int) (m : M) (qs : List Int) : play f (l.drop (k + 1)) true x m qs = play f (l.drop (k + 2)) false x m qs := by
  have e : l.drop (k + 2) = (l.drop (k + 1)).tail := by rw [List.tail_drop]
  rw [e]
  cases l.drop (k + 1) with
  | nil => rfl
  | cons i r => rfl

set_option maxRecDepth 100000 in
set_option maxHeartbeats 8000000 in
theorem plays_any {A : Ask} {P : Nat → Prop} {bv bm B : Nat} {w : World} {s : Value} {l : List Ins} (h : VWs A P bv bm true [] [] w) (hs : VIn.Steps w B s l) (hl : SIn l) (hn : l.length ≤ 1000) (hPB : ∀ k, k < B → P k) :
    Calls Tryz.prog 44 #[.pointer (some ⟨bv, 0, none⟩), s] w fun e w' => Ran A P bv bm (play A.f l false 0 [] []) e w' ∧ Kept P w w' := by
  obtain ⟨R, hR⟩ : ∃ R, play A.f l false 0 [] [] = R := ⟨_, rfl⟩
  have H0 : Hid (play A.f (l.drop 0) false 0 [] [] = R) := hR
  rw [hR]
  clear hR
  obtain ⟨Ad, cp, rfl, hm, _⟩ := id hs
  obtain ⟨n, hnn⟩ : ∃ n, l.length = n := ⟨_, rfl⟩
  have HN := Lib.hid hnn
  have HS : Hid (∀ w', Kept P w w' → VIn.Steps w' B (.slice Ad n cp) l) := fun w' hk => by
    rw [← hnn]
    have hlt : B ≤ w.heap.size := by
      by_cases h0 : B = 0
      · omega
      · obtain ⟨S, v, _, hP⟩ := h
        have := (hP (B - 1) (hPB _ (by omega))).1
        omega
    exact hs.below (hk.below hlt (fun k hk' => by
      by_cases e : k < B
      · exact absurd (hPB k e) hk'
      · omega))
  rw [hnn] at hn ⊢
  have HL := Lib.hid hl
  have HV := Lib.hid h
  have h0 : In64 0 := by unfold In64; simp
  have HZ := Lib.hid h0
  clear hs hl hnn hm h h0 hPB
  go_enter Tryz.func44, Tryz.ntmps44
  go_wp2
  go_loopw [5, 4] (fun u5 u4 wr => ∃ (k : Nat) (x : Int) (m : M) (qs : List Int), k ≤ n + 1 ∧ u5 = .int .i64 k ∧ u4 = .int .i64 x ∧ Hid (In64 x) ∧ m.length ≤ k ∧ Hid (VWs A P bv bm true qs m wr) ∧ Hid (Kept P w wr) ∧ Hid (play A.f (l.drop k) false x m qs = R)) (fun u5 _ _ => n + 1 - (intOf u5).toNat)
  case atStart => exact ⟨0, 0, [], [], by omega, rfl, rfl, HZ, Nat.le_refl _, HV, Chg.refl _ _, H0⟩
  case round =>
    clear HV H0 HZ
    obtain ⟨k, x, m, qs, hk, rfl, rfl, HX, hml, HV, HK, HR⟩ := hrel
    by_cases hlt : k < n
    · have hlen : k < l.length := by rw [HN.out]; exact hlt
      obtain ⟨b, off, rfl, hbB, c0, c1, c2⟩ := step_row (HS.out _ HK.out) hlen
      have hin := HL.out _ (List.getElem_mem hlen)
      have hdr : l.drop k = l[k] :: l.drop (k + 1) := List.drop_eq_getElem_cons hlen
      obtain ⟨⟨kd, a, bb⟩, hi⟩ : ∃ i, l[k] = i := ⟨_, rfl⟩
      rw [hi] at c0 c1 c2 hin hdr
      have HD := Lib.hid hdr; have HIn := Lib.hid hin
      clear hi hdr hin hlen
      dsimp only at c0 c1 c2 HIn
      have hpl : Hid (play A.f (l.drop k) false x m qs = if kd = 0 then (match rd A.f m a with | some y => play A.f (l.drop (k + 1)) false y m (asks m a qs) | none => (.inl a, qs))
          else if kd = 1 then play A.f (l.drop (k + 1)) false x (VPlain.wr m a bb) qs
          else if kd = 2 then play A.f (l.drop (k + 1)) false x (VPlain.wr m a x) qs
          else if kd = 3 then (match rd A.f m x with | some y => play A.f (l.drop (k + 1)) false y m (asks m x qs) | none => (.inl x, qs))
          else if kd = 4 then play A.f (l.drop (k + 1)) (decide (x = bb)) x m qs
          else play A.f (l.drop (k + 1)) false x m qs) := by rw [Hid, HD.out]; rfl
      rw [HR.out] at hpl
      clear HD HR
      by_cases h0 : kd = 0
      · subst h0
        rw [if_pos rfl] at hpl
        have RD := Lib.hid (read_any HV.out (by omega) a HIn.out.1)
        go_wp2_with (first
          | (go_at_call 62; refine RD.out.mono ?_; rintro e w2 (⟨y, q1, q2, rfl, q3, q4⟩ | ⟨q1, rfl, q3, q4⟩)))
        · rw [q1] at hpl
          have Q3 := Lib.hid q3; have Q4 := Lib.hid (HK.out.trans q4)
          have Q2 := Lib.hid q2
          clear q1 q2 q3 q4 RD
          go_roundw
          case rel => exact ⟨k + 1, y, m, asks m a qs, by omega, by go_num, rfl, Q2, by omega, Q3, Q4, hpl.out.symm⟩
          case measure => simp [intOf]; omega
        · rw [q1] at hpl
          have h1 : R = (.inl a, qs) := hpl.out
          exact ⟨rfl, .inr ⟨a, m, by rw [h1], rfl, by rw [h1]; exact q3⟩, HK.out.trans q4⟩
      rw [if_neg h0] at hpl
      by_cases h1 : kd = 1
      · subst h1
        rw [if_pos rfl] at hpl
        have WR := Lib.hid (write_any (HV.out.new ((Below.refl _ _).drew)) (by omega) a bb HIn.out.1 HIn.out.2)
        have d1 : wr.drew.cell? ⟨b, off + k * 3 + 1, none⟩ = some (.int .i64 a) := c1
        have d2 : wr.drew.cell? ⟨b, off + k * 3 + 2, none⟩ = some (.int .i64 bb) := c2
        go_upto_region 8 with fail
        go_still_tail 11, (by kernel_rfl)
        change wpList _ _ _ _ _ wr.drew
        go_wp2_with (first
          | (go_at_call 52; refine WR.out.mono ?_; rintro e w2 ⟨rfl, q1, q2⟩))
        have Q1 := Lib.hid q1; have Q2 : Hid (Kept P w w2) := (HK.out.trans (Chg.drew _ wr)).trans q2
        have hwl := wr_length m a bb
        clear q1 q2
        go_wp2
        go_roundw
        case rel => exact ⟨k + 1, x, VPlain.wr m a bb, qs, by omega, by go_num, rfl, HX, by omega, Q1, Q2, hpl.out.symm⟩
        case measure => simp [intOf]; omega
      rw [if_neg h1] at hpl
      by_cases h2 : kd = 2
      · subst h2
        rw [if_pos rfl] at hpl
        have WR := Lib.hid (write_any HV.out (by omega) a x HIn.out.1 HX.out)
        go_wp2_with (first
          | (go_at_call 52; refine WR.out.mono ?_; rintro e w2 ⟨rfl, q1, q2⟩))
        have Q1 := Lib.hid q1; have Q2 : Hid (Kept P w w2) := HK.out.trans q2
        have hwl := wr_length m a x
        clear q1 q2
        go_wp2
        go_roundw
        case rel => exact ⟨k + 1, x, VPlain.wr m a x, qs, by omega, by go_num, rfl, HX, by omega, Q1, Q2, hpl.out.symm⟩
        case measure => simp [intOf]; omega
      rw [if_neg h2] at hpl
      by_cases h3 : kd = 3
      · subst h3
        rw [if_pos rfl] at hpl
        have RD := Lib.hid (read_any HV.out (by omega) x HX.out)
        go_wp2_with (first
          | (go_at_call 62; refine RD.out.mono ?_; rintro e w2 (⟨y, q1, q2, rfl, q3, q4⟩ | ⟨q1, rfl, q3, q4⟩)))
        · rw [q1] at hpl
          have Q3 := Lib.hid q3; have Q4 := Lib.hid (HK.out.trans q4)
          have Q2 := Lib.hid q2
          clear q1 q2 q3 q4 RD
          go_roundw
          case rel => exact ⟨k + 1, y, m, asks m x qs, by omega, by go_num, rfl, Q2, by omega, Q3, Q4, hpl.out.symm⟩
          case measure => simp [intOf]; omega
        · rw [q1] at hpl
          have h1 : R = (.inl x, qs) := hpl.out
          exact ⟨rfl, .inr ⟨x, m, by rw [h1], rfl, by rw [h1]; exact q3⟩, HK.out.trans q4⟩
      rw [if_neg h3] at hpl
      by_cases h4 : kd = 4
      · subst h4
        rw [if_pos rfl] at hpl
        by_cases hxb : x = bb
        · subst hxb
          have hp2 : Hid (play A.f (l.drop (k + 2)) false x m qs = R) := by
            have := hpl.out
            simp only [decide_true, play_skip] at this
            exact this.symm
          clear hpl
          go_wp2
          go_roundw
          case rel => exact ⟨k + 2, x, m, qs, by omega, by go_num, rfl, HX, by omega, HV, HK, hp2⟩
          case measure => simp [intOf]; omega
        · have hp2 : Hid (play A.f (l.drop (k + 1)) false x m qs = R) := by
            have := hpl.out
            rw [decide_eq_false hxb] at this
            exact this.symm
          clear hpl
          go_wp2
          go_roundw
          case rel => exact ⟨k + 1, x, m, qs, by omega, by go_num, rfl, HX, by omega, HV, HK, hp2⟩
          case measure => simp [intOf]; omega
      · rw [if_neg h4] at hpl
        go_wp2
        go_roundw
        case rel => exact ⟨k + 1, x, m, qs, by omega, by go_num, rfl, HX, by omega, HV, HK, hpl.out.symm⟩
        case measure => simp [intOf]; omega
    · have hd : l.drop k = [] := List.drop_eq_nil_of_le (by rw [HN.out]; omega)
      have HR2 : Hid ((.inr m, qs) = R) := by have := HR.out; rw [hd] at this; exact this
      clear hd
      go_wp2
      go_end0
      exact ⟨.inl ⟨m, by rw [← HR2.out], rfl, by rw [← HR2.out]; exact HV.out⟩, HK.out⟩

theorem play_end (f : Int → Option Int) : ∀ (l : List Ins) (sk : Bool) (x : Int) (m : M) (qs : List Int), (∀ a, (play f l sk x m qs).1 = .inl a → 0 ≤ a) ∧ (∀ m', (play f l sk x m qs).1 = .inr m' → m'.length ≤ m.length + l.length)
  | [], sk, x, m, qs => by
    cases sk <;> exact ⟨fun a h => by simp [play] at h, fun m' h => by simp [play] at h; subst h; simp⟩
  | i :: r, true, x, m, qs => by
    have h := play_end f r false x m qs
    simp only [play, List.length_cons]
    exact ⟨h.1, fun m' hm => by have := h.2 m' hm; omega⟩
  | i :: r, false, x, m, qs => by
    have key : ∀ sk y m2 q2, m2.length ≤ m.length + 1 → (∀ a, (play f r sk y m2 q2).1 = .inl a → 0 ≤ a) ∧ (∀ m', (play f r sk y m2 q2).1 = .inr m' → m'.length ≤ m.length + (r.length + 1)) := fun sk y m2 q2 hm2 => by
      have h := play_end f r sk y m2 q2
      exact ⟨h.1, fun m' hm => by have := h.2 m' hm; omega⟩
    have hr : ∀ a, rd f m a = none → 0 ≤ a := fun a h => by
      unfold rd at h
      split at h
      · simp at h
      · omega
    have h1 := wr_length m i.a i.b
    have h2 := wr_length m i.a x
    simp only [play, List.length_cons]
    split
    · cases h : rd f m i.a with
      | some y => exact key _ _ _ _ (by omega)
      | none => exact ⟨fun a ha => by simp at ha; subst ha; exact hr _ h, fun m' hm => by simp at hm⟩
    · split
      · exact key _ _ _ _ (by omega)
      · split
        · exact key _ _ _ _ (by omega)
        · split
          · cases h : rd f m x with
            | some y => exact key _ _ _ _ (by omega)
            | none => exact ⟨fun a ha => by simp at ha; subst ha; exact hr _ h, fun m' hm => by simp at hm⟩
          · split
            · exact key _ _ _ _ (by omega)
            · exact key _ _ _ _ (by omega)

end View
end Go.Proofs.YthojgahcpkdemaaGreat

/- a small program over few words -/
namespace Go.Proofs.YthojgahcpkdemaaGreat
open Go.RowKit Go.Bas View VIn IMap_ VPlain
open Go.ChangeShapes Go.Sor
namespace Att

def fitI (t : Int) (i : Ins) : Ins := ⟨if i.kind = 3 ∨ 4 < i.kind ∨ i.kind < 0 then 0 else i.kind, t + IntKind.u64.wrap i.a % 6, i.b⟩
def fits (t : Int) (l : List Ins) : List Ins := (l.take 20).map (fitI t)
theorem fits_len (t : Int) (l : List Ins) : (fits t l).length ≤ 20 := by unfold fits; simp; omega
def flat3 (l : List Ins) : List Value := l.flatMap fun i => [.int .i64 i.kind, .int .i64 i.a, .int .i64 i.b]
theorem flat3_len : ∀ l : List Ins, (flat3 l).length = l.length * 3
  | [] => rfl
  | p :: r => by
    have := flat3_len r
    simp [flat3] at this ⊢
    omega
theorem flat3_get {m : List Ins} {i : Nat} (h : i < m.length) : (flat3 m)[i * 3]? = some (.int .i64 m[i].kind) ∧ (flat3 m)[i * 3 + 1]? = some (.int .i64 m[i].a) ∧ (flat3 m)[i * 3 + 2]? = some (.int .i64 m[i].b) := by
  induction m generalizing i with
  | nil => simp at h
  | cons p r ih =>
    cases i with
    | zero => exact ⟨rfl, rfl, rfl⟩
    | succ i =>
      have := ih (i := i) (by simpa using h)
      rw [show (i + 1) * 3 = i * 3 + 3 by omega]
      exact this
theorem flat3_snoc (l : List Ins) (x : Ins) : flat3 (l ++ [x]) = flat3 l ++ [.int .i64 x.kind, .int .i64 x.a, .int .i64 x.b] := by simp [flat3]
/-- steps, in a row of the call's own -/
def ITold (w : World) (base : Nat) (m : List Ins) (v : Value) : Prop := ∃ A cap, v = .slice A m.length cap ∧ w.ownsRow base 82 3 v m.length (flat3 m)
theorem ITold.kept {w w' : World} {base : Nat} {m : List Ins} {v : Value} (h : ITold w base m v) (hk : ∀ k, v.ownBlock = some k → w'.heap[k]? = w.heap[k]?) : ITold w' base m v := by
  obtain ⟨A, cap, rfl, hl, hr⟩ := h
  refine ⟨A, cap, rfl, hl, ?_⟩
  rcases hr with h | ⟨g, cp, cur, hv, hg, hh, r⟩
  · exact .inl h
  · exact .inr ⟨g, cp, cur, hv, hg, (hk g (by rw [hv]; rfl)).trans hh, r⟩
theorem ITold.own_lt {w : World} {base : Nat} {m : List Ins} {v : Value} (h : ITold w base m v) {k : Nat} (e : v.ownBlock = some k) : k < w.heap.size := by
  obtain ⟨A, cap, rfl, hl, hr⟩ := h
  rcases hr with ⟨h, _⟩ | ⟨g, cp, cur, hv, hg, hh, r⟩
  · rw [h] at e; simp [Value.ownBlock] at e
  · rw [hv] at e; simp [Value.ownBlock] at e; subst e; exact (Array.getElem?_eq_some_iff.1 hh).1
theorem ITold.block {w : World} {base : Nat} {m : List Ins} {v : Value} (h : ITold w base m v) {k : Nat} (e : v.ownBlock = some k) : base ≤ k := by
  obtain ⟨A, cap, rfl, hl, hr⟩ := h
  rcases hr with ⟨h, _⟩ | ⟨g, cp, cur, hv, hg, r⟩
  · rw [h] at e; simp [Value.ownBlock] at e
  · rw [hv] at e; simp [Value.ownBlock] at e; omega
theorem ITold.steps {w : World} {base : Nat} {m : List Ins} {v : Value} (h : ITold w base m v) : VIn.Steps w w.heap.size v m := by
  obtain ⟨A, cap, rfl, hl, hr⟩ := h
  rcases hr with ⟨hv, hn⟩ | ⟨g, cp, cur, hv, hg, hh, hc, hcm, hcs, ht⟩
  · exact ⟨A, cap, rfl, by omega, fun h => by omega⟩
  · simp only [Value.slice.injEq] at hv
    obtain ⟨rfl, _, rfl⟩ := hv
    refine ⟨_, cap, rfl, by omega, fun _ => ⟨g, 0, rfl, (Array.getElem?_eq_some_iff.1 hh).1, fun i hi => ?_⟩⟩
    obtain ⟨h1, h2, h3⟩ := flat3_get hi
    exact ⟨by rw [Nat.zero_add]; exact row_cell hh ht h1, by rw [Nat.zero_add]; exact row_cell hh ht h2, by rw [Nat.zero_add]; exact row_cell hh ht h3⟩
theorem itold_nil (w : World) (base : Nat) : ITold w base [] (.slice none 0 0) := ⟨none, 0, rfl, rfl, .inl ⟨rfl, rfl⟩⟩

theorem infoIns : (Tryz.prog.info? 82).map (fun i => (i.zero, i.size, i.bytes)) = some (some (.agg #[.int .i64 0, .int .i64 0, .int .i64 0]), 3, 24) := by kernel_rfl
theorem ins_size : (Tryz.prog.info? 82).map (·.size) = some 3 := by kernel_rfl
theorem run_ins1 (w : World) (x0 x1 x2 : Value) : (Instr.buildSlice 40 1 #[(0, .agg #[x0, x1, x2])]).run Tryz.prog w = .ok (.slice (some ⟨w.heap.size, 0, none⟩) 1 1) (w.alloc (.cells #[x0, x1, x2] 82)) := by
  have hinfo : (Tryz.prog.info? 82).map (fun i => (i.zero, i.size)) = some (some (.agg #[.int .i64 0, .int .i64 0, .int .i64 0]), 3) := by kernel_rfl
  obtain ⟨i, hi, hzz⟩ := Option.map_eq_some_iff.1 hinfo
  simp only [Prod.mk.injEq] at hzz
  obtain ⟨hz, hs⟩ := hzz
  refine run_buildSlice w _ 82 1 _ #[x0, x1, x2] i _ Tryz.underlying40 hi hz (by rw [hs]; decide) (by rw [hs]; decide) ?_
  rw [hs]
  kernel_rfl
theorem wpList_ins1 {ops : Array Oper} {rest : List Oper} {o : Oper} {a : Act} {w : World} {Q : Exit → Act → World → Prop} (hg : o.guard = none) (p0 : Operand) (ho : o.op = .buildSlice 40 1 #[(0, p0)])
    (x0 x1 x2 : Value) (h0 : a.eval p0 = .agg #[x0, x1, x2])
    (h : wpList Tryz.prog ops Q rest (a.put o.dst (.slice (some ⟨w.heap.size, 0, none⟩) 1 1)) (w.alloc (.cells #[x0, x1, x2] 82))) : wpList Tryz.prog ops Q (o :: rest) a w :=
  wpList_plain hg fun K hK => by
    have e : ((#[(0, p0)] : Array (Nat × Operand)).map fun (i, x) => (i, a.eval x)) = #[(0, .agg #[x0, x1, x2])] := by simp [h0]
    unfold Oper.wp execOp
    simp only [ho, Sem.run_bind, e, run_ins1, Result.andThen_ok]
    exact hK _ _ h

theorem wpList_addins {ops : Array Oper} {rest : List Oper} {o : Oper} {a : Act} {w : World} {Q : Exit → Act → World → Prop} (hgd : o.guard = none) (s x : Operand)
    (ho : o.op = .call { callee := .builtin .append, args := #[s, x], argTypes := #[40, 40] })
    (base : Nat) (out : List Ins) (v : Value) (hs : a.eval s = v) (h : ITold w base out v) (hn : out.length ≤ 10000) (hb : base ≤ w.heap.size) (b : Nat) (y : Ins) (hx : a.eval x = .slice (some ⟨b, 0, none⟩) 1 1)
    (hrow : w.heap[b]? = some (.cells #[.int .i64 y.kind, .int .i64 y.a, .int .i64 y.b] 82 (0, 0)))
    (H : ∀ v' w', ITold w' base (out ++ [y]) v' → w.grownBy w' v.ownBlock → (v'.ownBlock = v.ownBlock ∨ v'.ownBlock = some w.heap.size) → wpList Tryz.prog ops Q rest (a.put o.dst v') w') : wpList Tryz.prog ops Q (o :: rest) a w := by
  obtain ⟨i0, hi0, hz0, hz1, hz2⟩ := info_parts infoIns
  obtain ⟨A, cap, rfl, hown⟩ := h
  refine wpList_append_any hgd s x 40 ho base 82 i0 (.agg #[.int .i64 0, .int .i64 0, .int .i64 0]) 3 24 Tryz.underlying40 hi0 hz0 hz1 hz2 rfl (by decide) _ out.length (flat3 out) hs hown (some ⟨b, 0, none⟩) 1 1 [.int .i64 y.kind, .int .i64 y.a, .int .i64 y.b] hx rfl
    (fun _ => ⟨_, rfl, fun j u hj => by
      have hadd : (⟨b, 0, none⟩ : Addr).add j = ⟨b, j, none⟩ := by unfold Addr.add; split <;> simp_all
      rw [hadd, cell_of_row _ _ _ _ _ _ hrow]; simpa using hj⟩) (by simp [Value.oneCell']) (by unfold maxLen; omega) (by omega) hb ?_
  intro v' w' hown' hg hb'
  obtain ⟨A1, c1, rfl⟩ := own_slice hown'
  exact H _ w' ⟨A1, c1, by simp, by rw [flat3_snoc]; simpa using hown'⟩ hg hb'

set_option maxRecDepth 100000 in
set_option maxHeartbeats 2000000 in
theorem fit_any {w : World} {t : Int} (ht : 0 ≤ t ∧ t ≤ 1000000) {s : Value} {l : List Ins} (hP : VIn.Steps w w.heap.size s l) (hl : SIn l) :
    Calls Tryz.prog 14 #[.int .i64 t, s] w fun e w' => ∃ v, e = .returned v ∧ ITold w' w.heap.size (fits t l) v ∧ Below w.heap.size w w' := by
  obtain ⟨i0, hi0, hz0, hz1, hz2⟩ := info_parts infoIns
  obtain ⟨g, hg⟩ : ∃ g, w.heap.size = g := ⟨_, rfl⟩
  have HG := Lib.hid hg
  obtain ⟨A, cp, rfl, hm, _⟩ := id hP
  obtain ⟨n, hnn⟩ : ∃ n, l.length = n := ⟨_, rfl⟩
  have HN := Lib.hid hnn
  have HP := Lib.hid hP
  rw [hg] at HP ⊢
  rw [hnn] at HP hm ⊢
  unfold maxLen at hm
  have HL := Lib.hid hl
  have B0 : Hid (Below g w w) := Below.refl _ _
  have T0 : Hid (ITold w g ((l.take 0).map (fitI t)) (.slice none 0 0)) := itold_nil _ _
  clear hP hl hnn hg
  go_enter Tryz.func14, Tryz.ntmps14
  go_wp2
  go_loopw [6, 5] (fun u6 u5 wr => ∃ k : Nat, k ≤ n ∧ k ≤ 20 ∧ u6 = .int .i64 k ∧ Hid (ITold wr g ((l.take k).map (fitI t)) u5) ∧ Hid (Below g w wr)) (fun u6 _ _ => n - (intOf u6).toNat)
  case atStart => exact ⟨0, by omega, by omega, rfl, T0, B0⟩
  case round =>
    clear T0 B0
    obtain ⟨k, hk, hk20, rfl, HT, HB⟩ := hrel
    have hgw : g ≤ wr.heap.size := by have := HB.out.size; rw [HG.out] at this; exact this
    by_cases hlt : k < n ∧ k < 20
    · obtain ⟨hlt, h20⟩ := hlt
      have hlen : k < l.length := by rw [HN.out]; exact hlt
      obtain ⟨bp, off, rfl, hbg, c0, c1, c2⟩ := step_row (HP.out.below HB.out) hlen
      have hin := HL.out _ (List.getElem_mem hlen)
      have hnx : (l.take (k + 1)).map (fitI t) = (l.take k).map (fitI t) ++ [fitI t l[k]] := by rw [List.take_succ_eq_append_getElem hlen, List.map_append]; rfl
      obtain ⟨⟨kd, a, bb⟩, hi⟩ : ∃ i, l[k] = i := ⟨_, rfl⟩
      rw [hi] at c0 c1 c2 hin hnx
      dsimp only at c0 c1 c2 hin
      have hrow : Hid (wr.rangeAt bp (off + k * 3) [.int .i64 kd, .int .i64 a, .int .i64 bb]) := by
        rintro (_ | _ | _ | j) v hv <;> simp at hv <;> subst hv
        · exact c0
        · exact c1
        · exact c2
      have HNX := Lib.hid hnx
      have hlk : (l.take k).length = k := by simp; omega
      have HLK : Hid (((l.take k).map (fitI t)).length = k) := by rw [Hid, List.length_map]; exact hlk
      obtain ⟨a2, ha2⟩ : ∃ a2, t + IntKind.u64.wrap a % 6 = a2 := ⟨_, rfl⟩
      have hu := IntKind.u64.wrap a
      have hmod : 0 ≤ IntKind.u64.wrap a % 6 ∧ IntKind.u64.wrap a % 6 < 6 := ⟨Int.emod_nonneg _ (by omega), Int.emod_lt_of_pos _ (by omega)⟩
      have HA2 := Lib.hid ha2
      have ew : wrap64 (t + wrap64 ((IntKind.u64.wrap a).tmod 6)) = a2 := by
        have u0 : 0 ≤ IntKind.u64.wrap a := by rw [IntKind.wrap_u64]; omega
        rw [Int.tmod_eq_emod_of_nonneg u0, IntWalk.wrap64_in (IntKind.u64.wrap a % 6) (by omega), IntWalk.wrap64_in _ (by omega)]; exact ha2
      have EW := Lib.hid ew
      clear ew
      clear hi hnx hin hlen c0 c1 c2 hu hlk
      obtain ⟨q, hq⟩ : ∃ q, wr.heap.size = q := ⟨_, rfl⟩
      obtain ⟨w2, hw2⟩ : ∃ w2, wr.alloc (.cells #[.int .i64 0, .int .i64 0, .int .i64 0] 82) = w2 := ⟨_, rfl⟩
      have hg2 : Hid (w2.heap[q]? = some (.cells #[.int .i64 0, .int .i64 0, .int .i64 0] 82 (0, 0))) := by rw [← hw2, ← hq]; exact new_row _ _ _
      go_upto_region 6 with (first
        | (refine wpList_load_mid rfl 82 _ rfl bp (off + k * 3) (by first | rfl | simp) [.int .i64 kd, .int .i64 a, .int .i64 bb] _ hrow.out Tryz.underlying82 rfl ins_size ?_)
        | (refine wpList_store_row rfl 82 _ _ rfl q #[.int .i64 kd, .int .i64 a, .int .i64 bb] rfl rfl 82 #[.int .i64 0, .int .i64 0, .int .i64 0] hg2.out ins_size rfl (by simp [Value.oneCell']) ?_))
      obtain ⟨w3, hw3⟩ : ∃ w3, w2.setRow q #[.int .i64 kd, .int .i64 a, .int .i64 bb] = w3 := ⟨_, rfl⟩
      have R3 : w3.heap[q]? = some (.cells #[.int .i64 kd, .int .i64 a, .int .i64 bb] 82 (0, 0)) := by rw [← hw3]; exact setRow_same hg2.out
      have s3 : w3.heap.size = q + 1 := by rw [← hw3, Bas.setRow_size, ← hw2, ← hq]; simp
      have b3 : Below q wr w3 := by rw [← hw3, ← hw2]; exact setRow_below ((Below.refl _ _).alloc (by omega) _) (Nat.le_refl _) _
      rw [hw3]
      have f1 : ∀ j, w3.cell? ⟨q, j, none⟩ = (#[.int .i64 kd, .int .i64 a, .int .i64 bb] : Array Value)[j]? := fun j => cell_of_row _ _ _ _ _ _ R3
      have f2 : ∀ j v, w3.setCell ⟨q, j, none⟩ v = w3.setRow q ((#[.int .i64 kd, .int .i64 a, .int .i64 bb] : Array Value).setIfInBounds j v) := fun j v => setCell_row R3
      have f3 : ∀ j, w3.frozen? ⟨q, j, none⟩ = false := row_frozen R3
      have f4 : ∀ cs j, (w3.setRow q cs).cell? ⟨q, j, none⟩ = cs[j]? := fun cs j => setRow_cell R3 cs j
      have f5 : ∀ cs j v, (w3.setRow q cs).setCell ⟨q, j, none⟩ v = w3.setRow q (cs.setIfInBounds j v) := fun cs j v => setRow_setCell R3 cs j v
      have f6 : ∀ cs j, (w3.setRow q cs).frozen? ⟨q, j, none⟩ = false := fun cs j => row_frozen (setRow_same R3) j
      have HR3 := Lib.hid R3
      have B3 : Hid (Below g w w3) := HB.out.trans (b3.mono (by omega))
      have T3 : Hid (ITold w3 g ((l.take k).map (fitI t)) u5) := HT.out.kept fun j hj => b3.block j (by rw [← hq]; exact HT.out.own_lt hj)
      have OQ : Hid (∀ j, u5.ownBlock = some j → j < q) := fun j hj => by have := HT.out.own_lt hj; omega
      have S3 := Lib.hid s3
      clear hw3 hw2 hg2 hrow R3 b3 HB HT s3
      go_upto_region 7 with fail
      rw [EW.out]
      obtain ⟨w4, hw4⟩ : ∃ w4, w3.setRow q #[.int .i64 kd, .int .i64 a2, .int .i64 bb] = w4 := ⟨_, rfl⟩
      rw [hw4]
      have R4 : w4.heap[q]? = some (.cells #[.int .i64 kd, .int .i64 a2, .int .i64 bb] 82 (0, 0)) := by rw [← hw4]; exact setRow_same HR3.out
      have k1 : ∀ j, w4.cell? ⟨q, j, none⟩ = (#[.int .i64 kd, .int .i64 a2, .int .i64 bb] : Array Value)[j]? := fun j => cell_of_row _ _ _ _ _ _ R4
      have k2 : ∀ j v, w4.setCell ⟨q, j, none⟩ v = w4.setRow q ((#[.int .i64 kd, .int .i64 a2, .int .i64 bb] : Array Value).setIfInBounds j v) := fun j v => setCell_row R4
      have k3 : ∀ j, w4.frozen? ⟨q, j, none⟩ = false := row_frozen R4
      have HR4 := Lib.hid R4
      have S4 : Hid (w4.heap.size = q + 1) := by rw [← hw4, Hid, Bas.setRow_size]; exact S3.out
      have hbq : g ≤ q := by omega
      have B4 : Hid (Below g w w4) := by rw [← hw4]; exact setRow_below B3.out hbq _
      have T4 : Hid (ITold w4 g ((l.take k).map (fitI t)) u5) := T3.out.kept fun j hj => by rw [← hw4, setRow_other _ _ _ _ (by have := OQ.out j hj; omega)]
      clear f1 f2 f3 f4 f5 f6 HR3 S3 B3 T3 hw4 R4 EW
      obtain ⟨kf, hkf⟩ : ∃ kf, (fitI t ⟨kd, a, bb⟩).kind = kf := ⟨_, rfl⟩
      have HNX2 : Hid ((l.take (k + 1)).map (fitI t) = (l.take k).map (fitI t) ++ [⟨kf, a2, bb⟩]) := by
        rw [Hid, HNX.out]
        congr 1
        unfold fitI at hkf ⊢
        simp only at hkf
        rw [hkf, HA2.out]
      clear HNX HA2
      have hkf' : kf = if kd = 3 ∨ 4 < kd ∨ kd < 0 then 0 else kd := by rw [← hkf]; rfl
      clear hkf
      have alt : ((kd == 3) = true ∧ kf = 0) ∨ ((kd == 3) = false ∧ decide (4 < kd) = true ∧ kf = 0) ∨ ((kd == 3) = false ∧ decide (4 < kd) = false ∧ decide (kd < 0) = true ∧ kf = 0) ∨ ((kd == 3) = false ∧ decide (4 < kd) = false ∧ decide (kd < 0) = false ∧ kf = kd) := by
        by_cases h3 : kd = 3
        · exact .inl ⟨by simp [h3], by rw [hkf', if_pos (.inl h3)]⟩
        · by_cases h4 : 4 < kd
          · exact .inr (.inl ⟨by simp [h3], by simp [h4], by rw [hkf', if_pos (.inr (.inl h4))]⟩)
          · by_cases h5 : kd < 0
            · exact .inr (.inr (.inl ⟨by simp [h3], by simp; omega, by simp [h5], by rw [hkf', if_pos (.inr (.inr h5))]⟩))
            · exact .inr (.inr (.inr ⟨by simp [h3], by simp; omega, by simp; omega, by rw [hkf', if_neg (by omega)]⟩))
      clear hkf'
      have KEY : Hid (∀ w5, w5 = w4.setRow q #[.int .i64 kf, .int .i64 a2, .int .i64 bb] → w5.heap[q]? = some (.cells #[.int .i64 kf, .int .i64 a2, .int .i64 bb] 82 (0, 0)) ∧ w5.heap.size = q + 1 ∧ Below g w w5 ∧ ITold w5 g ((l.take k).map (fitI t)) u5) := fun w5 e => by
        rw [e]
        refine ⟨setRow_same HR4.out, by rw [Bas.setRow_size]; exact S4.out, setRow_below B4.out hbq _, T4.out.kept fun j hj => setRow_other _ _ _ _ (by have := OQ.out j hj; omega)⟩
      have same : Hid (kf = kd → w4 = w4.setRow q #[.int .i64 kf, .int .i64 a2, .int .i64 bb]) := fun e => by rw [e]; exact (setRow_is HR4.out).symm
      rcases alt with ⟨y1, rfl⟩ | ⟨y1, y2, rfl⟩ | ⟨y1, y2, y3, rfl⟩ | ⟨y1, y2, y3, y4⟩
      rotate_right
      · have E5 := same.out y4
        rw [← E5] at KEY
        rw [y4] at HNX2 KEY
        obtain ⟨R5, s5, B5, T5⟩ := KEY.out w4 rfl
        have T5' := Lib.hid T5
        have B5' := Lib.hid B5
        have R5' := Lib.hid R5
        have S5 := Lib.hid s5
        clear KEY same R5 s5 B5 T5 E5 y4
        go_wp2_with (first
          | (refine wpList_load_row rfl 82 _ rfl q rfl 82 #[.int .i64 kd, .int .i64 a2, .int .i64 bb] (0, 0) _ R5'.out Tryz.underlying82 rfl ins_size ?_)
          | (refine wpList_ins1 rfl _ rfl _ _ _ rfl ?_)
          | (at_builtin; have X1 := T5'.out.kept (w' := w4.alloc (.cells #[.int .i64 kd, .int .i64 a2, .int .i64 bb] 82)) (fun j hj => alloc_heap _ _ _ (T5'.out.own_lt hj)); have X2 : ((l.take k).map (fitI t)).length ≤ 10000 := (by rw [HLK.out]; omega); have X3 : g ≤ (w4.alloc (.cells #[.int .i64 kd, .int .i64 a2, .int .i64 bb] 82)).heap.size := (by have e := S5.out; simp; omega); refine wpList_addins rfl _ _ rfl g _ u5 rfl X1 X2 X3 w4.heap.size ⟨kd, a2, bb⟩ rfl (new_row _ _ _) ?_; intro v6 w6 t6 g6 o6
             have T6 : Hid (ITold w6 g ((l.take (k + 1)).map (fitI t)) v6) := by rw [Hid, HNX2.out]; exact t6
             have B6 : Hid (Below g w w6) := (B5'.out.alloc (by have e := S5.out; omega) _).grown g6 X3 (fun j hj => T5'.out.block hj)
             clear t6 g6 o6))
        go_roundw
        case rel => exact ⟨k + 1, by omega, by omega, by go_num, T6, B6⟩
        case measure => simp [intOf]; omega
      all_goals (
        obtain ⟨w5, hw5⟩ : ∃ w5, w4.setRow q #[.int .i64 0, .int .i64 a2, .int .i64 bb] = w5 := ⟨_, rfl⟩
        obtain ⟨R5, s5, B5, T5⟩ := KEY.out w5 hw5.symm
        have T5' := Lib.hid T5
        have B5' := Lib.hid B5
        have R5' := Lib.hid R5
        have S5 := Lib.hid s5
        clear KEY same R5 s5 B5 T5
        go_wp2_with (first
          | (refine wpList_load_row rfl 82 _ rfl q rfl 82 #[.int .i64 0, .int .i64 a2, .int .i64 bb] (0, 0) _ R5'.out Tryz.underlying82 rfl ins_size ?_)
          | (refine wpList_ins1 rfl _ rfl _ _ _ rfl ?_)
          | (at_builtin; have X1 := T5'.out.kept (w' := w5.alloc (.cells #[.int .i64 0, .int .i64 a2, .int .i64 bb] 82)) (fun j hj => alloc_heap _ _ _ (T5'.out.own_lt hj)); have X2 : ((l.take k).map (fitI t)).length ≤ 10000 := (by rw [HLK.out]; omega); have X3 : g ≤ (w5.alloc (.cells #[.int .i64 0, .int .i64 a2, .int .i64 bb] 82)).heap.size := (by have e := S5.out; simp; omega); refine wpList_addins rfl _ _ rfl g _ u5 rfl X1 X2 X3 w5.heap.size ⟨0, a2, bb⟩ rfl (new_row _ _ _) ?_; intro v6 w6 t6 g6 o6
             have T6 : Hid (ITold w6 g ((l.take (k + 1)).map (fitI t)) v6) := by rw [Hid, HNX2.out]; exact t6
             have B6 : Hid (Below g w w6) := (B5'.out.alloc (by have e := S5.out; omega) _).grown g6 X3 (fun j hj => T5'.out.block hj)
             clear t6 g6 o6))
        go_roundw
        case rel => exact ⟨k + 1, by omega, by omega, by go_num, T6, B6⟩
        case measure => simp [intOf]; omega)
    · have hE : (l.take k).map (fitI t) = fits t l := by
        unfold fits
        by_cases h20 : k < 20
        · have hnk : n = k := by omega
          rw [List.take_of_length_le (by rw [HN.out]; omega), List.take_of_length_le (by rw [HN.out]; omega)]
        · rw [show k = 20 by omega]
      have FIN : Hid (ITold wr g (fits t l) u5) := by rw [Hid, ← hE]; exact HT.out
      clear hE HT
      by_cases h20 : k < 20
      · obtain rfl : n = k := by omega
        go_wp2
        go_ret
        exact ⟨_, rfl, FIN.out, HB.out⟩
      · obtain rfl : k = 20 := by omega
        by_cases h2 : 20 < n
        · go_wp2
          go_ret
          exact ⟨_, rfl, FIN.out, HB.out⟩
        · obtain rfl : n = 20 := by omega
          go_wp2
          go_ret
          exact ⟨_, rfl, FIN.out, HB.out⟩

end Att
end Go.Proofs.YthojgahcpkdemaaGreat

/- what an attempt makes of a small program -/
namespace Go.Proofs.YthojgahcpkdemaaGreat
open Go.RowKit Go.Bas View VIn IMap_ VPlain SorPlain
open Go.ChangeShapes Go.Sor
namespace Att

theorem play_fit (f : Int → Option Int) (lo hi : Int) : ∀ (l : List Ins) (sk : Bool) (x : Int) (m : M) (qs : List Int), (∀ i ∈ l, i.kind ≠ 3 ∧ lo ≤ i.a ∧ i.a < hi) → Rising m → (∀ p ∈ m, lo ≤ p.1 ∧ p.1 < hi) →
    (∀ a, (play f l sk x m qs).1 = .inl a → 0 ≤ a ∧ lo ≤ a ∧ a < hi ∧ f a = none) ∧ (∀ m', (play f l sk x m qs).1 = .inr m' → Rising m' ∧ ∀ p ∈ m', lo ≤ p.1 ∧ p.1 < hi)
  | [], sk, x, m, qs, _, hr, hm => by
    cases sk <;> exact ⟨fun a h => by simp [play] at h, fun m' h => by simp [play] at h; subst h; exact ⟨hr, hm⟩⟩
  | i :: r, true, x, m, qs, hl, hr, hm => by
    have h := play_fit f lo hi r false x m qs (fun i hi => hl i (by simp [hi])) hr hm
    simpa only [play] using h
  | i :: r, false, x, m, qs, hl, hr, hm => by
    obtain ⟨h3, ha, hb⟩ := hl i (by simp)
    have hl2 : ∀ j ∈ r, j.kind ≠ 3 ∧ lo ≤ j.a ∧ j.a < hi := fun j hj => hl j (by simp [hj])
    have key := fun sk y m2 q2 (h1 : Rising m2) (h2 : ∀ p ∈ m2, lo ≤ p.1 ∧ p.1 < hi) => play_fit f lo hi r sk y m2 q2 hl2 h1 h2
    have hw : ∀ y, Rising (VPlain.wr m i.a y) ∧ ∀ p ∈ VPlain.wr m i.a y, lo ≤ p.1 ∧ p.1 < hi := fun y => by
      refine ⟨wr_rising hr _ _, fun p hp => ?_⟩
      unfold VPlain.wr at hp
      split at hp
      · exact hm p hp
      · rcases (mem_put _ _ _ hr).1 hp with rfl | ⟨hp, _⟩
        · exact ⟨ha, hb⟩
        · exact hm p hp
    simp only [play]
    split
    · cases h : rd f m i.a with
      | some y => exact key _ _ _ _ hr hm
      | none =>
        refine ⟨fun a e => ?_, fun m' e => by simp at e⟩
        simp at e; subst e
        unfold rd at h
        split at h
        · cases h
        · split at h
          · cases h
          · exact ⟨by omega, ha, hb, h⟩
    · split
      · exact key _ _ _ _ (hw _).1 (hw _).2
      · split
        · exact key _ _ _ _ (hw _).1 (hw _).2
        · split
          · exact key _ _ _ _ hr hm
          · exact key _ _ _ _ hr hm

/-- what is needed, or was written -/
def runOf (ps : List Ins) (l : M) : Int × M := match (play (VPlain.first l) ps false 0 [] []).1 with | .inl a => (a, []) | .inr m => (-1, m)
theorem fits_in (t : Int) (l : List Ins) : ∀ i ∈ fits t l, i.kind ≠ 3 ∧ t ≤ i.a ∧ i.a < t + 6 := fun i hi => by
  unfold fits at hi
  obtain ⟨j, hj, rfl⟩ := List.mem_map.1 hi
  refine ⟨?_, ?_, ?_⟩
  · unfold fitI
    simp only
    split
    · decide
    · rename_i h; intro e; exact h (.inl e)
  · have := Int.emod_nonneg (IntKind.u64.wrap j.a) (b := 6) (by omega); show t ≤ t + _; omega
  · have := Int.emod_lt_of_pos (IntKind.u64.wrap j.a) (b := 6) (by omega); show t + _ < _; omega
theorem first_none {l : M} {a : Int} (h : VPlain.first l a = none) : a ∉ l.map (·.1) := fun hm => by
  obtain ⟨p, hp, e⟩ := List.mem_map.1 hm
  unfold VPlain.first at h
  have := List.find?_eq_none.1 (Option.map_eq_none_iff.1 h) p hp
  exact this (by simpa using e)
theorem runOf_need {t : Int} (l : List Ins) (k : M) (h : 0 ≤ (runOf (fits t l) k).1) : (t ≤ (runOf (fits t l) k).1 ∧ (runOf (fits t l) k).1 < t + 6) ∧ (runOf (fits t l) k).1 ∉ k.map (·.1) := by
  have pf := play_fit (VPlain.first k) t (t + 6) (fits t l) false 0 [] [] (fits_in t l) List.Pairwise.nil (by simp)
  unfold runOf at h ⊢
  cases e : (play (VPlain.first k) (fits t l) false 0 [] []).1 with
  | inl a => rw [e] at h; obtain ⟨_, h2, h3, h4⟩ := pf.1 a e; exact ⟨⟨h2, h3⟩, first_none h4⟩
  | inr m => rw [e] at h; simp at h
theorem runOf_wrote {t : Int} (ht : 0 ≤ t) (l : List Ins) (k : M) (h : (runOf (fits t l) k).1 < 0) : Up ((runOf (fits t l) k).2.map (·.1)) ∧ ∀ p ∈ (runOf (fits t l) k).2, t ≤ p.1 ∧ p.1 < t + 6 := by
  have pf := play_fit (VPlain.first k) t (t + 6) (fits t l) false 0 [] [] (fits_in t l) List.Pairwise.nil (by simp)
  unfold runOf at h ⊢
  cases e : (play (VPlain.first k) (fits t l) false 0 [] []).1 with
  | inl a => rw [e] at h; obtain ⟨h1, h2, h3, h4⟩ := pf.1 a e; simp only at h; omega
  | inr m => rw [e] at h; exact pf.2 m e
theorem runOf_neg {t : Int} (ps : List Ins) (k : M) : (runOf ps k).1 < 0 → (runOf ps k).1 = -1 ∨ (runOf ps k).2 = [] := fun _ => by
  unfold runOf
  cases (play (VPlain.first k) ps false 0 [] []).1 with
  | inl a => exact .inr rfl
  | inr m => exact .inl rfl
theorem runOf_len (ps : List Ins) (k : M) : (runOf ps k).2.length ≤ ps.length := by
  unfold runOf
  cases e : (play (VPlain.first k) ps false 0 [] []).1 with
  | inl a => simp
  | inr m => have := (play_end (VPlain.first k) ps false 0 [] []).2 m e; simpa using this

theorem prog1_any {A : View.Ask} {P : Nat → Prop} {bv bm B c : Nat} {w : World} {s : Value} {l : List Ins} (hc : w.heap[c]? = some (.cells #[s] 40 (0, 0))) (h : VWs A P bv bm true [] [] w) (hs : VIn.Steps w B s l) (hl : SIn l) (hn : l.length ≤ 1000) (hPB : ∀ k, k < B → P k) :
    Calls Tryz.prog 43 #[.pointer (some ⟨bv, 0, none⟩), .pointer (some ⟨c, 0, none⟩)] w fun e w' => Ran A P bv bm (play A.f l false 0 [] []) e w' ∧ Kept P w w' := by
  have k0 : w.cell? ⟨c, 0, none⟩ = some s := by rw [cell_of_row _ _ _ _ _ _ hc]; rfl
  have PL := Lib.hid (plays_any h hs hl hn hPB)
  clear h hs hl hn hPB hc
  go_enter Tryz.func43, Tryz.ntmps43
  go_wp2_with (first
    | (go_at_call 44; refine PL.out.mono ?_; rintro e w2 ⟨⟨m, q1, rfl, q2⟩ | ⟨a, m, q1, rfl, q2⟩, q3⟩))
  · go_end0
    exact ⟨.inl ⟨m, q1, rfl, q2⟩, q3⟩
  · exact ⟨rfl, .inr ⟨a, m, q1, rfl, q2⟩, q3⟩

def progV (c : Nat) : Value := .func (.func 43) #[] #[.pointer (some ⟨c, 0, none⟩)]
theorem prog_made (A0 : Option Addr) (n cp : Nat) (w : World) : Calls Tryz.prog 13 #[.slice A0 n cp] w fun e w' => ∃ c, e = .returned (progV c) ∧ w.heap.size ≤ c ∧ w'.heap[c]? = some (.cells #[.slice A0 n cp] 40 (0, 0)) ∧ Below w.heap.size w w' := by
  have hmf : ∀ (fn : Fn) (first cap : Array Value) (w : World), (Instr.makeFunc fn first cap).run Tryz.prog w = .ok (.func fn first cap) w := fun _ _ _ _ => rfl
  obtain ⟨g, hg⟩ : ∃ g, w.heap.size = g := ⟨_, rfl⟩
  obtain ⟨w1, hw1⟩ : ∃ w1, w.alloc (.cells #[.slice A0 n cp] 40) = w1 := ⟨_, rfl⟩
  have FIN : Hid (w1.heap[g]? = some (.cells #[.slice A0 n cp] 40 (0, 0)) ∧ Below g w w1) := by
    rw [← hw1, Hid, ← hg]; exact ⟨new_row _ _ _, (Below.refl _ _).alloc (Nat.le_refl _) _⟩
  go_enter Tryz.func13, Tryz.ntmps13
  go_wp2
  go_ret
  rw [hg]
  exact ⟨g, rfl, Nat.le_refl _, FIN.out.1, FIN.out.2⟩

theorem runs_prog {w : World} {c base : Nat} {s : Value} {t : Int} (ht : 0 ≤ t ∧ t ≤ 1000000) {l : List Ins} (hc : w.heap[c]? = some (.cells #[s] 40 (0, 0))) (hs : ITold w base (fits t l) s) (hl : SIn l) :
    Runs w (fun k => k = c ∨ s.ownBlock = some k) (progV c) (runOf (fits t l)) := by
  intro w' hk sk lk hP hPI hn
  have hin : SIn (fits t l) := fun p hp => by
    have h1 := fits_in t l p hp
    unfold fits at hp
    obtain ⟨j, hj, rfl⟩ := List.mem_map.1 hp
    exact ⟨⟨by omega, by omega⟩, (hl j (List.mem_of_mem_take hj)).2⟩
  have hlen := fits_len t l
  have hc' : w'.heap[c]? = some (.cells #[s] 40 (0, 0)) := by rw [hk c (.inl rfl)]; exact hc
  have hs' : ITold w' base (fits t l) s := hs.kept fun k e => hk k (.inr e)
  have pe := play_end (VPlain.first lk) (fits t l) false 0 [] []
  have pf := play_fit (VPlain.first lk) t (t + 6) (fits t l) false 0 [] [] (fits_in t l) List.Pairwise.nil (by simp)
  refine (run_known hP hPI hn 43 #[.pointer (some ⟨c, 0, none⟩)] (play (VPlain.first lk) (fits t l) false 0 [] []) (callFunc_run Tryz.func43 (by kernel_rfl) (by kernel_rfl))
    (fun A hA bv bm Q w2 hQ hb hv => by
      have := prog1_any (A := A) (P := Q) (bv := bv) (bm := bm) (B := w'.heap.size) (c := c) (w := w2) (s := s) (l := fits t l) (by rw [hb.block c (Array.getElem?_eq_some_iff.1 hc').1]; exact hc') hv (hs'.steps.below hb) hin (by omega) (fun k hk => hQ k hk)
      rw [hA] at this
      exact this) (fun m hm => by have := pe.2 m hm; simp at this; omega) pe.1).mono ?_
  rintro e w2 ⟨⟨m, r, h1, rfl, h2, h3⟩ | ⟨a, h1, rfl⟩, hb⟩
  · refine ⟨.inl ⟨?_, r, rfl, ?_, ?_⟩, hb⟩
    · unfold runOf; rw [h1]
    · unfold runOf; rw [h1]; exact h2
    · unfold runOf; rw [h1]; exact h3
  · obtain ⟨h2, h3, h4, h5⟩ := pf.1 a h1
    have e1 : runOf (fits t l) lk = (a, []) := by unfold runOf; rw [h1]
    rw [e1]
    exact ⟨.inr ⟨h2, by show a ≤ _; omega, rfl⟩, hb⟩

end Att
end Go.Proofs.YthojgahcpkdemaaGreat

/- where the Table words begin -/
namespace Go.Proofs.YthojgahcpkdemaaGreat
open Go.RowKit Go.Bas View VIn IMap_ Lay RefLay Of
namespace Att

set_option maxRecDepth 100000 in
theorem chunks_at (c : Cfg) (a : At) (h : 1 ≤ c.pages ∧ c.pages ≤ 1000000) (w : World) :
    Calls Tryz.prog 46 #[.agg (lay c a)] w fun e w' => e = .returned (.int .i64 ((c.pages + 3) / 4)) ∧ Below w.heap.size w w' := by
  have CH := fun w => chunks_fn c.pages w (by omega)
  go_enter Tryz.func46, Tryz.ntmps46
  obtain ⟨w1, hw1⟩ : ∃ w1, w.alloc (.cells (lay c a) 29) = w1 := ⟨_, rfl⟩
  have h1 : w1.heap[w.heap.size]? = some (.cells (lay c a) 29 (0, 0)) := by rw [← hw1]; exact new_row _ _ _
  have B1 : Hid (Below w.heap.size w w1) := by rw [← hw1]; exact (Below.refl _ _).alloc (Nat.le_refl _) _
  have k2 : w1.cell? ⟨w.heap.size, 2, none⟩ = some (.int .i64 c.pages) := by rw [cell_of_row _ _ _ _ _ _ h1]; rfl
  clear h1
  go_wp2_with (first | (go_at_call 59; refine (CH _).mono ?_; rintro e w2 ⟨rfl, rfl⟩))
  go_ret
  exact ⟨rfl, B1.out⟩
set_option maxRecDepth 100000 in
theorem in_at (c : Cfg) (a : At) (n : Int) (h : 1 ≤ n) (ha : 0 ≤ a.a0 ∧ a.a0 ≤ 1000000) (w : World) :
    Calls Tryz.prog 45 #[.agg (lay c a), .int .i64 0, .int .i64 0, .int .i64 n] w fun e w' => e = .returned (.int .i64 a.a0) ∧ Below w.heap.size w w' := by
  obtain ⟨w1, hw1⟩ : ∃ w1, w.alloc (.cells (lay c a) 29) = w1 := ⟨_, rfl⟩
  have h1 : w1.heap[w.heap.size]? = some (.cells (lay c a) 29 (0, 0)) := by rw [← hw1]; exact new_row _ _ _
  have B1 : Hid (Below w.heap.size w w1) := by rw [← hw1]; exact (Below.refl _ _).alloc (Nat.le_refl _) _
  have k2 : w1.cell? ⟨w.heap.size, 11, none⟩ = some (.int .i64 a.a0) := by rw [cell_of_row _ _ _ _ _ _ h1]; rfl
  have e0 : wrap64 a.a0 = a.a0 := IntWalk.wrap64_in _ (by omega)
  have g1 : decide (n ≤ 0) = false := by simp; omega
  clear h1
  go_enter Tryz.func45, Tryz.ntmps45
  go_wp2
  go_ret
  exact ⟨by first | rfl | simp [e0], B1.out⟩
set_option maxRecDepth 100000 in
theorem table_at (c : Cfg) (a : At) (h : 1 ≤ c.pages ∧ c.pages ≤ 1000000) (ha : 0 ≤ a.a0 ∧ a.a0 ≤ 1000000) (w : World) :
    Calls Tryz.prog 15 #[.agg (lay c a), .int .i64 0] w fun e w' => e = .returned (.int .i64 a.a0) ∧ Below w.heap.size w w' := by
  obtain ⟨B, hB⟩ : ∃ B, w.heap.size = B := ⟨_, rfl⟩
  obtain ⟨w1, hw1⟩ : ∃ w1, w.alloc (.cells (lay c a) 29) = w1 := ⟨_, rfl⟩
  have h1 : Hid (w1.heap[B]? = some (.cells (lay c a) 29 (0, 0))) := by rw [← hw1, ← hB]; exact new_row _ _ _
  have B1 : Hid (Below B w w1) := by rw [← hw1, ← hB]; exact (Below.refl _ _).alloc (Nat.le_refl _) _
  have s1 : w1.heap.size = B + 1 := by rw [← hw1, ← hB]; simp
  have hs1 : B + 1 ≤ w1.heap.size := by omega
  have H := Lib.hid h; have HA := Lib.hid ha
  go_enter Tryz.func15, Tryz.ntmps15
  go_upto_region 1 with fail
  refine wp_region_mono w1.heap.size (by kernel_rfl) (by kernel_rfl) ?_
  repeat (any_goals (first
      | (refine wpQuiet_load_row rfl 29 _ rfl B rfl 29 (lay c a) (0, 0) _ (ext_row h1.out (by omega)) Tryz.underlying29 rfl (lay_size c a) ?_; go_simp)
      | go_big_quiet_step ((first
         | (go_at_call 46; exact Calls.ext (Nat.le_refl _) (chunks_at c a H.out _))
         | (go_at_call 45; exact Calls.ext (Nat.le_refl _) (in_at c a _ (by have := H.out; omega) HA.out _))))))
  refine wpQuiet_nil ?_
  rintro ⟨w2, hb2⟩
  go_wp2
  go_ret
  exact ⟨rfl, B1.out.trans (hb2.mono (by omega))⟩
end Att
end Go.Proofs.YthojgahcpkdemaaGreat

/- the statements' example -/
namespace Go.Proofs.YthojgahcpkdemaaGreat
open Go.RowKit Go.Bas View VIn IMap_ VPlain Lay RefLay Of Small_
open Go.ChangeShapes Go.Sor
namespace Att

theorem blk_below {w w' : World} {l : Nat} {x} (h : w.heap[l]? = some x) (hb : Below w.heap.size w w') : w'.heap[l]? = some x := (hb.block _ (Array.getElem?_eq_some_iff.1 h).1).trans h

def livV : Value := .func (.func 51) #[] #[]
theorem livprog_any {A : View.Ask} {P : Nat → Prop} {bv bm : Nat} {w : World} (h : VWs A P bv bm true [] [] w) :
    Calls Tryz.prog 51 #[.pointer (some ⟨bv, 0, none⟩)] w fun e w' => Ran A P bv bm (.inr [(9, 7)], []) e w' ∧ Kept P w w' := by
  have PL := Lib.hid (View.write_any h (by simp) 9 7 (by unfold In64; omega) (by unfold In64; omega))
  clear h
  go_enter Tryz.func51, Tryz.ntmps51
  go_wp2_with (first
    | (go_at_call 52; refine PL.out.mono ?_; rintro e w2 ⟨rfl, q2, q3⟩))
  go_end0
  exact ⟨.inl ⟨[(9, 7)], rfl, rfl, q2⟩, q3⟩
theorem runs_liv (w : World) : Runs w (fun _ => False) livV runL := by
  intro w' _ sk lk hP hPI hn
  refine (run_known hP hPI hn 51 #[] (.inr [(9, 7)], []) (callFunc_run Tryz.func51 (by kernel_rfl) (by kernel_rfl))
    (fun A hA bv bm Q w2 hQ hb hv => livprog_any hv) (fun m hm => by have : [(9, 7)] = m := Sum.inr.inj hm; subst this; simp) (fun a h => by cases h)).mono ?_
  rintro e w2 ⟨⟨m, r, h1, rfl, h2, h3⟩ | ⟨a, h1, rfl⟩, hb⟩
  · have : [(9, 7)] = m := Sum.inr.inj h1
    subst this
    exact ⟨.inl ⟨rfl, r, rfl, h2, h3⟩, hb⟩
  · cases h1

theorem built_cfg0 : Tryz.prog.built 23 [] = some (cfg zc0) := by kernel_rfl

theorem One.low {g0 : Nat} {w : World} {b a g : Nat} {cf : Cfg} {at_ : At} {run : M → Int × M} {T : AT} {W : List Int} {c : Int} (h : One w (fun k => k < g0) b a g cf at_ run T W c) : g0 ≤ w.heap.size := Nat.le_of_not_lt fun hlt => by have := (h.kept w.heap.size hlt).1; omega
/-- the example's state -/
def Liv (g0 : Nat) (w : World) (b a g : Nat) (k : Nat) : Prop := ∃ c, One w (fun k => k < g0) b a g lc (places lc) runL (sim k).1 (sim k).2 c ∧ 0 ≤ c ∧ c ≤ k + 10
/-- .. and over -/
def LivO (g0 : Nat) (w : World) (b a g : Nat) : Prop := ∃ c, One w (fun k => k < g0) b a g lc (places lc) runL (sim 9).1 (sim 9).2 c
theorem liv_step {g0 : Nat} {w : World} {b a g k : Nat} (h : Liv g0 w b a g k) (hk : k < 9) :
    Calls Tryz.prog 16 #[.pointer (some ⟨b, 0, none⟩), .pointer (some ⟨a, 0, none⟩)] w fun e w' => e = .returned (.int .i64 (told (sim (k + 1)).1)) ∧ Liv g0 w' b a g (k + 1) ∧ Below g0 w w' := by
  obtain ⟨c, h, hc⟩ := h
  obtain ⟨h1, h2, h3⟩ := sim_ok k (by omega)
  refine (h.step (lo := 9) (d := 1) good_L (by omega) (by decide) (by decide) (fun l => by show (1 : Nat) ≤ _; omega) h1 h3 h2 (by omega) (sim_going k hk).1).mono ?_
  rintro e w' ⟨rfl, h', hC⟩
  refine ⟨rfl, ⟨_, h', ?_⟩, hC.below (Nat.le_of_not_lt fun hlt => ?_) (fun k hk => Nat.le_of_not_lt hk)⟩
  · unfold cnt; split <;> omega
  · have := h.low; omega
theorem liv_over {g0 : Nat} {w : World} {b a g : Nat} (h : LivO g0 w b a g) (m : Value) :
    Calls Tryz.prog 16 #[.pointer (some ⟨b, 0, none⟩), m] w fun e w' => e = .returned (.int .i64 1) ∧ Below g0 w w' := by
  obtain ⟨c, h⟩ := h
  obtain ⟨X, hr⟩ := h.row
  refine (step_over hr sim_end.2.1 m).mono ?_
  rintro e w' ⟨rfl, hb⟩
  rw [sim_end.1]
  exact ⟨rfl, hb.mono h.low⟩
theorem liv_stamp {g0 : Nat} {w : World} {b a g : Nat} (h : LivO g0 w b a g) :
    Calls Tryz.prog 23 #[.pointer (some ⟨b, 0, none⟩)] w fun e w' => e = .returned (.int .i64 1) ∧ LivO g0 w' b a g ∧ Below g0 w w' := by
  obtain ⟨c, h⟩ := h
  obtain ⟨X, hr⟩ := h.row
  refine (stamp_any hr).mono ?_
  rintro e w' ⟨rfl, hb⟩
  rw [sim_end.2.2.1]
  exact ⟨rfl, ⟨c, h.below hb⟩, hb.mono h.low⟩
theorem liv_load {g0 : Nat} {w : World} {b a g : Nat} (h : Liv g0 w b a g 9) :
    Calls Tryz.prog 19 #[.pointer (some ⟨a, 0, none⟩), .int .i64 9] w fun e w' => e = .returned (.tuple #[.int .i64 7, .int .i64 0]) ∧ LivO g0 w' b a g ∧ Below g0 w w' := by
  obtain ⟨c, h, hc⟩ := h
  have hl := (sim_ok 9 (by omega)).1.len
  rw [EL_is] at hl
  dsimp only at hl
  have e : errB (sim 9).2 9 = 0 := by unfold errB; rw [show inn (sim 9).2 9 = true from by unfold inn; simp; omega]; rfl
  refine (load_any h.ar (by omega) 9).mono ?_
  rintro e w' ⟨rfl, ha, hch⟩
  rw [sim_end.2.2.2, e]
  exact ⟨rfl, ⟨_, h.arena ha hch⟩, hch.below h.low (fun k hk => Nat.le_of_not_lt fun hlt => hk.elim (h.kept k hlt).2.2.1 (h.kept k hlt).2.2.2)⟩

set_option maxRecDepth 100000 in
set_option maxHeartbeats 1000000 in
theorem lives_any (w : World) : Calls Tryz.prog 17 #[] w fun e w' => e = .returned (.bool true) ∧ Below w.heap.size w w' := by
  obtain ⟨g0, hg0⟩ : ∃ g0, w.heap.size = g0 := ⟨_, rfl⟩
  have B0 : Hid (Below g0 w w) := Below.refl _ _
  rw [hg0]
  have SM := fun w => small_of zc0 w
  have OF := fun w => of_of lc w lc_fine
  have WD := fun w => words_any lc (places lc) w
  have hw320 : (places lc).a11 = 320 := by rw [places_words]; exact lc_words
  rw [hw320] at WD
  have MD := fun w => made_any lc (places lc) 0 (.func 51) #[] #[] w
  obtain ⟨lv, hlv⟩ : ∃ lv, lay lc (places lc) = lv := ⟨_, rfl⟩
  have hls : (Tryz.prog.info? 29).map (·.size) = some lv.size := by rw [← hlv]; exact lay_size _ _
  have hl0 : lv.size = 23 := by rw [← hlv]; rfl
  have hl1 : lv.all (·.oneCell') = true := by rw [← hlv]; exact lay_one _ _
  rw [hlv] at OF WD MD
  rw [small_zc] at SM
  have HSM := Lib.hid SM; have HOF := Lib.hid OF; have HWD := Lib.hid WD; have HMD := Lib.hid MD
  have HLS := Lib.hid hls; have HL1 := Lib.hid hl1; have HL0 := Lib.hid hl0
  clear SM OF WD MD hls hl1 hl0 hlv hw320
  go_enter Tryz.func17, Tryz.ntmps17
  go_upto_region 2 with (first
    | (refine wpList_built rfl 23 _ rfl [] rfl (cfg zc0) built_cfg0 ?_)
    | (go_at_call 49; refine (HSM.out _).mono ?_; rintro e w1 ⟨rfl, hb1⟩
       obtain ⟨q, hq⟩ : ∃ q, w1.heap.size = q := ⟨_, rfl⟩
       obtain ⟨w2, hw2⟩ : ∃ w2, w1.alloc (.cells #[.int .i64 0, .int .i64 0, .int .i64 0, .int .i64 0, .int .i64 0, .int .i64 0, .int .i64 0, .int .i64 0, .int .i64 0, .int .i64 0, .int .i64 0] 23) = w2 := ⟨_, rfl⟩
       have R2 : Hid (w2.heap[q]? = some (.cells #[.int .i64 0, .int .i64 0, .int .i64 0, .int .i64 0, .int .i64 0, .int .i64 0, .int .i64 0, .int .i64 0, .int .i64 0, .int .i64 0, .int .i64 0] 23 (0, 0))) := by rw [← hw2, ← hq]; exact new_row _ _ _
       have B2 : Hid (Below g0 w w2) := by rw [← hw2]; exact ((Below.refl _ _).trans (hb1.mono (by omega))).alloc (by have := hb1.size; omega) _
       have hqg : g0 ≤ q := by have := hb1.size; omega
       clear hb1 B0)
    | (refine wpList_store_row rfl 23 _ _ rfl q (cfg ⟨2, 2, 2, 2, 0, 0, 1, 2, 0, 0, 2⟩) rfl rfl 23 #[.int .i64 0, .int .i64 0, .int .i64 0, .int .i64 0, .int .i64 0, .int .i64 0, .int .i64 0, .int .i64 0, .int .i64 0, .int .i64 0, .int .i64 0] R2.out (cfg_size _) rfl (cfg_one _) ?_))
  obtain ⟨w3, hw3⟩ : ∃ w3, w2.setRow q (cfg ⟨2, 2, 2, 2, 0, 0, 1, 2, 0, 0, 2⟩) = w3 := ⟨_, rfl⟩
  have R3 : w3.heap[q]? = some (.cells #[.int .i64 2, .int .i64 2, .int .i64 2, .int .i64 2, .int .i64 0, .int .i64 0, .int .i64 1, .int .i64 2, .int .i64 0, .int .i64 0, .int .i64 2] 23 (0, 0)) := by rw [← hw3]; exact setRow_same R2.out
  rw [hw3]
  have f1 : ∀ j, w3.cell? ⟨q, j, none⟩ = (#[.int .i64 2, .int .i64 2, .int .i64 2, .int .i64 2, .int .i64 0, .int .i64 0, .int .i64 1, .int .i64 2, .int .i64 0, .int .i64 0, .int .i64 2] : Array Value)[j]? := fun j => cell_of_row _ _ _ _ _ _ R3
  have f2 : ∀ j v, w3.setCell ⟨q, j, none⟩ v = w3.setRow q ((#[.int .i64 2, .int .i64 2, .int .i64 2, .int .i64 2, .int .i64 0, .int .i64 0, .int .i64 1, .int .i64 2, .int .i64 0, .int .i64 0, .int .i64 2] : Array Value).setIfInBounds j v) := fun j v => setCell_row R3
  have f3 : ∀ j, w3.frozen? ⟨q, j, none⟩ = false := row_frozen R3
  have f4 : ∀ cs j, (w3.setRow q cs).cell? ⟨q, j, none⟩ = cs[j]? := fun cs j => setRow_cell R3 cs j
  have f5 : ∀ cs j v, (w3.setRow q cs).setCell ⟨q, j, none⟩ v = w3.setRow q (cs.setIfInBounds j v) := fun cs j v => setRow_setCell R3 cs j v
  have f6 : ∀ cs j, (w3.setRow q cs).frozen? ⟨q, j, none⟩ = false := fun cs j => row_frozen (setRow_same R3) j
  have HR3 := Lib.hid R3
  have B3 : Hid (Below g0 w w3) := by rw [← hw3]; exact setRow_below B2.out hqg _
  clear R3 hw3 R2 hw2 B2
  go_upto_region 4 with fail
  obtain ⟨w4, hw4⟩ : ∃ w4, w3.setRow q #[.int .i64 2, .int .i64 2, .int .i64 2, .int .i64 1, .int .i64 0, .int .i64 0, .int .i64 9, .int .i64 2, .int .i64 0, .int .i64 0, .int .i64 2] = w4 := ⟨_, rfl⟩
  have R4 : Hid (w4.heap[q]? = some (.cells (cfg lc) 23 (0, 0))) := by rw [← hw4]; exact setRow_same HR3.out
  rw [hw4]
  have B4 : Hid (Below g0 w w4) := by rw [← hw4]; exact setRow_below B3.out hqg _
  have s4 : g0 ≤ w4.heap.size := by have := B4.out.size; omega
  clear B3 f1 f2 f3 f4 f5 f6 HR3 hw4
  go_upto_region 5 with (first
    | (refine wpList_load_row rfl 23 _ rfl q rfl 23 (cfg lc) (0, 0) _ R4.out Tryz.underlying23 rfl (cfg_size _) ?_)
    | (go_at_call 33; refine (HOF.out _).mono ?_; rintro e w5 ⟨rfl, hb5⟩
       obtain ⟨l, hl⟩ : ∃ l, w5.heap.size = l := ⟨_, rfl⟩
       obtain ⟨w6, hw6⟩ : ∃ w6, w5.alloc (.cells #[.int .i64 0, .int .i64 0, .int .i64 0, .int .i64 0, .int .i64 0, .int .i64 0, .int .i64 0, .int .i64 0, .int .i64 0, .int .i64 0, .int .i64 0, .int .i64 0, .int .i64 0, .int .i64 0, .int .i64 0, .int .i64 0, .int .i64 0, .int .i64 0, .int .i64 0, .int .i64 0, .int .i64 0, .int .i64 0, .int .i64 0] 29) = w6 := ⟨_, rfl⟩
       have L6 : Hid (w6.heap[l]? = some (.cells #[.int .i64 0, .int .i64 0, .int .i64 0, .int .i64 0, .int .i64 0, .int .i64 0, .int .i64 0, .int .i64 0, .int .i64 0, .int .i64 0, .int .i64 0, .int .i64 0, .int .i64 0, .int .i64 0, .int .i64 0, .int .i64 0, .int .i64 0, .int .i64 0, .int .i64 0, .int .i64 0, .int .i64 0, .int .i64 0, .int .i64 0] 29 (0, 0))) := by rw [← hw6, ← hl]; exact new_row _ _ _
       have s5 := hb5.size
       have B6 : Hid (Below g0 w w6) := by rw [← hw6]; exact (B4.out.trans (hb5.mono s4)).alloc (by omega) _
       have hlg : g0 ≤ l := by omega
       clear hb5 B4)
    | (refine wpList_store_row rfl 29 _ _ rfl l lv rfl rfl 29 #[.int .i64 0, .int .i64 0, .int .i64 0, .int .i64 0, .int .i64 0, .int .i64 0, .int .i64 0, .int .i64 0, .int .i64 0, .int .i64 0, .int .i64 0, .int .i64 0, .int .i64 0, .int .i64 0, .int .i64 0, .int .i64 0, .int .i64 0, .int .i64 0, .int .i64 0, .int .i64 0, .int .i64 0, .int .i64 0, .int .i64 0] L6.out HLS.out (by first | exact HL0.out | exact HL0.out.symm) HL1.out ?_))
  obtain ⟨w7, hw7⟩ : ∃ w7, w6.setRow l lv = w7 := ⟨_, rfl⟩
  have L7 : Hid (w7.heap[l]? = some (.cells lv 29 (0, 0))) := by rw [← hw7]; exact setRow_same L6.out
  have B7 : Hid (Below g0 w w7) := by rw [← hw7]; exact setRow_below B6.out hlg _
  have s7 : g0 ≤ w7.heap.size := by have := B7.out.size; omega
  rw [hw7]
  clear B6 hw7 L6 hw6 R4
  go_upto_region 6 with (first
    | (refine wpList_load_row rfl 29 _ rfl l rfl 29 lv (0, 0) _ L7.out Tryz.underlying29 rfl HLS.out ?_)
    | (go_at_call 50; refine (HWD.out _).mono ?_; rintro e w8 ⟨rfl, hb8⟩
       have L8 : Hid (w8.heap[l]? = some (.cells lv 29 (0, 0))) := blk_below L7.out hb8
       have B8 : Hid (Below g0 w w8) := B7.out.trans (hb8.mono s7)
       have s8 : g0 ≤ w8.heap.size := by have := B8.out.size; omega
       clear hb8 L7 B7)
    | (go_at_call 38; refine (new_any 320 (by omega) (by omega) _).mono ?_; rintro e w9 ⟨a, g, rfl, ha, hg, hA9, hb9⟩
       have A9 := Lib.hid hA9
       have L9 : Hid (w9.heap[l]? = some (.cells lv 29 (0, 0))) := blk_below L8.out hb9
       have B9 : Hid (Below g0 w w9) := B8.out.trans (hb9.mono s8)
       have s9 : g0 ≤ w9.heap.size := by have := B9.out.size; omega
       have hag : g0 ≤ a ∧ g0 ≤ g := by omega
       clear hA9 hb9 L8 B8))
  go_upto_region 8 with (first
    | (refine wpList_load_row rfl 29 _ rfl l rfl 29 lv (0, 0) _ L9.out Tryz.underlying29 rfl HLS.out ?_)
    | (go_at_call 12; refine (HMD.out _).mono ?_; rintro e w10 ⟨b, rfl, hb, hbs, hR, hb10⟩
       have B10 : Hid (Below g0 w w10) := B9.out.trans (hb10.mono s9)
       have LV : Hid (Liv g0 w10 b a g 0) := by
         have h1 := A9.out.lt
         exact ⟨0, One.new hR (A9.out.below hb10) (by omega) ((runs_liv _).mono (fun k h => h.elim)) (fun k h => by have := hb10.size; have h : k < g0 := h; omega), by omega, by omega⟩
       clear hR hb10 B9))
  clear HSM HOF HWD HMD HLS HL1 HL0 L9 A9
  go_loopw [7] (fun u7 wr => ∃ k : Nat, k ≤ 8 ∧ u7 = .int .i64 k ∧ Hid (Liv g0 wr b a g k) ∧ Hid (Below g0 w wr)) (fun u7 _ => 9 - (intOf u7).toNat)
  case atStart => exact ⟨0, by omega, rfl, LV, B10⟩
  case round =>
    clear LV B10
    obtain ⟨k, hk, rfl, HL, HB⟩ := hrel
    by_cases h8 : k = 8
    · subst h8
      go_upto_region 10 with (first
        | (go_at_call 16; refine (liv_step HL.out (by omega)).mono ?_; rintro e w11 ⟨rfl, hO, hb11⟩
           have B11 : Hid (Below g0 w w11) := HB.out.trans hb11
           rw [sim_end.1]
           have HO : Hid (Liv g0 w11 b a g 9) := hO
           clear hO HL hb11 HB))
      go_wp2_with (first
        | (go_at_call 19; refine (liv_load HO.out).mono ?_; rintro e w12 ⟨rfl, hO2, hb12⟩
           have B12 : Hid (Below g0 w w12) := B11.out.trans hb12
           have HO2 := Lib.hid hO2
           clear hO2 HO hb12 B11)
        | (go_at_call 23; refine (liv_stamp HO2.out).mono ?_; rintro e w13 ⟨rfl, hO3, hb13⟩
           have B13 : Hid (Below g0 w w13) := B12.out.trans hb13
           have HO3 := Lib.hid hO3
           clear hO3 HO2 hb13 B12)
        | (go_at_call 16; refine (liv_over HO3.out _).mono ?_; rintro e w14 ⟨rfl, hb14⟩
           have B14 : Hid (Below g0 w w14) := B13.out.trans hb14
           clear hb14 B13))
      go_ret
      exact ⟨rfl, B14.out⟩
    · have hgo := (sim_going (k + 1) (by omega)).2
      go_wp2_with (first
        | (go_at_call 16; refine (liv_step HL.out (by omega)).mono ?_; rintro e w11 ⟨rfl, hO, hb11⟩
           rw [hgo]
           have B11 : Hid (Below g0 w w11) := HB.out.trans hb11
           have HO := Lib.hid hO
           clear hO HL HB hb11))
      go_roundw
      case rel => exact ⟨k + 1, by omega, by go_num, HO, B11⟩
      case measure => simp [intOf]; omega

end Att
end Go.Proofs.YthojgahcpkdemaaGreat
