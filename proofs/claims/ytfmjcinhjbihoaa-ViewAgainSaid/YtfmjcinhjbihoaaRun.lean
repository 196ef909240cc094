import Derived.Test.YtfmjcinhjbihoaaFirsts
namespace Go.Proofs.Ytfmjcinhjbihoaa
open Go.RowKit Go.Bas SorPlain Go.Sor IMap_ VIn VPlain MapI
namespace View

theorem ask_known {w : World} {c g n : Nat} {f : Int → Option Int} (hc : w.heap[c]? = some (.cells #[.map (some g)] 61 (0, 0))) (h : IMap w g n f) {a : Int} (ha : In64 a) :
    Calls Try.prog 29 #[.int .i64 a, .pointer (some ⟨c, 0, none⟩)] w fun e w' => e = .returned (.tuple #[.int .i64 ((f a).getD 0), .bool (f a).isSome]) ∧ w = w' := by
  have lk := h.look ha
  have k0 : w.cell? ⟨c, 0, none⟩ = some (.map (some g)) := by rw [cell_of_row _ _ _ _ _ _ hc]; rfl
  clear h hc
  obtain ⟨x, hx⟩ : ∃ x, (f a).getD 0 = x := ⟨_, rfl⟩
  obtain ⟨y, hy⟩ : ∃ y, (f a).isSome = y := ⟨_, rfl⟩
  rw [hx, hy] at lk ⊢
  go_enter Try.func29, Try.ntmps29
  go_wp2
  go_ret2
  exact ⟨rfl, rfl⟩

/-- Run's answers -/
def askK (B c g n : Nat) (l : M) (hl : PIn l) (hcg : B ≤ c ∧ B ≤ g) : Ask where
  B := B
  fn := 29
  first := #[]
  R := fun _ => False
  rlt := fun _ h => h.elim
  cap := #[.pointer (some ⟨c, 0, none⟩)]
  f := first l
  I := fun _ S w => w.heap[c]? = some (.cells #[.map (some g)] 61 (0, 0)) ∧ IMap w g n (first l) ∧ S = fun k => k = c ∨ k = g
  lt := by
    rintro qs S w ⟨h1, h2, rfl⟩ k (rfl | rfl)
    · exact ⟨hcg.1, (Array.getElem?_eq_some_iff.1 h1).1⟩
    · exact ⟨hcg.2, h2.lt⟩
  keep := by
    rintro qs S w T w' ⟨h1, h2, rfl⟩ hc hT _
    exact ⟨by rw [hc.block c (Array.getElem?_eq_some_iff.1 h1).1 (hT c (.inl rfl))]; exact h1, h2.block (hc.block g h2.lt (hT g (.inr rfl))), rfl⟩
  run := callFunc_run Try.func29 (by kernel_rfl) (by kernel_rfl)
  rng := fun a x h => first_in hl h
  ask := by
    rintro qs S w a ⟨h1, h2, rfl⟩ h0 ha
    refine (ask_known h1 h2 ha).mono ?_
    rintro e w' ⟨rfl, rfl⟩
    exact ⟨rfl, _, ⟨h1, h2, rfl⟩, Chg.refl _ _, fun k hk => .inl hk⟩

/-- what Run leaves -/
def KnownOut (C : Nat → Prop) (R : (Int ⊕ M) × List Int) (Φ : World → Prop) (w : World) (e : Ending) (w' : World) : Prop :=
  ((∃ m r, R.1 = .inr m ∧ e = .returned (.tuple #[.int .i64 (-1), r]) ∧ Told w' w.heap.size m r ∧ PIn m) ∨
    (∃ a, R.1 = .inl a ∧ e = .returned (.tuple #[.int .i64 a, .slice none 0 0]))) ∧ Chg (fun k => w.heap.size ≤ k ∨ C k) w w' ∧ ∀ w3 : World, (∀ k, k < w'.heap.size → w3.heap[k]? = w'.heap[k]?) → Φ w3

set_option maxRecDepth 100000 in
set_option maxHeartbeats 4000000 in
theorem run_leaves {w : World} {s : Value} {l : M} (h : Pairs w w.heap.size s l) (hl : PIn l) (hn : l.length ≤ 1000) (pf : FuncId) (pcap : Array Value) (R : (Int ⊕ M) × List Int)
    (hrun : ∀ args w, (callFunc pf args).run Try.prog w = .ok (.enter pf args) w)
    (C : Nat → Prop) (hC : ∀ k, C k → k < w.heap.size) (Φ : World → Prop)
    (hprog : ∀ A : Ask, A.f = first l → (∀ k, ¬ A.R k) → ∀ bv bm Q w', (∀ k, k < w.heap.size → Q k) → Below w.heap.size w w' → VWs A Q bv bm true [] [] w' → Calls Try.prog pf (#[.pointer (some ⟨bv, 0, none⟩)] ++ pcap) w' (Left A (fun k => k < w.heap.size) C Q bv bm R Φ w'))
    (hm : ∀ m, R.1 = .inr m → m.length ≤ 1000) (ha : ∀ a, R.1 = .inl a → 0 ≤ a) :
    Calls Try.prog 15 #[s, .func (.func pf) #[] pcap] w (KnownOut C R Φ w) := by
  have hmf : ∀ (fn : Fn) (first cap : Array Value) (w : World), (Instr.makeFunc fn first cap).run Try.prog w = .ok (.func fn first cap) w := fun _ _ _ _ => rfl
  have hneq : ∀ w : World, (binOp BinOp.eql 34 (.func (.func pf) #[] pcap) .nilFunc).run Try.prog w = .ok (.bool false) w := fun _ => by kernel_rfl
  obtain ⟨g, hg⟩ : ∃ g, w.heap.size = g := ⟨_, rfl⟩
  have FS := Lib.hid (firsts_any h hl hn)
  rw [hg] at FS
  have HP := Lib.hid hprog; have HM := Lib.hid hm; have HA := Lib.hid ha; have HR := Lib.hid hrun; have HC := Lib.hid hC; have HL := Lib.hid hl
  clear hprog hm ha hrun hl hn h hC
  rw [hg] at HP HC
  go_enter Try.func15, Try.ntmps15
  go_upto_region 5 with (first
    | (go_at_call 28; refine FS.out.mono ?_; rintro e w2 ⟨rfl, hi2, hb2⟩))
  have hs2 := hb2.size
  have hgl := hi2.lt
  obtain ⟨c, hc⟩ : ∃ c, w2.heap.size = c := ⟨_, rfl⟩
  obtain ⟨w3, hw3⟩ : ∃ w3, w2.alloc (.cells #[.map (some g)] 61) = w3 := ⟨_, rfl⟩
  rw [hw3, hc]
  have s3 : w3.heap.size = c + 1 := by rw [← hw3, ← hc]; simp
  have r3 : w3.heap[c]? = some (.cells #[.map (some g)] 61 (0, 0)) := by rw [← hw3, ← hc]; exact new_row _ _ _
  have i3 : IMap w3 g l.length (first l) := hi2.block (by rw [← hw3]; exact alloc_heap _ _ _ (by omega))
  have b3 : Below g w w3 := by rw [← hw3]; exact hb2.alloc (by omega) _
  have AL := Lib.hid (all_any (A := askK g c g l.length l HL.out ⟨by omega, Nat.le_refl _⟩) (P := fun k => k < g) (w := w3) (S := fun k => k = c ∨ k = g) ⟨r3, i3, rfl⟩
    (fun k hk => ⟨by omega, by omega⟩) (by show g ≤ _; omega) pf pcap R HR.out C HC.out Φ
    (fun bv bm Q w' hQ hb hv => HP.out _ rfl (fun _ h => h) bv bm Q w' (fun k hk => hQ k hk) (b3.trans (hb.mono (by omega))) hv) HM.out HA.out)
  have B3 := Lib.hid b3
  clear hw3 hi2 hb2 i3 r3 b3
  have hbk : ∀ w4 : World, Chg (fun k => ¬ k < g ∨ C k) w3 w4 → Chg (fun k => w.heap.size ≤ k ∨ C k) w w4 := fun w4 hk =>
    ((Chg.of_below B3.out).mono (fun k _ h => .inl (by omega))).trans (hk.mono (fun k _ h => h.elim (fun h => .inl (by omega)) .inr))
  have HBK := Lib.hid hbk
  clear hbk
  go_wp2_with (first
    | (go_at_call 30; refine AL.out.mono ?_; rintro e w4 (⟨m, r, hR, rfl, ht, _, hk, hin, hF⟩ | ⟨a, hR, rfl, _, hk, hF⟩)))
  · have fin : Hid (KnownOut C R Φ w (.returned (.tuple #[.int .i64 (-1), r])) w4) :=
      ⟨.inl ⟨m, r, hR, rfl, ht.low (by omega), hin⟩, HBK.out _ hk, hF⟩
    clear hR ht hk hF
    go_wp2
    go_ret2
    exact fin.out
  · have fin : Hid (KnownOut C R Φ w (.returned (.tuple #[.int .i64 a, .slice none 0 0])) w4) :=
      ⟨.inr ⟨a, hR, rfl⟩, HBK.out _ hk, hF⟩
    clear hR hk hF
    go_wp2
    go_ret2
    exact fin.out

theorem run_known {w : World} {s : Value} {l : M} (h : Pairs w w.heap.size s l) (hl : PIn l) (hn : l.length ≤ 1000) (pf : FuncId) (pcap : Array Value) (R : (Int ⊕ M) × List Int)
    (hrun : ∀ args w, (callFunc pf args).run Try.prog w = .ok (.enter pf args) w)
    (hprog : ∀ A : Ask, A.f = first l → ∀ bv bm Q w', (∀ k, k < w.heap.size → Q k) → Below w.heap.size w w' → VWs A Q bv bm true [] [] w' → Calls Try.prog pf (#[.pointer (some ⟨bv, 0, none⟩)] ++ pcap) w' fun e w'' => Ran A Q bv bm R e w'' ∧ Kept Q w' w'')
    (hm : ∀ m, R.1 = .inr m → m.length ≤ 1000) (ha : ∀ a, R.1 = .inl a → 0 ≤ a) :
    Calls Try.prog 15 #[s, .func (.func pf) #[] pcap] w fun e w' =>
      ((∃ m r, R.1 = .inr m ∧ e = .returned (.tuple #[.int .i64 (-1), r]) ∧ Told w' w.heap.size m r ∧ PIn m) ∨
      (∃ a, R.1 = .inl a ∧ e = .returned (.tuple #[.int .i64 a, .slice none 0 0]))) ∧ Below w.heap.size w w' :=
  (run_leaves h hl hn pf pcap R hrun (fun _ => False) (fun _ h => h.elim) (fun _ => True) (fun A hA _ bv bm Q w' hQ hb hv => (hprog A hA bv bm Q w' hQ hb hv).mono (fun _ _ h => Left.of_kept h)) hm ha).mono
    fun _ _ h => ⟨h.1, h.2.1.below (Nat.le_refl _) (fun k hk => hk.elim id False.elim)⟩

end View
end Go.Proofs.Ytfmjcinhjbihoaa
