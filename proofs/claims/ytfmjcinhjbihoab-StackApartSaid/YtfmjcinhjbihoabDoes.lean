import Derived.Test.YtfmjcinhjbihoabVMem
import Derived.Test.YtfmjcinhjbihoabVProg
/- functions that are programs over a view -/
namespace Go.Proofs.Ytfmjcinhjbihoab
open Go.RowKit Go.Bas SorPlain Go.Sor IMap_ VIn VPlain MapI
namespace View

/-- what a function that is a program over the view leaves -/
def Does {α : Type} (A : Ask) (P : Nat → Prop) (bv bm : Nat) (p : Prog α) (m : M) (qs : List Int) (w : World) (Res : α → Value → World → Prop) (e : Ending) (w' : World) : Prop :=
  (∃ a m' qs', p.run A.f m qs = (.inl a, m', qs') ∧ e = .panicked [{ v := .iface 75 (.int .i64 a), recovered := false }] ∧ VWs A P bv bm true qs' m' w' ∧ Kept P w w') ∨
  (∃ x v m' qs', p.run A.f m qs = (.inr x, m', qs') ∧ e = .returned v ∧ Res x v w' ∧ VWs A P bv bm true qs' m' w' ∧ Kept P w w')

/-- an int -/
def IntRes (x : Int) (v : Value) (_ : World) : Prop := v = .int .i64 x ∧ In64 x
def UnitRes (_ : Unit) (v : Value) (_ : World) : Prop := v = .tuple #[]
def BoolRes (x : Bool) (v : Value) (_ : World) : Prop := v = .bool x

theorem Kept.alloc {P : Nat → Prop} {w w' : World} {o : Obj} (h : Kept (fun k => P k ∨ k = w.heap.size) (w.alloc o) w') : Kept P w w' :=
  (Chg.alloc _ w o).trans (h.mono fun k _ hn hp => hn (.inl hp))
theorem VWs.box {A : Ask} {P : Nat → Prop} {bv bm : Nat} {st : Bool} {qs : List Int} {m : M} {w : World} (h : VWs A P bv bm st qs m w) (o : Obj) : VWs A (fun k => P k ∨ k = w.heap.size) bv bm st qs m (w.alloc o) :=
  h.add ((Below.refl _ _).alloc (Nat.le_refl _) _) (fun k hk => hk.imp id (fun e => by simp; omega))
theorem Does.unbox {α : Type} {A : Ask} {P : Nat → Prop} {bv bm : Nat} {p : Prog α} {m : M} {qs : List Int} {w : World} {o : Obj} {Res : α → Value → World → Prop} {e : Ending} {w' : World}
    (h : Does A (fun k => P k ∨ k = w.heap.size) bv bm p m qs (w.alloc o) Res e w') : Does A P bv bm p m qs w Res e w' := by
  rcases h with ⟨a, m', qs', h1, h2, h3, h4⟩ | ⟨x, v, m', qs', h1, h2, h3, h4, h5⟩
  · exact .inl ⟨a, m', qs', h1, h2, h3.less (fun k hk => .inl hk), Kept.alloc h4⟩
  · exact .inr ⟨x, v, m', qs', h1, h2, h3, h4.less (fun k hk => .inl hk), Kept.alloc h5⟩
/-- a block that is left alone is as it was -/
theorem Kept.row {P : Nat → Prop} {w w' : World} (h : Kept P w w') {g : Nat} {o : Obj} (hg : w.heap[g]? = some o) (hp : P g) : w'.heap[g]? = some o := by
  rw [h.block g (Array.getElem?_eq_some_iff.1 hg).1 (fun hn => hn hp)]; exact hg

theorem read_does {A : Ask} {P : Nat → Prop} {bv bm : Nat} {qs : List Int} {m : M} {w : World} (h : VWs A P bv bm true qs m w) (hlen : m.length ≤ 1000000) (a : Int) (ha : In64 a) :
    Calls Try.prog 32 #[.pointer (some ⟨bv, 0, none⟩), .int .i64 a] w (Does A P bv bm (Prog.rd1 a) m qs w IntRes) := by
  refine (read_any h hlen a ha).mono fun e w' hh => ?_
  rcases hh with ⟨y, h1, h2, rfl, h3, h4⟩ | ⟨h1, rfl, h3, h4⟩
  · exact .inr ⟨y, _, m, asks m a qs, by simp [Prog.rd1, Prog.run, h1], rfl, ⟨rfl, h2⟩, h3, h4⟩
  · exact .inl ⟨a, m, qs, by simp [Prog.rd1, Prog.run, h1], rfl, by
      have e : asks m a qs = asks m a qs := rfl
      exact h3, h4⟩
theorem write_does {A : Ask} {P : Nat → Prop} {bv bm : Nat} {qs : List Int} {m : M} {w : World} (h : VWs A P bv bm true qs m w) (hlen : m.length ≤ 1000000) (a x : Int) (ha : In64 a) (hx : In64 x) :
    Calls Try.prog 30 #[.pointer (some ⟨bv, 0, none⟩), .int .i64 a, .int .i64 x] w (Does A P bv bm (Prog.wr1 a x) m qs w UnitRes) := by
  refine (write_any h hlen a x ha hx).mono fun e w' hh => ?_
  obtain ⟨rfl, h3, h4⟩ := hh
  exact .inr ⟨(), _, wr m a x, qs, rfl, rfl, rfl, h3, h4⟩

/-- .. over words that are all there -/
theorem Does.total {α : Type} {A : Ask} {P : Nat → Prop} {bv bm : Nat} {p : Prog α} {m : M} {qs : List Int} {w : World} {Res : α → Value → World → Prop} {e : Ending} {w' : World} (h : Does A P bv bm p m qs w Res e w')
    {L : Int} {μ : Int → Int} (hf : ∀ a, 0 ≤ a → a < L → A.f a = some (μ a)) (hs : Rising m) (hin : Prog.Within L p (ov μ m)) :
    ∃ v m2 q2, p.run A.f m qs = (.inr (p.over (ov μ m)).1, m2, q2) ∧ e = .returned v ∧ Res (p.over (ov μ m)).1 v w' ∧ VWs A P bv bm true q2 m2 w' ∧ Kept P w w' ∧ ov μ m2 = (p.over (ov μ m)).2 ∧ Rising m2 := by
  obtain ⟨h1, h2, h3⟩ := Prog.run_over hf p m qs hs hin
  rcases h with ⟨a, m', qs', e1, _⟩ | ⟨x, v, m', qs', e1, e2, e3, e4, e5⟩
  · rw [e1] at h1; cases h1
  · rw [e1] at h1 h2 h3
    injection h1 with h1
    subst h1
    exact ⟨v, m', qs', e1, e2, e3, e4, e5, h2, h3⟩
/-- a program's end as Ran says it -/
theorem Does.ran {α : Type} {A : Ask} {P : Nat → Prop} {bv bm : Nat} {p : Prog α} {m : M} {qs : List Int} {w : World} {Res : α → Value → World → Prop} {e : Ending} {w' : World} (h : Does A P bv bm p m qs w Res e w')
    (hres : ∀ x v w', Res x v w' → v = .tuple #[]) : Ran A P bv bm ((match (p.run A.f m qs).1 with | .inl a => .inl a | .inr _ => .inr (p.run A.f m qs).2.1), (p.run A.f m qs).2.2) e w' ∧ Kept P w w' := by
  rcases h with ⟨a, m', qs', h1, rfl, h3, h4⟩ | ⟨x, v, m', qs', h1, rfl, h3, h4, h5⟩
  · rw [h1]; exact ⟨.inr ⟨a, m', rfl, rfl, h3⟩, h4⟩
  · rw [h1, hres _ _ _ h3]; exact ⟨.inl ⟨m', rfl, rfl, h4⟩, h5⟩

/-- .. whose answer lies in new memory, which is left alone from then on -/
def DoesN {α : Type} (A : Ask) (P : Nat → Prop) (bv bm : Nat) (p : Prog α) (m : M) (qs : List Int) (w : World) (Res : α → Value → (Nat → Prop) → World → Prop) (e : Ending) (w' : World) : Prop :=
  (∃ a m' qs', p.run A.f m qs = (.inl a, m', qs') ∧ e = .panicked [{ v := .iface 75 (.int .i64 a), recovered := false }] ∧ VWs A P bv bm true qs' m' w' ∧ Kept P w w') ∨
  (∃ x v N m' qs', p.run A.f m qs = (.inr x, m', qs') ∧ e = .returned v ∧ (∀ k, N k → w.heap.size ≤ k) ∧ Res x v N w' ∧ VWs A (fun k => P k ∨ N k) bv bm true qs' m' w' ∧ Kept P w w')
/-- words, in a row of the call's own -/
def WordsRes (base : Nat) (xs : List Int) (v : Value) (N : Nat → Prop) (w : World) : Prop := TW w base xs v ∧ ∀ k, v.ownBlock = some k → N k
theorem DoesN.unbox {α : Type} {A : Ask} {P : Nat → Prop} {bv bm : Nat} {p : Prog α} {m : M} {qs : List Int} {w : World} {o : Obj} {Res : α → Value → (Nat → Prop) → World → Prop} {e : Ending} {w' : World}
    (h : DoesN A (fun k => P k ∨ k = w.heap.size) bv bm p m qs (w.alloc o) Res e w') : DoesN A P bv bm p m qs w Res e w' := by
  rcases h with ⟨a, m', qs', h1, h2, h3, h4⟩ | ⟨x, v, N, m', qs', h1, h2, hN, h3, h4, h5⟩
  · exact .inl ⟨a, m', qs', h1, h2, h3.less (fun k hk => .inl hk), Kept.alloc h4⟩
  · exact .inr ⟨x, v, N, m', qs', h1, h2, fun k hk => by have := hN k hk; simp at this; omega, h3, h4.less (fun k hk => hk.elim (fun h => .inl (.inl h)) .inr), Kept.alloc h5⟩
/-- what is left alone by the view may be changed by others -/
theorem VWs.chg {A : Ask} {P Q T : Nat → Prop} {bv bm : Nat} {st : Bool} {qs : List Int} {m : M} {w w' : World} (h : VWs A P bv bm st qs m w) (hc : Chg T w w') (hT : ∀ k, k < w.heap.size → T k → P k ∧ ¬ A.R k)
    (hQ : ∀ k, Q k → P k ∨ (w.heap.size ≤ k ∧ k < w'.heap.size)) : VWs A Q bv bm st qs m w' := by
  obtain ⟨S, v, h, hP⟩ := h
  have hS := A.lt _ _ _ h.inv
  have hf := h.map.lt
  have hbv := (Array.getElem?_eq_some_iff.1 h.row).1
  have hs := hc.size
  refine ⟨S, v, h.kept (hc.mono (T := fun k => T k ∧ k < w.heap.size) (fun k hk ht => ⟨ht, hk⟩)) (fun k ⟨ht, hk⟩ => ?_), fun k hk => ?_⟩
  · obtain ⟨h1, h2⟩ := hT k hk ht
    obtain ⟨p1, p2, p3, p4⟩ := hP k h1
    exact ⟨p2, p3, p4, h2⟩
  · rcases hQ k hk with h1 | ⟨h1, h2⟩
    · obtain ⟨p1, p2⟩ := hP k h1
      exact ⟨by omega, p2⟩
    · exact ⟨h2, fun h => by have := (hS k h).2; omega, fun h => by have := hf k h; omega, by omega⟩
theorem VWs.bv_lt {A : Ask} {P : Nat → Prop} {bv bm : Nat} {st : Bool} {qs : List Int} {m : M} {w : World} (h : VWs A P bv bm st qs m w) : bv < w.heap.size ∧ ∀ k, A.R k → k < bv := by
  obtain ⟨S, v, h, hP⟩ := h
  exact ⟨(Array.getElem?_eq_some_iff.1 h.row).1, fun k hk => by have := A.rlt k hk; have := h.low.1; omega⟩

/-- one word is appended -/
theorem wpList_addword {ops : Array Oper} {rest : List Oper} {o : Oper} {a : Act} {w : World} {Q : Exit → Act → World → Prop} (hgd : o.guard = none) (s x : Operand)
    (ho : o.op = .call { callee := .builtin .append, args := #[s, x], argTypes := #[22, 22] })
    (base : Nat) (out : List Int) (v : Value) (hs : a.eval s = v) (h : TW w base out v) (hn : out.length ≤ 10000) (hb : base ≤ w.heap.size) (b : Nat) (y : Int) (hx : a.eval x = .slice (some ⟨b, 0, none⟩) 1 1)
    (hrow : w.heap[b]? = some (.cells #[.int .i64 y] 3 (0, 0)))
    (H : ∀ v' w', TW w' base (out ++ [y]) v' → w.grownBy w' v.ownBlock → (v'.ownBlock = v.ownBlock ∨ v'.ownBlock = some w.heap.size) → wpList Try.prog ops Q rest (a.put o.dst v') w') : wpList Try.prog ops Q (o :: rest) a w :=
  wpList_addwords hgd s x ho base out v hs h hn hb w.heap.size [y] (some ⟨b, 0, none⟩) 1 1 hx
    ⟨some ⟨b, 0, none⟩, 1, rfl, by simp [maxLen], fun _ => ⟨b, 0, rfl, (Array.getElem?_eq_some_iff.1 hrow).1, fun i hi => by
      obtain rfl : i = 0 := by simp at hi; omega
      rw [cell_of_row _ _ _ _ _ _ hrow]; rfl⟩⟩ (by omega) H

end View
end Go.Proofs.Ytfmjcinhjbihoab
