import Derived.Test.YtfmjcinhjbihoabVProg
/- stacks, in plain Lean -/
namespace Go.Proofs.Ytfmjcinhjbihoab
open SorPlain IMap_ VIn VPlain
namespace Stk
def noStk (b l : Int) : Bool := decide (b < 1) || decide (l < 0)
def many (b l : Int) : Prog Int := if noStk b l = true then pure 0 else Prog.rd1 b >>= fun n => pure (if 0 ≤ n ∧ n ≤ l then n else 0)
def thing (b i : Int) : Prog Int := Prog.rd1 (b + 1 + i)
def push (b l a : Int) : Prog Bool := many b l >>= fun n => if noStk b l = true ∨ l ≤ n then pure false else Prog.wr1 (b + 1 + n) a >>= fun _ => Prog.wr1 b (n + 1) >>= fun _ => pure true
def pop (b l : Int) : Prog (Int × Bool) := many b l >>= fun n => if n = 0 then pure (0, false) else Prog.wr1 b (n - 1) >>= fun _ => thing b (n - 1) >>= fun x => pure (x, true)
def things (b : Int) : Nat → Nat → List Int → Prog (List Int)
  | 0, _, acc => pure acc
  | n + 1, i, acc => thing b i >>= fun x => things b n (i + 1) (acc ++ [x])
def all (b l : Int) : Prog (List Int) := many b l >>= fun n => things b n.toNat 0 []

theorem many_writes (b l : Int) : (many b l).Writes 0 := by
  unfold many
  split
  · exact Prog.Writes.pure _ _
  · exact Prog.Writes.bind (Prog.Writes.rd1 b) (fun _ => Prog.Writes.pure 0 _)
theorem push_writes (b l a : Int) : (push b l a).Writes 2 := by
  refine Prog.Writes.mono (Prog.Writes.bind (k := 2) (many_writes b l) fun n => ?_) (by omega)
  split
  · exact Prog.Writes.pure _ _
  · exact Prog.Writes.bind (k := 1) (Prog.Writes.wr1 _ _) fun _ => Prog.Writes.bind (k := 0) (Prog.Writes.wr1 _ _) fun _ => Prog.Writes.pure _ _
theorem pop_writes (b l : Int) : (pop b l).Writes 1 := by
  refine Prog.Writes.mono (Prog.Writes.bind (k := 1) (many_writes b l) fun n => ?_) (by omega)
  split
  · exact Prog.Writes.pure _ _
  · exact Prog.Writes.bind (k := 0) (Prog.Writes.wr1 _ _) fun _ => Prog.Writes.bind (k := 0) (Prog.Writes.rd1 _) fun _ => Prog.Writes.pure _ _
theorem things_writes (b : Int) : ∀ (n i : Nat) (acc : List Int), (things b n i acc).Writes 0
  | 0, _, _ => Prog.Writes.pure _ _
  | n + 1, i, acc => Prog.Writes.bind (k := 0) (Prog.Writes.rd1 _) fun _ => things_writes b n _ _
theorem all_writes (b l : Int) : (all b l).Writes 0 := Prog.Writes.bind (k := 0) (many_writes b l) fun _ => things_writes b _ _ _
/-- how many: between 0 and the limit -/
theorem many_le {b l : Int} {f : Int → Option Int} {m : M} {qs : List Int} {n : Int} {m' : M} {qs' : List Int} (h : (many b l).run f m qs = (.inr n, m', qs')) : 0 ≤ n ∧ (n = 0 ∨ n ≤ l) := by
  unfold many at h
  split at h
  · cases h; exact ⟨by omega, .inl rfl⟩
  · cases hr : (Prog.rd1 b).run f m qs with
    | mk r z =>
      obtain ⟨m1, q1⟩ := z
      cases r with
      | inl a => rw [Prog.run_inl hr] at h; cases h
      | inr y =>
        rw [Prog.run_inr hr, Prog.run_pure] at h
        injection h with h1 h2
        injection h1 with h1
        subst h1
        split
        · rename_i hc; exact ⟨hc.1, .inr hc.2⟩
        · exact ⟨by omega, .inl rfl⟩
theorem len_le {α : Type} {n : Nat} {p : Prog α} (hp : p.Writes n) {f : Int → Option Int} {m : M} {qs : List Int} {r : Int ⊕ α} {m' : M} {qs' : List Int} (h : p.run f m qs = (r, m', qs')) : m'.length ≤ m.length + n := by
  have := hp.run f m qs
  rw [h] at this
  exact this
end Stk
end Go.Proofs.Ytfmjcinhjbihoab
