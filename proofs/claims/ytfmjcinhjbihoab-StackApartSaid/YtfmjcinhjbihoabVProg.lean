import Derived.Test.YtfmjcinhjbihoabVPlain2
/- programs over a view, in plain Lean: what they read, write and tell -/
namespace Go.Proofs.Ytfmjcinhjbihoab
open SorPlain IMap_ VIn VPlain
namespace VPlain

/-- a program over a view -/
inductive Prog (α : Type) where
  | ret (x : α)
  | read (a : Int) (k : Int → Prog α)
  | write (a x : Int) (k : Prog α)
namespace Prog
variable {α β : Type}
def bind : Prog α → (α → Prog β) → Prog β
  | ret x, g => g x
  | read a k, g => read a fun y => (k y).bind g
  | write a x k, g => write a x (k.bind g)
instance : Monad Prog where
  pure := ret
  bind := bind
def rd1 (a : Int) : Prog Int := read a ret
def wr1 (a x : Int) : Prog Unit := write a x (ret ())

/-- run as far as what it reads is known -/
def run (f : Int → Option Int) : Prog α → M → List Int → (Int ⊕ α) × M × List Int
  | ret x, m, qs => (.inr x, m, qs)
  | read a k, m, qs => match rd f m a with
    | some y => (k y).run f m (asks m a qs)
    | none => (.inl a, m, qs)
  | write a x k, m, qs => k.run f (wr m a x) qs
theorem run_bind (f : Int → Option Int) (g : α → Prog β) : ∀ (p : Prog α) (m : M) (qs : List Int),
    (p.bind g).run f m qs = (match p.run f m qs with | (.inr x, m', qs') => (g x).run f m' qs' | (.inl a, m', qs') => (.inl a, m', qs'))
  | ret x, m, qs => rfl
  | read a k, m, qs => by
    simp only [bind, run]
    cases rd f m a with
    | some y => exact run_bind f g (k y) m _
    | none => rfl
  | write a x k, m, qs => by simp only [bind, run]; exact run_bind f g k _ _
theorem run_bind' (f : Int → Option Int) (g : α → Prog β) (p : Prog α) (m : M) (qs : List Int) :
    (p >>= g).run f m qs = (match p.run f m qs with | (.inr x, m', qs') => (g x).run f m' qs' | (.inl a, m', qs') => (.inl a, m', qs')) := run_bind f g p m qs
theorem run_inr {f : Int → Option Int} {g : α → Prog β} {p : Prog α} {m m' : M} {qs qs' : List Int} {x : α} (h : p.run f m qs = (.inr x, m', qs')) : (p >>= g).run f m qs = (g x).run f m' qs' := by
  rw [run_bind', h]
theorem run_inl {f : Int → Option Int} {g : α → Prog β} {p : Prog α} {m m' : M} {qs qs' : List Int} {a : Int} (h : p.run f m qs = (.inl a, m', qs')) : (p >>= g).run f m qs = (.inl a, m', qs') := by
  rw [run_bind', h]
@[simp] theorem run_pure (f : Int → Option Int) (x : α) (m : M) (qs : List Int) : (pure x : Prog α).run f m qs = (.inr x, m, qs) := rfl
theorem bind_assoc' {γ : Type} (g : α → Prog β) (h : β → Prog γ) : ∀ p : Prog α, (p.bind g).bind h = p.bind fun x => (g x).bind h
  | ret x => rfl
  | read a k => by simp only [bind]; congr 1; funext y; exact bind_assoc' g h (k y)
  | write a x k => by simp only [bind]; congr 1; exact bind_assoc' g h k
theorem bind_assoc {γ : Type} (p : Prog α) (g : α → Prog β) (h : β → Prog γ) : (p >>= g) >>= h = p >>= fun x => g x >>= h := bind_assoc' g h p
theorem ret_bind (x : α) (g : α → Prog β) : (pure x >>= g) = g x := rfl

/-- at most so many writes, on each way -/
def Writes : Nat → Prog α → Prop
  | _, ret _ => True
  | n, read _ k => ∀ y, Writes n (k y)
  | 0, write _ _ _ => False
  | n + 1, write _ _ k => Writes n k
theorem Writes.mono : ∀ {n n' : Nat} {p : Prog α}, Writes n p → n ≤ n' → Writes n' p
  | _, _, ret _, _, _ => by cases ‹Nat› <;> cases ‹Nat› <;> trivial
  | n, n', read a k, h, hn => by
    unfold Writes at h ⊢
    exact fun y => (h y).mono hn
  | 0, _, write a x k, h, hn => by unfold Writes at h; exact h.elim
  | n + 1, 0, write a x k, h, hn => by omega
  | n + 1, n' + 1, write a x k, h, hn => by
    unfold Writes at h ⊢
    exact Writes.mono h (by omega)
theorem Writes.pure (n : Nat) (x : α) : Writes n (Pure.pure x : Prog α) := by cases n <;> trivial
theorem Writes.bind : ∀ {n k : Nat} {p : Prog α} {g : α → Prog β}, Writes n p → (∀ x, Writes k (g x)) → Writes (n + k) (p >>= g)
  | n, k, ret x, g, _, hg => (hg x).mono (by omega)
  | n, k, read a c, g, h, hg => by
    unfold Writes at h
    show Writes (n + k) (read a fun y => (c y).bind g)
    unfold Writes
    exact fun y => Writes.bind (h y) hg
  | 0, k, write a x c, g, h, hg => by unfold Writes at h; exact h.elim
  | n + 1, k, write a x c, g, h, hg => by
    unfold Writes at h
    rw [show n + 1 + k = (n + k) + 1 by omega]
    show Writes (n + k + 1) (write a x (c.bind g))
    unfold Writes
    exact Writes.bind h hg
theorem Writes.rd1 (a : Int) : Writes 0 (rd1 a) := fun _ => trivial
theorem Writes.wr1 (a x : Int) : Writes 1 (wr1 a x) := by unfold Prog.wr1 Writes; exact trivial
theorem Writes.run : ∀ {n : Nat} {p : Prog α} (_ : Writes n p) (f : Int → Option Int) (m : M) (qs : List Int), (p.run f m qs).2.1.length ≤ m.length + n
  | n, ret x, _, f, m, qs => by simp [Prog.run]
  | n, read a k, h, f, m, qs => by
    unfold Writes at h
    simp only [Prog.run]
    cases rd f m a with
    | some y => exact (h y).run f m _
    | none => simp
  | 0, write a x k, h, f, m, qs => by unfold Writes at h; exact h.elim
  | n + 1, write a x k, h, f, m, qs => by
    unfold Writes at h
    simp only [Prog.run]
    have h1 := Writes.run h f (wr m a x) qs
    have h2 : (wr m a x).length ≤ m.length + 1 := by
      unfold wr
      split
      · omega
      · rw [put_length]; split <;> omega
    omega

/-- all addresses that are needed are from 0 on -/
theorem run_need (f : Int → Option Int) : ∀ (p : Prog α) (m : M) (qs : List Int) (a : Int), (p.run f m qs).1 = .inl a → 0 ≤ a
  | ret x, m, qs, a, h => by simp [run] at h
  | read b k, m, qs, a, h => by
    simp only [run] at h
    cases hr : rd f m b with
    | some y => rw [hr] at h; exact run_need f (k y) m _ a h
    | none =>
      rw [hr] at h; simp at h; subst h
      unfold rd at hr
      split at hr
      · cases hr
      · omega
  | write b x k, m, qs, a, h => run_need f k _ _ a h
/-- what is written is at rising addresses from 0 on -/
theorem run_wrote (f : Int → Option Int) : ∀ (p : Prog α) (m : M) (qs : List Int), (Rising m ∧ ∀ q ∈ m, 0 ≤ q.1) → Rising (p.run f m qs).2.1 ∧ ∀ q ∈ (p.run f m qs).2.1, 0 ≤ q.1
  | ret x, m, qs, h => h
  | read b k, m, qs, h => by
    simp only [run]
    cases rd f m b with
    | some y => exact run_wrote f (k y) m _ h
    | none => exact h
  | write b x k, m, qs, h => by simp only [run]; exact run_wrote f k _ _ (wr_pos h b x)

/- over words that are all there -/
/-- run over words: reads below 0 are 0, writes below 0 nothing -/
def over : Prog α → (Int → Int) → α × (Int → Int)
  | ret x, μ => (x, μ)
  | read a k, μ => (k (if a < 0 then 0 else μ a)).over μ
  | write a x k, μ => k.over (if a < 0 then μ else fun b => if b = a then x else μ b)
theorem over_bind (g : α → Prog β) : ∀ (p : Prog α) (μ : Int → Int), (p >>= g).over μ = (g (p.over μ).1).over (p.over μ).2
  | ret x, μ => rfl
  | read a k, μ => over_bind g (k _) μ
  | write a x k, μ => over_bind g k _
@[simp] theorem over_pure (x : α) (μ : Int → Int) : (pure x : Prog α).over μ = (x, μ) := rfl
@[simp] theorem over_rd1 (a : Int) (μ : Int → Int) : (rd1 a).over μ = (if a < 0 then 0 else μ a, μ) := rfl
@[simp] theorem over_wr1 (a x : Int) (μ : Int → Int) : (wr1 a x).over μ = ((), if a < 0 then μ else fun b => if b = a then x else μ b) := rfl
/-- all that is read and written is below L -/
def Within (L : Int) : Prog α → (Int → Int) → Prop
  | ret _, _ => True
  | read a k, μ => a < L ∧ Within L (k (if a < 0 then 0 else μ a)) μ
  | write a x k, μ => a < L ∧ Within L k (if a < 0 then μ else fun b => if b = a then x else μ b)
theorem Within.bind {L : Int} {g : α → Prog β} : ∀ {p : Prog α} {μ : Int → Int}, Within L p μ → Within L (g (p.over μ).1) (p.over μ).2 → Within L (p >>= g) μ
  | ret x, μ, _, h => h
  | read a k, μ, h1, h2 => ⟨h1.1, Within.bind h1.2 h2⟩
  | write a x k, μ, h1, h2 => ⟨h1.1, Within.bind h1.2 h2⟩
theorem Within.pure (L : Int) (x : α) (μ : Int → Int) : Within L (Pure.pure x : Prog α) μ := trivial
theorem Within.rd1 {L a : Int} (h : a < L) (μ : Int → Int) : Within L (rd1 a) μ := ⟨h, trivial⟩
theorem Within.wr1 {L a : Int} (h : a < L) (x : Int) (μ : Int → Int) : Within L (wr1 a x) μ := ⟨h, trivial⟩

end Prog
/-- words under what was written -/
def ov (μ : Int → Int) (m : M) (a : Int) : Int := (first m a).getD (μ a)
theorem ov_nil (μ : Int → Int) : ov μ [] = μ := by funext a; rfl
theorem first_cons (q : Int × Int) (r : M) (a : Int) : first (q :: r) a = if q.1 = a then some q.2 else first r a := by
  unfold first
  rw [List.find?_cons]
  by_cases h : q.1 = a
  · simp [h]
  · have : (q.1 == a) = false := by simpa using h
    rw [this, if_neg h]
theorem first_put (a x b : Int) : ∀ {m : M}, Rising m → first (put a x m) b = if b = a then some x else first m b
  | [], _ => by
    have : put a x ([] : M) = [(a, x)] := by simp [put, place, has, keys, lower]
    rw [this, first_cons]
    by_cases h : b = a
    · simp [h]
    · rw [if_neg h, if_neg (fun e => h e.symm)]
  | q :: r, hs => by
    have hs' : Rising r := by unfold Rising keys at *; simp at hs; exact hs.2
    rw [put_cons]
    by_cases h1 : q.1 < a
    · rw [if_pos h1, first_cons, first_put a x b hs', first_cons]
      by_cases h2 : q.1 = b
      · rw [if_pos h2, if_pos h2, if_neg (by omega)]
      · rw [if_neg h2, if_neg h2]
    · rw [if_neg h1]
      by_cases h2 : q.1 = a
      · rw [if_pos h2, first_cons, first_cons]
        by_cases h3 : b = a
        · rw [if_pos h3.symm, if_pos h3]
        · rw [if_neg (fun e => h3 e.symm), if_neg h3, if_neg (by omega)]
      · rw [if_neg h2, first_cons]
        by_cases h3 : b = a
        · rw [if_pos h3.symm, if_pos h3]
        · rw [if_neg (fun e => h3 e.symm), if_neg h3]
theorem rd_first (f : Int → Option Int) {m : M} (hs : Rising m) (a : Int) : rd f m a = if a < 0 then some 0 else match first m a with | some x => some x | none => f a := by
  unfold rd
  rw [first_rising hs]
  split
  · rfl
  · cases has a m <;> rfl
/-- over words that are all there a program goes on as over plain words -/
theorem Prog.run_over {α : Type} {L : Int} {f : Int → Option Int} {μ : Int → Int} (hf : ∀ a, 0 ≤ a → a < L → f a = some (μ a)) : ∀ (p : Prog α) (m : M) (qs : List Int), Rising m → Prog.Within L p (ov μ m) →
    (p.run f m qs).1 = .inr (p.over (ov μ m)).1 ∧ ov μ (p.run f m qs).2.1 = (p.over (ov μ m)).2 ∧ Rising (p.run f m qs).2.1
  | .ret x, m, qs, hs, _ => ⟨rfl, rfl, hs⟩
  | .read a k, m, qs, hs, h => by
    have hr : rd f m a = some (if a < 0 then 0 else ov μ m a) := by
      rw [rd_first f hs]
      split
      · rfl
      · rename_i h0
        unfold ov
        cases first m a with
        | some x => rfl
        | none => exact hf a (by omega) h.1
    simp only [Prog.run, hr]
    exact Prog.run_over hf (k _) m _ hs h.2
  | .write a x k, m, qs, hs, h => by
    have e : ov μ (wr m a x) = if a < 0 then ov μ m else fun b => if b = a then x else ov μ m b := by
      unfold wr
      split
      · rfl
      · funext b
        unfold ov
        rw [first_put a x b hs]
        split <;> rfl
    have h2 : Prog.Within L k (ov μ (wr m a x)) := by rw [e]; exact h.2
    have := Prog.run_over hf k (wr m a x) qs (wr_rising hs a x) h2
    simp only [Prog.run]
    rw [e] at this
    exact this
theorem Prog.run_total {α : Type} {L : Int} {f : Int → Option Int} {μ : Int → Int} (hf : ∀ a, 0 ≤ a → a < L → f a = some (μ a)) (p : Prog α) (m : M) (qs : List Int) (hs : Rising m) (h : Prog.Within L p (ov μ m)) : ∃ x m' qs', p.run f m qs = (.inr x, m', qs') :=
  ⟨_, _, _, Prod.ext (Prog.run_over hf p m qs hs h).1 rfl⟩
/-- what is written is below L -/
theorem Prog.wrote_lt {α : Type} {L : Int} {f : Int → Option Int} {μ : Int → Int} (hf : ∀ a, 0 ≤ a → a < L → f a = some (μ a)) : ∀ (p : Prog α) (m : M) (qs : List Int), Rising m → (∀ q ∈ m, q.1 < L) → Prog.Within L p (ov μ m) →
    ∀ q ∈ (p.run f m qs).2.1, q.1 < L
  | .ret x, m, qs, hs, hm, _ => hm
  | .read a k, m, qs, hs, hm, h => by
    have hr : rd f m a = some (if a < 0 then 0 else ov μ m a) := by
      rw [rd_first f hs]
      split
      · rfl
      · rename_i h0
        unfold ov
        cases first m a with
        | some x => rfl
        | none => exact hf a (by omega) h.1
    simp only [Prog.run, hr]
    exact Prog.wrote_lt hf (k _) m _ hs hm h.2
  | .write a x k, m, qs, hs, hm, h => by
    have e : ov μ (wr m a x) = if a < 0 then ov μ m else fun b => if b = a then x else ov μ m b := by
      unfold wr
      split
      · rfl
      · funext b
        unfold ov
        rw [first_put a x b hs]
        split <;> rfl
    have h2 : Prog.Within L k (ov μ (wr m a x)) := by rw [e]; exact h.2
    simp only [Prog.run]
    refine Prog.wrote_lt hf k (wr m a x) qs (wr_rising hs a x) (fun q hq => ?_) h2
    unfold wr at hq
    split at hq
    · exact hm q hq
    · rcases (mem_put _ _ _ hs).1 hq with rfl | ⟨hq, _⟩
      · exact h.1
      · exact hm q hq

end VPlain
end Go.Proofs.Ytfmjcinhjbihoab
