/- Lemmas of this seat's proofs, several texts laid together. -/
import Derived.WalkKit
import Derived.WalkSpells
import Derived.WalkLawsBesides
import Derived.Laws.CopyOwn
import Derived.Lib.Hide
import Derived.Deep.RegionLaw
import Derived.Deep.QuietTactic
import Derived.BigQuiet
import Derived.IntWalk
import Derived.Laws.Rows
import Derived.Laws.Tables
import Derived.Deep.MidRow
import Derived.Laws.ResultCell
import Derived.StillTailTactics
import Derived.Test.YthojgahcpkdemaaGreatRows
import Derived.Maps.OwnSet
import Derived.Maps.Views
import Derived.Deep.Slices
import Derived.Deep.Fields
import Derived.ChangeSame
import Derived.ProofKit
set_option linter.unusedVariables false
set_option linter.unusedSimpArgs false
/- attempts in plain: what a step does -/
namespace Go.Proofs.YthojgahcpkdemaaGreat
namespace Att

abbrev M := List (Int × Int)
/-- an attempt -/
structure AT where
  (owner phase how seen stamp na nv was : Int) (reads writes : M) (locks : List Int) (holds : M) (checks : List Int) (at_ : Int)

/-- what an attempt stands on: the locks' number, the clock's end, the words' number, and what its program makes of what was read: what is needed, or what was written -/
structure Env where
  (stripes clock words : Int) (run : M → Int × M)

def lock (E : Env) (a : Int) : Int := if a < 0 ∨ E.words ≤ a then 0 else 3 + a % E.stripes
def freeW (v : Int) : Int := if v < 0 ∨ 1099511627776 < v then -1 else 2 * v
def heldW (o : Int) : Int := if o < 0 ∨ 64 ≤ o then -1 else 2 * o + 1
def freshB (w lim : Int) : Bool := decide (0 ≤ w ∧ w % 2 = 0 ∧ w / 2 ≤ 1099511627776 ∧ w / 2 ≤ lim)

/-- words: an access, and the error's number -/
def inn (W : List Int) (a : Int) : Bool := decide (0 ≤ a ∧ a < W.length)
def ld (W : List Int) (a : Int) : Int := if inn W a then W.getD a.toNat 0 else 0
def st (W : List Int) (a x : Int) : List Int := if inn W a then W.set a.toNat x else W
def cnt (W : List Int) (a : Int) : Int := if inn W a then 1 else 0
def bumpV (W : List Int) (a most : Int) : Int := if inn W a then (if most ≤ W.getD a.toNat 0 then W.getD a.toNat 0 else W.getD a.toNat 0 + 1) else 0
def bumpE (W : List Int) (a most : Int) : Int := if inn W a then (if most ≤ W.getD a.toNat 0 then 8 else 0) else 3
def bumpW (W : List Int) (a most : Int) : List Int := if inn W a then (if most ≤ W.getD a.toNat 0 then W else W.set a.toNat (W.getD a.toNat 0 + 1)) else W

/-- rising, each once -/
def ins (x : Int) : List Int → List Int
  | [] => [x]
  | y :: r => if x < y then x :: y :: r else if x = y then y :: r else y :: ins x r
def rise (l : List Int) : List Int := l.foldr ins []
def locksOf (E : Env) (l : M) : List Int := rise (l.map fun p => lock E p.1)

def fin (T : AT) (how : Int) : AT := { T with phase := 10, how := how }
def giveUp (T : AT) (how : Int) : AT := if T.holds = [] then fin T how else { T with phase := 9, how := how, at_ := 0 }
/-- a phase of so many steps, or the one behind it -/
def next (T : AT) (phase : Int) (n : Nat) : AT := { T with phase := if n = 0 then phase + 1 else phase, at_ := 0 }

def sees (E : Env) (T : AT) (W : List Int) : AT :=
  let T1 := { T with seen := ld W 1, na := 2, phase := 1 }
  if E.clock ≤ ld W 1 then fin { T1 with stamp := ld W 1 } 3 else T1
def locked (E : Env) (T : AT) (W : List Int) : AT :=
  let T1 := { T with was := ld W (lock E T.na), phase := 2 }
  if freshB T1.was T.seen then T1 else fin T1 2
def loads (T : AT) (W : List Int) : AT := { T with nv := ld W T.na, phase := 3 }
/-- what the program makes of what was read -/
def goesOn (E : Env) (T : AT) : AT :=
  let r := E.run T.reads.tail
  if 0 ≤ r.1 then { T with na := r.1, nv := 0, phase := 1 }
  else if r.2 = [] then fin { T with stamp := T.seen } 1
  else { T with writes := r.2, locks := locksOf E r.2, phase := 4 }
def confirms (E : Env) (T : AT) (W : List Int) : AT :=
  if ld W (lock E T.na) ≠ T.was ∨ (T.na = 2 ∧ T.nv ≠ 0) then fin T 2
  else goesOn E { T with reads := T.reads ++ [(T.na, T.nv)] }
def looks (T : AT) (W : List Int) : AT :=
  let T1 := { T with was := ld W (T.locks.getD T.holds.length 0), phase := 5 }
  if freshB T1.was T.seen then T1 else giveUp T1 2
/-- lock, and words -/
def grabs (T : AT) (W : List Int) : AT × List Int :=
  let k := T.locks.getD T.holds.length 0
  if ld W k = T.was ∧ inn W k = true then
    let T1 := { T with holds := T.holds ++ [(k, T.was)] }
    ({ T1 with phase := if T1.holds.length = T.locks.length then 6 else 4 }, st W k (heldW T.owner))
  else if ld W k = T.was then
    let T1 := { T with holds := T.holds ++ [(k, T.was)] }
    ({ T1 with phase := if T1.holds.length = T.locks.length then 6 else 4 }, W)
  else (giveUp T 2, W)
def bumps (E : Env) (T : AT) (W : List Int) : AT × List Int :=
  let T1 := { T with stamp := bumpV W 1 E.clock }
  if bumpE W 1 E.clock ≠ 0 then (giveUp T1 3, bumpW W 1 E.clock)
  else
    let ck := (locksOf E T.reads).filter fun x => !T.locks.contains x
    (next { T1 with checks := ck } 7 ck.length, bumpW W 1 E.clock)
def verifies (T : AT) (W : List Int) : AT :=
  let T1 := { T with at_ := T.at_ + 1 }
  if freshB (ld W (T.checks.getD T.at_.toNat 0)) T.seen then
    (if (T.checks.length : Int) ≤ T.at_ + 1 then next T1 8 T.writes.length else T1)
  else giveUp T1 2
def stores (T : AT) (W : List Int) : AT × List Int :=
  let p := T.writes.getD T.at_.toNat (0, 0)
  let T1 := { T with at_ := T.at_ + 1 }
  (if (T.writes.length : Int) ≤ T.at_ + 1 then next { T1 with how := 1 } 9 T.holds.length else T1, st W p.1 p.2)
def releases (T : AT) (W : List Int) : AT × List Int :=
  let x := T.holds.getD T.at_.toNat (0, 0)
  let T1 := { T with at_ := T.at_ + 1 }
  (if (T.holds.length : Int) ≤ T.at_ + 1 then fin T1 T1.how else T1, st W x.1 (if T.how = 1 then freeW T.stamp else x.2))
/-- a step with an arena -/
def step (E : Env) (T : AT) (W : List Int) : AT × List Int :=
  if T.phase = 10 then (T, W)
  else if T.phase = 0 then (sees E T W, W)
  else if T.phase = 1 then (locked E T W, W)
  else if T.phase = 2 then (loads T W, W)
  else if T.phase = 3 then (confirms E T W, W)
  else if T.phase = 4 then (looks T W, W)
  else if T.phase = 5 then grabs T W
  else if T.phase = 6 then bumps E T W
  else if T.phase = 7 then (verifies T W, W)
  else if T.phase = 8 then stores T W
  else releases T W
def told (T : AT) : Int := if T.phase = 10 then T.how else 0

end Att
end Go.Proofs.YthojgahcpkdemaaGreat

/- what changes in memory, and laws for append and copy at elements of several cells; no program in sight -/
namespace Go.Bas
open Go.RowKit

/-- only blocks of S, and new ones, may have changed -/
structure Chg (S : Nat → Prop) (w w' : World) : Prop where
  os : w'.os = w.os
  tape : w'.tape = w.tape
  output : w'.output = w.output
  size : w.heap.size ≤ w'.heap.size
  block : ∀ k, k < w.heap.size → ¬ S k → w'.heap[k]? = w.heap[k]?

theorem Chg.refl (S) (w : World) : Chg S w w := ⟨rfl, rfl, rfl, Nat.le_refl _, fun _ _ _ => rfl⟩
theorem Chg.mono {S T : Nat → Prop} {w w' : World} (h : Chg S w w') (hs : ∀ k, k < w.heap.size → S k → T k) : Chg T w w' :=
  ⟨h.os, h.tape, h.output, h.size, fun k hk hn => h.block k hk fun hs' => hn (hs k hk hs')⟩
theorem Chg.trans {S : Nat → Prop} {a b c : World} (h : Chg S a b) (g : Chg S b c) : Chg S a c :=
  ⟨g.os.trans h.os, g.tape.trans h.tape, g.output.trans h.output, Nat.le_trans h.size g.size, fun k hk hn => (g.block k (Nat.lt_of_lt_of_le hk h.size) hn).trans (h.block k hk hn)⟩
/-- a change of what is new when seen from an earlier world -/
theorem Chg.trans' {S T : Nat → Prop} {a b c : World} (h : Chg S a b) (g : Chg T b c) (ht : ∀ k, k < a.heap.size → T k → S k) : Chg S a c :=
  ⟨g.os.trans h.os, g.tape.trans h.tape, g.output.trans h.output, Nat.le_trans h.size g.size, fun k hk hn => (g.block k (Nat.lt_of_lt_of_le hk h.size) (fun t => hn (ht k hk t))).trans (h.block k hk hn)⟩
theorem Chg.below {S : Nat → Prop} {w w' : World} (h : Chg S w w') {B : Nat} (hB : B ≤ w.heap.size) (hs : ∀ k, S k → B ≤ k) : Below B w w' :=
  ⟨h.os, h.tape, h.output, h.size, fun k hk => h.block k (by omega) fun hs' => by have := hs k hs'; omega⟩
theorem Chg.of_below {B : Nat} {w w' : World} (h : Below B w w') : Chg (fun k => B ≤ k) w w' :=
  ⟨h.os, h.tape, h.output, h.size, fun k _ hn => h.block k (by omega)⟩
theorem Chg.drewN (S) (w : World) (n : Nat) : Chg S w (w.drewN n) := ⟨rfl, rfl, rfl, Nat.le_refl _, fun _ _ _ => rfl⟩
theorem Chg.drew (S) (w : World) : Chg S w w.drew := ⟨rfl, rfl, rfl, Nat.le_refl _, fun _ _ _ => rfl⟩
theorem Chg.setCell {S : Nat → Prop} (w : World) (a : Addr) (v : Value) (h : S a.block) : Chg S w (w.setCell a v) :=
  ⟨rfl, rfl, rfl, by simp [World.setCell], fun k _ hn => Below.heap_setCell _ _ _ _ (fun e => hn (e ▸ h))⟩
theorem Chg.setRow {S : Nat → Prop} (w : World) (g : Nat) (cs : Array Value) (h : S g) : Chg S w (w.setRow g cs) :=
  ⟨rfl, rfl, rfl, by simp, fun k _ hn => setRow_other w g k cs (fun e => hn (e ▸ h))⟩
theorem Chg.alloc (S : Nat → Prop) (w : World) (o : Obj) : Chg S w (w.alloc o) :=
  ⟨rfl, rfl, rfl, by simp, fun k hk _ => Below.heap_alloc w o k hk⟩
theorem Chg.grown {S : Nat → Prop} {w w' : World} {row : Option Nat} (h : w.grownBy w' row) (hs : ∀ k, row = some k → S k) : Chg S w w' :=
  ⟨h.os, h.tape, h.output, h.size, fun k hk hn => h.block k hk fun e => hn (hs k e.symm)⟩

/-- copy at elements of several cells, both slices having an address where a cell goes over at all -/
theorem run_copy_sized {P : Program} (w : World) (dT sT ty elem : TypeId) (i : TypeInfo) (hu : P.underlying dT = some (.slice elem)) (hi : P.info? elem = some i)
    (dp sp : Option Addr) (dLen dCap sLen sCap : Nat) (g off : Nat) (cur : List Value) (t : TypeId) (hg : w.heap[g]? = some (.cells cur.toArray t (0, 0)))
    (cs : List Value) (hn : cs.length = Nat.min sLen dLen * i.size)
    (hpos : 0 < Nat.min sLen dLen → dp = some ⟨g, off, none⟩ ∧ ∃ ad, sp = some ad ∧ ∀ j v, cs[j]? = some v → w.cell? (ad.add j) = some v)
    (hfit : off + cs.length ≤ cur.length) (h1 : ∀ v ∈ cs, v.oneCell' = true) :
    (Builtin.copy_ #[dT, sT] ty #[.slice dp dLen dCap, .slice sp sLen sCap]).run P w =
      .ok (goInt ((Nat.min sLen dLen : Nat) : Int)) (w.setRow g (splice cur off cs).toArray) := by
  by_cases h0 : Nat.min sLen dLen = 0
  · have hc : cs = [] := List.eq_nil_of_length_eq_zero (by rw [hn, h0]; simp)
    subst hc
    have hs : w.setRow g (splice cur off []).toArray = w := by
      rw [show splice cur off [] = cur by simp [splice]]
      exact setRow_self w g _ t (0, 0) hg
    rw [hs]
    have hfc : (Builtin.firstCells i.size 0 (.slice sp sLen sCap)).run P w = .ok #[] w := by
      cases sp <;> simp [Builtin.firstCells, loadCells, loadCellsFrom]
    cases dp <;> simp [Builtin.copy_, run_underlying hu, Builtin.lenOf, sizeOf, typeInfo, hi, h0, hfc, storeCells]
  · obtain ⟨rfl, ad, rfl, hsrc⟩ := hpos (by omega)
    have hf := run_firstCells_some (P := P) w i.size (Nat.min sLen dLen) ad sLen sCap cs hn hsrc
    have hst := run_storeCells_at P g off t cs 0 cur.toArray w hg (by simpa using hfit) h1
    simp only [Nat.add_zero] at hst
    simp [Builtin.copy_, run_underlying hu, Builtin.lenOf, sizeOf, typeInfo, hi, hf, hst, splice]

theorem wpList_copy_sized {P : Program} {w : World} {ops : Array Oper} {rest : List Oper} {o : Oper} {a : Act} {Q : Exit → Act → World → Prop} (hgd : o.guard = none) (d s : Operand) (dT sT : TypeId)
    (ho : o.op = .call { callee := .builtin .copy, args := #[d, s], argTypes := #[dT, sT] }) (elem : TypeId) (i : TypeInfo) (hu : P.underlying dT = some (.slice elem)) (hi : P.info? elem = some i)
    (dp sp : Option Addr) (dLen dCap sLen sCap : Nat) (hd : a.eval d = .slice dp dLen dCap) (hs : a.eval s = .slice sp sLen sCap) (g off : Nat) (cur : List Value) (t : TypeId) (hg : w.heap[g]? = some (.cells cur.toArray t (0, 0)))
    (cs : List Value) (hn : cs.length = Nat.min sLen dLen * i.size)
    (hpos : 0 < Nat.min sLen dLen → dp = some ⟨g, off, none⟩ ∧ ∃ ad, sp = some ad ∧ ∀ j v, cs[j]? = some v → w.cell? (ad.add j) = some v)
    (hfit : off + cs.length ≤ cur.length) (h1 : ∀ v ∈ cs, v.oneCell' = true)
    (h : wpList P ops Q rest (a.put o.dst (goInt ((Nat.min sLen dLen : Nat) : Int))) (w.setRow g (splice cur off cs).toArray)) : wpList P ops Q (o :: rest) a w := by
  refine wpList_plain hgd fun K hK => ?_
  have hrun := run_copy_sized (P := P) w dT sT o.type elem i hu hi dp sp dLen dCap sLen sCap g off cur t hg cs hn hpos hfit h1
  unfold Oper.wp
  simp only [execOp, ho, resolve, invoke, builtin, List.map_toArray, List.map_cons, List.map_nil, hd, hs, Sem.run_bind, Sem.run_pure, Result.andThen_ok, hrun]
  exact hK _ _ h


/-- append to an owned row, of whatever slice: nil where it has no element -/
theorem run_append_any {P : Program} (w : World) (base : Nat) (t ty e : TypeId) (i : TypeInfo) (z : Value) (size bytes : Nat) (ht : P.underlying t = some (.slice e)) (hi : P.info? e = some i) (hz : i.zero = some z)
    (hsize : i.size = size) (hby : i.bytes = bytes) (hzs : z.cells.size = size) (hsz : 0 < size)
    (v : Value) (n : Nat) (xs : List Value) (hown : w.ownsRow base e size v n xs)
    (xa : Option Addr) (m c : Nat) (news : List Value) (hl : news.length = m * size) (hnews : 0 < m → ∃ a, xa = some a ∧ ∀ j u, news[j]? = some u → w.cell? (a.add j) = some u) (h1 : ∀ u ∈ news, u.oneCell' = true)
    (h63 : n + m ≤ maxLen) (hbytes : (n + m) * bytes ≤ 140737488355328) (hbase : base ≤ w.heap.size) :
    ∃ v' w', (Builtin.append_ #[t, t] ty #[v, .slice xa m c]).run P w = .ok v' w' ∧ w'.ownsRow base e size v' (n + m) (xs ++ news) ∧ w.grownBy w' v.ownBlock ∧
      (v'.ownBlock = v.ownBlock ∨ v'.ownBlock = some w.heap.size) := by
  by_cases hm : m = 0
  · subst hm
    have hn : news = [] := List.eq_nil_of_length_eq_zero (by simpa using hl)
    subst hn
    refine ⟨v, w, ?_, by simpa using hown, ⟨rfl, rfl, rfl, Nat.le_refl _, fun _ _ _ => rfl⟩, .inl rfl⟩
    have hf : (Builtin.firstCells i.size 0 (.slice xa 0 c)).run P w = .ok #[] w := by
      cases xa <;> simp [Builtin.firstCells, loadCells, loadCellsFrom]
    rcases hown.2 with ⟨rfl, rfl⟩ | ⟨g, cap, cur, rfl, hbg, hg, hnc, hcm, hcs, htake⟩
    · simp [Builtin.append_, run_underlying ht, sizeOf, typeInfo, hi, Builtin.lenOf, hf]
    · simp [Builtin.append_, run_underlying ht, sizeOf, typeInfo, hi, Builtin.lenOf, hnc, hf, storeCells]
  · obtain ⟨a, rfl, hne⟩ := hnews (by omega)
    clear hnews; have hnews := hne
    obtain ⟨v', w', hr, ho, hg, _⟩ := run_append_own (P := P) w base t ty e i z size bytes ht hi hz hsize hby hzs hsz v n xs hown a m c news hl hnews h1 h63 hbytes hbase
    refine ⟨v', w', hr, ho, hg, ?_⟩
    subst hsize hby
    have hsmall : n + m ≤ 9223372036854775807 := by simp only [maxLen] at h63; omega
    rcases hown.2 with ⟨rfl, rfl⟩ | ⟨g, cap, cur, rfl, hbg, hg', hnc, hcm, hcs, htake⟩
    · have hr' := run_append_nil (P := P) w t ty e i z ht hi hz a m c news hl hnews (by omega) (by omega) (by have hb := hbytes; simp only [Nat.zero_add] at hb; omega)
      rw [hr] at hr'
      injection hr' with h1 h2
      exact .inr (by rw [h1]; rfl)
    · by_cases hroom : n + m ≤ cap
      · have hfit : n * i.size + news.length ≤ cur.size := by rw [hl, hcs, ← Nat.add_mul]; exact Nat.mul_le_mul_right _ hroom
        have hr' := run_append_room (P := P) w t ty e i ht hi g n cap cur hg' a m c news hl hnews h1 hroom hfit
        rw [hr] at hr'
        injection hr' with h1 h2
        exact .inl (by rw [h1]; rfl)
      · have holds : ∀ j u, xs[j]? = some u → w.cell? ((⟨g, 0, none⟩ : Addr).add j) = some u := hown.cells (g := g) rfl
        have hr' := run_append_grow (P := P) w t ty e i z ht hi hz ⟨g, 0, none⟩ n cap xs hown.1 holds a m c news hl hnews (by omega) (by omega) (growslice_fits (by omega) hbytes)
        rw [hr] at hr'
        injection hr' with h1 h2
        exact .inr (by rw [h1]; rfl)

theorem wpList_append_any {P : Program} {w : World} {ops : Array Oper} {rest : List Oper} {o : Oper} {a : Act} {Q : Exit → Act → World → Prop} (hgd : o.guard = none) (s x : Operand) (t : TypeId)
    (ho : o.op = .call { callee := .builtin .append, args := #[s, x], argTypes := #[t, t] })
    (base : Nat) (e : TypeId) (i : TypeInfo) (z : Value) (size bytes : Nat) (ht : P.underlying t = some (.slice e)) (hi : P.info? e = some i) (hz : i.zero = some z)
    (hsize : i.size = size) (hby : i.bytes = bytes) (hzs : z.cells.size = size) (hsz : 0 < size)
    (v : Value) (n : Nat) (xs : List Value) (hs : a.eval s = v) (hown : w.ownsRow base e size v n xs)
    (xa : Option Addr) (m c : Nat) (news : List Value) (hx : a.eval x = .slice xa m c) (hl : news.length = m * size) (hnews : 0 < m → ∃ a, xa = some a ∧ ∀ j u, news[j]? = some u → w.cell? (a.add j) = some u) (h1 : ∀ u ∈ news, u.oneCell' = true)
    (h63 : n + m ≤ maxLen) (hbytes : (n + m) * bytes ≤ 140737488355328) (hbase : base ≤ w.heap.size)
    (h : ∀ v' w', w'.ownsRow base e size v' (n + m) (xs ++ news) → w.grownBy w' v.ownBlock → (v'.ownBlock = v.ownBlock ∨ v'.ownBlock = some w.heap.size) → wpList P ops Q rest (a.put o.dst v') w') : wpList P ops Q (o :: rest) a w := by
  refine wpList_plain hgd fun K hK => ?_
  obtain ⟨v', w', hr, h2, h3, h4⟩ := run_append_any (P := P) w base t o.type e i z size bytes ht hi hz hsize hby hzs hsz v n xs hown xa m c news hl hnews h1 h63 hbytes hbase
  unfold Oper.wp execOp
  simp only [ho, resolve, invoke, builtin, Sem.run_bind, Sem.run_pure, Result.andThen_ok, List.map_toArray, List.map_cons, List.map_nil, hs, hx, hr]
  exact hK _ _ (h v' w' h2 h3 h4)

/-- the cells of a new block -/
theorem new_cells (w : World) (L : List Value) (e : TypeId) : ∀ j u, L[j]? = some u → (w.alloc (.cells L.toArray e)).cell? ((⟨w.heap.size, 0, none⟩ : Addr).add j) = some u := by
  intro j u hu
  have hadd : (⟨w.heap.size, 0, none⟩ : Addr).add j = ⟨w.heap.size, j, none⟩ := by unfold Addr.add; split <;> simp_all
  rw [hadd, cell_of_row _ w.heap.size j L.toArray e (0, 0) (heap_alloc_new w _)]
  simpa using hu

/-- append where there is room, the source nil or whatever where it has no element -/
theorem run_append_room_any {P : Program} (w : World) (t ty e : TypeId) (i : TypeInfo) (size : Nat) (ht : P.underlying t = some (.slice e)) (hi : P.info? e = some i) (hsize : i.size = size)
    (g sLen sCap : Nat) (cur : Array Value) (hg : w.heap[g]? = some (.cells cur e (0, 0)))
    (xa : Option Addr) (m c : Nat) (news : List Value) (hl : news.length = m * size) (hnews : 0 < m → ∃ a, xa = some a ∧ ∀ j u, news[j]? = some u → w.cell? (a.add j) = some u) (h1 : ∀ u ∈ news, u.oneCell' = true)
    (hroom : sLen + m ≤ sCap) (hfit : sLen * size + news.length ≤ cur.size) :
    (Builtin.append_ #[t, t] ty #[.slice (some ⟨g, 0, none⟩) sLen sCap, .slice xa m c]).run P w =
      .ok (.slice (some ⟨g, 0, none⟩) (sLen + m) sCap) (w.setRow g (cur.toList.take (sLen * size) ++ news ++ cur.toList.drop (sLen * size + news.length)).toArray) := by
  subst hsize
  by_cases hm : m = 0
  · subst hm
    have hn : news = [] := List.eq_nil_of_length_eq_zero (by simpa using hl)
    subst hn
    have hf : (Builtin.firstCells i.size 0 (.slice xa 0 c)).run P w = .ok #[] w := by
      cases xa <;> simp [Builtin.firstCells, loadCells, loadCellsFrom]
    have hs : w.setRow g (cur.toList.take (sLen * i.size) ++ [] ++ cur.toList.drop (sLen * i.size + ([] : List Value).length)).toArray = w := by
      simp
      exact setRow_self w g _ _ _ hg
    rw [hs]
    have hr : sLen ≤ sCap := by omega
    simp [Builtin.append_, run_underlying ht, sizeOf, typeInfo, hi, Builtin.lenOf, hr, hf, storeCells]
  · obtain ⟨a, rfl, hne⟩ := hnews (by omega)
    exact run_append_room (P := P) w t ty e i ht hi g sLen sCap cur hg a m c news hl hne h1 hroom hfit

theorem step_append_run {P : Program} {ops : Array Oper} {o : Oper} {a : Act} {w : World} {K : Act → World → Prop} {Q : Exit → Act → World → Prop} {E : Prop}
    (hg : o.guard = none) (s x : Operand) (t : TypeId) (hop : o.op = Op.call { callee := Callee.builtin Builtin.append, args := #[s, x], argTypes := #[t, t] })
    (sv xv v' : Value) (w' : World) (hs : a.eval s = sv) (hx : a.eval x = xv) (hrun : ∀ ty, (Builtin.append_ #[t, t] ty #[sv, xv]).run P w = .ok v' w')
    (hK : K (a.put o.dst v') w') : if Region.wanted o (yielded ops a.tmps) = true then Oper.wp P o a w K Q else E := by
  have hw : Region.wanted o (yielded ops a.tmps) = true := by simp [Region.wanted, hg]
  rw [if_pos hw]
  unfold Oper.wp
  simp only [execOp, hop, resolve, invoke, builtin, Sem.run_bind, Sem.run_pure, Result.andThen_ok, List.map_toArray, List.map_cons, List.map_nil, hs, hx, hrun]
  exact hK

theorem wpList_append_run {P : Program} {w : World} {ops : Array Oper} {rest : List Oper} {o : Oper} {a : Act} {Q : Exit → Act → World → Prop} (hgd : o.guard = none) (s x : Operand) (t : TypeId)
    (ho : o.op = .call { callee := .builtin .append, args := #[s, x], argTypes := #[t, t] })
    (sv xv v' : Value) (w' : World) (hs : a.eval s = sv) (hx : a.eval x = xv) (hrun : ∀ ty, (Builtin.append_ #[t, t] ty #[sv, xv]).run P w = .ok v' w')
    (h : wpList P ops Q rest (a.put o.dst v') w') : wpList P ops Q (o :: rest) a w := by
  refine wpList_plain hgd fun K hK => ?_
  unfold Oper.wp execOp
  simp only [ho, resolve, invoke, builtin, Sem.run_bind, Sem.run_pure, Result.andThen_ok, List.map_toArray, List.map_cons, List.map_nil, hs, hx, hrun]
  exact hK _ _ h

theorem drewN_below (B : Nat) (w : World) (n : Nat) : Below B w (w.drewN n) := ⟨rfl, rfl, rfl, Nat.le_refl _, fun _ _ => rfl⟩

theorem own_slice {w : World} {base : Nat} {e : TypeId} {size : Nat} {v : Value} {n : Nat} {xs : List Value} (h : w.ownsRow base e size v n xs) : ∃ A c, v = .slice A n c := by
  rcases h.2 with ⟨rfl, rfl⟩ | ⟨g, cap, cur, rfl, _⟩
  · exact ⟨_, _, rfl⟩
  · exact ⟨_, _, rfl⟩

end Go.Bas

namespace Go.Bas
open Go.RowKit

/-- a function's value called: its body is entered -/
theorem callFunc_run {P : Program} {f : FuncId} {fn : Func} (h : P.funcs[f]? = some fn) (hn : (fn.name == "runtime.NumGoroutine") = false) (hb : fn.body.isNone = false) (args : Array Value) (w : World) :
    (callFunc f args).run P w = .ok (.enter f args) w := by
  have hn' : ¬ fn.name = "runtime.NumGoroutine" := by simpa using hn
  have hb' : ¬ fn.body = none := by intro e; rw [e] at hb; cases hb
  simp [callFunc, program, Sem.run, h, hn', hb']

end Go.Bas

/- regions that draw their order, and whose operations only add to memory: one walk of the text's order; structs by value as whole rows -/
namespace Go.Bas
open Go.RowKit

/-- the worlds that come of w by adding to memory: below block B all is as it was -/
structure Ext (B : Nat) (w : World) where
  at_ : World
  below : Below B w at_
instance (B : Nat) (w : World) : Nonempty (Ext B w) := ⟨⟨w, Below.refl B w⟩⟩

theorem wp_region_mono {P : Program} {id : Nat} {Q : Exit → Act → World → Prop} {a : Act} {w : World} {l : List Oper} (B : Nat) (hm : P.follows .mixedOrders = true) (hB : Region.lexB .any l.toArray = true)
    (h : wpQuiet P l.toArray (fun w' => ∃ e : Ext B w, w' = e.1) (fun a' => ∀ e : Ext B w, Q .normal a' e.1) l a) : (Code.region id l.toArray true).wp P Q a w := by
  refine wp_region_quiet (C := fun w' => ∃ e : Ext B w, w' = e.1) hm hB ⟨⟨_, (Below.refl B w).drew⟩, rfl⟩ ?_
  have e : (fun a' => ∀ w', (∃ e : Ext B w, w' = e.1) → Q .normal a' w') = (fun a' => ∀ e : Ext B w, Q .normal a' e.1) := by
    funext a'
    apply propext
    constructor
    · intro h e; exact h _ ⟨e, rfl⟩
    · rintro h _ ⟨e, rfl⟩; exact h e
  rw [e]
  simpa using h

/-- a callee that only adds to memory -/
theorem Calls.ext {P : Program} {f : FuncId} {args : Array Value} {B : Nat} {w : World} {e : Ext B w} {v : Value} (hB : B ≤ w.heap.size)
    (h : Calls P f args e.1 fun e' w' => e' = .returned v ∧ Below e.1.heap.size e.1 w') : Calls P f args e.1 fun e' w'' => e' = .returned v ∧ ∃ e2 : Ext B w, w'' = e2.1 :=
  h.mono fun _ w' ⟨he, hb⟩ => ⟨he, ⟨w', e.2.trans (hb.mono (Nat.le_trans hB e.2.size))⟩, rfl⟩

/-- a whole struct read, in a quiet walk -/
theorem wpQuiet_load_row {P : Program} {ops : Array Oper} {C : World → Prop} {Q : Act → Prop} {a : Act} {o : Oper} {rest : List Oper} (hw : Region.wanted o (yielded ops a.tmps) = true) (ty : TypeId) (x : Operand) (ho : o.op = .load ty x)
    (g : Nat) (hx : a.eval x = .pointer (some ⟨g, 0, none⟩)) (t : TypeId) (cs : Array Value) (fr : Nat × Nat) (d : TypeDesc) (hg : ∀ w, C w → w.heap[g]? = some (.cells cs t fr))
    (hu : P.underlying ty = some d) (hd : (match d with | .struct _ | .array _ _ => true | _ => false) = true) (hi : (P.info? ty).map (·.size) = some cs.size)
    (h : wpQuiet P ops C Q rest (a.put o.dst (.agg cs))) : wpQuiet P ops C Q (o :: rest) a := by
  refine wpQuiet_step fun K hK => ?_
  rw [if_pos hw]
  refine ⟨.agg cs, fun w hC => ?_, hK _ h⟩
  unfold Oper.quietAt execOp
  simp only [ho, hx, Instr.loadAt, Instr.sureAddr, Sem.run_bind, Sem.run_pure, Result.andThen_ok, run_loadVar_row w g t ty cs fr d (hg w hC) hu hd hi]
  exact ⟨rfl, rfl⟩

/-- one cell of a row that is known, in every later world -/
theorem ext_cell {B : Nat} {w : World} {g : Nat} {cs : Array Value} {t : TypeId} {fr : Nat × Nat} (hg : w.heap[g]? = some (.cells cs t fr)) (hB : g < B) {j : Nat} {u : Value} (hj : cs[j]? = some u) : ∀ e : Ext B w, e.1.cell? ⟨g, j, none⟩ = some u := fun e => by
  rw [e.2.cell (by exact hB), cell_of_row w g j cs t fr hg]
  exact hj
theorem ext_row {B : Nat} {w : World} {g : Nat} {o : Obj} (hg : w.heap[g]? = some o) (hB : g < B) : ∀ w', (∃ e : Ext B w, w' = e.1) → w'.heap[g]? = some o := by
  rintro _ ⟨e, rfl⟩
  rw [e.2.block g hB]; exact hg
theorem new_row (w : World) (cs : Array Value) (t : TypeId) : (w.alloc (.cells cs t)).heap[w.heap.size]? = some (.cells cs t (0, 0)) := heap_alloc_new w _

/-- the head of a row, as a struct of its own -/
theorem row_range {w : World} {g : Nat} {L : Array Value} {t : TypeId} {fr : Nat × Nat} (hg : w.heap[g]? = some (.cells L t fr)) (o : Nat) (cs : List Value) (h : ∀ j v, cs[j]? = some v → L[o + j]? = some v) : w.rangeAt g o cs := fun j v hv => by
  rw [cell_of_row w g _ L t fr hg]; exact h j v hv
theorem alloc_heap (w : World) (o : Obj) (k : Nat) (hk : k < w.heap.size) : (w.alloc o).heap[k]? = w.heap[k]? := Below.heap_alloc w o k hk
theorem setRow_same {w : World} {g : Nat} {old cs : Array Value} {t : TypeId} {fr : Nat × Nat} (hg : w.heap[g]? = some (.cells old t fr)) : (w.setRow g cs).heap[g]? = some (.cells cs t fr) := setRow_heap w g old cs t fr hg
theorem setRow_below {B g : Nat} {w0 w : World} (hb : Below B w0 w) (hBg : B ≤ g) (cs : Array Value) : Below B w0 (w.setRow g cs) := below_setRow hb hBg cs

/-- single cells of a row, as rows -/
theorem setCell_row {w : World} {g i : Nat} {cs : Array Value} {t : TypeId} {fr : Nat × Nat} {v : Value} (hg : w.heap[g]? = some (.cells cs t fr)) : w.setCell ⟨g, i, none⟩ v = w.setRow g (cs.setIfInBounds i v) := by
  have hlt : g < w.heap.size := (Array.getElem?_eq_some_iff.1 hg).1
  have hv : w.heap[g] = .cells cs t fr := (Array.getElem?_eq_some_iff.1 hg).2
  unfold World.setCell World.setRow
  congr 1
  apply Array.ext
  · simp
  · intro k h1 h2
    simp only [Array.getElem_modify]
    split
    · rename_i e; subst e; rw [hv]; rfl
    · rfl
theorem setRow_setRow (w : World) (g : Nat) (a b : Array Value) : (w.setRow g a).setRow g b = w.setRow g b := by
  unfold World.setRow
  congr 1
  apply Array.ext
  · simp
  · intro k h1 h2
    simp only [Array.getElem_modify]
    split
    · generalize w.heap[k]'(by simpa using h2) = o
      cases o <;> rfl
    · rfl
theorem setRow_is {w : World} {g : Nat} {cs : Array Value} {t : TypeId} {fr : Nat × Nat} (hg : w.heap[g]? = some (.cells cs t fr)) : w.setRow g cs = w := by
  have hlt : g < w.heap.size := (Array.getElem?_eq_some_iff.1 hg).1
  have hv : w.heap[g] = .cells cs t fr := (Array.getElem?_eq_some_iff.1 hg).2
  have e : (w.setRow g cs).heap = w.heap := by
    unfold World.setRow
    apply Array.ext
    · simp
    · intro k h1 h2
      simp only [Array.getElem_modify]
      split
      · rename_i e; subst e; rw [hv]
      · rfl
  show ({ w with heap := (w.setRow g cs).heap } : World) = w
  rw [e]
theorem setRow_other (w : World) (g k : Nat) (cs : Array Value) (h : k ≠ g) : (w.setRow g cs).heap[k]? = w.heap[k]? := by
  unfold World.setRow
  simp only [Array.getElem?_modify]
  rw [if_neg (Ne.symm h)]
theorem setRow_size (w : World) (g : Nat) (cs : Array Value) : (w.setRow g cs).heap.size = w.heap.size := by
  unfold World.setRow; simp
theorem setRow_cell {w : World} {g : Nat} {old : Array Value} {t : TypeId} {fr : Nat × Nat} (hg : w.heap[g]? = some (.cells old t fr)) (cs : Array Value) (j : Nat) : (w.setRow g cs).cell? ⟨g, j, none⟩ = cs[j]? := by
  rw [cell_of_row _ _ _ _ _ _ (setRow_same hg)]
theorem setRow_cell_other (w : World) (g k : Nat) (cs : Array Value) (j : Nat) (h : k ≠ g) : (w.setRow g cs).cell? ⟨k, j, none⟩ = w.cell? ⟨k, j, none⟩ := by
  unfold World.cell?
  simp only [setRow_other w g k cs h]
theorem setRow_setCell {w : World} {g : Nat} {old : Array Value} {t : TypeId} {fr : Nat × Nat} (hg : w.heap[g]? = some (.cells old t fr)) (cs : Array Value) (i : Nat) (v : Value) : (w.setRow g cs).setCell ⟨g, i, none⟩ v = w.setRow g (cs.setIfInBounds i v) := by
  rw [setCell_row (setRow_same hg), setRow_setRow]
theorem row_frozen {w : World} {g : Nat} {cs : Array Value} {t : TypeId} (hg : w.heap[g]? = some (.cells cs t (0, 0))) (j : Nat) : w.frozen? ⟨g, j, none⟩ = false := by
  unfold World.frozen?
  simp only [hg]
  simp
theorem alloc_cell (w : World) (o : Obj) (k j : Nat) (hk : k < w.heap.size) : (w.alloc o).cell? ⟨k, j, none⟩ = w.cell? ⟨k, j, none⟩ := by
  unfold World.cell?
  simp only [alloc_heap w o k hk]

/-- a whole struct read where a guard lets it -/
theorem wpList_load_row_if {P : Program} {ops : Array Oper} {rest : List Oper} {o : Oper} {a : Act} {w : World} {Q : Exit → Act → World → Prop} (hw : Region.wanted o (yielded ops a.tmps) = true) (ty : TypeId) (x : Operand) (ho : o.op = .load ty x)
    (g : Nat) (hx : a.eval x = .pointer (some ⟨g, 0, none⟩)) (t : TypeId) (cs : Array Value) (fr : Nat × Nat) (d : TypeDesc) (hg : w.heap[g]? = some (.cells cs t fr))
    (hu : P.underlying ty = some d) (hd : (match d with | .struct _ | .array _ _ => true | _ => false) = true) (hi : (P.info? ty).map (·.size) = some cs.size)
    (h : wpList P ops Q rest (a.put o.dst (.agg cs)) w) : wpList P ops Q (o :: rest) a w :=
  BigFrame.wpList_want hw fun _ hK => wp_load_row ty x ho g hx t cs fr d hg hu hd hi (hK _ _ h)

/-- 'return s, e': s a struct in a cell, e in a slot -/
theorem results_row_tmp {P : Program} {fn : Func} {p u : Tmp} {ty : TypeId} (h : fn.results = #[.cell p ty, .tmp u]) (tmps : Array Value) (w : World) (g : Nat) (t : TypeId) (cs : Array Value) (fr : Nat × Nat) (d : TypeDesc)
    (hp : tmps.getD p undef = .pointer (some ⟨g, 0, none⟩)) (hg : w.heap[g]? = some (.cells cs t fr))
    (hu : P.underlying ty = some d) (hd : (match d with | .struct _ | .array _ _ => true | _ => false) = true) (hi : (P.info? ty).map (·.size) = some cs.size) :
    (results fn tmps).run P w = .ok (.tuple #[.agg cs, tmps.getD u undef]) w := by
  rw [results_cell_tmp h, hp]
  simp [asAddr, run_loadVar_row w g t ty cs fr d hg hu hd hi, Result.andThen]

/-- a struct or an array that is built, its cells named -/
theorem wpList_built {P : Program} {ops : Array Oper} {rest : List Oper} {o : Oper} {a : Act} {w : World} {Q : Exit → Act → World → Prop} (hg : o.guard = none) (t : TypeId) (parts : Array (Nat × Operand)) (ho : o.op = .build t parts)
    (vs : List (Nat × Value)) (hp' : parts.toList.map (fun (i, x) => (i, a.eval x)) = vs) (cs : Array Value) (hb : P.built t vs = some cs)
    (h : wpList P ops Q rest (a.put o.dst (.agg cs)) w) : wpList P ops Q (o :: rest) a w := by
  have hp : (parts.map fun (i, x) => (i, a.eval x)).toList = vs := by rw [Array.toList_map]; exact hp'
  refine wpList_build hg t parts ho (by rw [hp, hb]; rfl) ?_
  rw [hp, hb]
  exact h

end Go.Bas

/- a region that draws its order: a head whose operations read, and whose callees only add to memory; then a tail in one forced order (a store at the end) -/
namespace Go.Bas
open Go.RowKit

/-- the head in whatever order, then L -/
def Head (P : Program) (ops : Array Oper) (C : World → Prop) (n : Nat) (L : Array Bool → Act → Prop) : Nat → Array Bool → Act → Prop
  | 0, done, a => L done a
  | f + 1, done, a => Region.ready .any ops done ≠ [] ∧ ∀ i, i ∈ Region.ready .any ops done → i < n ∧ qOp P ops C i (Head P ops C n L f (done.setIfInBounds i true)) a

theorem Head.any {P : Program} {ops : Array Oper} {C : World → Prop} {n g : Nat} {L : Array Bool → Act → Prop} {Q : Exit → Act → World → Prop}
    (hL : ∀ done a w, C w → L done a → wpAny P .any ops Q g done a w) : ∀ (f : Nat) (done : Array Bool) (a : Act) (w : World), C w → Head P ops C n L f done a → wpAny P .any ops Q (g + f) done a w
  | 0, done, a, w, hw, h => hL done a w hw h
  | f + 1, _, _, _, hw, h => ⟨fun e => absurd e h.1, fun i hi => wpOp_of_qOp hw (fun a' w' hw' hk => Head.any hL f _ a' w' hw' hk) (h.2 i hi).2⟩

/-- what may come first may be taken first -/
theorem Head.front {P : Program} {ops : Array Oper} {C : World → Prop} {n i : Nat} {o : Oper} {v : Value} {L : Array Bool → Act → Prop}
    (hs : Region.sinkB .any ops n = true) (hc : Region.chainB .any ops n = true) (hn : n < ops.size) (hsel : ∀ (j : Nat) (o : Oper) cs b, ops[j]? = some o → o.op ≠ .select cs b)
    (ho : ops[i]? = some o) (hin : i < n) (hL : ∀ done a, L done a → ∀ j, j ∈ Region.ready .any ops done → n ≤ j) :
    ∀ (f : Nat) (done : Array Bool) (a : Act), HeadInv .any ops n done → i ∈ Region.ready .any ops done → YieldsIn P ops C o v a →
      (∀ j oj, ops[j]? = some oj → j ≠ i → done.getD j true = false → (∀ e ∈ oj.after, Region.binds .any e = true → e.on ≠ i) → o.apart ops oj = true) →
      Head P ops C n L f (done.setIfInBounds i true) (a.put o.dst v) → Head P ops C n L (f + 1) done a := by
  intro f
  induction f with
  | zero =>
    intro done a inv hr hy _ H
    refine ⟨List.ne_nil_of_mem hr, fun j hj => ?_⟩
    have hjn : j < n := Nat.lt_of_not_le fun h => tail_waits hs hc hn inv _ i rfl hin (mem_ready.1 hr).1 j h hj
    refine ⟨hjn, ?_⟩
    by_cases e : j = i
    · rw [e]; exact hy.qOp ho H
    · exact absurd (hL _ _ H j (ready_mono hj e)) (Nat.not_le.2 hjn)
  | succ f ih =>
    intro done a inv hr hy hfree H
    refine ⟨List.ne_nil_of_mem hr, fun j hj => ?_⟩
    have hjn : j < n := Nat.lt_of_not_le fun h => tail_waits hs hc hn inv _ i rfl hin (mem_ready.1 hr).1 j h hj
    refine ⟨hjn, ?_⟩
    by_cases e : j = i
    · rw [e]; exact hy.qOp ho H
    · obtain ⟨hjd, oj, hoj, hall⟩ := mem_ready.1 hj
      have hne : ∀ x ∈ oj.after, Region.binds .any x = true → x.on ≠ i := fun x hx hb he => by
        have h0 := hall x hx hb
        rw [he, getD_both (mem_ready.1 hr).1] at h0
        exact Bool.noConfusion h0
      refine qOp_mono (fun a' h3 => ih (done.setIfInBounds j true) a' (inv.set hj hjn) (ready_mono hr (Ne.symm e)) h3.1 (fun k ok hk hki hkd hkn => ?_) ?_)
        (qOp_put hoj (hfree j oj hoj e hjd hne) (fun cs b => hsel i o cs b ho) (fun cs b => hsel j oj cs b hoj) hy (H.2 j (ready_mono hj e)).2)
      · refine hfree k ok hk hki ?_ hkn
        by_cases hjk : j = k
        · rw [← hjk]; exact hjd
        · rwa [getD_set_ne true hjk] at hkd
      · rw [Array.setIfInBounds_comm _ _ e]; exact h3.2

theorem Head.lex {P : Program} {ops : Array Oper} {C : World → Prop} {n g : Nat} {Q : Act → Prop} (hsel : Region.noSelect ops = true)
    (hs : Region.sinkB .any ops n = true) (hc : Region.chainB .any ops n = true) (hn : n < ops.size) :
    ∀ (l : List Oper) (k : Nat) (done : Array Bool) (a : Act), (∀ j, j < l.length → l[j]? = ops[k + j]?) → k + l.length = n → HeadInv .any ops n done →
      Region.lexHead .any ops g l.length k done = true → wpQuiet P ops C Q l a → Head P ops C n (fun d' a' => Region.seqB .any ops g n d' = true ∧ Q a') l.length done a
  | [], k, _, _, _, hk, _, hB, h => by
    obtain rfl : k = n := by simpa using hk
    exact ⟨hB, h⟩
  | o :: l, k, done, a, hl, hk, inv, hB, h => by
    simp only [List.length_cons] at hk
    have h0 : ops[k]? = some o := by simpa using (hl 0 (by simp)).symm
    simp only [List.length_cons, Region.lexHead, Bool.and_eq_true] at hB
    have hr : k ∈ Region.ready .any ops done := by simpa using hB.1.1
    have hq : qOp P ops C k (wpQuiet P ops C Q l) a := by unfold qOp; simp only [h0]; exact h
    obtain ⟨v, hy, hK⟩ := yieldsIn_of_qOp h0 hq
    exact Head.front hs hc hn (Region.noSelect_spec hsel) h0 (by omega) (fun d' a' hL => seqB_ready hL.1) l.length done a inv hr hy (Region.free_spec h0 hB.1.2)
      (Head.lex hsel hs hc hn l (k + 1) _ _ (fun j hj => by have := hl (j + 1) (by simp; omega); simpa [Nat.add_assoc, Nat.add_comm 1 j] using this) (by omega) (inv.set hr (by omega)) hB.2 hK)

/-- THE LAW: the head (n operations) in the order of the text, in every world that memory may have been added to; then the tail, in that world -/
theorem wp_region_mono_tail {P : Program} {id : Nat} {Q : Exit → Act → World → Prop} {a : Act} {w : World} {l : List Oper} (B n : Nat) (hm : P.follows .mixedOrders = true) (hB : Region.lexTailB .any l.toArray n = true)
    (h : wpQuiet P l.toArray (fun w' => ∃ e : Ext B w, w' = e.1) (fun a' => ∀ e : Ext B w, wpList P l.toArray Q (l.drop n) a' e.1) (l.take n) a) : (Code.region id l.toArray true).wp P Q a w := by
  simp only [Region.lexTailB, Bool.and_eq_true, decide_eq_true_eq] at hB
  obtain ⟨⟨⟨⟨hsel, hn⟩, hs⟩, hc⟩, hlex⟩ := hB
  have hnl : n < l.length := by simpa using hn
  have htl : (l.take n).length = n := by simp; omega
  have hdl : (l.drop n).length = l.toArray.size - n := by simp
  have H := Head.lex (g := l.toArray.size - n) hsel hs hc hn (l.take n) 0 (Array.replicate l.toArray.size false) a
    (fun j hj => by have hj' : j < n := by omega
                    simp [hj']) (by omega)
    ⟨by simp, fun j oj _ hl => (by rw [getD_replicate_false] at hl; exact Bool.noConfusion hl), fun t _ ht => getD_in (by simpa using ht) (getD_replicate_false _ _)⟩ (by rw [htl]; exact hlex) h
  refine wp_region_any hm ?_
  have := Head.any (Q := Q) (g := l.toArray.size - n) (fun d a' w' hw' hL => by
    obtain ⟨e, rfl⟩ := hw'
    have := wpAny_of_seq (md := .any) (Q' := Q) (l.drop n) n d a' e.1 (fun j => by simp [List.getElem?_drop]) (by rw [hdl]; exact hL.1) (hL.2 e)
    rwa [hdl] at this) _ _ _ { w with drawn := w.drawn + 1 } ⟨⟨_, (Below.refl B w).drew⟩, rfl⟩ H
  rw [htl, show l.toArray.size - n + n = l.toArray.size by omega] at this
  exact this

end Go.Bas

/- plain facts on sorted lists of keys: no program in sight -/
namespace SorPlain

/-- how many keys are less -/
def lower (k : Int) : List Int → Nat
  | [] => 0
  | x :: l => if x < k then lower k l + 1 else 0

theorem lower_le (k : Int) (l : List Int) : lower k l ≤ l.length := by
  induction l with
  | nil => simp [lower]
  | cons x l ih => simp only [lower]; split <;> simp <;> omega

theorem lt_of_lt_lower {k : Int} : ∀ {l : List Int} {i : Nat} (_ : i < lower k l), l.getD i 0 < k := by
  intro l
  induction l with
  | nil => intro i h; simp [lower] at h
  | cons x l ih =>
    intro i h
    simp only [lower] at h
    split at h
    · cases i with
      | zero => simpa
      | succ i => simpa using ih (i := i) (by omega)
    · omega

theorem ge_of_lower {k : Int} : ∀ {l : List Int} (_ : l.Pairwise (· < ·)) {i : Nat} (_ : lower k l ≤ i) (_ : i < l.length), k ≤ l.getD i 0 := by
  intro l
  induction l with
  | nil => intro _ i _ hi; simp at hi
  | cons x l ih =>
    intro hs i h hi
    simp only [lower] at h
    rw [List.pairwise_cons] at hs
    split at h
    · rename_i hx
      cases i with
      | zero => omega
      | succ i => simpa using ih hs.2 (i := i) (by omega) (by simpa using hi)
    · rename_i hx
      cases i with
      | zero => simpa using hx
      | succ i =>
        have hi' : i < l.length := by simpa using hi
        have := hs.1 (l[i]) (List.getElem_mem _)
        simp [hi'] at *
        omega

/-- the place is told by what lies left and right of it -/
theorem lower_unique {k : Int} {l : List Int} (hs : l.Pairwise (· < ·)) {n : Nat} (hn : n ≤ l.length) (h1 : ∀ i, i < n → l.getD i 0 < k) (h2 : n < l.length → k ≤ l.getD n 0) : n = lower k l := by
  rcases Nat.lt_trichotomy n (lower k l) with h | h | h
  · have := lt_of_lt_lower h
    have hl := lower_le k l
    have := h2 (by omega)
    omega
  · exact h
  · have := h1 _ h
    have := ge_of_lower hs (Nat.le_refl (lower k l)) (by omega)
    omega

/-- in a rising list what is less stands left -/
theorem lt_of_le {l : List Int} (hs : l.Pairwise (· < ·)) {i j : Nat} (hij : i ≤ j) (hj : j < l.length) : l.getD i 0 ≤ l.getD j 0 := by
  rcases Nat.lt_or_ge i j with h | h
  · have := List.pairwise_iff_getElem.1 hs i j (by omega) hj h
    simp [show i < l.length by omega, hj]
    omega
  · have : i = j := by omega
    subst this
    exact Int.le_refl _

theorem mid_lo {ks : List Int} (hs : ks.Pairwise (· < ·)) {k x : Int} {l h m : Nat} (hm : m < h) (hh : m < ks.length) (hx : ks.getD m 0 = x) (hxk : x < k) (H : (∀ i, i < l → ks.getD i 0 < k) ∧ (∀ i, h ≤ i → i < ks.length → k ≤ ks.getD i 0)) :
    (∀ i, i < m + 1 → ks.getD i 0 < k) ∧ (∀ i, h ≤ i → i < ks.length → k ≤ ks.getD i 0) :=
  ⟨fun i hi => by have := lt_of_le hs (show i ≤ m by omega) hh; omega, H.2⟩

theorem mid_hi {ks : List Int} (hs : ks.Pairwise (· < ·)) {k x : Int} {l h m : Nat} (hm : m < h) (hh : m < ks.length) (hx : ks.getD m 0 = x) (hxk : ¬ x < k) (H : (∀ i, i < l → ks.getD i 0 < k) ∧ (∀ i, h ≤ i → i < ks.length → k ≤ ks.getD i 0)) :
    (∀ i, i < l → ks.getD i 0 < k) ∧ (∀ i, m ≤ i → i < ks.length → k ≤ ks.getD i 0) :=
  ⟨H.1, fun i hi hl => by have := lt_of_le hs hi hl; omega⟩

section
variable {α : Type}
/-- the keys -/
def keys (xs : List (Int × α)) : List Int := xs.map (·.1)
@[simp] theorem keys_length (xs : List (Int × α)) : (keys xs).length = xs.length := by simp [keys]
/-- the place of a key -/
def place (k : Int) (xs : List (Int × α)) : Nat := lower k (keys xs)
theorem place_le (k : Int) (xs : List (Int × α)) : place k xs ≤ xs.length := by have := lower_le k (keys xs); simpa [place] using this
/-- is there such a key? -/
def has (k : Int) (xs : List (Int × α)) : Bool := decide (lower k (keys xs) < (keys xs).length ∧ (keys xs).getD (lower k (keys xs)) 0 = k)
theorem has_lt {k : Int} {xs : List (Int × α)} (h : has k xs = true) : place k xs < xs.length := by
  have := (of_decide_eq_true h).1; simpa [place] using this
/-- what a key has -/
def getD (k : Int) (d : α) (xs : List (Int × α)) : α := if has k xs then (xs.map (·.2)).getD (place k xs) d else d
def put (k : Int) (u : α) (xs : List (Int × α)) : List (Int × α) := xs.take (place k xs) ++ (k, u) :: xs.drop (place k xs + (if has k xs then 1 else 0))
def cut (k : Int) (xs : List (Int × α)) : List (Int × α) := if has k xs then xs.eraseIdx (place k xs) else xs
/-- rising keys -/
def Rising (xs : List (Int × α)) : Prop := (keys xs).Pairwise (· < ·)

theorem put_length (k : Int) (u : α) (xs : List (Int × α)) : (put k u xs).length = xs.length + (if has k xs then 0 else 1) := by
  have h := place_le k xs
  unfold put
  split
  · rename_i hh; have := has_lt hh; simp; omega
  · simp; omega

theorem key_place_lt {k : Int} {xs : List (Int × α)} {i : Nat} (h : i < place k xs) : (keys xs).getD i 0 < k := lt_of_lt_lower h
theorem key_place_ge {k : Int} {xs : List (Int × α)} (hs : Rising xs) {i : Nat} (h : place k xs ≤ i) (hi : i < xs.length) : k ≤ (keys xs).getD i 0 := ge_of_lower hs h (by simpa using hi)
theorem mem_take_lt {k : Int} {xs : List (Int × α)} {p : Int × α} (h : p ∈ xs.take (place k xs)) : p.1 < k := by
  obtain ⟨i, hi, rfl⟩ := List.mem_iff_getElem.1 h
  have hl : i < place k xs ∧ i < xs.length := by simpa [Nat.lt_min] using hi
  have := key_place_lt hl.1
  simpa [keys, hl.2] using this
theorem mem_drop_ge {k : Int} {xs : List (Int × α)} (hs : Rising xs) {p : Int × α} (h : p ∈ xs.drop (place k xs)) : k ≤ p.1 := by
  obtain ⟨i, hi, rfl⟩ := List.mem_iff_getElem.1 h
  have hl : place k xs + i < xs.length := by simp at hi; omega
  have := key_place_ge (k := k) hs (i := place k xs + i) (by omega) hl
  simpa [keys, hl] using this
theorem not_has {k : Int} {xs : List (Int × α)} (hs : Rising xs) (h : has k xs = false) {p : Int × α} (hp : p ∈ xs) : p.1 ≠ k := by
  intro e
  obtain ⟨i, hi, rfl⟩ := List.mem_iff_getElem.1 hp
  have h1 := of_decide_eq_false h
  rcases Nat.lt_or_ge i (place k xs) with h2 | h2
  · have := key_place_lt h2; simp [keys, hi] at this; omega
  · have h3 := key_place_ge hs (Nat.le_refl (place k xs)) (by omega)
    have h4 := lt_of_le hs h2 (by simpa using hi)
    have h5 : (keys xs).getD i 0 = k := by simpa [keys, hi] using e
    exact h1 ⟨by simp; show place k xs < _; omega, by show (keys xs).getD (place k xs) 0 = k; omega⟩

theorem mem_drop_gt {k : Int} {xs : List (Int × α)} (hs : Rising xs) {p : Int × α} (h : p ∈ xs.drop (place k xs + (if has k xs then 1 else 0))) : k < p.1 := by
  by_cases hh : has k xs = true
  · rw [if_pos hh] at h
    obtain ⟨i, hi, rfl⟩ := List.mem_iff_getElem.1 h
    have hl : place k xs + 1 + i < xs.length := by simp at hi; omega
    have h1 := List.pairwise_iff_getElem.1 hs (place k xs) (place k xs + 1 + i) (by simp; omega) (by simpa using hl) (by omega)
    have h2 := (of_decide_eq_true hh).2
    have h3 : place k xs < xs.length := by omega
    have h4 : (keys xs).getD (place k xs) 0 = k := h2
    simp [keys, h3] at h4
    simp [keys] at h1 ⊢
    omega
  · have hf : has k xs = false := by simpa using hh
    rw [if_neg hh] at h
    have h1 := mem_drop_ge hs h
    have h2 := not_has hs hf (List.mem_of_mem_drop h)
    omega

theorem Rising.put {xs : List (Int × α)} (hs : Rising xs) (k : Int) (u : α) : Rising (put k u xs) := by
  unfold Rising keys SorPlain.put
  rw [List.pairwise_map, List.pairwise_append]
  have hs' := List.pairwise_map.1 hs
  refine ⟨hs'.sublist (List.take_sublist _ _), List.pairwise_cons.2 ⟨fun p hp => mem_drop_gt hs hp, hs'.sublist (List.drop_sublist _ _)⟩, fun p hp q hq => ?_⟩
  have h1 := mem_take_lt hp
  rcases List.mem_cons.1 hq with rfl | hq
  · exact h1
  · have := mem_drop_gt hs hq; omega

theorem Rising.cut {xs : List (Int × α)} (hs : Rising xs) (k : Int) : Rising (cut k xs) := by
  unfold SorPlain.cut
  split
  · unfold Rising keys at *
    exact hs.sublist ((List.eraseIdx_sublist _ _).map _)
  · exact hs
end

end SorPlain

/- a Go map from int to int that the call has made: what it has, as a function -/
namespace Go.Proofs.YthojgahcpkdemaaGreat
open Go.RowKit Go.Bas Go.ChangeShapes Go.WideShapes
namespace IMap_

/-- a Go int -/
def In64 (a : Int) : Prop := -9223372036854775808 ≤ a ∧ a ≤ 9223372036854775807
theorem In64.wf {a : Int} (h : In64 a) : (Lit.int .i64 a).wf = true := by
  unfold In64 at h
  simp [Lit.wf, IntKind.min, IntKind.max, IntKind.signed, IntKind.bits]
  omega
theorem in64_of_wf {a : Int} (h : (Lit.int .i64 a).wf = true) : In64 a := by
  unfold In64
  simp [Lit.wf, IntKind.min, IntKind.max, IntKind.signed, IntKind.bits] at h
  omega

theorem keyed : Go.Maps.Keyed Tryz.prog 3 := Go.Maps.int_keyed Tryz.underlying3
theorem key_of {a : Int} (h : In64 a) : keyOf Tryz.prog 3 (.int .i64 a) = some (.int .i64 a) := Go.Maps.keyOf_int_mk Tryz.underlying3 h.wf
theorem elem_of {a : Int} (h : In64 a) : plainElem (H := Unit) Tryz.prog 3 (.int .i64 a) = some (.lit (.int .i64 a), []) := plainElem_int Tryz.underlying3 h.wf
theorem zero_of (w : World) : (zeroValue 3).run Tryz.prog w = .ok (.int .i64 0) w := by
  have h : (Tryz.prog.info? 3).map (·.zero) = some (some (.int .i64 0)) := by kernel_rfl
  obtain ⟨i, hi, hz⟩ := Option.map_eq_some_iff.1 h
  simp [zeroValue, typeInfo, hi, hz]

/-- block b is a map of at most n keys that has f -/
def IMap (w : World) (b n : Nat) (f : Int → Option Int) : Prop :=
  ∃ D : DataW Unit, w.ownsMap Tryz.prog 3 (plainElem Tryz.prog 3) b n D ∧ (∀ a, In64 a → Maps.has D (.int .i64 a) = (f a).isSome) ∧
    (∀ a, In64 a → D.atKey (.int .i64 a) (.lit (.int .i64 0)) = .lit (.int .i64 ((f a).getD 0)))

theorem IMap.made (w : World) : IMap (w.alloc (.map #[] 0)) w.heap.size 0 (fun _ => none) :=
  ⟨.map [], World.ownsMap_made w _ _ _, fun a _ => rfl, fun a _ => rfl⟩
theorem IMap.block {w w' : World} {b n : Nat} {f : Int → Option Int} (h : IMap w b n f) (e : w'.heap[b]? = w.heap[b]?) : IMap w' b n f := by
  obtain ⟨D, ⟨es, clock, h1, h2⟩, h3⟩ := h
  exact ⟨D, ⟨es, clock, e.trans h1, h2⟩, h3⟩
theorem IMap.lt {w : World} {b n : Nat} {f : Int → Option Int} (h : IMap w b n f) : b < w.heap.size := by
  obtain ⟨D, h1, _⟩ := h
  exact h1.lt
theorem IMap.look {w : World} {b n : Nat} {f : Int → Option Int} (h : IMap w b n f) {a : Int} (ha : In64 a) :
    (Instr.lookup 125 (.map (some b)) (.int .i64 a) true).run Tryz.prog w = .ok (.tuple #[.int .i64 ((f a).getD 0), .bool (f a).isSome]) w := by
  obtain ⟨D, h1, h2, h3⟩ := h
  obtain ⟨v, ps, hrun, hv⟩ := h1.look_ok keyed Tryz.underlying125 (zero_of w) (elem_of (a := 0) (by unfold In64; omega)) (key_of ha)
  rw [h3 a ha] at hv
  obtain ⟨c, rfl, hc, _⟩ := plainElem_int_inv Tryz.underlying3 hv
  have : (f a).getD 0 = c := by simpa using congrArg Prod.fst hc
  rw [h2 a ha] at hrun
  rw [this]
  exact hrun
theorem IMap.look1 {w : World} {b n : Nat} {f : Int → Option Int} (h : IMap w b n f) {a : Int} (ha : In64 a) :
    (Instr.lookup 125 (.map (some b)) (.int .i64 a) false).run Tryz.prog w = .ok (.int .i64 ((f a).getD 0)) w := by
  obtain ⟨D, h1, h2, h3⟩ := h
  obtain ⟨c, hrun, hc, _⟩ := h1.lookup_int keyed Tryz.underlying125 Tryz.underlying3 (zero_of w) (key_of ha)
  rw [h3 a ha] at hc
  have : (f a).getD 0 = c := by simpa using hc
  rw [this]
  exact hrun
theorem IMap.set {w : World} {b n : Nat} {f : Int → Option Int} (h : IMap w b n f) (hn : n < 1000000) {a x : Int} (ha : In64 a) (hx : In64 x) :
    ∃ w', (Instr.mapUpdate 125 (.map (some b)) (.int .i64 a) (.int .i64 x)).run Tryz.prog w = .ok () w' ∧ IMap w' b (n + 1) (fun k => if k = a then some x else f k) ∧ w.grownBy w' (some b) := by
  obtain ⟨D, h1, h2, h3⟩ := h
  obtain ⟨w', hrun, hown, hg⟩ := h1.update keyed Tryz.underlying125 (show n < maxLen by unfold maxLen; omega) (key_of ha) (elem_of hx)
  have hk : WideAt.IsKeyLit (.int .i64 a) := trivial
  refine ⟨w', hrun, ⟨_, hown, fun k hk' => ?_, fun k hk' => ?_⟩, hg⟩
  · by_cases e : k = a
    · subst e; rw [Maps.has_put_same h1.isMap hk]; simp
    · rw [Maps.has_put_other (by simpa using e)]; simp [e, h2 k hk']
  · by_cases e : k = a
    · subst e; rw [Maps.atKey_put_same h1.isMap hk]; simp
    · rw [Maps.atKey_put_other (by simpa using e)]; simp [e, h3 k hk']

end IMap_
end Go.Proofs.YthojgahcpkdemaaGreat

namespace Go.Bas
open Go.ChangeShapes Go.WideShapes Go.Deep Go.RowKit

/-- a slice of structs of one-cell fields that came in, also as a field of something: at each place and field a cell, and its reading -/
theorem open_rows {H : Type} {enc : TypeId × Value → H} {P : Program} {w : World} {base : Nat} {spare : Nat → Bool} {held : Bool} {t e : TypeId} {fs : Array Field} {v : Value} {x : DataW H × List MemPlace} {fuel : Nat}
    (ht : P.underlying t = some (.slice e)) (he : P.underlying e = some (.struct fs)) (hone : oneCellFields P fs = true) (hC : P.cellsOf e = fs.size) (hpos : 0 < fs.size)
    (hf : DataW.trod enc P w base spare held fuel t [v] = some x) :
    ∃ (A : Option Addr) (n c : Nat), v = .slice A n c ∧ n ≤ c ∧ c ≤ maxLen ∧
      (0 < n → ∃ b off, A = some ⟨b, off, none⟩ ∧ b < w.heap.size ∧
        ∀ i, i < n → ∀ (j : Nat) (f : Field), fs[j]? = some f → ∃ u y m, w.cell? ⟨b, off + i * fs.size + j, none⟩ = some u ∧ DataW.trod enc P w base spare held m f.type [u] = some y) := by
  rcases open_slice ht hf with ⟨hcs, _⟩ | ⟨ad, len, cap, m, k, D, Pl, hcs, _, hl, hm, hmm, _, hi⟩
  · simp at hcs
    subst hcs
    exact ⟨none, 0, 0, rfl, Nat.le_refl _, Nat.zero_le _, fun h => absurd h (by omega)⟩
  · simp at hcs
    subst hcs
    refine ⟨_, _, _, rfl, hl, hm, fun hn => ?_⟩
    have hmn : len ≤ m := by rw [hmm]; split <;> omega
    have key : ∀ i, i < len → ∀ (j : Nat) (f : Field), fs[j]? = some f → ∃ u y q, w.cell? (ad.add (i * fs.size + j)) = some u ∧ DataW.trod enc P w base spare held q f.type [u] = some y := by
      intro i him j f hj
      obtain ⟨cs', hc, ht'⟩ := hi i (by omega)
      rw [hC] at hc
      obtain ⟨ys, n', hn', hy, hlen, hyl, hff⟩ := DataW.trod_struct he ht'
      obtain ⟨_, hcl, hat⟩ := World.cells?_some hc
      obtain ⟨ho, hk⟩ := hone_of hone j f hj
      have hjl : j < fs.size := (Array.getElem?_eq_some_iff.1 hj).1
      have hcell := hat j hjl
      have h1 := hff j f hj
      rw [ho, hk] at h1
      have hjl' : j < cs'.length := by omega
      have h2 : (cs'.drop j).take 1 = [cs'[j]] := by
        rw [List.drop_eq_getElem_cons hjl']; rfl
      rw [h2] at h1
      have hys : ys[j]? = some (ys[j]'(by omega)) := List.getElem?_eq_getElem (by omega)
      refine ⟨_, _, n', ?_, h1.trans hys⟩
      rw [← Go.Deep.add_add, hcell]
      exact List.getElem?_eq_getElem hjl'
    obtain ⟨b, off, spot⟩ := ad
    obtain ⟨u0, _, _, h0, _⟩ := key 0 hn 0 _ (Array.getElem?_eq_getElem hpos)
    have hs : spot = none := by
      have h00 : w.cell? ⟨b, off, spot⟩ = some u0 := by simpa [Addr.add] using h0
      cases spot with
      | none => rfl
      | some x =>
        simp [World.cell?] at h00
        split at h00 <;> simp at h00
    subst hs
    refine ⟨b, off, rfl, ?_, ?_⟩
    · have := World.block_lt_of_cell? w _ h0
      simpa [Addr.add] using this
    · intro i hin j f hj
      obtain ⟨u, y, q, hc, hy⟩ := key i hin j f hj
      refine ⟨u, y, q, ?_, hy⟩
      rw [← hc]
      unfold Addr.add
      split
      · rename_i h0; rw [Nat.add_assoc, h0]; rfl
      · simp [Nat.add_assoc]

end Go.Bas

namespace Go.Proofs.YthojgahcpkdemaaGreat
open Go.RowKit Go.Bas Go.WideShapes
namespace VIn
open IMap_

/-- pairs in memory, below block B -/
def Pairs (w : World) (B : Nat) (s : Value) (l : List (Int × Int)) : Prop :=
  ∃ (A : Option Addr) (c : Nat), s = .slice A l.length c ∧ l.length ≤ maxLen ∧
    (0 < l.length → ∃ b off, A = some ⟨b, off, none⟩ ∧ b < B ∧
      ∀ i (h : i < l.length), w.cell? ⟨b, off + i * 2, none⟩ = some (.int .i64 l[i].1) ∧ w.cell? ⟨b, off + i * 2 + 1, none⟩ = some (.int .i64 l[i].2))

theorem Pairs.below {w w' : World} {B : Nat} {s : Value} {l : List (Int × Int)} (h : Pairs w B s l) (hb : Below B w w') : Pairs w' B s l := by
  obtain ⟨A, c, rfl, hm, hc⟩ := h
  refine ⟨A, c, rfl, hm, fun hn => ?_⟩
  obtain ⟨b, off, rfl, hlt, hc⟩ := hc hn
  refine ⟨b, off, rfl, hlt, fun i hi => ?_⟩
  obtain ⟨h0, h1⟩ := hc i hi
  exact ⟨by rw [hb.cell (by exact hlt)]; exact h0, by rw [hb.cell (by exact hlt)]; exact h1⟩

theorem Pairs.mono {w : World} {B C : Nat} {s : Value} {l : List (Int × Int)} (h : Pairs w B s l) (hb : B ≤ C) : Pairs w C s l := by
  obtain ⟨A, c, rfl, hm, hc⟩ := h
  refine ⟨A, c, rfl, hm, fun hn => ?_⟩
  obtain ⟨b, off, rfl, hlt, hc⟩ := hc hn
  exact ⟨b, off, rfl, by omega, hc⟩
/-- all numbers are Go's ints -/
def PIn (l : List (Int × Int)) : Prop := ∀ p ∈ l, In64 p.1 ∧ In64 p.2

theorem pairs_in {H : Type} {enc : TypeId × Value → H} {w : World} {base : Nat} {spare : Nat → Bool} {held : Bool} {v : Value} {x : DataW H × List MemPlace} {fuel : Nat}
    (h : DataW.trod enc Tryz.prog w base spare held fuel 53 [v] = some x) : ∃ l, Pairs w w.heap.size v l ∧ PIn l := by
  obtain ⟨A, n, c, rfl, hnc, hcm, hb⟩ := open_rows Tryz.underlying53 Tryz.underlying62 (by kernel_rfl) (by kernel_rfl) (by decide) h
  by_cases hn : n = 0
  · subst hn
    exact ⟨[], ⟨A, c, rfl, Nat.zero_le _, fun h => absurd h (by simp)⟩, fun p hp => by simp at hp⟩
  · obtain ⟨b, off, rfl, hlt, hc⟩ := hb (by omega)
    have key : ∀ i, ∃ x : Int × Int, (In64 x.1 ∧ In64 x.2) ∧ (i < n → w.cell? ⟨b, off + i * 2, none⟩ = some (.int .i64 x.1) ∧ w.cell? ⟨b, off + i * 2 + 1, none⟩ = some (.int .i64 x.2)) := by
      intro i
      by_cases hi : i < n
      · obtain ⟨u0, y0, m0, c0, t0⟩ := hc i hi 0 _ rfl
        obtain ⟨u1, y1, m1, c1, t1⟩ := hc i hi 1 _ rfl
        obtain ⟨x0, e0, _, f0⟩ := DataW.trod_int Tryz.underlying3 t0
        obtain ⟨x1, e1, _, f1⟩ := DataW.trod_int Tryz.underlying3 t1
        simp at e0 e1
        subst e0 e1
        exact ⟨(x0, x1), ⟨in64_of_wf f0, in64_of_wf f1⟩, fun _ => ⟨c0, c1⟩⟩
      · exact ⟨(0, 0), by unfold In64; simp, fun h => absurd h hi⟩
    refine ⟨(List.range n).map fun i => Classical.choose (key i), ⟨some ⟨b, off, none⟩, c, by simp, by simp; omega, fun _ => ⟨b, off, rfl, hlt, fun i hi => ?_⟩⟩, fun p hp => ?_⟩
    · have hi' : i < n := by simpa using hi
      simp only [List.getElem_map, List.getElem_range]
      exact (Classical.choose_spec (key i)).2 hi'
    · obtain ⟨i, _, rfl⟩ := List.mem_map.1 hp
      exact (Classical.choose_spec (key i)).1
set_option maxRecDepth 100000 in
theorem known_of {H : Type} {enc : TypeId × Value → H} {w : World} {base : Nat} {spare : Nat → Bool} {held : Bool} {v : Value} {d : DataW H} {p : List MemPlace} {r : Reach} {b0 : Nat}
    (hv : Value.okWide Tryz.prog w r b0 53 v) (h : DataW.Trod enc Tryz.prog w base spare held 53 v d p) : ∃ l, Pairs w w.heap.size v l ∧ PIn l := by
  obtain ⟨a0, n0, c0, rfl⟩ := okWide_slice Tryz.underlying53 hv
  obtain ⟨fuel, hf⟩ := h
  exact pairs_in (v := .slice a0 n0 c0) hf

end VIn
end Go.Proofs.YthojgahcpkdemaaGreat

/- small programs, in plain Lean -/
namespace Go.Proofs.YthojgahcpkdemaaGreat
open SorPlain IMap_ VIn
namespace VPlain

abbrev M := List (Int × Int)
/-- what is read; none: it is asked for, and not known -/
def rd (f : Int → Option Int) (m : M) (a : Int) : Option Int := if a < 0 then some 0 else if has a m then some (getD a 0 m) else f a
/-- who is asked -/
def asks (m : M) (a : Int) (qs : List Int) : List Int := if a < 0 then qs else if has a m then qs else qs ++ [a]
def wr (m : M) (a x : Int) : M := if a < 0 then m else put a x m

end VPlain
end Go.Proofs.YthojgahcpkdemaaGreat

/- sorted maps in memory: the shape; no program in sight -/
namespace Go.Sor
open Go.RowKit Go.Bas SorPlain

/-- the cells of a map's items -/
def flat (xs : List (Int × Value)) : List Value := xs.flatMap fun p => [.int .i64 p.1, p.2]
theorem flat_nil : flat [] = [] := rfl
theorem flat_cons (p : Int × Value) (xs) : flat (p :: xs) = .int .i64 p.1 :: p.2 :: flat xs := rfl
theorem flat_append (xs ys) : flat (xs ++ ys) = flat xs ++ flat ys := by simp [flat]
theorem flat_length (xs) : (flat xs).length = xs.length * 2 := by
  induction xs with
  | nil => rfl
  | cons p xs ih => rw [flat_cons]; simp [ih]; omega
theorem flat_take (xs : List (Int × Value)) (i : Nat) : (flat xs).take (i * 2) = flat (xs.take i) := by
  induction i generalizing xs with
  | zero => simp [flat]
  | succ i ih =>
    cases xs with
    | nil => simp [flat]
    | cons p xs =>
      rw [show (i + 1) * 2 = i * 2 + 1 + 1 by omega]
      simp [flat_cons, ih]
theorem flat_drop (xs : List (Int × Value)) (i : Nat) : (flat xs).drop (i * 2) = flat (xs.drop i) := by
  induction i generalizing xs with
  | zero => simp [flat]
  | succ i ih =>
    cases xs with
    | nil => simp [flat]
    | cons p xs =>
      rw [show (i + 1) * 2 = i * 2 + 1 + 1 by omega]
      simp [flat_cons, ih]
theorem flat_key (xs : List (Int × Value)) (i : Nat) (h : i < xs.length) : (flat xs)[i * 2]? = some (.int .i64 ((xs.map (·.1)).getD i 0)) := by
  induction i generalizing xs with
  | zero => cases xs with
    | nil => simp at h
    | cons p xs => simp [flat_cons]
  | succ i ih =>
    cases xs with
    | nil => simp at h
    | cons p xs =>
      rw [show (i + 1) * 2 = i * 2 + 1 + 1 by omega]
      simpa [flat_cons] using ih xs (by simpa using h)
theorem flat_val (xs : List (Int × Value)) (i : Nat) (h : i < xs.length) : (flat xs)[i * 2 + 1]? = some ((xs.map (·.2)).getD i undef) := by
  induction i generalizing xs with
  | zero => cases xs with
    | nil => simp at h
    | cons p xs => simp [flat_cons]
  | succ i ih =>
    cases xs with
    | nil => simp at h
    | cons p xs =>
      rw [show (i + 1) * 2 + 1 = i * 2 + 1 + 1 + 1 by omega]
      simpa [flat_cons] using ih xs (by simpa using h)

/-- a map in memory: its struct in block b, which holds the slice v, which owns the items -/
structure IsMap (TM E : TypeId) (w : World) (b : Nat) (v : Value) (xs : List (Int × Value)) : Prop where
  cell : w.heap[b]? = some (.cells #[v] TM (0, 0))
  own : w.ownsRow 0 E 2 v xs.length (flat xs)
  ne : v.ownBlock ≠ some b
  asc : Rising xs
  one : ∀ p ∈ xs, p.2.oneCell' = true

/-- the blocks of a map -/
def fp (b : Nat) (v : Value) : Nat → Prop := fun k => k = b ∨ some k = v.ownBlock

section
variable {TM E : TypeId} {w w' : World} {b : Nat} {v : Value} {xs : List (Int × Value)}
theorem IsMap.lt (h : IsMap TM E w b v xs) : ∀ k, fp b v k → k < w.heap.size := by
  intro k hk
  rcases hk with rfl | hk
  · exact (Array.getElem?_eq_some_iff.1 h.cell).1
  · exact (h.own.lt k hk.symm).2
/-- what leaves its blocks alone keeps a map -/
theorem IsMap.kept (h : IsMap TM E w b v xs) (hk : ∀ k, fp b v k → w'.heap[k]? = w.heap[k]?) : IsMap TM E w' b v xs := by
  refine ⟨(hk b (.inl rfl)).trans h.cell, ⟨h.own.1, ?_⟩, h.ne, h.asc, h.one⟩
  rcases h.own.2 with hn | ⟨g, cap, cur, rfl, hb, hg, r⟩
  · exact .inl hn
  · exact .inr ⟨g, cap, cur, rfl, hb, (hk g (.inr rfl)).trans hg, r⟩
theorem IsMap.chg {S : Nat → Prop} (h : IsMap TM E w b v xs) (hc : Chg S w w') (hs : ∀ k, fp b v k → ¬ S k) : IsMap TM E w' b v xs :=
  h.kept fun k hk => hc.block k (h.lt k hk) (hs k hk)
theorem IsMap.drewN (h : IsMap TM E w b v xs) (n : Nat) : IsMap TM E (w.drewN n) b v xs := h.kept fun _ _ => rfl
theorem IsMap.head (h : IsMap TM E w b v xs) : w.cell? ⟨b, 0, none⟩ = some v := by simp [World.cell?, h.cell]
theorem IsMap.free (h : IsMap TM E w b v xs) (o : Nat) : w.frozen? ⟨b, o, none⟩ = false := by simp [World.frozen?, h.cell]
/-- the two shapes of a map's slice -/
theorem IsMap.shape (h : IsMap TM E w b v xs) : (v = .slice none 0 0 ∧ xs = []) ∨
    ∃ g cap cur, v = .slice (some ⟨g, 0, none⟩) xs.length cap ∧ g ≠ b ∧ w.heap[g]? = some (.cells cur E (0, 0)) ∧ xs.length ≤ cap ∧ cap ≤ maxLen ∧ cur.size = cap * 2 ∧ cur.toList.take (xs.length * 2) = flat xs := by
  rcases h.own.2 with ⟨hv, hn⟩ | ⟨g, cap, cur, rfl, _, r⟩
  · exact .inl ⟨hv, List.eq_nil_of_length_eq_zero hn⟩
  · exact .inr ⟨g, cap, cur, rfl, fun e => h.ne (by simp [Value.ownBlock, e]), r⟩
theorem row_cell {cur : Array Value} {E : TypeId} {fz : Nat × Nat} {g : Nat} (hg : w.heap[g]? = some (.cells cur E fz)) {n : Nat} {L : List Value} (ht : cur.toList.take n = L) {j : Nat} {u : Value} (hu : L[j]? = some u) : w.cell? ⟨g, j, none⟩ = some u := by
  rw [cell_of_row w g j cur E fz hg]
  rw [← ht, List.getElem?_take] at hu
  split at hu
  · simpa using hu
  · cases hu
theorem row_free {cur : Array Value} {E : TypeId} {g : Nat} (hg : w.heap[g]? = some (.cells cur E (0, 0))) (o : Nat) : w.frozen? ⟨g, o, none⟩ = false := by simp [World.frozen?, hg]

theorem put_of_has {α : Type} {k : Int} {u : α} {xs : List (Int × α)} (hh : has k xs = true) : put k u xs = xs.set (place k xs) (k, u) := by
  have hi := has_lt hh
  unfold put; rw [if_pos hh]
  apply List.ext_getElem?
  intro j
  rw [List.getElem?_set]
  by_cases h1 : j < place k xs
  · rw [List.getElem?_append_left (by simp; omega), if_neg (by omega)]; simp [h1]
  · by_cases h2 : j = place k xs
    · subst h2; rw [List.getElem?_append_right (by simp; omega)]; simp [Nat.min_eq_left (Nat.le_of_lt hi), hi]
    · obtain ⟨d, rfl⟩ : ∃ d, j = place k xs + 1 + d := ⟨j - place k xs - 1, by omega⟩
      rw [List.getElem?_append_right (by simp; omega), if_neg (by omega)]
      simp [Nat.min_eq_left (Nat.le_of_lt hi), show place k xs + 1 + d - place k xs = d + 1 by omega]
theorem key_of_has {α : Type} {k : Int} {xs : List (Int × α)} (hh : has k xs = true) : (xs.map (·.1)).getD (place k xs) 0 = k := (of_decide_eq_true hh).2
theorem flat_set_val (xs : List (Int × Value)) (i : Nat) (hi : i < xs.length) (u : Value) : flat (xs.set i ((xs.map (·.1)).getD i 0, u)) = (flat xs).set (i * 2 + 1) u := by
  induction xs generalizing i with
  | nil => simp at hi
  | cons p xs ih =>
    cases i with
    | zero => simp [flat_cons]
    | succ i =>
      have := ih i (by simpa using hi)
      rw [show (i + 1) * 2 + 1 = i * 2 + 1 + 1 + 1 by omega]
      simp only [List.set_cons_succ, flat_cons, List.map_cons, List.getD_cons_succ]
      rw [this]
theorem IsMap.set {g n cap : Nat} {k : Int} {u : Value} (h : IsMap TM E w b (.slice (some ⟨g, 0, none⟩) n cap) xs) (hh : has k xs = true) (h1 : u.oneCell' = true) :
    IsMap TM E (w.setCell ⟨g, place k xs * 2 + 1, none⟩ u) b (.slice (some ⟨g, 0, none⟩) n cap) (put k u xs) := by
  have hi := has_lt hh
  obtain ⟨hs, rfl⟩ | ⟨g', cap', cur, hv, hgb, hg, hc, hcm, hcs, ht⟩ := h.shape
  · simp at hi
  simp only [Value.slice.injEq, Option.some.injEq, Addr.mk.injEq, and_true] at hv
  obtain ⟨rfl, rfl, rfl⟩ := hv
  have hp : put k u xs = xs.set (place k xs) ((xs.map (·.1)).getD (place k xs) 0, u) := by rw [put_of_has hh, key_of_has hh]
  refine ⟨?_, ⟨by rw [flat_length], .inr ⟨g, cap, cur.setIfInBounds (place k xs * 2 + 1) u, ?_, Nat.zero_le _, ?_, ?_, hcm, by simpa using hcs, ?_⟩⟩, h.ne, h.asc.put k u, ?_⟩
  · rw [heap_setCell_other _ _ _ _ (by simpa using fun e => hgb e.symm)]; exact h.cell
  · rw [put_length, if_pos hh]; rfl
  · rw [heap_setCell_same w g _ cur E u hg]
  · rw [put_length, if_pos hh]; exact hc
  · rw [put_length, if_pos hh, hp, flat_set_val xs _ hi, ← ht, Nat.add_zero]
    simp [List.take_set]
  · intro p hp'
    rw [put_of_has hh] at hp'
    rcases List.mem_or_eq_of_mem_set hp' with hp' | rfl
    · exact h.one p hp'
    · exact h1

/-- an owned row with an element has a block -/
theorem own_block {n : Nat} {L : List Value} (h : w.ownsRow 0 E 2 v (n + 1) L) : ∃ g cap cur, v = .slice (some ⟨g, 0, none⟩) (n + 1) cap ∧ w.heap[g]? = some (.cells cur E (0, 0)) ∧ n + 1 ≤ cap ∧ cap ≤ maxLen ∧ cur.size = cap * 2 ∧ cur.toList.take ((n + 1) * 2) = L := by
  rcases h.2 with ⟨_, hn⟩ | ⟨g, cap, cur, hv, _, r⟩
  · omega
  · exact ⟨g, cap, cur, hv, r⟩

theorem set_two {α : Type} (A : List α) (a b k u : α) (R : List α) : ((A ++ a :: b :: R).set A.length k).set (A.length + 1) u = A ++ k :: u :: R := by
  rw [List.set_append_right _ _ (Nat.le_refl _)]
  rw [List.set_append_right _ _ (by omega)]
  simp
/-- the cells behind the insertion of a key -/
theorem put_cells (L : List Value) (xs : List (Int × Value)) (i : Nat) (hi : i ≤ xs.length) (z1 z2 : Value) (hL : L.take ((xs.length + 1) * 2) = flat xs ++ [z1, z2]) (k u : Value) :
    (((splice L ((i + 1) * 2) (flat (xs.drop i))).set (i * 2) k).set (i * 2 + 1) u).take ((xs.length + 1) * 2) = flat (xs.take i) ++ (k :: u :: flat (xs.drop i)) := by
  have hA : (flat (xs.take i)).length = i * 2 := by rw [flat_length]; simp; omega
  have hF : (flat (xs.drop i)).length = (xs.length - i) * 2 := by rw [flat_length]; simp
  have hlen : (xs.length + 1) * 2 ≤ L.length := by
    have := congrArg List.length hL
    simp [flat_length] at this
    omega
  obtain ⟨a, b, hab⟩ : ∃ a b, L.take ((i + 1) * 2) = flat (xs.take i) ++ [a, b] := by
    have h1 : L.take ((i + 1) * 2) = (flat xs ++ [z1, z2]).take ((i + 1) * 2) := by
      rw [← hL, List.take_take]; congr 1; omega
    rw [h1]
    have h2 : flat xs ++ [z1, z2] = flat (xs.take i) ++ (flat (xs.drop i) ++ [z1, z2]) := by rw [← List.append_assoc, ← flat_append, List.take_append_drop]
    rw [h2, List.take_append, hA, List.take_of_length_le (by omega)]
    rw [show (i + 1) * 2 - i * 2 = 2 by omega]
    cases hd : xs.drop i with
    | nil => exact ⟨z1, z2, by simp [flat]⟩
    | cons p r => exact ⟨_, _, by rw [flat_cons]; rfl⟩
  unfold splice
  rw [hab]
  have e : flat (xs.take i) ++ [a, b] ++ (flat (xs.drop i) ++ L.drop ((i + 1) * 2 + (flat (xs.drop i)).length)) = flat (xs.take i) ++ a :: b :: (flat (xs.drop i) ++ L.drop ((i + 1) * 2 + (flat (xs.drop i)).length)) := by simp
  rw [e, ← hA, set_two]
  have e2 : flat (xs.take i) ++ k :: u :: (flat (xs.drop i) ++ L.drop ((i + 1) * 2 + (flat (xs.drop i)).length)) = (flat (xs.take i) ++ (k :: u :: flat (xs.drop i))) ++ L.drop ((i + 1) * 2 + (flat (xs.drop i)).length) := by simp
  rw [e2, List.take_append_of_le_length (by simp [hA, hF]; omega)]
  exact List.take_of_length_le (by simp [hA, hF]; omega)

theorem flat_eraseIdx (xs : List (Int × Value)) (i : Nat) : flat (xs.eraseIdx i) = flat (xs.take i) ++ flat (xs.drop (i + 1)) := by
  rw [List.eraseIdx_eq_take_drop_succ, flat_append]
/-- the cells behind a key's removal -/
theorem cut_cells (L : List Value) (xs : List (Int × Value)) (i : Nat) (hi : i < xs.length) (hL : L.take (xs.length * 2) = flat xs) :
    (L.take (i * 2) ++ flat (xs.drop (i + 1)) ++ L.drop (i * 2 + (flat (xs.drop (i + 1))).length)).take ((xs.length - 1) * 2) = flat (xs.eraseIdx i) := by
  have h1 : L.take (i * 2) = flat (xs.take i) := by
    rw [← flat_take, ← hL, List.take_take]; congr 1; omega
  have hA : (flat (xs.take i)).length = i * 2 := by rw [flat_length]; simp; omega
  have hF : (flat (xs.drop (i + 1))).length = (xs.length - (i + 1)) * 2 := by rw [flat_length]; simp
  rw [h1, flat_eraseIdx, List.take_append_of_le_length (by simp [hA, hF]; omega)]
  exact List.take_of_length_le (by simp [hA, hF]; omega)

/-- a map that is the call's own: from block B on -/
structure MyMap (TM E : TypeId) (B : Nat) (w : World) (b : Nat) (v : Value) (xs : List (Int × Value)) : Prop where
  is : IsMap TM E w b v xs
  low : B ≤ b
  own : ∀ k, v.ownBlock = some k → B ≤ k
theorem MyMap.fp {B : Nat} (h : MyMap TM E B w b v xs) : ∀ k, fp b v k → B ≤ k := by
  rintro k (rfl | hk)
  · exact h.low
  · exact h.own k hk.symm
theorem MyMap.next {B : Nat} {v' : Value} {xs' : List (Int × Value)} (h : MyMap TM E B w b v xs) (hB : B ≤ w.heap.size) (h' : IsMap TM E w' b v' xs') (hb : v'.ownBlock = v.ownBlock ∨ ∃ g, v'.ownBlock = some g ∧ w.heap.size ≤ g) : MyMap TM E B w' b v' xs' := by
  refine ⟨h', h.low, fun k hk => ?_⟩
  rcases hb with e | ⟨g, e, hg⟩
  · exact h.own k (e ▸ hk)
  · rw [e] at hk; injection hk with hk; omega
theorem MyMap.drewN {B : Nat} (h : MyMap TM E B w b v xs) (n : Nat) : MyMap TM E B (w.drewN n) b v xs := ⟨h.is.drewN n, h.low, h.own⟩
theorem isMap_new (TM E : TypeId) (w : World) : IsMap TM E (w.alloc (.cells #[.slice none 0 0] TM)) w.heap.size (.slice none 0 0) [] :=
  ⟨heap_alloc_new w _, World.ownsRow_nil _ _ _ _, by simp [Value.ownBlock], List.Pairwise.nil, by simp⟩
theorem myMap_new (TM E : TypeId) (w : World) {B : Nat} (hB : B ≤ w.heap.size) : MyMap TM E B (w.alloc (.cells #[.slice none 0 0] TM)) w.heap.size (.slice none 0 0) [] :=
  ⟨isMap_new TM E w, hB, by simp [Value.ownBlock]⟩
/-- what leaves alone the blocks of a map that is the call's own -/
theorem MyMap.chg {B : Nat} {S : Nat → Prop} (h : MyMap TM E B w b v xs) (hc : Chg S w w') (hs : ∀ k, Sor.fp b v k → ¬ S k) : MyMap TM E B w' b v xs := ⟨h.is.chg hc hs, h.low, h.own⟩
end

end Go.Sor

namespace Go.Proofs.YthojgahcpkdemaaGreat
open Go.RowKit Go.Bas SorPlain Go.Sor
namespace MapI
abbrev TM := 124
abbrev TE := 121

theorem place_nil (b : Nat) (k : Int) (w : World) (hb : w.cell? ⟨b, 0, none⟩ = some (.slice none 0 0)) :
    Calls Tryz.prog 92 #[.pointer (some ⟨b, 0, none⟩), .int .i64 k] w fun e w' => e = .returned (.tuple #[.int .i64 0, .bool false]) ∧ ∃ m, w' = w.drewN m := by
  have hd : decide ((0 : Nat) < 0) = false := by decide
  go_enter Tryz.func92, Tryz.ntmps92
  go_wp2
  go_quiet (fail)
  go_wp2
  refine wp_loop_rounds 1 ?_
  rw [rounds_succ]
  go_wp2
  go_quiet (fail)
  go_wp2
  go_ret2
  exact ⟨rfl, _, World.drewN_drewN _ _ _⟩

set_option maxHeartbeats 400000 in
theorem place_some (b g c : Nat) (ks : List Int) (k : Int) (w : World) (hn : ks.length ≤ 4611686018427387904)
    (hb : w.cell? ⟨b, 0, none⟩ = some (.slice (some ⟨g, 0, none⟩) ks.length c))
    (hc : ∀ i, i < ks.length → w.cell? ⟨g, i * 2, none⟩ = some (.int .i64 (ks.getD i 0)))
    (hs : ks.Pairwise (· < ·)) :
    Calls Tryz.prog 92 #[.pointer (some ⟨b, 0, none⟩), .int .i64 k] w fun e w' => e = .returned (.tuple #[.int .i64 (lower k ks), .bool (decide (lower k ks < ks.length ∧ ks.getD (lower k ks) 0 = k))]) ∧ ∃ m, w' = w.drewN m := by
  have HS := Lib.hid hs
  clear hs
  go_enter Tryz.func92, Tryz.ntmps92
  go_wp2
  go_quiet (fail)
  go_wp2
  go_loop [6, 7, 8] (fun lo hi mid => ∃ l h : Nat, l ≤ h ∧ h ≤ ks.length ∧ lo = .int .i64 l ∧ hi = .int .i64 h ∧ Hid ((∀ i, i < l → ks.getD i 0 < k) ∧ (∀ i, h ≤ i → i < ks.length → k ≤ ks.getD i 0))) (fun lo hi mid => (intOf hi - intOf lo).toNat)
  case atStart => exact ⟨0, ks.length, by omega, by omega, rfl, rfl, by constructor <;> (intros; omega)⟩
  case round =>
    obtain ⟨l, h, hlh, hh, rfl, rfl, H⟩ := hrel
    by_cases hlt : l < h
    · obtain ⟨x, hx⟩ : ∃ x, ks.getD (l + (h - l) / 2) 0 = x := ⟨_, rfl⟩
      have hm := hc (l + (h - l) / 2) (by omega)
      rw [hx] at hm
      have HX := Lib.hid hx
      clear hx hc
      by_cases hxk : x < k
      · go_wp2
        go_round
        case rel => exact ⟨l + (h - l) / 2 + 1, h, by omega, by omega, by go_num, rfl, mid_lo HS.out (by omega) (by omega) HX.out hxk H.out⟩
        case measure => simp [intOf]; omega
      · go_wp2
        go_round
        case rel => exact ⟨l, l + (h - l) / 2, by omega, by omega, rfl, by congr 1; omega, mid_hi HS.out (by omega) (by omega) HX.out hxk H.out⟩
        case measure => simp [intOf]; omega
    · obtain rfl : l = h := by omega
      obtain rfl := lower_unique HS.out hh H.out.1 (fun hl => H.out.2 _ (Nat.le_refl _) hl)
      have hr := fun hi => hc (lower k ks) hi
      clear hc
      by_cases hi : lower k ks < ks.length
      · have hr := hr hi
        go_wp2
        go_quiet (fail)
        go_wp2
        go_ret2
        refine ⟨?_, _, World.drewN_drewN _ _ _⟩
        simp [hi]
        exact Bool.eq_iff_iff.2 (by simp)
      · clear hr
        have hd : decide (lower k ks < ks.length) = false := by simpa using hi
        go_wp2
        go_quiet (fail)
        go_wp2
        go_ret2
        refine ⟨?_, _, World.drewN_drewN _ _ _⟩
        simp [hi]

/-- place, of any map -/
theorem place_any {w : World} {b : Nat} {v : Value} {xs : List (Int × Value)} (h : IsMap 124 121 w b v xs) (hn : xs.length ≤ 4611686018427387904) (k : Int) :
    Calls Tryz.prog 92 #[.pointer (some ⟨b, 0, none⟩), .int .i64 k] w fun e w' => e = .returned (.tuple #[.int .i64 (place k xs), .bool (has k xs)]) ∧ ∃ m, w' = w.drewN m := by
  rcases h.shape with ⟨rfl, rfl⟩ | ⟨g, cap, cur, rfl, hgb, hg, hc, hcm, hcs, ht⟩
  · exact place_nil b k w h.head
  · have := place_some b g cap (keys xs) k w (by simpa using hn) (by simpa using h.head) (fun i hi => row_cell hg ht (flat_key xs i (by simpa using hi))) h.asc
    exact this

/-- Len -/
theorem len_any {w : World} {b : Nat} {v : Value} {xs : List (Int × Value)} (h : IsMap 124 121 w b v xs) :
    Calls Tryz.prog 126 #[.pointer (some ⟨b, 0, none⟩)] w fun e w' => e = .returned (.int .i64 xs.length) ∧ w = w' := by
  have hv := h.head
  obtain ⟨ad, cap, rfl⟩ : ∃ ad cap, v = .slice ad xs.length cap := by
    rcases h.shape with ⟨rfl, rfl⟩ | ⟨g, cap, cur, rfl, _⟩
    · exact ⟨_, _, rfl⟩
    · exact ⟨_, _, rfl⟩
  clear h
  go_enter Tryz.func126, Tryz.ntmps126
  go_wp2
  go_ret
  exact ⟨rfl, rfl⟩

/-- Get -/
theorem get_any {w : World} {b : Nat} {v : Value} {xs : List (Int × Value)} (h : IsMap 124 121 w b v xs) (hn : xs.length ≤ 4611686018427387904) (k : Int) :
    Calls Tryz.prog 77 #[.pointer (some ⟨b, 0, none⟩), .int .i64 k] w fun e w' => e = .returned (.tuple #[getD k (.int .i64 0) xs, .bool (has k xs)]) ∧ ∃ m, w' = w.drewN m := by
  have hp := place_any h hn k
  by_cases hh : has k xs = true
  · have hi := has_lt hh
    obtain ⟨hs, rfl⟩ | ⟨g, cap, cur, rfl, hgb, hg, hc, hcm, hcs, ht⟩ := h.shape
    · simp at hi
    have hb := h.head
    have hv := row_cell hg ht (flat_val xs _ hi)
    have hr : getD k (.int .i64 0) xs = (xs.map (·.2)).getD (place k xs) undef := by
      unfold getD; rw [if_pos hh]; simp [hi]
    obtain ⟨u, hu⟩ : ∃ u, (xs.map (·.2)).getD (place k xs) undef = u := ⟨_, rfl⟩
    rw [hr, hu]; rw [hu] at hv; rw [hh] at hp ⊢
    obtain ⟨i, hii⟩ : ∃ i, place k xs = i := ⟨_, rfl⟩
    obtain ⟨n, hnn⟩ : ∃ n, xs.length = n := ⟨_, rfl⟩
    rw [hii] at hp hi hv
    rw [hnn] at hi hb hn
    clear hr hu hh hii hnn h hg hc hcs ht
    go_enter Tryz.func77, Tryz.ntmps77
    go_wp2_with (go_at_call 92; refine hp.mono ?_; rintro e w' ⟨rfl, m, rfl⟩)
    go_ret2
    exact ⟨rfl, _, rfl⟩
  · have hf : has k xs = false := by simpa using hh
    have hr : getD k (.int .i64 0) xs = .int .i64 0 := by unfold getD; rw [if_neg hh]
    rw [hr]; rw [hf] at hp ⊢
    obtain ⟨i, hii⟩ : ∃ i, place k xs = i := ⟨_, rfl⟩
    rw [hii] at hp
    clear hr hh hf hii h hn
    go_enter Tryz.func77, Tryz.ntmps77
    go_wp2_with (go_at_call 92; refine hp.mono ?_; rintro e w' ⟨rfl, m, rfl⟩)
    go_ret2
    exact ⟨rfl, _, rfl⟩

theorem info : (Tryz.prog.info? 121).map (fun i => (i.zero, i.size, i.bytes)) = some (some (.agg #[.int .i64 0, .int .i64 0]), 2, 16) := by kernel_rfl

set_option maxRecDepth 100000 in
/-- Put of a key that is there -/
theorem put_old {w : World} {b : Nat} {v : Value} {xs : List (Int × Value)} (h : IsMap 124 121 w b v xs) (hn : xs.length ≤ 4611686018427387904) (k : Int) (s : Int) (hh : has k xs = true) :
    Calls Tryz.prog 74 #[.pointer (some ⟨b, 0, none⟩), .int .i64 k, .int .i64 s] w fun e w' => e = .returned (.bool false) ∧ IsMap 124 121 w' b v (put k (.int .i64 s) xs) ∧ Chg (fp b v) w w' := by
  have hp := place_any h hn k
  have hi := has_lt hh
  have H := Lib.hid h
  obtain ⟨hs, rfl⟩ | ⟨g, cap, cur, rfl, hgb, hg, hc, hcm, hcs, ht⟩ := h.shape
  · simp at hi
  have hb := h.head
  have hv := row_cell hg ht (flat_val xs _ hi)
  have hf := row_free hg (place k xs * 2 + 1)
  rw [hh] at hp
  have HH := Lib.hid hh
  obtain ⟨i, hii⟩ : ∃ i, place k xs = i := ⟨_, rfl⟩
  obtain ⟨n, hnn⟩ : ∃ n, xs.length = n := ⟨_, rfl⟩
  have HI := Lib.hid hii; have HN := Lib.hid hnn
  rw [hii] at hp hi hv hf
  rw [hnn] at hi hb hn
  clear hh hii hnn h hg hc hcs ht
  go_enter Tryz.func74, Tryz.ntmps74
  go_wp2_with (go_at_call 92; refine hp.mono ?_; rintro e w' ⟨rfl, m, rfl⟩)
  go_ret
  refine ⟨rfl, ?_, ?_⟩
  · rw [← HI.out]
    exact IsMap.drewN (IsMap.set H.out HH.out rfl) m
  · exact (Chg.setCell _ _ _ (.inr rfl)).trans (Chg.drewN _ _ m)

set_option maxRecDepth 100000 in
/-- Put of a new key -/
theorem put_new {w : World} {b : Nat} {v : Value} {xs : List (Int × Value)} (h : IsMap 124 121 w b v xs) (hn : (xs.length + 1) * 16 ≤ 140737488355328) (k : Int) (s : Int) (hh : has k xs = false) :
    Calls Tryz.prog 74 #[.pointer (some ⟨b, 0, none⟩), .int .i64 k, .int .i64 s] w fun e w' => e = .returned (.bool true) ∧ ∃ v', IsMap 124 121 w' b v' (put k (.int .i64 s) xs) ∧ Chg (fp b v) w w' ∧ (v'.ownBlock = v.ownBlock ∨ ∃ g, v'.ownBlock = some g ∧ w.heap.size ≤ g) := by
  have hp := place_any h (by omega) k
  obtain ⟨i0, hi, hz0, hz1, hz2⟩ := info_parts info
  have H := Lib.hid h
  have hown := h.own
  have hb := h.head
  rw [hh] at hp
  have HH := Lib.hid hh
  have hle := place_le k xs
  obtain ⟨i, hii⟩ : ∃ i, place k xs = i := ⟨_, rfl⟩
  have HI := Lib.hid hii
  rw [hii] at hp hle
  have HB : Hid (b < w.heap.size) := h.lt b (.inl rfl)
  clear hh hii h
  go_enter Tryz.func74, Tryz.ntmps74
  go_wp2_with (first | (go_at_call 92; refine hp.mono ?_; rintro e w' ⟨rfl, m, rfl⟩) | (at_builtin; refine wpList_append_any rfl _ _ 122 rfl 0 121 i0 (.agg #[.int .i64 0, .int .i64 0]) 2 16 Tryz.underlying122 hi hz0 hz1 hz2 rfl (by decide) v xs.length (flat xs) rfl (World.ownsRow.alloc (w := w.drewN m) hown _) (some ⟨w.heap.size, 0, none⟩) 1 1 [.int .i64 0, .int .i64 0] rfl rfl ?c1 ?c2 ?c3 ?c4 ?c5 ?c6))
  case c1 => exact fun _ => ⟨_, rfl, new_cells _ _ _⟩
  case c2 => simp [Value.oneCell']
  case c3 => unfold maxLen; omega
  case c4 => exact hn
  case c5 => exact Nat.zero_le _
  case c6 =>
  intro v1 w1 hown1 hg1 hb1
  have hk1 : w1.heap[b]? = some (.cells #[v] 124 (0, 0)) := by
    rw [hg1.block b (by have := HB.out; simp; omega) (fun e => H.out.ne e.symm)]
    rw [Below.heap_alloc _ _ _ (show b < (w.drewN m).heap.size from HB.out)]
    exact H.out.cell
  have hb2 : w1.cell? ⟨b, 0, none⟩ = some v := by simp [World.cell?, hk1]
  have hf2 : w1.frozen? ⟨b, 0, none⟩ = false := by simp [World.frozen?, hk1]
  obtain ⟨g, cap, cur, hv1, hgk, hc1, hc2, hc3, hc4⟩ := own_block hown1
  have hgb : g ≠ b := by
    rintro rfl
    rw [hk1] at hgk
    simp at hgk
  rw [hv1]
  have HG1 := Lib.hid hg1; have HB1 := Lib.hid hb1; have HK1 := Lib.hid hk1; have HV1 := Lib.hid hv1; have HGK := Lib.hid hgk
  have H2 := Lib.hid hc2; have H3 := Lib.hid hc3; have H4 := Lib.hid hc4; have HO := Lib.hid hown1
  clear hg1 hb1 hk1 hv1 hgk hc2 hc3 hc4 hown1
  go_wp2
  obtain ⟨w2, hw2⟩ : ∃ w2, w2 = w1.setCell ⟨b, 0, none⟩ (.slice (some ⟨g, 0, none⟩) (xs.length + 1) cap) := ⟨_, rfl⟩
  rw [← hw2]
  have hb3 : w2.cell? ⟨b, 0, none⟩ = some (.slice (some ⟨g, 0, none⟩) (xs.length + 1) cap) := by rw [hw2]; simp [World.cell?, heap_setCell_same _ _ _ _ _ _ HK1.out]
  have HK2 : Hid (w2.heap[b]? = some (.cells #[.slice (some ⟨g, 0, none⟩) (xs.length + 1) cap] 124 (0, 0))) := by
    unfold Hid; rw [hw2, heap_setCell_same _ _ _ _ _ _ HK1.out]; rfl
  have HG2 : Hid (w2.heap[g]? = some (.cells cur 121 (0, 0))) := by
    unfold Hid; rw [hw2, heap_setCell_other _ _ _ _ hgb]; exact HGK.out
  have HW2 := Lib.hid hw2
  clear hw2 hb2 hf2 hb hp hown
  obtain ⟨n, hnn⟩ : ∃ n, xs.length = n := ⟨_, rfl⟩
  have HN := Lib.hid hnn
  rw [hnn] at hle hn hc1 hb3 ⊢
  clear hnn
  have hcap : ¬ cap = i := by omega
  have hle2 : i ≤ n + 1 := by omega
  have hle3 : (i : Int) ≤ (n : Int) + 1 := by omega
  have hw1 : IntKind.i64.wrap ((i : Int) + 1) = (i : Int) + 1 := IntWalk.i64_in _ (by omega)
  have hw2 : (0 : Int) ≤ (i : Int) + 1 := by omega
  have hw3 : ((i : Int) + 1).toNat = i + 1 := by omega
  go_still_tail 13, (by kernel_rfl)
  change wpList _ _ _ _ _ w2.drew
  have hlenF : (flat (xs.drop i)).length = (n - i) * 2 := by rw [flat_length, List.length_drop, HN.out]
  have hmin : (n + 1 - i).min (n - i) = n - i := Nat.min_eq_right (by omega)
  refine wpList_copy_sized rfl (.tmp 42) (.tmp 48) 122 122 rfl 121 i0 Tryz.underlying122 hi _ _ _ _ _ _ rfl rfl g ((i + 1) * 2) cur.toList 121 (by simpa using (show w2.drew.heap[g]? = _ from HG2.out)) (flat (xs.drop i)) ?c1 ?c2 ?c3 ?c4 ?c5
  case c1 => rw [hlenF, hmin, hz1]
  case c2 =>
    rw [hmin]
    intro hpos
    rw [if_neg (by omega)]
    refine ⟨rfl, _, rfl, ?_⟩
    intro j u hu
    have hj : j < (n - i) * 2 := by
      rw [← hlenF]; exact (List.getElem?_eq_some_iff.1 hu).1
    have hadd : (⟨g, i * 2, none⟩ : Addr).add j = ⟨g, i * 2 + j, none⟩ := by unfold Addr.add; split <;> simp_all
    rw [hadd]
    refine row_cell (w := w2.drew) (cur := cur) (show w2.drew.heap[g]? = _ from HG2.out) H4.out ?_
    rw [List.getElem?_append_left (by rw [flat_length, HN.out]; omega), ← List.getElem?_drop, flat_drop]
    exact hu
  case c3 => have := H3.out; simp; omega
  case c4 =>
    intro u hu
    have hu2 : u ∈ flat xs := by rw [← flat_drop] at hu; exact List.mem_of_mem_drop hu
    simp only [flat, List.mem_flatMap] at hu2
    obtain ⟨p, hp, hu3⟩ := hu2
    simp at hu3
    rcases hu3 with rfl | rfl
    · rfl
    · exact H.out.one p hp
  case c5 =>
  obtain ⟨R, hR⟩ : ∃ R, R = splice cur.toList ((i + 1) * 2) (flat (xs.drop i)) := ⟨_, rfl⟩
  rw [← hR]
  obtain ⟨w3, hw3e⟩ : ∃ w3, w3 = w2.drew.setRow g R.toArray := ⟨_, rfl⟩
  rw [← hw3e]
  have hb4 : w3.cell? ⟨b, 0, none⟩ = some (.slice (some ⟨g, 0, none⟩) (n + 1) cap) := by
    rw [hw3e, World.cell?_of_block (w := w2.drew) (setRow_other _ _ _ _ hgb.symm)]; exact hb3
  have HK3 : Hid (w3.heap[b]? = some (.cells #[.slice (some ⟨g, 0, none⟩) (n + 1) cap] 124 (0, 0))) := by
    unfold Hid; rw [hw3e, setRow_other _ _ _ _ hgb.symm, ← HN.out]; exact HK2.out
  have HG3 : Hid (w3.heap[g]? = some (.cells R.toArray 121 (0, 0))) := by
    unfold Hid; rw [hw3e]; exact setRow_heap w2.drew g cur _ _ _ HG2.out
  have hRl : R.length = cap * 2 := by
    rw [hR, length_splice _ _ _ (by have := H3.out; simp; omega)]; simpa using H3.out
  have hp0 : ∃ u, w3.cell? ⟨g, i * 2, none⟩ = some u := by
    rw [cell_of_row w3 g _ _ _ _ HG3.out]; exact ⟨_, Array.getElem?_eq_getElem (by simp; omega)⟩
  have hp1 : ∃ u, w3.cell? ⟨g, i * 2 + 1, none⟩ = some u := by
    rw [cell_of_row w3 g _ _ _ _ HG3.out]; exact ⟨_, Array.getElem?_eq_getElem (by simp; omega)⟩
  obtain ⟨u0, hp0⟩ := hp0
  obtain ⟨u1, hp1⟩ := hp1
  have hf0 := row_free HG3.out (i * 2)
  have hf1 := row_free HG3.out (i * 2 + 1)
  have hgfp : some g = v.ownBlock ∨ g = w.heap.size + 1 := by
    rcases HB1.out with h | h
    · rw [HV1.out] at h; exact .inl h
    · rw [HV1.out] at h; simp [Value.ownBlock] at h; exact .inr h
  have fin : Hid (IsMap 124 121 ((w3.setCell ⟨g, i * 2, none⟩ (.int .i64 k)).setCell ⟨g, i * 2 + 1, none⟩ (.int .i64 s)) b (.slice (some ⟨g, 0, none⟩) (n + 1) cap) (put k (.int .i64 s) xs) ∧
      Chg (fp b v) w ((w3.setCell ⟨g, i * 2, none⟩ (.int .i64 k)).setCell ⟨g, i * 2 + 1, none⟩ (.int .i64 s)) ∧
      ((Value.slice (some ⟨g, 0, none⟩) (n + 1) cap).ownBlock = v.ownBlock ∨ ∃ g', (Value.slice (some ⟨g, 0, none⟩) (n + 1) cap).ownBlock = some g' ∧ w.heap.size ≤ g')) := by
    have hpl : (put k (.int .i64 s) xs).length = n + 1 := by rw [put_length, HH.out, HN.out]; rfl
    refine ⟨⟨?_, ⟨by rw [flat_length], .inr ⟨g, cap, ((R.toArray.setIfInBounds (i * 2) (.int .i64 k)).setIfInBounds (i * 2 + 1) (.int .i64 s)), by rw [hpl], Nat.zero_le _, ?_, by omega, H2.out, by simpa using hRl, ?_⟩⟩, ?_, H.out.asc.put _ _, ?_⟩, ?_, ?_⟩
    · rw [heap_setCell_other _ _ _ _ hgb.symm, heap_setCell_other _ _ _ _ hgb.symm]; exact HK3.out
    · rw [heap_setCell_same _ _ _ _ _ _ (heap_setCell_same _ _ _ _ _ _ HG3.out)]
    · have h0 := put_cells cur.toList xs i (by rw [HN.out]; exact hle) _ _ H4.out (.int .i64 k) (.int .i64 s)
      rw [← hR, HN.out] at h0
      rw [hpl]
      have hfl : flat (put k (.int .i64 s) xs) = flat (xs.take i) ++ (.int .i64 k :: .int .i64 s :: flat (xs.drop i)) := by
        unfold put
        rw [HH.out, HI.out, flat_append]
        simp [flat_cons]
      rw [hfl, ← h0]
      simp
    · simp [Value.ownBlock]; exact hgb
    · intro p hp
      unfold put at hp
      rw [HH.out] at hp
      rcases List.mem_append.1 hp with hp | hp
      · exact H.out.one p (List.mem_of_mem_take hp)
      · rcases List.mem_cons.1 hp with rfl | hp
        · rfl
        · exact H.out.one p (List.mem_of_mem_drop hp)
    · have k1 : Chg (fp b v) w w1 := ((Chg.drewN _ w m).trans (Chg.alloc _ _ _)).trans (Chg.grown HG1.out fun k hk => .inr hk.symm)
      have k2 : Chg (fp b v) w w2 := k1.trans (by rw [HW2.out]; exact Chg.setCell _ _ _ (.inl rfl))
      have hlt : ∀ k, k < w.heap.size → k = g → fp b v k := by
        rintro k hk rfl
        rcases hgfp with h | h
        · exact .inr h
        · omega
      have k3 : Chg (fp b v) w w3 := k2.trans' (T := fun k => k = g) (by rw [hw3e]; exact (Chg.drew _ _).trans (Chg.setRow _ _ _ rfl)) hlt
      exact (k3.trans' (T := fun k => k = g) (Chg.setCell _ _ _ rfl) hlt).trans' (T := fun k => k = g) (Chg.setCell _ _ _ rfl) hlt
    · rcases hgfp with h | h
      · exact .inl h
      · exact .inr ⟨g, rfl, by omega⟩
  clear hR hw3e hb3 hw1 hw2 hw3 hlenF hmin hRl hgfp
  go_wp2
  all_goals
    go_ret
    exact ⟨rfl, _, fin.out⟩

/-- New -/
theorem new_any (w : World) : Calls Tryz.prog 104 #[] w fun e w' => e = .returned (.pointer (some ⟨w.heap.size, 0, none⟩)) ∧ w.alloc (.cells #[.slice none 0 0] 124) = w' := by
  go_enter Tryz.func104, Tryz.ntmps104
  go_wp2
  go_ret
  exact ⟨rfl, rfl⟩

/-- Put, of any map -/
theorem put_any {w : World} {b : Nat} {v : Value} {xs : List (Int × Value)} (h : IsMap 124 121 w b v xs) (hn : (xs.length + 1) * 16 ≤ 140737488355328) (k : Int) (s : Int) :
    Calls Tryz.prog 74 #[.pointer (some ⟨b, 0, none⟩), .int .i64 k, .int .i64 s] w fun e w' => e = .returned (.bool (!has k xs)) ∧ ∃ v', IsMap 124 121 w' b v' (put k (.int .i64 s) xs) ∧ Chg (fp b v) w w' ∧ (v'.ownBlock = v.ownBlock ∨ ∃ g, v'.ownBlock = some g ∧ w.heap.size ≤ g) := by
  cases hh : has k xs with
  | true => exact (put_old h (by omega) k s hh).mono fun e w' ⟨he, hm, hc⟩ => ⟨he, v, hm, hc, .inl rfl⟩
  | false => exact (put_new h hn k s hh).mono fun e w' ⟨he, v', hm, hc, hb⟩ => ⟨he, v', hm, hc, hb⟩

/-- Put, of a map that is the call's own -/
theorem put_my {B : Nat} {w : World} {b : Nat} {v : Value} {xs : List (Int × Value)} (h : MyMap 124 121 B w b v xs) (hB : B ≤ w.heap.size) (hn : (xs.length + 1) * 16 ≤ 140737488355328) (k : Int) (s : Int) :
    Calls Tryz.prog 74 #[.pointer (some ⟨b, 0, none⟩), .int .i64 k, .int .i64 s] w fun e w' => e = .returned (.bool (!has k xs)) ∧ ∃ v', MyMap 124 121 B w' b v' (put k (.int .i64 s) xs) ∧ Below B w w' :=
  (put_any h.is hn k s).mono fun e w' ⟨he, v', hm, hc, hb⟩ => ⟨he, v', h.next hB hm hb, hc.below hB h.fp⟩

set_option maxRecDepth 100000 in
set_option maxHeartbeats 1000000 in
/-- Each, of any callback that keeps to an invariant -/
theorem each_any {b : Nat} {xs : List (Int × Value)} (f : FuncId) (cap : Array Value) (I : Nat → World → Prop) (Q : World → Prop) (hx : xs.length ≤ 4611686018427387904)
    (hfn : ∀ args w, (callFunc f args).run Tryz.prog w = .ok (.enter f args) w)
    (hmap : ∀ i w, I i w → ∃ v, IsMap TM TE w b v xs) (hdr : ∀ i w n, I i w → I i (w.drewN n))
    (hcall : ∀ i, i < xs.length → ∀ w, I i w → Calls Tryz.prog f (#[.int .i64 ((keys xs).getD i 0), (xs.map (·.2)).getD i undef] ++ cap) w fun e w' => ∃ r, e = .returned (.bool r) ∧ (r = true → I (i + 1) w') ∧ (r = false → Q w'))
    (hend : ∀ w, I xs.length w → Q w) (w : World) (h0 : I 0 w) :
    Calls Tryz.prog 112 #[.pointer (some ⟨b, 0, none⟩), .func (.func f) #[] cap] w fun e w' => e = .returned (.tuple #[]) ∧ Q w' := by
  have hl : ∀ w, I 0 w → Calls Tryz.prog 126 #[.pointer (some ⟨b, 0, none⟩)] w fun e w' => e = .returned (.int .i64 xs.length) ∧ w = w' := fun w h => by
    obtain ⟨v, hv⟩ := hmap 0 w h
    exact len_any hv
  have cl := hl w h0
  have H0 : Hid (I 0 w) := h0
  have HM := Lib.hid hmap; have HD := Lib.hid hdr; have HC := Lib.hid hcall; have HE := Lib.hid hend
  clear hl h0 hmap hdr hcall hend
  obtain ⟨n, hn⟩ : ∃ n, xs.length = n := ⟨_, rfl⟩
  have HN := Lib.hid hn
  rw [hn] at hx cl
  clear hn
  go_enter Tryz.func112, Tryz.ntmps112
  go_wp2_with (go_at_call 126; refine cl.mono ?_; rintro e w' ⟨rfl, rfl⟩)
  clear cl
  go_loopw [4, 7] (fun u4 i wr => ∃ k : Nat, k ≤ n ∧ i = .int .i64 k ∧ Hid (I k wr)) (fun _ i _ => n - (intOf i).toNat)
  case atStart => exact ⟨0, by omega, rfl, H0⟩
  case round =>
    obtain ⟨k, hk, rfl, HI⟩ := hrel
    by_cases hlt : k < n
    · obtain ⟨v, hm⟩ := HM.out k wr HI.out
      rcases hm.shape with ⟨_, rfl⟩ | ⟨g, cp, cur, rfl, hgb, hg, hc, hcm, hcs, ht⟩
      · have := HN.out; simp at this; omega
      have hb := hm.head
      rw [HN.out] at hb
      have hkk := row_cell hg ht (flat_key xs k (by rw [HN.out]; exact hlt))
      have hkv := row_cell hg ht (flat_val xs k (by rw [HN.out]; exact hlt))
      have cc := HC.out k (by rw [HN.out]; exact hlt) (wr.drewN 1) (HD.out k wr 1 HI.out)
      obtain ⟨x, hx'⟩ : ∃ x, (keys xs).getD k 0 = x := ⟨_, rfl⟩
      obtain ⟨u, hu⟩ : ∃ u, (xs.map (·.2)).getD k undef = u := ⟨_, rfl⟩
      rw [show (xs.map (·.1)).getD k 0 = x from hx'] at hkk
      rw [hu] at hkv
      rw [hx', hu] at cc
      clear hx' hu hm hg hc hcm hcs ht
      go_wp2
      go_still_tail 17, (by kernel_rfl)
      change wpList _ _ _ _ _ (wr.drewN 1)
      go_wp2_with fail
      refine cc.mono ?_
      rintro e w2 ⟨r, rfl, h1, h2⟩
      cases r with
      | true =>
        have HI2 : Hid (I (k + 1) w2) := h1 rfl
        clear h1 h2
        go_wp2
        go_roundw
        case rel => exact ⟨k + 1, by omega, by go_num, HI2⟩
        case measure => simp [intOf]; omega
      | false =>
        have HQ2 : Hid (Q w2) := h2 rfl
        clear h1 h2
        go_wp2
        exact bodyPost_ret (results_none rfl _ _ _) rfl ⟨rfl, HQ2.out⟩
    · obtain rfl : k = n := by omega
      have HQ2 : Hid (Q wr) := HE.out wr (by rw [HN.out]; exact HI.out)
      go_wp2
      go_end0
      exact ⟨rfl, HQ2.out⟩

end MapI
end Go.Proofs.YthojgahcpkdemaaGreat
