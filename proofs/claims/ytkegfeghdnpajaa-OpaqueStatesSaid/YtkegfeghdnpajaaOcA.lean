/- Lemmas of this seat's proofs, several texts laid together. -/
import Derived.WalkKit
import Derived.WalkSpells
import Derived.WalkLawsBesides
import Derived.Laws.CopyOwn
import Derived.Lib.Hide
import Derived.Deep.RegionLaw
import Derived.Deep.QuietTactic
import Derived.BigQuiet
import Derived.IntWalk
import Derived.Laws.Rows
import Derived.Laws.Tables
import Derived.Deep.MidRow
import Derived.Laws.ResultCell
import Derived.StillTailTactics
import Derived.Test.YtkegfeghdnpajaaRows
import Derived.Deep.Slices
import Derived.Deep.Fields
import Derived.ChangeSame
import Derived.ProofKit
import Derived.Maps.OwnSet
import Derived.Maps.Views
set_option linter.unusedVariables false
set_option linter.unusedSimpArgs false
/- what changes in memory, and laws for append and copy at elements of several cells; no program in sight -/
namespace Go.Bas
open Go.RowKit

/-- only blocks of S, and new ones, may have changed -/
structure Chg (S : Nat → Prop) (w w' : World) : Prop where
  os : w'.os = w.os
  tape : w'.tape = w.tape
  output : w'.output = w.output
  size : w.heap.size ≤ w'.heap.size
  block : ∀ k, k < w.heap.size → ¬ S k → w'.heap[k]? = w.heap[k]?

theorem Chg.refl (S) (w : World) : Chg S w w := ⟨rfl, rfl, rfl, Nat.le_refl _, fun _ _ _ => rfl⟩
theorem Chg.mono {S T : Nat → Prop} {w w' : World} (h : Chg S w w') (hs : ∀ k, k < w.heap.size → S k → T k) : Chg T w w' :=
  ⟨h.os, h.tape, h.output, h.size, fun k hk hn => h.block k hk fun hs' => hn (hs k hk hs')⟩
theorem Chg.trans {S : Nat → Prop} {a b c : World} (h : Chg S a b) (g : Chg S b c) : Chg S a c :=
  ⟨g.os.trans h.os, g.tape.trans h.tape, g.output.trans h.output, Nat.le_trans h.size g.size, fun k hk hn => (g.block k (Nat.lt_of_lt_of_le hk h.size) hn).trans (h.block k hk hn)⟩
/-- a change of what is new when seen from an earlier world -/
theorem Chg.trans' {S T : Nat → Prop} {a b c : World} (h : Chg S a b) (g : Chg T b c) (ht : ∀ k, k < a.heap.size → T k → S k) : Chg S a c :=
  ⟨g.os.trans h.os, g.tape.trans h.tape, g.output.trans h.output, Nat.le_trans h.size g.size, fun k hk hn => (g.block k (Nat.lt_of_lt_of_le hk h.size) (fun t => hn (ht k hk t))).trans (h.block k hk hn)⟩
theorem Chg.below {S : Nat → Prop} {w w' : World} (h : Chg S w w') {B : Nat} (hB : B ≤ w.heap.size) (hs : ∀ k, S k → B ≤ k) : Below B w w' :=
  ⟨h.os, h.tape, h.output, h.size, fun k hk => h.block k (by omega) fun hs' => by have := hs k hs'; omega⟩
theorem Chg.of_below {B : Nat} {w w' : World} (h : Below B w w') : Chg (fun k => B ≤ k) w w' :=
  ⟨h.os, h.tape, h.output, h.size, fun k _ hn => h.block k (by omega)⟩
theorem Chg.drewN (S) (w : World) (n : Nat) : Chg S w (w.drewN n) := ⟨rfl, rfl, rfl, Nat.le_refl _, fun _ _ _ => rfl⟩
theorem Chg.drew (S) (w : World) : Chg S w w.drew := ⟨rfl, rfl, rfl, Nat.le_refl _, fun _ _ _ => rfl⟩
theorem Chg.setCell {S : Nat → Prop} (w : World) (a : Addr) (v : Value) (h : S a.block) : Chg S w (w.setCell a v) :=
  ⟨rfl, rfl, rfl, by simp [World.setCell], fun k _ hn => Below.heap_setCell _ _ _ _ (fun e => hn (e ▸ h))⟩
theorem Chg.setRow {S : Nat → Prop} (w : World) (g : Nat) (cs : Array Value) (h : S g) : Chg S w (w.setRow g cs) :=
  ⟨rfl, rfl, rfl, by simp, fun k _ hn => setRow_other w g k cs (fun e => hn (e ▸ h))⟩
theorem Chg.alloc (S : Nat → Prop) (w : World) (o : Obj) : Chg S w (w.alloc o) :=
  ⟨rfl, rfl, rfl, by simp, fun k hk _ => Below.heap_alloc w o k hk⟩
theorem Chg.grown {S : Nat → Prop} {w w' : World} {row : Option Nat} (h : w.grownBy w' row) (hs : ∀ k, row = some k → S k) : Chg S w w' :=
  ⟨h.os, h.tape, h.output, h.size, fun k hk hn => h.block k hk fun e => hn (hs k e.symm)⟩

/-- copy at elements of several cells, both slices having an address where a cell goes over at all -/
theorem run_copy_sized {P : Program} (w : World) (dT sT ty elem : TypeId) (i : TypeInfo) (hu : P.underlying dT = some (.slice elem)) (hi : P.info? elem = some i)
    (dp sp : Option Addr) (dLen dCap sLen sCap : Nat) (g off : Nat) (cur : List Value) (t : TypeId) (hg : w.heap[g]? = some (.cells cur.toArray t (0, 0)))
    (cs : List Value) (hn : cs.length = Nat.min sLen dLen * i.size)
    (hpos : 0 < Nat.min sLen dLen → dp = some ⟨g, off, none⟩ ∧ ∃ ad, sp = some ad ∧ ∀ j v, cs[j]? = some v → w.cell? (ad.add j) = some v)
    (hfit : off + cs.length ≤ cur.length) (h1 : ∀ v ∈ cs, v.oneCell' = true) :
    (Builtin.copy_ #[dT, sT] ty #[.slice dp dLen dCap, .slice sp sLen sCap]).run P w =
      .ok (goInt ((Nat.min sLen dLen : Nat) : Int)) (w.setRow g (splice cur off cs).toArray) := by
  by_cases h0 : Nat.min sLen dLen = 0
  · have hc : cs = [] := List.eq_nil_of_length_eq_zero (by rw [hn, h0]; simp)
    subst hc
    have hs : w.setRow g (splice cur off []).toArray = w := by
      rw [show splice cur off [] = cur by simp [splice]]
      exact setRow_self w g _ t (0, 0) hg
    rw [hs]
    have hfc : (Builtin.firstCells i.size 0 (.slice sp sLen sCap)).run P w = .ok #[] w := by
      cases sp <;> simp [Builtin.firstCells, loadCells, loadCellsFrom]
    cases dp <;> simp [Builtin.copy_, run_underlying hu, Builtin.lenOf, sizeOf, typeInfo, hi, h0, hfc, storeCells]
  · obtain ⟨rfl, ad, rfl, hsrc⟩ := hpos (by omega)
    have hf := run_firstCells_some (P := P) w i.size (Nat.min sLen dLen) ad sLen sCap cs hn hsrc
    have hst := run_storeCells_at P g off t cs 0 cur.toArray w hg (by simpa using hfit) h1
    simp only [Nat.add_zero] at hst
    simp [Builtin.copy_, run_underlying hu, Builtin.lenOf, sizeOf, typeInfo, hi, hf, hst, splice]

theorem wpList_copy_sized {P : Program} {w : World} {ops : Array Oper} {rest : List Oper} {o : Oper} {a : Act} {Q : Exit → Act → World → Prop} (hgd : o.guard = none) (d s : Operand) (dT sT : TypeId)
    (ho : o.op = .call { callee := .builtin .copy, args := #[d, s], argTypes := #[dT, sT] }) (elem : TypeId) (i : TypeInfo) (hu : P.underlying dT = some (.slice elem)) (hi : P.info? elem = some i)
    (dp sp : Option Addr) (dLen dCap sLen sCap : Nat) (hd : a.eval d = .slice dp dLen dCap) (hs : a.eval s = .slice sp sLen sCap) (g off : Nat) (cur : List Value) (t : TypeId) (hg : w.heap[g]? = some (.cells cur.toArray t (0, 0)))
    (cs : List Value) (hn : cs.length = Nat.min sLen dLen * i.size)
    (hpos : 0 < Nat.min sLen dLen → dp = some ⟨g, off, none⟩ ∧ ∃ ad, sp = some ad ∧ ∀ j v, cs[j]? = some v → w.cell? (ad.add j) = some v)
    (hfit : off + cs.length ≤ cur.length) (h1 : ∀ v ∈ cs, v.oneCell' = true)
    (h : wpList P ops Q rest (a.put o.dst (goInt ((Nat.min sLen dLen : Nat) : Int))) (w.setRow g (splice cur off cs).toArray)) : wpList P ops Q (o :: rest) a w := by
  refine wpList_plain hgd fun K hK => ?_
  have hrun := run_copy_sized (P := P) w dT sT o.type elem i hu hi dp sp dLen dCap sLen sCap g off cur t hg cs hn hpos hfit h1
  unfold Oper.wp
  simp only [execOp, ho, resolve, invoke, builtin, List.map_toArray, List.map_cons, List.map_nil, hd, hs, Sem.run_bind, Sem.run_pure, Result.andThen_ok, hrun]
  exact hK _ _ h


/-- append to an owned row, of whatever slice: nil where it has no element -/
theorem run_append_any {P : Program} (w : World) (base : Nat) (t ty e : TypeId) (i : TypeInfo) (z : Value) (size bytes : Nat) (ht : P.underlying t = some (.slice e)) (hi : P.info? e = some i) (hz : i.zero = some z)
    (hsize : i.size = size) (hby : i.bytes = bytes) (hzs : z.cells.size = size) (hsz : 0 < size)
    (v : Value) (n : Nat) (xs : List Value) (hown : w.ownsRow base e size v n xs)
    (xa : Option Addr) (m c : Nat) (news : List Value) (hl : news.length = m * size) (hnews : 0 < m → ∃ a, xa = some a ∧ ∀ j u, news[j]? = some u → w.cell? (a.add j) = some u) (h1 : ∀ u ∈ news, u.oneCell' = true)
    (h63 : n + m ≤ maxLen) (hbytes : (n + m) * bytes ≤ 140737488355328) (hbase : base ≤ w.heap.size) :
    ∃ v' w', (Builtin.append_ #[t, t] ty #[v, .slice xa m c]).run P w = .ok v' w' ∧ w'.ownsRow base e size v' (n + m) (xs ++ news) ∧ w.grownBy w' v.ownBlock ∧
      (v'.ownBlock = v.ownBlock ∨ v'.ownBlock = some w.heap.size) := by
  by_cases hm : m = 0
  · subst hm
    have hn : news = [] := List.eq_nil_of_length_eq_zero (by simpa using hl)
    subst hn
    refine ⟨v, w, ?_, by simpa using hown, ⟨rfl, rfl, rfl, Nat.le_refl _, fun _ _ _ => rfl⟩, .inl rfl⟩
    have hf : (Builtin.firstCells i.size 0 (.slice xa 0 c)).run P w = .ok #[] w := by
      cases xa <;> simp [Builtin.firstCells, loadCells, loadCellsFrom]
    rcases hown.2 with ⟨rfl, rfl⟩ | ⟨g, cap, cur, rfl, hbg, hg, hnc, hcm, hcs, htake⟩
    · simp [Builtin.append_, run_underlying ht, sizeOf, typeInfo, hi, Builtin.lenOf, hf]
    · simp [Builtin.append_, run_underlying ht, sizeOf, typeInfo, hi, Builtin.lenOf, hnc, hf, storeCells]
  · obtain ⟨a, rfl, hne⟩ := hnews (by omega)
    clear hnews; have hnews := hne
    obtain ⟨v', w', hr, ho, hg, _⟩ := run_append_own (P := P) w base t ty e i z size bytes ht hi hz hsize hby hzs hsz v n xs hown a m c news hl hnews h1 h63 hbytes hbase
    refine ⟨v', w', hr, ho, hg, ?_⟩
    subst hsize hby
    have hsmall : n + m ≤ 9223372036854775807 := by simp only [maxLen] at h63; omega
    rcases hown.2 with ⟨rfl, rfl⟩ | ⟨g, cap, cur, rfl, hbg, hg', hnc, hcm, hcs, htake⟩
    · have hr' := run_append_nil (P := P) w t ty e i z ht hi hz a m c news hl hnews (by omega) (by omega) (by have hb := hbytes; simp only [Nat.zero_add] at hb; omega)
      rw [hr] at hr'
      injection hr' with h1 h2
      exact .inr (by rw [h1]; rfl)
    · by_cases hroom : n + m ≤ cap
      · have hfit : n * i.size + news.length ≤ cur.size := by rw [hl, hcs, ← Nat.add_mul]; exact Nat.mul_le_mul_right _ hroom
        have hr' := run_append_room (P := P) w t ty e i ht hi g n cap cur hg' a m c news hl hnews h1 hroom hfit
        rw [hr] at hr'
        injection hr' with h1 h2
        exact .inl (by rw [h1]; rfl)
      · have holds : ∀ j u, xs[j]? = some u → w.cell? ((⟨g, 0, none⟩ : Addr).add j) = some u := hown.cells (g := g) rfl
        have hr' := run_append_grow (P := P) w t ty e i z ht hi hz ⟨g, 0, none⟩ n cap xs hown.1 holds a m c news hl hnews (by omega) (by omega) (growslice_fits (by omega) hbytes)
        rw [hr] at hr'
        injection hr' with h1 h2
        exact .inr (by rw [h1]; rfl)

theorem wpList_append_any {P : Program} {w : World} {ops : Array Oper} {rest : List Oper} {o : Oper} {a : Act} {Q : Exit → Act → World → Prop} (hgd : o.guard = none) (s x : Operand) (t : TypeId)
    (ho : o.op = .call { callee := .builtin .append, args := #[s, x], argTypes := #[t, t] })
    (base : Nat) (e : TypeId) (i : TypeInfo) (z : Value) (size bytes : Nat) (ht : P.underlying t = some (.slice e)) (hi : P.info? e = some i) (hz : i.zero = some z)
    (hsize : i.size = size) (hby : i.bytes = bytes) (hzs : z.cells.size = size) (hsz : 0 < size)
    (v : Value) (n : Nat) (xs : List Value) (hs : a.eval s = v) (hown : w.ownsRow base e size v n xs)
    (xa : Option Addr) (m c : Nat) (news : List Value) (hx : a.eval x = .slice xa m c) (hl : news.length = m * size) (hnews : 0 < m → ∃ a, xa = some a ∧ ∀ j u, news[j]? = some u → w.cell? (a.add j) = some u) (h1 : ∀ u ∈ news, u.oneCell' = true)
    (h63 : n + m ≤ maxLen) (hbytes : (n + m) * bytes ≤ 140737488355328) (hbase : base ≤ w.heap.size)
    (h : ∀ v' w', w'.ownsRow base e size v' (n + m) (xs ++ news) → w.grownBy w' v.ownBlock → (v'.ownBlock = v.ownBlock ∨ v'.ownBlock = some w.heap.size) → wpList P ops Q rest (a.put o.dst v') w') : wpList P ops Q (o :: rest) a w := by
  refine wpList_plain hgd fun K hK => ?_
  obtain ⟨v', w', hr, h2, h3, h4⟩ := run_append_any (P := P) w base t o.type e i z size bytes ht hi hz hsize hby hzs hsz v n xs hown xa m c news hl hnews h1 h63 hbytes hbase
  unfold Oper.wp execOp
  simp only [ho, resolve, invoke, builtin, Sem.run_bind, Sem.run_pure, Result.andThen_ok, List.map_toArray, List.map_cons, List.map_nil, hs, hx, hr]
  exact hK _ _ (h v' w' h2 h3 h4)

/-- the cells of a new block -/
theorem new_cells (w : World) (L : List Value) (e : TypeId) : ∀ j u, L[j]? = some u → (w.alloc (.cells L.toArray e)).cell? ((⟨w.heap.size, 0, none⟩ : Addr).add j) = some u := by
  intro j u hu
  have hadd : (⟨w.heap.size, 0, none⟩ : Addr).add j = ⟨w.heap.size, j, none⟩ := by unfold Addr.add; split <;> simp_all
  rw [hadd, cell_of_row _ w.heap.size j L.toArray e (0, 0) (heap_alloc_new w _)]
  simpa using hu

/-- append where there is room, the source nil or whatever where it has no element -/
theorem run_append_room_any {P : Program} (w : World) (t ty e : TypeId) (i : TypeInfo) (size : Nat) (ht : P.underlying t = some (.slice e)) (hi : P.info? e = some i) (hsize : i.size = size)
    (g sLen sCap : Nat) (cur : Array Value) (hg : w.heap[g]? = some (.cells cur e (0, 0)))
    (xa : Option Addr) (m c : Nat) (news : List Value) (hl : news.length = m * size) (hnews : 0 < m → ∃ a, xa = some a ∧ ∀ j u, news[j]? = some u → w.cell? (a.add j) = some u) (h1 : ∀ u ∈ news, u.oneCell' = true)
    (hroom : sLen + m ≤ sCap) (hfit : sLen * size + news.length ≤ cur.size) :
    (Builtin.append_ #[t, t] ty #[.slice (some ⟨g, 0, none⟩) sLen sCap, .slice xa m c]).run P w =
      .ok (.slice (some ⟨g, 0, none⟩) (sLen + m) sCap) (w.setRow g (cur.toList.take (sLen * size) ++ news ++ cur.toList.drop (sLen * size + news.length)).toArray) := by
  subst hsize
  by_cases hm : m = 0
  · subst hm
    have hn : news = [] := List.eq_nil_of_length_eq_zero (by simpa using hl)
    subst hn
    have hf : (Builtin.firstCells i.size 0 (.slice xa 0 c)).run P w = .ok #[] w := by
      cases xa <;> simp [Builtin.firstCells, loadCells, loadCellsFrom]
    have hs : w.setRow g (cur.toList.take (sLen * i.size) ++ [] ++ cur.toList.drop (sLen * i.size + ([] : List Value).length)).toArray = w := by
      simp
      exact setRow_self w g _ _ _ hg
    rw [hs]
    have hr : sLen ≤ sCap := by omega
    simp [Builtin.append_, run_underlying ht, sizeOf, typeInfo, hi, Builtin.lenOf, hr, hf, storeCells]
  · obtain ⟨a, rfl, hne⟩ := hnews (by omega)
    exact run_append_room (P := P) w t ty e i ht hi g sLen sCap cur hg a m c news hl hne h1 hroom hfit

theorem step_append_run {P : Program} {ops : Array Oper} {o : Oper} {a : Act} {w : World} {K : Act → World → Prop} {Q : Exit → Act → World → Prop} {E : Prop}
    (hg : o.guard = none) (s x : Operand) (t : TypeId) (hop : o.op = Op.call { callee := Callee.builtin Builtin.append, args := #[s, x], argTypes := #[t, t] })
    (sv xv v' : Value) (w' : World) (hs : a.eval s = sv) (hx : a.eval x = xv) (hrun : ∀ ty, (Builtin.append_ #[t, t] ty #[sv, xv]).run P w = .ok v' w')
    (hK : K (a.put o.dst v') w') : if Region.wanted o (yielded ops a.tmps) = true then Oper.wp P o a w K Q else E := by
  have hw : Region.wanted o (yielded ops a.tmps) = true := by simp [Region.wanted, hg]
  rw [if_pos hw]
  unfold Oper.wp
  simp only [execOp, hop, resolve, invoke, builtin, Sem.run_bind, Sem.run_pure, Result.andThen_ok, List.map_toArray, List.map_cons, List.map_nil, hs, hx, hrun]
  exact hK

theorem wpList_append_run {P : Program} {w : World} {ops : Array Oper} {rest : List Oper} {o : Oper} {a : Act} {Q : Exit → Act → World → Prop} (hgd : o.guard = none) (s x : Operand) (t : TypeId)
    (ho : o.op = .call { callee := .builtin .append, args := #[s, x], argTypes := #[t, t] })
    (sv xv v' : Value) (w' : World) (hs : a.eval s = sv) (hx : a.eval x = xv) (hrun : ∀ ty, (Builtin.append_ #[t, t] ty #[sv, xv]).run P w = .ok v' w')
    (h : wpList P ops Q rest (a.put o.dst v') w') : wpList P ops Q (o :: rest) a w := by
  refine wpList_plain hgd fun K hK => ?_
  unfold Oper.wp execOp
  simp only [ho, resolve, invoke, builtin, Sem.run_bind, Sem.run_pure, Result.andThen_ok, List.map_toArray, List.map_cons, List.map_nil, hs, hx, hrun]
  exact hK _ _ h

theorem drewN_below (B : Nat) (w : World) (n : Nat) : Below B w (w.drewN n) := ⟨rfl, rfl, rfl, Nat.le_refl _, fun _ _ => rfl⟩

theorem own_slice {w : World} {base : Nat} {e : TypeId} {size : Nat} {v : Value} {n : Nat} {xs : List Value} (h : w.ownsRow base e size v n xs) : ∃ A c, v = .slice A n c := by
  rcases h.2 with ⟨rfl, rfl⟩ | ⟨g, cap, cur, rfl, _⟩
  · exact ⟨_, _, rfl⟩
  · exact ⟨_, _, rfl⟩

end Go.Bas

namespace Go.Bas
open Go.RowKit

/-- a function's value called: its body is entered -/
theorem callFunc_run {P : Program} {f : FuncId} {fn : Func} (h : P.funcs[f]? = some fn) (hn : (fn.name == "runtime.NumGoroutine") = false) (hb : fn.body.isNone = false) (args : Array Value) (w : World) :
    (callFunc f args).run P w = .ok (.enter f args) w := by
  have hn' : ¬ fn.name = "runtime.NumGoroutine" := by simpa using hn
  have hb' : ¬ fn.body = none := by intro e; rw [e] at hb; cases hb
  simp [callFunc, program, Sem.run, h, hn', hb']

end Go.Bas

/- regions that draw their order, and whose operations only add to memory: one walk of the text's order; structs by value as whole rows -/
namespace Go.Bas
open Go.RowKit

/-- the worlds that come of w by adding to memory: below block B all is as it was -/
structure Ext (B : Nat) (w : World) where
  at_ : World
  below : Below B w at_
instance (B : Nat) (w : World) : Nonempty (Ext B w) := ⟨⟨w, Below.refl B w⟩⟩

theorem wp_region_mono {P : Program} {id : Nat} {Q : Exit → Act → World → Prop} {a : Act} {w : World} {l : List Oper} (B : Nat) (hm : P.follows .mixedOrders = true) (hB : Region.lexB .any l.toArray = true)
    (h : wpQuiet P l.toArray (fun w' => ∃ e : Ext B w, w' = e.1) (fun a' => ∀ e : Ext B w, Q .normal a' e.1) l a) : (Code.region id l.toArray true).wp P Q a w := by
  refine wp_region_quiet (C := fun w' => ∃ e : Ext B w, w' = e.1) hm hB ⟨⟨_, (Below.refl B w).drew⟩, rfl⟩ ?_
  have e : (fun a' => ∀ w', (∃ e : Ext B w, w' = e.1) → Q .normal a' w') = (fun a' => ∀ e : Ext B w, Q .normal a' e.1) := by
    funext a'
    apply propext
    constructor
    · intro h e; exact h _ ⟨e, rfl⟩
    · rintro h _ ⟨e, rfl⟩; exact h e
  rw [e]
  simpa using h

/-- a callee that only adds to memory -/
theorem Calls.ext {P : Program} {f : FuncId} {args : Array Value} {B : Nat} {w : World} {e : Ext B w} {v : Value} (hB : B ≤ w.heap.size)
    (h : Calls P f args e.1 fun e' w' => e' = .returned v ∧ Below e.1.heap.size e.1 w') : Calls P f args e.1 fun e' w'' => e' = .returned v ∧ ∃ e2 : Ext B w, w'' = e2.1 :=
  h.mono fun _ w' ⟨he, hb⟩ => ⟨he, ⟨w', e.2.trans (hb.mono (Nat.le_trans hB e.2.size))⟩, rfl⟩

/-- a whole struct read, in a quiet walk -/
theorem wpQuiet_load_row {P : Program} {ops : Array Oper} {C : World → Prop} {Q : Act → Prop} {a : Act} {o : Oper} {rest : List Oper} (hw : Region.wanted o (yielded ops a.tmps) = true) (ty : TypeId) (x : Operand) (ho : o.op = .load ty x)
    (g : Nat) (hx : a.eval x = .pointer (some ⟨g, 0, none⟩)) (t : TypeId) (cs : Array Value) (fr : Nat × Nat) (d : TypeDesc) (hg : ∀ w, C w → w.heap[g]? = some (.cells cs t fr))
    (hu : P.underlying ty = some d) (hd : (match d with | .struct _ | .array _ _ => true | _ => false) = true) (hi : (P.info? ty).map (·.size) = some cs.size)
    (h : wpQuiet P ops C Q rest (a.put o.dst (.agg cs))) : wpQuiet P ops C Q (o :: rest) a := by
  refine wpQuiet_step fun K hK => ?_
  rw [if_pos hw]
  refine ⟨.agg cs, fun w hC => ?_, hK _ h⟩
  unfold Oper.quietAt execOp
  simp only [ho, hx, Instr.loadAt, Instr.sureAddr, Sem.run_bind, Sem.run_pure, Result.andThen_ok, run_loadVar_row w g t ty cs fr d (hg w hC) hu hd hi]
  exact ⟨rfl, rfl⟩

/-- one cell of a row that is known, in every later world -/
theorem ext_cell {B : Nat} {w : World} {g : Nat} {cs : Array Value} {t : TypeId} {fr : Nat × Nat} (hg : w.heap[g]? = some (.cells cs t fr)) (hB : g < B) {j : Nat} {u : Value} (hj : cs[j]? = some u) : ∀ e : Ext B w, e.1.cell? ⟨g, j, none⟩ = some u := fun e => by
  rw [e.2.cell (by exact hB), cell_of_row w g j cs t fr hg]
  exact hj
theorem ext_row {B : Nat} {w : World} {g : Nat} {o : Obj} (hg : w.heap[g]? = some o) (hB : g < B) : ∀ w', (∃ e : Ext B w, w' = e.1) → w'.heap[g]? = some o := by
  rintro _ ⟨e, rfl⟩
  rw [e.2.block g hB]; exact hg
theorem new_row (w : World) (cs : Array Value) (t : TypeId) : (w.alloc (.cells cs t)).heap[w.heap.size]? = some (.cells cs t (0, 0)) := heap_alloc_new w _

/-- the head of a row, as a struct of its own -/
theorem row_range {w : World} {g : Nat} {L : Array Value} {t : TypeId} {fr : Nat × Nat} (hg : w.heap[g]? = some (.cells L t fr)) (o : Nat) (cs : List Value) (h : ∀ j v, cs[j]? = some v → L[o + j]? = some v) : w.rangeAt g o cs := fun j v hv => by
  rw [cell_of_row w g _ L t fr hg]; exact h j v hv
theorem alloc_heap (w : World) (o : Obj) (k : Nat) (hk : k < w.heap.size) : (w.alloc o).heap[k]? = w.heap[k]? := Below.heap_alloc w o k hk
theorem setRow_same {w : World} {g : Nat} {old cs : Array Value} {t : TypeId} {fr : Nat × Nat} (hg : w.heap[g]? = some (.cells old t fr)) : (w.setRow g cs).heap[g]? = some (.cells cs t fr) := setRow_heap w g old cs t fr hg
theorem setRow_below {B g : Nat} {w0 w : World} (hb : Below B w0 w) (hBg : B ≤ g) (cs : Array Value) : Below B w0 (w.setRow g cs) := below_setRow hb hBg cs

/-- single cells of a row, as rows -/
theorem setCell_row {w : World} {g i : Nat} {cs : Array Value} {t : TypeId} {fr : Nat × Nat} {v : Value} (hg : w.heap[g]? = some (.cells cs t fr)) : w.setCell ⟨g, i, none⟩ v = w.setRow g (cs.setIfInBounds i v) := by
  have hlt : g < w.heap.size := (Array.getElem?_eq_some_iff.1 hg).1
  have hv : w.heap[g] = .cells cs t fr := (Array.getElem?_eq_some_iff.1 hg).2
  unfold World.setCell World.setRow
  congr 1
  apply Array.ext
  · simp
  · intro k h1 h2
    simp only [Array.getElem_modify]
    split
    · rename_i e; subst e; rw [hv]; rfl
    · rfl
theorem setRow_setRow (w : World) (g : Nat) (a b : Array Value) : (w.setRow g a).setRow g b = w.setRow g b := by
  unfold World.setRow
  congr 1
  apply Array.ext
  · simp
  · intro k h1 h2
    simp only [Array.getElem_modify]
    split
    · generalize w.heap[k]'(by simpa using h2) = o
      cases o <;> rfl
    · rfl
theorem setRow_is {w : World} {g : Nat} {cs : Array Value} {t : TypeId} {fr : Nat × Nat} (hg : w.heap[g]? = some (.cells cs t fr)) : w.setRow g cs = w := by
  have hlt : g < w.heap.size := (Array.getElem?_eq_some_iff.1 hg).1
  have hv : w.heap[g] = .cells cs t fr := (Array.getElem?_eq_some_iff.1 hg).2
  have e : (w.setRow g cs).heap = w.heap := by
    unfold World.setRow
    apply Array.ext
    · simp
    · intro k h1 h2
      simp only [Array.getElem_modify]
      split
      · rename_i e; subst e; rw [hv]
      · rfl
  show ({ w with heap := (w.setRow g cs).heap } : World) = w
  rw [e]
theorem setRow_other (w : World) (g k : Nat) (cs : Array Value) (h : k ≠ g) : (w.setRow g cs).heap[k]? = w.heap[k]? := by
  unfold World.setRow
  simp only [Array.getElem?_modify]
  rw [if_neg (Ne.symm h)]
theorem setRow_size (w : World) (g : Nat) (cs : Array Value) : (w.setRow g cs).heap.size = w.heap.size := by
  unfold World.setRow; simp
theorem setRow_cell {w : World} {g : Nat} {old : Array Value} {t : TypeId} {fr : Nat × Nat} (hg : w.heap[g]? = some (.cells old t fr)) (cs : Array Value) (j : Nat) : (w.setRow g cs).cell? ⟨g, j, none⟩ = cs[j]? := by
  rw [cell_of_row _ _ _ _ _ _ (setRow_same hg)]
theorem setRow_cell_other (w : World) (g k : Nat) (cs : Array Value) (j : Nat) (h : k ≠ g) : (w.setRow g cs).cell? ⟨k, j, none⟩ = w.cell? ⟨k, j, none⟩ := by
  unfold World.cell?
  simp only [setRow_other w g k cs h]
theorem setRow_setCell {w : World} {g : Nat} {old : Array Value} {t : TypeId} {fr : Nat × Nat} (hg : w.heap[g]? = some (.cells old t fr)) (cs : Array Value) (i : Nat) (v : Value) : (w.setRow g cs).setCell ⟨g, i, none⟩ v = w.setRow g (cs.setIfInBounds i v) := by
  rw [setCell_row (setRow_same hg), setRow_setRow]
theorem row_frozen {w : World} {g : Nat} {cs : Array Value} {t : TypeId} (hg : w.heap[g]? = some (.cells cs t (0, 0))) (j : Nat) : w.frozen? ⟨g, j, none⟩ = false := by
  unfold World.frozen?
  simp only [hg]
  simp
theorem alloc_cell (w : World) (o : Obj) (k j : Nat) (hk : k < w.heap.size) : (w.alloc o).cell? ⟨k, j, none⟩ = w.cell? ⟨k, j, none⟩ := by
  unfold World.cell?
  simp only [alloc_heap w o k hk]

/-- a whole struct read where a guard lets it -/
theorem wpList_load_row_if {P : Program} {ops : Array Oper} {rest : List Oper} {o : Oper} {a : Act} {w : World} {Q : Exit → Act → World → Prop} (hw : Region.wanted o (yielded ops a.tmps) = true) (ty : TypeId) (x : Operand) (ho : o.op = .load ty x)
    (g : Nat) (hx : a.eval x = .pointer (some ⟨g, 0, none⟩)) (t : TypeId) (cs : Array Value) (fr : Nat × Nat) (d : TypeDesc) (hg : w.heap[g]? = some (.cells cs t fr))
    (hu : P.underlying ty = some d) (hd : (match d with | .struct _ | .array _ _ => true | _ => false) = true) (hi : (P.info? ty).map (·.size) = some cs.size)
    (h : wpList P ops Q rest (a.put o.dst (.agg cs)) w) : wpList P ops Q (o :: rest) a w :=
  BigFrame.wpList_want hw fun _ hK => wp_load_row ty x ho g hx t cs fr d hg hu hd hi (hK _ _ h)

/-- 'return s, e': s a struct in a cell, e in a slot -/
theorem results_row_tmp {P : Program} {fn : Func} {p u : Tmp} {ty : TypeId} (h : fn.results = #[.cell p ty, .tmp u]) (tmps : Array Value) (w : World) (g : Nat) (t : TypeId) (cs : Array Value) (fr : Nat × Nat) (d : TypeDesc)
    (hp : tmps.getD p undef = .pointer (some ⟨g, 0, none⟩)) (hg : w.heap[g]? = some (.cells cs t fr))
    (hu : P.underlying ty = some d) (hd : (match d with | .struct _ | .array _ _ => true | _ => false) = true) (hi : (P.info? ty).map (·.size) = some cs.size) :
    (results fn tmps).run P w = .ok (.tuple #[.agg cs, tmps.getD u undef]) w := by
  rw [results_cell_tmp h, hp]
  simp [asAddr, run_loadVar_row w g t ty cs fr d hg hu hd hi, Result.andThen]

/-- a struct or an array that is built, its cells named -/
theorem wpList_built {P : Program} {ops : Array Oper} {rest : List Oper} {o : Oper} {a : Act} {w : World} {Q : Exit → Act → World → Prop} (hg : o.guard = none) (t : TypeId) (parts : Array (Nat × Operand)) (ho : o.op = .build t parts)
    (vs : List (Nat × Value)) (hp' : parts.toList.map (fun (i, x) => (i, a.eval x)) = vs) (cs : Array Value) (hb : P.built t vs = some cs)
    (h : wpList P ops Q rest (a.put o.dst (.agg cs)) w) : wpList P ops Q (o :: rest) a w := by
  have hp : (parts.map fun (i, x) => (i, a.eval x)).toList = vs := by rw [Array.toList_map]; exact hp'
  refine wpList_build hg t parts ho (by rw [hp, hb]; rfl) ?_
  rw [hp, hb]
  exact h

end Go.Bas

/- a region that draws its order: a head whose operations read, and whose callees only add to memory; then a tail in one forced order (a store at the end) -/
namespace Go.Bas
open Go.RowKit

/-- the head in whatever order, then L -/
def Head (P : Program) (ops : Array Oper) (C : World → Prop) (n : Nat) (L : Array Bool → Act → Prop) : Nat → Array Bool → Act → Prop
  | 0, done, a => L done a
  | f + 1, done, a => Region.ready .any ops done ≠ [] ∧ ∀ i, i ∈ Region.ready .any ops done → i < n ∧ qOp P ops C i (Head P ops C n L f (done.setIfInBounds i true)) a

theorem Head.any {P : Program} {ops : Array Oper} {C : World → Prop} {n g : Nat} {L : Array Bool → Act → Prop} {Q : Exit → Act → World → Prop}
    (hL : ∀ done a w, C w → L done a → wpAny P .any ops Q g done a w) : ∀ (f : Nat) (done : Array Bool) (a : Act) (w : World), C w → Head P ops C n L f done a → wpAny P .any ops Q (g + f) done a w
  | 0, done, a, w, hw, h => hL done a w hw h
  | f + 1, _, _, _, hw, h => ⟨fun e => absurd e h.1, fun i hi => wpOp_of_qOp hw (fun a' w' hw' hk => Head.any hL f _ a' w' hw' hk) (h.2 i hi).2⟩

/-- what may come first may be taken first -/
theorem Head.front {P : Program} {ops : Array Oper} {C : World → Prop} {n i : Nat} {o : Oper} {v : Value} {L : Array Bool → Act → Prop}
    (hs : Region.sinkB .any ops n = true) (hc : Region.chainB .any ops n = true) (hn : n < ops.size) (hsel : ∀ (j : Nat) (o : Oper) cs b, ops[j]? = some o → o.op ≠ .select cs b)
    (ho : ops[i]? = some o) (hin : i < n) (hL : ∀ done a, L done a → ∀ j, j ∈ Region.ready .any ops done → n ≤ j) :
    ∀ (f : Nat) (done : Array Bool) (a : Act), HeadInv .any ops n done → i ∈ Region.ready .any ops done → YieldsIn P ops C o v a →
      (∀ j oj, ops[j]? = some oj → j ≠ i → done.getD j true = false → (∀ e ∈ oj.after, Region.binds .any e = true → e.on ≠ i) → o.apart ops oj = true) →
      Head P ops C n L f (done.setIfInBounds i true) (a.put o.dst v) → Head P ops C n L (f + 1) done a := by
  intro f
  induction f with
  | zero =>
    intro done a inv hr hy _ H
    refine ⟨List.ne_nil_of_mem hr, fun j hj => ?_⟩
    have hjn : j < n := Nat.lt_of_not_le fun h => tail_waits hs hc hn inv _ i rfl hin (mem_ready.1 hr).1 j h hj
    refine ⟨hjn, ?_⟩
    by_cases e : j = i
    · rw [e]; exact hy.qOp ho H
    · exact absurd (hL _ _ H j (ready_mono hj e)) (Nat.not_le.2 hjn)
  | succ f ih =>
    intro done a inv hr hy hfree H
    refine ⟨List.ne_nil_of_mem hr, fun j hj => ?_⟩
    have hjn : j < n := Nat.lt_of_not_le fun h => tail_waits hs hc hn inv _ i rfl hin (mem_ready.1 hr).1 j h hj
    refine ⟨hjn, ?_⟩
    by_cases e : j = i
    · rw [e]; exact hy.qOp ho H
    · obtain ⟨hjd, oj, hoj, hall⟩ := mem_ready.1 hj
      have hne : ∀ x ∈ oj.after, Region.binds .any x = true → x.on ≠ i := fun x hx hb he => by
        have h0 := hall x hx hb
        rw [he, getD_both (mem_ready.1 hr).1] at h0
        exact Bool.noConfusion h0
      refine qOp_mono (fun a' h3 => ih (done.setIfInBounds j true) a' (inv.set hj hjn) (ready_mono hr (Ne.symm e)) h3.1 (fun k ok hk hki hkd hkn => ?_) ?_)
        (qOp_put hoj (hfree j oj hoj e hjd hne) (fun cs b => hsel i o cs b ho) (fun cs b => hsel j oj cs b hoj) hy (H.2 j (ready_mono hj e)).2)
      · refine hfree k ok hk hki ?_ hkn
        by_cases hjk : j = k
        · rw [← hjk]; exact hjd
        · rwa [getD_set_ne true hjk] at hkd
      · rw [Array.setIfInBounds_comm _ _ e]; exact h3.2

theorem Head.lex {P : Program} {ops : Array Oper} {C : World → Prop} {n g : Nat} {Q : Act → Prop} (hsel : Region.noSelect ops = true)
    (hs : Region.sinkB .any ops n = true) (hc : Region.chainB .any ops n = true) (hn : n < ops.size) :
    ∀ (l : List Oper) (k : Nat) (done : Array Bool) (a : Act), (∀ j, j < l.length → l[j]? = ops[k + j]?) → k + l.length = n → HeadInv .any ops n done →
      Region.lexHead .any ops g l.length k done = true → wpQuiet P ops C Q l a → Head P ops C n (fun d' a' => Region.seqB .any ops g n d' = true ∧ Q a') l.length done a
  | [], k, _, _, _, hk, _, hB, h => by
    obtain rfl : k = n := by simpa using hk
    exact ⟨hB, h⟩
  | o :: l, k, done, a, hl, hk, inv, hB, h => by
    simp only [List.length_cons] at hk
    have h0 : ops[k]? = some o := by simpa using (hl 0 (by simp)).symm
    simp only [List.length_cons, Region.lexHead, Bool.and_eq_true] at hB
    have hr : k ∈ Region.ready .any ops done := by simpa using hB.1.1
    have hq : qOp P ops C k (wpQuiet P ops C Q l) a := by unfold qOp; simp only [h0]; exact h
    obtain ⟨v, hy, hK⟩ := yieldsIn_of_qOp h0 hq
    exact Head.front hs hc hn (Region.noSelect_spec hsel) h0 (by omega) (fun d' a' hL => seqB_ready hL.1) l.length done a inv hr hy (Region.free_spec h0 hB.1.2)
      (Head.lex hsel hs hc hn l (k + 1) _ _ (fun j hj => by have := hl (j + 1) (by simp; omega); simpa [Nat.add_assoc, Nat.add_comm 1 j] using this) (by omega) (inv.set hr (by omega)) hB.2 hK)

/-- THE LAW: the head (n operations) in the order of the text, in every world that memory may have been added to; then the tail, in that world -/
theorem wp_region_mono_tail {P : Program} {id : Nat} {Q : Exit → Act → World → Prop} {a : Act} {w : World} {l : List Oper} (B n : Nat) (hm : P.follows .mixedOrders = true) (hB : Region.lexTailB .any l.toArray n = true)
    (h : wpQuiet P l.toArray (fun w' => ∃ e : Ext B w, w' = e.1) (fun a' => ∀ e : Ext B w, wpList P l.toArray Q (l.drop n) a' e.1) (l.take n) a) : (Code.region id l.toArray true).wp P Q a w := by
  simp only [Region.lexTailB, Bool.and_eq_true, decide_eq_true_eq] at hB
  obtain ⟨⟨⟨⟨hsel, hn⟩, hs⟩, hc⟩, hlex⟩ := hB
  have hnl : n < l.length := by simpa using hn
  have htl : (l.take n).length = n := by simp; omega
  have hdl : (l.drop n).length = l.toArray.size - n := by simp
  have H := Head.lex (g := l.toArray.size - n) hsel hs hc hn (l.take n) 0 (Array.replicate l.toArray.size false) a
    (fun j hj => by have hj' : j < n := by omega
                    simp [hj']) (by omega)
    ⟨by simp, fun j oj _ hl => (by rw [getD_replicate_false] at hl; exact Bool.noConfusion hl), fun t _ ht => getD_in (by simpa using ht) (getD_replicate_false _ _)⟩ (by rw [htl]; exact hlex) h
  refine wp_region_any hm ?_
  have := Head.any (Q := Q) (g := l.toArray.size - n) (fun d a' w' hw' hL => by
    obtain ⟨e, rfl⟩ := hw'
    have := wpAny_of_seq (md := .any) (Q' := Q) (l.drop n) n d a' e.1 (fun j => by simp [List.getElem?_drop]) (by rw [hdl]; exact hL.1) (hL.2 e)
    rwa [hdl] at this) _ _ _ { w with drawn := w.drawn + 1 } ⟨⟨_, (Below.refl B w).drew⟩, rfl⟩ H
  rw [htl, show l.toArray.size - n + n = l.toArray.size by omega] at this
  exact this

end Go.Bas

namespace Go.Bas
open Go.ChangeShapes Go.WideShapes Go.Deep Go.RowKit

/-- a slice of structs of one-cell fields that came in, also as a field of something: at each place and field a cell, and its reading -/
theorem open_rows {H : Type} {enc : TypeId × Value → H} {P : Program} {w : World} {base : Nat} {spare : Nat → Bool} {held : Bool} {t e : TypeId} {fs : Array Field} {v : Value} {x : DataW H × List MemPlace} {fuel : Nat}
    (ht : P.underlying t = some (.slice e)) (he : P.underlying e = some (.struct fs)) (hone : oneCellFields P fs = true) (hC : P.cellsOf e = fs.size) (hpos : 0 < fs.size)
    (hf : DataW.trod enc P w base spare held fuel t [v] = some x) :
    ∃ (A : Option Addr) (n c : Nat), v = .slice A n c ∧ n ≤ c ∧ c ≤ maxLen ∧
      (0 < n → ∃ b off, A = some ⟨b, off, none⟩ ∧ b < w.heap.size ∧
        ∀ i, i < n → ∀ (j : Nat) (f : Field), fs[j]? = some f → ∃ u y m, w.cell? ⟨b, off + i * fs.size + j, none⟩ = some u ∧ DataW.trod enc P w base spare held m f.type [u] = some y) := by
  rcases open_slice ht hf with ⟨hcs, _⟩ | ⟨ad, len, cap, m, k, D, Pl, hcs, _, hl, hm, hmm, _, hi⟩
  · simp at hcs
    subst hcs
    exact ⟨none, 0, 0, rfl, Nat.le_refl _, Nat.zero_le _, fun h => absurd h (by omega)⟩
  · simp at hcs
    subst hcs
    refine ⟨_, _, _, rfl, hl, hm, fun hn => ?_⟩
    have hmn : len ≤ m := by rw [hmm]; split <;> omega
    have key : ∀ i, i < len → ∀ (j : Nat) (f : Field), fs[j]? = some f → ∃ u y q, w.cell? (ad.add (i * fs.size + j)) = some u ∧ DataW.trod enc P w base spare held q f.type [u] = some y := by
      intro i him j f hj
      obtain ⟨cs', hc, ht'⟩ := hi i (by omega)
      rw [hC] at hc
      obtain ⟨ys, n', hn', hy, hlen, hyl, hff⟩ := DataW.trod_struct he ht'
      obtain ⟨_, hcl, hat⟩ := World.cells?_some hc
      obtain ⟨ho, hk⟩ := hone_of hone j f hj
      have hjl : j < fs.size := (Array.getElem?_eq_some_iff.1 hj).1
      have hcell := hat j hjl
      have h1 := hff j f hj
      rw [ho, hk] at h1
      have hjl' : j < cs'.length := by omega
      have h2 : (cs'.drop j).take 1 = [cs'[j]] := by
        rw [List.drop_eq_getElem_cons hjl']; rfl
      rw [h2] at h1
      have hys : ys[j]? = some (ys[j]'(by omega)) := List.getElem?_eq_getElem (by omega)
      refine ⟨_, _, n', ?_, h1.trans hys⟩
      rw [← Go.Deep.add_add, hcell]
      exact List.getElem?_eq_getElem hjl'
    obtain ⟨b, off, spot⟩ := ad
    obtain ⟨u0, _, _, h0, _⟩ := key 0 hn 0 _ (Array.getElem?_eq_getElem hpos)
    have hs : spot = none := by
      have h00 : w.cell? ⟨b, off, spot⟩ = some u0 := by simpa [Addr.add] using h0
      cases spot with
      | none => rfl
      | some x =>
        simp [World.cell?] at h00
        split at h00 <;> simp at h00
    subst hs
    refine ⟨b, off, rfl, ?_, ?_⟩
    · have := World.block_lt_of_cell? w _ h0
      simpa [Addr.add] using this
    · intro i hin j f hj
      obtain ⟨u, y, q, hc, hy⟩ := key i hin j f hj
      refine ⟨u, y, q, ?_, hy⟩
      rw [← hc]
      unfold Addr.add
      split
      · rename_i h0; rw [Nat.add_assoc, h0]; rfl
      · simp [Nat.add_assoc]

end Go.Bas

namespace Go.Proofs.Ytkegfeghdnpajaa
open Go.RowKit Go.Bas Go.WideShapes
namespace Txs

/-- one try -/
structure Tx where
  (worker how seen stamp : Int) (fall sure : Bool) (reads writes : List (Int × Int))

/-- pairs in memory, below block B -/
def Pairs (w : World) (B : Nat) (s : Value) (l : List (Int × Int)) : Prop :=
  ∃ (A : Option Addr) (c : Nat), s = .slice A l.length c ∧ l.length ≤ maxLen ∧
    (0 < l.length → ∃ b off, A = some ⟨b, off, none⟩ ∧ b < B ∧
      ∀ i (h : i < l.length), w.cell? ⟨b, off + i * 2, none⟩ = some (.int .i64 l[i].1) ∧ w.cell? ⟨b, off + i * 2 + 1, none⟩ = some (.int .i64 l[i].2))

def row (t : Tx) (r w : Value) : List Value := [.int .i64 t.worker, .int .i64 t.how, .int .i64 t.seen, .int .i64 t.stamp, .bool t.fall, .bool t.sure, r, w]

/-- tries in memory, below block B -/
def Many (w : World) (B : Nat) (s : Value) (l : List Tx) : Prop :=
  ∃ (A : Option Addr) (c : Nat), s = .slice A l.length c ∧ l.length ≤ maxLen ∧
    (0 < l.length → ∃ b off, A = some ⟨b, off, none⟩ ∧ b < B ∧
      ∀ i (h : i < l.length), ∃ r q, w.rangeAt b (off + i * 8) (row l[i] r q) ∧ Pairs w B r l[i].reads ∧ Pairs w B q l[i].writes)

theorem Pairs.below {w w' : World} {B : Nat} {s : Value} {l : List (Int × Int)} (h : Pairs w B s l) (hb : Below B w w') : Pairs w' B s l := by
  obtain ⟨A, c, rfl, hm, hc⟩ := h
  refine ⟨A, c, rfl, hm, fun hn => ?_⟩
  obtain ⟨b, off, rfl, hlt, hc⟩ := hc hn
  refine ⟨b, off, rfl, hlt, fun i hi => ?_⟩
  obtain ⟨h0, h1⟩ := hc i hi
  exact ⟨by rw [hb.cell (by exact hlt)]; exact h0, by rw [hb.cell (by exact hlt)]; exact h1⟩

theorem Many.below {w w' : World} {B : Nat} {s : Value} {l : List Tx} (h : Many w B s l) (hb : Below B w w') : Many w' B s l := by
  obtain ⟨A, c, rfl, hm, hc⟩ := h
  refine ⟨A, c, rfl, hm, fun hn => ?_⟩
  obtain ⟨b, off, rfl, hlt, hc⟩ := hc hn
  refine ⟨b, off, rfl, hlt, fun i hi => ?_⟩
  obtain ⟨r, q, h0, h1, h2⟩ := hc i hi
  exact ⟨r, q, fun j v hj => by rw [hb.cell (by exact hlt)]; exact h0 j v hj, h1.below hb, h2.below hb⟩

theorem pairs_of {H : Type} {enc : TypeId × Value → H} {w : World} {base : Nat} {spare : Nat → Bool} {held : Bool} {v : Value} {x : DataW H × List MemPlace} {fuel : Nat}
    (h : DataW.trod enc Try.prog w base spare held fuel 89 [v] = some x) : ∃ l, Pairs w w.heap.size v l := by
  obtain ⟨A, n, c, rfl, hnc, hcm, hb⟩ := open_rows Try.underlying89 Try.underlying93 (by kernel_rfl) (by kernel_rfl) (by decide) h
  by_cases hn : n = 0
  · subst hn
    exact ⟨[], A, c, rfl, Nat.zero_le _, fun h => absurd h (by simp)⟩
  · obtain ⟨b, off, rfl, hlt, hc⟩ := hb (by omega)
    have key : ∀ i, ∃ x : Int × Int, i < n → w.cell? ⟨b, off + i * 2, none⟩ = some (.int .i64 x.1) ∧ w.cell? ⟨b, off + i * 2 + 1, none⟩ = some (.int .i64 x.2) := by
      intro i
      by_cases hi : i < n
      · obtain ⟨u0, y0, m0, c0, t0⟩ := hc i hi 0 _ rfl
        obtain ⟨u1, y1, m1, c1, t1⟩ := hc i hi 1 _ rfl
        obtain ⟨x0, e0, _⟩ := DataW.trod_int Try.underlying3 t0
        obtain ⟨x1, e1, _⟩ := DataW.trod_int Try.underlying3 t1
        simp at e0 e1
        subst e0 e1
        exact ⟨(x0, x1), fun _ => ⟨c0, c1⟩⟩
      · exact ⟨(0, 0), fun h => absurd h hi⟩
    refine ⟨(List.range n).map fun i => Classical.choose (key i), some ⟨b, off, none⟩, c, by simp, by simp; omega, fun _ => ⟨b, off, rfl, hlt, fun i hi => ?_⟩⟩
    have hi' : i < n := by simpa using hi
    simp only [List.getElem_map, List.getElem_range]
    exact Classical.choose_spec (key i) hi'

set_option maxRecDepth 100000 in
theorem many_of {H : Type} {enc : TypeId × Value → H} {w : World} {base : Nat} {spare : Nat → Bool} {held : Bool} {v : Value} {d : DataW H} {p : List MemPlace} {r : Reach} {b0 : Nat}
    (hv : Value.okWide Try.prog w r b0 37 v) (h : DataW.Trod enc Try.prog w base spare held 37 v d p) : ∃ l, Many w w.heap.size v l := by
  obtain ⟨a0, n0, c0, rfl⟩ := okWide_slice Try.underlying37 hv
  obtain ⟨fuel, hf⟩ := h
  obtain ⟨A, n, c, he, hnc, hcm, hb⟩ := open_rows Try.underlying37 Try.underlying91 (by kernel_rfl) (by kernel_rfl) (by decide) (v := .slice a0 n0 c0) hf
  rw [he]
  by_cases hn : n = 0
  · subst hn
    exact ⟨[], A, c, rfl, Nat.zero_le _, fun h => absurd h (by simp)⟩
  · obtain ⟨b, off, rfl, hlt, hc⟩ := hb (by omega)
    have key : ∀ i, ∃ x : Tx, i < n → ∃ r q, w.rangeAt b (off + i * 8) (row x r q) ∧ Pairs w w.heap.size r x.reads ∧ Pairs w w.heap.size q x.writes := by
      intro i
      by_cases hi : i < n
      · obtain ⟨u0, y0, m0, c0, t0⟩ := hc i hi 0 _ rfl
        obtain ⟨u1, y1, m1, c1, t1⟩ := hc i hi 1 _ rfl
        obtain ⟨u2, y2, m2, c2, t2⟩ := hc i hi 2 _ rfl
        obtain ⟨u3, y3, m3, c3, t3⟩ := hc i hi 3 _ rfl
        obtain ⟨u4, y4, m4, c4, t4⟩ := hc i hi 4 _ rfl
        obtain ⟨u5, y5, m5, c5, t5⟩ := hc i hi 5 _ rfl
        obtain ⟨u6, y6, m6, c6, t6⟩ := hc i hi 6 _ rfl
        obtain ⟨u7, y7, m7, c7, t7⟩ := hc i hi 7 _ rfl
        obtain ⟨x0, e0, _⟩ := DataW.trod_int Try.underlying3 t0
        obtain ⟨x1, e1, _⟩ := DataW.trod_int Try.underlying3 t1
        obtain ⟨x2, e2, _⟩ := DataW.trod_int Try.underlying3 t2
        obtain ⟨x3, e3, _⟩ := DataW.trod_int Try.underlying3 t3
        obtain ⟨x4, e4, _⟩ := DataW.trod_bool Try.underlying4 t4
        obtain ⟨x5, e5, _⟩ := DataW.trod_bool Try.underlying4 t5
        obtain ⟨l6, h6⟩ := pairs_of t6
        obtain ⟨l7, h7⟩ := pairs_of t7
        simp at e0 e1 e2 e3 e4 e5
        subst e0 e1 e2 e3 e4 e5
        refine ⟨⟨x0, x1, x2, x3, x4, x5, l6, l7⟩, fun _ => ⟨u6, u7, ?_, h6, h7⟩⟩
        rintro (_ | _ | _ | _ | _ | _ | _ | _ | j) v hv <;> simp [row] at hv <;> subst hv <;> assumption
      · exact ⟨⟨0, 0, 0, 0, false, false, [], []⟩, fun h => absurd h hi⟩
    refine ⟨(List.range n).map fun i => Classical.choose (key i), some ⟨b, off, none⟩, c, by simp, by simp; omega, fun _ => ⟨b, off, rfl, hlt, fun i hi => ?_⟩⟩
    have hi' : i < n := by simpa using hi
    simp only [List.getElem_map, List.getElem_range]
    exact Classical.choose_spec (key i) hi'

end Txs
end Go.Proofs.Ytkegfeghdnpajaa

/- a Go map from int to int that the call has made: what it has, as a function -/
namespace Go.Proofs.Ytkegfeghdnpajaa
open Go.RowKit Go.Bas Go.ChangeShapes Go.WideShapes
namespace IMap_

/-- a Go int -/
def In64 (a : Int) : Prop := -9223372036854775808 ≤ a ∧ a ≤ 9223372036854775807
theorem In64.wf {a : Int} (h : In64 a) : (Lit.int .i64 a).wf = true := by
  unfold In64 at h
  simp [Lit.wf, IntKind.min, IntKind.max, IntKind.signed, IntKind.bits]
  omega
theorem in64_of_wf {a : Int} (h : (Lit.int .i64 a).wf = true) : In64 a := by
  unfold In64
  simp [Lit.wf, IntKind.min, IntKind.max, IntKind.signed, IntKind.bits] at h
  omega

theorem keyed : Go.Maps.Keyed Try.prog 3 := Go.Maps.int_keyed Try.underlying3
theorem key_of {a : Int} (h : In64 a) : keyOf Try.prog 3 (.int .i64 a) = some (.int .i64 a) := Go.Maps.keyOf_int_mk Try.underlying3 h.wf
theorem elem_of {a : Int} (h : In64 a) : plainElem (H := Unit) Try.prog 3 (.int .i64 a) = some (.lit (.int .i64 a), []) := plainElem_int Try.underlying3 h.wf
theorem zero_of (w : World) : (zeroValue 3).run Try.prog w = .ok (.int .i64 0) w := by
  have h : (Try.prog.info? 3).map (·.zero) = some (some (.int .i64 0)) := by kernel_rfl
  obtain ⟨i, hi, hz⟩ := Option.map_eq_some_iff.1 h
  simp [zeroValue, typeInfo, hi, hz]

/-- block b is a map of at most n keys that has f -/
def IMap (w : World) (b n : Nat) (f : Int → Option Int) : Prop :=
  ∃ D : DataW Unit, w.ownsMap Try.prog 3 (plainElem Try.prog 3) b n D ∧ (∀ a, In64 a → Maps.has D (.int .i64 a) = (f a).isSome) ∧
    (∀ a, In64 a → D.atKey (.int .i64 a) (.lit (.int .i64 0)) = .lit (.int .i64 ((f a).getD 0)))

theorem IMap.made (w : World) : IMap (w.alloc (.map #[] 0)) w.heap.size 0 (fun _ => none) :=
  ⟨.map [], World.ownsMap_made w _ _ _, fun a _ => rfl, fun a _ => rfl⟩
theorem IMap.block {w w' : World} {b n : Nat} {f : Int → Option Int} (h : IMap w b n f) (e : w'.heap[b]? = w.heap[b]?) : IMap w' b n f := by
  obtain ⟨D, ⟨es, clock, h1, h2⟩, h3⟩ := h
  exact ⟨D, ⟨es, clock, e.trans h1, h2⟩, h3⟩
theorem IMap.lt {w : World} {b n : Nat} {f : Int → Option Int} (h : IMap w b n f) : b < w.heap.size := by
  obtain ⟨D, h1, _⟩ := h
  exact h1.lt
theorem IMap.look {w : World} {b n : Nat} {f : Int → Option Int} (h : IMap w b n f) {a : Int} (ha : In64 a) :
    (Instr.lookup 119 (.map (some b)) (.int .i64 a) true).run Try.prog w = .ok (.tuple #[.int .i64 ((f a).getD 0), .bool (f a).isSome]) w := by
  obtain ⟨D, h1, h2, h3⟩ := h
  obtain ⟨v, ps, hrun, hv⟩ := h1.look_ok keyed Try.underlying119 (zero_of w) (elem_of (a := 0) (by unfold In64; omega)) (key_of ha)
  rw [h3 a ha] at hv
  obtain ⟨c, rfl, hc, _⟩ := plainElem_int_inv Try.underlying3 hv
  have : (f a).getD 0 = c := by simpa using congrArg Prod.fst hc
  rw [h2 a ha] at hrun
  rw [this]
  exact hrun
theorem IMap.look1 {w : World} {b n : Nat} {f : Int → Option Int} (h : IMap w b n f) {a : Int} (ha : In64 a) :
    (Instr.lookup 119 (.map (some b)) (.int .i64 a) false).run Try.prog w = .ok (.int .i64 ((f a).getD 0)) w := by
  obtain ⟨D, h1, h2, h3⟩ := h
  obtain ⟨c, hrun, hc, _⟩ := h1.lookup_int keyed Try.underlying119 Try.underlying3 (zero_of w) (key_of ha)
  rw [h3 a ha] at hc
  have : (f a).getD 0 = c := by simpa using hc
  rw [this]
  exact hrun
theorem IMap.set {w : World} {b n : Nat} {f : Int → Option Int} (h : IMap w b n f) (hn : n < 1000000) {a x : Int} (ha : In64 a) (hx : In64 x) :
    ∃ w', (Instr.mapUpdate 119 (.map (some b)) (.int .i64 a) (.int .i64 x)).run Try.prog w = .ok () w' ∧ IMap w' b (n + 1) (fun k => if k = a then some x else f k) ∧ w.grownBy w' (some b) := by
  obtain ⟨D, h1, h2, h3⟩ := h
  obtain ⟨w', hrun, hown, hg⟩ := h1.update keyed Try.underlying119 (show n < maxLen by unfold maxLen; omega) (key_of ha) (elem_of hx)
  have hk : WideAt.IsKeyLit (.int .i64 a) := trivial
  refine ⟨w', hrun, ⟨_, hown, fun k hk' => ?_, fun k hk' => ?_⟩, hg⟩
  · by_cases e : k = a
    · subst e; rw [Maps.has_put_same h1.isMap hk]; simp
    · rw [Maps.has_put_other (by simpa using e)]; simp [e, h2 k hk']
  · by_cases e : k = a
    · subst e; rw [Maps.atKey_put_same h1.isMap hk]; simp
    · rw [Maps.atKey_put_other (by simpa using e)]; simp [e, h3 k hk']

end IMap_
end Go.Proofs.Ytkegfeghdnpajaa
