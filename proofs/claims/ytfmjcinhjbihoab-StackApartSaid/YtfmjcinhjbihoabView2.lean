import Derived.Test.YtfmjcinhjbihoabView
import Derived.Recover
import Derived.Defers
namespace Go.Bas
open Go.RowKit

/-- all orders of a drawn region -/
def orders (ops : Array Oper) : Nat → Array Bool → List Nat → List (List Nat)
  | 0, _, acc => [acc.reverse]
  | fuel + 1, listed, acc =>
    if Region.ready .any ops listed = [] then [acc.reverse] else (Region.ready .any ops listed).flatMap fun i => orders ops fuel (listed.setIfInBounds i true) (i :: acc)
theorem go_orders (ops : Array Oper) : ∀ (fuel t : Nat) (listed : Array Bool) (acc : List Nat), Region.linearise.go .any ops fuel t listed acc ∈ orders ops fuel listed acc
  | 0, t, listed, acc => by simp [Region.linearise.go, orders]
  | fuel + 1, t, listed, acc => by
    simp only [Region.linearise.go, orders]
    change (match (Region.ready .any ops listed)[t % (Region.ready .any ops listed).length]? with
      | some i => Region.linearise.go .any ops fuel (t / (Region.ready .any ops listed).length) (listed.setIfInBounds i true) (i :: acc)
      | none => acc.reverse) ∈ _
    cases hi : (Region.ready .any ops listed)[t % (Region.ready .any ops listed).length]? with
    | none =>
      have hnil : Region.ready .any ops listed = [] := by
        cases hr : Region.ready .any ops listed with
        | nil => rfl
        | cons x xs =>
          rw [hr] at hi
          have hlt : t % (x :: xs).length < (x :: xs).length := Nat.mod_lt _ (by simp)
          simp at hi
          simp at hlt
          omega
      simp [hnil]
    | some i =>
      have hm := List.mem_of_getElem? hi
      rw [if_neg (List.ne_nil_of_mem hm)]
      exact List.mem_flatMap.2 ⟨i, hm, go_orders ops fuel _ _ _⟩

/-- a drawn region of a deferred function -/
theorem wpS_region_orders {P : Program} {Q : Exit → Act → List Frame → World → Prop} {a : Act} {cs : List Frame} {w : World} {id : Nat} {ops : Array Oper} (hm : P.follows .mixedOrders = true) (L : List (List Nat))
    (hL : orders ops ops.size (Array.replicate ops.size false) [] = L) (h : ∀ l, l ∈ L → wpOpsS P ops Q l a cs w.drew) : (Code.region id ops true).wpS P Q a cs w := by
  intro b k hb hr
  have hl : Region.schedule (P.follows .mixedOrders) ops (w.tape w.drawn (.order b.fn id)) ∈ L := by
    simp only [Region.schedule, hm, Bool.true_or, if_true]
    rw [← hL]
    exact go_orders ops _ _ _ _
  obtain ⟨e, a', cs', w', q, r⟩ := wp_opsS _ a cs _ (h _ hl) b k hb hr
  exact ⟨e, a', cs', w', q, .of_steps (.one step_region_draw) r⟩

end Go.Bas
namespace Go.Proofs.Ytfmjcinhjbihoab
open Go.RowKit Go.Bas SorPlain Go.Sor IMap_ VIn VPlain MapI
namespace View

/-- what recover hands over -/
def caught : Option Int → Value
  | none => .nilIface
  | some a => .iface 75 (.int .i64 a)

theorem VWs.stop {A : Ask} {P : Nat → Prop} {bv bm : Nat} {st : Bool} {qs : List Int} {m : M} {w : World} (h : VWs A P bv bm st qs m w) : VWs A P bv bm false qs m (w.setCell ⟨bv, 2, none⟩ (.bool false)) ∧ Kept P w (w.setCell ⟨bv, 2, none⟩ (.bool false)) := by
  obtain ⟨S, v, h, hP⟩ := h
  have hc : Chg (fun k => k = bv) w (w.setCell ⟨bv, 2, none⟩ (.bool false)) := Chg.setCell _ _ _ rfl
  refine ⟨⟨S, v, ⟨A.keep _ _ _ _ _ h.inv hc (fun k hk => (h.apart k hk).2) (fun k hk hr => by have := A.rlt k hr; have := h.low.1; omega), ?_, h.map.chg hc (fun k hk e => h.own (by rw [← e]; exact hk)), h.apart, h.own, h.low, h.rng⟩, fun k hk => ⟨by have := (hP k hk).1; have := hc.size; omega, (hP k hk).2⟩⟩, hc.mono (fun k _ e hp => (hP k hp).2.2.2 e)⟩
  rw [setCell_row h.row]
  exact setRow_same h.row

theorem over_any {A : Ask} {P : Nat → Prop} {bv bm : Nat} {qs : List Int} {m : M} {w : World} (h : VWs A P bv bm true qs m w) (p : Option Int) :
    Calls Try.prog 34 #[.pointer (some ⟨bv, 0, none⟩), caught p] w fun e w' => e = .returned (.int .i64 (p.getD (-1))) ∧ VWs A P bv bm false qs m w' ∧ Kept P w w' := by
  have fin := Lib.hid h.stop
  obtain ⟨S, v, h, hP⟩ := h
  have k2 : w.cell? ⟨bv, 2, none⟩ = some (.bool true) := by rw [cell_of_row _ _ _ _ _ _ h.row]; rfl
  have hf := row_frozen h.row 2
  clear h hP
  cases p with
  | none =>
    simp only [caught]
    go_enter Try.func34, Try.ntmps34
    go_wp2
    go_ret
    exact ⟨rfl, fin.out⟩
  | some a =>
    simp only [caught]
    have hta : ∀ w, (Instr.typeAssert (.iface 75 (.int .i64 a)) 20 75 true).run Try.prog w = .ok (.tuple #[.int .i64 a, .bool true]) w := fun w => by kernel_rfl
    go_enter Try.func34, Try.ntmps34
    go_wp2
    go_ret
    exact ⟨rfl, fin.out⟩

end View
end Go.Proofs.Ytfmjcinhjbihoab
