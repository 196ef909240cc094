import Derived.Test.YtfmjcinhjbihoabVMem
/- rows of words: cells and stores; structs of ints that came in -/
namespace Go.Bas
open Go.ChangeShapes Go.WideShapes Go.Deep Go.RowKit
/-- a struct of ints, by value, that came in -/
theorem open_ints_row {H : Type} {enc : TypeId × Value → H} {P : Program} {w : World} {base : Nat} {spare : Nat → Bool} {held : Bool} {t it : TypeId} {fs : Array Field} {v : Value} {d : DataW H} {p : List MemPlace}
    (ht : P.underlying t = some (.struct fs)) (hone : oneCellFields P fs = true) (hit : P.underlying it = some (.int .i64)) (hall : fs.toList.all (fun f => f.type == it) = true)
    (hok : ∃ cs, v = .agg cs ∧ cs.size = P.cellsOf t) (h : DataW.Trod enc P w base spare held t v d p) :
    ∃ cs : Array Value, v = .agg cs ∧ cs.size = P.cellsOf t ∧ ∀ j, j < fs.size → ∃ x : Int, cs[j]? = some (.int .i64 x) ∧ (Lit.int .i64 x).wf = true := by
  obtain ⟨cs, rfl, hsz⟩ := hok
  obtain ⟨fuel, hf⟩ := h
  obtain ⟨ys, n, rfl, hy, hlen, hyl, hff⟩ := DataW.trod_struct ht hf
  refine ⟨cs, rfl, hsz, fun j hj => ?_⟩
  have hfj : fs[j]? = some fs[j] := Array.getElem?_eq_getElem hj
  obtain ⟨ho, hk⟩ := hone_of hone j _ hfj
  have h1 := hff j _ hfj
  rw [ho, hk] at h1
  have hty : fs[j].type = it := by
    have := List.all_eq_true.1 hall fs[j] (by simp)
    simpa using this
  rw [hty, List.getElem?_eq_getElem (by omega)] at h1
  obtain ⟨x, hx, _, hwf⟩ := DataW.trod_int hit h1
  refine ⟨x, ?_, hwf⟩
  have e : (Value.cells (.agg cs)).toList = cs.toList := rfl
  have h2 : cs.toList[j]? = some (.int .i64 x) := by
    have h3 : ((cs.toList.drop j).take 1)[0]? = some (.int .i64 x) := by
      have hx' : (cs.toList.drop j).take 1 = [.int .i64 x] := hx
      rw [hx']; rfl
    simpa using h3
  simpa using h2
theorem One.at {w : World} {c : Nat} (h : w.heap.size = c) (v : Value) (t : TypeId) : One (w.alloc (.cells #[v] t)) c v t := h ▸ One.new w v t
end Go.Bas
namespace Go.Proofs.Ytfmjcinhjbihoab
open Go.RowKit Go.Bas SorPlain Go.Sor IMap_ VIn VPlain MapI
namespace View

theorem TW.full {w : World} {base g : Nat} {l : List Int} (hg : w.heap[g]? = some (.cells (l.map (Value.int .i64)).toArray 3 (0, 0))) (hb : base ≤ g) (hn : l.length ≤ maxLen) : TW w base l (.slice (some ⟨g, 0, none⟩) l.length l.length) :=
  ⟨_, _, rfl, by simp, .inr ⟨g, l.length, _, rfl, hb, hg, Nat.le_refl _, hn, by simp, by simp [List.take_of_length_le]⟩⟩
theorem TW.shape {w : World} {base : Nat} {l : List Int} {A : Option Addr} {n c : Nat} (h : TW w base l (.slice A n c)) (hpos : 0 < l.length) : ∃ g, A = some ⟨g, 0, none⟩ ∧ base ≤ g ∧ n = l.length ∧ g < w.heap.size := by
  obtain ⟨A', c', e, hown⟩ := h
  injection e with e1 e2 e3
  subst e1 e2 e3
  rcases hown.2 with ⟨_, h'⟩ | ⟨g, _, _, h', hq', hh, _⟩
  · omega
  · injection h' with h'
    exact ⟨g, h', hq', rfl, (Array.getElem?_eq_some_iff.1 hh).1⟩
theorem TW.cell {w : World} {base g : Nat} {l : List Int} {n c : Nat} (h : TW w base l (.slice (some ⟨g, 0, none⟩) n c)) {k : Nat} (hk : k < l.length) : w.cell? ⟨g, k, none⟩ = some (.int .i64 (l.getD k 0)) := by
  obtain ⟨A', c', e, hown⟩ := h
  injection e with e1 e2 e3
  subst e1 e2 e3
  rw [hown.cellAt k (by omega)]
  simp [hk]
theorem TW.frozen {w : World} {base g : Nat} {l : List Int} {n c : Nat} (h : TW w base l (.slice (some ⟨g, 0, none⟩) n c)) (k : Nat) : w.frozen? ⟨g, k, none⟩ = false := by
  obtain ⟨A', c', e, hown⟩ := h
  injection e with e1 e2 e3
  subst e1 e2 e3
  exact hown.frozenAt k
theorem TW.stored {w : World} {base g : Nat} {l : List Int} {n c : Nat} (h : TW w base l (.slice (some ⟨g, 0, none⟩) n c)) (k : Nat) (y : Int) : TW (w.setCell ⟨g, k, none⟩ (.int .i64 y)) base (l.set k y) (.slice (some ⟨g, 0, none⟩) n c) := by
  obtain ⟨A', c', e, hown⟩ := h
  injection e with e1 e2 e3
  subst e1 e2 e3
  refine ⟨some ⟨g, 0, none⟩, c, by simp, ?_⟩
  have := (hown.stored k (.int .i64 y)).1
  simpa [List.map_set] using this
theorem TW.len {w : World} {base : Nat} {l : List Int} {A : Option Addr} {n c : Nat} (h : TW w base l (.slice A n c)) : n = l.length := by
  obtain ⟨A', c', e, hown⟩ := h
  injection e
theorem TW.chg {w w' : World} {base : Nat} {l : List Int} {v : Value} {S : Nat → Prop} (h : TW w base l v) (hc : Chg S w w') (hs : ∀ k, base ≤ k → ¬ S k) : TW w' base l v :=
  h.kept fun k hk => hc.block k (h.own_lt hk) (hs k (h.block hk))

/-- make([]int, n) -/
theorem make_ints (n : Nat) (hn : n ≤ 1000000) (w : World) :
    (Instr.makeSlice 22 (.int .i64 (n : Int)) (.int .i64 (n : Int))).run Try.prog w = .ok (.slice (some ⟨w.heap.size, 0, none⟩) n n) (w.alloc (.cells ((List.replicate n (0 : Int)).map (Value.int .i64)).toArray 3)) := by
  have hinfo : (Try.prog.info? 3).map (fun i => (i.zero, i.size, i.bytes)) = some (some (.int .i64 0), 1, 8) := by kernel_rfl
  obtain ⟨i, hi, hzz⟩ := Option.map_eq_some_iff.1 hinfo
  simp only [Prod.mk.injEq] at hzz
  obtain ⟨hz, hs, hb⟩ := hzz
  have hr := run_make (P := Try.prog) w 22 3 i _ Try.underlying22 hi hz .i64 .i64 n n (by omega) (Int.le_refl _) (by rw [hb]; omega) (by omega)
  simp only [Int.toNat_natCast, hs] at hr
  have e : madeCells (Value.cells (.int .i64 0)) (n * 1) = ((List.replicate n (0 : Int)).map (Value.int .i64)).toArray := by
    apply Array.ext_getElem?
    intro j
    have hc : Value.cells (.int .i64 0) = #[.int .i64 0] := rfl
    rw [hc]
    by_cases hj : j < n
    · simp [madeCells, hj, Nat.mod_one]
    · rw [Array.getElem?_eq_none (by simp [madeCells]; omega), Array.getElem?_eq_none (by simp; omega)]
  rw [e] at hr
  exact hr

end View
end Go.Proofs.Ytfmjcinhjbihoab
