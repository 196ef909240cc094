import Derived.Test.YtfmjcinhjbihoabVMem
/- plain words that a program is run over (view.plain): what it needed of them -/
namespace Go.Proofs.Ytfmjcinhjbihoab
open Go.RowKit Go.Bas SorPlain Go.Sor IMap_ VIn VPlain MapI
open Go.WideShapes Go.Deep
namespace View

theorem short : ∀ (n : Nat) (l : List Int), l.Nodup → (∀ x ∈ l, 0 ≤ x ∧ x < n) → l.length ≤ n
  | 0, l, _, h => by
    cases l with
    | nil => simp
    | cons x r => have := h x (by simp); omega
  | n + 1, l, hd, h => by
    have h1 := short n (l.erase (n : Int)) (hd.erase _) (fun x hx => by
      have := h x (List.mem_of_mem_erase hx)
      have hne : x ≠ (n : Int) := fun e => by subst e; exact hd.not_mem_erase hx
      omega)
    rw [List.length_erase] at h1
    split at h1 <;> omega

/-- what words answer -/
def fW (words : List Int) (a : Int) : Option Int := if 0 ≤ a ∧ a < words.length then some (words.getD a.toNat 0) else none
/-- one word more that was asked for -/
def need1 (words : List Int) (N : M) (a : Int) : M := if a ∈ keys N then N else N ++ [(a, words.getD a.toNat 0)]
def need (words : List Int) (qs : List Int) : M := qs.foldl (need1 words) []
theorem need_snoc (words qs : List Int) (a : Int) : need words (qs ++ [a]) = need1 words (need words qs) a := by simp [need, List.foldl_append]

/-- the words' state in memory: p: the struct; g: what was asked for -/
def IW (sw : Value) (words : List Int) (B p g : Nat) (qs : List Int) (S : Nat → Prop) (w : World) : Prop :=
  Words w B sw words ∧ B ≤ p ∧ B ≤ g ∧ g < p ∧ ∃ v, w.heap[p]? = some (.cells #[sw, .map (some g), v] 47 (0, 0)) ∧ IMap w g (need words qs).length (fun a => if a ∈ keys (need words qs) then some 1 else none) ∧
    Told w (p + 1) (need words qs) v ∧ (keys (need words qs)).Nodup ∧ (∀ k ∈ keys (need words qs), 0 ≤ k ∧ k < words.length) ∧ S = (fun k => k = p ∨ k = g ∨ v.ownBlock = some k)

theorem IW.lt {sw : Value} {words : List Int} {B p g : Nat} {qs : List Int} {S : Nat → Prop} {w : World} (h : IW sw words B p g qs S w) : ∀ k, S k → B ≤ k ∧ k < w.heap.size := by
  obtain ⟨_, h1, h2, _, v, h3, h4, h5, _, _, rfl⟩ := h
  rintro k (rfl | rfl | hk)
  · exact ⟨h1, (Array.getElem?_eq_some_iff.1 h3).1⟩
  · exact ⟨h2, h4.lt⟩
  · exact ⟨by have := h5.block hk; omega, h5.own_lt hk⟩
theorem IW.keep {sw : Value} {words : List Int} {B p g : Nat} {qs : List Int} {S T : Nat → Prop} {w w' : World} (h : IW sw words B p g qs S w) (hc : Chg T w w') (hT : ∀ k, S k → ¬ T k) (hB : ∀ k, T k → ¬ (blk sw k ∧ k < B)) : IW sw words B p g qs S w' := by
  obtain ⟨h0, h1, h2, hpg, v, h3, h4, h5, h6, h7, rfl⟩ := h
  refine ⟨h0.keep1 (fun k hk hB' hl => hc.block k hl (fun ht => hB k ht ⟨hk, hB'⟩)), h1, h2, hpg, v, ?_, h4.block (hc.block g h4.lt (hT g (.inr (.inl rfl)))), h5.kept (fun k hk => hc.block k (h5.own_lt hk) (hT k (.inr (.inr hk)))), h6, h7, rfl⟩
  rw [hc.block p (Array.getElem?_eq_some_iff.1 h3).1 (hT p (.inl rfl))]
  exact h3

theorem wordsD_in {l : List Int} (h : WIn l) (i : Nat) : In64 (l.getD i 0) := by
  rw [List.getD_eq_getElem?_getD]
  cases e : l[i]? with
  | none => unfold In64; simp
  | some x => exact h x (List.mem_of_getElem? e)

theorem wpList_add' {ops : Array Oper} {rest : List Oper} {o : Oper} {a : Act} {w : World} {Q : Exit → Act → World → Prop} (hgd : o.guard = none) (s x : Operand)
    (ho : o.op = .call { callee := .builtin .append, args := #[s, x], argTypes := #[26, 26] })
    (base : Nat) (out : M) (v : Value) (hs : a.eval s = v) (h : Told w base out v) (hn : out.length ≤ 10000) (hb : base ≤ w.heap.size) (b : Nat) (k y : Int) (hx : a.eval x = .slice (some ⟨b, 0, none⟩) 1 1)
    (hrow : w.heap[b]? = some (.cells #[.int .i64 k, .int .i64 y] 52 (0, 0)))
    (H : ∀ v' w', Told w' base (out ++ [(k, y)]) v' → w.grownBy w' v.ownBlock → (v'.ownBlock = v.ownBlock ∨ v'.ownBlock = some w.heap.size) → wpList Try.prog ops Q rest (a.put o.dst v') w') : wpList Try.prog ops Q (o :: rest) a w := by
  obtain ⟨i0, hi0, hz0, hz1, hz2⟩ := info_parts infoPair
  obtain ⟨A, cap, rfl, hown⟩ := h
  refine wpList_append_any hgd s x 26 ho base 52 i0 (.agg #[.int .i64 0, .int .i64 0]) 2 16 Try.underlying26 hi0 hz0 hz1 hz2 rfl (by decide) _ out.length (flat (vals out)) hs hown (some ⟨b, 0, none⟩) 1 1 [.int .i64 k, .int .i64 y] hx rfl ?_ ?_ ?_ ?_ hb ?_
  · intro _
    refine ⟨_, rfl, fun j u hj => ?_⟩
    match j, hj with
    | 0, hj => simp at hj; subst hj; simp [Addr.add, cell_of_row _ _ _ _ _ _ hrow]
    | 1, hj => simp at hj; subst hj; simp [Addr.add, cell_of_row _ _ _ _ _ _ hrow]
    | j + 2, hj => simp at hj
  · simp [Value.oneCell']
  · unfold maxLen; omega
  · omega
  · intro v' w' hown' hg hb'
    obtain ⟨A1, c1, rfl⟩ := own_slice hown'
    refine H _ w' ⟨A1, c1, by simp, ?_⟩ hg hb'
    rw [flat_snoc]
    simpa using hown'

set_option maxRecDepth 100000 in
set_option maxHeartbeats 4000000 in
theorem ask_plain {sw : Value} {words : List Int} (hwn : words.length ≤ 1000) (hwi : WIn words) {B p g : Nat} {qs : List Int} {S : Nat → Prop} {w : World} (h : IW sw words B p g qs S w) {a : Int} (h0 : 0 ≤ a) (ha : In64 a) :
    Calls Try.prog 18 #[.pointer (some ⟨p, 0, none⟩), .int .i64 a] w fun e w' => e = .returned (.tuple #[.int .i64 ((fW words a).getD 0), .bool (fW words a).isSome]) ∧
      ∃ S', IW sw words B p g (if (fW words a).isSome then qs ++ [a] else qs) S' w' ∧ Chg S w w' ∧ (∀ k, S' k → S k ∨ w.heap.size ≤ k) := by
  have HI := Lib.hid h
  obtain ⟨hW, hBp, hBg, hpg, v, hp, hm, ht, hnd, hin, rfl⟩ := h
  obtain ⟨A, c, rfl, m1, _⟩ := id hW
  obtain ⟨n, hn⟩ : ∃ n, words.length = n := ⟨_, rfl⟩
  have HN := Lib.hid hn
  have k0 : w.cell? ⟨p, 0, none⟩ = some (.slice A words.length c) := by rw [cell_of_row _ _ _ _ _ _ hp]; rfl
  have k1 : w.cell? ⟨p, 1, none⟩ = some (.map (some g)) := by rw [cell_of_row _ _ _ _ _ _ hp]; rfl
  have k2 : w.cell? ⟨p, 2, none⟩ = some v := by rw [cell_of_row _ _ _ _ _ _ hp]; rfl
  rw [hn] at k0 hwn m1 HI hW hp ⊢
  have m1 : n ≤ 9223372036854775807 := m1
  by_cases hlt : a < n
  · obtain ⟨k, rfl⟩ : ∃ k : Nat, a = k := ⟨a.toNat, by omega⟩
    have hkl : k < words.length := by omega
    have hf : fW words k = some words[k] := by
      unfold fW
      rw [if_pos ⟨by omega, by omega⟩]
      simp [hkl]
    rw [hf]
    obtain ⟨b, off, rfl, hb, hcell⟩ := word_row hW hkl
    obtain ⟨x, hx⟩ : ∃ x, words[k] = x := ⟨_, rfl⟩
    have hxi : In64 x := hx ▸ hwi _ (List.getElem_mem hkl)
    rw [hx] at hcell ⊢
    have hgx : words.getD (k : Int).toNat 0 = x := by simp [hkl, hx]
    have lk := hm.look1 ha
    simp only [Option.isSome_some, if_true, Option.getD_some]
    obtain ⟨N, hN⟩ : ∃ N, need words qs = N := ⟨_, rfl⟩
    have hsn : need words (qs ++ [(k : Int)]) = need1 words N k := by rw [need_snoc, hN]
    rw [hN] at hm ht hnd hin lk
    by_cases hk : (k : Int) ∈ keys N
    · have e1 : need1 words N k = N := by unfold need1; rw [if_pos hk]
      rw [if_pos hk] at lk
      have lk : (Instr.lookup 45 (.map (some g)) (.int .i64 k) false).run Try.prog w = .ok (.int .i64 1) w := lk
      have fin : Hid (IW (.slice (some ⟨b, off, none⟩) n c) words B p g (qs ++ [(k : Int)]) (fun k => k = p ∨ k = g ∨ v.ownBlock = some k) w) := by
        have hI := HI.out
        unfold IW at hI ⊢
        rw [hsn, e1]
        rw [hN] at hI
        exact hI
      clear hW hp hm ht hnd hin HI hN hsn e1 hf hgx hx hk
      go_enter Try.func18, Try.ntmps18
      go_wp2
      go_ret2
      exact ⟨rfl, _, fin.out, Chg.refl _ _, fun k hk => .inl hk⟩
    · have e1 : need1 words N k = N ++ [((k : Int), x)] := by unfold need1; rw [if_neg hk, hgx]
      rw [if_neg hk] at lk
      have lk : (Instr.lookup 45 (.map (some g)) (.int .i64 k) false).run Try.prog w = .ok (.int .i64 0) w := lk
      have hnl : N.length ≤ 1000 := by
        have := short n (keys N) hnd (fun x hx => by have := hin x hx; omega)
        have e : (keys N).length = N.length := by simp [keys]
        omega
      have hpl : p < w.heap.size := (Array.getElem?_eq_some_iff.1 hp).1
      have h1i : In64 1 := by unfold In64; omega
      have fin : Hid (∀ w4 v4, Words w4 B (.slice (some ⟨b, off, none⟩) n c) words → w4.heap[p]? = some (.cells #[.slice (some ⟨b, off, none⟩) n c, .map (some g), v4] 47 (0, 0)) →
          IMap w4 g (N.length + 1) (fun y => if y = (k : Int) then some 1 else if y ∈ keys N then some 1 else none) → Told w4 (p + 1) (N ++ [((k : Int), x)]) v4 →
          IW (.slice (some ⟨b, off, none⟩) n c) words B p g (qs ++ [(k : Int)]) (fun k => k = p ∨ k = g ∨ v4.ownBlock = some k) w4) := fun w4 v4 a1 a2 a3 a4 => by
        have ek : keys (N ++ [((k : Int), x)]) = keys N ++ [(k : Int)] := by simp [keys]
        unfold IW
        rw [hsn, e1, ek]
        refine ⟨a1, hBp, hBg, hpg, v4, a2, ?_, a4, ?_, ?_, rfl⟩
        · have e : (fun a => if a ∈ keys N ++ [(k : Int)] then some (1 : Int) else none) = (fun y => if y = (k : Int) then some 1 else if y ∈ keys N then some 1 else none) := by
            funext y
            by_cases h1 : y = k
            · simp [h1]
            · simp [h1]
          rw [e]; simpa using a3
        · rw [List.nodup_append]
          refine ⟨hnd, by simp, ?_⟩
          intro a ha b hb e
          simp at hb
          subst e; subst hb
          exact hk ha
        · intro y hy
          rcases List.mem_append.1 hy with hy | hy
          · exact hin y hy
          · simp at hy; subst hy; omega
      have HM := Lib.hid hm; have HT := Lib.hid ht; have HW := Lib.hid hW; have HP := Lib.hid hp
      have HKI := Lib.hid ha; have H1I := Lib.hid h1i
      have hgl := hm.lt
      clear hW hm ht hnd hin HI hN hsn e1 hf hgx hx hk hp ha h1i hxi
      go_enter Try.func18, Try.ntmps18
      go_wp2_with (first
        | (refine wpList_mapset rfl _ _ _ rfl g N.length _ rfl HM.out (by omega) k 1 rfl rfl HKI.out H1I.out ?_; intro w1 i1 g1
           have I1 := Lib.hid i1
           have P1 : Hid (w1.heap[p]? = some (.cells #[.slice (some ⟨b, off, none⟩) n c, .map (some g), v] 47 (0, 0))) := by rw [Hid, g1.block p hpl (by simp; omega)]; exact HP.out
           have C1 : Hid (Chg (fun k => k = p ∨ k = g ∨ v.ownBlock = some k) w w1) := Chg.grown g1 (fun k hk => by injection hk with hk; exact .inr (.inl hk.symm))
           have k5 : w1.cell? ⟨p, 1, none⟩ = some (.map (some g)) := by rw [cell_of_row _ _ _ _ _ _ P1.out]; rfl
           have k6 : w1.cell? ⟨p, 2, none⟩ = some v := by rw [cell_of_row _ _ _ _ _ _ P1.out]; rfl
           have T1 : Hid (View.Told w1 (p + 1) N v) := HT.out.kept (fun j hj => g1.block j (HT.out.own_lt hj) (by have := HT.out.block hj; simp; omega))
           have hg1 : g < w1.heap.size := i1.lt
           have hp1 : p < w1.heap.size := by have := g1.size; omega
           have W1 : Hid (Words w1 B (.slice (some ⟨b, off, none⟩) n c) words) := HW.out.keep (fun j hj hl => g1.block j hl (by simp; omega))
           clear i1 g1 lk k0 k1 k2)
        | (refine wpList_pair1 rfl _ rfl _ _ rfl ?_)
        | (at_builtin; refine wpList_add' rfl _ _ rfl (p + 1) N v rfl (T1.out.kept (fun j hj => alloc_heap _ _ _ (T1.out.own_lt hj))) (by omega) (by simp; omega) _ k x rfl (new_row _ _ _) ?_; intro v4 w4 t4 g4 o4
           obtain ⟨A4, c4, rfl, _⟩ := id t4
           have T4 := Lib.hid t4; have G4 := Lib.hid g4; have O4 := Lib.hid o4
           have hs4 := g4.size
           have P4 : Hid (w4.heap[p]? = some (.cells #[.slice (some ⟨b, off, none⟩) n c, .map (some g), v] 47 (0, 0))) := by
             rw [Hid, g4.block p (by simp; omega) (fun e => by have := T1.out.block e.symm; omega), alloc_heap _ _ _ hp1]; exact P1.out
           have k7 : w4.cell? ⟨p, 2, none⟩ = some v := by rw [cell_of_row _ _ _ _ _ _ P4.out]; rfl
           have k8 : w4.frozen? ⟨p, 2, none⟩ = false := row_frozen P4.out 2))
      have hlen : (N ++ [((k : Int), x)]).length = N.length + 1 := by simp
      rw [hlen] at T4 O4
      obtain ⟨v4, hv4⟩ : ∃ v4, (Value.slice A4 (N.length + 1) c4) = v4 := ⟨_, rfl⟩
      obtain ⟨w5, hw5⟩ : ∃ w5, w4.setCell ⟨p, 2, none⟩ v4 = w5 := ⟨_, rfl⟩
      have HW5 : Hid (w4.setCell ⟨p, 2, none⟩ (.slice A4 (N.length + 1) c4) = w5) := by rw [Hid, hv4]; exact hw5
      rw [hv4] at T4 O4
      have hs4' : w1.heap.size + 1 ≤ w4.heap.size := by have := hs4; simp at this; omega
      have hi1 := I1.out.lt
      have C5 : Chg (fun j => j = p) w4 w5 := by rw [← hw5]; exact Chg.setCell _ _ _ rfl
      have hpo : ∀ j, v4.ownBlock = some j → j ≠ p := fun j hj e => by have := T4.out.block hj; omega
      have P5 : w5.heap[p]? = some (.cells #[.slice (some ⟨b, off, none⟩) n c, .map (some g), v4] 47 (0, 0)) := by
        rw [← hw5, setCell_row P4.out]; exact setRow_same P4.out
      have G4' : Chg (fun j => v.ownBlock = some j) (w1.alloc (.cells #[.int .i64 k, .int .i64 x] 52)) w4 := Chg.grown G4.out (fun j hj => hj)
      have M5 : IMap w5 g (N.length + 1) (fun y => if y = (k : Int) then some 1 else if y ∈ keys N then some 1 else none) := by
        refine I1.out.block ?_
        rw [C5.block g (by omega) (by omega), G4'.block g (by simp; omega) (fun e => by have := T1.out.block e; omega), alloc_heap _ _ _ hi1]
      have W5 : Words w5 B (.slice (some ⟨b, off, none⟩) n c) words := by
        refine W1.out.keep fun j hj hl => ?_
        rw [C5.block j (by omega) (by omega), G4'.block j (by simp; omega) (fun e => by have := T1.out.block e; omega), alloc_heap _ _ _ hl]
      have T5 : View.Told w5 (p + 1) (N ++ [((k : Int), x)]) v4 := T4.out.kept (fun j hj => C5.block j (T4.out.own_lt hj) (hpo j hj))
      have hs1 := C1.out.size
      have CC : Chg (fun k => k = p ∨ k = g ∨ v.ownBlock = some k) w w5 :=
        ((C1.out.trans (Chg.alloc _ _ _)).trans (G4'.mono (fun j _ h => .inr (.inr h)))).trans (C5.mono (fun j _ h => .inl h))
      have FIN := Lib.hid (fin.out w5 v4 W5 P5 M5 T5)
      have CC := Lib.hid CC
      have HS : Hid (∀ j, (j = p ∨ j = g ∨ v4.ownBlock = some j) → (j = p ∨ j = g ∨ v.ownBlock = some j) ∨ w.heap.size ≤ j) := by
        rintro j (h | h | h)
        · exact .inl (.inl h)
        · exact .inl (.inr (.inl h))
        · by_cases hl : w.heap.size ≤ j
          · exact .inr hl
          · refine .inl (.inr (.inr ?_))
            rcases O4.out with e | e
            · rw [← e]; exact h
            · rw [e] at h; injection h with h; simp at h; omega
      clear fin M5 W5 T5 P5 G4' C5 hpo
      go_wp2
      go_ret2
      rw [HW5.out]
      exact ⟨rfl, _, FIN.out, CC.out, HS.out⟩
  · have hf : fW words a = none := by unfold fW; rw [if_neg (by omega)]
    rw [hf]
    clear hW hp hm ht hnd hin
    go_enter Try.func18, Try.ntmps18
    go_wp2
    go_ret2
    exact ⟨rfl, _, HI.out, Chg.refl _ _, fun k hk => .inl hk⟩

/-- Do's answers -/
def askW (sw : Value) (words : List Int) (hwn : words.length ≤ 1000) (hwi : WIn words) (B p g : Nat) : Ask where
  B := B
  fn := 18
  first := #[.pointer (some ⟨p, 0, none⟩)]
  cap := #[]
  R := fun k => blk sw k ∧ k < B
  f := fW words
  I := fun qs S w => IW sw words B p g qs S w
  rlt := fun k h => h.2
  lt := fun qs S w h => h.lt
  keep := fun qs S w T w' h hc hT hR => h.keep hc hT hR
  run := callFunc_run Try.func18 (by kernel_rfl) (by kernel_rfl)
  rng := fun a x h => by
    unfold fW at h
    split at h
    · injection h with h; subst h; exact wordsD_in hwi _
    · cases h
  ask := fun qs S w a h h0 ha => ask_plain hwn hwi h h0 ha

end View
end Go.Proofs.Ytfmjcinhjbihoab
